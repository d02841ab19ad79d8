/- Texts KDS, KDC, KQ4, KQ5, KQ6, KR, KS, KT, KT2, KT3, KT4, KT5, KT6, KIN, KSO: own work; each part says what it is. -/
import Derived.Test.YtopinlndbbikdaaGreatDoorCb2
import Derived.RangeFuncRecord
import Derived.RangeFuncIn
namespace Go.KX
open Go Go.RowKit
noncomputable section
section
variable {E : Env} {R : Type} {r : R} {b : Base} {o : Oper} {s : Map E.G.car}
variable {d : Nat} {type : TypeId} {pos : String} {after : Array Edge} {guard : Option (Nat × Bool)}
theorem nthH_spec {α : Type} : ∀ {n : Nat} {l : List α} {a c : List α} {y : α}, nthH n l = some (a, y, c) → l = a ++ y :: c := by
 intro n
 induction n with
 | zero =>
  intro l a c y h
  cases l with
  | nil => simp [nthH] at h
  | cons x l => simp only [nthH, Option.some.injEq, Prod.mk.injEq] at h; obtain ⟨rfl, rfl, rfl⟩ := h; rfl
 | succ n ih =>
  intro l a c y h
  cases l with
  | nil => simp [nthH] at h
  | cons x l =>
   simp only [nthH] at h
   split at h
   ·rename_i a' y' b' e
    simp only [Option.some.injEq, Prod.mk.injEq] at h
    obtain ⟨rfl, rfl, rfl⟩ := h
    rw [ih e]; rfl
   ·cases h
theorem apartK_so {i : Int} {j : Nat} : ∀ {hs : List (Int × Nat × Nat)} {x : Option R}, 0 ≤ i → apartK i j hs x = some r → x = some r ∧ ∀ p ∈ hs, ¬ (p.1.toNat = i.toNat ∧ p.2.1 = j) := by
 intro hs
 induction hs with
 | nil => intro x _ h; exact ⟨h, fun p hp => nomatch hp⟩
 | cons q hs ih =>
  intro x h0 h
  obtain ⟨i', j', a⟩ := q
  simp only [apartK] at h
  cases e : Nat.beq j' j with
  | true =>
   rw [e] at h
   obtain ⟨h1, h2⟩ := chk_so h
   obtain ⟨h3, h4⟩ := ih h0 h2
   refine ⟨h3, fun p hp => ?_⟩
   rcases List.mem_cons.1 hp with rfl | hp
   ·rintro ⟨h5, _⟩; exact h1.2 (by have := h1.1; simp only at h5; omega)
   ·exact h4 p hp
  | false =>
   rw [e] at h
   obtain ⟨h3, h4⟩ := ih h0 h
   refine ⟨h3, fun p hp => ?_⟩
   rcases List.mem_cons.1 hp with rfl | hp
   ·rintro ⟨_, h5⟩; simp only at h5; subst h5; rw [Nat.beq_refl] at e; cases e
   ·exact h4 p hp
theorem holeAt_here {i j a : Nat} {idx : Int} {h1 h2 : List (Int × Nat × Nat)} {n : Nat} (h : HolesOK n (h1 ++ (idx, j, a) :: h2)) (hi : idx.toNat = i) : holeAt i j (h1 ++ (idx, j, a) :: h2) = some a := by
 obtain ⟨_, hp, _⟩ := pairwise_mid h.ne
 rw [holeAt_append, holeAt_none (fun p hp' => by have := hp p hp'; rw [← hi]; exact this)]
 simp [holeAt, hi]
theorem op_dpIx {ty L sz n : Nat} {x y : Operand} {u : SV} {k : IntKind} {i : Int} (hN : d < b.N) (hx : Ev E s x (.h L)) (hy : Ev E s y u) (hu : ∀ m, den m u = .int k i)
  (hn : s (.x L) = some (.ln n)) (h : sliceSz E.P ty = some sz) (h0 : 0 ≤ i ∧ i < (n : Int)) :
  OpRun (cxOf E b) ⟨some d, .indexAddr ty x y, type, pos, after, guard⟩ s ⟨.x L :: (okeys x ++ okeys y), [(.t d, some (.x (.e L i sz 0)))], []⟩ :=
 op_pure rfl hN (by simp) fun m A a w g hr hrel => by
  have e1 := (hx.eval hrel (fun k hk => hr k (by simp [hk]))).1
  have e2 := (hy.eval hrel (fun k hk => hr k (by simp [hk]))).1
  rw [hu] at e2
  have hat : (m L).n = n ∧ (n ≠ 0 → (m L).p = some ⟨(m L).b, 0, none⟩) := hrel.ent _ _ ((hr (.x L) (by simp)).trans hn)
  have hp := hat.2 (by omega)
  have h1 : i < ((m L).n : Int) := by rw [hat.1]; exact h0.2
  refine ⟨⟨h0.1, h1⟩, ?_⟩
  simp [execOp, e1, e2, den, hp, run_indexAt h h0.1 h1, elemAddr]
theorem op_dpIx2 {ty L sz ety t S : Nat} {es : List (Option Nat)} {l : List (E.G.car t)} {hs : List (Int × Nat × Nat)} {x y : Operand} {u : SV} {k : IntKind} {i : Int} (hN : d < b.N) (hx : Ev E s x (.h L)) (hy : Ev E s y u) (hu : ∀ m, den m u = .int k i)
  (hn : s (.o L) = some (.dp ety t es l hs S)) (h : sliceSz E.P ty = some sz) (h0 : 0 ≤ i ∧ i < (l.length : Int)) :
  OpRun (cxOf E b) ⟨some d, .indexAddr ty x y, type, pos, after, guard⟩ s ⟨.o L :: (okeys x ++ okeys y), [(.t d, some (.x (.e L i sz 0)))], []⟩ :=
 op_pure rfl hN (by simp) fun m A a w g hr hrel => by
  have e1 := (hx.eval hrel (fun k hk => hr k (by simp [hk]))).1
  have e2 := (hy.eval hrel (fun k hk => hr k (by simp [hk]))).1
  rw [hu] at e2
  obtain ⟨⟨hn1, hn2⟩, _⟩ := hrel.ent _ _ ((hr (.o L) (by simp)).trans hn)
  have hp : (m L).p = some ⟨(m L).b, 0, none⟩ := by
   rcases hn2 with ⟨_, hl, _⟩ | ⟨_, hp, _⟩
   ·subst hl; simp at h0; omega
   ·exact hp
  have h1 : i < ((m L).n : Int) := by rw [hn1]; exact h0.2
  refine ⟨⟨h0.1, h1⟩, ?_⟩
  simp [execOp, e1, e2, den, hp, run_indexAt h h0.1 h1, elemAddr]
theorem op_dpHole {ty L t ety S j a : Nat} {x : Operand} {i i0 : Int} {es : List (Option Nat)} {l : List (E.G.car t)} {hs h1 h2 : List (Int × Nat × Nat)} (hN : d < b.N) (hx : Ev E s x (.e L i (E.G.sz t) j))
  (hL : s (.o L) = some (.dp ety t es l hs S)) (hsh : shapeOf E.P ty = some none) (hh : hs = h1 ++ (i0, j, a) :: h2) (hi : i = i0) (hj : j < E.G.sz t) :
  OpRun (cxOf E b) ⟨some d, .load ty x, type, pos, after, guard⟩ s ⟨.o L :: okeys x, [(.t d, some (.x (.h a)))], []⟩ :=
 op_pure rfl hN (by simp) fun m A ac w g hr hrel => by
  obtain ⟨e1, k1⟩ := hx.eval hrel (fun k hk => hr k (by simp [hk]))
  obtain ⟨⟨hlen, hrow⟩, _, hho⟩ := hrel.ent _ _ ((hr (.o L) (by simp)).trans hL)
  obtain ⟨k2, k3⟩ := k1
  rw [hlen] at k3
  subst hi
  rcases hrow with ⟨_, hl, _⟩ | ⟨_, hp, cur, hc, hsz, hle, hin⟩
  ·subst hl; simp at k3; omega
  ·have hx1 : l[i.toNat]? = some (l.getD i.toNat (E.G.dft t)) := getD_some k2 k3
   obtain ⟨cv, hcv⟩ : ∃ cv, (E.G.enc t (l.getD i.toNat (E.G.dft t)))[j]? = some cv := ⟨_, List.getElem?_eq_getElem (by rw [E.G.hsz]; exact hj)⟩
   obtain ⟨u, hu, hsub⟩ := hin _ _ hx1 j cv hcv
   rw [hh] at hsub hho
   rw [holeAt_here hho rfl] at hsub
   obtain ⟨h3, _⟩ := hsub
   subst h3
   refine ⟨trivial, ?_⟩
   have hcell : w.cell? ⟨(m L).b, i.toNat * E.G.sz t + j, none⟩ = some (den m (.h a)) := by
    simp only [World.cell?, hc]
    simpa using hu
   have h9 := run_load_one hsh hcell
   simp only [den] at h9
   simp [execOp, e1, den, hp, elemAddr, Instr.loadAt, Instr.sureAddr, h9]
theorem op_rbLoad {ty L o' : Nat} {x : Operand} {cs : List SV} {y : SV} (hN : d < b.N) (hx : Ev E s x (.p L o')) (hL : s (.x L) = some (.rb cs)) (hsh : shapeOf E.P ty = some none) (hy : cs[o']? = some y) :
  OpRun (cxOf E b) ⟨some d, .load ty x, type, pos, after, guard⟩ s ⟨.x L :: okeys x, [(.t d, some (.x y))], []⟩ :=
 op_pure rfl hN (by simp) fun m A ac w g hr hrel => by
  obtain ⟨e1, _⟩ := hx.eval hrel (fun k hk => hr k (by simp [hk]))
  obtain ⟨_, h2, h3⟩ := hrel.ent _ _ ((hr (.x L) (by simp)).trans hL)
  refine ⟨okL_iff.1 h2 y (List.mem_of_getElem? hy), ?_⟩
  have h9 := run_load_one hsh (h3 o' y hy)
  simp [execOp, e1, den, Instr.loadAt, Instr.sureAddr, h9]
theorem op_dpOpen {ty L t ety S j N S' e' t' : Nat} {x : Operand} {i : Int} {es : List (Option Nat)} {l : List (E.G.car t)} {hs : List (Int × Nat × Nat)} {q : List (E.G.car t')} {nw : List Nat} (hN : d < b.N) (hx : Ev E s x (.e L i (E.G.sz t) j))
  (hL : s (.o L) = some (.dp ety t es l hs S)) (hsh : shapeOf E.P ty = some none) (hcv : (E.G.enc t (l.getD i.toNat (E.G.dft t)))[j]? = some (.sl t' q)) (he : es.getD j none = some e') (hno : 0 ≤ i → ∀ p ∈ hs, ¬ (p.1.toNat = i.toNat ∧ p.2.1 = j)) (hnN : N ∈ nw) (hnS : S' ∈ nw) (hNS : N ≠ S') :
  OpRun (cxOf E b) ⟨some d, .load ty x, type, pos, after, guard⟩ s ⟨.o L :: okeys x, (.t d, some (.x (.h N))) :: [(.o N, some (.row e' t' q)), (.o L, some (.dp ety t es l ((i, j, N) :: hs) S'))], nw⟩ :=
 op_gen rfl hN (fun _ h => by cases h) fun m A ac w g hr hf hrel => by
  obtain ⟨e1, k1⟩ := hx.eval hrel (fun k hk => hr k (by simp [hk]))
  have hgL := (hr (.o L) (by simp)).trans hL
  obtain ⟨⟨hlen, hrow⟩, _, hho⟩ := hrel.ent _ _ hgL
  obtain ⟨k2, k3⟩ := k1
  rw [hlen] at k3
  have hx1 : l[i.toNat]? = some (l.getD i.toNat (E.G.dft t)) := getD_some k2 k3
  obtain ⟨m', h1, h2, cur, h3, h4, h5⟩ := hrel.openRow hgL hx1 k2 hcv (hno k2) he (hf N hnN) (hf S' hnS) hNS
  refine ⟨m', A, w, ?_, trivial, h1⟩
  have hcell : w.cell? ⟨(m L).b, i.toNat * E.G.sz t + j, none⟩ = some (den m' (.h N)) := by
   simp only [World.cell?, h3]
   simpa using h5
  have h9 := run_load_one hsh hcell
  simp only [den] at h9
  simp [execOp, e1, den, h4, elemAddr, Instr.loadAt, Instr.sureAddr, h9]
theorem op_dpStore {ty L t ety S j a N S' e' t' : Nat} {x y : Operand} {i i0 : Int} {es : List (Option Nat)} {l : List (E.G.car t)} {hs h1 h2 : List (Int × Nat × Nat)} {x' : E.G.car t} {q : List (E.G.car t')} {nw : List Nat} (hx : Ev E s x (.e L i (E.G.sz t) j)) (hy : Ev E s y (.h N))
  (hL : s (.o L) = some (.dp ety t es l hs S)) (hgN : s (.o N) = some (.row e' t' q)) (hsz : sizeIn E.P ty = some 1) (hh : hs = h1 ++ (i0, j, a) :: h2) (hi : i = i0) (hj : j < E.G.sz t) (he : es.getD j none = some e') (hfl : E.G.flat t' = true)
  (hdec : E.G.dec t (putAt j [CV.sl t' q] (E.G.enc t (l.getD i0.toNat (E.G.dft t)))) = some x') (hnS : S' ∈ nw) :
  OpRun (cxOf E b) ⟨none, .store ty x y, type, pos, after, guard⟩ s ⟨.o L :: .o N :: (okeys x ++ okeys y), [(.o N, none), (.o L, some (.dp ety t es (l.set i0.toNat x') (h1 ++ h2) S'))], nw⟩ := by
 intro m A ac w g hr hf hrel K Q hK
 obtain ⟨e1, k1⟩ := hx.eval hrel (fun k hk => hr k (reads_mem (by simp [hk])))
 obtain ⟨e2, _⟩ := hy.eval hrel (fun k hk => hr k (reads_mem (by simp [hk])))
 have hgL : g (.o L) = some (.dp ety t es l hs S) := (hr (.o L) (reads_mem (by simp))).trans hL
 have hgN' : g (.o N) = some (.row e' t' q) := (hr (.o N) (reads_mem (by simp))).trans hgN
 have hS : Free (cxOf E b) S' g := hf S' hnS
 have hNS : N ≠ S' := fun e => by subst e; rw [free_none hS (by simp [keyHas])] at hgN'; cases hgN'
 obtain ⟨⟨hlen, _⟩, _, hho⟩ := hrel.ent _ _ hgL
 obtain ⟨k2, k3⟩ := k1
 rw [hlen] at k3
 subst hi
 have hx1 : l[i.toNat]? = some (l.getD i.toNat (E.G.dft t)) := getD_some k2 k3
 rw [hh] at hgL
 obtain ⟨w', hp, hrun, hrel'⟩ := hrel.writeRow (N := N) hgL hx1 hj
 have hLN : L ≠ N := fun e => by subst e; rw [hgL] at hgN'; cases hgN'
 have hm0 : ∀ l', mentions l' (.o L) (some (Val.dp ety t es l (h1 ++ (i, j, a) :: h2) S)) = true → l' ≠ S' := free_ne hS hgL
 have hS' : Free (cxOf E b) S' (upd [(.o L, some (.dp ety t es l (h1 ++ (i, j, N) :: h2) S))] g) := hS.upd (by
  cases e : mentionsIn S' [((.o L : Key), some (Val.dp (car := E.G.car) ety t es l (h1 ++ (i, j, N) :: h2) S))] with
  | false => rfl
  | true =>
   simp only [mentionsIn, mentions, valHas, keyHas, Bool.or_false, Bool.or_eq_true, List.any_eq_true] at e
   rcases e with (e | ⟨p, hp', e⟩) | e
   rotate_left 2
   ·exact absurd (Nat.eq_of_beq_eq_true e) (hm0 L (by simp [mentions, keyHas]))
   ·exact absurd (Nat.eq_of_beq_eq_true e) (hm0 S (by simp [mentions, valHas]))
   ·have e := Nat.eq_of_beq_eq_true e
    rcases List.mem_append.1 hp' with hp' | hp'
    ·exact absurd e (hm0 p.2.2 (by simp only [mentions, valHas, Bool.or_eq_true, List.any_eq_true]; exact .inl (.inr ⟨p, List.mem_append.2 (.inl hp'), by simp⟩)))
    ·rcases List.mem_cons.1 hp' with rfl | hp'
     ·exact absurd e hNS
     ·exact absurd e (hm0 p.2.2 (by simp only [mentions, valHas, Bool.or_eq_true, List.any_eq_true]; exact .inl (.inr ⟨p, List.mem_append.2 (.inr (List.mem_cons_of_mem _ hp')), by simp⟩))))
 obtain ⟨m', hrel2, _⟩ := hrel'.closeRow (S' := S') (x' := x') (q := q) (by rw [upd_one, if_pos rfl]) (by rw [upd_one, if_neg (by simp [hLN]), hgN']) hx1 hj (E.G.hdec _ _ _ hdec) he hfl hS'
 refine ⟨fun _ _ => trivial, ?_⟩
 rw [semAt_of _ _ (by simp)]
 have hrun' : (execOp ac.eval ⟨none, .store ty x y, type, pos, after, guard⟩).run E.P w = .ok .skip w' := by
  unfold sizeIn at hsz
  cases hi : E.P.info? ty with
  | none => rw [hi] at hsz; cases hsz
  | some inf =>
   rw [hi] at hsz
   simp only [Option.map_some, Option.some.injEq] at hsz
   simp only [den] at hrun
   simp [execOp, e1, e2, den, hp, elemAddr, Instr.storeAt, Instr.sureAddr, storeVar, sizeOf, typeInfo, hi, hsz, Value.cells, hrun]
 rw [hrun']
 refine hK m' A ac w' (hrel2.congr fun k => ?_)
 simp only [closeU]
 rw [upd_two hLN, upd_two hLN, upd_one]
 by_cases e3 : k = .o N
 ·simp [e3]
 ·by_cases e4 : k = .o L
  ·simp [e4]
  ·simp [e3, e4, Ne.symm e4]
theorem mapSL_spec {P : Program} {ty el : TypeId} (h : mapSL P ty = some el) : ∀ k e, P.underlying ty = some (.map k e) → ∀ w, (zeroValue e).run P w = .ok (.slice none 0 0) w := by
 intro k e hu w
 unfold mapSL at h
 rw [hu] at h
 simp only at h
 split at h
 ·rename_i h1 h2
  cases hi : P.info? e with
  | none => rw [hi] at h2; cases h2
  | some inf =>
   rw [hi] at h2
   simp only [Option.bind_some] at h2
   simp [zeroValue, typeInfo, hi, h2]
 ·cases h
theorem keyK_sound {c : EC E} {ty : TypeId} {kt : Nat} {v : SV} {K : E.G.car kt → Option R} (h : keyK c ty kt v K = some r) : ∃ x, K x = some r ∧ (ty, kt) ∈ E.keys ∧ ∀ m, KeyIs E.G kt x (den m v) := by
 unfold keyK at h
 split at h
 ·rename_i vs
  obtain ⟨h1, h2⟩ := bif_some h
  clear h
  split at h2
  ·rename_i us hus
   split at h2
   ·rename_i x hx
    refine ⟨x, h2, ?_, fun m => ⟨us, E.G.hdec _ _ _ hx, by simp only [den, plainL_den hus]⟩⟩
    obtain ⟨q, hq, hq2⟩ := List.any_eq_true.1 h1
    simp only [Bool.and_eq_true] at hq2
    have e1 := Nat.eq_of_beq_eq_true hq2.1
    have e2 := Nat.eq_of_beq_eq_true hq2.2
    rw [← e1, ← e2]
    exact hq
   ·cases h2
  ·cases h2
 ·cases h
theorem free_swap {cx : Cx} {g : CMap cx} {S' L N : Nat} {v0 v1 : Val cx.G.car} (hf : Free cx S' g) (hg : g (.o L) = some v0) (hN : N ≠ S') (hv : ∀ l, valHas l v1 = true → valHas l v0 = true ∨ l = N) : Free cx S' (upd [(.o L, some v1)] g) :=
 hf.upd (by
  have hm0 := free_ne hf hg
  simp only [mentionsIn, mentions, Bool.or_false, Bool.or_eq_false_iff]
  constructor
  ·cases e : valHas S' v1 with
   | false => rfl
   | true =>
    rcases hv S' e with e | e
    ·exact absurd rfl (hm0 S' (by simp [mentions, e]))
    ·exact absurd e.symm hN
  ·cases e : keyHas S' (.o L) with
   | false => rfl
   | true => exact absurd rfl (hm0 S' (by simp [mentions, e])))
theorem swap_dm {car : Nat → Type} {kt t e S N N0 : Nat} {l l' : List (car kt × List (car t))} {h1 h2 zs : List (car kt × Nat)} {x y : car kt} : ∀ z, valHas z (Val.dm kt t e l' (h1 ++ (x, N) :: h2) zs S) = true → valHas z (Val.dm kt t e l (h1 ++ (y, N0) :: h2) zs S) = true ∨ z = N := by
 intro z h
 simp only [valHas, Bool.or_eq_true, List.any_eq_true] at h ⊢
 rcases h with (h | ⟨p, hp, h⟩) | h
 ·exact .inl (.inl (.inl h))
 ·rcases List.mem_append.1 hp with hp | hp
  ·exact .inl (.inl (.inr ⟨p, List.mem_append.2 (.inl hp), h⟩))
  ·rcases List.mem_cons.1 hp with rfl | hp
   ·exact .inr (Nat.eq_of_beq_eq_true h).symm
   ·exact .inl (.inl (.inr ⟨p, List.mem_append.2 (.inr (List.mem_cons_of_mem _ hp)), h⟩))
 ·exact .inl (.inr h)
theorem dm_lookup {cx : Cx} {m : Nat → MV} {A : Nat → Prop} {g : CMap cx} {a : Act} {w : World} {L ty kt t e S : Nat} {l : List (cx.G.car kt × List (cx.G.car t))} {hs zs : List (cx.G.car kt × Nat)} {x : cx.G.car kt} {vx : Value} (h : Rel cx m A g a w) (hk : KeyOK cx.P cx.G ty kt)
  (hL : g (.o L) = some (.dm kt t e l hs zs S)) (hx : KeyIs cx.G kt x vx) (hzero : ∀ k el, cx.P.underlying ty = some (.map k el) → ∀ w, (zeroValue el).run cx.P w = .ok (.slice none 0 0) w) :
  ∃ (es : Array MapEntry) (cl : Nat), w.heap[(m L).b]? = some (.map es cl) ∧ DmIn cx.G A w m (m S).sub es kt t e l hs zs cl ∧ ((∃ (i : Nat) (p : cx.G.car kt × List (cx.G.car t)) (en : MapEntry), l[i]? = some p ∧ p.1 = x ∧ es[i]? = some en ∧ (Instr.lookup ty (.map (some (m L).b)) vx false).run cx.P w = .ok en.val w) ∨
   (x ∉ l.map (·.1) ∧ (Instr.lookup ty (.map (some (m L).b)) vx false).run cx.P w = .ok (.slice none 0 0) w)) := by
 obtain ⟨es, cl, hh, hdm, h3⟩ := h.ent _ _ hL
 obtain ⟨k, el, hty, hcheck, hf⟩ := dm_find (w := w) hk hdm hx
 refine ⟨es, cl, hh, hdm, ?_⟩
 rcases hf with ⟨i, p, en, hp, hpx, hes, h7, h8, hkst⟩ | ⟨h5, h6⟩
 ·refine .inl ⟨i, p, en, hp, hpx, hes, ?_⟩
  simp [Instr.lookup, run_underlying hty, MapKept.run_getObj_map hh, hcheck, h8, Result.andThen]
 ·refine .inr ⟨h5, ?_⟩
  simp [Instr.lookup, run_underlying hty, MapKept.run_getObj_map hh, hcheck, h6, Result.andThen, hzero k el hty]
theorem holeK_here {G : Reg} {kt a : Nat} {x : G.car kt} {h1 h2 : List (G.car kt × Nat)} (h : ((h1 ++ (x, a) :: h2).map (·.1)).Nodup) : holeK x (h1 ++ (x, a) :: h2) = some a := by
 rw [List.map_append, List.map_cons] at h
 obtain ⟨_, hnot⟩ := nodup_mid h
 rw [holeK_append, holeK_none (fun p hp e => hnot (List.mem_append.2 (.inl (List.mem_map.2 ⟨p, hp, e⟩)))), holeK_cons, if_pos rfl]
theorem op_dmHole {ty L kt t e S a : Nat} {x y : Operand} {u : SV} {κ : E.G.car kt} {l : List (E.G.car kt × List (E.G.car t))} {hs h1 h2 zs : List (E.G.car kt × Nat)} (hN : d < b.N) (hk : KeyOK E.P E.G ty kt) (hz : ∀ k el, E.P.underlying ty = some (.map k el) → ∀ w, (zeroValue el).run E.P w = .ok (.slice none 0 0) w) (hx : Ev E s x (.m L)) (hy : Ev E s y u) (hu : ∀ m, KeyIs E.G kt κ (den m u))
  (hL : s (.o L) = some (.dm kt t e l hs zs S)) (hh : hs = h1 ++ (κ, a) :: h2) :
  OpRun (cxOf E b) ⟨some d, .lookup ty x y false, type, pos, after, guard⟩ s ⟨.o L :: (okeys x ++ okeys y), [(.t d, some (.x (.h a)))], []⟩ :=
 op_pure rfl hN (by simp) fun m A ac w g hr hrel => by
  have e1 := (hx.eval hrel (fun k hk => hr k (by simp [hk]))).1
  have e2 := (hy.eval hrel (fun k hk => hr k (by simp [hk]))).1
  have hgL : g (.o L) = some (.dm kt t e l hs zs S) := (hr (.o L) (by simp)).trans hL
  obtain ⟨es, cl, h3, hdm, h4⟩ := dm_lookup hrel hk hgL (hu m) hz
  refine ⟨trivial, ?_⟩
  rw [hh] at hdm
  rcases h4 with ⟨i, p, en, hp, hpx, hes, hrun⟩ | ⟨h5, hrun⟩
  ·obtain ⟨en', h6, _, h7⟩ := hdm.ent i p hp
   rw [hes] at h6; cases h6
   rw [hpx, holeK_here hdm.holes] at h7
   have h8 : en.val = den m (.h a) := h7.1
   rw [h8] at hrun
   simp only [den] at hrun
   simp [execOp, e1, e2, den, hrun]
  ·have h8 := hdm.nil (κ, a) (by simp) h5
   simp only [den] at h8
   simp [execOp, e1, e2, den, hrun, h8]
theorem op_dmOpen {ty L kt t e S N S' : Nat} {x y : Operand} {u : SV} {κ : E.G.car kt} {l : List (E.G.car kt × List (E.G.car t))} {hs zs : List (E.G.car kt × Nat)} {nw : List Nat} (hN : d < b.N) (hk : KeyOK E.P E.G ty kt) (hz : ∀ k el, E.P.underlying ty = some (.map k el) → ∀ w, (zeroValue el).run E.P w = .ok (.slice none 0 0) w) (hx : Ev E s x (.m L)) (hy : Ev E s y u) (hu : ∀ m, KeyIs E.G kt κ (den m u))
  (hL : s (.o L) = some (.dm kt t e l hs zs S)) (hno : ∀ p ∈ hs, p.1 ≠ κ) (hnN : N ∈ nw) (hnS : S' ∈ nw) (hNS : N ≠ S') :
  OpRun (cxOf E b) ⟨some d, .lookup ty x y false, type, pos, after, guard⟩ s ⟨.o L :: (okeys x ++ okeys y), (.t d, some (.x (.h N))) :: [(.o N, some (.row e t (@getK _ _ (E.G.deq kt) l κ))), (.o L, some (.dm kt t e l ((κ, N) :: hs) zs S'))], nw⟩ :=
 op_gen rfl hN (fun _ h => by cases h) fun m A ac w g hr hf hrel => by
  have e1 := (hx.eval hrel (fun k hk => hr k (by simp [hk]))).1
  have e2 := (hy.eval hrel (fun k hk => hr k (by simp [hk]))).1
  have hgL : g (.o L) = some (.dm kt t e l hs zs S) := (hr (.o L) (by simp)).trans hL
  obtain ⟨es, cl, h3, hdm, h4⟩ := dm_lookup hrel hk hgL (hu m) hz
  obtain ⟨m', h5, h6, es', cl', h7, h8, h9, h10⟩ := hrel.openMap hgL hno (hf N hnN) (hf S' hnS) hNS
  rw [h3] at h7
  cases h7
  refine ⟨m', A, w, ?_, trivial, h5⟩
  rcases h4 with ⟨i, p, en, hp, hpx, hes, hrun⟩ | ⟨h5, hrun⟩
  ·obtain ⟨en', g6, _, g7⟩ := h9 i p hp
   rw [hes] at g6; cases g6
   have g8 : en.val = den m' (.h N) := g7 hpx
   rw [g8] at hrun
   simp only [den] at hrun
   simp [execOp, e1, e2, den, hrun]
  ·have g8 := h10 h5
   simp only [den] at g8
   simp [execOp, e1, e2, den, hrun, g8]
theorem op_dmSet {ty L kt t e S a N S' : Nat} {x y z : Operand} {u : SV} {κ : E.G.car kt} {l : List (E.G.car kt × List (E.G.car t))} {hs h1 h2 zs : List (E.G.car kt × Nat)} {q : List (E.G.car t)} {nw : List Nat} (hk : KeyOK E.P E.G ty kt) (hx : Ev E s x (.m L)) (hy : Ev E s y u) (hu : ∀ m, KeyIs E.G kt κ (den m u)) (hz : Ev E s z (.h N))
  (hL : s (.o L) = some (.dm kt t e l hs zs S)) (hgN : s (.o N) = some (.row e t q)) (hh : hs = h1 ++ (κ, a) :: h2) (hfl : E.G.flat t = true) (hnS : S' ∈ nw) :
  OpRun (cxOf E b) ⟨none, .mapUpdate ty x y z, type, pos, after, guard⟩ s ⟨.o L :: .o N :: (okeys x ++ (okeys y ++ okeys z)), [(.o N, none), (.o L, some (.dm kt t e (@setK _ _ (E.G.deq kt) l κ q) (h1 ++ h2) zs S'))], nw⟩ := by
 intro m A ac w g hr hf hrel K Q hK
 have e1 := (hx.eval hrel (fun k hk => hr k (reads_mem (by simp [hk])))).1
 have e2 := (hy.eval hrel (fun k hk => hr k (reads_mem (by simp [hk])))).1
 have e3 := (hz.eval hrel (fun k hk => hr k (reads_mem (by simp [hk])))).1
 have hgL : g (.o L) = some (.dm kt t e l hs zs S) := (hr (.o L) (reads_mem (by simp))).trans hL
 have hgN' : g (.o N) = some (.row e t q) := (hr (.o N) (reads_mem (by simp))).trans hgN
 have hS : Free (cxOf E b) S' g := hf S' hnS
 have hNS : N ≠ S' := fun e => by subst e; rw [free_none hS (by simp [keyHas])] at hgN'; cases hgN'
 have hLN : L ≠ N := fun e => by subst e; rw [hgL] at hgN'; cases hgN'
 rw [hh] at hgL
 obtain ⟨w', hrun, hrel'⟩ := hrel.writeMap (N := N) hk hgL (hu m)
 have hS' := free_swap (N := N) hS hgL hNS (swap_dm (l' := @insK _ _ (E.G.deq kt) l κ) (x := κ))
 obtain ⟨m', hrel2, _⟩ := hrel'.closeMap (S' := S') (q := q) (by rw [upd_one, if_pos rfl]) (by rw [upd_one, if_neg (by simp [hLN]), hgN']) hfl hS'
 refine ⟨fun _ _ => trivial, ?_⟩
 rw [semAt_of _ _ (by simp)]
 have hrun' : (execOp ac.eval ⟨none, .mapUpdate ty x y z, type, pos, after, guard⟩).run E.P w = .ok .skip w' := by
  simp only [den] at hrun
  simp [execOp, e1, e2, e3, den, hrun]
 rw [hrun']
 refine hK m' A ac w' (hrel2.congr fun k => ?_)
 simp only [closeMU, updK_insK]
 rw [upd_two hLN, upd_two hLN, upd_one]
 by_cases e3 : k = .o N
 ·simp [e3]
 ·by_cases e4 : k = .o L
  ·simp [e4]
  ·simp [e3, e4, Ne.symm e4]
theorem op_dmEntry {ty L kt t e S N S' Z : Nat} {x y : Operand} {u : SV} {κ : E.G.car kt} {l : List (E.G.car kt × List (E.G.car t))} {zs : List (E.G.car kt × Nat)} {nw : List Nat} (hN : d < b.N) (hk : KeyOK E.P E.G ty kt) (hz : ∀ k el, E.P.underlying ty = some (.map k el) → ∀ w, (zeroValue el).run E.P w = .ok (.slice none 0 0) w) (hx : Ev E s x (.m L)) (hy : Ev E s y u) (hu : ∀ m, KeyIs E.G kt κ (den m u))
  (hL : s (.o L) = some (.dm kt t e l [] zs S)) (hnN : N ∈ nw) (hnS : S' ∈ nw) (hnZ : Z ∈ nw) (hNS : N ≠ S') (hNZ : N ≠ Z) (hSZ : S' ≠ Z) :
  OpRun (cxOf E b) ⟨some d, .mapEntry ty x y, type, pos, after, guard⟩ s ⟨.o L :: (okeys x ++ okeys y), (.t d, some (.x (.t [.h N, .z Z]))) :: [(.o N, some (.row e t (@getK _ _ (E.G.deq kt) l κ))), (.o L, some (.dm kt t e (@insK _ _ (E.G.deq kt) l κ) [(κ, N)] ((κ, Z) :: zs) S'))], nw⟩ :=
 op_gen rfl hN (fun _ h => by cases h) fun m A ac w g hr hf hrel => by
  have e1 := (hx.eval hrel (fun k hk => hr k (by simp [hk]))).1
  have e2 := (hy.eval hrel (fun k hk => hr k (by simp [hk]))).1
  have hgL : g (.o L) = some (.dm kt t e l [] zs S) := (hr (.o L) (by simp)).trans hL
  have hLN : L ≠ N := fun e => by subst e; rw [free_none (hf L hnN) (by simp [keyHas])] at hgL; cases hgL
  have hLZ : L ≠ Z := fun e => by subst e; rw [free_none (hf L hnZ) (by simp [keyHas])] at hgL; cases hgL
  obtain ⟨m1, hrel1, hm1, _⟩ := hrel.openMap hgL (x := κ) (fun p hp => nomatch hp) (hf N hnN) (hf S' hnS) hNS
  have hgL1 : upd (openMU L N S' kt t e l [] zs κ (@getK _ _ (E.G.deq kt) l κ)) g (.o L) = some (.dm kt t e l ([] ++ (κ, N) :: []) zs S') := by
   simp only [openMU, List.nil_append]
   rw [upd_two hLN, if_neg (by simp [hLN]), if_pos rfl]
  have hZ0 := hf Z hnZ
  have hZm := free_ne hZ0 hgL
  have hZ1 : Free (cxOf E b) Z (upd (openMU L N S' kt t e l [] zs κ (@getK _ _ (E.G.deq kt) l κ)) g) := hZ0.upd (by
   cases e0 : mentionsIn Z (openMU (car := E.G.car) L N S' kt t e l [] zs κ (@getK _ _ (E.G.deq kt) l κ)) with
   | false => rfl
   | true =>
    simp only [openMU, mentionsIn, mentions, valHas, keyHas, Bool.or_false, Bool.false_or, Bool.or_eq_true, List.any_eq_true] at e0
    rcases e0 with e0 | (((e0 | ⟨p, hp, e0⟩) | ⟨p, hp, e0⟩) | e0)
    ·exact absurd (Nat.eq_of_beq_eq_true e0) hNZ
    ·exact absurd (Nat.eq_of_beq_eq_true e0) hSZ
    ·rw [List.mem_singleton.1 hp] at e0
     exact absurd (Nat.eq_of_beq_eq_true e0) hNZ
    ·exact absurd (Nat.eq_of_beq_eq_true e0) (hZm p.2 (by simp only [mentions, valHas, Bool.or_eq_true, List.any_eq_true]; exact .inl (.inr ⟨p, hp, by simp⟩)))
    ·exact absurd (Nat.eq_of_beq_eq_true e0) hLZ)
  obtain ⟨w', m', hrun, hrel2, hm2⟩ := hrel1.entryMap (Z := Z) hk hgL1 (hu m1) hZ1 hNZ hz
  refine ⟨m', A, w', ?_, ⟨trivial, trivial, trivial⟩, hrel2.congr fun k => ?_⟩
  ·have h1 : den m1 u = den m u := by
    obtain ⟨us, _, h5⟩ := hu m1
    obtain ⟨us', _, h6⟩ := hu m
    rename_i h7 h8
    rw [h5, h6]
    have := mapV_inj (h7.symm.trans h8)
    rw [this]
   have h2 : m1 L = m L := hm1 L hLN (fun e => by subst e; rw [free_none (hf L hnS) (by simp [keyHas])] at hgL; cases hgL)
   rw [h1, h2] at hrun
   have h3 : m' N = m1 N := hm2 N hNZ
   simp only [den] at hrun
   simp [execOp, e1, e2, den, denL, hrun, h3]
  ·simp only [openMU, List.nil_append]
   rw [upd_one, upd_two hLN, upd_two hLN]
   by_cases e3 : k = .o L
   ·subst e3; simp [hLN]
   ·simp [e3, Ne.symm e3]
theorem Rel.dropStamps {cx : Cx} {m : Nat → MV} {A : Nat → Prop} {g : CMap cx} {a : Act} {w : World} {L kt t e S : Nat} {l : List (cx.G.car kt × List (cx.G.car t))} {hs zs : List (cx.G.car kt × Nat)} (h : Rel cx m A g a w) (hL : g (.o L) = some (.dm kt t e l hs zs S)) :
  Rel cx m A (upd [(.o L, some (.dm kt t e l hs [] S))] g) a w := by
 have hg : ∀ k, k ≠ .o L → upd [(.o L, some (Val.dm kt t e l hs [] S))] g k = g k := fun k hk => by rw [upd_one, if_neg (Ne.symm hk)]
 have hgL : upd [(.o L, some (Val.dm kt t e l hs [] S))] g (.o L) = some (Val.dm kt t e l hs [] S) := by rw [upd_one, if_pos rfl]
 refine h.regive (T := fun l => l = L) (fun k hk => hg k (hk L rfl)) (fun _ _ _ _ => rfl) (fun l0 o hl => ?_) (fun l0 v hl hv => ?_) (fun l0 bb hl ho => ?_) (fun l0 l' bb hl hl' _ _ => hl.trans hl'.symm) (fun _ _ => rfl) (fun _ _ => rfl)
 ·subst hl
  cases e : g (.c l0 o) with
  | none => rfl
  | some v => obtain ⟨ty, n, h1⟩ := h.cell l0 o v e; rw [hL] at h1; cases h1
 ·subst hl
  rw [hgL] at hv
  cases hv
  obtain ⟨es, cl, h1, h2, h3⟩ := h.ent _ _ hL
  exact ⟨es, cl, h1, ⟨h2.size, h2.nodup, h2.ent, h2.nil, h2.holes, h2.born, h2.clock, fun q hq => nomatch hq⟩, h3⟩
 ·subst hl
  rw [hgL] at ho
  exact ⟨l0, rfl, by rw [hL]; exact ho⟩
theorem op_dmStore {ty L kt t e S a N S' Z : Nat} {x y z : Operand} {κ : E.G.car kt} {l : List (E.G.car kt × List (E.G.car t))} {zs : List (E.G.car kt × Nat)} {q : List (E.G.car t)} {nw : List Nat} (hx : Ev E s x (.m L)) (hy : Ev E s y (.z Z)) (hz : Ev E s z (.h N))
  (hL : s (.o L) = some (.dm kt t e l [(κ, a)] ((κ, Z) :: zs) S)) (hgN : s (.o N) = some (.row e t q)) (hfl : E.G.flat t = true) (hnS : S' ∈ nw) :
  OpRun (cxOf E b) ⟨none, .entryStore ty x y z, type, pos, after, guard⟩ s ⟨.o L :: .o N :: (okeys x ++ (okeys y ++ okeys z)), [(.o N, none), (.o L, some (.dm kt t e (@setK _ _ (E.G.deq kt) l κ q) [] [] S'))], nw⟩ := by
 intro m A ac w g hr hf hrel K Q hK
 have e1 := (hx.eval hrel (fun k hk => hr k (reads_mem (by simp [hk])))).1
 have e2 := (hy.eval hrel (fun k hk => hr k (reads_mem (by simp [hk])))).1
 have e3 := (hz.eval hrel (fun k hk => hr k (reads_mem (by simp [hk])))).1
 have hgL : g (.o L) = some (.dm kt t e l ([] ++ (κ, a) :: []) ((κ, Z) :: zs) S) := (hr (.o L) (reads_mem (by simp))).trans hL
 have hgN' : g (.o N) = some (.row e t q) := (hr (.o N) (reads_mem (by simp))).trans hgN
 have hS : Free (cxOf E b) S' g := hf S' hnS
 have hNS : N ≠ S' := fun e => by subst e; rw [free_none hS (by simp [keyHas])] at hgN'; cases hgN'
 have hLN : L ≠ N := fun e => by subst e; rw [hgL] at hgN'; cases hgN'
 have hset : @setK _ _ (E.G.deq kt) l κ q = @updK _ _ (E.G.deq kt) l κ q := by
  obtain ⟨es, cl, h1, h2, h3⟩ := hrel.ent _ _ hgL
  obtain ⟨i, p, en, h4, h5, _⟩ := h2.stamp (κ, Z) (by simp)
  exact @setK_at _ _ (E.G.deq kt) _ _ _ _ _ h2.nodup h4 h5
 obtain ⟨w', hrun, hrel'⟩ := hrel.storeEntry (ty := ty) (N := N) (Z := Z) hgL (by simp)
 have hS' := free_swap (N := N) hS hgL hNS (swap_dm (l' := l) (x := κ))
 obtain ⟨m', hrel2, _⟩ := hrel'.closeMap (S' := S') (q := q) (by rw [upd_one, if_pos rfl]) (by rw [upd_one, if_neg (by simp [hLN]), hgN']) hfl hS'
 have hrel3 := hrel2.dropStamps (L := L) (by simp only [closeMU]; rw [upd_two hLN, if_neg (by simp [hLN]), if_pos rfl])
 refine ⟨fun _ _ => trivial, ?_⟩
 rw [semAt_of _ _ (by simp)]
 have hrun' : (execOp ac.eval ⟨none, .entryStore ty x y z, type, pos, after, guard⟩).run E.P w = .ok .skip w' := by
  simp only [den] at hrun
  simp [execOp, e1, e2, e3, den, hrun]
 rw [hrun']
 refine hK m' A ac w' (hrel3.congr fun k => ?_)
 simp only [closeMU, hset]
 rw [upd_one, upd_two hLN, upd_two hLN, upd_one]
 by_cases e3 : k = .o N
 ·subst e3; simp [hLN]
 ·by_cases e4 : k = .o L
  ·subst e4; simp [hLN]
  ·simp [e3, e4, Ne.symm e4]
theorem Rel.newSub {cx : Cx} {m : Nat → MV} {A : Nat → Prop} {g : CMap cx} {a : Act} {w : World} {S : Nat} (h : Rel cx m A g a w) (hf : Free cx S g) (mv : MV) : Rel cx (setL m S mv) A g a w :=
 h.fresh (u := []) hf (fun k hk => by cases hk) (fun k v hk hv => by
   have hv : g k = some v := hv
   rw [free_none hf (by rcases hk with rfl | rfl | ⟨o, rfl⟩ <;> simp [keyHas])] at hv
   cases hv) (fun o v hv => by
   have hv : g (.c S o) = some v := hv
   rw [free_none hf (by simp [keyHas])] at hv
   cases hv) (fun bb hb => by
   have hb : Owns (setL m S mv) S (g (.o S)) bb := hb
   rw [free_none hf (by simp [keyHas])] at hb
   exact hb.elim)
theorem subs_nil {w : World} {bb : Nat} {real : Nat → Prop} : SubsOK w (fun _ => nilHV) bb real :=
 ⟨fun k k' h => absurd rfl h, fun k h => absurd rfl h, fun k h => absurd rfl h, fun k h => absurd rfl h⟩
theorem Rel.newMapD {cx : Cx} {m : Nat → MV} {A : Nat → Prop} {g : CMap cx} {a : Act} {w : World} {L S kt t e : Nat} (h : Rel cx m A g a w) (hL : Free cx L g) (hS : Free cx S g) (hLS : L ≠ S) :
  ∃ m', Rel cx m' A (upd [(.o L, some (.dm kt t e [] [] [] S))] g) a (w.alloc (.map #[] 0)) ∧ (m' L).b = w.heap.size := by
 have hnew : (w.alloc (.map #[] 0)).heap[w.heap.size]? = some (.map #[] 0) := by
  show (w.heap.push _)[w.heap.size]? = _
  simp
 have hko : upd [(.o L, some (Val.dm kt t e [] [] [] S))] g (.o L) = some (Val.dm kt t e [] [] [] S) := by rw [upd_one, if_pos rfl]
 have h1 := h.newSub hS (subMV fun _ => nilHV)
 have hw := h1.world (w' := w.alloc (.map #[] 0)) ⟨rfl, rfl, .rfl, by simp, fun k hk => Below.heap_alloc _ _ _ hk⟩
 have hS2 : setL (setL m S (subMV fun _ => nilHV)) L (boxMV w.heap.size) S = subMV fun _ => nilHV := by rw [setL_ne _ _ (Ne.symm hLS), setL_self]
 refine ⟨setL (setL m S (subMV fun _ => nilHV)) L (boxMV w.heap.size), hw.fresh hL (fun k hk => ?_) (fun k v hk hv => ?_) (fun o v hv => ?_) (fun bb hbb => ?_), by rw [setL_self]; rfl⟩
 ·simp only [touches, Bool.or_false] at hk
  exact .inl (Key.eqb_iff.1 hk).symm
 ·rcases hk with rfl | rfl | ⟨o, rfl⟩
  ·rw [hko] at hv; cases hv
   refine ⟨#[], 0, by rw [setL_self]; exact hnew, ⟨rfl, List.nodup_nil, fun k p hp => (by simp at hp), fun q hq => (nomatch hq), List.nodup_nil, List.nodup_nil, fun e he => (by simp at he), fun q hq => (nomatch hq)⟩, ?_⟩
   rw [hS2]
   exact subs_nil
  ·rw [upd_one, if_neg (by simp), free_none hL (by simp [keyHas])] at hv; cases hv
  ·rw [upd_one, if_neg (by simp), free_none hL (by simp [keyHas])] at hv; cases hv
 ·rw [upd_one, if_neg (by simp), free_none hL (by simp [keyHas])] at hv; cases hv
 ·rw [hko] at hbb
  have hbb : bb = w.heap.size := by
   rcases hbb with hbb | ⟨k, hk, _⟩
   ·rw [hbb, setL_self]; rfl
   ·rw [hS2] at hk; exact absurd rfl hk
  subst hbb
  exact ⟨.inl h.top, fun hA => Nat.lt_irrefl _ (h.frz _ hA), fun l hl => Nat.lt_irrefl _ (h1.blt hl)⟩
theorem op_dmMake {ty L S kt t e : Nat} {nw : List Nat} (hN : d < b.N) (hnL : L ∈ nw) (hnS : S ∈ nw) (hLS : L ≠ S) :
  OpRun (cxOf E b) ⟨some d, .makeMap ty none, type, pos, after, guard⟩ s ⟨[], (.t d, some (.x (.m L))) :: [(.o L, some (.dm kt t e [] [] [] S))], nw⟩ :=
 op_gen rfl hN (fun _ h => by cases h) fun m A a w g hr hf hrel => by
  obtain ⟨m', h1, h2⟩ := hrel.newMapD (kt := kt) (t := t) (e := e) (hf L hnL) (hf S hnS) hLS
  refine ⟨m', A, _, ?_, trivial, h1⟩
  simp only [den, h2]
  simp [execOp, Instr.makeMap, newObj, Sem.run]
theorem Rel.newRowD {cx : Cx} {m : Nat → MV} {A : Nat → Prop} {g : CMap cx} {a : Act} {w : World} {L S ety t c : Nat} {es : List (Option Nat)} {l : List (cx.G.car t)} {cells : Array Value} (h : Rel cx m A g a w) (hL : Free cx L g) (hS : Free cx S g) (hLS : L ≠ S) (hsz : cells.size = c * cx.G.sz t) (hle : l.length ≤ c)
  (hin : ∀ m' : Nat → MV, DeepIn cx.G A w m' (fun _ => nilHV) cells t es l []) :
  ∃ m', Rel cx m' A (upd [(.o L, some (.dp ety t es l [] S)), (.x L, some (.ln l.length))] g) a (w.alloc (.cells cells ety)) ∧ m' L = { b := w.heap.size, p := some ⟨w.heap.size, 0, none⟩, n := l.length, c := c } := by
 have hnew : (w.alloc (.cells cells ety)).heap[w.heap.size]? = some (.cells cells ety (0, 0)) := by
  show (w.heap.push _)[w.heap.size]? = _
  simp
 have hko : upd [(.o L, some (Val.dp ety t es l [] S)), (.x L, some (.ln l.length))] g (.o L) = some (.dp ety t es l [] S) := by rw [upd_cons, if_pos rfl]
 have hkx : upd [(.o L, some (Val.dp ety t es l [] S)), (.x L, some (.ln l.length))] g (.x L) = some (.ln l.length) := by rw [upd_cons, if_neg (by simp), upd_one, if_pos rfl]
 have hkc : ∀ o, upd [(.o L, some (Val.dp ety t es l [] S)), (.x L, some (.ln l.length))] g (.c L o) = none := fun o => by rw [upd_cons, if_neg (by simp), upd_one, if_neg (by simp), free_none hL (by simp [keyHas])]
 have h1 := h.newSub hS (subMV fun _ => nilHV)
 have hbel : Bel w.heap.size w (w.alloc (.cells cells ety)) := ⟨rfl, rfl, .rfl, by simp, fun k hk => Below.heap_alloc _ _ _ hk⟩
 have hw := h1.world hbel
 have hS2 : setL (setL m S (subMV fun _ => nilHV)) L { b := w.heap.size, p := some ⟨w.heap.size, 0, none⟩, n := l.length, c := c } S = subMV fun _ => nilHV := by rw [setL_ne _ _ (Ne.symm hLS), setL_self]
 refine ⟨setL (setL m S (subMV fun _ => nilHV)) L { b := w.heap.size, p := some ⟨w.heap.size, 0, none⟩, n := l.length, c := c }, hw.fresh hL (fun k hk => ?_) (fun k v hk hv => ?_) (fun o v hv => ?_) (fun bb hbb => ?_), by rw [setL_self]⟩
 ·simp only [touches, Bool.or_false, Bool.or_eq_true] at hk
  rcases hk with hk | hk
  ·exact .inl (Key.eqb_iff.1 hk).symm
  ·exact .inr (.inl (Key.eqb_iff.1 hk).symm)
 ·rcases hk with rfl | rfl | ⟨o, rfl⟩
  ·rw [hko] at hv; cases hv
   refine ⟨⟨by rw [setL_self], ?_⟩, by rw [hS2]; exact subs_nil, ⟨fun q hq => (nomatch hq), List.Pairwise.nil⟩⟩
   rcases Nat.eq_zero_or_pos c with hc | hc
   ·subst hc
    rw [setL_self]
    exact .inl ⟨rfl, List.length_eq_zero_iff.1 (Nat.le_zero.1 hle), w.heap.size + 1, rfl⟩
   ·refine .inr ⟨by rw [setL_self]; exact Nat.ne_of_gt hc, by rw [setL_self], cells, by rw [setL_self]; exact hnew, by rw [setL_self]; exact hsz, by rw [setL_self]; exact hle, ?_⟩
    rw [hS2]
    intro i x hx j cv hcv
    obtain ⟨u, hu, hs⟩ := hin _ i x hx j cv hcv
    exact ⟨u, hu, hs.step (m := m) (fun _ h => h) (fun bb hb => hbel.block bb (h.frz bb hb)) (fun _ h => nomatch h) (fun h => absurd rfl h)⟩
  ·rw [hkx] at hv; cases hv
   show (setL _ L _ L).n = _ ∧ (_ → (setL _ L _ L).p = some ⟨(setL _ L _ L).b, 0, none⟩)
   rw [setL_self]
   exact ⟨rfl, fun _ => rfl⟩
  ·rw [hkc] at hv; cases hv
 ·rw [hkc] at hv; cases hv
 ·rw [hko] at hbb
  have hbb : bb = w.heap.size := by
   rcases hbb with ⟨_, hbb⟩ | ⟨k, hk, _⟩
   ·rw [hbb, setL_self]
   ·rw [hS2] at hk; exact absurd rfl hk
  subst hbb
  exact ⟨.inl h.top, fun hA => Nat.lt_irrefl _ (h.frz _ hA), fun l hl => Nat.lt_irrefl _ (h1.blt hl)⟩
theorem Rel.addDeep {cx : Cx} {m : Nat → MV} {A : Nat → Prop} {g : CMap cx} {a : Act} {w : World} {L S ety t : Nat} {es : List (Option Nat)} {l : List (cx.G.car t)} {mv : MV} {sub : Nat → HV} (h : Rel cx m A g a w) (hL : Free cx L g) (hS : Free cx S g) (hLS : L ≠ S)
  (hat : At cx (setL (setL m S (subMV sub)) L mv) A a.tmps w (.o L) (.dp ety t es l [] S))
  (hB : ∀ k, ((mv.c ≠ 0 ∧ k = mv.b) ∨ ∃ i, (sub i).c ≠ 0 ∧ k = (sub i).b) → cx.mine k ∧ ¬ A k ∧ ∀ l, ¬ Owns m l (g (.o l)) k) :
  Rel cx (setL (setL m S (subMV sub)) L mv) A (upd [(.o L, some (.dp ety t es l [] S))] g) a w := by
 have hkx : upd [(.o L, some (Val.dp ety t es l [] S))] g (.x L) = none := by rw [upd_one, if_neg (by simp), free_none hL (by simp [keyHas])]
 have hkc : ∀ o, upd [(.o L, some (Val.dp ety t es l [] S))] g (.c L o) = none := fun o => by rw [upd_one, if_neg (by simp), free_none hL (by simp [keyHas])]
 have hS2 : setL (setL m S (subMV sub)) L mv S = subMV sub := by rw [setL_ne _ _ (Ne.symm hLS), setL_self]
 refine (h.newSub hS (subMV sub)).fresh hL (fun k hk => ?_) (fun k v hk hv => ?_) (fun o v hv => ?_) (fun bb hbb => ?_)
 ·simp only [touches, Bool.or_false] at hk
  exact .inl (Key.eqb_iff.1 hk).symm
 ·rcases hk with rfl | rfl | ⟨o, rfl⟩
  ·rw [upd_one, if_pos rfl] at hv; cases hv; exact hat
  ·rw [hkx] at hv; cases hv
  ·rw [hkc] at hv; cases hv
 ·rw [hkc] at hv; cases hv
 ·rw [upd_one, if_pos rfl] at hbb
  simp only [Owns, setL_self, hS2] at hbb
  simp only [subMV] at hbb
  obtain ⟨h1, h2, h3⟩ := hB bb hbb
  refine ⟨h1, h2, fun l ho => h3 l ?_⟩
  refine (owns_congr fun l' hl' => ?_).1 ho
  cases hg : g (.o l) with
  | none => rw [hg] at hl'; cases hl'
  | some v => rw [hg] at hl'; exact setL_ne _ _ (free_ne hS hg l' hl')
inductive OldD (g : Map E.G.car) (ety t e' : Nat) : SV → List (E.G.car t) → St E.G.car → Prop
 | nil : OldD g ety t e' (.v (.slice none 0 0)) [] []
 | row {L S : Nat} {l : List (E.G.car t)} (h : g (.o L) = some (.dp ety t [some e'] l [] S)) : OldD g ety t e' (.h L) l [(.o L, none)]
theorem Rel.appendD {m : Nat → MV} {A : Nat → Prop} {g : Map E.G.car} {a : Act} {w : World} {N S ety t bytes ty tt bl e' t' c2 : Nat} {v : SV} {l : List (E.G.car t)} {q : List (E.G.car t')} {x' : E.G.car t} {dr : St E.G.car} {ad : Addr} (h : Rel (cxOf E b) m A g a w)
  (hf : appFact E.P tt = some (ety, E.G.sz t, bytes)) (hsz : E.G.sz t = 1) (hby : bytes ≤ 100000) (hold : OldD g ety t e' v l dr) (hbl : g (.o bl) = some (.row e' t' q)) (hfl : E.G.flat t' = true) (henc : E.G.enc t x' = [CV.sl t' q])
  (hcell : w.cell? ad = some (den m (.h bl))) (hN : Free (cxOf E b) N g) (hS : Free (cxOf E b) S g) (hNS : N ≠ S) (hlen : l.length + 1 ≤ 1000000) :
  ∃ w' m', (Builtin.append_ #[tt, tt] ty #[den m v, .slice (some ad) 1 c2]).run E.P w = .ok (.slice (m' N).p (m' N).n (m' N).c) w' ∧
   Rel (cxOf E b) m' A (upd ((.o N, some (.dp ety t [some e'] (l ++ [x']) [] S)) :: (.o bl, none) :: dr) g) a w' := by
 have hdr : ∀ k, upd ((.o bl, none) :: dr) g k = none ∨ upd ((.o bl, none) :: dr) g k = g k := fun k => by
  rw [upd_cons]
  by_cases e1 : Key.o bl = k
  ·rw [if_pos e1]; exact .inl rfl
  ·rw [if_neg e1]
   cases hold with
   | nil => exact .inr rfl
   | @row L S0 l hL =>
    rw [upd_one]
    by_cases e2 : Key.o L = k
    ·rw [if_pos e2]; exact .inl rfl
    ·rw [if_neg e2]; exact .inr rfl
 have hno : ∀ (L o : Nat), g (.o L) ≠ none → (∀ ty n, g (.o L) ≠ some (.sh ty n)) → g (.c L o) = none := fun L o _ hs => by
  cases hv : g (.c L o) with
  | none => rfl
  | some v =>
   obtain ⟨ty', n', h1⟩ := h.cell L o v hv
   exact absurd h1 (hs _ _)
 have hrel1 : Rel (cxOf E b) m A (upd ((.o bl, none) :: dr) g) a w := by
  refine h.weaken hdr (fun L2 o2 hc => ?_)
  have hc2 : g (.c L2 o2) ≠ none := by
   rcases hdr (.c L2 o2) with h1 | h1
   ·exact absurd h1 hc
   ·rw [← h1]; exact hc
  rw [upd_cons]
  by_cases e1 : Key.o bl = .o L2
  ·cases e1
   exact absurd (hno bl o2 (by rw [hbl]; simp) (fun _ _ => by rw [hbl]; simp)) hc2
  ·rw [if_neg e1]
   cases hold with
   | nil => rfl
   | @row L S0 l hL =>
    rw [upd_one]
    by_cases e2 : Key.o L = .o L2
    ·cases e2
     exact absurd (hno _ o2 (by rw [hL]; simp) (fun _ _ => by rw [hL]; simp)) hc2
    ·rw [if_neg e2]
 have hfr1 : ∀ L, Free (cxOf E b) L g → Free (cxOf E b) L (upd ((.o bl, none) :: dr) g) := fun L hf => by
  cases hold with
  | nil => exact hf.upd (by simp [mentionsIn, mentions])
  | row hL => exact hf.upd (by simp [mentionsIn, mentions])
 have hrow : RowAt E.G A w (hvOf (m bl)) e' t' q := h.ent _ _ hbl
 have hbo : (m bl).c ≠ 0 → Owns m bl (g (.o bl)) (m bl).b := fun hc => by rw [hbl]; exact ⟨hc, rfl⟩
 have hg1bl : upd ((.o bl, none) :: dr) g (.o bl) = none := by rw [upd_cons, if_pos rfl]
 have hnot1 : ∀ {L0 k : Nat}, Owns m L0 (g (.o L0)) k → upd ((.o bl, none) :: dr) g (.o L0) = none → ∀ l', ¬ Owns m l' (upd ((.o bl, none) :: dr) g (.o l')) k := fun {L0 k} ho hn l' ho' => by
  rcases hdr (.o l') with h1 | h1
  ·rw [h1] at ho'; exact ho'
  ·rw [h1] at ho'
   have := h.inj l' L0 k ho' ho
   subst this
   rw [hn] at h1
   rw [← h1] at ho'
   exact ho'
 have hlies : ∃ (b0 c : Nat) (cs : List Value) (sub : Nat → HV), den m v = .slice (ptr0 b0 c) l.length c ∧ VecAt b0 c ety (E.G.sz t) cs w ∧ cs.length = l.length * E.G.sz t ∧ l.length ≤ c ∧
   (∀ (i : Nat) (x : E.G.car t), l[i]? = some x → ∀ (j : Nat) (cv : CV E.G.car), (E.G.enc t x)[j]? = some cv → ∃ u, cs[i * E.G.sz t + j]? = some u ∧ SubIs E.G A w m (sub (i * E.G.sz t + j)) (([some e'] : List (Option Nat)).getD j none) none cv u) ∧
   (c ≠ 0 → (cxOf E b).mine b0 ∧ ¬ A b0 ∧ (∀ l', ¬ Owns m l' (upd ((.o bl, none) :: dr) g (.o l')) b0) ∧ (∃ cur, w.heap[b0]? = some (.cells cur ety (0, 0))) ∧ ((m bl).c ≠ 0 → (m bl).b ≠ b0)) ∧
   (∀ k, (sub k).c ≠ 0 → k < l.length * E.G.sz t ∧ (cxOf E b).mine (sub k).b ∧ ¬ A (sub k).b ∧ (∀ l', ¬ Owns m l' (upd ((.o bl, none) :: dr) g (.o l')) (sub k).b) ∧ (c ≠ 0 → (sub k).b ≠ b0) ∧ ((m bl).c ≠ 0 → (m bl).b ≠ (sub k).b) ∧ (∃ o : Obj, w.heap[(sub k).b]? = some o ∧ o.isDat = true)) ∧
   (∀ k k', (sub k).c ≠ 0 → (sub k').c ≠ 0 → (sub k).b = (sub k').b → k = k') := by
  cases hold with
  | nil => exact ⟨0, 0, [], fun _ => nilHV, rfl, .inl ⟨rfl, rfl⟩, by simp, Nat.le_refl _, fun i x hx => by simp at hx, fun h => absurd rfl h, fun k hk => absurd rfl hk, fun k _ hk => absurd rfl hk⟩
  | @row L S0 l hL =>
   obtain ⟨⟨hn, h2⟩, h3, _⟩ := h.ent _ _ hL
   have hLb : L ≠ bl := fun e => by subst e; rw [hL] at hbl; cases hbl
   have hg1L : upd ((.o bl, none) :: [(.o L, none)]) g (.o L) = none := by rw [upd_cons, if_neg (by simpa using Ne.symm hLb), upd_one, if_pos rfl]
   have hsubo : ∀ k, ((m S0).sub k).c ≠ 0 → Owns m L (g (.o L)) ((m S0).sub k).b := fun k hk => by rw [hL]; exact .inr ⟨k, hk, rfl⟩
   have hsub : ∀ k, ((m S0).sub k).c ≠ 0 → k < l.length * E.G.sz t ∧ (cxOf E b).mine ((m S0).sub k).b ∧ ¬ A ((m S0).sub k).b ∧ (∀ l', ¬ Owns m l' (upd ((.o bl, none) :: [(.o L, none)]) g (.o l')) ((m S0).sub k).b) ∧ ((m L).c ≠ 0 → ((m S0).sub k).b ≠ (m L).b) ∧ ((m bl).c ≠ 0 → (m bl).b ≠ ((m S0).sub k).b) ∧ (∃ o : Obj, w.heap[((m S0).sub k).b]? = some o ∧ o.isDat = true) := fun k hk =>
    ⟨h3.real k hk, (h.own _ _ (hsubo k hk)).1, (h.own _ _ (hsubo k hk)).2, hnot1 (hsubo k hk) hg1L, fun _ => h3.ne k hk, fun hc e => hLb (h.inj _ _ _ (hsubo k hk) (by rw [← e]; exact hbo hc)), h3.dat k hk⟩
   rcases h2 with ⟨hc, hl, b', hp⟩ | ⟨hc, hp, cur, hh, hsz2, hle, hin⟩
   ·subst hl
    refine ⟨b', 0, [], (m S0).sub, ?_, .inl ⟨rfl, rfl⟩, by simp, Nat.le_refl _, fun i x hx => by simp at hx, fun h => absurd rfl h, fun k hk => ?_, h3.inj⟩
    ·simp only [den, hc, hp, hn, List.length_nil]
    ·have := (hsub k hk).1
     simp at this
   ·have hfit : l.length * E.G.sz t ≤ cur.size := by rw [hsz2]; exact Nat.mul_le_mul_right _ hle
    refine ⟨(m L).b, (m L).c, cur.toList.take (l.length * E.G.sz t), (m S0).sub, ?_, .inr ⟨hc, cur, hh, hsz2, fun i v hv => ?_⟩, ?_, hle, fun i x hx j cv hcv => ?_, fun _ => ?_, fun k hk => ?_, h3.inj⟩
    ·simp only [den, ptr0_ne hc, hp, hn]
    ·rw [List.getElem?_take] at hv
     split at hv
     ·simpa using hv
     ·cases hv
    ·have hcl : cur.toList.length = cur.size := by simp
     rw [List.length_take, hcl]; exact Nat.min_eq_left hfit
    ·obtain ⟨u, h4, h5⟩ := hin i x hx j cv hcv
     refine ⟨u, ?_, h5⟩
     have hi : i < l.length := (List.getElem?_eq_some_iff.1 hx).1
     have hj : j < E.G.sz t := by rw [← E.G.hsz t x]; exact (List.getElem?_eq_some_iff.1 hcv).1
     have : (i + 1) * E.G.sz t ≤ l.length * E.G.sz t := Nat.mul_le_mul_right _ hi
     rw [Nat.add_mul, Nat.one_mul] at this
     rw [List.getElem?_take, if_pos (show i * E.G.sz t + j < _ by have := this; omega)]
     simpa using h4
    ·have hL' : Owns m L (g (.o L)) (m L).b := by rw [hL]; exact .inl ⟨hc, rfl⟩
     obtain ⟨h4, h5⟩ := h.own L _ hL'
     exact ⟨h4, h5, hnot1 hL' hg1L, ⟨cur, hh⟩, fun hcb e => hLb (h.inj _ _ _ hL' (by rw [← e]; exact hbo hcb))⟩
    ·obtain ⟨k1, k2, k3, k4, k5, k6, k7⟩ := hsub k hk
     exact ⟨k1, k2, k3, k4, fun _ => k5 hc, k6, k7⟩
 obtain ⟨b0, c, cs, sub, hden, hvec, hcsl, hle, hin, hown, hsub, hinj⟩ := hlies
 have hmul : (l.length + 1) * bytes ≤ 140737488355328 := by
  have : (l.length + 1) * bytes ≤ 1000000 * 100000 := Nat.mul_le_mul hlen hby
  omega
 obtain ⟨b', c', w', hrun, hc', hvec', hb', hsz', hos, htape, hout, hk⟩ := append_core (ty := ty) (c2 := c2) (vs := [den m (.h bl)]) (q := 1) (a := ad) hf hvec hcsl (by rw [hsz]; rfl) (fun j u hj => by
   cases j with
   | zero => simp only [List.getElem?_cons_zero, Option.some.injEq] at hj; subst hj; rw [← hcell]; congr 1
   | succ j => simp at hj) (fun u hu => by rw [List.mem_singleton.1 hu]; rfl) (Nat.le_refl 1) hmul (by omega)
 rw [← hden] at hrun
 have hcells : c ≠ 0 → ∀ ob : Obj, w.heap[b0]? = some ob → ob.isDat = true := fun hc ob hob => by
  obtain ⟨_, _, _, ⟨cur, hh⟩, _⟩ := hown hc
  rw [hh] at hob; cases hob; rfl
 have hrel2 : Rel (cxOf E b) m A (upd ((.o bl, none) :: dr) g) a w' := by
  by_cases hc : c = 0
  ·exact hrel1.world ⟨hos, htape, hout, hsz', fun k hk' => hk k hk' (fun h => absurd hc h)⟩
  ·exact hrel1.wild (hown hc).2.2.1 (hown hc).2.1 (hown hc).1 (hcells hc) hos htape hout hsz' (fun k h3 h4 => hk k h3 (fun _ => h4))
 have hAw : ∀ q, A q → w'.heap[q]? = w.heap[q]? := fun q hq => hk q (h.frz q hq) (fun hc e => (hown hc).2.1 (e ▸ hq))
 rcases hvec' with ⟨h3, _⟩ | ⟨_, cur', hh', hsz2, hpre'⟩
 ·exact absurd h3 hc'
 have hblw : (m bl).c ≠ 0 → w'.heap[(m bl).b]? = w.heap[(m bl).b]? := fun hc => hk _ (h.blt (hbo hc)) (fun hc0 => (hown hc0).2.2.2.2 hc)
 have hsubw : ∀ k, (sub k).c ≠ 0 → w'.heap[(sub k).b]? = w.heap[(sub k).b]? := fun k hkc => by
  obtain ⟨_, _, _, _, k5, _, ob, k7, _⟩ := hsub k hkc
  exact hk _ (Array.getElem?_eq_some_iff.1 k7).1 k5
 have hblsz : (m bl).c ≠ 0 → (m bl).b < w.heap.size := fun hc => h.blt (hbo hc)
 have hlt' : ∀ k, (sub k).c ≠ 0 → (sub k).b < w.heap.size := fun k hkc => by
  obtain ⟨_, _, _, _, _, _, ob, k7, _⟩ := hsub k hkc
  exact (Array.getElem?_eq_some_iff.1 k7).1
 refine ⟨w', setL (setL m S (subMV (setSub sub l.length (hvOf (m bl))))) N { b := b', p := some ⟨b', 0, none⟩, n := l.length + 1, c := c' }, by rw [setL_self]; exact hrun, ?_⟩
 have hS2 : setL (setL m S (subMV (setSub sub l.length (hvOf (m bl))))) N { b := b', p := some ⟨b', 0, none⟩, n := l.length + 1, c := c' } S = subMV (setSub sub l.length (hvOf (m bl))) := by rw [setL_ne _ _ (Ne.symm hNS), setL_self]
 have hdat : (m bl).c ≠ 0 → ∃ o : Obj, w'.heap[(m bl).b]? = some o ∧ o.isDat = true := fun hc => by
  obtain ⟨_, h4⟩ := hrow
  rcases h4 with ⟨h4, _⟩ | ⟨_, _, cur, h4, _⟩
  ·exact absurd h4 hc
  ·exact ⟨_, (hblw hc).trans h4, rfl⟩
 have hne' : ∀ blk, blk < w.heap.size → (c ≠ 0 → blk ≠ b0) → blk ≠ b' := fun blk h1 h2 e => by
  rcases hb' with ⟨hc, e2⟩ | h3
  ·exact h2 hc (e.trans e2)
  ·omega
 have := (hrel2.addDeep (ety := ety) (t := t) (es := [some e']) (l := l ++ [x']) (mv := { b := b', p := some ⟨b', 0, none⟩, n := l.length + 1, c := c' }) (sub := setSub sub l.length (hvOf (m bl))) (hfr1 N hN) (hfr1 S hS) hNS ⟨⟨by rw [setL_self]; simp, ?_⟩, ?_, ⟨fun q hq => (nomatch hq), List.Pairwise.nil⟩⟩ (fun k hk' => ?_))
 ·refine this.congr fun k => ?_
  rw [upd_one]
  exact (upd_cons _ _).symm
 ·rw [setL_self, hS2]
  refine .inr ⟨hc', rfl, cur', hh', hsz2, ?_, fun i x hx j cv hcv => ?_⟩
  ·have hlast : (cs ++ [den m (.h bl)]).length = l.length + 1 := by rw [List.length_append, hcsl, hsz]; simp
   have := hpre' l.length _ (List.getElem?_eq_getElem (by omega))
   have h9 := (Array.getElem?_eq_some_iff.1 this).1
   rw [hsz2, hsz] at h9
   rw [List.length_append, List.length_singleton]
   show l.length + 1 ≤ c'
   omega
  ·have hj : j < E.G.sz t := by rw [← E.G.hsz t x]; exact (List.getElem?_eq_some_iff.1 hcv).1
   have hi1 : i < (l ++ [x']).length := (List.getElem?_eq_some_iff.1 hx).1
   rw [List.length_append, List.length_singleton] at hi1
   rcases Nat.lt_or_ge i l.length with hi | hi
   ·rw [List.getElem?_append_left hi] at hx
    obtain ⟨u, h3, h4⟩ := hin i x hx j cv hcv
    refine ⟨u, hpre' _ _ (by rw [List.getElem?_append_left (List.getElem?_eq_some_iff.1 h3).1]; exact h3), ?_⟩
    have e1 : setSub sub l.length (hvOf (m bl)) (i * E.G.sz t + j) = sub (i * E.G.sz t + j) := setSub_ne _ _ (by rw [hsz] at hj ⊢; omega)
    show SubIs E.G A w' _ (setSub sub l.length (hvOf (m bl)) (i * E.G.sz t + j)) _ none cv u
    rw [e1]
    exact h4.step (fun _ h => h) hAw (fun a ha => nomatch ha) (hsubw _)
   ·have hi2 : i = l.length := by omega
    subst hi2
    rw [List.getElem?_append_right (Nat.le_refl _), Nat.sub_self, List.getElem?_cons_zero] at hx
    cases hx
    have hj0 : j = 0 := by omega
    subst hj0
    rw [henc, List.getElem?_cons_zero] at hcv
    cases hcv
    refine ⟨den m (.h bl), hpre' _ _ (by rw [Nat.add_zero, ← hcsl]; simp), ?_⟩
    have e1 : setSub sub l.length (hvOf (m bl)) (l.length * E.G.sz t + 0) = hvOf (m bl) := by rw [hsz, Nat.mul_one, Nat.add_zero, setSub_self]
    show SubIs E.G A w' _ (setSub sub l.length (hvOf (m bl)) (l.length * E.G.sz t + 0)) _ none _ _
    rw [e1]
    exact ⟨e', rfl, hfl, rfl, hrow.step (fun _ h => h) hAw hblw⟩
 ·rw [setL_self, hS2]
  have hnew : SubsOK w' sub b' (fun k => k < (l ++ [x']).length * E.G.sz t) := ⟨hinj, fun k hkc => hne' _ (hlt' k hkc) ((hsub k hkc).2.2.2.2.1), fun k hkc => by
    have := (hsub k hkc).1
    rw [List.length_append, Nat.add_mul]; omega, fun k hkc => by rw [hsubw k hkc]; exact (hsub k hkc).2.2.2.2.2.2⟩
  exact hnew.into (by rw [List.length_append, List.length_singleton, hsz]; omega) (fun hc => hne' _ (hblsz hc) (fun hc0 => (hown hc0).2.2.2.2 hc)) hdat (fun hc k hkc e => (hsub k hkc).2.2.2.2.2.1 hc e.symm)
 ·rcases hk' with ⟨_, e0⟩ | ⟨i, hi, rfl⟩
  ·rw [show k = b' from e0]
   rcases hb' with ⟨hc, e⟩ | h3
   ·rw [e]
    exact ⟨(hown hc).1, (hown hc).2.1, (hown hc).2.2.1⟩
   ·exact ⟨.inl (Nat.le_trans h.top h3), fun hA => Nat.lt_irrefl _ (Nat.lt_of_lt_of_le (h.frz _ hA) h3), fun l' ho => Nat.lt_irrefl _ (Nat.lt_of_lt_of_le (hrel1.blt ho) h3)⟩
  ·by_cases e : i = l.length
   ·subst e
    rw [setSub_self] at hi ⊢
    have ho := hbo hi
    exact ⟨(h.own _ _ ho).1, (h.own _ _ ho).2, hnot1 ho hg1bl⟩
   ·rw [setSub_ne _ _ e] at hi ⊢
    obtain ⟨_, k2, k3, k4, _⟩ := hsub i hi
    exact ⟨k2, k3, k4⟩
theorem op_dpMake {ty e ety t t' bytes L S : Nat} {x y : Operand} {v u : SV} {k k' : IntKind} {n c : Int} {x0 : E.G.car t} {nw : List Nat} {e' : Nat} (hN : d < b.N) (hx : Ev E s x v) (hy : Ev E s y u) (hv : ∀ m, den m v = .int k n) (hu : ∀ m, den m u = .int k' c)
  (ha : appFact E.P ty = some (e, E.G.sz t, bytes)) (hel : sliceEl E.P ty = some ety) (hby : bytes ≤ 1000000) (hz : zeroL E.P ety = some [.slice none 0 0]) (hsz : E.G.sz t = 1) (hfl : E.G.flat t' = true) (hdec : E.G.dec t [CV.sl t' []] = some x0) (hn : 0 ≤ n ∧ n ≤ c ∧ c ≤ 100000) (hnL : L ∈ nw) (hnS : S ∈ nw) (hLS : L ≠ S) :
  OpRun (cxOf E b) ⟨some d, .makeSlice ty x y, type, pos, after, guard⟩ s ⟨okeys x ++ okeys y, (.t d, some (.x (.h L))) :: [(.o L, some (.dp ety t [some e'] (List.replicate n.toNat x0) [] S)), (.x L, some (.ln n.toNat))], nw⟩ :=
 op_gen rfl hN (fun _ h => by cases h) fun m A a w g hr hfree hrel => by
  have h1 := (hx.eval hrel (fun k hk => hr k (by simp [hk]))).1
  have h2 := (hy.eval hrel (fun k hk => hr k (by simp [hk]))).1
  rw [hv] at h1
  rw [hu] at h2
  obtain ⟨i, zv, hun, hi, hzz, hzs, his, hpos, hbe⟩ := appFact_spec ha
  have he : e = ety := by
   unfold sliceEl at hel
   rw [hun] at hel
   simpa using hel
  subst he
  obtain ⟨i', zv', hi', hzz', hc⟩ := zeroL_spec hz
  rw [hi] at hi'; cases hi'
  rw [hzz] at hzz'; cases hzz'
  have hbc : (i.bytes : Int) * c ≤ 1000000 * 100000 := Int.mul_le_mul (by omega) hn.2.2 (by omega) (by omega)
  have hrun := run_make (P := E.P) w ty e i zv hun hi hzz k k' n c hn.1 hn.2.1 (by omega) (by omega)
  rw [his] at hrun
  have hlr : (List.replicate n.toNat x0).length = n.toNat := List.length_replicate
  obtain ⟨m', h3, h4⟩ := hrel.newRowD (L := L) (S := S) (ety := e) (t := t) (c := c.toNat) (es := [some e']) (l := List.replicate n.toNat x0) (cells := madeCells zv.cells (c.toNat * E.G.sz t)) (hfree L hnL) (hfree S hnS) hLS (by rw [size_madeCells]) (by rw [hlr]; omega) (fun m' q y hy j cv hcv => by
   have hq : q < n.toNat := by have := (List.getElem?_eq_some_iff.1 hy).1; simpa using this
   have hy' : y = x0 := List.eq_of_mem_replicate (List.mem_of_getElem? hy)
   subst hy'
   have hj : j < E.G.sz t := by rw [← E.G.hsz t y]; exact (List.getElem?_eq_some_iff.1 hcv).1
   rw [hsz] at hj
   obtain rfl : j = 0 := by omega
   rw [E.G.hdec _ _ _ hdec] at hcv
   simp only [List.getElem?_cons_zero, Option.some.injEq] at hcv
   subst hcv
   refine ⟨.slice none 0 0, ?_, e', rfl, hfl, rfl, rfl, .inl ⟨rfl, rfl, 0, rfl⟩⟩
   have hlt : q * 1 + 0 < c.toNat * 1 := by omega
   rw [hc, hsz, getElem?_madeCells (by simp) hlt, show (q * 1 + 0) % ([Value.slice none 0 0] : List Value).length = 0 from Nat.mod_one _]
   rfl)
  rw [hlr] at h3 h4
  refine ⟨m', A, _, ?_, trivial, h3⟩
  simp only [den, h4]
  simp [execOp, h1, h2, hrun]
theorem op_dpApp {tt ety t bytes LB cp bl N S' e' t' : Nat} {x y : Operand} {v : SV} {l : List (E.G.car t)} {q : List (E.G.car t')} {x' : E.G.car t} {dr : St E.G.car} {rd : List Key} {nw : List Nat} (hN : d < b.N) (hf : appFact E.P tt = some (ety, E.G.sz t, bytes)) (hsz : E.G.sz t = 1) (hby : bytes ≤ 100000)
  (hx : Ev E s x v) (hy : Ev E s y (.s LB 0 1 cp)) (hc : s (.c LB 0) = some (.x (.h bl))) (hbl : s (.o bl) = some (.row e' t' q)) (hfl : E.G.flat t' = true) (henc : E.G.enc t x' = [CV.sl t' q])
  (hold : OldD s ety t e' v l dr) (hrd : ∀ L, v = .h L → .o L ∈ rd) (hlen : l.length + 1 ≤ 1000000) (hnN : N ∈ nw) (hnS : S' ∈ nw) (hNS : N ≠ S') :
  OpRun (cxOf E b) ⟨some d, .call ⟨.builtin .append, #[x, y], #[tt, tt]⟩, type, pos, after, guard⟩ s ⟨rd ++ (.c LB 0 :: .o bl :: okeysL [x, y]), (.t d, some (.x (.h N))) :: (.o N, some (.dp ety t [some e'] (l ++ [x']) [] S')) :: (.o bl, none) :: dr, nw⟩ :=
 op_gen rfl hN (fun _ h => by cases h) fun m A a w g hr hfree hrel => by
  have h1 := (hx.eval hrel (fun k hk => hr k (by simp [okeysL, hk]))).1
  have h2 := (hy.eval hrel (fun k hk => hr k (by simp [okeysL, hk]))).1
  have hold' : OldD g ety t e' v l dr := by
   cases hold with
   | nil => exact .nil
   | @row L S0 l h => exact .row ((hr _ (by simp [hrd L rfl])).trans h)
  have hcell : w.cell? ⟨(m LB).b, 0, none⟩ = some (den m (.h bl)) := by
   obtain ⟨⟨cur, ty, hh, hcur⟩, _⟩ := hrel.ent _ _ ((hr (.c LB 0) (by simp)).trans hc)
   simp only [World.cell?, hh]
   exact hcur
  obtain ⟨w', m', h3, h4⟩ := hrel.appendD (ty := type) (c2 := cp) hf hsz hby hold' ((hr (.o bl) (by simp)).trans hbl) hfl henc hcell (hfree N hnN) (hfree S' hnS) hNS hlen
  refine ⟨m', A, w', ?_, trivial, h4⟩
  simp only [den] at h2
  simp [execOp, resolve, invoke, builtin, h1, h2, h3, den]
theorem clearL_get {α : Type} {l : List α} {i n : Nat} {x0 : α} (h : i + n ≤ l.length) (q : Nat) : (clearL l i n x0)[q]? = if i ≤ q ∧ q < i + n then some x0 else l[q]? := by
 unfold clearL
 rw [List.getElem?_append, List.length_take, Nat.min_eq_left (by omega)]
 by_cases h1 : q < i
 ·rw [if_pos h1, if_neg (by omega), List.getElem?_take, if_pos h1]
 ·rw [if_neg h1, List.getElem?_append, List.length_replicate]
  by_cases h2 : q - i < n
  ·rw [if_pos h2, if_pos (by omega), List.getElem?_replicate, if_pos h2]
  ·rw [if_neg h2, if_neg (by omega), List.getElem?_drop]
   congr 1
   omega
theorem clearL_length {α : Type} {l : List α} {i n : Nat} {x0 : α} (h : i + n ≤ l.length) : (clearL l i n x0).length = l.length := by
 simp only [clearL, List.length_append, List.length_take, List.length_replicate, List.length_drop]
 omega
theorem Rel.clearRow {cx : Cx} {m : Nat → MV} {A : Nat → Prop} {g : CMap cx} {a : Act} {w : World} {L ety t i n : Nat} {l : List (cx.G.car t)} {x0 : cx.G.car t} {z : Value} (h : Rel cx m A g a w) (hb : g (.o L) = some (.row ety t l)) (hsz1 : cx.G.sz t = 1) (henc : cx.G.enc t x0 = [CV.v z]) (hone : oneC z = true)
  (hle0 : i + n ≤ l.length) (hn0 : 0 < n) :
  ∃ w', (m L).p = some ⟨(m L).b, 0, none⟩ ∧ (storeCells ⟨(m L).b, i, none⟩ (List.replicate n z)).run cx.P w = .ok () w' ∧ Rel cx m A (upd [(.o L, some (.row ety t (clearL l i n x0)))] g) a w' := by
 obtain ⟨hn, h2⟩ := h.ent _ _ hb
 rcases h2 with ⟨_, hl, _⟩ | ⟨hc, hp, cur, hh, hsz, hle, hin⟩
 ·subst hl; simp at hle0; omega
 have hL : Owns m L (g (.o L)) (m L).b := by rw [hb]; exact ⟨hc, rfl⟩
 rw [hsz1, Nat.mul_one] at hsz
 obtain ⟨w', cur', h1, h2', h3, h4, h5, h6, h7, h8, h9⟩ := run_storeCellsW (P := cx.P) (o := i) (List.replicate n z) 0 w cur hh (fun v hv => by rw [List.eq_of_mem_replicate hv]; exact hone) (by rw [List.length_replicate]; omega)
 have hAw : ∀ b, A b → w'.heap[b]? = w.heap[b]? := fun b hb' => h9 b fun e => (h.own L _ hL).2 (e ▸ hb')
 have hupd : ∀ k, upd [(.o L, some (.row ety t (clearL l i n x0)))] g k = if .o L = k then some (.row ety t (clearL l i n x0)) else g k := fun k => upd_one
 refine ⟨w', hp, h1, h.wrote hL h5 h6 h7 (by omega) (fun k _ hk => h9 k hk) (fun _ _ => rfl) h.fix h.pins (fun k e1 e2 => by rw [hupd, if_neg (Ne.symm e2)]) (fun _ _ _ _ => rfl) (fun v hv => ?_) (fun o' v hv => ?_) (fun b hv => by rw [hupd, if_pos rfl] at hv; rw [hb]; exact hv)⟩
 ·rw [hupd, if_pos rfl] at hv
  cases hv
  refine ⟨by rw [hn, clearL_length hle0], .inr ⟨hc, hp, cur', h2', by rw [h3, hsz, hsz1, Nat.mul_one], by rw [clearL_length hle0]; exact hle, fun q y hy j cv hcv => ?_⟩⟩
  have hj : j < cx.G.sz t := by rw [← cx.G.hsz t y]; exact (List.getElem?_eq_some_iff.1 hcv).1
  have hj0 : j = 0 := by omega
  subst hj0
  rw [clearL_get hle0] at hy
  rw [hsz1, Nat.mul_one, Nat.add_zero, h4, Nat.add_zero, List.length_replicate]
  by_cases e : i ≤ q ∧ q < i + n
  ·rw [if_pos e] at hy ⊢
   cases hy
   rw [henc] at hcv
   simp only [List.getElem?_cons_zero, Option.some.injEq] at hcv
   subst hcv
   exact ⟨z, by rw [List.getElem?_replicate, if_pos (by omega)], .v z⟩
  ·rw [if_neg e] at hy ⊢
   obtain ⟨u, h10, h11⟩ := hin q y hy 0 cv hcv
   rw [hsz1, Nat.mul_one, Nat.add_zero] at h10
   exact ⟨u, h10, h11.mono (fun _ h => h) hAw⟩
 ·rw [hupd, if_neg (by simp)] at hv
  obtain ⟨ty, n', h10⟩ := h.cell L o' v hv
  rw [hb] at h10; cases h10
theorem zeroCells_one {z : Value} {n : Nat} : (Builtin.zeroCells #[z] n).toList = List.replicate n z := by
 apply List.ext_getElem?
 intro i
 simp only [Builtin.zeroCells, Array.toList_map, Array.toList_range, List.getElem?_map, List.getElem?_replicate, List.size_toArray, List.length_singleton, Nat.mul_one]
 by_cases h : i < n
 ·simp [h, Nat.mod_one]
 ·simp [h]
theorem op_clear {ty e L ety t : Nat} {x : Operand} {i n : Int} {l : List (E.G.car t)} {x0 : E.G.car t} {z : Value} (hx : Ev E s x (.w L i n 1)) (hel : sliceEl E.P ty = some e) (hz : zeroL E.P e = some [z]) (hL : s (.o L) = some (.row ety t l)) (hsz1 : E.G.sz t = 1) (hdec : E.G.dec t [CV.v z] = some x0) (hone : oneC z = true) :
  OpRun (cxOf E b) ⟨none, .call ⟨.builtin .clear, #[x], #[ty]⟩, type, pos, after, guard⟩ s ⟨.o L :: okeysL [x], [(.o L, some (.row ety t (clearL l i.toNat n.toNat x0)))], []⟩ := by
 intro m A ac w g hr hf hrel K Q hK
 obtain ⟨e1, k1⟩ := hx.eval hrel (fun k hk => hr k (reads_mem (by simp [okeysL, hk])))
 have hgL : g (.o L) = some (.row ety t l) := (hr (.o L) (reads_mem (by simp))).trans hL
 obtain ⟨q1, q2, q3⟩ := k1
 obtain ⟨hlen, hrow⟩ := hrel.ent _ _ hgL
 have hun : E.P.underlying ty = some (.slice e) := by
  unfold sliceEl at hel
  split at hel
  ·rename_i e' he'; cases hel; exact he'
  ·cases hel
 obtain ⟨inf, zv, hi, hzz, hc⟩ := zeroL_spec hz
 refine ⟨fun _ _ => trivial, ?_⟩
 rw [semAt_of _ _ (fun _ h => by cases h)]
 rcases Nat.eq_zero_or_pos n.toNat with hn | hn
 ·have hrun : (execOp ac.eval ⟨none, .call ⟨.builtin .clear, #[x], #[ty]⟩, type, pos, after, guard⟩).run E.P w = .ok (.value (.tuple #[])) w := by
   simp only [execOp, resolve, invoke, builtin, Builtin.clear_, Sem.run_bind, List.getElem?_toArray]
   simp [e1, den, hn, run_underlying hun]
   split <;> simp_all
  rw [hrun]
  refine hK m A ac w (hrel.congr fun k => ?_)
  rw [upd_one, hn]
  have : clearL l i.toNat 0 x0 = l := by simp [clearL]
  rw [this]
  by_cases e3 : k = .o L
  ·subst e3; simp [hgL]
  ·simp [Ne.symm e3]
 ·obtain ⟨w', hp, hrun, hrel'⟩ := hrel.clearRow (i := i.toNat) (n := n.toNat) (x0 := x0) (z := z) hgL hsz1 (E.G.hdec _ _ _ hdec) hone (by omega) hn
  have hcne : (m L).c ≠ i.toNat := by
   rcases hrow with ⟨_, hl, _⟩ | ⟨_, _, cur, _, _, h7, _⟩
   ·subst hl; simp at hlen; omega
   ·omega
  have hrun' : (execOp ac.eval ⟨none, .call ⟨.builtin .clear, #[x], #[ty]⟩, type, pos, after, guard⟩).run E.P w = .ok (.value (.tuple #[])) w' := by
   obtain ⟨n', hn'⟩ : ∃ n', n.toNat = n' + 1 := ⟨n.toNat - 1, by omega⟩
   have h9 : (storeCells ⟨(m L).b, i.toNat, none⟩ (Builtin.zeroCells zv.cells (n' + 1)).toList).run E.P w = .ok () w' := by
    rw [hc, ← hn']; rw [show (Builtin.zeroCells [z].toArray n.toNat).toList = List.replicate n.toNat z from zeroCells_one]; exact hrun
   simp [execOp, resolve, invoke, builtin, Builtin.clear_, e1, den, hn', run_underlying hun, if_neg hcne, hp, zeroValue, typeInfo, hi, hzz, addr_add, h9]
  rw [hrun']
  exact hK m A ac w' hrel'
theorem Rel.reslice {cx : Cx} {m : Nat → MV} {A : Nat → Prop} {g : CMap cx} {a : Act} {w : World} {L N ety t e : Nat} {l : List (cx.G.car t)} (h : Rel cx m A g a w) (hL : g (.o L) = some (.row ety t l)) (hN : Free cx N g) (he : e ≤ l.length) :
  Rel cx (setL m N { b := (m L).b, p := (m L).p, n := e, c := (m L).c }) A (upd [(.o L, none), (.o N, some (.row ety t (l.take e)))] g) a w := by
 have hLN : N ≠ L := fun e => by subst e; rw [free_none hN (by simp [keyHas])] at hL; cases hL
 have hu : ∀ k, upd [(.o L, none), (.o N, some (Val.row ety t (l.take e)))] g k = if k = .o L then none else if k = .o N then some (.row ety t (l.take e)) else g k := fun k => upd_two hLN k
 obtain ⟨hlen, hrow⟩ := h.ent _ _ hL
 have hnew : ∀ v, upd [(.o L, none), (.o N, some (Val.row ety t (l.take e)))] g (.o N) = some v → v = .row ety t (l.take e) := fun v hv => by
  rw [hu, if_neg (by simp [hLN]), if_pos rfl] at hv
  exact (Option.some.inj hv).symm
 have hown : ∀ l0 bb, (l0 = L ∨ l0 = N) → Owns (setL m N { b := (m L).b, p := (m L).p, n := e, c := (m L).c }) l0 (upd [(.o L, none), (.o N, some (Val.row ety t (l.take e)))] g (.o l0)) bb → l0 = N ∧ (m L).c ≠ 0 ∧ bb = (m L).b := fun l0 bb hl ho => by
  rcases hl with rfl | rfl
  ·rw [hu, if_pos rfl] at ho; exact ho.elim
  ·rw [hu, if_neg (by simp [hLN]), if_pos rfl] at ho
   obtain ⟨h1, h2⟩ := ho
   rw [setL_self] at h1 h2
   exact ⟨rfl, h1, h2⟩
 refine h.regive (T := fun l0 => l0 = L ∨ l0 = N) (fun k hk => ?_) (fun k hk l0 hl0 => ?_) (fun l0 o hl => ?_) (fun l0 v hl hv => ?_) (fun l0 bb hl ho => ?_) (fun l0 l1 bb hl hl' ho ho' => (hown l0 bb hl ho).1.trans (hown l1 bb hl' ho').1.symm) (fun p hp => setL_ne _ _ (hN.2.1 p hp)) (fun L' hL' => setL_ne _ _ (by have := hN.2.2; omega))
 ·rw [hu, if_neg (hk L (.inl rfl)), if_neg (hk N (.inr rfl))]
 ·cases e0 : g k with
  | none => rw [e0] at hl0; cases hl0
  | some v => rw [e0] at hl0; exact setL_ne _ _ (free_ne hN e0 l0 hl0)
 ·rcases hl with rfl | rfl
  ·cases e0 : g (.c l0 o) with
   | none => rfl
   | some v => obtain ⟨ty, n, h1⟩ := h.cell l0 o v e0; rw [hL] at h1; cases h1
  ·exact free_none hN (by simp [keyHas])
 ·rcases hl with rfl | rfl
  ·rw [hu, if_pos rfl] at hv; cases hv
  ·have := hnew v hv
   subst this
   refine ⟨by rw [setL_self, List.length_take, Nat.min_eq_left he], ?_⟩
   rw [setL_self]
   rcases hrow with ⟨h1, h2, h3⟩ | ⟨h1, h2, cur, h3, h4, h5, h6⟩
   ·exact .inl ⟨h1, by rw [h2]; simp, h3⟩
   ·refine .inr ⟨h1, h2, cur, h3, h4, Nat.le_trans (by rw [List.length_take]; exact Nat.min_le_right _ _) h5, fun i x hx j cv hcv => h6 i x ?_ j cv hcv⟩
    rw [List.getElem?_take] at hx
    split at hx
    ·exact hx
    ·cases hx
 ·obtain ⟨_, h1, h2⟩ := hown l0 bb hl ho
  exact ⟨L, .inl rfl, by rw [hL]; exact ⟨h1, h2⟩⟩
theorem op_reslice {ty L ety t sz N : Nat} {x y : Operand} {u : SV} {k : IntKind} {e : Int} {l : List (E.G.car t)} {nw : List Nat} (hN : d < b.N) (hx : Ev E s x (.h L)) (hy : Ev E s y u) (hu : ∀ m, den m u = .int k e) (hL : s (.o L) = some (.row ety t l)) (h : sliceSz E.P ty = some sz) (h0 : 0 ≤ e ∧ e ≤ (l.length : Int)) (hnN : N ∈ nw) :
  OpRun (cxOf E b) ⟨some d, .slice ty x none (some y) none, type, pos, after, guard⟩ s ⟨.o L :: (okeys x ++ okeys y), (.t d, some (.x (.h N))) :: [(.o L, none), (.o N, some (.row ety t (l.take e.toNat)))], nw⟩ :=
 op_gen rfl hN (fun _ h => by cases h) fun m A a w g hr hf hrel => by
  have e1 := (hx.eval hrel (fun k hk => hr k (by simp [hk]))).1
  have e2 := (hy.eval hrel (fun k hk => hr k (by simp [hk]))).1
  rw [hu] at e2
  have hgL : g (.o L) = some (.row ety t l) := (hr (.o L) (by simp)).trans hL
  obtain ⟨hlen, hrow⟩ := hrel.ent _ _ hgL
  refine ⟨_, A, w, ?_, trivial, hrel.reslice (e := e.toNat) hgL (hf N hnN) (by omega)⟩
  have hcap : (m L).n ≤ (m L).c := by
   rcases hrow with ⟨_, h7, _⟩ | ⟨_, _, cur, _, _, h7, _⟩
   ·rw [hlen, h7]; exact Nat.zero_le _
   ·rw [hlen]; exact h7
  have h2 := run_slice2 (P := E.P) (p := (m L).p) (n := (m L).n) (c := (m L).c) (a := 0) (e := e.toNat) (lo := none) (hi := some (.int k e)) h (.inl ⟨rfl, rfl⟩) (.inr ⟨k, by rw [Int.toNat_of_nonneg h0.1]⟩) (Nat.zero_le _) (by omega) hcap w
  have h3 : (if (m L).c = 0 then (m L).p else (m L).p.map (·.add (0 * sz))) = (m L).p := by
   split
   ·rfl
   ·rename_i hc
    rcases hrow with ⟨h7, _⟩ | ⟨_, h7, _⟩
    ·exact absurd h7 hc
    ·rw [h7]; simp [addr_add]
  rw [h3] at h2
  simp only [Nat.sub_zero] at h2
  simp [execOp, e1, e2, den, h2, setL_self]
theorem Rel.recells {cx : Cx} {m : Nat → MV} {A : Nat → Prop} {g : CMap cx} {a : Act} {w : World} {us : St cx.G.car} (h : Rel cx m A g a w) (hno : ∀ k, touches k us = true → ∃ L q, k = .c L q)
  (hus : ∀ L q v, upd us g (.c L q) = some v → g (.c L q) = some v ∨ ∃ x y, v = .x y ∧ g (.c L q) = some (.x x) ∧ den m y = den m x ∧ y.ok m) : Rel cx m A (upd us g) a w := by
 have same : ∀ k, (∀ L q, k ≠ .c L q) → upd us g k = g k := fun k hk => upd_of_touches (by
  cases e : touches k us with
  | false => rfl
  | true => obtain ⟨L, q, h1⟩ := hno k e; exact absurd h1 (hk L q)) g
 refine ⟨h.size, h.defers, fun k v hk => ?_, fun L q v hv => ?_, fun L b hL => h.own L b (by rw [same _ (by simp)] at hL; exact hL), fun L L' b hL hL' => h.inj L L' b (by rw [same _ (by simp)] at hL; exact hL) (by rw [same _ (by simp)] at hL'; exact hL'), h.frzc, h.held, h.top, h.fix, h.ko, h.frz0, h.frzA, h.pins⟩
 ·by_cases e : ∃ L q, k = .c L q
  ·obtain ⟨L, q, rfl⟩ := e
   rcases hus L q v hk with h1 | ⟨x, y, rfl, h1, h2, h3⟩
   ·exact h.ent _ _ h1
   ·obtain ⟨⟨cur, ty, h4, h5⟩, h6⟩ := h.ent _ _ h1
    exact ⟨⟨cur, ty, h4, by rw [h5, h2]⟩, h3⟩
  ·rw [same k (fun L q h1 => e ⟨L, q, h1⟩)] at hk
   exact h.ent k v hk
 ·rw [same _ (by simp)]
  rcases hus L q v hv with h1 | ⟨x, y, rfl, h1, _, _⟩
  ·exact h.cell L q _ h1
  ·exact h.cell L q _ h1
def ArOK {E : Env} (s : Map E.G.car) (L : Nat) (i a : Int) (kq : IntKind) : Nat → Nat → Nat → St E.G.car → List Key → Prop
 | 0, _, _, us, ks => us = [] ∧ ks = []
 | n + 1, e, q, us, ks => ∃ v b us' ks', s (.c L q) = some (.x v) ∧ (∀ m, den m v = .int kq b) ∧ us = (.c L q, some (.x (.i kq (if i = (e : Int) then a else b)))) :: us' ∧ ks = .c L q :: ks' ∧ ArOK s L i a kq n (Nat.succ e) (Nat.succ q) us' ks'
theorem arCells_sound {c : EC E} {M : Map E.G.car} (hS : Sees c M) {L : Nat} {i a : Int} {kq : IntKind} : ∀ {n e q : Nat} {K : St E.G.car → List Key → Option R}, arCells c L i a kq n e q K = some r → ∃ us ks, K us ks = some r ∧ ArOK M L i a kq n e q us ks := by
 intro n
 induction n with
 | zero => intro e q K h; exact ⟨_, _, h, rfl, rfl⟩
 | succ n ih =>
  intro e q K h
  unfold arCells at h
  split at h
  ·rename_i v hv
   obtain ⟨k', b, l, h1, h2⟩ := intK_sound h
   obtain ⟨h3, h4⟩ := bif_some h1
   have h3 := of_decide_eq_true h3
   subst h3
   obtain ⟨us, ks, h5, h6⟩ := ih h4
   exact ⟨_, _, h5, v, b, us, ks, (hS.c L q).trans hv, h2, rfl, rfl, h6⟩
  ·cases h
theorem ArOK.touch {M : Map E.G.car} {L : Nat} {i a : Int} {kq : IntKind} : ∀ {n e q : Nat} {us : St E.G.car} {ks : List Key}, ArOK M L i a kq n e q us ks → ∀ k, touches k us = true → ∃ j, q ≤ j ∧ k = .c L j := by
 intro n
 induction n with
 | zero => intro e q us ks h k hk; rw [h.1] at hk; cases hk
 | succ n ih =>
  intro e q us ks h k hk
  obtain ⟨v, b, us', ks', _, _, rfl, _, h5⟩ := h
  simp only [touches, Bool.or_eq_true] at hk
  rcases hk with hk | hk
  ·exact ⟨q, Nat.le_refl _, (Key.eqb_iff.1 hk).symm⟩
  ·obtain ⟨j, h6, h7⟩ := ih h5 k hk
   exact ⟨j, by omega, h7⟩
theorem ArOK.get {M : Map E.G.car} {L : Nat} {i a : Int} {kq : IntKind} : ∀ {n e q : Nat} {us : St E.G.car} {ks : List Key}, ArOK M L i a kq n e q us ks → ∀ j, q ≤ j → j < q + n →
  ∃ v b, M (.c L j) = some (.x v) ∧ (∀ m, den m v = .int kq b) ∧ .c L j ∈ ks ∧ ∀ g, upd us g (.c L j) = some (.x (.i kq (if i = ((e + (j - q) : Nat) : Int) then a else b))) := by
 intro n
 induction n with
 | zero => intro e q us ks h j h1 h2; omega
 | succ n ih =>
  intro e q us ks h j h1 h2
  obtain ⟨v, b, us', ks', h3, h4, rfl, rfl, h5⟩ := h
  by_cases e0 : q = j
  ·subst e0
   refine ⟨v, b, h3, h4, by simp, fun g => ?_⟩
   rw [upd_cons, if_pos rfl, Nat.sub_self, Nat.add_zero]
  ·obtain ⟨v', b', h6, h7, h8, h9⟩ := ih h5 j (by omega) (by omega)
   refine ⟨v', b', h6, h7, by simp [h8], fun g => ?_⟩
   rw [upd_cons, if_neg (by simp [e0]), h9, show Nat.succ e + (j - Nat.succ q) = e + (j - q) by omega]
theorem op_arStore {ty ty' L o' n t N : Nat} {x y : Operand} {i a : Int} {u : SV} {kq : IntKind} {us : St E.G.car} {ks : List Key} (hx : Ev E s x (.a L o' i n 1 0 t)) (hy : Ev E s y u) (hu : ∀ m, den m u = .int kq a) (hL : s (.o L) = some (.sh ty' N)) (hsz : sizeIn E.P ty = some 1) (hle : o' + n ≤ N) (har : ArOK s L i a kq n 0 o' us ks) :
  OpRun (cxOf E b) ⟨none, .store ty x y, type, pos, after, guard⟩ s ⟨(.o L :: ks) ++ (okeys x ++ okeys y), us, []⟩ := by
 intro m A ac w g hr hf hrel K Q hK
 obtain ⟨e1, k1⟩ := hx.eval hrel (fun k hk => hr k (reads_mem (by simp [hk])))
 obtain ⟨e2, _⟩ := hy.eval hrel (fun k hk => hr k (reads_mem (by simp [hk])))
 have hgL : g (.o L) = some (.sh ty' N) := (hr (.o L) (reads_mem (by simp))).trans hL
 obtain ⟨q1, q2⟩ := k1
 have hgks : ∀ k ∈ ks, g k = s k := fun k hk => hr k (reads_mem (by simp [hk]))
 rw [hu] at e2
 obtain ⟨w', hrun, hrel'⟩ := hrel.storeBox (o := o' + i.toNat) (ys := [.i kq a]) ⟨trivial, trivial⟩ (fun z hz => by rw [List.mem_singleton.1 hz]; rfl) hgL (by simp only [List.length_singleton]; omega)
 refine ⟨fun _ _ => trivial, ?_⟩
 rw [semAt_of _ _ (by simp)]
 have hrun' : (execOp ac.eval ⟨none, .store ty x y, type, pos, after, guard⟩).run E.P w = .ok .skip w' := by
  unfold sizeIn at hsz
  cases hi : E.P.info? ty with
  | none => rw [hi] at hsz; cases hsz
  | some inf =>
   rw [hi] at hsz
   simp only [Option.map_some, Option.some.injEq] at hsz
   simp only [denL, den] at hrun
   simp [execOp, e1, e2, den, Instr.storeAt, Instr.sureAddr, storeVar, sizeOf, typeInfo, hi, hsz, Value.cells, hrun]
 rw [hrun']
 have hcell : ∀ k, upd (cellsUp L (o' + i.toNat) [SV.i kq a]) g k = if k = .c L (o' + i.toNat) then some (.x (.i kq a)) else g k := fun k => by
  simp only [cellsUp]
  rw [upd_one]
  by_cases e : k = .c L (o' + i.toNat)
  ·simp [e]
  ·simp [e, Ne.symm e]
 have hfin := hrel'.recells (us := us) (fun k hk => by obtain ⟨j, _, h2⟩ := har.touch k hk; exact ⟨L, j, h2⟩) (fun L' q v hv => ?_)
 ·refine hK m A ac w' (hfin.congr fun k => ?_)
  by_cases ht : touches k us = true
  ·obtain ⟨j, hj, rfl⟩ := har.touch k ht
   by_cases hjn : j < o' + n
   ·obtain ⟨_, _, _, _, _, h6⟩ := har.get j hj hjn
    rw [h6, h6]
   ·have : ∀ {n e q : Nat} {us : St E.G.car} {ks : List Key}, ArOK s L i a kq n e q us ks → q + n ≤ j → touches (.c L j) us = false := by
     intro n
     induction n with
     | zero => intro e q us ks h _; rw [h.1]; rfl
     | succ n ih =>
      intro e q us ks h hle
      obtain ⟨v, b, us', ks', _, _, rfl, _, h5⟩ := h
      simp only [touches, Bool.or_eq_false_iff]
      refine ⟨?_, ih h5 (by omega)⟩
      cases e0 : Key.eqb (.c L q) (.c L j) with
      | false => rfl
      | true => have := Key.eqb_iff.1 e0; cases this; omega
    rw [this har (by omega)] at ht
    cases ht
  ·have ht : touches k us = false := by simpa using ht
   rw [upd_of_touches ht, upd_of_touches ht, hcell, if_neg]
   rintro rfl
   obtain ⟨_, _, _, _, _, h6⟩ := har.get (o' + i.toNat) (by omega) (by omega)
   have h7 := h6 (fun _ => none)
   rw [upd_of_touches ht] at h7
   cases h7
 ·by_cases ht : touches (.c L' q) us = true
  ·obtain ⟨j, hj, e0⟩ := har.touch _ ht
   cases e0
   by_cases hjn : q < o' + n
   ·obtain ⟨v0, b0, h3, h4, h5, h6⟩ := har.get q hj hjn
    rw [h6] at hv
    cases hv
    refine .inr ?_
    by_cases e0 : q = o' + i.toNat
    ·refine ⟨.i kq a, _, rfl, (hcell _).trans (if_pos (by rw [e0])), ?_, trivial⟩
     have : i = ((0 + (q - o') : Nat) : Int) := by omega
     simp only [den, if_pos this]
    ·refine ⟨v0, _, rfl, ((hcell _).trans (if_neg (by simp [e0]))).trans ((hgks _ h5).trans h3), ?_, trivial⟩
     have : ¬ i = ((0 + (q - o') : Nat) : Int) := by omega
     rw [h4]
     simp only [den, if_neg this]
   ·exact .inl (by
     have h9 := hv
     have : ∀ {n e q0 : Nat} {us : St E.G.car} {ks : List Key}, ArOK s L i a kq n e q0 us ks → q0 + n ≤ q → touches (.c L q) us = false := by
      intro n
      induction n with
      | zero => intro e q0 us ks h _; rw [h.1]; rfl
      | succ n ih =>
       intro e q0 us ks h hle
       obtain ⟨v, b, us', ks', _, _, rfl, _, h5⟩ := h
       simp only [touches, Bool.or_eq_false_iff]
       refine ⟨?_, ih h5 (by omega)⟩
       cases e0 : Key.eqb (.c L q0) (.c L q) with
       | false => rfl
       | true => have := Key.eqb_iff.1 e0; cases this; omega
     rw [this har (by omega)] at ht
     cases ht)
  ·have ht : touches (.c L' q) us = false := by simpa using ht
   rw [upd_of_touches ht] at hv
   exact .inl hv
theorem chk_so' {p : Prop} {dec : Decidable p} {α : Type} {x : Option α} {r : α} (h : @chk α p dec x = some r) : p ∧ x = some r := @chk_so p dec α x r h
theorem apartM_so {kt : Nat} {x : E.G.car kt} : ∀ {hs : List (E.G.car kt × Nat)} {k : Option R}, apartM E kt x hs k = some r → k = some r ∧ ∀ p ∈ hs, p.1 ≠ x := by
 intro hs
 induction hs with
 | nil => intro k h; exact ⟨h, fun p hp => nomatch hp⟩
 | cons q hs ih =>
  intro k h
  obtain ⟨y, a⟩ := q
  obtain ⟨h1, h2⟩ := chk_so' h
  obtain ⟨h3, h4⟩ := ih h2
  refine ⟨h3, fun p hp => ?_⟩
  rcases List.mem_cons.1 hp with rfl | hp
  ·exact h1
  ·exact h4 p hp
theorem ownRow_sound {c : EC E} {M : Map E.G.car} (hS : Sees c M) {L : Nat} {K : Nat → (t : Nat) → List (E.G.car t) → Option R} (h : ownRow c.s L K = some r) : ∃ e t l, K e t l = some r ∧ M (.o L) = some (.row e t l) := by
 unfold ownRow at h
 split at h
 ·rename_i e t l hb
  exact ⟨e, t, l, h, (hS.o L).trans hb⟩
 ·cases h
section
variable {c : EC E} {M : Map E.G.car}
theorem in1 {a : Nat} : a ∈ newL a (Nat.succ (Nat.succ a)) := mem_newL.2 ⟨Nat.le_refl _, by omega⟩
theorem in2 {a : Nat} : Nat.succ a ∈ newL a (Nat.succ (Nat.succ a)) := mem_newL.2 ⟨by omega, by omega⟩
theorem in0 {a : Nat} : a ∈ newL a (Nat.succ a) := mem_newL.2 ⟨Nat.le_refl _, by omega⟩
theorem in31 {a : Nat} : a ∈ newL a (Nat.succ (Nat.succ (Nat.succ a))) := mem_newL.2 ⟨Nat.le_refl _, by omega⟩
theorem in32 {a : Nat} : Nat.succ a ∈ newL a (Nat.succ (Nat.succ (Nat.succ a))) := mem_newL.2 ⟨by omega, by omega⟩
theorem in33 {a : Nat} : Nat.succ (Nat.succ a) ∈ newL a (Nat.succ (Nat.succ (Nat.succ a))) := mem_newL.2 ⟨by omega, by omega⟩
theorem dpIx_sound (hS : Sees c M) {ty : TypeId} {x y : Operand} {v w : SV} {d : Nat} {K : OpRes E.G.car → Option R} (hx : Ev E M x v) (hy : Ev E M y w) (h : dpIx c ty x y v w d K = some r) :
  ∃ res, K res = some r ∧ ResOK c M ⟨some d, .indexAddr ty x y, type, pos, after, guard⟩ res := by
 obtain ⟨k, i, lit, h, hi⟩ := intK_sound h
 cases v with
 | h L =>
  simp only at h
  split at h
  ·rename_i n sz h2 h3
   obtain ⟨h5, h⟩ := chk_so h
   exact ⟨_, h, fun _ b hd => by rw [newL_self]; exact op_dpIx (hd d rfl) hx hy hi ((hS.x L).trans h2) h3 h5⟩
  ·rename_i sz h3 _
   split at h
   ·rename_i h2
    obtain ⟨h5, h⟩ := chk_so h
    exact ⟨_, h, fun _ b hd => by rw [newL_self]; exact op_dpIx2 (hd d rfl) hx hy hi ((hS.o L).trans h2) h3 h5⟩
   ·cases h
  ·cases h
 | _ => cases h
theorem dpApp_sound (hS : Sees c M) {tt : TypeId} {x y : Operand} {v u : SV} {d : Nat} {K : OpRes E.G.car → Option R} (hx : Ev E M x v) (hy : Ev E M y u) (h : dpApp c tt x y v u d K = some r) :
  ∃ res, K res = some r ∧ ResOK c M ⟨some d, .call ⟨.builtin .append, #[x, y], #[tt, tt]⟩, type, pos, after, guard⟩ res := by
 unfold dpApp at h
 split at h
 ·rename_i LB cp
  split at h
  ·rename_i bl ety sz bytes t hc hf ht
   obtain ⟨e', t', q, h1, hrow⟩ := ownRow_sound hS h
   clear h
   split at h1
   ·rename_i x' hdec
    cases hb : (!(Nat.beq sz 1 && Nat.beq sz (E.G.sz t) && Nat.ble bytes 100000 && E.G.flat t')) with
    | true => rw [hb, cond_true] at h1; cases h1
    | false =>
     rw [hb, cond_false] at h1
     simp only [Bool.not_eq_false', Bool.and_eq_true] at hb
     obtain ⟨⟨⟨b1, b2⟩, b3⟩, b4⟩ := hb
     have b1 := Nat.eq_of_beq_eq_true b1
     have b2 := Nat.eq_of_beq_eq_true b2
     subst b1
     have henc := E.G.hdec _ _ _ hdec
     have hcell : M (.c LB 0) = some (.x (.h bl)) := (hS.c LB 0).trans hc
     split at h1
     ·refine ⟨_, h1, fun _ b hd => ?_⟩
      exact op_dpApp (dr := []) (rd := []) (hd d rfl) (by rw [← b2]; exact hf) b2.symm (Nat.le_of_ble_eq_true b3) hx hy hcell hrow b4 henc .nil (fun L e => nomatch e) (by simp) in1 in2 (by omega)
     ·rename_i L
      split at h1
      ·rename_i ety2 t2 e2 l S0 hL
       split at h1
       ·rename_i heq
        subst heq
        obtain ⟨h2, h3⟩ := bif_some h1
        simp only [Bool.and_eq_true] at h2
        have h4 := Nat.eq_of_beq_eq_true h2.1
        have h5 := Nat.eq_of_beq_eq_true h2.2
        subst h4; subst h5
        obtain ⟨h6, h7⟩ := chk_so h3
        refine ⟨_, h7, fun _ b hd => ?_⟩
        exact op_dpApp (dr := [(.o L, none)]) (rd := [.o L]) (hd d rfl) (by rw [← b2]; exact hf) b2.symm (Nat.le_of_ble_eq_true b3) hx hy hcell hrow b4 henc (.row ((hS.o L).trans hL)) (fun L' e => by cases e; simp) h6 in1 in2 (by omega)
       ·cases h1
      ·cases h1
     ·cases h1
   ·cases h1
  ·cases h
 ·cases h
theorem dpLoad_sound (hS : Sees c M) {ty : TypeId} {x : Operand} {v : SV} {d : Nat} {hh : Hint} {K : OpRes E.G.car → Hint → Option R} (hx : Ev E M x v) (h : dpLoad c ty x v d hh K = some r) :
  ∃ res h', K res h' = some r ∧ ResOK c M ⟨some d, .load ty x, type, pos, after, guard⟩ res := by
 cases v with
 | e L i k j =>
  simp only [dpLoad] at h
  split at h
  ·rename_i ety t es l hs S h1
   split at h
   ·rename_i hsh
    have hb0 := bif_some' h
    clear h
    obtain ⟨h2, h⟩ := hb0
    have h2 : k = E.G.sz t := Nat.eq_of_beq_eq_true (by simpa using h2)
    subst h2
    split at h
    ·split at h
     ·rename_i a1 i0 j0 a a2 hn
      obtain ⟨h3, h6⟩ := bif_some h
      simp only [Bool.and_eq_true, Nat.blt_eq] at h3
      have h7 := Nat.eq_of_beq_eq_true h3.1
      have h9 := h3.2
      subst h7
      obtain ⟨h4, h8⟩ := chk_so h6
      refine ⟨_, _, h8, fun _ b hd => ?_⟩
      rw [newL_self]
      exact op_dpHole (hd d rfl) hx ((hS.o L).trans h1) hsh (nthH_spec hn) h4 h9
     ·cases h
    ·split at h
     ·rename_i t' q e' hcv he
      have hdec : ∀ {z : Option R}, apartK i j hs z = some r → z = some r ∧ (0 ≤ i → ∀ p ∈ hs, ¬ (p.1.toNat = i.toNat ∧ p.2.1 = j)) := by
       intro z hz
       by_cases hi : 0 ≤ i
       ·exact ⟨(apartK_so hi hz).1, fun _ => (apartK_so hi hz).2⟩
       ·have : ∀ {hs : List (Int × Nat × Nat)}, apartK i j hs z = some r → z = some r := by
         intro hs
         induction hs with
         | nil => exact id
         | cons q hs ih =>
          obtain ⟨i', j', a⟩ := q
          simp only [apartK]
          cases Nat.beq j' j with
          | true => intro h; exact ih (chk_so h).2
          | false => exact ih
        exact ⟨this hz, fun h => absurd h hi⟩
      obtain ⟨h, hno⟩ := hdec h
      exact ⟨_, _, h, fun _ b hd => op_dpOpen (hd d rfl) hx ((hS.o L).trans h1) hsh hcv he hno in1 in2 (by omega)⟩
     ·cases h
   ·cases h
  ·cases h
 | p L o =>
  simp only [dpLoad] at h
  split at h
  ·rename_i cs h1
   split at h
   ·rename_i y hsh hy
    refine ⟨_, _, h, fun _ b hd => ?_⟩
    rw [newL_self]
    exact op_rbLoad (hd d rfl) hx ((hS.x L).trans h1) hsh hy
   ·cases h
  ·cases h
 | _ => cases h
theorem dpStore_sound (hS : Sees c M) {ty : TypeId} {x y : Operand} {v u : SV} {hh : Hint} {K : OpRes E.G.car → Hint → Option R} (hx : Ev E M x v) (hy : Ev E M y u) (h : dpStore c ty x y v u hh K = some r) :
  ∃ res h', K res h' = some r ∧ ResOK c M ⟨none, .store ty x y, type, pos, after, guard⟩ res := by
 unfold dpStore at h
 split at h
 ·rename_i L i k j nb
  split at h
  ·rename_i ety t es l hs S h1 hsz
   have hb0 := bif_some' h
   clear h
   obtain ⟨h2, h⟩ := hb0
   simp only [Bool.not_eq_false', Bool.and_eq_true, Nat.blt_eq] at h2
   obtain ⟨h2, hjk⟩ := h2
   have h2 : k = E.G.sz t := Nat.eq_of_beq_eq_true h2
   subst h2
   split at h
   ·rename_i a1 i0 j0 a a2 hn
    obtain ⟨e', t', q, h3, hrow⟩ := ownRow_sound hS h
    split at h3
    ·rename_i e'' x' he hdec
     obtain ⟨h4, h5⟩ := bif_some h3
     simp only [Bool.and_eq_true] at h4
     have h6 := Nat.eq_of_beq_eq_true h4.1.1
     have h7 := Nat.eq_of_beq_eq_true h4.1.2
     subst h6
     subst h7
     obtain ⟨h8, h9⟩ := chk_so h5
     exact ⟨_, _, h9, fun _ b _ => op_dpStore hx hy ((hS.o L).trans h1) hrow hsz (nthH_spec hn) h8 hjk he h4.2 hdec in0⟩
    ·cases h3
   ·cases h
  ·cases h
 ·cases h
theorem dmOpen_sound (hS : Sees c M) (hkeys : ∀ p ∈ E.keys, KeyOK E.P E.G p.1 p.2) {ty : TypeId} {x y : Operand} {v w : SV} {d : Nat} {hh : Hint} {K : OpRes E.G.car → Hint → Option R} {h' : Hint} (hx : Ev E M x v) (hy : Ev E M y w)
  (h : dmOpen c ty v w hh (fun L _ _ y' us nl => K ⟨.o L :: (okeys x ++ okeys y), (.t d, some (.x y')) :: us, nl⟩ h') = some r) :
  ∃ res, K res h' = some r ∧ ResOK c M ⟨some d, .lookup ty x y false, type, pos, after, guard⟩ res := by
 unfold dmOpen at h
 split at h
 ·rename_i L
  split at h
  ·rename_i kt t e l hs zs S h1
   obtain ⟨κ, h2, hkey, hki⟩ := keyK_sound h
   split at h2
   ·rename_i el hsl
    split at h2
    ·split at h2
     ·rename_i a1 κ0 a a2 hn
      obtain ⟨h3, h4⟩ := chk_so' h2
      subst h3
      refine ⟨_, h4, fun _ b hd => ?_⟩
      rw [newL_self]
      exact op_dmHole (hd d rfl) (hkeys _ hkey) (mapSL_spec hsl) hx hy hki ((hS.o L).trans h1) (nthH_spec hn)
     ·cases h2
    ·obtain ⟨h3, hno⟩ := apartM_so h2
     exact ⟨_, h3, fun _ b hd => op_dmOpen (hd d rfl) (hkeys _ hkey) (mapSL_spec hsl) hx hy hki ((hS.o L).trans h1) hno in1 in2 (by omega)⟩
   ·cases h2
  ·cases h
 ·cases h
theorem dmSet_sound (hS : Sees c M) (hkeys : ∀ p ∈ E.keys, KeyOK E.P E.G p.1 p.2) {ty : TypeId} {x y z : Operand} {v w u : SV} {hh : Hint} {K : OpRes E.G.car → Option R} (hx : Ev E M x v) (hy : Ev E M y w) (hz : Ev E M z u)
  (h : dmSet c ty x y z v w u hh K = some r) :
  ∃ res, K res = some r ∧ ResOK c M ⟨none, .mapUpdate ty x y z, type, pos, after, guard⟩ res := by
 unfold dmSet at h
 split at h
 ·rename_i L nb
  split at h
  ·rename_i kt t e l hs zs S h1
   obtain ⟨κ, h2, hkey, hki⟩ := keyK_sound h
   split at h2
   ·rename_i a1 κ0 a a2 hn
    obtain ⟨e', t', q, h3, hrow⟩ := ownRow_sound hS h2
    obtain ⟨h4, h5⟩ := bif_some h3
    simp only [Bool.and_eq_true] at h4
    have h6 := Nat.eq_of_beq_eq_true h4.1
    subst h6
    split at h5
    ·rename_i ht
     subst ht
     obtain ⟨h7, h8⟩ := chk_so' h5
     subst h7
     exact ⟨_, h8, fun _ b _ => op_dmSet (hkeys _ hkey) hx hy hki hz ((hS.o L).trans h1) hrow (nthH_spec hn) h4.2 in0⟩
    ·cases h5
   ·cases h2
  ·cases h
 ·cases h
theorem dmEntry_sound (hS : Sees c M) (hkeys : ∀ p ∈ E.keys, KeyOK E.P E.G p.1 p.2) {ty : TypeId} {x y : Operand} {v w : SV} {d : Nat} {K : OpRes E.G.car → Option R} (hx : Ev E M x v) (hy : Ev E M y w)
  (h : dmEntry c ty x y v w d K = some r) :
  ∃ res, K res = some r ∧ ResOK c M ⟨some d, .mapEntry ty x y, type, pos, after, guard⟩ res := by
 unfold dmEntry at h
 split at h
 ·rename_i L
  split at h
  ·rename_i kt t e l zs S h1
   obtain ⟨κ, h2, hkey, hki⟩ := keyK_sound h
   split at h2
   ·rename_i el hsl
    exact ⟨_, h2, fun _ b hd => op_dmEntry (hd d rfl) (hkeys _ hkey) (mapSL_spec hsl) hx hy hki ((hS.o L).trans h1) in31 in32 in33 (by omega) (by omega) (by omega)⟩
   ·cases h2
  ·cases h
 ·cases h
theorem dmStore_sound (hS : Sees c M) {ty : TypeId} {x y z : Operand} {v w u : SV} {K : OpRes E.G.car → Option R} (hx : Ev E M x v) (hy : Ev E M y w) (hz : Ev E M z u)
  (h : dmStore c ty x y z v w u K = some r) :
  ∃ res, K res = some r ∧ ResOK c M ⟨none, .entryStore ty x y z, type, pos, after, guard⟩ res := by
 unfold dmStore at h
 split at h
 ·rename_i L Z nb
  split at h
  ·rename_i kt t e l κ0 N κ Z' zs S h1
   have hb0 := bif_some h
   clear h
   obtain ⟨h2, h⟩ := hb0
   simp only [Bool.and_eq_true] at h2
   have h6 := Nat.eq_of_beq_eq_true h2.1
   subst h6
   obtain ⟨e', t', q, h3, hrow⟩ := ownRow_sound hS h
   obtain ⟨h4, h5⟩ := bif_some h3
   have h7 := Nat.eq_of_beq_eq_true h4
   subst h7
   split at h5
   ·rename_i ht
    subst ht
    obtain ⟨h7, h8⟩ := chk_so' h5
    subst h7
    exact ⟨_, h8, fun _ b _ => op_dmStore hx hy hz ((hS.o L).trans h1) hrow h2.2 in0⟩
   ·cases h5
  ·cases h
 ·cases h
set_option maxHeartbeats 1000000 in
theorem opDK_sound (hS : Sees c M) (hkeys : ∀ p ∈ E.keys, KeyOK E.P E.G p.1 p.2) {o : Oper} {hh : Hint} {K : OpRes E.G.car → Hint → Option R} (h : opDK c o hh K = some r) : ∃ res h', K res h' = some r ∧ ResOK c M o res := by
 obtain ⟨dst, op, type, pos, after, guard⟩ := o
 unfold opDK at h
 split at h
 ·cases h
 ·rename_i hante
  simp only at h
  split at h
  ·rename_i ty x y d
   obtain ⟨v, h1, hv⟩ := evK_sound hS h
   obtain ⟨w, h2, hw⟩ := evK_sound hS h1
   obtain ⟨res, h3, h4⟩ := dpIx_sound hS hv hw h2
   exact ⟨res, _, h3, h4⟩
  ·rename_i ty x d
   obtain ⟨v, h1, hv⟩ := evK_sound hS h
   exact dpLoad_sound hS hv h1
  ·rename_i ty x y
   obtain ⟨v, h1, hv⟩ := evK_sound hS h
   obtain ⟨u, h2, hu⟩ := evK_sound hS h1
   clear h h1
   split at h2
   ·rename_i L o' i n k j t
    unfold arStore at h2
    split at h2
    ·rename_i ty' N hb hsz
     obtain ⟨kq, a, l, h3, h4⟩ := intK_sound h2
     obtain ⟨h5, h6⟩ := bif_some h3
     simp only [Bool.and_eq_true] at h5
     have h7 := Nat.eq_of_beq_eq_true h5.1.1
     have h8 := Nat.eq_of_beq_eq_true h5.1.2
     subst h7; subst h8
     obtain ⟨us, ks, h9, h10⟩ := arCells_sound hS h6
     refine ⟨_, _, h9, fun _ b _ => ?_⟩
     rw [newL_self]
     exact op_arStore hv hu h4 ((hS.o L).trans hb) hsz (Nat.le_of_ble_eq_true h5.2) h10
    ·cases h2
   ·exact dpStore_sound hS hv hu h2
  ·rename_i bi ags ts d
   split at h
   ·rename_i x ty hx hty
    obtain ⟨v, h1, hv⟩ := evK_sound hS h
    clear h
    cases v with
    | h L =>
     simp only at h1
     split at h1
     ·rename_i n sz hn hsz
      have e1 : ags = #[x] := Array.ext' hx
      have e2 : ts = #[ty] := Array.ext' hty
      subst e1; subst e2
      refine ⟨_, _, h1, fun _ b hd => ?_⟩
      rw [newL_self]
      refine op_lenG (hd d rfl) hsz hv fun m A a w g hk hrel _ => ⟨trivial, (m L).p, (m L).n, (m L).c, rfl, ?_⟩
      have hat : (m L).n = n := (hrel.ent _ _ ((hk (.x L) (by simp)).trans ((hS.x L).trans hn))).1
      simp only [den, hat]
     ·rename_i sz hsz _
      split at h1
      ·rename_i hn
       have e1 : ags = #[x] := Array.ext' hx
       have e2 : ts = #[ty] := Array.ext' hty
       subst e1; subst e2
       refine ⟨_, _, h1, fun _ b hd => ?_⟩
       rw [newL_self]
       refine op_lenG (hd d rfl) hsz hv fun m A a w g hk hrel _ => ⟨trivial, (m L).p, (m L).n, (m L).c, rfl, ?_⟩
       have hat := (hrel.ent _ _ ((hk (.o L) (by simp)).trans ((hS.o L).trans hn))).1.1
       simp only [den, hat]
      ·cases h1
     ·cases h1
    | _ => cases h1
   ·rename_i x y ty ty' hx hty
    obtain ⟨h0, h1⟩ := bif_some h
    have h0 := Nat.eq_of_beq_eq_true h0
    subst h0
    have e1 : ags = #[x, y] := Array.ext' hx
    have e2 : ts = #[ty, ty] := Array.ext' hty
    subst e1; subst e2
    obtain ⟨v, h2, hv⟩ := evK_sound hS h1
    obtain ⟨u, h3, hu⟩ := evK_sound hS h2
    obtain ⟨res, h4, h5⟩ := dpApp_sound hS hv hu h3
    exact ⟨res, _, h4, h5⟩
   ·cases h
  ·rename_i bi ags ts
   split at h
   ·rename_i x ty hx hty
    obtain ⟨v, h1, hv⟩ := evK_sound hS h
    clear h
    split at h1
    ·rename_i L i n k
     split at h1
     ·rename_i z hz
      obtain ⟨ety, t, l, h2, hrow⟩ := ownRow_sound hS h1
      split at h2
      ·rename_i x0 hx0
       obtain ⟨h3, h4⟩ := bif_some h2
       simp only [Bool.and_eq_true] at h3
       have e1 : ags = #[x] := Array.ext' hx
       have e2 : ts = #[ty] := Array.ext' hty
       subst e1; subst e2
       have h5 := Nat.eq_of_beq_eq_true h3.2
       subst h5
       obtain ⟨e, hel, hze⟩ := Option.bind_eq_some_iff.1 hz
       refine ⟨_, _, h4, fun _ b _ => ?_⟩
       rw [newL_self]
       exact op_clear hv hel hze hrow (Nat.eq_of_beq_eq_true h3.1.1) hx0 h3.1.2
      ·cases h2
     ·cases h1
    ·cases h1
   ·cases h
  ·rename_i ty x y d
   obtain ⟨v, h1, hv⟩ := evK_sound hS h
   clear h
   split at h1
   ·rename_i L
    obtain ⟨w, h2, hw⟩ := evK_sound hS h1
    obtain ⟨k, e, la, h3, h4⟩ := intK_sound h2
    obtain ⟨ety, t, l, h5, hrow⟩ := ownRow_sound hS h3
    split at h5
    ·rename_i sz hsz
     obtain ⟨h6, h7⟩ := chk_so h5
     exact ⟨_, _, h7, fun _ b hd => op_reslice (hd d rfl) hv hw h4 hrow hsz h6 in0⟩
    ·cases h5
   ·cases h1
  ·rename_i ty x y ok d
   split at h
   ·obtain ⟨v, h1, hv⟩ := evK_sound hS h
    obtain ⟨w, h2, hw⟩ := evK_sound hS h1
    obtain ⟨res, h3, h4⟩ := dmOpen_sound hS hkeys hv hw h2
    exact ⟨res, _, h3, h4⟩
   ·split at h
    ·rename_i zs hzs
     obtain ⟨v, h1, hv⟩ := evK_sound hS h
     clear h
     split at h1
     ·rename_i L
      split at h1
      ·rename_i key l hmr
       obtain ⟨w, h2, hw⟩ := evK_sound hS h1
       obtain ⟨k, n, lit, h3, h4⟩ := intK_sound h2
       obtain ⟨h5, h6⟩ := bif_some h3
       have h5 := isI64_eq h5
       subst h5
       obtain ⟨res, h', h7, h8⟩ := mrSplit_sound h6
       refine ⟨_, _, h7, fun _ b hd => ?_⟩
       rw [newL_self]
       exact op_mrLookup (hd d rfl) hzs (mrOf_sound hS hmr) hv hw h4 h8
      ·cases h1
     ·cases h1
    ·cases h
  ·rename_i ty x y z
   split at h
   ·rename_i zs hzs
    obtain ⟨v, h1, hv⟩ := evK_sound hS h
    clear h
    split at h1
    ·rename_i L
     split at h1
     ·rename_i l hmr
      obtain ⟨w, h2, hw⟩ := evK_sound hS h1
      obtain ⟨k, n, lit, h3, h4⟩ := intK_sound h2
      obtain ⟨u, h5, hu⟩ := evK_sound hS h3
      clear h1 h2 h3
      split at h5
      ·rename_i vs
       split at h5
       ·rename_i us hus
        obtain ⟨h6, h7⟩ := bif_some h5
        simp only [Bool.and_eq_true] at h6
        have h8 := isI64_eq h6.1
        subst h8
        refine ⟨_, _, h7, fun _ b _ => ?_⟩
        rw [newL_self]
        exact op_mrInsert hzs ((hS.o L).trans hmr) hv hw h4 hu hus (getR_not h6.2)
       ·cases h5
      ·cases h5
     ·cases h1
    ·cases h1
   ·cases h
  ·rename_i ty x y z
   obtain ⟨v, h1, hv⟩ := evK_sound hS h
   obtain ⟨w, h2, hw⟩ := evK_sound hS h1
   obtain ⟨u, h3, hu⟩ := evK_sound hS h2
   obtain ⟨res, h4, h5⟩ := dmSet_sound hS hkeys hv hw hu h3
   exact ⟨res, _, h4, h5⟩
  ·rename_i ty x y d
   obtain ⟨v, h1, hv⟩ := evK_sound hS h
   obtain ⟨w, h2, hw⟩ := evK_sound hS h1
   obtain ⟨res, h3, h4⟩ := dmEntry_sound hS hkeys hv hw h2
   exact ⟨res, _, h3, h4⟩
  ·rename_i ty x y z
   obtain ⟨v, h1, hv⟩ := evK_sound hS h
   obtain ⟨w, h2, hw⟩ := evK_sound hS h1
   obtain ⟨u, h3, hu⟩ := evK_sound hS h2
   obtain ⟨res, h4, h5⟩ := dmStore_sound hS hv hw hu h3
   exact ⟨res, _, h4, h5⟩
  ·rename_i ty x y d
   obtain ⟨v, h1, hv⟩ := evK_sound hS h
   obtain ⟨w, h2, hw⟩ := evK_sound hS h1
   obtain ⟨k, n, la, h3, h4⟩ := intK_sound h2
   obtain ⟨k', p, lb, h5, h6⟩ := intK_sound h3
   clear h h1 h2 h3
   split at h5
   ·rename_i ety hety
    split at h5
    ·rename_i e0 sz bytes t e' ha ht hz he'
     obtain ⟨h7, h8⟩ := bif_some h5
     clear h5
     simp only [Bool.and_eq_true] at h7
     split at h8
     ·rename_i t' x0 hsl hx0
      obtain ⟨h9, h10⟩ := bif_some h8
      obtain ⟨h11, h12⟩ := chk_so h10
      have hs1 : E.G.sz t = 1 := (Nat.eq_of_beq_eq_true h7.1.2).symm.trans (Nat.eq_of_beq_eq_true h7.1.1)
      have hs2 := Nat.eq_of_beq_eq_true h7.1.2
      rw [hs2] at ha
      rw [hsl] at hx0
      exact ⟨_, _, h12, fun _ b hd => op_dpMake (hd d rfl) hv hw h4 h6 ha hety (Nat.le_of_ble_eq_true h7.2) hz hs1 h9 hx0 h11 in1 in2 (by omega)⟩
     ·cases h8
    ·cases h5
   ·cases h5
  ·rename_i ty d
   split at h
   ·rename_i el hsl
    split at h
    ·exact ⟨_, _, h, fun _ b hd => op_dmMake (hd d rfl) in1 in2 (by omega)⟩
    ·cases h
   ·split at h
    ·exact ⟨_, _, h, fun _ b hd => op_mrMake (hd d rfl)⟩
    ·cases h
  ·cases h
end
end
end
end Go.KX

namespace Go.KX
open Go Go.RowKit
noncomputable section
section
variable {E : Env} {R : Type} {r : R} {fx : Fix}
def Same0 (E : Env) (fx : Fix) (s s' : XS E.G.car) : Prop :=
 ∀ (b : Base) (m : Nat → MV) (A : Nat → Prop) (a : Act) (w : World), b.pn ≤ fx.pn → Rel (cxOf E b) m A (s.map 0) a w → ∃ m', Rel (cxOf E b) m' A (s'.map 0) a w
theorem Same0.refl (s : XS E.G.car) : Same0 E fx s s := fun _ m _ _ _ _ h => ⟨m, h⟩
theorem Same0.trans {s s' s'' : XS E.G.car} (h : Same0 E fx s s') (h' : Same0 E fx s' s'') : Same0 E fx s s'' := fun b m A a w hb hr => by
 obtain ⟨m1, h1⟩ := h b m A a w hb hr
 exact h' b m1 A a w hb h1
theorem oks_free {s : XS E.G.car} (hs : OKS E fx s) {b : Base} (hb : b.pn ≤ fx.pn) {L : Nat} (hL : s.nl ≤ L) : Free (cxOf E b) L (s.map 0) :=
 ⟨hs.inv.free hL, fun p hp e => by have := hs.glo p hp; omega, Nat.le_trans hb (Nat.le_trans hs.pn hL)⟩
theorem lab_rec {s : XS E.G.car} {L q : Nat} {v : Val E.G.car} (h : s.lab L q = some v) : ∃ e, s.rec? L q = some e ∧ e.v = some v := by
 simp only [XS.lab] at h
 split at h
 ·rename_i e he; exact ⟨e, he, h⟩
 ·cases h
theorem oks_lab {s : XS E.G.car} (hs : OKS E fx s) {L q : Nat} {v : Val E.G.car} (h : s.lab L q = some v) : L < s.nl ∧ v.lt s.nl = true := by
 obtain ⟨e, h1, h2⟩ := lab_rec h
 obtain ⟨h3, h4⟩ := hs.inv.o L q e h1
 exact ⟨h3, h4 v h2⟩
theorem close_step {d nl : Nat} {s : XS E.G.car} {u : St E.G.car} (hs : OKS E fx s) (hn : s.nl ≤ nl) (hu : upBelow nl u = true)
  (h : ∀ (b : Base) (m : Nat → MV) (A : Nat → Prop) (a : Act) (w : World), b.pn ≤ fx.pn → Rel (cxOf E b) m A (s.map 0) a w → ∃ m', Rel (cxOf E b) m' A (upd u (s.map 0)) a w) :
  OKS E fx ⟨(XS.updF d 0 u s).t, (XS.updF d 0 u s).o, nl⟩ ∧ Ext d s ⟨(XS.updF d 0 u s).t, (XS.updF d 0 u s).o, nl⟩ ∧ Same0 E fx s ⟨(XS.updF d 0 u s).t, (XS.updF d 0 u s).o, nl⟩ := by
 obtain ⟨h1, h2, h3⟩ := XS.map_updF d (f := 0) (by omega) s (upBelow_ups hu)
 refine ⟨⟨Inv.updF hs.inv hn hu, fun p hp => Nat.lt_of_lt_of_le (hs.glo p hp) hn, Nat.le_trans hs.pn hn⟩, ⟨h3.t, h3.o, hn⟩, fun b m A a w hb hr => ?_⟩
 obtain ⟨m', h4⟩ := h b m A a w hb hr
 exact ⟨m', h4.congr fun k => by rw [← h1]; rfl⟩
theorem closeN_sound {d L keep : Nat} : ∀ (n : Nat) (s : XS E.G.car) {K : XS E.G.car → Option R}, OKS E fx s → closeN d L keep n s K = some r → ∃ s', K s' = some r ∧ OKS E fx s' ∧ Ext d s s' ∧ Same0 E fx s s' := by
 intro n
 induction n with
 | zero => intro s K _ h; cases h
 | succ n ih =>
  intro s K hs h
  have hS : Sees (E := E) ⟨fun t => s.tmp 0 t, s, none⟩ (s.map 0) := ⟨fun i v hv => by
   have hv' : s.tmp 0 i = some v := hv
   simp only [XS.map, hv', Option.map_some], fun _ => rfl, fun _ => rfl, fun _ _ => rfl⟩
  have next : ∀ {u : St E.G.car} {nl : Nat}, s.nl ≤ nl → upBelow nl u = true → (∀ (b : Base) (m : Nat → MV) (A : Nat → Prop) (a : Act) (w : World), b.pn ≤ fx.pn → Rel (cxOf E b) m A (s.map 0) a w → ∃ m', Rel (cxOf E b) m' A (upd u (s.map 0)) a w) →
    (XS.upd d 0 u s fun s' => closeN d L keep n ⟨s'.t, s'.o, nl⟩ K) = some r → ∃ s', K s' = some r ∧ OKS E fx s' ∧ Ext d s s' ∧ Same0 E fx s s' := fun hn hu hrel hk => by
   rw [XS.upd_eq] at hk
   obtain ⟨o1, x1, e1⟩ := close_step (d := d) hs hn hu hrel
   obtain ⟨s', h1, o2, x2, e2⟩ := ih _ o1 hk
   exact ⟨s', h1, o2, x1.trans x2, e1.trans e2⟩
  unfold closeN at h
  split at h
  ·rename_i ety t es l i j a hs' S hL
   cases hkeep : (Nat.beq keep (Nat.succ a) && hs'.isEmpty) with
   | true => rw [hkeep, cond_true] at h; exact ⟨s, h, hs, Ext.refl _ _, Same0.refl _⟩
   | false =>
   rw [hkeep, cond_false] at h
   obtain ⟨e', t', q, h1, hrow⟩ := ownRow_sound (c := ⟨fun t => s.tmp 0 t, s, none⟩) hS h
   clear h
   split at h1
   ·rename_i e'' x' he hdec
    obtain ⟨h2, h3⟩ := bif_some h1
    simp only [Bool.and_eq_true, Nat.blt_eq] at h2
    obtain ⟨⟨h4, hfl⟩, hj⟩ := h2
    have h4 := Nat.eq_of_beq_eq_true h4
    subst h4
    obtain ⟨b1, b2⟩ := oks_lab hs hL
    obtain ⟨b3, _⟩ := oks_lab hs (show s.lab a 0 = some _ from hrow)
    simp only [Val.lt, Bool.and_eq_true, Nat.blt_eq, List.all_cons, List.all_eq_true] at b2
    refine next (Nat.le_succ _) (by
     simp only [upBelow, okUp, Val.lt, Bool.and_eq_true, Nat.blt_eq, List.all_eq_true, Bool.true_and, Bool.and_true]
     exact ⟨Nat.lt_succ_of_lt b3, ⟨Nat.lt_succ_of_lt b1, Nat.lt_succ_self _, fun q hq => Nat.lt_succ_of_lt (b2.2.2 q hq)⟩⟩) (fun b m A ac w hb hr => ?_) h3
    have hgL : s.map 0 (.o L) = some (.dp ety t es l ([] ++ (i, j, a) :: hs') S) := hL
    obtain ⟨_, _, hho⟩ := hr.ent _ _ hgL
    obtain ⟨g1, g2⟩ := hho.lt (i, j, a) (by simp)
    have hx1 : l[i.toNat]? = some (l.getD i.toNat (E.G.dft t)) := getD_some g1 g2
    obtain ⟨m', hrel2, _⟩ := hr.closeRow (S' := s.nl) (x' := x') (q := q) hgL hrow hx1 hj (E.G.hdec _ _ _ hdec) he hfl (oks_free hs hb (Nat.le_refl _))
    exact ⟨m', hrel2⟩
   ·cases h1
  ·rename_i kt t e l κ a hs' zs S hL
   obtain ⟨e', t', q, h1, hrow⟩ := ownRow_sound (c := ⟨fun t => s.tmp 0 t, s, none⟩) hS h
   clear h
   obtain ⟨h2, h3⟩ := bif_some h1
   simp only [Bool.and_eq_true] at h2
   have h4 := Nat.eq_of_beq_eq_true h2.1
   have hfl := h2.2
   subst h4
   split at h3
   ·rename_i ht
    subst ht
    obtain ⟨b1, b2⟩ := oks_lab hs hL
    obtain ⟨b3, _⟩ := oks_lab hs (show s.lab a 0 = some _ from hrow)
    simp only [Val.lt, Bool.and_eq_true, Nat.blt_eq, List.all_cons, List.all_eq_true] at b2
    refine next (Nat.le_succ _) (by
     simp only [upBelow, okUp, Val.lt, Bool.and_eq_true, Nat.blt_eq, List.all_eq_true, Bool.true_and, Bool.and_true]
     exact ⟨Nat.lt_succ_of_lt b3, ⟨Nat.lt_succ_of_lt b1, ⟨Nat.lt_succ_self _, fun q hq => Nat.lt_succ_of_lt (b2.1.2.2 q hq)⟩, fun q hq => Nat.lt_succ_of_lt (b2.2 q hq)⟩⟩) (fun b m A ac w hb hr => ?_) h3
    have hgL : s.map 0 (.o L) = some (.dm kt t' e l ([] ++ (κ, a) :: hs') zs S) := hL
    obtain ⟨m', hrel2, _⟩ := hr.closeMap (S' := s.nl) (q := q) hgL hrow hfl (oks_free hs hb (Nat.le_refl _))
    exact ⟨m', hrel2⟩
   ·cases h3
  ·rename_i kt t e l z zs S hL
   obtain ⟨b1, b2⟩ := oks_lab hs hL
   simp only [Val.lt, Bool.and_eq_true, Nat.blt_eq, List.all_cons, List.all_nil, Bool.and_true] at b2
   refine next (Nat.le_refl _) (by
    simp only [upBelow, okUp, Val.lt, Bool.and_eq_true, Nat.blt_eq, List.all_nil, Bool.true_and, Bool.and_true]
    exact ⟨b1, b2.1⟩) (fun b m A ac w hb hr => ⟨m, hr.dropStamps hL⟩) h
  ·exact ⟨s, h, hs, Ext.refl _ _, Same0.refl _⟩
theorem closeC_sound {d : Nat} : ∀ (l : List (Nat × Nat × Nat)) (s : XS E.G.car) {K : XS E.G.car → Option R}, OKS E fx s → closeC d l s K = some r → ∃ s', K s' = some r ∧ OKS E fx s' ∧ Ext d s s' ∧ Same0 E fx s s' := by
 intro l
 induction l with
 | nil => intro s K hs h; exact ⟨s, h, hs, Ext.refl _ _, Same0.refl _⟩
 | cons x l ih =>
  intro s K hs h
  obtain ⟨L, x⟩ := x
  obtain ⟨s1, h1, o1, x1, e1⟩ := closeN_sound 64 s hs h
  obtain ⟨s2, h2, o2, x2, e2⟩ := ih s1 o1 h1
  exact ⟨s2, h2, o2, x1.trans x2, e1.trans e2⟩
end
end
end Go.KX

namespace Go.KX
open Go Go.RowKit
noncomputable section
section
variable {E : Env} {b b' : Base} {m : Nat → MV} {A : Nat → Prop} {g g' : Map E.G.car} {a a' : Act} {w : World}
structure SameB (b b' : Base) : Prop where
 B : b'.B = b.B
 w0 : b'.w0 = b.w0
 kob : b'.kob = b.kob
 A0 : b'.A0 = b.A0
 bor : b'.bor = b.bor
 pn : b'.pn = b.pn
 pm : b'.pm = b.pm
theorem Rel.acts (h : Rel (cxOf E b) m A g a w) (hb : SameB b b') (hsz : a'.tmps.size = b'.N) (hd : Marks b'.ds b'.B a'.defers w) (hg : ∀ k L, k.lab = some L → g' k = g k)
  (ht : ∀ i v, g' (.t i) = some v → ∃ x, v = .x x ∧ a'.tmps[i]? = some (den m x) ∧ x.ok m) (hu : ∀ l i, g' (.u l i) = none) (ha : g' .a = none) : Rel (cxOf E b') m A g' a' w := by
 obtain ⟨hB, hw0, hkob, hA0, hbor, hpn, hpm⟩ := hb
 have hmine : ∀ {x}, (cxOf E b).mine x → (cxOf E b').mine x := fun {x} h => by simpa only [Cx.mine, cxOf, hB, hbor] using h
 have ho : ∀ {L}, g' (.o L) = g (.o L) := fun {L} => hg _ L rfl
 refine ⟨hsz, hd, fun k v hk => ?_, fun L o v hv => ?_, fun L x hL => ?_, fun L L' x h1 h2 => ?_, h.frzc, ?_, by show b'.B ≤ _; rw [hB]; exact h.top, h.fix, fun k o hk => ?_, fun x hx => ?_, fun x hx => ?_, fun L hL => ?_⟩
 ·cases e : k.lab with
  | some L =>
   rw [hg k L e] at hk
   exact at_lab e (h.ent k v hk)
  | none =>
   cases k with
   | t i =>
    obtain ⟨x, rfl, h1, h2⟩ := ht i v hk
    exact ⟨h1, h2⟩
   | u l i => rw [hu] at hk; cases hk
   | a => rw [ha] at hk; cases hk
   | _ => cases e
 ·rw [hg _ L rfl] at hv
  rw [ho]
  exact h.cell L o v hv
 ·rw [ho] at hL
  exact ⟨hmine (h.own L x hL).1, (h.own L x hL).2⟩
 ·rw [ho] at h1 h2
  exact h.inj L L' x h1 h2
 ·refine ⟨?_, ?_, ?_, ?_, fun k hk hn => ?_⟩
  ·show _ = b'.w0.os; rw [hw0]; exact h.held.os
  ·show _ = b'.w0.tape; rw [hw0]; exact h.held.tape
  ·show Out b'.w0 _; rw [hw0]; exact h.held.output
  ·show b'.w0.heap.size ≤ _; rw [hw0]; exact h.held.size
  ·show _ = b'.w0.heap[k]?
   rw [hw0]
   exact h.held.block k (by have : k < b'.B := hk; rw [hB] at this; exact this) (by have : ¬ b'.bor k := hn; rw [hbor] at this; exact this)
 ·exact h.ko k o (by have : (k, o) ∈ b'.kob := hk; rw [hkob] at this; exact this)
 ·rcases h.frz0 x hx with h1 | h1
  ·exact .inl (by show b'.A0 x; rw [hA0]; exact h1)
  ·exact .inr (hmine h1)
 ·exact h.frzA x (by have : b'.A0 x := hx; rw [hA0] at this; exact this)
 ·show m L = b'.pm L
  rw [hpm]
  exact h.pins L (by have : L < b'.pn := hL; rw [hpn] at this; exact this)
end
theorem resVal_den (m : Nat → MV) (vs : List SV) : den m (resVal vs) = resV (denL m vs) := by
 cases vs with
 | nil => rfl
 | cons x r => cases r <;> rfl
theorem resVal_ok {m : Nat → MV} {vs : List SV} (h : okL m vs) : (resVal vs).ok m := by
 cases vs with
 | nil => trivial
 | cons x r =>
  cases r with
  | nil => exact h.1
  | cons y r => exact h
def noAct : Act := { tmps := #[], defers := [] }
def FnDoes (E : Env) (gl : List (Nat × Val E.G.car)) (fx : Fix) (k : Nat) (xs : List SV) (v : SV) (s0 s' : XS E.G.car) : Prop :=
 ∀ (b : Base) (m : Nat → MV) (A : Nat → Prop) (w : World), Good E gl fx b → b.N = 0 → b.ds = false → b.r = none → Rel (cxOf E b) m A (s0.map 0) noAct w → okL m xs →
  Calls E.P k (denL m xs).toArray w fun e w' => ∃ m' A', e = .returned (den m' v) ∧ v.ok m' ∧ Rel (cxOf E b) m' A' (s'.map 0) noAct w'
def YDoes (E : Env) (gl : List (Nat × Val E.G.car)) (fx : Fix) (y : YI) (xs : List SV) (s0 s' : XS E.G.car) : Prop :=
 ∀ (b : Base) (m : Nat → MV) (A : Nat → Prop) (w : World) (fn : FuncId) (aT : Array Value) (D : Nat), Good E gl fx b → b.N = 0 → b.ds = false → b.r = none → YIs b y fn aT D → Rel (cxOf E b) m A (s0.map 0) noAct w → okL m xs →
  RoundIn Fence.wide 0 E.P (b.pm y.L).b fn ((y.ps.zip (denL m xs).toArray).foldl (fun tmps (t, a) => tmps.setIfInBounds t a) aT) y.assign y.body w fun e w' => e = .returned (.bool true) ∧ ∃ m' A', Rel (cxOf E b) m' A' (s'.map 0) noAct w'
def CallDoes (E : Env) (gl : List (Nat × Val E.G.car)) (fx : Fix) (c : Callee) (xs : List SV) (v : SV) (s0 s' : XS E.G.car) : Prop :=
 match c with
 | .fn k => Proofs.Enters E.P k ∧ FnDoes E gl fx k xs v s0 s'
 | .y L => ∃ y ∈ fx.ys, y.L = L ∧ v = .v (.bool true) ∧ xs.length = y.ps.size ∧ YDoes E gl fx y xs s0 s'
def RunOK (E : Env) (gl : List (Nat × Val E.G.car)) (ys : List YI) {R : Type} (I : Run E R) : Prop :=
 ∀ (c : Callee) (d : Nat) (xs : List SV) (s0 : XS E.G.car) (h : Hint) (K : Hint → SV → XS E.G.car → Option R) (r : R), OKS E ⟨s0.nl, ys⟩ s0 → s0.t = .e → ltL s0.nl xs = true → I c d xs s0 h K = some r →
  ∃ h' v s', K h' v s' = some r ∧ OKS E ⟨s0.nl, ys⟩ s' ∧ s'.t = .e ∧ Ext d s0 s' ∧ CallDoes E gl ⟨s0.nl, ys⟩ c xs v s0 s'
section
variable {E : Env} {R : Type} {r : R} {gl : List (Nat × Val E.G.car)} {fx : Fix}
structure InRes (E : Env) (gl : List (Nat × Val E.G.car)) (ys : List YI) (c : Callee) (xs : List SV) (M : Map E.G.car) (n d : Nat) (ls : List Nat) (s0 s' : XS E.G.car) (v : SV) : Prop where
 part : PartOf M n ls s0
 inv0 : Inv s0
 inv : Inv s'
 ext : Ext (Nat.succ d) s0 s'
 lt : ∀ L ∈ ls, L < n
 vlt : v.lt s'.nl = true
 does : CallDoes E gl ⟨n, ys⟩ c xs v s0 s'
theorem tmp_e {s : XS E.G.car} (h : s.t = .e) (i : Nat) : s.map 0 (.t i) = none := by simp only [XS.map, XS.tmp, h]; rfl
theorem tmp_u {s : XS E.G.car} (l i : Nat) : s.map 0 (.u l i) = none := rfl
theorem CallDoes.arr {c : Callee} {xs : List SV} {v v' : SV} {s0 s2 s4 sc : XS E.G.car} {T : Tpl} {d : Nat} {ρ : Rho} {n : Nat} {ys : List YI} (hs : OKS E ⟨n, ys⟩ s0) (hF : Final T s0.nl ρ) (h1 : CallDoes E gl ⟨n, ys⟩ c xs v s0 s2)
  (ht : s2.t = .e) (hsame : Same0 E ⟨n, ys⟩ (⟨(PT.e : PT (Nat × Option SV)).set (tk 0 0) (d, some v), s2.o, s2.nl⟩ : XS E.G.car) sc) (hst : StOK T d s0 sc ρ (fun _ _ => False) s4) (hv : resOf c s4 = some v') : CallDoes E gl ⟨n, ys⟩ c xs v' s0 ⟨.e, s4.o, s4.nl⟩ := by
 have key : ∀ (b : Base) (m' : Nat → MV) (A' : Nat → Prop) (w' : World), Good E gl ⟨n, ys⟩ b → b.N = 0 → b.ds = false → b.r = none → v.ok m' → Rel (cxOf E b) m' A' (s2.map 0) noAct w' →
   ∃ m'' A'', (s4.tmp 0 0 = some v' → den m'' v' = den m' v ∧ v'.ok m'') ∧ Rel (cxOf E b) m'' A'' ((⟨.e, s4.o, s4.nl⟩ : XS E.G.car).map 0) noAct w' := by
  intro b m' A' w' hg hN hds hr hok hrel
  let b1 : Base := { b with N := 1 }
  have hsb : SameB b b1 := ⟨rfl, rfl, rfl, rfl, rfl, rfl, rfl⟩
  have hsb' : SameB b1 b := ⟨rfl, rfl, rfl, rfl, rfl, rfl, rfl⟩
  have hmk : Marks b.ds b.B [] w' := by rw [hds]; exact marks_nil
  have hget : ∀ i, (⟨(PT.e : PT (Nat × Option SV)).set (tk 0 0) (d, some v), s2.o, s2.nl⟩ : XS E.G.car).tmp 0 i = if i = 0 then some v else none := fun i => by
   simp only [XS.tmp, PT.get_set]
   by_cases e : i = 0
   ·subst e; simp
   ·have : tk 0 0 ≠ tk 0 i := fun h => e (by have h' : 0 * 16 + 0 = i * 16 + 0 := h; omega)
    rw [if_neg this, if_neg e]; rfl
  have h2 : Rel (cxOf E b1) m' A' ((⟨(PT.e : PT (Nat × Option SV)).set (tk 0 0) (d, some v), s2.o, s2.nl⟩ : XS E.G.car).map 0) ⟨#[den m' v], []⟩ w' := by
   refine hrel.acts hsb rfl hmk (fun k L hk => by cases k <;> first | (cases hk; done) | rfl) (fun i x hx => ?_) (fun l i => ?_) rfl
   ·have hx' : ((⟨(PT.e : PT (Nat × Option SV)).set (tk 0 0) (d, some v), s2.o, s2.nl⟩ : XS E.G.car).tmp 0 i).map Val.x = some x := hx
    rw [hget] at hx'
    by_cases e : i = 0
    ·subst e
     rw [if_pos rfl] at hx'; cases hx'
     exact ⟨v, rfl, rfl, hok⟩
    ·rw [if_neg e] at hx'; cases hx'
   ·rfl
  obtain ⟨mc, h2⟩ := hsame b1 m' A' _ w' hg.pn h2
  obtain ⟨m'', A'', h3⟩ := hst.rel (b := b1) hs hF hg.pn h2
  refine ⟨m'', A'', fun hv => ?_, h3.acts (b := b1) hsb' (by simp [noAct, hN]) hmk (fun k L hk => by cases k <;> first | (cases hk; done) | rfl) (fun i x hx => by cases hx) (fun l i => tmp_u l i) rfl⟩
  have h4 : s4.map 0 (.t 0) = some (.x v') := by simp only [XS.map, hv, Option.map_some]
  obtain ⟨h5, h6⟩ := h3.ent _ _ h4
  have h5' : (#[den m' v] : Array Value)[0]? = some (den m'' v') := h5
  exact ⟨by simpa using h5'.symm, h6⟩
 cases c with
 | fn k =>
  obtain ⟨hen, hdo⟩ := h1
  refine ⟨hen, fun b m A w hg hN hds hr hrel hxs => (hdo b m A w hg hN hds hr hrel hxs).mono fun e w' ⟨m', A', he, hok, h'⟩ => ?_⟩
  obtain ⟨m'', A'', h23, h4⟩ := key b m' A' w' hg hN hds hr hok h'
  obtain ⟨h2, h3⟩ := h23 hv
  exact ⟨m'', A'', by rw [he, h2], h3, h4⟩
 | y L =>
  obtain ⟨y, hy, hL, hv2, hlen, hdo⟩ := h1
  refine ⟨y, hy, hL, by cases hv; rfl, hlen, fun b m A w fn aT D hg hN hds hr hY hrel hxs => (hdo b m A w fn aT D hg hN hds hr hY hrel hxs).mono fun e w' ⟨he, m', A', h'⟩ => ?_⟩
  subst hv2
  obtain ⟨m'', A'', _, h4⟩ := key b m' A' w' hg hN hds hr trivial h'
  exact ⟨he, m'', A'', h4⟩
end
end
end Go.KX

namespace Go.KX
open Go Go.RowKit
noncomputable section
section
variable {E : Env} {R : Type} {r : R} {gl : List (Nat × Val E.G.car)} {fx : Fix}
theorem inlK_sound {I : Run E R} {ys : List YI} (hI : RunOK E gl ys I) {s : XS E.G.car} (hs : Inv s) (hglo : ∀ p ∈ E.glo, p.1 < s.nl) {M : Map E.G.car} (hM : ∀ k L, k.lab = some L → M k = s.map 0 k)
  {c : Callee} {d : Nat} {roots : List Nat} {xs : List SV} {rd : List Key} {od : Option Nat} {h : Hint} {F0 : Nat} {K : OpRes E.G.car → Hint → Option R} (hk : inlK F0 I d s c roots xs rd od h K = some r) :
  ∃ ls s0 s' v h', K (inFin d ls s0 od rd s' v) h' = some r ∧ InRes E gl ys c xs M s.nl d ls s0 s' v := by
 unfold inlK at hk
 generalize closeL s 3000 (svLabsL xs ++ roots) [] = ls at hk
 obtain ⟨hc, hk⟩ := bif_some' hk
 simp only [Bool.not_eq_eq_eq_not, Bool.not_false, Bool.and_eq_true, List.all_eq_true, Nat.blt_eq] at hc
 obtain ⟨hxs, hls⟩ := hc
 obtain ⟨o', hk, ho⟩ := keepL_sound _ _ hk
 have rc : ∀ L q, XS.rec? (⟨.e, o', s.nl⟩ : XS E.G.car) L q = if L ∈ ls then s.rec? L q else none := fun L q => by
  simp only [XS.rec?, ho]
  by_cases e : L ∈ ls
  ·simp only [if_pos e]
  ·simp only [if_neg e]; rfl
 have o1 : OKS E ⟨s.nl, ys⟩ (⟨.e, o', s.nl⟩ : XS E.G.car) := by
  refine ⟨⟨fun k a v hv => (nomatch hv), fun L q e he => ?_⟩, hglo, Nat.le_refl _⟩
  rw [rc] at he
  split at he
  ·exact hs.o L q e he
  ·cases he
 obtain ⟨s0, hk, o2, _, m2, t2, n2⟩ := restL_sound' _ _ o1 hk
 have t2 : s0.t = .e := t2
 have n2 : s0.nl = s.nl := n2
 obtain ⟨hok, hk⟩ := bif_some' hk
 have part : PartOf M s.nl ls s0 := by
  have lab : ∀ L q, XS.lab (⟨.e, o', s.nl⟩ : XS E.G.car) L q = if L ∈ ls then s.lab L q else none := fun L q => by
   simp only [XS.lab, rc]
   by_cases e : L ∈ ls
   ·simp only [if_pos e]
   ·simp only [if_neg e]
  refine ⟨t2, n2, fun k L hk hL => ?_, fun k L hk hL => ?_, by simpa using hok⟩
  ·rw [m2, hM k L hk]
   cases k <;> first | (cases hk; done) | (cases hk; exact (lab _ _).trans (if_pos hL))
  ·rw [m2]
   cases k <;> first | (cases hk; done) | (cases hk; exact (lab _ _).trans (if_neg hL))
 have o3 : OKS E ⟨s0.nl, ys⟩ s0 := by rw [n2]; exact o2
 have hxs' : ltL s0.nl xs = true := by rw [n2]; exact hxs
 have plain : ∀ (a b : Hint) , I c (Nat.succ d) xs s0 a (fun _ v s' => finK d ls s0 od rd K b v s') = some r → ∃ ls s0 s' v h', K (inFin d ls s0 od rd s' v) h' = some r ∧ InRes E gl ys c xs M s.nl d ls s0 s' v := by
  intro a b hk
  obtain ⟨h', v, s', h1, o4, _, x4, hd⟩ := hI c _ xs s0 a _ r o3 t2 hxs' hk
  obtain ⟨hlt, h1⟩ := bif_some h1
  exact ⟨ls, s0, s', v, b, h1, part, o2.inv, o4.inv, x4, hls, hlt, by rw [n2] at hd; exact hd⟩
 cases h with
 | w T a b =>
  have hk : I c (Nat.succ d) xs s0 a (fun _ v s' => bif v.lt s'.nl then withRes (Nat.succ d) s' v fun s' => closeC (Nat.succ d) T.rw s' fun s' => arrK T d s0 s' (fun x => stK T (Nat.succ d) s0 x fun s' => match resOf c s' with
    | some v => finK d ls s0 od rd K b v ⟨.e, s'.o, s'.nl⟩
    | none => none) else none) = some r := join_some hk
  obtain ⟨h', v, s1, h1, o4, t4, x4, hd⟩ := hI c _ xs s0 a _ r o3 t2 hxs' hk
  obtain ⟨hlt, h1⟩ := bif_some h1
  simp only [withRes, PT.setK_set] at h1
  have hx : Ext (Nat.succ d) s0 (⟨(PT.e : PT (Nat × Option SV)).set (tk 0 0) (Nat.succ d, some v), s1.o, s1.nl⟩ : XS E.G.car) := ⟨fun k x hx hlt => (by
   have hx' : ((PT.e : PT (Nat × Option SV)).set (tk 0 0) (Nat.succ d, some v)).get k = some x := hx
   rw [PT.get_set] at hx'
   split at hx'
   ·cases hx'; exact absurd hlt (Nat.lt_irrefl _)
   ·cases hx'), fun L q e he hlt => x4.o L q e he hlt, x4.nl⟩
  have osr : OKS E ⟨s0.nl, ys⟩ (⟨(PT.e : PT (Nat × Option SV)).set (tk 0 0) (Nat.succ d, some v), s1.o, s1.nl⟩ : XS E.G.car) := ⟨⟨fun k a' v' hv' => (by
   have hv' : ((PT.e : PT (Nat × Option SV)).set (tk 0 0) (Nat.succ d, some v)).get k = some (a', some v') := hv'
   rw [PT.get_set] at hv'
   split at hv'
   ·cases hv'; exact hlt
   ·cases hv'), o4.inv.o⟩, o4.glo, o4.pn⟩
  obtain ⟨sc, h1, osc, xsc, esc⟩ := closeC_sound T.rw _ osr h1
  have hold : OldS T d s0 sc := OldS.of_ext (hx.trans xsc)
  obtain ⟨y, h2, harr⟩ := arr_sound (d := Nat.succ d) (d' := d) o2.inv hold h1
  ·obtain ⟨s4, ρ, h3, hF, hst⟩ := harr r _ h2
   split at h3
   ·rename_i v' hv'
    obtain ⟨hlt', h3⟩ := bif_some h3
    rw [n2] at hd
    have o5 := hst.oks o2 hF
    have hex := hst.ext hF
    exact ⟨ls, s0, ⟨.e, s4.o, s4.nl⟩, v', b, h3, part, o2.inv, ⟨fun k a v hv => (nomatch hv), o5.inv.o⟩, ⟨fun k x hx _ => (nomatch hx), hex.o, hex.nl⟩, hls, hlt', hd.arr o2 hF t4 (by rw [n2] at esc; exact esc) hst hv'⟩
   ·cases h3
 | i a b => exact plain _ _ hk
 | p a =>
  obtain ⟨h', v, s', h1, o4, _, x4, hd⟩ := hI c _ xs s0 a _ r o3 t2 hxs' hk
  obtain ⟨hlt, h1⟩ := bif_some h1
  exact ⟨ls, s0, s', v, h', h1, part, o2.inv, o4.inv, x4, hls, hlt, by rw [n2] at hd; exact hd⟩
 | _ => exact plain _ _ hk
end
end
end Go.KX

namespace Go.KX
open Go Go.RowKit
noncomputable section
section
variable {E : Env} {gl : List (Nat × Val E.G.car)} {fx : Fix} {b : Base} {m : Nat → MV} {A : Nat → Prop} {g : Map E.G.car} {a : Act} {w : World}
theorem YIs.into {y : YI} {fn : FuncId} {aT : Array Value} {D n : Nat} {g0 : Map E.G.car} (h : YIs b y fn aT D) (hrel : Rel (cxOf E b) m A g a w) (hn : b.pn ≤ n) (hO : ∀ L x, Owns m L (g0 (.o L)) x → Owns m L (g (.o L)) x) :
  YIs (inBase b n m A g0 w) y fn aT D := by
 have hL : m y.L = b.pm y.L := hrel.pins y.L h.L
 have hk := hrel.ko _ _ h.mem
 refine ⟨Nat.lt_of_lt_of_le h.L hn, ?_, ?_, ?_, h.size, fun i v hv => ?_⟩
 ·show (m y.L).b < w.heap.size
  rw [hL]; exact (Array.getElem?_eq_some_iff.1 hk.1).1
 ·rintro ⟨L1, h1⟩
  obtain ⟨ob, h3, h3'⟩ := hrel.blk (hO L1 _ h1)
  have h3 : w.heap[(m y.L).b]? = some ob := h3
  rw [hL, hk.1] at h3
  cases h3
  cases h3'
 ·show ((m y.L).b, _) ∈ b.kob
  rw [hL]; exact h.mem
 ·obtain ⟨h1, h2, h3⟩ := h.tmp i v hv
  have he : ∀ L, v.has L = true → m L = b.pm L := fun L hL => hrel.pins L (by
   rcases Nat.lt_or_ge L b.pn with h4 | h4
   ·exact h4
   ·rw [has_lt h4 v h3] at hL; cases hL)
  refine ⟨?_, ?_, lt_mono hn h3⟩
  ·show aT[i]? = some (den m v)
   rw [den_congr v he]; exact h1
  ·show v.ok m
   exact ok_congr v he h2
theorem Good.into {n : Nat} {s0 : XS E.G.car} (hg : Good E gl fx b) (hrel : Rel (cxOf E b) m A g a w) (hn : fx.pn ≤ n) (h0 : Rel (cxOf E (inBase b n m A (s0.map 0) w)) m A (s0.map 0) noAct w)
  (hO : ∀ L x, Owns m L (s0.map 0 (.o L)) x → Owns m L (g (.o L)) x) : Good E gl ⟨n, fx.ys⟩ (inBase b n m A (s0.map 0) w) := by
 refine ⟨hrel.gw hg (fun _ h => h), hrel.frz, fun x hx hb => ?_, fun p hp => (Array.getElem?_eq_some_iff.1 (hrel.ko p.1 p.2 hp).1).1, Nat.le_refl _, fun y hy => ?_, fun _ => rfl⟩
 ·obtain ⟨L, h1⟩ := hb
  exact (h0.own L x h1).2 hx
 ·obtain ⟨fn, aT, D, h1⟩ := hg.ys y hy
  exact ⟨fn, aT, D, h1.into hrel (Nat.le_trans hg.pn hn) hO⟩
variable {od : Option Nat} {type : TypeId} {pos : String} {after : Array Edge} {guard : Option (Nat × Bool)}
def CalleeIs (c : Callee) (fv : SV) (ys xs : List SV) : Prop :=
 match c with
 | .fn k => ∃ fs caps, ((fv = .v (.func (.func k) #[] #[]) ∧ fs = [] ∧ caps = []) ∨ fv = .f (.func k) fs caps) ∧ xs = fs ++ (ys ++ caps)
 | .y L => fv = .y L ∧ xs = ys
theorem okL_append {m : Nat → MV} {l l' : List SV} (h : okL m l) (h' : okL m l') : okL m (l ++ l') := okL_iff.2 fun x hx => (List.mem_append.1 hx).elim (okL_iff.1 h x) (okL_iff.1 h' x)
theorem op_inl {c : Callee} {xs ys : List SV} {v : SV} {M : Map E.G.car} {n d : Nat} {ls : List Nat} {s0 s' : XS E.G.car} {fo : Operand} {fv : SV} {ags : Array Operand} {ts : Array TypeId}
  (hres : InRes E gl fx.ys c xs M n d ls s0 s' v) (hg : Good E gl fx b) (hn : fx.pn ≤ n) (hf : Ev E M fo fv) (hx : EvL E M ags.toList ys) (hc : CalleeIs c fv ys xs) (hd : ∀ d', od = some d' → d' < b.N) :
  OpRun (cxOf E b) ⟨od, .call ⟨.value fo, ags, ts⟩, type, pos, after, guard⟩ M ⟨(inFin d ls s0 od (okeys fo ++ okeysL ags.toList) s' v).rd, (inFin d ls s0 od (okeys fo ++ okeysL ags.toList) s' v).up, newL n s'.nl⟩ := by
 intro m A a w g hrd hfree hrel K Q hK
 obtain ⟨h1, k1⟩ := hf.eval hrel (fun k hk => hrd k (reads_mem (by simp [inFin, hk])))
 obtain ⟨h2, k2⟩ := hx.eval hrel (fun k hk => hrd k (reads_mem (by simp [inFin, hk])))
 have h2' : ags.map a.eval = (denL m ys).toArray := by rw [← h2]; exact Array.ext' (by rw [Array.toList_map])
 have hr : ∀ k ∈ keysA s0 s' ls, g k = M k := fun k hk => hrd k (reads_mem (by simp [inFin, hk]))
 have hrel0 := hres.part.enter hrel hr
 have hO : ∀ L x, Owns m L (s0.map 0 (.o L)) x → Owns m L (g (.o L)) x := fun L x ho => by
  cases e : s0.map 0 (.o L) with
  | none => rw [e] at ho; exact ho.elim
  | some u =>
   obtain ⟨L', h3, h4, h5⟩ := hres.part.key e
   cases h3
   rw [hr _ (h5 s'), ← hres.part.o _ L rfl h4]; exact ho
 have hgood := hg.into hrel hn hrel0 hO
 have hnew : ∀ L, n ≤ L → L < s'.nl → Free (cxOf E b) L g := fun L e1 e2 => hfree L (mem_newL.2 ⟨e1, e2⟩)
 have fin : ∀ (m' : Nat → MV) (A' : Nat → Prop) (w' : World) (u : Value), u = den m' v → v.ok m' → Rel (cxOf E (inBase b n m A (s0.map 0) w)) m' A' (s'.map 0) noAct w' → K (a.put od u) w' := by
  intro m' A' w' u hu hok h'
  obtain ⟨m'', e1, e2, hrel''⟩ := hres.part.leave hres.inv0 hres.inv hres.ext hres.lt hrel h' hr hnew
  have hs : ∀ L, v.has L = true → m'' L = m' L := fun L hL => e1 L (by
   rcases Nat.lt_or_ge L s'.nl with h3 | h3
   ·exact h3
   ·rw [has_lt h3 v hres.vlt] at hL; cases hL)
  have hden : u = den m'' v := by rw [hu, den_congr v hs]
  have hok' : v.ok m'' := ok_congr v hs hok
  cases od with
  | none => exact hK m'' A' _ w' hrel''
  | some d' =>
   refine hK m'' A' _ w' ((hrel''.put (hd d' rfl) hden hok').congr fun k => ?_)
   rw [upd_one]
   exact (upd_cons _ k).symm
 have hdoes := hres.does
 refine ⟨fun _ _ => trivial, ?_⟩
 rw [semAt_of _ _ (fun _ h => by cases h)]
 cases c with
 | fn k =>
  obtain ⟨fs, caps, hk, rfl⟩ := hc
  obtain ⟨hen, hdo⟩ := hdoes
  have hfn : den m fv = .func (.func k) (denL m fs).toArray (denL m caps).toArray := by
   rcases hk with ⟨rfl, rfl, rfl⟩ | rfl
   ·rfl
   ·rfl
  have hokxs : okL m (fs ++ (ys ++ caps)) := by
   rcases hk with ⟨rfl, rfl, rfl⟩ | rfl
   ·exact okL_append trivial (okL_append k2 trivial)
   ·exact okL_append k1.1 (okL_append k2 k1.2)
  have hrun : (execOp a.eval ⟨od, .call ⟨.value fo, ags, ts⟩, type, pos, after, guard⟩).run E.P w = .ok (.enter k ((denL m (fs ++ (ys ++ caps))).toArray)) w := by
   have he := hen ((denL m fs).toArray ++ (denL m ys).toArray ++ (denL m caps).toArray) w
   rw [denL_append, denL_append]
   have e : (denL m fs).toArray ++ (denL m ys).toArray ++ (denL m caps).toArray = (denL m fs ++ (denL m ys ++ denL m caps)).toArray := by simp
   rw [e] at he
   simp only [execOp, resolve, h1, h2', hfn, Deferred.ofValue, Sem.run_bind, Sem.run_pure, Result.andThen_ok, invoke, e]
   exact he
  rw [hrun, Oper.uponIn_enter]
  refine ⟨fun h => by simp [Cx.F] at h, ?_⟩
  refine (calls_in (cx := cxOf E b) (hdo _ m A w hgood rfl rfl rfl hrel0 hokxs)).mono fun e w' ⟨m', A', he, hok, h'⟩ => ?_
  subst he
  exact fin m' A' w' _ rfl hok h'
 | y L =>
  obtain ⟨rfl, rfl⟩ := hc
  obtain ⟨y, hy, rfl, rfl, hlen, hdo⟩ := hdoes
  obtain ⟨fn, aT, D, hY⟩ := hg.ys y hy
  have hr0 : b.r = none := hg.r0 (fun h => by rw [h] at hy; cases hy)
  have hY' := hY.into (g0 := s0.map 0) hrel (Nat.le_trans hg.pn hn) hO
  have hl : m y.L = b.pm y.L := hrel.pins y.L hY.L
  have hheap := (hrel.ko _ _ hY.mem).1
  rw [← hl] at hheap
  have hrun : (execOp a.eval ⟨od, .call ⟨.value fo, ags, ts⟩, type, pos, after, guard⟩).run E.P w = .ok (.round (m y.L).b fn ((y.ps.zip (denL m xs).toArray).foldl (fun tmps (t, a) => tmps.setIfInBounds t a) aT) y.assign y.body) w := by
   have hy' := run_yield (P := E.P) (args := (denL m xs).toArray) hheap (by simp [recOf, denL_length, hlen])
   simp only [execOp, resolve, h1, h2', den, Deferred.ofValue, Sem.run_bind, Sem.run_pure, Result.andThen_ok, invoke]
   simpa [recOf] using hy'
  rw [hrun, Oper.uponIn_round]
  refine ⟨fun h => by simp [Cx.F] at h, ?_⟩
  have hF : (cxOf E b).F = Fence.wide := by simp only [Cx.F, cxOf, hr0]; rfl
  rw [hF]
  refine (hdo _ m A w fn aT D hgood rfl rfl rfl hY' hrel0 k2).mono fun e w' ⟨he, m', A', h'⟩ => ?_
  subst he
  exact fin m' A' w' _ rfl trivial h'
end
end
end Go.KX

namespace Go.KX
open Go Go.RowKit
noncomputable section
section
variable {cx : Cx} {ops : Array Oper} {i : Nat} {o : Oper} {s : CMap cx} {row : Row cx.G.car}
theorem ok_plain (ho : ops[i]? = some o) (hg : o.guard = none) (h : OpRun cx o s row) : OpOK cx ops i s row := by
 intro m A a w g hr hf hrel K Q hK
 simp only [wpOpIn, ho, Region.wanted, hg, if_true]
 exact h m A a w g hr hf hrel K Q hK
theorem reads_cons {car : Nat → Type} {k k' : Key} {rd : List Key} {up : St car} {nw : List Nat} (h : Row.reads ⟨rd, up, nw⟩ k = true) : Row.reads ⟨k' :: rd, up, nw⟩ k = true := by
 simp only [Row.reads, List.any_cons, Bool.or_eq_true] at *
 exact .inr h
theorem reads_head {car : Nat → Type} {k : Key} {rd : List Key} {up : St car} {nw : List Nat} : Row.reads ⟨k :: rd, up, nw⟩ k = true := by
 simp [Row.reads, Key.eqb_self]
theorem yielded_of {a : Act} {w : World} {m : Nat → MV} {A : Nat → Prop} {g : CMap cx} {j dj : Nat} {oj : Oper} {c : Bool} {v : SV} (hrel : Rel cx m A g a w) (hj : ops[j]? = some oj) (hd : oj.dst = some dj)
  (hc : g (.t dj) = some (.x v)) (hv : ∀ m, den m v = .bool c) : yielded ops a.tmps j = some c := by
 have := (hrel.ent _ _ hc).1
 rw [hv] at this
 simp only [yielded, hj, Option.bind_some, hd, this]
theorem ok_yes {j dj : Nat} {oj : Oper} {c want : Bool} {v : SV} {rd : List Key} {up : St cx.G.car} {nw : List Nat} (ho : ops[i]? = some o) (hg : o.guard = some (j, want)) (hj : ops[j]? = some oj) (hd : oj.dst = some dj)
  (hc : s (.t dj) = some (.x v)) (hv : ∀ m, den m v = .bool c) (hw : c = want) (h : OpRun cx o s ⟨rd, up, nw⟩) : OpOK cx ops i s ⟨.t dj :: rd, up, nw⟩ := by
 intro m A a w g hr hf hrel K Q hK
 have hy := yielded_of hrel hj hd (by rw [hr _ reads_head]; exact hc) hv
 have hwant : Region.wanted o (yielded ops a.tmps) = true := by simp [Region.wanted, hg, hy, hw]
 simp only [wpOpIn, ho, hwant, if_true]
 exact h m A a w g (fun k hk => hr k (reads_cons hk)) hf hrel K Q hK
theorem ok_no {j dj : Nat} {oj : Oper} {c want : Bool} {v : SV} (hN : ∀ d, o.dst = some d → d < cx.N) (ho : ops[i]? = some o) (hg : o.guard = some (j, want)) (hj : ops[j]? = some oj) (hd : oj.dst = some dj)
  (hc : s (.t dj) = some (.x v)) (hv : ∀ m, den m v = .bool c) (hw : c = !want) : OpOK cx ops i s ⟨[.t dj], (match o.dst with | some d => [(.t d, some (.x (.v undef)))] | none => []), []⟩ := by
 intro m A a w g hr hf hrel K Q hK
 have hy := yielded_of hrel hj hd (by rw [hr _ reads_head]; exact hc) hv
 have hwant : Region.wanted o (yielded ops a.tmps) = false := by simp [Region.wanted, hg, hy, hw]
 simp only [wpOpIn, ho, hwant]
 refine ⟨fun _ _ => trivial, ?_⟩
 cases hod : o.dst with
 | none => rw [hod] at hK; exact hK m A _ w hrel
 | some d => rw [hod] at hK; exact hK m A _ w (hrel.put (hN d hod) rfl trivial)
theorem ok_und {j dj : Nat} {oj : Oper} {want : Bool} {v : SV} (hN : ∀ d, o.dst = some d → d < cx.N) (ho : ops[i]? = some o) (hg : o.guard = some (j, want)) (hj : ops[j]? = some oj) (hd : oj.dst = some dj)
  (hc : s (.t dj) = some (.x v)) (hv : ∀ m, den m v = undef) : OpOK cx ops i s ⟨[.t dj], (match o.dst with | some d => [(.t d, some (.x (.v undef)))] | none => []), []⟩ := by
 intro m A a w g hr hf hrel K Q hK
 have h1 := (hrel.ent _ _ ((hr _ reads_head).trans hc)).1
 rw [hv] at h1
 have hy : yielded ops a.tmps j = none := by simp only [yielded, hj, Option.bind_some, hd, h1, undef]
 have hwant : Region.wanted o (yielded ops a.tmps) = false := by simp [Region.wanted, hg, hy]
 simp only [wpOpIn, ho, hwant]
 refine ⟨fun _ _ => trivial, ?_⟩
 cases hod : o.dst with
 | none => rw [hod] at hK; exact hK m A _ w hrel
 | some d => rw [hod] at hK; exact hK m A _ w (hrel.put (hN d hod) rfl trivial)
def forceV {car : Nat → Type} (k : Key) (v : Option (Val car)) : Option (Val car) :=
 match k, v with
 | .t _, some (.xc b x) => bif b then some (.x x) else some (.xc b x)
 | _, v => v
def forceM {car : Nat → Type} (s : Map car) : Map car := fun k => forceV k (s k)
theorem force_t {car : Nat → Type} {s : Map car} {i : Nat} {v : Val car} (h : forceM s (.t i) = some v) : s (.t i) = some v ∨ ∃ x, v = .x x ∧ s (.t i) = some (.xc true x) := by
 simp only [forceM] at h
 cases hg : s (.t i) with
 | none => rw [hg] at h; cases h
 | some u =>
  rw [hg] at h
  cases u with
  | xc b x =>
   cases b with
   | true => simp only [forceV, cond_true] at h; cases h; exact .inr ⟨x, rfl, rfl⟩
   | false => simp only [forceV, cond_false] at h; exact .inl h
  | _ => exact .inl h
theorem Rel.force {m : Nat → MV} {A : Nat → Prop} {g : CMap cx} {a : Act} {w : World} (h : Rel cx m A g a w) : Rel cx m A (forceM g) a w := by
 refine ⟨h.size, h.defers, fun k v hk => ?_, h.cell, h.own, h.inj, h.frzc, h.held, h.top, h.fix, h.ko, h.frz0, h.frzA, h.pins⟩
 cases k with
 | t i =>
  rcases force_t hk with h1 | ⟨x, rfl, h1⟩
  ·exact h.ent _ _ h1
  ·obtain ⟨h2, h3⟩ := h.ent _ _ h1
   exact ⟨h2, h3 rfl⟩
 | _ => exact h.ent _ _ hk
theorem Rel.unforce {m : Nat → MV} {A : Nat → Prop} {g : CMap cx} {a : Act} {w : World} (h : Rel cx m A (forceM g) a w) : Rel cx m A g a w := by
 refine ⟨h.size, h.defers, fun k v hk => ?_, h.cell, h.own, h.inj, h.frzc, h.held, h.top, h.fix, h.ko, h.frz0, h.frzA, h.pins⟩
 cases k with
 | t i =>
  cases v with
  | xc b x =>
   cases b with
   | true =>
    obtain ⟨h1, h2⟩ := h.ent (.t i) (.x x) (by simp only [forceM, forceV, hk, cond_true])
    exact ⟨h1, fun _ => h2⟩
   | false => exact h.ent (.t i) (.xc false x) (by simp only [forceM, forceV, hk, cond_false])
  | _ => exact h.ent (.t i) _ (by simp only [forceM, forceV, hk])
 | _ => exact h.ent _ _ hk
def guardVal {car : Nat → Type} (gs : List GD) (v : SV) : Val car := match gs with | [] => .x v | _ => .xc (conjG gs) v
def GuardIs {car : Nat → Type} (s : Map car) (dj : Nat) (gs : List GD) (c : Bool) : Prop :=
 ∃ v : SV, (∀ m, den m v = .bool c) ∧ s (.t dj) = some (guardVal gs v)
theorem conjG_cons (g : GD) (gs : List GD) : conjG (g :: gs) = (conjG gs && g.lit) := by
 cases gs with
 | nil => simp [conjG]
 | cons _ _ => rfl
theorem conjG_iff : ∀ {gs : List GD}, conjG gs = true ↔ ∀ g ∈ gs, g.lit = true := by
 intro gs
 induction gs with
 | nil => simp [conjG]
 | cons g gs ih =>
  rw [conjG_cons, Bool.and_eq_true, ih]
  simp [and_comm]
theorem lit_iff {g : GD} : g.lit = true ↔ g.c = g.want := by
 obtain ⟨j, want, c⟩ := g
 cases want <;> cases c <;> simp [GD.lit]
theorem wanted_iff {a : Act} {w : World} {m : Nat → MV} {A : Nat → Prop} {g : CMap cx} {j dj : Nat} {oj : Oper} {gs : List GD} {c want : Bool} (hrel : Rel cx m A g a w) (hg : o.guard = some (j, want)) (hj : ops[j]? = some oj) (hd : oj.dst = some dj)
  (hc : GuardIs g dj gs c) : Region.wanted o (yielded ops a.tmps) = conjG (⟨j, want, c⟩ :: gs) := by
 obtain ⟨v, hv, hs⟩ := hc
 rw [conjG_cons]
 cases gs with
 | nil =>
  have hy := yielded_of hrel hj hd hs hv
  simp only [Region.wanted, hg, hy, conjG, Bool.true_and, GD.lit]
  cases c <;> cases want <;> rfl
 | cons g0 gs =>
  obtain ⟨h1, _⟩ := hrel.ent _ _ hs
  cases e : conjG (g0 :: gs) with
  | true =>
   rw [e, cond_true, hv] at h1
   have hy : yielded ops a.tmps j = some c := by simp only [yielded, hj, Option.bind_some, hd, h1]
   simp only [Region.wanted, hg, hy, Bool.true_and, GD.lit]
   cases c <;> cases want <;> rfl
  | false =>
   rw [e, cond_false] at h1
   have hy : yielded ops a.tmps j = none := by simp only [yielded, hj, Option.bind_some, hd, h1, undef]
   simp [Region.wanted, hg, hy]
theorem ok_guard {j dj d : Nat} {oj : Oper} {gs : List GD} {c want : Bool} {x : SV} {rd : List Key} (hN : d < cx.N) (ho : ops[i]? = some o) (hod : o.dst = some d) (hg : o.guard = some (j, want)) (hj : ops[j]? = some oj) (hd : oj.dst = some dj)
  (hc : GuardIs s dj gs c) (h : conjG (⟨j, want, c⟩ :: gs) = true → OpRun cx o (forceM s) ⟨rd, [(.t d, some (.x x))], []⟩) :
  OpOK cx ops i s ⟨.t dj :: rd, [(.t d, some (.xc (conjG (⟨j, want, c⟩ :: gs)) x))], []⟩ := by
 intro m A a w g hr hf hrel K Q hK
 have hc' : GuardIs g dj gs c := by
  obtain ⟨v, h1, h2⟩ := hc
  exact ⟨v, h1, by rw [hr _ reads_head]; exact h2⟩
 have hwant := wanted_iff hrel hg hj hd hc'
 generalize hb : conjG (⟨j, want, c⟩ :: gs) = bb at *
 cases bb with
 | true =>
  simp only [wpOpIn, ho, hwant, if_true]
  refine h rfl m A a w (forceM g) (fun k hk => ?_) (fun L hL => by cases hL) hrel.force K Q (fun m' A' a' w' h' => hK m' A' a' w' ?_)
  ·have := hr k (reads_cons hk)
   simp only [forceM, this]
  ·refine Rel.unforce (h'.congr (fun k => ?_))
   simp only [forceM]
   rw [upd_one, upd_one]
   by_cases ek : Key.t d = k
   ·subst ek; simp [forceV]
   ·rw [if_neg ek, if_neg ek]; rfl
 | false =>
  simp only [wpOpIn, ho, hwant]
  exact ⟨fun _ _ => trivial, hK m A _ w (by rw [hod]; exact hrel.putC hN rfl (fun h => by cases h))⟩
theorem AllOK.snoc : ∀ {rows : List (Row cx.G.car)} {i : Nat} {s : CMap cx}, AllOK cx ops i s rows → OpOK cx ops (i + rows.length) (rows.foldl (fun s r => upd r.up s) s) row → AllOK cx ops i s (rows ++ [row]) := by
 intro rows
 induction rows with
 | nil => intro i s _ h; exact ⟨h, trivial⟩
 | cons r rows ih =>
  intro i s h h'
  refine ⟨h.1, ih h.2 ?_⟩
  rw [show i + 1 + rows.length = i + (r :: rows).length by simp; omega]
  exact h'
end
section
variable {E : Env} {R : Type} {r : R} {fx : Fix}
def RS.map (f : Nat) (rs : RS E.G.car) : Map E.G.car
 | .t i => match findXC i rs.xc with
  | some x => some (.xc (conjG x.gs) x.v)
  | none => rs.s.map f (.t i)
 | k => rs.s.map f k
theorem RS.map_o {f : Nat} {rs : RS E.G.car} {k : Key} (h : ∀ i, k ≠ .t i) : rs.map f k = rs.s.map f k := by
 cases k with
 | t i => exact absurd rfl (h i)
 | _ => rfl
structure RInv (gl : List (Nat × Val E.G.car)) (fx : Fix) (fr : Fr) (ds : List (Option Nat)) (ops : Array Oper) (s0 : XS E.G.car) (rs : RS E.G.car) : Prop where
 inv : Inv rs.s
 ext : Ext fr.d s0 rs.s
 map : rs.map fr.f = rs.rows.reverse.foldl (fun s r => upd r.up s) (s0.map fr.f)
 gv : ∀ j dj gs c, findGV j rs.gv = some (dj, gs, c) → GuardIs (rs.map fr.f) dj gs c ∧ ds[j]? = some (some dj)
 xcg : ∀ x ∈ rs.xc, x.gs ≠ [] ∧ ∀ g ∈ x.gs, ∃ dj gs', findGV g.j rs.gv = some (dj, gs', g.c)
 xct : ∀ x ∈ rs.xc, rs.s.tmp fr.f x.t = none
 dec : ∀ q ∈ rs.dec, ∃ dj, findGV q.1 rs.gv = some (dj, [], q.2)
 ok : ∀ b : Base, Good E gl fx b → b.N = fr.N → AllOK (cxOf E b) ops 0 (s0.map fr.f) rs.rows.reverse
 nw : ∀ row ∈ rs.rows, ∀ L ∈ row.nw, s0.nl ≤ L
theorem findXC_mem {t : Nat} : ∀ {l : List XC} {x : XC}, findXC t l = some x → x ∈ l ∧ x.t = t := by
 intro l
 induction l with
 | nil => intro x h; cases h
 | cons y l ih =>
  intro x h
  simp only [findXC] at h
  cases e : Nat.beq y.t t with
  | true => rw [e, cond_true] at h; cases h; exact ⟨by simp, Nat.eq_of_beq_eq_true e⟩
  | false => rw [e, cond_false] at h; obtain ⟨h1, h2⟩ := ih h; exact ⟨by simp [h1], h2⟩
theorem findGV_mem {j : Nat} : ∀ {l : List (Nat × Nat × List GD × Bool)} {x : Nat × List GD × Bool}, findGV j l = some x → (j, x) ∈ l := by
 intro l
 induction l with
 | nil => intro x h; cases h
 | cons y l ih =>
  intro x h
  obtain ⟨j', y⟩ := y
  simp only [findGV] at h
  cases e : Nat.beq j' j with
  | true => rw [e, cond_true] at h; cases h; have := Nat.eq_of_beq_eq_true e; subst this; simp
  | false => rw [e, cond_false] at h; simp [ih h]
theorem findDec_mem {j : Nat} : ∀ {l : List (Nat × Bool)} {x : Bool}, findDec j l = some x → (j, x) ∈ l := by
 intro l
 induction l with
 | nil => intro x h; cases h
 | cons y l ih =>
  intro x h
  obtain ⟨j', y⟩ := y
  simp only [findDec] at h
  cases e : Nat.beq j' j with
  | true => rw [e, cond_true] at h; cases h; have := Nat.eq_of_beq_eq_true e; subst this; simp
  | false => rw [e, cond_false] at h; simp [ih h]
def GsOK (rs : RS E.G.car) (gs : List GD) : Prop := ∀ g ∈ gs, ∃ dj gs', findGV g.j rs.gv = some (dj, gs', g.c)
theorem GD.sub_conj {rs : RS E.G.car} {l l' : List GD} (h : GD.sub l l' = true) (hl : GsOK rs l) (hl' : GsOK rs l') (hc : conjG l' = true) : conjG l = true := by
 rw [conjG_iff] at hc ⊢
 intro g hg
 have h1 := List.all_eq_true.1 h g hg
 obtain ⟨g', hg', h2⟩ := List.any_eq_true.1 h1
 simp only [Bool.and_eq_true, beq_iff_eq] at h2
 have hj := Nat.eq_of_beq_eq_true h2.1
 obtain ⟨dj, gs1, e1⟩ := hl g hg
 obtain ⟨dj', gs2, e2⟩ := hl' g' hg'
 rw [hj, e2] at e1
 simp only [Option.some.injEq, Prod.mk.injEq] at e1
 have := lit_iff.1 (hc g' hg')
 rw [lit_iff, h2.2, ← this, e1.2.2]
variable {gl : List (Nat × Val E.G.car)} {fr : Fr} {ds : List (Option Nat)} {ops : Array Oper} {s0 : XS E.G.car} {rs : RS E.G.car}
def seenM (fr : Fr) (rs : RS E.G.car) (gs : List GD) : Map E.G.car := match gs with | [] => rs.map fr.f | _ => forceM (rs.map fr.f)
theorem RInv.sees (h : RInv gl fx fr ds ops s0 rs) {gs : List GD} (hgs : GsOK rs gs) (hc : conjG gs = true) : Sees (E := E) ⟨lookR fr.f rs gs, rs.s, anteOf gs⟩ (seenM fr rs gs) := by
 have ho : ∀ k : Key, (∀ i, k ≠ .t i) → seenM fr rs gs k = rs.s.map fr.f k := fun k hk => by
  cases gs with
  | nil => exact RS.map_o hk
  | cons _ _ =>
   show forceV k _ = _
   rw [RS.map_o hk]
   cases k with
   | t i => exact absurd rfl (hk i)
   | _ => rfl
 refine ⟨fun i v hv => ?_, fun L => ho _ (by simp), fun L => ho _ (by simp), fun L q => ho _ (by simp)⟩
 simp only [lookR] at hv
 cases hx : findXC i rs.xc with
 | none =>
  rw [hx] at hv
  have h1 : rs.map fr.f (.t i) = some (.x v) := by
   have hv' : rs.s.tmp fr.f i = some v := hv
   simp only [RS.map, hx, XS.map]
   rw [hv']; rfl
  cases gs with
  | nil => exact h1
  | cons _ _ => show forceV _ _ = _; rw [h1]; rfl
 | some x =>
  rw [hx] at hv
  cases hs : GD.sub x.gs gs with
  | false => simp only [hs, cond_false] at hv; cases hv
  | true =>
   simp only [hs, cond_true, Option.some.injEq] at hv
   subst hv
   have hmem := (findXC_mem hx).1
   have h1 : rs.map fr.f (.t i) = some (.xc (conjG x.gs) x.v) := by simp only [RS.map, hx]
   have h2 : conjG x.gs = true := GD.sub_conj hs (h.xcg x hmem).2 hgs hc
   cases gs with
   | nil =>
    exfalso
    obtain ⟨h3, _⟩ := h.xcg x hmem
    cases hxs : x.gs with
    | nil => exact h3 hxs
    | cons g r => rw [hxs] at hs; simp [GD.sub] at hs
   | cons _ _ => show forceV _ _ = _; rw [h1]; simp [forceV, h2]
theorem anteOK_of {gs : List GD} (h : conjG gs = true) : AnteOK (anteOf gs) := by
 cases gs with
 | nil => trivial
 | cons _ _ => exact h
theorem conj_seen (h : RInv gl fx fr ds ops s0 rs) {gs : List GD} {t : Nat} {v : SV} (hv : lookR fr.f rs gs t = some v) (hgs : GsOK rs gs) (hc : conjG gs = true) : seenM fr rs gs (.t t) = some (.x v) := (h.sees hgs hc).t t v hv
theorem seen_guard (h : RInv gl fx fr ds ops s0 rs) {gs : List GD} {j dj : Nat} {gs' : List GD} {c e : Bool} {v : SV} (hgv : findGV j rs.gv = some (dj, gs', c)) (hm : seenM fr rs gs (.t dj) = some (.x v)) (hv : ∀ m, den m v = .bool e) : c = e := by
 obtain ⟨⟨u, hu, hs⟩, _⟩ := h.gv j dj gs' c hgv
 have key : u = v := by
  cases gs with
  | nil =>
   have hm' : rs.map fr.f (.t dj) = some (.x v) := hm
   rw [hs] at hm'
   cases gs' with
   | nil => cases hm'; rfl
   | cons _ _ => cases hm'
  | cons _ _ =>
   rcases force_t hm with h1 | ⟨x, h1, h2⟩
   ·rw [hs] at h1
    cases gs' with
    | nil => cases h1; rfl
    | cons _ _ => cases h1
   ·cases h1
    rw [hs] at h2
    cases gs' with
    | nil => cases h2
    | cons g r =>
     simp only [guardVal, Option.some.injEq, Val.xc.injEq] at h2
     exact h2.2
 subst key
 have h1 := hu default
 rw [hv] at h1
 cases h1; rfl
theorem op_pickB {E : Env} {b : Base} {s : Map E.G.car} {d : Nat} {type : TypeId} {pos : String} {after : Array Edge} {guard : Option (Nat × Bool)} {c x y : Operand} {v u : SV} {q : Bool} (hN : d < b.N) (hc : Ev E s c v) (hv : ∀ m, den m v = .bool q) (hx : Ev E s (bif q then x else y) u) :
  OpRun (cxOf E b) ⟨some d, .pick c x y, type, pos, after, guard⟩ s ⟨okeys c ++ okeys (bif q then x else y), [(.t d, some (.x u))], []⟩ :=
 op_pure rfl hN (by simp) fun m A a w g hr hrel => by
  have h1 := (hc.eval hrel (fun k hk => hr k (by simp [hk]))).1
  obtain ⟨h2, h3⟩ := hx.eval hrel (fun k hk => hr k (by simp [hk]))
  rw [hv] at h1
  refine ⟨h3, ?_⟩
  cases q <;> simp [execOp, h1, asBool] <;> exact h2
theorem op_pickC {E : Env} {b : Base} {s : Map E.G.car} {d : Nat} {type : TypeId} {pos : String} {after : Array Edge} {guard : Option (Nat × Bool)} {tc tx : Nat} {e q want bb : Bool} {u : SV} (hN : d < b.N) (hc : s (.t tc) = some (.x (.b e))) (hq : ∀ m, den m u = .bool q)
  (hx : s (.t tx) = some (.xc bb u) ∨ (bb = true ∧ s (.t tx) = some (.x u))) (hb : e = want → bb = true) :
  OpRun (cxOf E b) ⟨some d, bif want then .pick (.tmp tc) (.tmp tx) (.const (.bool false)) else .pick (.tmp tc) (.const (.bool true)) (.tmp tx), type, pos, after, guard⟩ s ⟨[.t tc, .t tx], [(.t d, some (.x (.b (bif want then e && q else e || q))))], []⟩ :=
 op_pure rfl hN (by cases want <;> simp) fun m A a w g hr hrel => by
  have h1 := (hrel.ent (.t tc) (.x (.b e)) (by rw [hr _ (by simp)]; exact hc)).1
  have h2 : bb = true → a.tmps[tx]? = some (.bool q) := fun hbb => by
   rcases hx with hx | ⟨_, hx⟩
   ·have := (hrel.ent (.t tx) (.xc bb u) (by rw [hr _ (by simp)]; exact hx)).1
    rw [hbb, cond_true, hq] at this; exact this
   ·have := (hrel.ent (.t tx) (.x u) (by rw [hr _ (by simp)]; exact hx)).1
    rw [hq] at this; exact this
  refine ⟨trivial, ?_⟩
  simp only [den] at h1 ⊢
  cases want with
  | true =>
   cases e with
   | true => have h3 := h2 (hb rfl); simp [execOp, Act.eval, h1, h3, asBool]
   | false => simp [execOp, Act.eval, h1, asBool]
  | false =>
   cases e with
   | true => simp [execOp, Act.eval, h1, asBool]
   | false => have h3 := h2 (hb rfl); simp [execOp, Act.eval, h1, h3, asBool]
def ResOK2 (gl : List (Nat × Val E.G.car)) (fx : Fix) (fr : Fr) (rs : RS E.G.car) (gs : List GD) (o : Oper) (res : OpRes E.G.car) : Prop :=
 conjG gs = true → ∀ b : Base, Good E gl fx b → (∀ d, o.dst = some d → d < b.N) → OpRun (cxOf E b) o (seenM fr rs gs) ⟨res.rd, res.up, newL rs.s.nl res.nl⟩
theorem decOf_spec {c : Operand} : ∀ {l : List (Nat × Bool)} {v : Bool}, decOf ds c l = some v → ∃ j dj, (j, v) ∈ l ∧ ds[j]? = some (some dj) ∧ c = .tmp dj := by
 intro l
 induction l with
 | nil => intro v h; cases h
 | cons y l ih =>
  obtain ⟨j, y⟩ := y
  intro v h
  simp only [decOf] at h
  split at h
  ·rename_i t dj hd
   cases e : Nat.beq dj t with
   | true =>
    rw [e, cond_true] at h
    cases h
    have := Nat.eq_of_beq_eq_true e
    subst this
    exact ⟨j, dj, by simp, hd, rfl⟩
   | false => rw [e, cond_false] at h; obtain ⟨j', dj', h1, h2⟩ := ih h; exact ⟨j', dj', by simp [h1], h2⟩
  ·rw [cond_false] at h; obtain ⟨j', dj', h1, h2⟩ := ih h; exact ⟨j', dj', by simp [h1], h2⟩
theorem pickK_sound (h : RInv gl fx fr ds ops s0 rs) {gs : List GD} (hgs : GsOK rs gs) {d : Nat} {type : TypeId} {pos : String} {after : Array Edge} {guard : Option (Nat × Bool)} {c x y : Operand} {K : OpRes E.G.car → Option R} (hk : pickK E fr.f ds rs gs d c x y K = some r) :
  ∃ res, K res = some r ∧ ResOK2 gl fx fr rs gs ⟨some d, .pick c x y, type, pos, after, guard⟩ res := by
 have ev : ∀ {x : Operand} {K : SV → Option R}, evK (E := E) ⟨lookR fr.f rs gs, rs.s, anteOf gs⟩ x K = some r → ∃ v, K v = some r ∧ (conjG gs = true → Ev E (seenM fr rs gs) x v) ∧ (∀ t, x = .tmp t → lookR fr.f rs gs t = some v) := by
  intro x K hx
  cases x with
  | tmp t =>
   simp only [evK] at hx
   split at hx
   ·rename_i v e; exact ⟨v, hx, fun hc => conj_seen h e hgs hc, fun t' e' => by cases e'; exact e⟩
   ·cases hx
  | const v => exact ⟨_, hx, fun _ => rfl, fun t' e' => by cases e'⟩
  | global g =>
   simp only [evK] at hx
   split at hx
   ·rename_i L e; exact ⟨_, hx, fun _ => ⟨L, gloOf_mem e, rfl⟩, fun t' e' => by cases e'⟩
   ·cases hx
  | func f => exact ⟨_, hx, fun _ => rfl, fun t' e' => by cases e'⟩
 simp only [pickK] at hk
 obtain ⟨v, h1, h2, h3⟩ := ev hk
 clear hk
 have plain : ∀ (q : Bool) (hv : conjG gs = true → ∀ m, den m v = .bool q), (evK (E := E) ⟨lookR fr.f rs gs, rs.s, anteOf gs⟩ (bif q then x else y) fun u => K ⟨okeys c ++ okeys (bif q then x else y), [(.t d, some (.x u))], rs.s.nl⟩) = some r →
   ∃ res, K res = some r ∧ ResOK2 gl fx fr rs gs ⟨some d, .pick c x y, type, pos, after, guard⟩ res := fun q hv hq => by
  obtain ⟨u, h4, h5, _⟩ := ev hq
  exact ⟨_, h4, fun hc b _ hd => by rw [newL_self]; exact op_pickB (hd d rfl) (h2 hc) (hv hc) (h5 hc)⟩
 split at h1
 ·exact plain true (fun _ _ => rfl) h1
 ·exact plain false (fun _ _ => rfl) h1
 ·rename_i e
  have hdec : ∀ w, decOf ds c rs.dec = some w → conjG gs = true → e = w := fun w hw hc => by
   obtain ⟨j, dj, h4, h5, rfl⟩ := decOf_spec hw
   obtain ⟨dj', h6⟩ := h.dec _ h4
   obtain ⟨_, h7⟩ := h.gv _ _ _ _ h6
   rw [h5] at h7
   cases h7
   exact (seen_guard h h6 (h2 hc) (fun _ => rfl)).symm
  split at h1
  ·rename_i hw
   exact plain true (fun hc _ => by rw [hdec true hw hc]; rfl) h1
  ·rename_i hw
   exact plain false (fun hc _ => by rw [hdec false hw hc]; rfl) h1
  ·
   rename_i tc tx _
   split at h1
   ·rename_i t' g gs0 u hx
    obtain ⟨h4, h5⟩ := bif_some h1
    simp only [Bool.and_eq_true] at h4
    obtain ⟨q, l, h6, h7⟩ := boolK_sound h5
    obtain ⟨hmem, _⟩ := findXC_mem hx
    refine ⟨_, h6, fun hc b _ hd => ?_⟩
    rw [newL_self]
    have hm : rs.map fr.f (.t tx) = some (.xc (conjG (g :: gs0)) u) := by simp only [RS.map, hx]
    have hcons := (h.xcg _ hmem).2
    have htc := conj_seen h (h3 tc rfl) hgs hc
    have hgc : g.c = e := by
     obtain ⟨dj, gs', e1⟩ := hcons g (by simp)
     obtain ⟨_, e2⟩ := h.gv _ _ _ _ e1
     have e3 := h4.2
     rw [e2] at e3
     simp only at e3
     have := Nat.eq_of_beq_eq_true e3
     subst this
     exact seen_guard h e1 htc (fun _ => rfl)
    have hbb : e = true → conjG (g :: gs0) = true := fun he => by
     rw [conjG_cons, Bool.and_eq_true]
     refine ⟨GD.sub_conj h4.1.2 (fun g' hg' => hcons g' (by simp [hg'])) hgs hc, ?_⟩
     rw [lit_iff, hgc, he, h4.1.1]
    refine op_pickC (want := true) (hd d rfl) htc h7 ?_ hbb
    cases gs with
    | nil => exact .inl hm
    | cons _ _ =>
     show forceV _ _ = _ ∨ (_ ∧ forceV _ _ = _)
     rw [hm]
     cases hcc : conjG (g :: gs0) with
     | true => exact .inr ⟨rfl, rfl⟩
     | false => exact .inl rfl
   ·cases h1
  ·
   rename_i tc tx _
   split at h1
   ·rename_i t' g gs0 u hx
    obtain ⟨h4, h5⟩ := bif_some h1
    simp only [Bool.and_eq_true, Bool.not_eq_true'] at h4
    obtain ⟨q, l, h6, h7⟩ := boolK_sound h5
    obtain ⟨hmem, _⟩ := findXC_mem hx
    refine ⟨_, h6, fun hc b _ hd => ?_⟩
    rw [newL_self]
    have hm : rs.map fr.f (.t tx) = some (.xc (conjG (g :: gs0)) u) := by simp only [RS.map, hx]
    have hcons := (h.xcg _ hmem).2
    have htc := conj_seen h (h3 tc rfl) hgs hc
    have hgc : g.c = e := by
     obtain ⟨dj, gs', e1⟩ := hcons g (by simp)
     obtain ⟨_, e2⟩ := h.gv _ _ _ _ e1
     have e3 := h4.2
     rw [e2] at e3
     simp only at e3
     have := Nat.eq_of_beq_eq_true e3
     subst this
     exact seen_guard h e1 htc (fun _ => rfl)
    have hbb : e = false → conjG (g :: gs0) = true := fun he => by
     rw [conjG_cons, Bool.and_eq_true]
     refine ⟨GD.sub_conj h4.1.2 (fun g' hg' => hcons g' (by simp [hg'])) hgs hc, ?_⟩
     rw [lit_iff, hgc, he, h4.1.1]
    refine op_pickC (want := false) (hd d rfl) htc h7 ?_ hbb
    cases gs with
    | nil => exact .inl hm
    | cons _ _ =>
     show forceV _ _ = _ ∨ (_ ∧ forceV _ _ = _)
     rw [hm]
     cases hcc : conjG (g :: gs0) with
     | true => exact .inr ⟨rfl, rfl⟩
     | false => exact .inl rfl
   ·cases h1
  ·cases h1
 ·cases h1
end
end
end Go.KX

namespace Go.KX
open Go Go.RowKit
noncomputable section
section
variable {E : Env} {R : Type} {r : R} {fx : Fix}
def ecMap (c : EC E) : Map E.G.car
 | .t i => (c.look i).map Val.x
 | .o L => c.s.lab L 0
 | .x L => c.s.lab L 1
 | .c L q => c.s.lab L (q + 2)
 | _ => none
theorem Sees.self (c : EC E) : Sees c (ecMap c) := ⟨fun i v h => by simp [ecMap, h], fun _ => rfl, fun _ => rfl, fun _ _ => rfl⟩
theorem bnd_some {α β : Type} {x : Option α} {f : α → Option β} {r : β} (h : bnd x f = some r) : ∃ a, x = some a ∧ f a = some r := by
 cases x with
 | none => cases h
 | some a => exact ⟨a, rfl, h⟩
def ResOKG (gl : List (Nat × Val E.G.car)) (fx : Fix) (c : EC E) (M : Map E.G.car) (o : Oper) (res : OpRes E.G.car) : Prop :=
 AnteOK c.ante → ∀ b : Base, Good E gl fx b → (∀ d, o.dst = some d → d < b.N) → OpRun (cxOf E b) o M ⟨res.rd, res.up, newL c.s.nl res.nl⟩
theorem callGo0_sound {gl : List (Nat × Val E.G.car)} {tbl : List (CS E.G)} (ht : ∀ c ∈ tbl, CSok E gl c) {c : EC E} {M : Map E.G.car} (hS : Sees c M) {d : Option Nat} {fo : Operand} {ags : Array Operand} {ts : Array TypeId} {type : TypeId} {pos : String} {after : Array Edge} {guard : Option (Nat × Bool)}
  {fv : SV} {xs : List SV} (hfv : Ev E M fo fv) (hxs : EvL E M ags.toList xs) {k : Nat} {fs caps : List SV} (hk : (fv = .v (.func (.func k) #[] #[]) ∧ fs = [] ∧ caps = []) ∨ fv = .f (.func k) fs caps) {K : OpRes E.G.car → Option R}
  (h : callGo0 tbl c d (okeys fo ++ okeysL ags.toList) xs K k fs caps = some r) : ∃ res, K res = some r ∧ ResOKG gl fx c M ⟨d, .call ⟨.value fo, ags, ts⟩, type, pos, after, guard⟩ res := by
 unfold callGo0 at h
 split at h
 ·rename_i cs hcs
  obtain ⟨hmem, hck⟩ := findCS_mem hcs
  subst hck
  obtain ⟨args, ks, h3, hargs⟩ := argsK_sound hS h
  clear h
  have fin : ∀ rr, (AnteOK c.ante → cs.f args = some rr) → callFin (!ks.any isO) c.s.nl d (okeys fo ++ okeysL ags.toList ++ ks) K cs.rs rr = some r → ∃ res, K res = some r ∧ ResOKG gl fx c M ⟨d, .call ⟨.value fo, ags, ts⟩, type, pos, after, guard⟩ res := by
   intro rr hrr hres
   obtain ⟨ws, us, nl', h4, hwl, hres'⟩ := ressK_sound hres
   exact ⟨_, h4, fun ha b hg hd => op_callC (ht cs hmem) hg hfv hk hxs hargs (hrr ha) hres' hwl hd⟩
  split at h3
  ·obtain ⟨rr, h4, h5⟩ := bnd_some h3
   exact fin rr (fun _ => h4) h5
  ·rename_i e he
   obtain ⟨rr, h4, h5⟩ := bnd_some h3
   refine fin rr (fun ha => ?_) h5
   rw [he] at ha
   have ha' : e = true := ha
   subst ha'
   exact h4
 ·cases h
theorem OpRun.frozen {cx : Cx} {o : Oper} {M : CMap cx} {L ety t : Nat} {l : List (cx.G.car t)} {rd : List Key} {up : St cx.G.car} {nw : List Nat} (hL : M (.o L) = some (.row ety t l))
  (h : OpRun cx o (upd [(.o L, none), (.x L, some (.ext t l))] M) ⟨rd, up, nw⟩) : OpRun cx o M ⟨.o L :: rd, up ++ [(.o L, none), (.x L, some (.ext t l))], nw⟩ := by
 intro m A a w g hrd hfree hrel K Q hK
 have hgo : g (.o L) = some (.row ety t l) := by rw [hrd _ (reads_mem (by simp))]; exact hL
 have hall : ∀ (s : CMap cx) k, upd [(.o L, none), (.x L, some (.ext t l))] s k = if k = .o L then none else if k = .x L then some (.ext t l) else s k := fun s k => by
  rw [upd_cons, upd_one]
  by_cases e1 : k = .o L
  ·subst e1; simp
  ·by_cases e2 : k = .x L
   ·subst e2; simp
   ·rw [if_neg (Ne.symm e1), if_neg (Ne.symm e2), if_neg e1, if_neg e2]
 refine h m _ a w _ (fun k hk => ?_) (fun L' hL' => ?_) (hrel.freeze hgo) K Q fun m' A' a' w' hr => hK m' A' a' w' (by rw [upd_append]; exact hr)
 ·rw [hall, hall]
  split
  ·rfl
  ·split
   ·rfl
   ·exact hrd k (reads_cons hk)
 ·have hf := hfree L' hL'
  refine hf.upd ?_
  have hne : L ≠ L' := fun e => by
   subst e
   have := hf.1 (.o L)
   rw [hgo] at this
   simp [mentions, keyHas] at this
  have hb : L.beq L' = false := beq_ne hne
  simp [mentionsIn, mentions, keyHas, valHas, hb]
theorem frzH_sound : ∀ {vs : List SV} {c : EC E} {M : Map E.G.car} {K : EC E → List Key → St E.G.car → Option R}, Sees c M → frzH c vs K = some r →
  ∃ c' ks us, K c' ks us = some r ∧ Sees c' (upd us M) ∧ c'.ante = c.ante ∧ c'.s.nl = c.s.nl ∧ (∀ t, upd us M (.t t) = M (.t t)) ∧
   ∀ (b : Base) (o : Oper) (rd : List Key) (up : St E.G.car) (nw : List Nat), OpRun (cxOf E b) o (upd us M) ⟨rd, up, nw⟩ → OpRun (cxOf E b) o M ⟨ks ++ rd, up ++ us, nw⟩ := by
 intro vs
 induction vs with
 | nil => intro c M K hS h; exact ⟨c, [], [], h, hS, rfl, rfl, fun _ => rfl, fun b o rd up nw h => by rw [List.append_nil]; exact h⟩
 | cons v vs ih =>
  intro c M K hS h
  simp only [frzH] at h
  split at h
  ·rename_i L
   split at h
   ·rename_i ety t l hl
    rw [XS.upd_eq] at h
    have hML : M (.o L) = some (.row ety t l) := by rw [hS.o]; exact hl
    obtain ⟨hmap, hnl, _⟩ := XS.map_updF 0 (f := 0) (by omega) c.s (u := [(.o L, none), (.x L, some (.ext t l))]) rfl
    have hS' : Sees (⟨c.look, XS.updF 0 0 [(.o L, none), (.x L, some (.ext t l))] c.s, c.ante⟩ : EC E) (upd [(.o L, none), (.x L, some (.ext t l))] M) := by
     have key : ∀ k : Key, M k = c.s.map 0 k → upd [(.o L, none), (.x L, some (.ext t l))] M k = (XS.updF 0 0 [(.o L, none), (.x L, some (.ext t l))] c.s).map 0 k := fun k hk => by
      rw [hmap, upd_cons, upd_one, upd_cons, upd_one, hk]
     refine ⟨fun i v hv => ?_, fun L' => key (.o L') (hS.o L'), fun L' => key (.x L') (hS.x L'), fun L' q => key (.c L' q) (hS.c L' q)⟩
     rw [upd_cons, upd_one, if_neg (by simp), if_neg (by simp)]
     exact hS.t i v hv
    obtain ⟨c', ks, us, h1, h2, h3, h4, h5, h6⟩ := ih hS' h
    refine ⟨c', _, _, h1, by rw [upd_append]; exact h2, h3, h4.trans hnl, fun t' => ?_, fun b o rd up nw hop => ?_⟩
    ·rw [upd_append, h5, upd_cons, upd_one, if_neg (by simp), if_neg (by simp)]
    ·rw [upd_append] at hop
     rw [← List.append_assoc]
     exact OpRun.frozen hML (h6 b o rd up nw hop)
   ·exact ih hS h
  ·exact ih hS h
theorem upd_nones {car : Nat → Type} {g : Map car} {k : Key} : ∀ l : List Key, upd (l.map fun k => (k, none)) g k = if k ∈ l then none else g k
 | [] => by simp [upd]
 | x :: l => by
  rw [List.map_cons, upd_cons, upd_nones l]
  by_cases e : x = k
  ·subst e; simp
  ·rw [if_neg e]
   by_cases h : k ∈ l
   ·simp [h]
   ·simp [h, Ne.symm e]
theorem upd_bz {car : Nat → Type} {g : Map car} {L n : Nat} {cs : List (CV car)} (k : Key) : upd (boxFz L n cs) g k = if k = .o L then none else if k = .x L then some (.ro cs) else if k ∈ cellKeys L 0 n then none else g k := by
 unfold boxFz
 rw [upd_cons, upd_cons, upd_nones]
 by_cases e1 : k = .o L
 ·subst e1; simp
 ·rw [if_neg (Ne.symm e1), if_neg e1]
  by_cases e2 : k = .x L
  ·subst e2; simp
  ·rw [if_neg (Ne.symm e2), if_neg e2]
theorem not_cell {L n : Nat} {k : Key} (h : ∀ q, k ≠ .c L q) : k ∉ cellKeys L 0 n := fun hk => by
 obtain ⟨q, _, _, e⟩ := mem_cellKeys'.1 hk
 exact h q e
theorem Rel.freezeBox {cx : Cx} {m : Nat → MV} {A : Nat → Prop} {g : CMap cx} {a : Act} {w : World} {L ty n : Nat} {cs : List (CV cx.G.car)} {ys : List SV} (h : Rel cx m A g a w) (hL : g (.o L) = some (.sh ty n))
  (hc : ∀ j y, ys[j]? = some y → g (.c L j) = some (.x y)) (hd : HdL cx.G A w cs (denL m ys)) :
  Rel cx m (fun b => A b ∨ b = (m L).b) (upd (boxFz L n cs) g) a w := by
 obtain ⟨cur0, hsz, hheap⟩ := (show At cx m A a.tmps w (.o L) (.sh ty n) from h.ent _ _ hL)
 have how : ∀ l' x, Owns m l' (upd (boxFz L n cs) g (.o l')) x → l' ≠ L ∧ Owns m l' (g (.o l')) x := fun l' x ho => by
  rw [upd_bz] at ho
  by_cases e : l' = L
  ·subst e; rw [if_pos rfl] at ho; exact ho.elim
  ·rw [if_neg (by simpa using e), if_neg (by simp), if_neg (not_cell fun q => by simp)] at ho; exact ⟨e, ho⟩
 refine ⟨h.size, h.defers, fun k v hk => ?_, fun l' o v hv => ?_, fun l' x ho => ?_, fun l1 l2 x h1 h2 => ?_, fun b hb => ?_, h.held, h.top, h.fix, h.ko, fun b hb => hb.elim (h.frz0 b) fun h2 => .inr (by rw [h2]; exact (h.own L _ (by rw [hL]; rfl)).1), fun b hb => .inl (h.frzA b hb), h.pins⟩
 ·rw [upd_bz] at hk
  by_cases e1 : k = .o L
  ·rw [if_pos e1] at hk; cases hk
  ·rw [if_neg e1] at hk
   by_cases e2 : k = .x L
   ·rw [if_pos e2] at hk; cases hk; subst e2
    refine ⟨.inr rfl, fun j cv hj => ?_⟩
    obtain ⟨u, h1, h2⟩ := hd.get j cv hj
    rw [denL_get] at h1
    cases hy : ys[j]? with
    | none => rw [hy] at h1; cases h1
    | some y =>
     rw [hy] at h1
     simp only [Option.map_some, Option.some.injEq] at h1
     obtain ⟨⟨cur, ty', h3, h4⟩, _⟩ := (show At cx m A a.tmps w (.c L j) (.x y) from h.ent _ _ (hc j y hy))
     refine ⟨u, ?_, h2.mono (fun _ h => .inl h) (fun _ _ => rfl)⟩
     simp only [World.cell?, h3, Option.isSome_none, Bool.false_eq_true, if_false]
     rw [h4, h1]
   ·rw [if_neg e2] at hk
    by_cases e3 : k ∈ cellKeys L 0 n
    ·rw [if_pos e3] at hk; cases hk
    ·rw [if_neg e3] at hk
     exact (h.ent k v hk).change (fun _ _ => rfl) (fun _ h => .inl h) (fun _ _ => rfl) (fun _ _ => rfl) (fun _ _ _ _ => rfl) (fun _ _ _ => rfl)
 ·rw [upd_bz, if_neg (by simp), if_neg (by simp)] at hv
  by_cases e3 : Key.c l' o ∈ cellKeys L 0 n
  ·rw [if_pos e3] at hv; cases hv
  ·rw [if_neg e3] at hv
   have hne : l' ≠ L := fun e => by
    subst e
    have hent := h.ent _ _ hv
    cases v with
    | x y =>
     obtain ⟨⟨cur, ty', h3, h4⟩, _⟩ := (show At cx m A a.tmps w (.c l' o) (.x y) from hent)
     rw [hheap] at h3
     cases h3
     have := (Array.getElem?_eq_some_iff.1 h4).1
     exact e3 (mem_cellKeys'.2 ⟨o, Nat.zero_le _, by omega, rfl⟩)
    | _ => exact hent.elim
   obtain ⟨ty', n', h1⟩ := h.cell l' o v hv
   refine ⟨ty', n', ?_⟩
   rw [upd_bz, if_neg (by simpa using hne), if_neg (by simp), if_neg (not_cell fun q => by simp)]
   exact h1
 ·obtain ⟨h1, h2⟩ := how l' x ho
  obtain ⟨h3, h4⟩ := h.own l' x h2
  exact ⟨h3, fun h5 => h5.elim h4 fun h7 => h1 (h.inj l' L x h2 (by rw [hL]; exact h7))⟩
 ·exact h.inj l1 l2 x (how l1 x h1).2 (how l2 x h2).2
 ·rcases hb with hb | rfl
  ·exact h.frzc b hb
  ·exact h.blk (L := L) (by rw [hL]; rfl)
theorem OpRun.frozenBox {b : Base} {o : Oper} {M : Map E.G.car} {L ty n : Nat} {cs : List (CV E.G.car)} {ys : List SV} {ks rd : List Key} {up : St E.G.car} {nw : List Nat} (hL : M (.o L) = some (.sh ty n))
  (hn : ys.length = n) (hc : ∀ j y, ys[j]? = some y → M (.c L j) = some (.x y)) (hs : SvCases M ys cs ks [])
  (h : OpRun (cxOf E b) o (upd (boxFz L n cs) M) ⟨rd, up, nw⟩) : OpRun (cxOf E b) o M ⟨(.o L :: (cellKeys L 0 n ++ ks)) ++ rd, up ++ boxFz L n cs, nw⟩ := by
 intro m A a w g hrd hfree hrel K Q hK
 have hgo : g (.o L) = some (.sh ty n) := by rw [hrd _ (reads_mem (by simp))]; exact hL
 have hgc : ∀ j y, ys[j]? = some y → g (.c L j) = some (.x y) := fun j y hj => by
  have hlt : j < n := by rw [← hn]; exact (List.getElem?_eq_some_iff.1 hj).1
  have := mem_cellKeys (L := L) (o := 0) hlt
  rw [Nat.zero_add] at this
  rw [hrd _ (reads_mem (by simp [this]))]; exact hc j y hj
 obtain ⟨A', hA, hrel', hd⟩ := hs.freeze hrel (fun k hk => .inl (hrd k (reads_mem (by simp [hk]))))
 have hrel'' : Rel (cxOf E b) m A' g a w := hrel'
 have hrel2 := hrel''.freezeBox hgo hgc hd
 refine h m _ a w _ (fun k hk => ?_) (fun L' hL' => ?_) hrel2 K Q fun m' A' a' w' hr => hK m' A' a' w' (by rw [upd_append]; exact hr)
 ·rw [upd_bz, upd_bz]
  split
  ·rfl
  ·split
   ·rfl
   ·split
    ·rfl
    ·refine hrd k ?_
     simp only [Row.reads, List.any_eq_true, Bool.or_eq_true] at hk ⊢
     rcases hk with ⟨x, hx, hx2⟩
     exact ⟨x, by simp [hx], hx2⟩
 ·have hf := hfree L' hL'
  refine hf.upd ?_
  have hne : L ≠ L' := fun e => by
   subst e
   have := hf.1 (.o L)
   rw [hgo] at this
   simp [mentions, keyHas] at this
  have hb : L.beq L' = false := beq_ne hne
  have hnones : ∀ l : List Key, mentionsIn L' (l.map fun k => (k, (none : Option (Val E.G.car)))) = false := by
   intro l
   induction l with
   | nil => rfl
   | cons x l ih => simp [mentionsIn, mentions, ih]
  unfold boxFz
  simp only [mentionsIn, mentions, keyHas, valHas, hb, hnones, Bool.or_false]
theorem okUps_nones {car : Nat → Type} {L : Nat} : ∀ (n o : Nat), okUps ((cellKeys L o n).map fun k => (k, (none : Option (Val car)))) = true
 | 0, _ => rfl
 | n + 1, o => by
  simp only [cellKeys, List.map_cons, okUps, List.all_cons, Bool.and_eq_true]
  exact ⟨rfl, okUps_nones n (o + 1)⟩
theorem frz_row {L : Nat} {c : EC E} {M : Map E.G.car} {vs : List SV} {K : EC E → List Key → St E.G.car → Option R} (hS : Sees c M)
  (ih : ∀ {c : EC E} {M : Map E.G.car} {K : EC E → List Key → St E.G.car → Option R}, Sees c M → frzK c vs K = some r →
  ∃ c' ks us, K c' ks us = some r ∧ Sees c' (upd us M) ∧ c'.ante = c.ante ∧ c'.s.nl = c.s.nl ∧ (∀ t, upd us M (.t t) = M (.t t)) ∧
   ∀ (b : Base) (o : Oper) (rd : List Key) (up : St E.G.car) (nw : List Nat), OpRun (cxOf E b) o (upd us M) ⟨rd, up, nw⟩ → OpRun (cxOf E b) o M ⟨ks ++ rd, up ++ us, nw⟩)
  (h : (frzH c [.h L] fun c1 k1 u1 => frzK c1 vs fun c' ks us => K c' (k1 ++ ks) (us ++ u1)) = some r) :
  ∃ c' ks us, K c' ks us = some r ∧ Sees c' (upd us M) ∧ c'.ante = c.ante ∧ c'.s.nl = c.s.nl ∧ (∀ t, upd us M (.t t) = M (.t t)) ∧
   ∀ (b : Base) (o : Oper) (rd : List Key) (up : St E.G.car) (nw : List Nat), OpRun (cxOf E b) o (upd us M) ⟨rd, up, nw⟩ → OpRun (cxOf E b) o M ⟨ks ++ rd, up ++ us, nw⟩ := by
 obtain ⟨c1, k1, u1, h1, h2, h3, h4, h5, h6⟩ := frzH_sound hS h
 obtain ⟨c2, k2, u2, g1, g2, g3, g4, g5, g6⟩ := ih h2 h1
 refine ⟨c2, _, _, g1, by rw [upd_append]; exact g2, g3.trans h3, g4.trans h4, fun t => by rw [upd_append, g5, h5], fun b o rd up nw hop => ?_⟩
 rw [upd_append] at hop
 have := h6 b o _ _ _ (g6 b o rd up nw hop)
 simpa only [List.append_assoc] using this
theorem frzK_sound : ∀ {vs : List SV} {c : EC E} {M : Map E.G.car} {K : EC E → List Key → St E.G.car → Option R}, Sees c M → frzK c vs K = some r →
  ∃ c' ks us, K c' ks us = some r ∧ Sees c' (upd us M) ∧ c'.ante = c.ante ∧ c'.s.nl = c.s.nl ∧ (∀ t, upd us M (.t t) = M (.t t)) ∧
   ∀ (b : Base) (o : Oper) (rd : List Key) (up : St E.G.car) (nw : List Nat), OpRun (cxOf E b) o (upd us M) ⟨rd, up, nw⟩ → OpRun (cxOf E b) o M ⟨ks ++ rd, up ++ us, nw⟩ := by
 intro vs
 induction vs with
 | nil => intro c M K hS h; exact ⟨c, [], [], h, hS, rfl, rfl, fun _ => rfl, fun b o rd up nw h => by rw [List.append_nil]; exact h⟩
 | cons v vs ih =>
  intro c M K hS h
  simp only [frzK] at h
  split at h
  ·exact frz_row hS ih h
  ·exact frz_row hS ih h
  ·rename_i L q
   split at h
   ·rename_i ty n hl
    split at h
    ·rename_i t ws ht hws
     obtain ⟨c1, k1, u1, h1, h2, h3, h4, h5, h6⟩ := frzH_sound hS h
     clear h
     split at h1
     ·rename_i ty1 n1 ws1 hl1 hws1
      obtain ⟨hn1, h1⟩ := bif_some h1
      have hn1 := Nat.eq_of_beq_eq_true hn1
      subst hn1
      obtain ⟨cs, k2, u2, h7, hcs⟩ := svCVs_sound h2 h1
      split at h7
      ·rw [XS.upd_eq] at h7
       have hok : okUps (boxFz L n1 cs) = true := by
        unfold boxFz
        simp only [okUps, List.all_cons, Bool.and_eq_true]
        exact ⟨rfl, rfl, okUps_nones n1 0⟩
       obtain ⟨hmap, hnl, _⟩ := XS.map_updF 0 (f := 0) (by omega) c1.s (u := boxFz L n1 cs) hok
       have hS' : Sees (⟨c1.look, XS.updF 0 0 (boxFz L n1 cs) c1.s, c1.ante⟩ : EC E) (upd (boxFz L n1 cs) (upd u1 M)) := by
        have key : ∀ k : Key, upd u1 M k = c1.s.map 0 k → upd (boxFz L n1 cs) (upd u1 M) k = (XS.updF 0 0 (boxFz L n1 cs) c1.s).map 0 k := fun k hk => by
         rw [hmap, upd_bz, upd_bz, hk]
        refine ⟨fun i v hv => ?_, fun L' => key (.o L') (h2.o L'), fun L' => key (.x L') (h2.x L'), fun L' q => key (.c L' q) (h2.c L' q)⟩
        rw [upd_bz, if_neg (by simp), if_neg (by simp), if_neg (not_cell fun q => by simp)]
        exact h2.t i v hv
       obtain ⟨c2, ks, us, g1, g2, g3, g4, g5, g6⟩ := ih hS' h7
       obtain ⟨hlen, hval⟩ := valCells_spec hws1
       have hML : upd u1 M (.o L) = some (.sh ty1 n1) := by rw [h2.o]; exact hl1
       have hMc : ∀ j y, ws1[j]? = some y → upd u1 M (.c L j) = some (.x y) := fun j y hj => by
        rw [h2.c]
        have := hval j y hj
        rwa [Nat.zero_add] at this
       refine ⟨c2, _, _, g1, by rw [upd_append, upd_append]; exact g2, g3.trans h3, (g4.trans hnl).trans h4, fun t' => ?_, fun b o rd up nw hop => ?_⟩
       ·rw [upd_append, upd_append, g5, upd_bz, if_neg (by simp), if_neg (by simp), if_neg (not_cell fun q => by simp), h5]
       ·rw [upd_append, upd_append] at hop
        have a1 := g6 b o rd up nw hop
        have a2 := OpRun.frozenBox hML hlen hMc hcs a1
        have a3 := h6 b o _ _ _ a2
        simpa only [List.append_assoc] using a3
      ·cases h7
     ·cases h1
    ·exact ih hS h
   ·exact ih hS h
  ·exact ih hS h
theorem callGo_sound {gl : List (Nat × Val E.G.car)} {tbl : List (CS E.G)} (ht : ∀ c ∈ tbl, CSok E gl c) {c : EC E} {M : Map E.G.car} (hS : Sees c M) {d : Option Nat} {fo : Operand} {ags : Array Operand} {ts : Array TypeId} {type : TypeId} {pos : String} {after : Array Edge} {guard : Option (Nat × Bool)}
  {fv : SV} {xs : List SV} (hfv : Ev E M fo fv) (hxs : EvL E M ags.toList xs) {k : Nat} {fs caps : List SV} (hk : (fv = .v (.func (.func k) #[] #[]) ∧ fs = [] ∧ caps = []) ∨ fv = .f (.func k) fs caps) {K : OpRes E.G.car → Option R}
  (h : callGo tbl c d (okeys fo ++ okeysL ags.toList) xs K k fs caps = some r) : ∃ res, K res = some r ∧ ResOKG gl fx c M ⟨d, .call ⟨.value fo, ags, ts⟩, type, pos, after, guard⟩ res := by
 unfold callGo at h
 split at h
 ·split at h
  ·rename_i ha
   cases hb : (List.all _ (rkFlat E) : Bool) with
   | true => rw [hb, cond_true] at h; exact callGo0_sound ht hS hfv hxs hk h
   | false =>
    rw [hb, cond_false] at h
    obtain ⟨c', ks, us, h1, h2, h3, h4, h5, h6⟩ := frzK_sound hS h
    have e1 : ∀ o v, Ev E M o v → Ev E (upd us M) o v := fun o v ho => by
     cases o with
     | tmp t => exact (h5 t).trans ho
     | _ => exact ho
    have e2 : ∀ os vs, EvL E M os vs → EvL E (upd us M) os vs := by
     intro os
     induction os with
     | nil => intro vs h; exact h
     | cons o os ih =>
      intro vs h
      obtain ⟨v, vs', h1, h2, h3⟩ := h
      exact ⟨v, vs', h1, e1 o v h2, ih vs' h3⟩
    obtain ⟨res, h7, h8⟩ := callGo0_sound (fx := fx) (type := type) (pos := pos) (after := after) (guard := guard) (ts := ts) ht h2 (e1 _ _ hfv) (e2 _ _ hxs) hk h1
    refine ⟨_, h7, fun ha b hg hd => ?_⟩
    rw [← h3] at ha
    rw [← h4]
    exact h6 b _ _ _ _ (h8 ha b hg hd)
  ·exact callGo0_sound ht hS hfv hxs hk h
 ·cases h
theorem callK_sound {gl : List (Nat × Val E.G.car)} {tbl : List (CS E.G)} {I : Run E R} (ht : ∀ c ∈ tbl, CSok E gl c) (hI : RunOK E gl fx.ys I) {c : EC E} {M : Map E.G.car} (hS : Sees c M) (hinv : Inv c.s) (hglo : ∀ p ∈ E.glo, p.1 < c.s.nl) (hpn : fx.pn ≤ c.s.nl)
  {lv : Nat} {roots : Nat → List Nat} {d : Option Nat} {fo : Operand} {ags : Array Operand} {ts : Array TypeId} {type : TypeId} {pos : String} {after : Array Edge} {guard : Option (Nat × Bool)} {hh : Hint}
  {F0 : Nat} {K : OpRes E.G.car → Hint → Option R} (h : callK F0 E tbl I lv roots c d fo ags.toList hh K = some r) : ∃ res h', K res h' = some r ∧ ResOKG gl fx c M ⟨d, .call ⟨.value fo, ags, ts⟩, type, pos, after, guard⟩ res := by
 unfold callK at h
 obtain ⟨fv, h1, hfv⟩ := evK_sound hS h
 obtain ⟨xs, h2, hxs⟩ := evL_sound hS h1
 clear h h1
 have hM : ∀ k L, k.lab = some L → M k = c.s.map 0 k := fun k L hk => by
  cases k with
  | o L' => exact hS.o L'
  | x L' => exact hS.x L'
  | c L' q => exact hS.c L' q
  | _ => cases hk
 have place : ∀ (ce : Callee) (rts : List Nat) (as' : List SV), CalleeIs ce fv xs as' → inlK F0 I lv c.s ce rts as' (okeys fo ++ okeysL ags.toList) d hh K = some r →
   ∃ res h', K res h' = some r ∧ ResOKG gl fx c M ⟨d, .call ⟨.value fo, ags, ts⟩, type, pos, after, guard⟩ res := by
  intro ce rts as' hce hk
  obtain ⟨ls, s0, s', v, h', h3, hres⟩ := inlK_sound hI hinv hglo hM hk
  exact ⟨_, h', h3, fun _ b hg hd => op_inl hres hg hpn hfv hxs hce hd⟩
 have main : ∀ (k : Nat) (fs caps : List SV), ((fv = .v (.func (.func k) #[] #[]) ∧ fs = [] ∧ caps = []) ∨ fv = .f (.func k) fs caps) → ∀ rts, callGo2 F0 tbl I lv rts c d (okeys fo ++ okeysL ags.toList) xs k fs caps hh K = some r →
   ∃ res h', K res h' = some r ∧ ResOKG gl fx c M ⟨d, .call ⟨.value fo, ags, ts⟩, type, pos, after, guard⟩ res := by
  intro k fs caps hk rts h
  unfold callGo2 at h
  split at h
  ·obtain ⟨res, h3, h4⟩ := callGo_sound (fx := fx) (type := type) (pos := pos) (after := after) (guard := guard) (ts := ts) ht hS hfv hxs hk h
   exact ⟨res, hh, h3, h4⟩
  ·split at h
   ·exact place (.fn k) rts _ ⟨fs, caps, hk, rfl⟩ h
   ·cases h
 split at h2
 ·rename_i k fa ca
  split at h2
  ·rename_i e1 e2
   have e3 : fa = #[] := Array.ext' e1
   have e4 : ca = #[] := Array.ext' e2
   subst e3; subst e4
   exact main _ [] [] (.inl ⟨rfl, rfl, rfl⟩) _ h2
  ·cases h2
 ·exact main _ _ _ (.inr rfl) _ h2
 ·split at h2
  ·exact place (.y _) _ _ ⟨rfl, rfl⟩ h2
  ·cases h2
 ·cases h2
variable {gl : List (Nat × Val E.G.car)} {fr : Fr} {ds : List (Option Nat)} {ops : Array Oper} {s0 : XS E.G.car} {rs : RS E.G.car}
theorem ecMap_or (h : RInv gl fx fr ds ops s0 rs) {gs : List GD} (hgs : GsOK rs gs) : (conjG gs = true ∧ Sees (E := E) ⟨lookR fr.f rs gs, rs.s, anteOf gs⟩ (seenM fr rs gs)) ∨ (¬ conjG gs = true ∧ Sees (E := E) ⟨lookR fr.f rs gs, rs.s, anteOf gs⟩ (ecMap ⟨lookR fr.f rs gs, rs.s, anteOf gs⟩)) := by
 by_cases hc : conjG gs = true
 ·exact .inl ⟨hc, h.sees hgs hc⟩
 ·exact .inr ⟨hc, Sees.self _⟩
structure CtxOK (E : Env) (gl : List (Nat × Val E.G.car)) (fx : Fix) (cx : Ctx E) {R : Type} (I : Run E R) (s0 : XS E.G.car) : Prop where
 tbl : ∀ c ∈ cx.tbl, CSok E gl c
 run : RunOK E gl fx.ys I
 glo : ∀ p ∈ E.glo, p.1 < s0.nl
 pn : fx.pn ≤ s0.nl
 keys : ∀ p ∈ E.keys, KeyOK E.P E.G p.1 p.2
theorem opsK_sound {cx : Ctx E} {I : Run E R} (ht : CtxOK E gl fx cx I s0) (h : RInv gl fx fr ds ops s0 rs) {gs : List GD} (hgs : GsOK rs gs) {wr : Bool} {o : Oper} {hh : Hint} {K : OpRes E.G.car → Hint → Option R} (hk : opsK cx I fr wr ds rs gs o hh K = some r) :
  ∃ res h', K res h' = some r ∧ ResOK2 gl fx fr rs gs o res := by
 obtain ⟨dst, op, type, pos, after, guard⟩ := o
 have gen : (bif deepB (E := E) ⟨lookR fr.f rs gs, rs.s, anteOf gs⟩ wr ⟨dst, op, type, pos, after, guard⟩ then opDK ⟨lookR fr.f rs gs, rs.s, anteOf gs⟩ ⟨dst, op, type, pos, after, guard⟩ hh K else opK (E := E) ⟨lookR fr.f rs gs, rs.s, anteOf gs⟩ wr ⟨dst, op, type, pos, after, guard⟩ (fun res => K res hh)) = some r → ∃ res h', K res h' = some r ∧ ResOK2 gl fx fr rs gs ⟨dst, op, type, pos, after, guard⟩ res := fun hk => by
  cases hd : deepB (E := E) ⟨lookR fr.f rs gs, rs.s, anteOf gs⟩ wr ⟨dst, op, type, pos, after, guard⟩ with
  | true =>
   rw [hd, cond_true] at hk
   rcases ecMap_or h hgs with ⟨hc, hS⟩ | ⟨hc, hS⟩
   ·obtain ⟨res, h', h1, h2⟩ := opDK_sound hS ht.keys hk
    exact ⟨res, h', h1, fun hc b _ hd => h2 (anteOK_of hc) b hd⟩
   ·obtain ⟨res, h', h1, _⟩ := opDK_sound hS ht.keys hk
    exact ⟨res, h', h1, fun hc' => absurd hc' hc⟩
  | false =>
   rw [hd, cond_false] at hk
   rcases ecMap_or h hgs with ⟨hc, hS⟩ | ⟨hc, hS⟩
   ·obtain ⟨res, h1, h2⟩ := opK_sound hS hk
    exact ⟨res, hh, h1, fun hc b _ hd => h2 (anteOK_of hc) b hd⟩
   ·obtain ⟨res, h1, _⟩ := opK_sound hS hk
    exact ⟨res, hh, h1, fun hc' => absurd hc' hc⟩
 have hglo : ∀ p ∈ E.glo, p.1 < rs.s.nl := fun p hp => Nat.lt_of_lt_of_le (ht.glo p hp) h.ext.nl
 have hpn : fx.pn ≤ rs.s.nl := Nat.le_trans ht.pn h.ext.nl
 cases op with
 | pick c a b =>
  cases dst with
  | some d =>
   have hk : pickK E fr.f ds rs gs d c a b (fun res => K res hh) = some r := hk
   obtain ⟨res, h1, h2⟩ := pickK_sound h hgs hk
   exact ⟨res, hh, h1, h2⟩
  | none => exact gen hk
 | call cc =>
  obtain ⟨callee, ags, ts⟩ := cc
  cases callee with
  | value fo =>
   have hk' : callK cx.F E cx.tbl I fr.d fr.roots ⟨lookR fr.f rs gs, rs.s, anteOf gs⟩ dst fo ags.toList hh K = some r := hk
   rcases ecMap_or h hgs with ⟨hc, hS⟩ | ⟨hc, hS⟩
   ·obtain ⟨res, h', h1, h2⟩ := callK_sound ht.tbl ht.run hS h.inv hglo hpn hk'
    exact ⟨res, h', h1, fun hc b hg hd => h2 (anteOK_of hc) b hg hd⟩
   ·obtain ⟨res, h', h1, _⟩ := callK_sound (type := type) (pos := pos) (after := after) (guard := guard) (ts := ts) ht.tbl ht.run hS h.inv hglo hpn hk'
    exact ⟨res, h', h1, fun hc' => absurd hc' hc⟩
  | _ => exact gen hk
 | _ => exact gen hk
theorem upTemps_spec {car : Nat → Type} {ts : List Nat} : ∀ {u : St car}, upTemps ts u = true → ∀ i ∈ ts, touches (.t i) u = false := by
 intro u
 induction u with
 | nil => intro _ i _; rfl
 | cons x u ih =>
  obtain ⟨k, v⟩ := x
  intro h i hi
  cases k with
  | t j =>
   simp only [upTemps, Bool.and_eq_true, Bool.not_eq_true'] at h
   simp only [touches, Bool.or_eq_false_iff]
   refine ⟨?_, ih h.2 i hi⟩
   have := List.any_eq_false.1 h.1 i hi
   cases e : (Key.t j).eqb (.t i) with
   | false => rfl
   | true =>
    have e1 : Nat.beq j i = true := e
    exact absurd e1 this
  | _ =>
   simp only [touches, Bool.or_eq_false_iff]
   exact ⟨rfl, ih (by simpa [upTemps] using h) i hi⟩
theorem rows_map {rows : List (Row E.G.car)} {row : Row E.G.car} {s : Map E.G.car} : ((row :: rows).reverse.foldl (fun s r => upd r.up s) s) = upd row.up (rows.reverse.foldl (fun s r => upd r.up s) s) := by
 rw [List.reverse_cons, List.foldl_append]; rfl
theorem Ext.drop_nl {d nl : Nat} {s s' : XS E.G.car} (h : Ext d s s') (hn : s'.nl ≤ nl) : Ext d s ⟨s'.t, s'.o, nl⟩ :=
 ⟨fun k x hx hd => h.t k x hx hd, fun L q e he hd => h.o L q e he hd, Nat.le_trans h.nl hn⟩
theorem GuardIs.keep {s s' : Map E.G.car} {dj : Nat} {gs : List GD} {c : Bool} (h : GuardIs s dj gs c) (he : s' (.t dj) = s (.t dj)) : GuardIs s' dj gs c := by
 obtain ⟨v, h1, h2⟩ := h
 exact ⟨v, h1, he.trans h2⟩
theorem commit_plain (hf : fr.f < 16) (h : RInv gl fx fr ds ops s0 rs) {k : List Key} {res : OpRes E.G.car} {K : RS E.G.car → Option R} {od : Option Nat} (hk : commitK fr od rs [] k res K = some r)
  (hop : ∀ b : Base, Good E gl fx b → b.N = fr.N → OpOK (cxOf E b) ops rs.rows.length (rs.map fr.f) ⟨k ++ res.rd, res.up, newL rs.s.nl res.nl⟩) :
  ∃ rs', K rs' = some r ∧ RInv gl fx fr ds ops s0 rs' ∧ rs'.rows.length = rs.rows.length + 1 := by
 unfold commitK at hk
 simp only at hk
 obtain ⟨h1, h2⟩ := bif_some hk
 simp only [Bool.and_eq_true] at h1
 obtain ⟨⟨⟨h3, h4⟩, h5⟩, h6⟩ := h1
 have h4' := Nat.le_of_ble_eq_true h4
 rw [XS.upd_eq] at h2
 obtain ⟨m1, m2, m3⟩ := XS.map_updF fr.d hf rs.s (upBelow_ups h3)
 refine ⟨_, h2, ?_, rfl⟩
 have hxt : ∀ x ∈ rs.xc, touches (.t x.t) res.up = false := fun x hx => upTemps_spec h6 _ (List.mem_map.2 ⟨x, hx, rfl⟩)
 have hmap : RS.map fr.f (⟨⟨(XS.updF fr.d fr.f res.up rs.s).t, (XS.updF fr.d fr.f res.up rs.s).o, res.nl⟩, rs.xc, rs.gv, rs.dec, ⟨k ++ res.rd, res.up, newL rs.s.nl res.nl⟩ :: rs.rows⟩ : RS E.G.car) = upd res.up (rs.map fr.f) := by
  have e0 : ∀ k, XS.map (⟨(XS.updF fr.d fr.f res.up rs.s).t, (XS.updF fr.d fr.f res.up rs.s).o, res.nl⟩ : XS E.G.car) fr.f k = upd res.up (rs.s.map fr.f) k := fun k => by rw [← m1]; cases k <;> rfl
  have other : ∀ k, (∀ x, findXC x rs.xc ≠ none → k ≠ .t x) → upd res.up (rs.s.map fr.f) k = upd res.up (rs.map fr.f) k := fun k hk => by
   cases ht : touches k res.up with
   | true => exact upd_congr ht _ _
   | false =>
    rw [upd_of_touches ht, upd_of_touches ht]
    cases k with
    | t i =>
     simp only [RS.map]
     cases hx : findXC i rs.xc with
     | none => rfl
     | some x => exact absurd rfl (hk i (by rw [hx]; simp))
    | _ => rfl
  funext k
  cases k with
  | t i =>
   simp only [RS.map]
   cases hx : findXC i rs.xc with
   | none =>
    simp only []
    rw [e0, other]
    intro x hx' e
    cases e
    exact hx' hx
   | some x =>
    simp only []
    obtain ⟨hm, rfl⟩ := findXC_mem hx
    rw [upd_of_touches (hxt x hm)]
    simp only [RS.map, hx]
  | _ =>
   rw [RS.map_o (fun i => by simp), e0, other _ (fun x _ => by simp)]
 have hgvt : ∀ j dj gs c, findGV j rs.gv = some (dj, gs, c) → touches (.t dj) res.up = false := fun j dj gs c hj => upTemps_spec h5 _ (List.mem_map.2 ⟨_, findGV_mem hj, rfl⟩)
 refine ⟨h.inv.updF h4' h3, (h.ext.trans m3).drop_nl (by rw [m2]; exact h4'), ?_, fun j dj gs c hj => ?_, h.xcg, fun x hx => ?_, h.dec, fun b hg hN => ?_, fun row hrow L hL => ?_⟩
 ·refine Eq.trans hmap (Eq.trans ?_ rows_map.symm)
  rw [h.map]
 ·obtain ⟨g1, g2⟩ := h.gv j dj gs c hj
  exact ⟨g1.keep ((congrFun hmap _).trans (upd_of_touches (hgvt j dj gs c hj) _)), g2⟩
 ·have e1 : (XS.updF fr.d fr.f res.up rs.s).map fr.f (.t x.t) = rs.s.map fr.f (.t x.t) := by rw [m1, upd_of_touches (hxt x hx)]
  simp only [XS.map, h.xct x hx, Option.map_none, Option.map_eq_none_iff] at e1
  exact e1
 ·have h7 := h.ok b hg hN
  rw [List.reverse_cons]
  refine h7.snoc ?_
  rw [Nat.zero_add, List.length_reverse, ← h.map]
  exact hop b hg hN
 ·rcases List.mem_cons.1 hrow with rfl | hrow
  ·have := (mem_newL.1 hL).1
   exact Nat.le_trans h.ext.nl this
  ·exact h.nw row hrow L hL
theorem commit_guard (hf : fr.f < 16) (h : RInv gl fx fr ds ops s0 rs) {gs : List GD} (hne : gs ≠ []) (hgs : GsOK rs gs) {k : List Key} {res : OpRes E.G.car} {K : RS E.G.car → Option R} {od : Option Nat} (hk : commitK fr od rs gs k res K = some r)
  (hop : ∀ d v, od = some d → res.up = [(.t d, some (.x v))] → res.nl = rs.s.nl → ∀ b : Base, Good E gl fx b → b.N = fr.N → OpOK (cxOf E b) ops rs.rows.length (rs.map fr.f) ⟨k ++ res.rd, [(.t d, some (.xc (conjG gs) v))], []⟩) :
  ∃ rs', K rs' = some r ∧ RInv gl fx fr ds ops s0 rs' ∧ rs'.rows.length = rs.rows.length + 1 := by
 cases gs with
 | nil => exact absurd rfl hne
 | cons g0 gr =>
  unfold commitK at hk
  simp only at hk
  split at hk
  ·rename_i d v hup
   obtain ⟨h1, h2⟩ := bif_some hk
   simp only [Bool.and_eq_true, Bool.not_eq_true'] at h1
   obtain ⟨⟨⟨h0, h3⟩, h4⟩, h5⟩ := h1
   have hod : od = some d := by
    split at h0
    ·rw [Nat.eq_of_beq_eq_true h0]
    ·cases h0
   have hnl := Nat.eq_of_beq_eq_true h3
   rw [XS.setTmp_eq] at h2
   refine ⟨_, h2, ?_, rfl⟩
   have hs : (rs.s.setF fr.d fr.f (.t d) none) = rs.s.tmpF fr.d fr.f d none := rfl
   have m1 := XS.map_setF fr.d hf rs.s (k := .t d) (v := none) rfl
   rw [hs] at m1
   have m2 : Ext fr.d rs.s (rs.s.tmpF fr.d fr.f d none) := by rw [← hs]; exact Ext.setF
   have m3 : Inv (rs.s.tmpF fr.d fr.f d none) := by
    have := Inv.setF (d := fr.d) (f := fr.f) (nl := rs.s.nl) (k := .t d) (v := none) h.inv (Nat.le_refl _) (fun L hL => by simp [keyHas] at hL) (fun x hx => by cases hx)
    have e : (⟨(rs.s.setF fr.d fr.f (.t d) none).t, (rs.s.setF fr.d fr.f (.t d) none).o, rs.s.nl⟩ : XS E.G.car) = rs.s.tmpF fr.d fr.f d none := by
     rw [hs, ← (XS.tmpF_o fr.d fr.f rs.s d none).2]
    rw [e] at this
    exact this
   have hmap : RS.map fr.f (⟨rs.s.tmpF fr.d fr.f d none, ⟨d, g0 :: gr, v⟩ :: rs.xc, rs.gv, rs.dec, ⟨k ++ res.rd, [(.t d, some (.xc (conjG (g0 :: gr)) v))], []⟩ :: rs.rows⟩ : RS E.G.car) = upd [(.t d, some (.xc (conjG (g0 :: gr)) v))] (rs.map fr.f) := by
    funext k
    rw [upd_one]
    cases k with
    | t i =>
     simp only [RS.map, findXC]
     by_cases e : d = i
     ·subst e
      simp
     ·rw [beq_ne e, cond_false, if_neg (by simpa using e)]
      cases hx : findXC i rs.xc with
      | some x => rfl
      | none =>
       simp only []
       rw [m1, upd_one, if_neg (by simpa using e)]
    | _ => rw [RS.map_o (fun i => by simp), if_neg (by simp), RS.map_o (fun i => by simp), m1, upd_one, if_neg (by simp)]
   have hgvt : ∀ j dj gs c, findGV j rs.gv = some (dj, gs, c) → dj ≠ d := fun j dj gs c hj e => by
    subst e
    have := List.any_eq_false.1 h5 dj (List.mem_map.2 ⟨_, findGV_mem hj, rfl⟩)
    simp at this
   refine ⟨m3, h.ext.trans m2, ?_, fun j dj gs c hj => ?_, fun x hx => ?_, fun x hx => ?_, h.dec, fun b hg hN => ?_, fun row hrow L hL => ?_⟩
   ·rw [hmap, rows_map, h.map]
   ·obtain ⟨g1, g2⟩ := h.gv j dj gs c hj
    exact ⟨g1.keep (by rw [hmap, upd_one, if_neg (by simpa using (hgvt j dj gs c hj).symm)]), g2⟩
   ·rcases List.mem_cons.1 hx with rfl | hx
    ·exact ⟨by simp, hgs⟩
    ·exact h.xcg x hx
   ·rcases List.mem_cons.1 hx with rfl | hx
    ·simp [XS.tmp, XS.get_tmpF]
    ·have e1 : (rs.s.tmpF fr.d fr.f d none).map fr.f (.t x.t) = upd [(.t d, none)] (rs.s.map fr.f) (.t x.t) := by rw [m1]
     rw [upd_one] at e1
     have e2 : (rs.s.map fr.f (.t x.t)) = none := by simp only [XS.map, h.xct x hx, Option.map_none]
     rw [e2] at e1
     simp only [XS.map, ite_self, Option.map_eq_none_iff] at e1
     exact e1
   ·have h7 := h.ok b hg hN
    rw [List.reverse_cons]
    refine h7.snoc ?_
    rw [Nat.zero_add, List.length_reverse, ← h.map]
    exact hop d v hod hup hnl b hg hN
   ·rcases List.mem_cons.1 hrow with rfl | hrow
    ·cases hL
    ·exact h.nw row hrow L hL
  ·cases hk
theorem plainK_sound {cx : Ctx E} {I : Run E R} (ht : CtxOK E gl fx cx I s0) (hf : fr.f < 16) (h : RInv gl fx fr ds ops s0 rs) {wr : Bool} {o : Oper} {k : List Key} {run : Bool} {hh : Hint} {K : RS E.G.car → Hint → Option R} (hk : plainK cx I fr wr ds rs k run o hh K = some r)
  (hdst : ∀ d, o.dst = some d → d < fr.N)
  (hrun : ∀ b : Base, ∀ (rd : List Key) (up : St E.G.car) (nw : List Nat), b.N = fr.N → run = true → OpRun (cxOf E b) o (rs.map fr.f) ⟨rd, up, nw⟩ → OpOK (cxOf E b) ops rs.rows.length (rs.map fr.f) ⟨k ++ rd, up, nw⟩)
  (hskip : ∀ b : Base, b.N = fr.N → run = false → OpOK (cxOf E b) ops rs.rows.length (rs.map fr.f) ⟨k ++ [], (match o.dst with | some d => [(.t d, some (.x (.v undef)))] | none => []), []⟩) :
  ∃ rs' h', K rs' h' = some r ∧ RInv gl fx fr ds ops s0 rs' ∧ rs'.rows.length = rs.rows.length + 1 := by
 cases run with
 | true =>
  simp only [plainK] at hk
  obtain ⟨res, h', h1, h2⟩ := opsK_sound ht h (gs := []) (fun g hg => nomatch hg) hk
  obtain ⟨rs', h3⟩ := commit_plain hf h h1 fun b hg hN => hrun b _ _ _ hN rfl (h2 rfl b hg (fun d hd => by rw [hN]; exact hdst d hd))
  exact ⟨rs', h', h3⟩
 | false =>
  simp only [plainK] at hk
  obtain ⟨rs', h3⟩ := commit_plain hf h hk fun b hg hN => by
   rw [newL_self]
   exact hskip b hN rfl
  exact ⟨rs', hh, h3⟩
theorem stepK_sound {cx : Ctx E} {I : Run E R} (ht : CtxOK E gl fx cx I s0) (hf : fr.f < 16) (h : RInv gl fx fr ds ops s0 rs) (hds : ds = ops.toList.map Oper.dst) {wr : Bool} {o : Oper} (ho : ops[rs.rows.length]? = some o) {hh : Hint} {K : RS E.G.car → Hint → Option R} (hk : stepK cx I fr wr ds rs o hh K = some r) :
  ∃ rs' h', K rs' h' = some r ∧ RInv gl fx fr ds ops s0 rs' ∧ rs'.rows.length = rs.rows.length + 1 := by
 unfold stepK at hk
 obtain ⟨hd0, hk⟩ := bif_some' hk
 have hdst : ∀ d, o.dst = some d → d < fr.N := fun d hd => by
  simp only [dstOK, hd, Bool.not_eq_false', Nat.blt_eq] at hd0
  exact hd0
 split at hk
 ·rename_i hg
  exact plainK_sound ht hf h hk hdst (fun b rd up nw _ _ hop => ok_plain ho hg hop) (fun b _ e => by cases e)
 ·rename_i j want hg
  split at hk
  ·rename_i dj hdj
   have hoj : ∃ oj, ops[j]? = some oj ∧ oj.dst = some dj := by
    rw [hds, List.getElem?_map] at hdj
    cases hj : ops.toList[j]? with
    | none => rw [hj] at hdj; cases hdj
    | some oj => rw [hj] at hdj; exact ⟨oj, by simpa using hj, by simpa using hdj⟩
   obtain ⟨oj, hj, hdj'⟩ := hoj
   have known : ∀ (rs1 : RS E.G.car) (hi : RInv gl fx fr ds ops s0 rs1) (hl : rs1.rows.length = rs.rows.length) (v : SV) (c : Bool) (hm : rs1.map fr.f (.t dj) = some (.x v)) (hv : ∀ m, den m v = .bool c) (hh : Hint),
     plainK cx I fr wr ds rs1 [.t dj] (c == want) o hh K = some r → ∃ rs' h', K rs' h' = some r ∧ RInv gl fx fr ds ops s0 rs' ∧ rs'.rows.length = rs.rows.length + 1 := by
    intro rs1 hi hl v c hm hv hh hk'
    rw [← hl]
    refine plainK_sound ht hf hi hk' hdst (fun b rd up nw hN hrun hop => ?_) (fun b hN hrun => ?_)
    ·exact ok_yes (by rw [hl]; exact ho) hg hj hdj' hm hv (by simpa using hrun) hop
    ·refine ok_no (fun d hd => by rw [show (cxOf E b).N = fr.N from hN]; exact hdst d hd) (by rw [hl]; exact ho) hg hj hdj' hm hv ?_
     cases c <;> cases want <;> simp_all
   split at hk
   ·rename_i v hdec
    obtain ⟨dj', h1⟩ := h.dec _ (findDec_mem hdec)
    obtain ⟨⟨u, hu, hs⟩, h2⟩ := h.gv _ _ _ _ h1
    rw [hdj] at h2
    cases h2
    exact known rs h rfl u v hs hu hh hk
   ·
    have gval : ∃ gs v, GsOK rs gs ∧ rs.map fr.f (.t dj) = some (guardVal gs v) ∧ guardV cx I fr wr ds rs o j dj want K hh gs v = some r := by
     simp only [guardK] at hk
     split at hk
     ·rename_i x hx
      refine ⟨x.gs, x.v, (h.xcg x (findXC_mem hx).1).2, ?_, hk⟩
      have hne := (h.xcg x (findXC_mem hx).1).1
      simp only [RS.map, hx]
      cases hxs : x.gs with
      | nil => exact absurd hxs hne
      | cons _ _ => rfl
     ·rename_i hx
      split at hk
      ·rename_i v hv
       exact ⟨[], v, (fun g hg => nomatch hg), by simp only [RS.map, hx, XS.map, hv]; rfl, hk⟩
      ·cases hk
    clear hk
    obtain ⟨gs, v, hgs, hm, hk⟩ := gval
    have note : ∀ (c : Bool), (∀ m, den m v = .bool c) → ∀ (dec : List (Nat × Bool)), (∀ q ∈ dec, q ∈ rs.dec ∨ (gs = [] ∧ q = (j, c))) → RInv gl fx fr ds ops s0 ⟨rs.s, rs.xc, (j, dj, gs, c) :: rs.gv, dec, rs.rows⟩ := by
     intro c hv dec hdec
     have hsame : ∀ dj' gs' c', findGV j rs.gv = some (dj', gs', c') → c' = c ∧ (gs' = [] → gs = []) := by
      intro dj' gs' c' hg'
      obtain ⟨⟨u, hu, hs⟩, h2⟩ := h.gv _ _ _ _ hg'
      rw [hdj] at h2
      cases h2
      rw [hm] at hs
      cases gs with
      | nil =>
       cases gs' with
       | nil =>
        cases hs
        have := hu default
        rw [hv] at this
        cases this
        exact ⟨rfl, fun _ => rfl⟩
       | cons _ _ => cases hs
      | cons g1 gr =>
       cases gs' with
       | nil => cases hs
       | cons g2 gr2 =>
        simp only [guardVal, Option.some.injEq, Val.xc.injEq] at hs
        have := hu default
        rw [← hs.2, hv] at this
        cases this
        exact ⟨rfl, fun e => by cases e⟩
     have hfind : ∀ j', findGV j' ((j, dj, gs, c) :: rs.gv) = if j = j' then some (dj, gs, c) else findGV j' rs.gv := fun j' => by
      simp only [findGV]
      by_cases e : j = j'
      ·subst e; simp
      ·rw [beq_ne e, if_neg e]; rfl
     have hmm : ∀ k, RS.map fr.f (⟨rs.s, rs.xc, (j, dj, gs, c) :: rs.gv, dec, rs.rows⟩ : RS E.G.car) k = rs.map fr.f k := fun k => by cases k <;> rfl
     have hmm' : RS.map fr.f (⟨rs.s, rs.xc, (j, dj, gs, c) :: rs.gv, dec, rs.rows⟩ : RS E.G.car) = rs.map fr.f := funext hmm
     refine ⟨h.inv, h.ext, by rw [hmm']; exact h.map, fun j' dj' gs' c' hj' => ?_, fun x hx => ⟨(h.xcg x hx).1, fun g hg' => ?_⟩, h.xct, fun q hq => ?_, h.ok, h.nw⟩
     ·rw [hfind] at hj'
      by_cases e : j = j'
      ·subst e
       rw [if_pos rfl] at hj'
       cases hj'
       exact ⟨⟨v, hv, by rw [hmm]; exact hm⟩, hdj⟩
      ·rw [if_neg e] at hj'
       rw [hmm']
       exact h.gv _ _ _ _ hj'
     ·obtain ⟨dj', gs', e1⟩ := (h.xcg x hx).2 g hg'
      by_cases e : j = g.j
      ·rw [← e] at e1
       obtain ⟨e2, _⟩ := hsame _ _ _ e1
       exact ⟨dj, gs, by rw [hfind, if_pos e, e2]⟩
      ·exact ⟨dj', gs', by rw [hfind, if_neg e]; exact e1⟩
     ·rcases hdec q hq with hq | ⟨rfl, rfl⟩
      ·obtain ⟨dj', e1⟩ := h.dec q hq
       by_cases e : j = q.1
       ·rw [← e] at e1
        obtain ⟨e2, e3⟩ := hsame _ _ _ e1
        exact ⟨dj, by rw [hfind, if_pos e, e2, e3 rfl]⟩
       ·exact ⟨dj', by rw [hfind, if_neg e]; exact e1⟩
      ·exact ⟨dj, by rw [hfind, if_pos rfl]⟩
    have guarded : ∀ (c : Bool), (∀ m, den m v = .bool c) → ∀ (h' : Hint), (opsK cx I fr wr ds rs (⟨j, want, c⟩ :: gs) o h' fun res h' => commitK fr o.dst ⟨rs.s, rs.xc, (match findGV j rs.gv with | some _ => rs.gv | none => (j, dj, gs, c) :: rs.gv), rs.dec, rs.rows⟩ (⟨j, want, c⟩ :: gs) [.t dj] res fun rs => K rs h') = some r →
      ∃ rs' h', K rs' h' = some r ∧ RInv gl fx fr ds ops s0 rs' ∧ rs'.rows.length = rs.rows.length + 1 := by
     intro c hv h' hk
     have hnote : ∃ gv', (match findGV j rs.gv with | some _ => rs.gv | none => (j, dj, gs, c) :: rs.gv) = gv' ∧ RInv gl fx fr ds ops s0 ⟨rs.s, rs.xc, gv', rs.dec, rs.rows⟩ ∧ (∃ dj' gs', findGV j gv' = some (dj', gs', c)) ∧ ∀ g ∈ gs, ∃ dj' gs', findGV g.j gv' = some (dj', gs', g.c) := by
      have hn := note c hv rs.dec (fun q hq => .inl hq)
      split
      ·rename_i g' hg'
       obtain ⟨dj', gs', c'⟩ := g'
       refine ⟨_, rfl, h, ?_, hgs⟩
       have e1 : c' = c := by
        obtain ⟨⟨u, hu, hs⟩, h2⟩ := h.gv _ _ _ _ hg'
        rw [hdj] at h2
        cases h2
        rw [hm] at hs
        cases gs with
        | nil =>
         cases gs' with
         | nil => cases hs; have := hu default; rw [hv] at this; cases this; rfl
         | cons _ _ => cases hs
        | cons g1 gr =>
         cases gs' with
         | nil => cases hs
         | cons g2 gr2 =>
          simp only [guardVal, Option.some.injEq, Val.xc.injEq] at hs
          have := hu default
          rw [← hs.2, hv] at this
          cases this; rfl
       exact ⟨dj', gs', by rw [hg', e1]⟩
      ·rename_i hno
       refine ⟨_, rfl, hn, ⟨dj, gs, by simp [findGV]⟩, fun g hg' => ?_⟩
       obtain ⟨dj', gs', e1⟩ := hgs g hg'
       refine ⟨dj', gs', ?_⟩
       have : j ≠ g.j := fun e => by rw [e] at hno; rw [hno] at e1; cases e1
       simp only [findGV]
       rw [beq_ne this, cond_false]
       exact e1
     obtain ⟨gv', hgv', hn, hjg, hgg⟩ := hnote
     rw [hgv'] at hk
     have hmm' : RS.map fr.f (⟨rs.s, rs.xc, gv', rs.dec, rs.rows⟩ : RS E.G.car) = rs.map fr.f := funext fun k => by cases k <;> rfl
     have hgs2 : GsOK (⟨rs.s, rs.xc, gv', rs.dec, rs.rows⟩ : RS E.G.car) (⟨j, want, c⟩ :: gs) := fun g hg' => by
      rcases List.mem_cons.1 hg' with rfl | hg'
      ·exact hjg
      ·exact hgg g hg'
     have hops : opsK cx I fr wr ds (⟨rs.s, rs.xc, gv', rs.dec, rs.rows⟩ : RS E.G.car) (⟨j, want, c⟩ :: gs) o h' (fun res h' => commitK fr o.dst ⟨rs.s, rs.xc, gv', rs.dec, rs.rows⟩ (⟨j, want, c⟩ :: gs) [.t dj] res fun rs => K rs h') = some r := hk
     obtain ⟨res, h'', h1, h2⟩ := opsK_sound ht hn hgs2 hops
     obtain ⟨rs', h3, h4, h5⟩ := commit_guard hf hn (by simp) hgs2 h1 (fun d v' hod hup hnl b hg' hN => by
      obtain ⟨rd, up, nl⟩ := res
      simp only at hup hnl
      subst hup; subst hnl
      rw [hmm']
      refine ok_guard (show d < b.N by rw [hN]; exact hdst d hod) ho hod hg hj hdj' ⟨v, hv, hm⟩ (fun hc => ?_)
      have h6 := h2 hc b hg' (fun d hd => by rw [hN]; exact hdst d hd)
      rw [newL_self] at h6
      simp only [seenM, hmm'] at h6
      exact h6)
     exact ⟨rs', h'', h3, h4, h5⟩
    have boolSplit : ∀ (c : Bool), (∀ m, den m v = .bool c) → guardE cx I fr wr ds rs o j dj want K hh gs c = some r →
      ∃ rs' h', K rs' h' = some r ∧ RInv gl fx fr ds ops s0 rs' ∧ rs'.rows.length = rs.rows.length + 1 := by
     intro c h2 h1
     have hdl : ∀ (e : Bool) (q : Nat × Bool), q ∈ (j, e) :: rs.dec → gs = [] → c = e → q ∈ rs.dec ∨ (gs = [] ∧ q = (j, c)) := fun e q hq hgs' hce => by
      rcases List.mem_cons.1 hq with rfl | hq
      ·exact .inr ⟨hgs', by rw [hce]⟩
      ·exact .inl hq
     unfold guardE at h1
     split at h1
     ·rename_i h3 h4 _
      cases c with
      | true =>
       exact known _ (note true h2 ((j, true) :: rs.dec) (fun q hq => hdl true q hq rfl rfl)) rfl v true hm h2 h3 h1
      | false =>
       exact known _ (note false h2 ((j, false) :: rs.dec) (fun q hq => hdl false q hq rfl rfl)) rfl v false hm h2 h4 h1
     ·exact guarded c h2 _ h1
     ·exact guarded c h2 _ h1
    unfold guardV at hk
    split at hk
    ·rename_i e
     cases e with
     | true =>
      exact known rs h rfl (.v (.bool true)) true hm (fun _ => rfl) hh hk
     | false =>
      exact known rs h rfl (.v (.bool false)) false hm (fun _ => rfl) hh hk
    ·rename_i ar
     split at hk
     ·rename_i har
      have hu : (Value.tuple ar) = undef := by
       have : ar = #[] := Array.ext' har
       rw [this]; rfl
      refine plainK_sound ht hf h hk hdst (fun b rd up nw hN hrun hop => by cases hrun) (fun b hN hrun => ?_)
      exact ok_und (fun d hd => by rw [show (cxOf E b).N = fr.N from hN]; exact hdst d hd) ho hg hj hdj' hm (fun m => by simp only [den]; exact hu)
     ·cases hk
    ·obtain ⟨c, l, h1, h2⟩ := boolK_sound hk
     exact boolSplit c h2 h1
  ·cases hk
end
end
end Go.KX

namespace Go.KX
open Go Go.RowKit
noncomputable section
section
variable {E : Env} {R : Type} {r : R} {gl : List (Nat × Val E.G.car)} {fx : Fix}
theorem regK_sound {cx : Ctx E} {I : Run E R} {fr : Fr} {ops : Array Oper} {s0 : XS E.G.car} (ht : CtxOK E gl fx cx I s0) (hf : fr.f < 16) {id : Nat} :
  ∀ (l : List Oper) (i : Nat) (rs : RS E.G.car) (h : Hint) {K : RS E.G.car → Hint → Option R}, RInv gl fx fr (ops.toList.map Oper.dst) ops s0 rs → ops.toList.drop rs.rows.length = l → rs.rows.length ≤ ops.size →
   regK cx I fr id (ops.toList.map Oper.dst) l i rs h K = some r → ∃ rs' h', K rs' h' = some r ∧ RInv gl fx fr (ops.toList.map Oper.dst) ops s0 rs' ∧ rs'.rows.length = ops.size := by
 intro l
 induction l with
 | nil =>
  intro i rs h K hi hl hle hk
  refine ⟨rs, h, hk, hi, ?_⟩
  have := List.drop_eq_nil_iff.1 hl
  simp at this
  omega
 | cons o l ih =>
  intro i rs h K hi hl hle hk
  have ho : ops.toList[rs.rows.length]? = some o := by rw [← List.head?_drop, hl]; rfl
  have hlt : rs.rows.length < ops.toList.length := (List.getElem?_eq_some_iff.1 ho).1
  have hk' : stepK cx I fr (cx.wr.any fun q => Nat.beq q.1 id && Nat.beq q.2 i) (ops.toList.map Oper.dst) rs o h (fun rs h => regK cx I fr id (ops.toList.map Oper.dst) l (Nat.succ i) rs h K) = some r := hk
  obtain ⟨rs1, h1, hk1, hi1, hn1⟩ := stepK_sound ht hf hi rfl (by simpa using ho) hk'
  refine ih (Nat.succ i) rs1 h1 hi1 ?_ ?_ hk1
  ·rw [hn1, ← List.drop_drop, hl]; rfl
  ·rw [hn1]; simp at hlt; omega
theorem RInv.start {fr : Fr} {ds : List (Option Nat)} {ops : Array Oper} {s : XS E.G.car} (h : Inv s) : RInv gl fx fr ds ops s ⟨s, [], [], [], []⟩ := by
 refine ⟨h, Ext.refl _ _, ?_, ?_, ?_, ?_, ?_, ?_, ?_⟩
 ·funext k
  cases k <;> rfl
 ·intro j dj gs c h; cases h
 ·intro x h; cases h
 ·intro x h; cases h
 ·intro x h; cases h
 ·intro b _ _; exact trivial
 ·intro x h; cases h
def Ex.to : Ex → Exit
 | .normal => .normal
 | .ret => .ret
 | .exit id => .exit id
abbrev FrOK (fr : Fr) (b : Base) : Prop := b.N = fr.N ∧ b.ds = fr.ds ∧ (fr.ds = true → b.r = none)
def Does (E : Env) (gl : List (Nat × Val E.G.car)) (fx : Fix) (fr : Fr) (c : Code) (s s' : XS E.G.car) (e : Ex) : Prop :=
 ∀ (b : Base) (m : Nat → MV) (A : Nat → Prop) (a : Act) (w : World) (Q : Exit → Act → World → Prop), Good E gl fx b → FrOK fr b → Rel (cxOf E b) m A (s.map fr.f) a w →
  (∀ m' A' a' w', Rel (cxOf E b) m' A' (s'.map fr.f) a' w' → Q e.to a' w') → c.wpIn (cxOf E b).F 0 E.P Q a w
theorem region_sound {cx : Ctx E} {I : Run E R} {fr : Fr} (hmix : E.P.follows .mixedOrders = true) {s : XS E.G.car} (ht : CtxOK E gl fx cx I s) (hf : fr.f < 16) {id : Nat} {ops : Array Oper} {draw : Bool} {h : Hint} {K : RS E.G.car → Hint → Option R}
  (hs : OKS E fx s)
  (hk : regK cx I fr id (ops.toList.map Oper.dst) ops.toList 0 ⟨s, [], [], [], []⟩ h (fun rs h => bif orderOK ops draw rs.rows.reverse then K rs h else none) = some r) :
  ∃ rs h', K rs h' = some r ∧ OKS E fx rs.s ∧ Ext fr.d s rs.s ∧ Does E gl fx fr (.region id ops draw) s rs.s .normal := by
 obtain ⟨rs, h1, h2, hi, hn⟩ := regK_sound ht hf ops.toList 0 ⟨s, [], [], [], []⟩ h (RInv.start hs.inv) rfl (Nat.zero_le _) hk
 obtain ⟨ho, h2⟩ := bif_some h2
 refine ⟨rs, h1, h2, ⟨hi.inv, fun p hp => Nat.lt_of_lt_of_le (hs.glo p hp) hi.ext.nl, Nat.le_trans hs.pn hi.ext.nl⟩, hi.ext, ?_⟩
 intro b m A a w Q hg hN hrel hq
 have hall := hi.ok b hg hN.1
 have hfree : ∀ row ∈ rs.rows.reverse, ∀ L ∈ row.nw, Free (cxOf E b) L (s.map fr.f) := fun row hrow L hL => by
  have := hi.nw row (List.mem_reverse.1 hrow) L hL
  exact ⟨hs.inv.free this, fun p hp => by have := hs.glo p hp; omega, Nat.le_trans hg.pn (Nat.le_trans hs.pn this)⟩
 have hend : ∀ m' A' a' w', Rel (cxOf E b) m' A' (rs.rows.reverse.foldl (fun s r => upd r.up s) (s.map fr.f)) a' w' → Q Exit.normal a' w' := fun m' A' a' w' h' => by
  rw [← hi.map] at h'
  refine hq m' A' a' w' (h'.weaken (fun k => ?_) (fun L o _ => ?_))
  ·cases k with
   | t i =>
    cases hx : findXC i rs.xc with
    | none => exact .inr (by simp only [RS.map, hx])
    | some x =>
     have := hi.xct x (findXC_mem hx).1
     rw [(findXC_mem hx).2] at this
     exact .inl (by simp only [XS.map, this, Option.map_none])
   | _ => exact .inr rfl
  ·rfl
 cases draw with
 | true =>
  obtain ⟨hl, M, h3, h4, h5⟩ := order_any ho
  exact region_any (cx := cxOf E b) hmix h3 h4 h5 hl hfree hall hrel hend
 | false => exact region_text (cx := cxOf E b) (by simpa using hn) hall ho hfree hrel hend
end
end
end Go.KX

namespace Go.KX
open Go Go.RowKit
noncomputable section
section
variable {cx : Cx} {m : Nat → MV} {A : Nat → Prop} {g : CMap cx} {a a' : Act} {w w' : World} {l : Nat} {o o' : Obj}
theorem IsCells.ne {k : Nat} (h : IsCells w k) (hl : w.heap[l]? = some o) (ho : o.isDat = false) : k ≠ l := fun e => by
 obtain ⟨q, h1, h2⟩ := h
 rw [e, hl] at h1; cases h1
 rw [ho] at h2; cases h2
theorem Rel.ownCells (h : Rel cx m A g a w) {L x : Nat} (ho : Owns m L (g (.o L)) x) : IsCells w x := by
 exact h.blk ho
theorem Rel.putObj (h : Rel cx m A g a w) (hl : w.heap[l]? = some o) (ho : o.isDat = false) (hm : cx.mine l) (hk : ∀ p ∈ cx.kob, p.1 ≠ l) (hd : Marks cx.ds cx.B a'.defers (w.putObj l o')) (hat : a'.tmps = a.tmps) :
  Rel cx m A g a' (w.putObj l o') := by
 have hot : ∀ k, k ≠ l → (w.putObj l o').heap[k]? = w.heap[k]? := fun k hk => World.putObj_heap_other hk
 refine ⟨by rw [hat]; exact h.size, hd, fun k v hkv => ?_, h.cell, h.own, h.inj, fun x hx => (h.frzc x hx).of (hot x ((h.frzc x hx).ne hl ho)), ?_, ?_, h.fix, fun k q hq => ?_, h.frz0, h.frzA, h.pins⟩
 ·rw [hat]
  refine (h.ent k v hkv).change (fun _ _ => rfl) (fun _ h => h) (fun x hx => hot x ((h.frzc x hx).ne hl ho)) (fun _ _ => rfl) (fun L x e hv => ?_) (fun L q e => ?_)
  ·subst e; rw [← hkv] at hv; exact hot _ ((h.ownCells hv).ne hl ho)
  ·subst e; exact hot _ ((h.ownCells (h.cOwn hkv)).ne hl ho)
 ·exact h.held.step rfl rfl .rfl (by simp [World.putObj]) fun k hk hn => hot k (not_mine hk hn hm)
 ·simp only [World.putObj, Array.size_setIfInBounds]; exact h.top
 ·obtain ⟨h1, h2⟩ := h.ko k q hq
  exact ⟨by rw [hot k (hk _ hq)]; exact h1, h2⟩
end
section
variable {E : Env} {b b' : Base} {m m' : Nat → MV} {A A' : Nat → Prop} {g g' : Map E.G.car} {a a' : Act} {w w1 w2 w3 : World} {l n : Nat} {o o2 : Obj}
theorem Rel.rebase (h : Rel (cxOf E b) m A g noAct w) (hB : b'.B = b.B) (hw0 : b'.w0 = b.w0) (hA0 : b'.A0 = b.A0) (hbor : b'.bor = b.bor) (hN : b'.N = 0) (hkob : ∀ p ∈ b'.kob, p ∈ b.kob)
  (hpn : ∀ L, L < b'.pn → m L = b'.pm L) (ht : ∀ k v, g k = some v → ∃ L, k.lab = some L) : Rel (cxOf E b') m A g noAct w := by
 have hmine : ∀ {x}, (cxOf E b).mine x → (cxOf E b').mine x := fun {x} h => by simpa only [Cx.mine, cxOf, hB, hbor] using h
 refine ⟨hN.symm, marks_nil, fun k v hk => ?_, h.cell, fun L x hL => ⟨hmine (h.own L x hL).1, (h.own L x hL).2⟩, h.inj, h.frzc, ?_, by show b'.B ≤ _; rw [hB]; exact h.top, h.fix, fun k o hk => h.ko k o (hkob _ hk), fun x hx => ?_, fun x hx => ?_, hpn⟩
 ·obtain ⟨L, hL⟩ := ht k v hk
  exact at_lab hL (h.ent k v hk)
 ·refine ⟨?_, ?_, ?_, ?_, fun k hk hn => ?_⟩
  ·show _ = b'.w0.os; rw [hw0]; exact h.held.os
  ·show _ = b'.w0.tape; rw [hw0]; exact h.held.tape
  ·show Out b'.w0 _; rw [hw0]; exact h.held.output
  ·show b'.w0.heap.size ≤ _; rw [hw0]; exact h.held.size
  ·show _ = b'.w0.heap[k]?
   rw [hw0]
   exact h.held.block k (by have : k < b'.B := hk; rw [hB] at this; exact this) (by have : ¬ b'.bor k := hn; rw [hbor] at this; exact this)
 ·rcases h.frz0 x hx with h1 | h1
  ·exact .inl (by show b'.A0 x; rw [hA0]; exact h1)
  ·exact .inr (hmine h1)
 ·exact h.frzA x (by have : b'.A0 x := hx; rw [hA0] at this; exact this)
theorem Rel.addY {L : Nat} {mv : MV} {ob : Obj} (h : Rel (cxOf E b) m A g noAct w) (ht : ∀ k v, g k = some v → ∃ L, k.lab = some L) (hf : ∀ k, mentions L k (g k) = false) (hglo : ∀ p ∈ E.glo, p.1 ≠ L) (ho : w.heap[l]? = some ob) (hc : ob.isDat = false)
  (hb : b' = { b with kob := (l, ob) :: b.kob, pn := Nat.succ L, pm := setL m L mv }) : Rel (cxOf E b') (setL m L mv) A g noAct w := by
 subst hb
 have hne : ∀ {k v l'}, g k = some v → mentions l' k (some v) = true → setL m L mv l' = m l' := fun {k v l'} hk hm => setL_ne _ _ fun e => by
  subst e
  rw [← hk, hf] at hm; cases hm
 have hoL : ∀ {L' x}, Owns (setL m L mv) L' (g (.o L')) x → L' ≠ L ∧ Owns m L' (g (.o L')) x := fun {L' x} ho => by
  have hn : L' ≠ L := fun e => by
   subst e
   cases e : g (.o L') with
   | none => rw [e] at ho; exact ho.elim
   | some v => have := hf (.o L'); rw [e] at this; simp [mentions, keyHas] at this
  exact ⟨hn, (owns_congr fun l' hl' => setL_ne _ _ fun e => by subst e; rw [hf] at hl'; cases hl').1 ho⟩
 refine ⟨h.size, h.defers, fun k v hk => ?_, h.cell, fun L' x hL => ?_, fun L1 L2 x h1 h2 => ?_, h.frzc, ⟨h.held.os, h.held.tape, h.held.output, h.held.size, h.held.block⟩, h.top, fun p hp => ?_, fun k q hq => ?_, h.frz0, h.frzA, fun _ _ => rfl⟩
 ·obtain ⟨L1, hL1⟩ := ht k v hk
  exact at_lab (b := b) hL1 ((h.ent k v hk).change (fun l' hm => hne hk hm) (fun _ h => h) (fun _ _ => rfl) (fun _ _ => rfl) (fun _ _ _ _ => rfl) (fun _ _ _ => rfl))
 ·obtain ⟨h1, h2⟩ := hoL hL
  exact h.own L' x h2
 ·obtain ⟨h3, h4⟩ := hoL h1
  obtain ⟨h5, h6⟩ := hoL h2
  exact h.inj L1 L2 x h4 h6
 ·rw [setL_ne _ _ (hglo p hp)]; exact h.fix p hp
 ·rcases List.mem_cons.1 hq with e | hq
  ·cases e; exact ⟨ho, hc⟩
  ·exact h.ko k q hq
theorem Rel.poke (h : Rel (cxOf E (inBase b n m A g w1)) m A g noAct w1) (ht : ∀ k v, g k = some v → ∃ L, k.lab = some L) (hl : w1.heap[l]? = some o) (ho : o.isDat = false) :
  Rel (cxOf E { inBase b n m A g w1 with w0 := w1.putObj l o2, kob := [] }) m A g noAct (w1.putObj l o2) := by
 have hot : ∀ k, k ≠ l → (w1.putObj l o2).heap[k]? = w1.heap[k]? := fun k hk => World.putObj_heap_other hk
 refine ⟨rfl, marks_nil, fun k v hkv => ?_, h.cell, h.own, h.inj, fun x hx => (h.frzc x hx).of (hot x ((h.frzc x hx).ne hl ho)), ⟨rfl, rfl, .rfl, Nat.le_refl _, fun _ _ _ => rfl⟩, ?_, h.fix, (fun k q hq => nomatch hq), h.frz0, h.frzA, h.pins⟩
 ·obtain ⟨L1, hL1⟩ := ht k v hkv
  refine at_lab (b := inBase b n m A g w1) (T := #[]) hL1 ((h.ent k v hkv).change (fun _ _ => rfl) (fun _ h => h) (fun x hx => hot x ((h.frzc x hx).ne hl ho)) (fun _ _ => rfl) (fun L x e hv => ?_) (fun L q e => ?_))
  ·subst e; rw [← hkv] at hv; exact hot _ ((h.ownCells hv).ne hl ho)
  ·subst e; exact hot _ ((h.ownCells (h.cOwn hkv)).ne hl ho)
 ·simp only [World.putObj, Array.size_setIfInBounds]; exact h.top
theorem Rel.unpoke {g0 : Map E.G.car} (h : Rel (cxOf E { inBase b n m A g0 w1 with w0 := w1.putObj l o2, kob := [] }) m' A' g' noAct w3) (ht : ∀ k v, g' k = some v → ∃ L, k.lab = some L) (hl : w1.heap[l]? = some o) (ho : o.isDat = false) (ho2 : o2.isDat = false)
  (hA : ∀ x, A x → IsCells w1 x) (hbor : ∀ L x, Owns m L (g0 (.o L)) x → IsCells w1 x) (hko : ∀ k q, (k, q) ∈ b.kob → w1.heap[k]? = some q ∧ q.isDat = false) :
  w3.heap[l]? = some o2 ∧ Rel (cxOf E (inBase b n m A g0 w1)) m' A' g' noAct (w3.putObj l o) := by
 have hlt : l < w1.heap.size := (Array.getElem?_eq_some_iff.1 hl).1
 have hnc : ∀ {k : Nat} {q : Obj}, w1.heap[k]? = some q → q.isDat = false → ¬ (inBase b n m A g0 w1).bor k := fun {k q} h1 h2 ⟨L, h3⟩ => (hbor L k h3).ne h1 h2 rfl
 have hb2 : ∀ k, k < w1.heap.size → ¬ (inBase b n m A g0 w1).bor k → w3.heap[k]? = (w1.putObj l o2).heap[k]? := fun k hk hn => h.held.block k hk hn
 have h3l : w3.heap[l]? = some o2 := by rw [hb2 l hlt (hnc hl ho)]; exact World.putObj_heap_same hlt
 have hot : ∀ k, k ≠ l → (w3.putObj l o).heap[k]? = w3.heap[k]? := fun k hk => World.putObj_heap_other hk
 have hlt3 : l < w3.heap.size := (Array.getElem?_eq_some_iff.1 h3l).1
 have hll : (w3.putObj l o).heap[l]? = some o := World.putObj_heap_same hlt3
 have hsz : (w3.putObj l o).heap.size = w3.heap.size := by simp [World.putObj]
 have hsz1 : (w1.putObj l o2).heap.size = w1.heap.size := by simp [World.putObj]
 refine ⟨h3l, rfl, marks_nil, fun k v hkv => ?_, h.cell, h.own, h.inj, fun x hx => (h.frzc x hx).of (hot x ((h.frzc x hx).ne h3l ho2)), ?_, ?_, h.fix, fun k q hq => ?_, h.frz0, h.frzA, h.pins⟩
 ·obtain ⟨L1, hL1⟩ := ht k v hkv
  refine at_lab (b := { inBase b n m A g0 w1 with w0 := w1.putObj l o2, kob := [] }) (T := #[]) hL1 ((h.ent k v hkv).change (fun _ _ => rfl) (fun _ h => h) (fun x hx => hot x ((h.frzc x hx).ne h3l ho2)) (fun _ _ => rfl) (fun L x e hv => ?_) (fun L q e => ?_))
  ·subst e; rw [← hkv] at hv; exact hot _ ((h.ownCells hv).ne h3l ho2)
  ·subst e; exact hot _ ((h.ownCells (h.cOwn hkv)).ne h3l ho2)
 ·refine ⟨h.held.os, h.held.tape, h.held.output, ?_, fun k hk hn => ?_⟩
  ·show w1.heap.size ≤ _
   rw [hsz, ← hsz1]; exact h.held.size
  ·show _ = w1.heap[k]?
   by_cases e : k = l
   ·subst e; rw [hll, hl]
   ·rw [hot k e, hb2 k hk hn]; exact World.putObj_heap_other e
 ·show w1.heap.size ≤ _
  rw [hsz, ← hsz1]; exact h.held.size
 ·obtain ⟨h1, h2⟩ := hko k q hq
  refine ⟨?_, h2⟩
  by_cases e : k = l
  ·subst e; rw [hll, ← hl]; exact h1
  ·rw [hot k e, hb2 k (Array.getElem?_eq_some_iff.1 h1).1 (hnc h1 h2)]
   exact (World.putObj_heap_other e).trans h1
end
end
end Go.KX

namespace Go.KX
open Go Go.RowKit
noncomputable section
section
variable {E : Env} {R : Type} {r : R} {gl : List (Nat × Val E.G.car)} {fx : Fix}
theorem retK_sound {s : XS E.G.car} : ∀ (rs : List ResultVar) {K : List SV → Option R}, retK s rs K = some r → ∃ vs, K vs = some r ∧ ∀ (b : Base) (m : Nat → MV) (A : Nat → Prop) (a : Act) (w : World), Rel (cxOf E b) m A (s.map 0) a w →
  (rs.mapM (fun | .tmp t => pure (a.tmps.getD t undef) | .cell t ty => do loadVar ty (← asAddr (a.tmps.getD t undef)) : ResultVar → Sem Value)).run E.P w = .ok (denL m vs) w ∧ okL m vs := by
 intro rs
 induction rs with
 | nil => intro K h; exact ⟨[], h, fun _ _ _ _ _ _ => ⟨rfl, trivial⟩⟩
 | cons x rs ih =>
  intro K h
  have tm : ∀ {t : Nat} {v : SV}, s.tmp 0 t = some v → ∀ {b : Base} {m : Nat → MV} {A : Nat → Prop} {a : Act} {w : World}, Rel (cxOf E b) m A (s.map 0) a w → a.tmps[t]? = some (den m v) ∧ v.ok m := fun {t v} hv b m A a w hr =>
   hr.ent (.t t) (.x v) (by simp only [XS.map, hv, Option.map_some])
  have cell : ∀ {t : TypeId} {tt : Nat} {v : SV} {vs : List SV} {b : Base} {m : Nat → MV} {A : Nat → Prop} {a : Act} {w : World}, Rel (cxOf E b) m A (s.map 0) a w → ∀ {L : Nat}, s.tmp 0 tt = some (.p L 0) → (loadVar t ⟨(m L).b, 0, none⟩).run E.P w = .ok (den m v) w →
    (rs.mapM (fun | .tmp t => pure (a.tmps.getD t undef) | .cell t ty => do loadVar ty (← asAddr (a.tmps.getD t undef)) : ResultVar → Sem Value)).run E.P w = .ok (denL m vs) w →
    ((ResultVar.cell tt t :: rs).mapM (fun | .tmp t => pure (a.tmps.getD t undef) | .cell t ty => do loadVar ty (← asAddr (a.tmps.getD t undef)) : ResultVar → Sem Value)).run E.P w = .ok (denL m (v :: vs)) w := by
   intro t tt v vs b m A a w hr L hv hl h3
   have h5 := (tm hv hr).1
   have h6 : (asAddr (a.tmps.getD tt undef)).run E.P w = .ok ⟨(m L).b, 0, none⟩ w := by
    simp [h5, den, asAddr]
   simp only [List.mapM_cons, Sem.run_bind, Sem.run_pure, Result.andThen_ok, h3, denL, h6, hl]
  cases x with
  | tmp t =>
   unfold retK at h
   split at h
   ·rename_i v hv
    obtain ⟨vs, h1, h2⟩ := ih h
    refine ⟨_, h1, fun b m A a w hr => ?_⟩
    obtain ⟨h3, h3'⟩ := h2 b m A a w hr
    obtain ⟨h4, h4'⟩ := tm hv hr
    refine ⟨?_, h4', h3'⟩
    simp only [List.mapM_cons, Sem.run_bind, Sem.run_pure, Result.andThen_ok, h3, denL]
    simp [h4]
   ·cases h
  | cell t ty =>
   unfold retK at h
   split at h
   ·rename_i L hv
    split at h
    ·rename_i hsh
     split at h
     ·rename_i v hl
      obtain ⟨vs, h1, h2⟩ := ih h
      exact ⟨_, h1, fun b m A a w hr => ⟨cell hr hv (run_load_one hsh (hr.cellAt (L := L) (o := 0) hl).1) (h2 b m A a w hr).1, (hr.cellAt (L := L) (o := 0) hl).2, (h2 b m A a w hr).2⟩⟩
     ·cases h
    ·rename_i n hsh
     split at h
     ·rename_i ys hy
      obtain ⟨vs, h1, h2⟩ := ih h
      obtain ⟨h3, h4⟩ := valCells_spec hy
      refine ⟨_, h1, fun b m A a w hr => ⟨cell (v := .g ys) hr hv (run_load_agg hsh (l := denL m ys) (by rw [denL_length, h3]) fun j u hj => ?_) (h2 b m A a w hr).1, okL_iff.2 fun y hy => ?_, (h2 b m A a w hr).2⟩⟩
      rotate_left
      ·obtain ⟨j, hj⟩ := List.getElem?_of_mem hy
       exact (hr.cellAt (L := L) (o := 0 + j) (h4 j y hj)).2
      rw [denL_get] at hj
      cases hy : ys[j]? with
      | none => rw [hy] at hj; cases hj
      | some y => rw [hy] at hj; cases hj; exact (hr.cellAt (L := L) (o := 0 + j) (h4 j y hy)).1
     ·cases h
    ·cases h
   ·cases h
theorem results_run {fn : Func} {m : Nat → MV} {a : Act} {w : World} {vs : List SV} (h1 : (fn.results.toList.mapM (fun | .tmp t => pure (a.tmps.getD t undef) | .cell t ty => do loadVar ty (← asAddr (a.tmps.getD t undef)) : ResultVar → Sem Value)).run E.P w = .ok (denL m vs) w) :
  (results fn a.tmps).run E.P w = .ok (resV (denL m vs)) w := by
 have h2 : (results fn a.tmps) = (do
   let vs ← (fn.results.toList.mapM (fun | .tmp t => pure (a.tmps.getD t undef) | .cell t ty => do loadVar ty (← asAddr (a.tmps.getD t undef)) : ResultVar → Sem Value))
   pure (if h : vs.toArray.size = 1 then vs.toArray[0] else .tuple vs.toArray)) := by
  unfold results
  rw [show fn.results = fn.results.toList.toArray from rfl, List.mapM_toArray]
  simp only [map_eq_pure_bind, bind_assoc, pure_bind]
  rfl
 rw [h2, Sem.run_bind, h1, Result.andThen_ok, Sem.run_pure]
 congr 1
 cases vs with
 | nil => rfl
 | cons x r =>
  cases r with
  | nil => rfl
  | cons y r =>
   rw [dif_neg (by simp [denL])]
   rfl
theorem setTmp_ok {d i : Nat} {v : SV} {s : XS E.G.car} (hs : OKS E fx s) (hv : v.lt s.nl = true) :
  OKS E fx (⟨s.t.set (tk 0 i) (d, some v), s.o, s.nl⟩ : XS E.G.car) ∧ Ext d s (⟨s.t.set (tk 0 i) (d, some v), s.o, s.nl⟩ : XS E.G.car) ∧
   (∀ j, (⟨s.t.set (tk 0 i) (d, some v), s.o, s.nl⟩ : XS E.G.car).tmp 0 j = if j = i then some v else s.tmp 0 j) ∧ ∀ l j, l ≠ 0 → l < 16 → (⟨s.t.set (tk 0 i) (d, some v), s.o, s.nl⟩ : XS E.G.car).tmp l j = s.tmp l j := by
 refine ⟨⟨⟨fun k a u hu => ?_, hs.inv.o⟩, hs.glo, hs.pn⟩, ⟨fun k x hx hd => ?_, fun _ _ _ h _ => h, Nat.le_refl _⟩, fun j => ?_, fun l j h1 h2 => ?_⟩
 ·have hu' : (s.t.set (tk 0 i) (d, some v)).get k = some (a, some u) := hu
  rw [PT.get_set] at hu'
  split at hu'
  ·cases hu'; exact hv
  ·exact hs.inv.t k a u hu'
 ·have hx' : (s.t.set (tk 0 i) (d, some v)).get k = some x := hx
  rw [PT.get_set] at hx'
  split at hx'
  ·cases hx'; exact absurd hd (Nat.lt_irrefl _)
  ·exact hx'
 ·simp only [XS.tmp, PT.get_set]
  by_cases e : j = i
  ·subst e; simp
  ·have : tk 0 i ≠ tk 0 j := fun h => e (by have h' : i * 16 + 0 = j * 16 + 0 := h; omega)
   rw [if_neg this, if_neg e]
 ·have : tk 0 i ≠ tk l j := fun h => by have h' : i * 16 + 0 = j * 16 + l := h; omega
  simp only [XS.tmp, PT.get_set, if_neg this]
theorem setTs_sound {d : Nat} : ∀ (is : List Nat) (vs : List SV) (s : XS E.G.car) {K : XS E.G.car → Option R}, OKS E fx s → ltL s.nl vs = true → setTs d is vs s K = some r →
  ∃ s', K s' = some r ∧ OKS E fx s' ∧ Ext d s s' ∧ s'.o = s.o ∧ s'.nl = s.nl ∧ is.length = vs.length ∧ (∀ l j, l ≠ 0 → l < 16 → s'.tmp l j = s.tmp l j) ∧
   ∀ (m : Nat → MV) (T : Array Value), okL m vs → (∀ i ∈ is, i < T.size) → (∀ i v, s.tmp 0 i = some v → T[i]? = some (den m v) ∧ v.ok m) →
    ∀ i v, s'.tmp 0 i = some v → ((is.zip (denL m vs)).foldl (fun T q => T.setIfInBounds q.1 q.2) T)[i]? = some (den m v) ∧ v.ok m := by
 intro is
 induction is with
 | nil =>
  intro vs s K hs hl h
  cases vs with
  | nil => exact ⟨s, h, hs, Ext.refl _ _, rfl, rfl, rfl, fun _ _ _ _ => rfl, fun m T _ _ hT i v hv => hT i v hv⟩
  | cons _ _ => cases h
 | cons i is ih =>
  intro vs s K hs hl h
  cases vs with
  | nil => cases h
  | cons v vs =>
   simp only [ltL, Bool.and_eq_true] at hl
   have h : setTs d is vs (⟨s.t.set (tk 0 i) (d, some v), s.o, s.nl⟩ : XS E.G.car) K = some r := by
    have h' : s.setTmp d 0 i (some v) (fun s => setTs d is vs s K) = some r := h
    simpa only [XS.setTmp, PT.setK_set] using h'
   obtain ⟨o1, x1, t1, u1⟩ := setTmp_ok (d := d) (i := i) hs hl.1
   obtain ⟨s', h1, h2, h3, h4, h5, h6, h8, h7⟩ := ih vs _ o1 hl.2 h
   refine ⟨s', h1, h2, x1.trans h3, h4, h5, by simp [h6], fun l j e1 e2 => (h8 l j e1 e2).trans (u1 l j e1 e2), fun m T hok hT hs0 => ?_⟩
   have := h7 m (T.setIfInBounds i (den m v)) hok.2 (fun j hj => by rw [Array.size_setIfInBounds]; exact hT j (by simp [hj])) (fun j u hu => by
    rw [t1] at hu
    rw [Array.getElem?_setIfInBounds]
    by_cases e : j = i
    ·subst e
     rw [if_pos rfl] at hu; cases hu
     rw [if_pos rfl, if_pos (hT _ (by simp))]
     exact ⟨rfl, hok.1⟩
    ·rw [if_neg e] at hu
     rw [if_neg (Ne.symm e)]
     exact hs0 j u hu)
   simpa [denL] using this
theorem setAs_sound {d : Nat} : ∀ (vs : List SV) (i : Nat) (s : XS E.G.car) {K : XS E.G.car → Option R}, OKS E fx s → ltL s.nl vs = true → setAs d i vs s K = some r →
  ∃ s', K s' = some r ∧ OKS E fx s' ∧ Ext d s s' ∧ s'.o = s.o ∧ s'.nl = s.nl ∧ (∀ l j, l ≠ 0 → l < 16 → s'.tmp l j = s.tmp l j) ∧ ∀ j v, s'.tmp 0 j = some v → (i ≤ j ∧ vs[j - i]? = some v) ∨ s.tmp 0 j = some v := by
 intro vs
 induction vs with
 | nil => intro i s K hs _ h; exact ⟨s, h, hs, Ext.refl _ _, rfl, rfl, fun _ _ _ _ => rfl, fun j v hv => .inr hv⟩
 | cons v vs ih =>
  intro i s K hs hl h
  simp only [ltL, Bool.and_eq_true] at hl
  have h : setAs d (Nat.succ i) vs (⟨s.t.set (tk 0 i) (d, some v), s.o, s.nl⟩ : XS E.G.car) K = some r := by
   have h' : s.setTmp d 0 i (some v) (fun s => setAs d (Nat.succ i) vs s K) = some r := h
   simpa only [XS.setTmp, PT.setK_set] using h'
  obtain ⟨o1, x1, t1, u1⟩ := setTmp_ok (d := d) (i := i) hs hl.1
  obtain ⟨s', h1, h2, h3, h4, h5, h8, h6⟩ := ih (Nat.succ i) _ o1 hl.2 h
  refine ⟨s', h1, h2, x1.trans h3, h4, h5, fun l j e1 e2 => (h8 l j e1 e2).trans (u1 l j e1 e2), fun j u hu => ?_⟩
  rcases h6 j u hu with ⟨h7, h8⟩ | h7
  ·refine .inl ⟨by omega, ?_⟩
   have : j - i = (j - Nat.succ i) + 1 := by omega
   rw [this, List.getElem?_cons_succ]; exact h8
  ·rw [t1] at h7
   by_cases e : j = i
   ·subst e
    rw [if_pos rfl] at h7; cases h7
    exact .inl ⟨Nat.le_refl _, by simp⟩
   ·rw [if_neg e] at h7
    exact .inr h7
end
end
end Go.KX

namespace Go.KX
open Go Go.RowKit
noncomputable section
section
variable {E : Env} {R : Type} {gl : List (Nat × Val E.G.car)}
def HandOK (E : Env) (gl : List (Nat × Val E.G.car)) (y : YI) {R : Type} (f : Nat → List SV → XS E.G.car → Hint → (Hint → SV → XS E.G.car → Option R) → Option R) : Prop :=
 ∀ (ys : List YI) (d : Nat) (xs : List SV) (s0 : XS E.G.car) (h : Hint) (K : Hint → SV → XS E.G.car → Option R) (r : R), OKS E ⟨s0.nl, ys⟩ s0 → s0.t = .e → ltL s0.nl xs = true → f d xs s0 h K = some r →
  ∃ h' s', K h' (.v (.bool true)) s' = some r ∧ OKS E ⟨s0.nl, ys⟩ s' ∧ s'.t = .e ∧ Ext d s0 s' ∧ xs.length = y.ps.size ∧ YDoes E gl ⟨s0.nl, ys⟩ y xs s0 s'
def YOK (E : Env) (gl : List (Nat × Val E.G.car)) (ys : List YI) {R : Type} (Y : YS E R) : Prop :=
 ∀ L f, findY L Y = some f → ∃ y ∈ ys, y.L = L ∧ HandOK E gl y f
def CodeOK (E : Env) (gl : List (Nat × Val E.G.car)) {R : Type} (c : Code) (f : YS E R → Fr → Hint → XS E.G.car → KT E R → Option R) : Prop :=
 ∀ (fx : Fix) (Y : YS E R) (fr : Fr) (h : Hint) (s : XS E.G.car) (r : R) (K : KT E R), YOK E gl fx.ys Y → fr.f = 0 → OKS E fx s → f Y fr h s K = some r →
  ∃ h' e s', K h' e s' = some r ∧ OKS E fx s' ∧ Ext fr.d s s' ∧ Does E gl fx fr c s s' e
def InlOK (E : Env) (l : List (Nat × Func)) : Prop := ∀ k fn, findFn k l = some fn → E.P.funcs[k]? = some fn ∧ Proofs.Enters E.P k
theorem noT {s : XS E.G.car} (h : s.t = .e) {k : Key} {v : Val E.G.car} (hk : s.map 0 k = some v) : ∃ L, k.lab = some L := by
 cases k with
 | t i => rw [tmp_e h] at hk; cases hk
 | u l i => cases hk
 | a => cases hk
 | c L q => exact ⟨L, rfl⟩
 | o L => exact ⟨L, rfl⟩
 | x L => exact ⟨L, rfl⟩
theorem map_lab {s s' : XS E.G.car} (h : s'.o = s.o) {k : Key} {L : Nat} (hk : k.lab = some L) : s'.map 0 k = s.map 0 k := by
 cases k <;> first | (cases hk; done) | simp only [XS.map, XS.lab, XS.rec?, h]
theorem leaves {b : Base} (hds : b.ds = true) (hkb : ∀ p ∈ b.kob, p.1 < b.B) {fn : Func} {Q : Ending → World → Prop} {s : XS E.G.car} {vs : List SV}
  (hres : ∀ (m : Nat → MV) (A : Nat → Prop) (a : Act) (w : World), Rel (cxOf E b) m A (s.map 0) a w → (results fn a.tmps).run E.P w = .ok (resV (denL m vs)) w)
  (hQ : ∀ (m : Nat → MV) (A : Nat → Prop) (a : Act) (w : World), Rel (cxOf E b) m A (s.map 0) a w → Q (.returned (resV (denL m vs))) w) :
  ∀ (ms : List Nat) (w : World) (a : Act) (m : Nat → MV) (A : Nat → Prop), ms.Nodup → (∀ D ∈ ms, b.B ≤ D ∧ w.heap[D]? = some (.deferred (some []))) → Rel (cxOf E b) m A (s.map 0) a w → LeavesInM Fence.wide 0 E.P fn a.tmps Q (ms.map mark) .returning w := by
 intro ms
 induction ms with
 | nil => intro w a m A _ _ hrel; exact ⟨_, hres m A a w hrel, hQ m A a w hrel⟩
 | cons D ms ih =>
  intro w a m A hnd hD hrel
  obtain ⟨hB, hw⟩ := hD D (by simp)
  have hnd := List.nodup_cons.1 hnd
  refine ⟨by simp, .inl ⟨D, _, rfl, run_takeDeferred hw, ?_⟩⟩
  have hother : ∀ D' ∈ ms, (w.putObj D (.deferred none)).heap[D']? = some (.deferred (some [])) := fun D' hD' => by
   rw [World.putObj_heap_other (fun e => hnd.1 (by rw [← e]; exact hD'))]; exact (hD D' (by simp [hD'])).2
  have h1 : Rel (cxOf E b) m A (s.map 0) { a with defers := [] } (w.putObj D (.deferred none)) :=
   hrel.putObj hw rfl (.inl hB) (fun p hp e => by have := hkb p hp; have hB' : b.B ≤ D := hB; omega) marks_nil rfl
  exact ih _ { a with defers := [] } m A hnd.2 (fun D' hD' => ⟨(hD D' (by simp [hD'])).1, hother D' hD'⟩) h1
theorem goFn_sound {x : Ex1 E R} (hx : ∀ c, CodeOK E gl c (x c)) {k : Nat} {fn : Func} (hfn : E.P.funcs[k]? = some fn) {ys : List YI} {Y : YS E R} (hY : YOK E gl ys Y) {s0 : XS E.G.car} (o : OKS E ⟨s0.nl, ys⟩ s0) (ht : s0.t = .e)
  {xs : List SV} (hl : ltL s0.nl xs = true) {roots : Nat → List Nat} {d : Nat} {h : Hint} {K : Hint → SV → XS E.G.car → Option R} {r : R} (hk : goFn roots x Y fn d xs s0 h K = some r) :
  ∃ h' v s', K h' v s' = some r ∧ OKS E ⟨s0.nl, ys⟩ s' ∧ s'.t = .e ∧ Ext d s0 s' ∧ FnDoes E gl ⟨s0.nl, ys⟩ k xs v s0 s' := by
 unfold goFn at hk
 split at hk
 ·cases hk
 ·rename_i c hc
  obtain ⟨hn, hk⟩ := bif_some hk
  have hn := Nat.le_of_ble_eq_true hn
  obtain ⟨s1, hk, o1, x1, e1, n1, u1, t1⟩ := setAs_sound xs 0 s0 o hl hk
  obtain ⟨h', e, s2, h2, o2, x2, hd⟩ := hx c ⟨s0.nl, ys⟩ Y ⟨0, d, fn.ntmps, true, roots⟩ h s1 r _ hY rfl o1 hk
  have hfin : e ≠ .normal → e ≠ .ret → False := fun h3 h4 => by cases e <;> first | exact absurd rfl h3 | exact absurd rfl h4 | cases h2
  have h2 : retK s2 fn.results.toList (fun vs => K h' (resVal vs) ⟨.e, s2.o, s2.nl⟩) = some r := by
   cases e <;> first | exact h2 | cases h2
  obtain ⟨vs, h3, hres⟩ := retK_sound _ h2
  have x12 : Ext d s0 s2 := x1.trans x2
  refine ⟨h', resVal vs, ⟨.e, s2.o, s2.nl⟩, h3, ⟨⟨fun k a v hv => (nomatch hv), o2.inv.o⟩, o2.glo, o2.pn⟩, rfl, ⟨fun k x hx _ => (nomatch hx), x12.o, x12.nl⟩, ?_⟩
  intro b m A w hg hN hds hr hrel hxs
  let b1 : Base := { b with N := fn.ntmps, ds := true }
  have hsb : SameB b b1 := ⟨rfl, rfl, rfl, rfl, rfl, rfl, rfl⟩
  have hsb' : SameB b1 b := ⟨rfl, rfl, rfl, rfl, rfl, rfl, rfl⟩
  have hg1 : Good E gl ⟨s0.nl, ys⟩ b1 := ⟨hg.gw, hg.a0, hg.nb, hg.kb, hg.pn, fun y hy => by
   obtain ⟨fn', aT, D, q⟩ := hg.ys y hy
   exact ⟨fn', aT, D, q.L, q.lt, q.bor, q.mem, q.size, q.tmp⟩, hg.r0⟩
  refine (callsIn_wide (n := 0)).1 (callsIn_of_wp_marks hfn hc trivial ?_)
  have h1 : Rel (cxOf E b1) m A (s1.map 0) { tmps := (denL m xs).toArray ++ Array.replicate (fn.ntmps - (denL m xs).toArray.size) undef, defers := [] } w := by
   refine hrel.acts hsb ?_ marks_nil (fun k L hk => map_lab e1 hk) (fun i v hv => ?_) (fun l i => rfl) rfl
   ·show ((denL m xs).toArray ++ _).size = fn.ntmps
    simp [denL_length]; omega
   ·obtain ⟨y, h4, rfl⟩ := Option.map_eq_some_iff.1 (show (s1.tmp 0 i).map Val.x = some v from hv)
    rcases t1 i y h4 with ⟨_, h5⟩ | h5
    ·rw [Nat.sub_zero] at h5
     refine ⟨y, rfl, ?_, okL_iff.1 hxs y (List.mem_of_getElem? h5)⟩
     have hlt : i < (denL m xs).toArray.size := by rw [List.size_toArray, denL_length]; exact (List.getElem?_eq_some_iff.1 h5).1
     show ((denL m xs).toArray ++ _)[i]? = _
     rw [Array.getElem?_append_left hlt, List.getElem?_toArray, denL_get, h5]
     rfl
    ·simp only [XS.tmp, ht] at h5; cases h5
  have hF : (cxOf E b1).F = Fence.wide := by simp only [Cx.F, cxOf, b1, hr]; rfl
  rw [← hF]
  refine hd b1 m A _ w _ hg1 ⟨rfl, rfl, fun _ => hr⟩ h1 fun m' A' a' w' hr' => ?_
  have hpost : LeavesInM (cxOf E b1).F 0 E.P fn a'.tmps (fun e w' => ∃ m' A', e = .returned (den m' (resVal vs)) ∧ (resVal vs).ok m' ∧ Rel (cxOf E b) m' A' ((⟨.e, s2.o, s2.nl⟩ : XS E.G.car).map 0) noAct w') a'.defers .returning w' := by
   obtain ⟨ms, h4, _, h5, h6⟩ := hr'.defers
   rw [h4, hF]
   refine leaves (b := b1) rfl hg1.kb (fun m A a w hr => results_run (hres b1 m A a w hr).1) (fun m A a w hr2 => ?_) ms w' a' m' A' h5 h6 hr'
   refine ⟨m, A, by rw [resVal_den], resVal_ok (hres b1 m A a w hr2).2, ?_⟩
   refine hr2.acts (b := b1) hsb' hN.symm (by rw [hds]; exact marks_nil) (fun k L hk => map_lab (s := s2) (s' := ⟨.e, s2.o, s2.nl⟩) rfl hk) (fun i v hv => (nomatch hv)) (fun l i => tmp_u l i) rfl
  cases e with
  | normal => exact hpost
  | ret => exact hpost
  | exit id => exact (hfin (by simp) (by simp)).elim
end
end
end Go.KX

namespace Go.KX
open Go Go.RowKit
noncomputable section
section
variable {E : Env} {R : Type} {gl : List (Nat × Val E.G.car)}
theorem zip_list {m : Nat → MV} {ps : Array Tmp} {xs : List SV} {aT : Array Value} :
  (ps.zip (denL m xs).toArray).foldl (fun tmps (t, a) => tmps.setIfInBounds t a) aT = (ps.toList.zip (denL m xs)).foldl (fun T q => T.setIfInBounds q.1 q.2) aT := by
 rw [← Array.foldl_toList]; simp
theorem foldl_size : ∀ (l : List (Nat × Value)) (T : Array Value), (l.foldl (fun T q => T.setIfInBounds q.1 q.2) T).size = T.size := by
 intro l
 induction l with
 | nil => intro T; rfl
 | cons x l ih => intro T; simp only [List.foldl_cons, ih, Array.size_setIfInBounds]
theorem free_noneI {s : XS E.G.car} (hs : Inv s) {L : Nat} (hL : s.nl ≤ L) {k : Key} (hk : k.lab = some L) : s.map 0 k = none := by
 cases e : s.map 0 k with
 | none => rfl
 | some v =>
  have := hs.free (f := 0) hL k
  rw [e] at this
  cases k <;> first | (cases hk; done) | (cases hk; simp [mentions, keyHas] at this)
theorem Rel.backAll {b : Base} {m m' : Nat → MV} {A A' : Nat → Prop} {s s0 s' : XS E.G.car} {t : PT (Nat × Option SV)} {a : Act} {w w' : World} (ho0 : s0.o = s.o) (ht : t = s.t) (hs : Inv s) (hglo : ∀ p ∈ E.glo, p.1 < s.nl) (hpn : b.pn ≤ s.nl) (hi' : Inv s') (hnn : s.nl ≤ s'.nl)
  (h : Rel (cxOf E b) m A (s.map 0) a w) (h' : Rel (cxOf E (inBase b s.nl m A (s0.map 0) w)) m' A' (s'.map 0) noAct w') :
  ∃ m'', (∀ L, L < s'.nl → m'' L = m' L) ∧ (∀ L, ¬ (s.nl ≤ L ∧ L < s'.nl) → m'' L = m L) ∧ Rel (cxOf E b) m'' A' ((⟨t, s'.o, s'.nl⟩ : XS E.G.car).map 0) a w' := by
 have hO : ∀ L, s0.map 0 (.o L) = s.map 0 (.o L) := fun L => map_lab ho0 (L := L) rfl
 refine h.back h' (S := fun L => L < s.nl) (fun L v hv => ?_) (fun L v hv => by rw [← hO]; exact hv) (fun _ h => h) (fun L _ => (hO L).symm) hnn (fun k L hk _ => ?_) (fun k L hk hM => ?_) (fun k hk => ?_) (fun L h1 _ => ?_) (fun k v L L' hv hk _ hm => ?_)
 ·rcases Nat.lt_or_ge L s.nl with h1 | h1
  ·exact h1
  ·rw [hO, free_noneI hs h1 rfl] at hv; cases hv
 ·exact map_lab (s := s') (s' := ⟨t, s'.o, s'.nl⟩) rfl hk
 ·have h1 : s.nl ≤ L := Nat.not_lt.1 fun h1 => hM (.inl h1)
  have h2 : s'.nl ≤ L := Nat.not_lt.1 fun h2 => hM (.inr ⟨h1, h2⟩)
  rw [free_noneI hs h1 hk]
  exact (map_lab (s := s') (s' := ⟨t, s'.o, s'.nl⟩) rfl hk).trans (free_noneI hi' h2 hk)
 ·cases k with
  | t i => subst ht; rfl
  | u l i => rfl
  | a => rfl
  | _ => cases hk
 ·exact ⟨hs.free h1, fun p hp => by have := hglo p hp; omega, Nat.le_trans hpn h1⟩
 ·rcases Nat.lt_or_ge L' s'.nl with h1 | h1
  ·exact h1
  ·have := hi'.free (f := 0) h1 k
   rw [hv, hm] at this; cases this
theorem round_sound {ia ib : YS E R → Fr → Hint → XS E.G.car → KT E R → Option R} {assign body : Code} (ha : CodeOK E gl assign ia) (hb : CodeOK E gl body ib) {fx : Fix} {s : XS E.G.car} (hs : OKS E fx s) {N : Nat} {ps : Array Tmp} :
  HandOK E gl ⟨s.nl, N, ps, assign, body, s.t⟩ (roundK s.nl N s.t ps.toList ia ib) := by
 intro ys d xs s0 h K r o ht hl hk
 unfold roundK at hk
 obtain ⟨hc, hk⟩ := bif_some hk
 simp only [Bool.and_eq_true, List.all_eq_true, Nat.blt_eq] at hc
 obtain ⟨hn0, hps⟩ := hc
 have hn0 := Nat.le_of_ble_eq_true hn0
 have oT : OKS E ⟨s0.nl, []⟩ (⟨s.t, s0.o, s0.nl⟩ : XS E.G.car) := ⟨⟨fun k a v hv => lt_mono hn0 (hs.inv.t k a v hv), o.inv.o⟩, o.glo, Nat.le_refl _⟩
 obtain ⟨s1, hk, o1, x1, e1, n1, l1, _, t1⟩ := setTs_sound ps.toList xs _ oT hl hk
 obtain ⟨h2, c2, s2, k2, o2, x2, d2⟩ := ha ⟨s0.nl, []⟩ [] ⟨0, d, N, false, fun _ => []⟩ h s1 r _ (fun L f hf => nomatch hf) rfl o1 hk
 cases c2 with
 | ret => cases k2
 | exit id => cases k2
 | normal =>
  have o2' : OKS E ⟨s2.nl, []⟩ s2 := ⟨o2.inv, o2.glo, Nat.le_refl _⟩
  obtain ⟨h3, c3, s3, k3, o3, x3, d3⟩ := hb ⟨s2.nl, []⟩ [] ⟨0, d, N, false, fun _ => []⟩ h2 s2 r _ (fun L f hf => nomatch hf) rfl o2' k2
  cases c3 with
  | ret => cases k3
  | exit id => cases k3
  | normal =>
   have x13 : Ext d (⟨s.t, s0.o, s0.nl⟩ : XS E.G.car) s3 := (x1.trans x2).trans x3
   refine ⟨h3, ⟨.e, s3.o, s3.nl⟩, k3, ⟨⟨fun k a v hv => (nomatch hv), o3.inv.o⟩, o3.glo, x13.nl⟩, rfl, ⟨fun k x hx _ => (nomatch hx), x13.o, x13.nl⟩, by rw [← l1]; simp, ?_⟩
   intro b m A w fn aT D hg hN hds hr hY hrel hxs
   obtain ⟨l, hldef⟩ : ∃ l, l = (b.pm s.nl).b := ⟨_, rfl⟩
   have hmem : (l, Obj.loop (recOf fn aT ps assign body D .ready)) ∈ b.kob := by rw [hldef]; exact hY.mem
   show RoundIn Fence.wide 0 E.P (b.pm s.nl).b fn _ assign body w _
   rw [← hldef, zip_list]
   refine roundIn_of_wpIn trivial ?_
   let b3 : Base := { b with r := some l, N := N, ds := false }
   have hsb : SameB b b3 := ⟨rfl, rfl, rfl, rfl, rfl, rfl, rfl⟩
   have hsb' : SameB b3 b := ⟨rfl, rfl, rfl, rfl, rfl, rfl, rfl⟩
   have hpnb : b.pn ≤ s0.nl := hg.pn
   have hg3 : Good E gl ⟨s0.nl, []⟩ b3 := ⟨hg.gw, hg.a0, hg.nb, hg.kb, hg.pn, (fun y hy => nomatch hy), fun h => absurd rfl h⟩
   have r1 : Rel (cxOf E b3) m A (s1.map 0) { tmps := (ps.toList.zip (denL m xs)).foldl (fun T q => T.setIfInBounds q.1 q.2) aT, defers := [] } w := by
    refine hrel.acts hsb (by rw [foldl_size]; exact hY.size) marks_nil (fun k L hk => (map_lab e1 hk).trans (map_lab (s := s0) (s' := ⟨s.t, s0.o, s0.nl⟩) rfl hk)) (fun i v hv => ?_) (fun l i => rfl) rfl
    obtain ⟨y, h4, rfl⟩ := Option.map_eq_some_iff.1 (show (s1.tmp 0 i).map Val.x = some v from hv)
    refine ⟨y, rfl, t1 m aT hxs (fun i hi => by rw [show aT.size = N from hY.size]; exact hps i hi) (fun i v hv => ?_) i y h4⟩
    obtain ⟨q1, q2, q3⟩ := hY.tmp i v hv
    have he : ∀ L, v.has L = true → m L = b.pm L := fun L hL => hrel.pins L (by
     rcases Nat.lt_or_ge L b.pn with h4 | h4
     ·exact h4
     ·rw [has_lt h4 v q3] at hL; cases hL)
    exact ⟨by rw [den_congr v he]; exact q1, ok_congr v he q2⟩
   refine d2 b3 m A _ w _ hg3 ⟨rfl, rfl, fun h => nomatch h⟩ r1 fun m1 A1 a1 w1 hr1 => ?_
   have hl1 := (hr1.ko l _ hmem).1
   have hnil : a1.defers = [] := Marks.none (show Marks false b3.B a1.defers w1 from hr1.defers)
   refine ⟨_, run_beginRound hl1 rfl, ?_⟩
   obtain ⟨g0, hg0⟩ : ∃ g0, g0 = (⟨.e, s2.o, s2.nl⟩ : XS E.G.car).map 0 := ⟨_, rfl⟩
   have hlab : ∀ {k L}, k.lab = some L → g0 k = s2.map 0 k := fun {k L} hk => by rw [hg0]; exact map_lab (s := s2) (s' := ⟨.e, s2.o, s2.nl⟩) rfl hk
   have hlt0 : ∀ k v, g0 k = some v → ∃ L, k.lab = some L := fun k v hk => by rw [hg0] at hk; exact noT rfl hk
   have hsub : Rel (cxOf E (inBase b3 s2.nl m1 A1 g0 w1)) m1 A1 g0 noAct w1 := hr1.sub (fun k v hk => by
    obtain ⟨L, hL⟩ := hlt0 k v hk
    exact ⟨by rw [← hlab hL]; exact hk, L, hL⟩) (fun L q v hv => by
    rw [hlab (L := L) rfl] at hv
    obtain ⟨ty, n, h5⟩ := hr1.cell L q v hv
    exact ⟨_, (hlab (k := .o L) (L := L) rfl).trans h5⟩)
   have hpk := hsub.poke (o2 := Obj.loop (recOf fn aT ps assign body D .busy)) hlt0 hl1 rfl
   let b4 : Base := { inBase b3 s2.nl m1 A1 g0 w1 with w0 := w1.putObj l (.loop (recOf fn aT ps assign body D .busy)), kob := [], r := some l, N := N }
   have hownC : ∀ L x, Owns m1 L (g0 (.o L)) x → IsCells w1 x := fun L x ho => hr1.ownCells (by rw [hlab (k := .o L) (L := L) rfl] at ho; exact ho)
   have hot : ∀ k, k ≠ l → (w1.putObj l (.loop (recOf fn aT ps assign body D .busy))).heap[k]? = w1.heap[k]? := fun k hk => World.putObj_heap_other hk
   have hg4 : Good E gl ⟨s2.nl, []⟩ b4 := by
    refine ⟨(hr1.gw hg3 (fun _ h => h)).mono (fun _ h => h) (fun x hx => hot x ((hr1.frzc x hx).ne hl1 rfl)), hr1.frz, fun x hx hbx => ?_, (fun p hp => nomatch hp), Nat.le_refl _, (fun y hy => nomatch hy), fun h => absurd rfl h⟩
    obtain ⟨L, h5⟩ := hbx
    exact (hsub.own L x h5).2 hx
   have r4 : Rel (cxOf E b4) m1 A1 (s2.map 0) a1 (w1.putObj l (.loop (recOf fn aT ps assign body D .busy))) := by
    refine hpk.acts (b' := b4) ⟨rfl, rfl, rfl, rfl, rfl, rfl, rfl⟩ hr1.size (by rw [hnil]; exact marks_nil) (fun k L hk => (hlab hk).symm) (fun i v hv => ?_) (fun l i => rfl) rfl
    obtain ⟨y, h4, rfl⟩ := Option.map_eq_some_iff.1 (show (s2.tmp 0 i).map Val.x = some v from hv)
    obtain ⟨h5, h6⟩ := hr1.ent (.t i) _ hv
    exact ⟨y, rfl, h5, h6⟩
   refine d3 b4 m1 A1 a1 _ _ hg4 ⟨rfl, rfl, fun h => nomatch h⟩ r4 fun m2 A2 a2 w3 hr2 => ?_
   have hr2' : Rel (cxOf E { inBase b3 s2.nl m1 A1 g0 w1 with w0 := w1.putObj l (.loop (recOf fn aT ps assign body D .busy)), kob := [] }) m2 A2 ((⟨.e, s3.o, s3.nl⟩ : XS E.G.car).map 0) noAct w3 :=
    hr2.acts (b := b4) ⟨rfl, rfl, rfl, rfl, rfl, rfl, rfl⟩ rfl marks_nil (fun k L hk => map_lab (s := s3) (s' := ⟨.e, s3.o, s3.nl⟩) rfl hk) (fun i v hv => (nomatch hv)) (fun l i => rfl) rfl
   obtain ⟨h3l, hr3⟩ := hr2'.unpoke (fun k v hk => noT rfl hk) hl1 rfl rfl hr1.frzc hownC hr1.ko
   refine ⟨_, _, run_endRound none h3l, rfl, ?_⟩
   have hpn3 : b3.pn ≤ s2.nl := Nat.le_trans hpnb (by have := x1.nl; have := x2.nl; exact Nat.le_trans x1.nl x2.nl)
   rw [hg0] at hr3
   obtain ⟨m'', _, _, hfin⟩ := Rel.backAll (s := s2) (s0 := ⟨.e, s2.o, s2.nl⟩) (s' := ⟨.e, s3.o, s3.nl⟩) (t := s2.t) rfl rfl o2.inv o2.glo hpn3 ⟨fun k a v hv => (nomatch hv), o3.inv.o⟩ x3.nl hr1 hr3
   exact ⟨m'', A2, hfin.acts (b := b3) hsb' (by rw [hN]; rfl) (by rw [hds]; exact marks_nil) (fun k L hk => (map_lab (s := s3) (s' := ⟨.e, s3.o, s3.nl⟩) rfl hk).trans (map_lab (s := s3) (s' := ⟨s2.t, s3.o, s3.nl⟩) rfl hk).symm) (fun i v hv => (nomatch hv)) (fun l i => rfl) rfl⟩
end
end
end Go.KX

namespace Go.KX
open Go Go.RowKit
noncomputable section
section
variable {E : Env} {R : Type} {gl : List (Nat × Val E.G.car)} {fx : Fix}
theorem iterK_sound {r : R} {fv : SV} {K : Nat → List SV → Option R} (h : iterK fv K = some r) : ∃ k caps, K k caps = some r ∧ (∀ m, den m fv = .func (.func k) #[] (denL m caps).toArray) ∧ ∀ m, fv.ok m → okL m caps := by
 unfold iterK at h
 split at h
 ·rename_i k a b
  split at h
  ·rename_i e1 e2
   have e3 : a = #[] := Array.ext' e1
   have e4 : b = #[] := Array.ext' e2
   subst e3; subst e4
   exact ⟨k, [], h, fun _ => rfl, fun _ _ => trivial⟩
  ·cases h
 ·rename_i k caps
  exact ⟨k, caps, h, fun _ => rfl, fun _ h => h.2⟩
 ·cases h
theorem range_sound {x : Ex1 E R} (hx : ∀ c, CodeOK E gl c (x c)) {cx : Ctx E} (hin : InlOK E cx.inl) {ia ib : YS E R → Fr → Hint → XS E.G.car → KT E R → Option R} {g : Operand} {ps : Array Tmp} {assign body : Code} (ha : CodeOK E gl assign ia) (hb : CodeOK E gl body ib)
  {Y : YS E R} {fr : Fr} {h : Hint} {s : XS E.G.car} {r : R} {K : KT E R} (hY : YOK E gl fx.ys Y) (hf : fr.f = 0) (hs : OKS E fx s)
  (hk : (match fr.ds with
   | false => none
   | true => evK (E := E) ⟨fun t => s.tmp fr.f t, s, none⟩ g fun fv => iterK fv fun k caps => match findFn k cx.inl with
    | none => none
    | some fn => bif !ltL s.nl caps then none else match fn.results.toList with
     | [] => goFn (fun L => bif Nat.beq L s.nl then tmpLabs s.t else fr.roots L) x ((s.nl, roundK s.nl fr.N s.t ps.toList ia ib) :: Y) fn (Nat.succ fr.d) (.y s.nl :: caps) ⟨.e, s.o, Nat.succ s.nl⟩ h fun h _ s' => K h .normal ⟨s.t, s'.o, s'.nl⟩
     | _ => none) = some r) :
  ∃ h' e s', K h' e s' = some r ∧ OKS E fx s' ∧ Ext fr.d s s' ∧ Does E gl fx fr (.rangeFunc g ps assign body) s s' e := by
 cases hds : fr.ds with
 | false => rw [hds] at hk; cases hk
 | true =>
  rw [hds] at hk
  have hS : Sees (E := E) ⟨fun t => s.tmp fr.f t, s, none⟩ (s.map fr.f) := ⟨fun i v hv => by
   have hv' : s.tmp fr.f i = some v := hv
   simp only [XS.map, hv', Option.map_some], fun _ => rfl, fun _ => rfl, fun _ _ => rfl⟩
  obtain ⟨fv, hk, hfv⟩ := evK_sound hS hk
  obtain ⟨k, caps, hk, hden, hcok⟩ := iterK_sound hk
  split at hk
  ·cases hk
  ·rename_i fn hfn
   obtain ⟨hcl, hk⟩ := bif_some' hk
   have hcl : ltL s.nl caps = true := by simpa using hcl
   obtain ⟨hfnP, hen⟩ := hin k fn hfn
   split at hk
   ·rename_i hresn
    let y : YI := ⟨s.nl, fr.N, ps, assign, body, s.t⟩
    have o1 : OKS E ⟨Nat.succ s.nl, y :: fx.ys⟩ (⟨.e, s.o, Nat.succ s.nl⟩ : XS E.G.car) := by
     refine ⟨⟨fun k a v hv => (nomatch hv), fun L q e he => ?_⟩, fun p hp => Nat.lt_succ_of_lt (hs.glo p hp), Nat.le_refl _⟩
     obtain ⟨h1, h2⟩ := hs.inv.o L q e he
     exact ⟨Nat.lt_succ_of_lt h1, fun x hx => Val.lt_mono (Nat.le_succ _) (h2 x hx)⟩
    have hYY : YOK E gl (y :: fx.ys) ((s.nl, roundK s.nl fr.N s.t ps.toList ia ib) :: Y) := by
     intro L f hf'
     simp only [findY] at hf'
     cases e : Nat.beq s.nl L with
     | true =>
      rw [e, cond_true] at hf'; cases hf'
      exact ⟨y, by simp, Nat.eq_of_beq_eq_true e, round_sound ha hb hs⟩
     | false =>
      rw [e, cond_false] at hf'
      obtain ⟨y', h1, h2⟩ := hY L f hf'
      exact ⟨y', by simp [h1], h2⟩
    have hcl1 : ltL (Nat.succ s.nl) (.y s.nl :: caps) = true := by
     simp only [ltL, SV.lt, Bool.and_eq_true, Nat.blt_eq]
     exact ⟨Nat.lt_succ_self _, ltL_mono (Nat.le_succ _) hcl⟩
    obtain ⟨h', v, s', hk, o2, t2, x2, hdo⟩ := goFn_sound (s0 := ⟨.e, s.o, Nat.succ s.nl⟩) hx hfnP hYY o1 rfl hcl1 hk
    have hnl : Nat.succ s.nl ≤ s'.nl := x2.nl
    refine ⟨h', .normal, ⟨s.t, s'.o, s'.nl⟩, hk, ⟨⟨fun k a v hv => ?_, o2.inv.o⟩, o2.glo, Nat.le_trans hs.pn (by show s.nl ≤ s'.nl; omega)⟩, ⟨fun k x hx _ => hx, fun L q e he hd => x2.o L q e he (Nat.lt_succ_of_lt hd), by show s.nl ≤ s'.nl; omega⟩, ?_⟩
    ·exact lt_mono (by show s.nl ≤ s'.nl; omega) (hs.inv.t k a v hv)
    intro b m A a w Q hg hN hrel hq
    rw [hf] at hrel hq
    have hr := hN.2.2 hds
    have hbds : b.ds = true := hN.2.1.trans hds
    have hF : (cxOf E b).F = Fence.wide := by simp only [Cx.F, hr]; rfl
    rw [hF]
    refine wpIn_rangeFunc ?_
    intro fn' _
    rw [hf] at hfv
    obtain ⟨hev, hok⟩ := hfv.eval hrel (fun _ _ => rfl)
    rw [hden] at hev
    obtain ⟨ms, hm1, _, hm3, hm4⟩ := hrel.defers
    obtain ⟨w1, hw1⟩ : ∃ w1, w1 = (w.alloc (.deferred (some []))).alloc (.loop (recOf fn' a.tmps ps assign body w.heap.size .ready)) := ⟨_, rfl⟩
    refine ⟨w.heap.size + 1, [mark w.heap.size], w1, { target := .fn (.func k) (denL m caps).toArray, args := #[.func (.yield (w.heap.size + 1)) #[] #[]] }, w1, k, #[.func (.yield (w.heap.size + 1)) #[] #[]] ++ (denL m caps).toArray, w1, ?_, ?_, ?_, ?_, fun h => absurd (show (none : Option Nat).isSome = true from h) (by decide), ?_⟩
    ·rw [hw1]; exact run_enterLoop_outer _ _ _ _ _
    ·simp only [resolve, hev]
     simp [go_sem]
    ·intro f' _; trivial
    ·have := hen (#[.func (.yield (w.heap.size + 1)) #[] #[]] ++ (denL m caps).toArray) w1
     simp only [invoke] at this ⊢
     simpa [go_sem] using this
    ·have hsz1 : w1.heap.size = w.heap.size + 2 := by rw [hw1]; simp
     have hold : ∀ q, q < w.heap.size → w1.heap[q]? = w.heap[q]? := fun q hq => by
      rw [hw1, Below.heap_alloc _ _ _ (by simp; omega), Below.heap_alloc _ _ _ hq]
     have hD0 : w1.heap[w.heap.size]? = some (.deferred (some [])) := by
      rw [hw1, Below.heap_alloc _ _ _ (by simp)]
      show (w.heap.push _)[w.heap.size]? = _
      simp
     have hl1 : w1.heap[w.heap.size + 1]? = some (.loop (recOf fn' a.tmps ps assign body w.heap.size .ready)) := by
      rw [hw1]
      show ((w.heap.push _).push _)[w.heap.size + 1]? = _
      rw [Array.getElem?_push, if_pos (by simp)]
     have hrel1 : Rel (cxOf E b) m A (s.map 0) a w1 := hrel.world ⟨by rw [hw1]; rfl, by rw [hw1]; rfl, by rw [hw1]; exact .rfl, by omega, hold⟩
     have hlab : ∀ {k L}, k.lab = some L → (⟨.e, s.o, Nat.succ s.nl⟩ : XS E.G.car).map 0 k = s.map 0 k := fun {k L} hk => map_lab (s := s) (s' := ⟨.e, s.o, Nat.succ s.nl⟩) rfl hk
     have hlt0 : ∀ k v, (⟨.e, s.o, Nat.succ s.nl⟩ : XS E.G.car).map 0 k = some v → ∃ L, k.lab = some L := fun k v hk => noT rfl hk
     have hsub : Rel (cxOf E (inBase b s.nl m A ((⟨.e, s.o, Nat.succ s.nl⟩ : XS E.G.car).map 0) w1)) m A ((⟨.e, s.o, Nat.succ s.nl⟩ : XS E.G.car).map 0) noAct w1 := hrel1.sub (fun k v hk => by
      obtain ⟨L, hL⟩ := hlt0 k v hk
      exact ⟨by rw [← hlab hL]; exact hk, L, hL⟩) (fun L q v hv => by
      rw [hlab (L := L) rfl] at hv
      obtain ⟨ty, n, h5⟩ := hrel1.cell L q v hv
      exact ⟨_, (hlab (k := .o L) (L := L) rfl).trans h5⟩)
     have hfree : ∀ k, mentions s.nl k ((⟨.e, s.o, Nat.succ s.nl⟩ : XS E.G.car).map 0 k) = false := fun k => by
      cases e : k.lab with
      | some L => rw [hlab e]; exact hs.inv.free (Nat.le_refl _) k
      | none =>
       cases e2 : (⟨.e, s.o, Nat.succ s.nl⟩ : XS E.G.car).map 0 k with
       | none => rfl
       | some v => obtain ⟨L, hL⟩ := hlt0 k v e2; rw [e] at hL; cases hL
     let mv : MV := { b := w.heap.size + 1, p := none, n := 0, c := 0 }
     let b2 : Base := { inBase b s.nl m A ((⟨.e, s.o, Nat.succ s.nl⟩ : XS E.G.car).map 0) w1 with kob := (w.heap.size + 1, .loop (recOf fn' a.tmps ps assign body w.heap.size .ready)) :: b.kob, pn := Nat.succ s.nl, pm := setL m s.nl mv }
     have hr2 : Rel (cxOf E b2) (setL m s.nl mv) A ((⟨.e, s.o, Nat.succ s.nl⟩ : XS E.G.car).map 0) noAct w1 := hsub.addY hlt0 hfree (fun p hp e => by have := hs.glo p hp; omega) hl1 rfl rfl
     have hmeq : ∀ L, L < s.nl → setL m s.nl mv L = m L := fun L hL => setL_ne _ _ (by omega)
     have hdeq : ∀ v : SV, v.lt s.nl = true → den (setL m s.nl mv) v = den m v := fun v hv => den_congr v fun L hL => hmeq L (by
      rcases Nat.lt_or_ge L s.nl with h4 | h4
      ·exact h4
      ·rw [has_lt h4 v hv] at hL; cases hL)
     have hoeq : ∀ v : SV, v.lt s.nl = true → v.ok m → v.ok (setL m s.nl mv) := fun v hv => ok_congr v fun L hL => hmeq L (by
      rcases Nat.lt_or_ge L s.nl with h4 | h4
      ·exact h4
      ·rw [has_lt h4 v hv] at hL; cases hL)
     have hboro : ∀ x, b2.bor x → ∃ L, Owns m L (s.map 0 (.o L)) x := fun x ⟨L, h5⟩ => ⟨L, by rw [hlab (k := .o L) (L := L) rfl] at h5; exact h5⟩
     have hnb2 : ∀ (x : Nat) (o : Obj), w1.heap[x]? = some o → o.isDat = false → ¬ b2.bor x := fun x o h5 h6 h7 => by
      obtain ⟨L, h8⟩ := hboro x h7
      exact (hrel1.ownCells h8).ne h5 h6 rfl
     have hg2 : Good E gl ⟨Nat.succ s.nl, y :: fx.ys⟩ b2 := by
      refine ⟨hrel1.gw hg (fun _ h => h), hrel1.frz, fun x hx hbx => ?_, fun p hp => ?_, Nat.le_refl _, fun y' hy' => ?_, fun _ => rfl⟩
      ·obtain ⟨L, h5⟩ := hboro x hbx
       exact (hrel1.own L x h5).2 hx
      ·show p.1 < w1.heap.size
       rcases List.mem_cons.1 hp with e | hp
       ·rw [e]; show w.heap.size + 1 < _; omega
       ·have := (Array.getElem?_eq_some_iff.1 (hrel.ko p.1 p.2 hp).1).1
        omega
      ·rcases List.mem_cons.1 hy' with rfl | hy'
       ·have hmy : (setL m s.nl mv) s.nl = mv := setL_self _ _ _
        refine ⟨fn', a.tmps, w.heap.size, Nat.lt_succ_self _, ?_, ?_, ?_, hrel.size.trans hN.1, fun i v hv => ?_⟩
        ·show ((setL m s.nl mv) s.nl).b < w1.heap.size
         rw [hmy]; show w.heap.size + 1 < _; omega
        ·show ¬ b2.bor ((setL m s.nl mv) s.nl).b
         rw [hmy]; exact hnb2 _ _ hl1 rfl
        ·show (((setL m s.nl mv) s.nl).b, _) ∈ b2.kob
         rw [hmy]; exact List.mem_cons_self
        ·have h5 : s.map 0 (.t i) = some (.x v) := by
          have : s.tmp 0 i = some v := hv
          simp only [XS.map, this, Option.map_some]
         obtain ⟨h6, h7⟩ := hrel.ent _ _ h5
         have h8 : v.lt s.nl = true := by
          have hv' : s.tmp 0 i = some v := hv
          simp only [XS.tmp] at hv'
          split at hv'
          ·rename_i a' u hu; subst hv'; exact hs.inv.t _ _ _ hu
          ·cases hv'
         exact ⟨by show a.tmps[i]? = some (den (setL m s.nl mv) v); rw [hdeq v h8]; exact h6, hoeq v h8 h7, lt_mono (Nat.le_succ _) h8⟩
       ·obtain ⟨fn0, aT, D, q⟩ := hg.ys y' hy'
        have q' := q.into (g0 := (⟨.e, s.o, Nat.succ s.nl⟩ : XS E.G.car).map 0) (n := s.nl) hrel1 (Nat.le_trans hg.pn hs.pn) (fun L x ho => by rw [hlab (k := .o L) (L := L) rfl] at ho; exact ho)
        have hyl : y'.L < s.nl := q'.L
        have hmy : setL m s.nl mv y'.L = m y'.L := hmeq _ hyl
        refine ⟨fn0, aT, D, Nat.lt_succ_of_lt hyl, ?_, ?_, ?_, q.size, fun i v hv => ?_⟩
        ·show ((setL m s.nl mv) y'.L).b < _; rw [hmy]; exact q'.lt
        ·show ¬ b2.bor ((setL m s.nl mv) y'.L).b; rw [hmy]; exact q'.bor
        ·show (((setL m s.nl mv) y'.L).b, _) ∈ b2.kob; rw [hmy]; exact List.mem_cons_of_mem _ q'.mem
        ·obtain ⟨h5, h6, h7⟩ := q'.tmp i v hv
         have h7 : v.lt s.nl = true := h7
         exact ⟨by show aT[i]? = some (den (setL m s.nl mv) v); rw [hdeq v h7]; exact h5, hoeq v h7 h6, lt_mono (Nat.le_succ _) h7⟩
     have hcd : denL (setL m s.nl mv) caps = denL m caps := denL_congr caps fun L hL => hmeq L (by
      rcases Nat.lt_or_ge L s.nl with h4 | h4
      ·exact h4
      ·rw [hasL_lt h4 caps hcl] at hL; cases hL)
     have hco : okL (setL m s.nl mv) caps := okL_congr caps (fun L hL => hmeq L (by
      rcases Nat.lt_or_ge L s.nl with h4 | h4
      ·exact h4
      ·rw [hasL_lt h4 caps hcl] at hL; cases hL)) (hcok m hok)
     have hcall := hdo b2 (setL m s.nl mv) A w1 hg2 rfl rfl rfl hr2 ⟨trivial, hco⟩
     have hargs : (denL (setL m s.nl mv) (.y s.nl :: caps)).toArray = #[.func (.yield (w.heap.size + 1)) #[] #[]] ++ (denL m caps).toArray := by
      have hmy : (setL m s.nl mv) s.nl = mv := setL_self _ _ _
      simp [denL, den, hcd, hmy, mv]
     rw [hargs] at hcall
     have hcall' := calls_in (cx := cxOf E b) (n := 0 - 1) hcall
     rw [hF] at hcall'
     refine hcall'.mono fun e w' ⟨m', A', he, _, hr'⟩ => ?_
     subst he
     have hlw : w'.heap[w.heap.size + 1]? = some (.loop (recOf fn' a.tmps ps assign body w.heap.size .ready)) := (hr'.ko _ _ List.mem_cons_self).1
     refine ⟨none, _, run_endLoop hlw (by simp [recOf]), ?_⟩
     have hreb : Rel (cxOf E (inBase b s.nl m A ((⟨.e, s.o, Nat.succ s.nl⟩ : XS E.G.car).map 0) w1)) m' A' (s'.map 0) noAct w' :=
      hr'.rebase (b := b2) (b' := inBase b s.nl m A ((⟨.e, s.o, Nat.succ s.nl⟩ : XS E.G.car).map 0) w1) rfl rfl rfl rfl rfl (fun p hp => List.mem_cons_of_mem _ hp) (fun L hL => (hr'.pins L (Nat.lt_succ_of_lt hL)).trans (hmeq L hL)) (fun k v hk => noT t2 hk)
     obtain ⟨m'', _, _, hfin⟩ := Rel.backAll (s := s) (s0 := ⟨.e, s.o, Nat.succ s.nl⟩) (s' := s') (t := s.t) rfl rfl hs.inv hs.glo (Nat.le_trans hg.pn hs.pn) o2.inv (by omega) hrel1 hreb
     have hheld : ∀ (q : Nat) (o : Obj), w1.heap[q]? = some o → o.isDat = false → w'.heap[q]? = some o := fun q o h5 h6 => by
      rw [hr'.held.block q (Array.getElem?_eq_some_iff.1 h5).1 (hnb2 q o h5 h6)]; exact h5
     have hw4 : ∀ q o, q ≠ w.heap.size + 1 → w1.heap[q]? = some o → o.isDat = false → (w'.putObj (w.heap.size + 1) (.loop { recOf fn' a.tmps ps assign body w.heap.size .ready with state := .exhausted })).heap[q]? = some o := fun q o hq h5 h6 => by
      rw [World.putObj_heap_other hq]; exact hheld q o h5 h6
     have hmslt : ∀ D ∈ ms, D < w.heap.size := fun D hD => (Array.getElem?_eq_some_iff.1 (hm4 D hD).2).1
     refine hq m'' A' _ _ (hfin.putObj hlw rfl (.inl (by have := hrel.top; show b.B ≤ _; have h' : b.B ≤ w.heap.size := this; omega)) (fun p hp e => ?_) ?_ rfl)
     ·have := (Array.getElem?_eq_some_iff.1 (hrel.ko p.1 p.2 hp).1).1
      omega
     ·refine ⟨w.heap.size :: ms, by rw [hm1]; rfl, fun h => (by have h : b.ds = false := h; rw [hbds] at h; cases h), List.nodup_cons.2 ⟨fun h => Nat.lt_irrefl _ (hmslt _ h), hm3⟩, fun D hD => ?_⟩
      rcases List.mem_cons.1 hD with rfl | hD
      ·exact ⟨hrel.top, hw4 _ _ (by omega) hD0 rfl⟩
      ·have h5 := hmslt D hD
       exact ⟨(hm4 D hD).1, hw4 _ _ (by omega) (by rw [hold D h5]; exact (hm4 D hD).2) rfl⟩
   ·cases hk
end
end
end Go.KX

namespace Go.KX
open Go Go.RowKit
noncomputable section
section
variable {E : Env} {b : Base} {m : Nat → MV} {A : Nat → Prop} {g : Map E.G.car} {a : Act} {w : World}
theorem Rel.regrow {ety t L L' : Nat} {l l' : List (E.G.car t)} (h : Rel (cxOf E b) m A g a w) (hL : g (.o L) = some (.row ety t l)) (hfr : Free (cxOf E b) L' g) {w' : World} {b' c' : Nat} {cur' : Array Value}
  (hos : w'.os = w.os) (htape : w'.tape = w.tape) (hout : Out w w') (hsz : w.heap.size ≤ w'.heap.size) (hb' : ((m L).c ≠ 0 ∧ b' = (m L).b) ∨ w.heap.size ≤ b') (hk : ∀ k, k < w.heap.size → ((m L).c ≠ 0 → k ≠ (m L).b) → w'.heap[k]? = w.heap[k]?)
  (hc' : c' ≠ 0) (hh : w'.heap[b']? = some (.cells cur' ety (0, 0))) (hcs : cur'.size = c' * E.G.sz t) (hle : l'.length ≤ c') (hin : RowIn E.G A w' cur' t l') :
  Rel (cxOf E b) (setL m L' { b := b', p := some ⟨b', 0, none⟩, n := l'.length, c := c' }) A (upd [(.o L', some (.row ety t l')), (.o L, none)] g) a w' := by
 obtain ⟨g1, hg1⟩ : ∃ g1 : Map E.G.car, g1 = upd [(.o L, none)] g := ⟨_, rfl⟩
 have hrel1 : Rel (cxOf E b) m A g1 a w := by
  rw [hg1]
  refine h.weaken (fun k => ?_) (fun L2 o2 hc => ?_)
  ·rw [upd_one]
   by_cases ek : Key.o L = k
   ·rw [if_pos ek]; exact .inl rfl
   ·rw [if_neg ek]; exact .inr rfl
  ·rw [upd_one, if_neg (by simp)] at hc
   rw [upd_one]
   by_cases ek : Key.o L = .o L2
   ·cases ek
    cases hv : g (.c L o2) with
    | none => exact absurd hv hc
    | some v =>
     obtain ⟨ty', n', h1⟩ := h.cell L o2 v hv
     rw [hL] at h1; cases h1
   ·rw [if_neg ek]
 have hfr1 : Free (cxOf E b) L' g1 := by rw [hg1]; exact hfr.upd (by simp [mentionsIn, mentions])
 have hcong : ∀ (mm : Nat → MV) (w' : World), Rel (cxOf E b) mm A (upd [(.o L', some (.row ety t l'))] g1) a w' → Rel (cxOf E b) mm A (upd [(.o L', some (.row ety t l')), (.o L, none)] g) a w' := fun mm w' hr => hr.congr fun k => by
  rw [upd_one, upd_cons, hg1]
 have hown : (m L).c ≠ 0 → (cxOf E b).mine (m L).b ∧ ¬ A (m L).b ∧ (∀ l', ¬ Owns m l' (g1 (.o l')) (m L).b) ∧ ∃ cur, w.heap[(m L).b]? = some (.cells cur ety (0, 0)) := fun hc => by
  have hL' : Owns m L (g (.o L)) (m L).b := by rw [hL]; exact ⟨hc, rfl⟩
  obtain ⟨h3, h4⟩ := h.own L _ hL'
  obtain ⟨_, h2⟩ := h.ent _ _ hL
  rcases h2 with ⟨h5, _⟩ | ⟨_, _, cur, hh, _⟩
  ·exact absurd h5 hc
  refine ⟨h3, h4, fun l' ho => ?_, cur, hh⟩
  rw [hg1, upd_one] at ho
  by_cases ek : Key.o L = .o l'
  ·rw [if_pos ek] at ho; exact ho.elim
  ·rw [if_neg ek] at ho
   exact ek (by rw [h.inj l' L _ ho hL'])
 have hrel2 : Rel (cxOf E b) m A g1 a w' := by
  by_cases hc : (m L).c = 0
  ·exact hrel1.world ⟨hos, htape, hout, hsz, fun k hk' => hk k hk' (fun h => absurd hc h)⟩
  ·refine hrel1.wild (hown hc).2.2.1 (hown hc).2.1 (hown hc).1 (fun ob hob => ?_) hos htape hout hsz (fun k h3 h4 => hk k h3 (fun _ => h4))
   obtain ⟨_, _, _, cur, hh⟩ := hown hc
   rw [hh] at hob; cases hob; rfl
 refine hcong _ _ (hrel2.addRow hfr1 ⟨by rw [setL_self], ?_⟩ (fun _ => ?_))
 ·simp only [setL_self]
  exact .inr ⟨hc', trivial, cur', hh, hcs, hle, hin⟩
 ·simp only [setL_self]
  rcases hb' with ⟨hc, rfl⟩ | hb'
  ·exact ⟨(hown hc).1, (hown hc).2.1, (hown hc).2.2.1⟩
  ·exact ⟨.inl (Nat.le_trans h.top hb'), fun hA => Nat.lt_irrefl _ (Nat.lt_of_lt_of_le (h.frz _ hA) hb'), fun l' ho => Nat.lt_irrefl _ (Nat.lt_of_lt_of_le (hrel1.blt ho) hb')⟩
end
end
end Go.KX

namespace Go.KX
open Go Go.RowKit
noncomputable section
def RowLies (G : Reg) (A : Nat → Prop) (w : World) (blk c ety t : Nat) (p : Option Addr) (l : List (G.car t)) : Prop :=
 (c = 0 ∧ l = [] ∧ ∃ b', p = ptr0 b' 0) ∨ (c ≠ 0 ∧ p = some ⟨blk, 0, none⟩ ∧ ∃ cur : Array Value, w.heap[blk]? = some (.cells cur ety (0, 0)) ∧ cur.size = c * G.sz t ∧ l.length ≤ c ∧ RowIn G A w cur t l)
structure InsOK (E : Env) (gl : List (Nat × Val E.G.car)) (k t ety : Nat) : Prop where
 enters : Proofs.Enters E.P k
 row : ∀ (A : Nat → Prop) (w : World) (b1 c1 b2 c2 : Nat) (p1 p2 : Option Addr) (l v : List (E.G.car t)) (i : Nat), GW E gl A w → (∀ b, A b → IsCells w b) → (c1 ≠ 0 → ¬ A b1) → (c2 ≠ 0 → ¬ A b2) → (c1 ≠ 0 → c2 ≠ 0 → b1 ≠ b2) →
  RowLies E.G A w b1 c1 ety t p1 l → RowLies E.G A w b2 c2 ety t p2 v → i ≤ l.length → v ≠ [] → l.length + v.length ≤ 1000000 →
  Calls E.P k #[.slice p1 l.length c1, .int .i64 (i : Int), .slice p2 v.length c2] w fun e w' => ∃ (b' c' : Nat) (cur' : Array Value), e = .returned (.slice (some ⟨b', 0, none⟩) (insL l i v).length c') ∧
   w'.os = w.os ∧ w'.tape = w.tape ∧ Out w w' ∧ w.heap.size ≤ w'.heap.size ∧ ((c1 ≠ 0 ∧ b' = b1) ∨ w.heap.size ≤ b') ∧ (∀ k, k < w.heap.size → (c1 ≠ 0 → k ≠ b1) → w'.heap[k]? = w.heap[k]?) ∧
   c' ≠ 0 ∧ w'.heap[b']? = some (.cells cur' ety (0, 0)) ∧ cur'.size = c' * E.G.sz t ∧ (insL l i v).length ≤ c' ∧ RowIn E.G A w' cur' t (insL l i v)
structure SrtOK (E : Env) (gl : List (Nat × Val E.G.car)) (q : Srt E.G) : Prop where
 enters : Proofs.Enters E.P q.k
 run : q.ins = false → ∀ (A : Nat → Prop) (w : World) (hv : HV) (ety : Nat) (is : List Int) (l l' : List (E.G.car q.t)), is.length = q.na → (q.ety = none ∨ q.ety = some ety) → GW E gl A w → (∀ b, A b → IsCells w b) → (hv.c ≠ 0 → ¬ A hv.b) → RowAt E.G A w hv ety q.t l → q.f is l = some l' →
  Calls E.P q.k (.slice hv.p hv.n hv.c :: (is.map (Value.int .i64) ++ [.func (.func q.fv) #[] #[]])).toArray w fun e w' => e = .returned (.tuple #[]) ∧ RowAt E.G A w' hv ety q.t l' ∧
   w'.os = w.os ∧ w'.tape = w.tape ∧ Out w w' ∧ w.heap.size ≤ w'.heap.size ∧ ∀ k, k < w.heap.size → (hv.c ≠ 0 → k ≠ hv.b) → w'.heap[k]? = w.heap[k]?
 isIns : q.ins = true → InsOK E gl q.k q.t q.fv
def InlS (E : Env) (gl : List (Nat × Val E.G.car)) (cx : Ctx E) : Prop := InlOK E cx.inl ∧ ∀ q ∈ cx.srt, SrtOK E gl q
theorem findSrt_mem {E : Env} {k : Nat} : ∀ {l : List (Srt E.G)} {q : Srt E.G}, findSrt k l = some q → q ∈ l ∧ q.k = k
 | [], q, h => nomatch h
 | x :: r, q, h => by
  unfold findSrt at h
  cases hb : Nat.beq x.k k with
  | true => rw [hb, cond_true] at h; cases h; exact ⟨List.mem_cons_self, Nat.eq_of_beq_eq_true hb⟩
  | false =>
   rw [hb, cond_false] at h
   obtain ⟨h1, h2⟩ := findSrt_mem h
   exact ⟨List.mem_cons_of_mem _ h1, h2⟩
theorem setF_t_o {car : Nat → Type} {d f L : Nat} {s : XS car} {v : Option (Val car)} : (s.setF d f (.o L) v).t = s.t := by
 unfold XS.setF XS.set
 simp only [XS.setLab_eq, id]
 unfold XS.labF XS.setLab
 cases s.o.get L with
 | none => simp only [PT.setK_set, id]
 | some l => simp only [leSetK_eq, PT.setK_set, id]
section
variable {E : Env} {R : Type} {r : R} {gl : List (Nat × Val E.G.car)}
theorem insR_sound {k t ety : Nat} (hq : InsOK E gl k t ety) {ys : List YI} {s0 : XS E.G.car} (o : OKS E ⟨s0.nl, ys⟩ s0) (ht : s0.t = .e) {xs : List SV} {d : Nat} {h : Hint} {K : Hint → SV → XS E.G.car → Option R} (hk : insR t ety d xs s0 h K = some r) :
  ∃ h' v s', K h' v s' = some r ∧ OKS E ⟨s0.nl, ys⟩ s' ∧ s'.t = .e ∧ Ext d s0 s' ∧ FnDoes E gl ⟨s0.nl, ys⟩ k xs v s0 s' := by
 unfold insR at hk
 split at hk
 ·rename_i L i L2
  split at hk
  ·rename_i e1 t1 l e2 t2 v hL hL2
   split at hk
   ·rename_i heq1
    subst heq1
    split at hk
    ·rename_i heq2
     subst heq2
     obtain ⟨hb, hk2⟩ := bif_some hk
     simp only [Bool.and_eq_true, Bool.not_eq_true'] at hb
     obtain ⟨⟨hb1, hb2⟩, hb3⟩ := hb
     have q1 := Nat.eq_of_beq_eq_true hb1
     have q2 := Nat.eq_of_beq_eq_true hb2
     subst q1; subst q2
     have hne : L ≠ L2 := fun e => by rw [e, Nat.beq_refl] at hb3; cases hb3
     obtain ⟨hc, hk3⟩ := chk_so hk2
     rw [XS.upd_eq] at hk3
     have hLt : L < s0.nl := (oks_lab o hL).1
     have hu : upBelow (Nat.succ s0.nl) [((.o s0.nl : Key), some (Val.row (car := E.G.car) e2 t2 (insL l i.toNat v))), (.o L, none)] = true := by
      simp only [upBelow, okUp, Val.lt, Bool.true_and, Bool.and_true, Nat.blt_eq, Bool.and_eq_true]
      omega
     obtain ⟨h1, h2, h3⟩ := XS.map_updF d (f := 0) (by omega) s0 (upBelow_ups hu)
     have hte : (XS.updF d 0 [((.o s0.nl : Key), some (Val.row (car := E.G.car) e2 t2 (insL l i.toNat v))), (.o L, none)] s0).t = .e := by
      simp only [XS.updF_cons, XS.updF_nil]
      rw [← ht]
      first | rw [setF_t_o, setF_t_o] | simp only [setF_t_o]
     generalize hs1 : XS.updF d 0 [((.o s0.nl : Key), some (Val.row (car := E.G.car) e2 t2 (insL l i.toNat v))), (.o L, none)] s0 = s1 at *
     have hinv : Inv ⟨s1.t, s1.o, Nat.succ s0.nl⟩ := by rw [← hs1]; exact Inv.updF o.inv (Nat.le_succ _) hu
     have es : (⟨.e, s1.o, Nat.succ s0.nl⟩ : XS E.G.car) = ⟨s1.t, s1.o, Nat.succ s0.nl⟩ := by rw [hte]
     refine ⟨h, .h s0.nl, ⟨.e, s1.o, Nat.succ s0.nl⟩, hk3, by rw [es]; exact ⟨hinv, fun p hp => Nat.lt_succ_of_lt (o.glo p hp), Nat.le_succ _⟩, rfl, by rw [es]; exact ⟨h3.t, h3.o, Nat.le_succ _⟩, ?_⟩
     intro b m A w hgd hN hds hr hrel _
     have hLo : s0.map 0 (.o L) = some (.row e2 t2 l) := hL
     have hLo2 : s0.map 0 (.o L2) = some (.row e2 t2 v) := hL2
     have hmap : ((⟨.e, s1.o, Nat.succ s0.nl⟩ : XS E.G.car).map 0) = KX.upd [((.o s0.nl : Key), some (Val.row (car := E.G.car) e2 t2 (insL l i.toNat v))), (.o L, none)] (s0.map 0) := by rw [es, ← h1]; rfl
     have hfr : Free (cxOf E b) s0.nl (s0.map 0) := oks_free o hgd.pn (Nat.le_refl _)
     obtain ⟨hn, hr1⟩ := hrel.ent _ _ hLo
     obtain ⟨hn2, hr2⟩ := hrel.ent _ _ hLo2
     have own1 : (m L).c ≠ 0 → Owns m L (s0.map 0 (.o L)) (m L).b := fun hc => by rw [hLo]; exact ⟨hc, rfl⟩
     have own2 : (m L2).c ≠ 0 → Owns m L2 (s0.map 0 (.o L2)) (m L2).b := fun hc => by rw [hLo2]; exact ⟨hc, rfl⟩
     have hargs : (denL m [.h L, .i .i64 i, .h L2]).toArray = #[.slice (m L).p l.length (m L).c, .int .i64 (i.toNat : Int), .slice (m L2).p v.length (m L2).c] := by
      rw [← hn, ← hn2, Int.toNat_of_nonneg hc.1]; rfl
     rw [hargs, hmap]
     refine (hq.row A w (m L).b (m L).c (m L2).b (m L2).c (m L).p (m L2).p l v i.toNat (hrel.gw hgd fun _ h => h) hrel.frzc (fun hc => (hrel.own L _ (own1 hc)).2) (fun hc => (hrel.own L2 _ (own2 hc)).2)
      (fun g1 g2 e => hne (hrel.inj L L2 _ (own1 g1) (by rw [e]; exact own2 g2))) hr1 hr2 (by omega) (fun e => by rw [e] at hc; simp at hc) (by omega)).mono ?_
     rintro e w' ⟨b', c', cur', he, z1, z2, z3, z4, z5, z6, z7, z8, z9, z10, z11⟩
     refine ⟨_, A, ?_, trivial, hrel.regrow hLo hfr z1 z2 z3 z4 z5 z6 z7 z8 z9 z10 z11⟩
     rw [he]
     simp only [den, setL_self]
    ·cases hk
   ·cases hk
  ·cases hk
 ·cases hk
theorem intsK_sound : ∀ {n : Nat} {vs : List SV} {K : List Int → List SV → Option R}, intsK n vs K = some r →
  ∃ is more, K is more = some r ∧ is.length = n ∧ ∀ m, denL m vs = is.map (Value.int .i64) ++ denL m more
 | 0, vs, K, h => ⟨[], vs, h, rfl, fun _ => rfl⟩
 | n + 1, [], K, h => by cases h
 | n + 1, v :: vs, K, h => by
  unfold intsK at h
  obtain ⟨k, i, lit, h1, h2⟩ := intK_sound h
  obtain ⟨h3, h4⟩ := bif_some h1
  obtain ⟨is, more, h5, h6, h7⟩ := intsK_sound h4
  have hk : k = .i64 := by cases k <;> first | rfl | cases h3
  refine ⟨i :: is, more, h5, by simp [h6], fun m => ?_⟩
  rw [denL, h2 m, h7 m, hk]
  rfl
theorem sortR_sound {q : Srt E.G} (hq : SrtOK E gl q) {ys : List YI} {s0 : XS E.G.car} (o : OKS E ⟨s0.nl, ys⟩ s0) (ht : s0.t = .e) {xs : List SV} (hl : ltL s0.nl xs = true) {d : Nat} {h : Hint} {K : Hint → SV → XS E.G.car → Option R} (hk : sortR q d xs s0 h K = some r) :
  ∃ h' v s', K h' v s' = some r ∧ OKS E ⟨s0.nl, ys⟩ s' ∧ s'.t = .e ∧ Ext d s0 s' ∧ FnDoes E gl ⟨s0.nl, ys⟩ q.k xs v s0 s' := by
 unfold sortR at hk
 cases hins : q.ins with
 | true =>
  simp only [hins] at hk
  exact insR_sound (hq.isIns hins) o ht hk
 | false =>
 simp only [hins] at hk
 split at hk
 ·rename_i x rest
  obtain ⟨is, more, hkk, hlen, hden⟩ := intsK_sound hk
  clear hk
  have hk := hkk
  clear hkk
  split at hk
  ·rename_i g a b
   split at hk
   ·rename_i ha hb
    have ha' : a = #[] := by cases a; simp_all
    have hb' : b = #[] := by cases b; simp_all
    subst ha' hb'
    obtain ⟨hg, hk2⟩ := bif_some hk
    clear hk
    have hg' := Nat.eq_of_beq_eq_true hg
    clear hg
    subst hg'
    have hk := hk2
    clear hk2
    have hargs : ∀ m, (denL m (x :: rest)).toArray = (den m x :: (is.map (Value.int .i64) ++ [.func (.func q.fv) #[] #[]])).toArray := fun m => by
     rw [denL, hden m]; rfl
    split at hk
    ·rename_i L
     split at hk
     ·rename_i ety t l hL
      split at hk
      ·rename_i heq
       subst heq
       obtain ⟨hety, hkk⟩ := bif_some hk
       clear hk
       have hk := hkk
       clear hkk
       have hety := etyB_ok hety
       cases hf : q.f is l with
       | none =>
        have : bnd (q.f is l) (fun l' => XS.upd d 0 [(.o L, some (.row ety q.t l'))] s0 fun s' => K h (.t []) ⟨.e, s'.o, s'.nl⟩) = some r := hk
        rw [hf] at this
        cases this
       | some l' =>
       have hk : XS.upd d 0 [(.o L, some (.row ety q.t l'))] s0 (fun s' => K h (.t []) ⟨.e, s'.o, s'.nl⟩) = some r := by
        have : bnd (q.f is l) (fun l' => XS.upd d 0 [(.o L, some (.row ety q.t l'))] s0 fun s' => K h (.t []) ⟨.e, s'.o, s'.nl⟩) = some r := hk
        rw [hf] at this
        exact this
       rw [XS.upd_eq] at hk
       have hLt : L < s0.nl := (oks_lab o hL).1
       have hu : upBelow s0.nl [((.o L : Key), some (Val.row (car := E.G.car) ety q.t l'))] = true := by
        simp only [upBelow, okUp, Val.lt, Bool.true_and, Bool.and_true, Nat.blt_eq]; exact hLt
       obtain ⟨h1, h2, h3⟩ := XS.map_updF d (f := 0) (by omega) s0 (upBelow_ups hu)
       have hte : (XS.updF d 0 [((.o L : Key), some (Val.row (car := E.G.car) ety q.t l'))] s0).t = .e := by
        simp only [XS.updF_cons, XS.updF_nil]
        rw [← ht]
        exact setF_t_o
       generalize hs1 : XS.updF d 0 [((.o L : Key), some (Val.row (car := E.G.car) ety q.t l'))] s0 = s1 at *
       have hnl : s1.nl = s0.nl := h2
       have hinv : Inv ⟨s1.t, s1.o, s0.nl⟩ := by rw [← hs1]; exact Inv.updF o.inv (Nat.le_refl _) hu
       have es : (⟨.e, s1.o, s1.nl⟩ : XS E.G.car) = ⟨s1.t, s1.o, s0.nl⟩ := by rw [hte, hnl]
       refine ⟨h, .t [], ⟨.e, s1.o, s1.nl⟩, hk, by rw [es]; exact ⟨hinv, o.glo, o.pn⟩, rfl, by rw [es]; exact ⟨h3.t, h3.o, Nat.le_refl _⟩, ?_⟩
       intro b m A w hgd hN hds hr hrel _
       have hLo : s0.map 0 (.o L) = some (.row ety q.t l) := hL
       have hmap : ((⟨.e, s1.o, s1.nl⟩ : XS E.G.car).map 0) = KX.upd [((.o L : Key), some (Val.row (car := E.G.car) ety q.t l'))] (s0.map 0) := by rw [es, ← h1]; rfl
       have hat : RowAt E.G A w (hvOf (m L)) ety q.t l := hrel.ent _ _ hLo
       have hown : (m L).c ≠ 0 → Owns m L (s0.map 0 (.o L)) (m L).b := fun hc => by rw [hLo]; exact ⟨hc, rfl⟩
       rw [hargs]
       refine (hq.run hins A w (hvOf (m L)) ety is l l' hlen hety (hrel.gw hgd fun _ h => h) hrel.frzc (fun hc => (hrel.own L _ (hown hc)).2) hat hf).mono fun e w' ⟨he, hat', e5, e6, e7, e8, e9⟩ => ⟨m, A, he, trivial, ?_⟩
       rw [hmap]
       by_cases hc : (m L).c = 0
       ·have hw := hrel.world ⟨e5, e6, e7, e8, fun k hk => e9 k hk (fun h => absurd hc h)⟩
        have hl0 : l = [] := by
         rcases hat.2 with ⟨_, h4, _⟩ | ⟨h4, _⟩
         ·exact h4
         ·exact absurd hc h4
        have hl1 : l' = [] := by
         rcases hat'.2 with ⟨_, h4, _⟩ | ⟨h4, _⟩
         ·exact h4
         ·exact absurd hc h4
        subst hl0 hl1
        refine hw.congr fun k => ?_
        rw [upd_one]
        split
        ·rename_i e; rw [← e]; exact hLo
        ·rfl
       ·refine hrel.wrote (hown hc) e5 e6 e7 e8 (fun k hk hne => e9 k hk (fun _ => hne)) (fun _ _ => rfl) hrel.fix hrel.pins (fun k g1 g2 => by rw [upd_one, if_neg (Ne.symm g2)]) (fun _ _ _ _ => rfl) (fun v hv => ?_) (fun o' v hv => ?_) (fun x hx => ?_)
        ·rw [upd_one, if_pos rfl] at hv
         cases hv
         exact hat'
        ·rw [upd_one, if_neg (by simp)] at hv
         obtain ⟨ty, n, g1⟩ := hrel.cell L o' v hv
         rw [hLo] at g1; cases g1
        ·rw [upd_one, if_pos rfl] at hx
         rw [hLo]; exact hx
      ·cases hk
     ·cases hk
    ·cases hf : q.f is [] with
     | none =>
      have : bnd (q.f is []) (fun _ => K h (.t []) s0) = some r := hk
      rw [hf] at this
      cases this
     | some l' =>
     have hk : K h (.t []) s0 = some r := by
      have : bnd (q.f is []) (fun _ => K h (.t []) s0) = some r := hk
      rw [hf] at this
      exact this
     refine ⟨h, .t [], s0, hk, o, ht, Ext.refl _ _, ?_⟩
     intro b m A w hgd _ _ _ hrel _
     rw [hargs]
     exact (hq.run hins A w nilHV (q.ety.getD 0) is [] l' hlen (by cases q.ety with | none => exact .inl rfl | some x => exact .inr rfl) (hrel.gw hgd fun _ h => h) hrel.frzc (fun hc => absurd rfl hc) ⟨rfl, .inl ⟨rfl, rfl, 0, rfl⟩⟩ hf).mono fun e w' ⟨he, _, e5, e6, e7, e8, e9⟩ => ⟨m, A, he, trivial, hrel.world ⟨e5, e6, e7, e8, fun k hk => e9 k hk (fun h => absurd rfl h)⟩⟩
    ·cases hk
   ·cases hk
  ·cases hk
 ·cases hk
end
end
end Go.KX
