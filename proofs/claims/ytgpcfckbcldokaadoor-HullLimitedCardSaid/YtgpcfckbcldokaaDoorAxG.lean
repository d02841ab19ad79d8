/-
  The core, seventh part: append to a row of the activation's own; loads from rows; results and arguments that are rows.
-/
import Derived.Test.YtgpcfckbcldokaaDoorAxF
import Derived.Laws.AppendOwn
namespace Go.AX
open Go Go.RowKit

def appFact (P : Program) (t : TypeId) : Option (Nat × Nat × Nat) :=
  match P.underlying t with
  | some (.slice e) => match P.info? e with
    | some i => match i.zero with
      | some z => if z.cells.size = i.size ∧ 0 < i.size then some (e, i.size, i.bytes) else none
      | none => none
    | none => none
  | _ => none

theorem append_core {P : Program} {w : World} {t ty e k bytes b c n q c2 : Nat} {a : Addr} {cs vs : List Value} (hf : appFact P t = some (e, k, bytes)) (hv : VecAt b c e k cs w) (hcs : cs.length = n * k)
    (hvs : vs.length = q * k) (hnews : ∀ j u, vs[j]? = some u → w.cell? (a.add j) = some u) (h1 : ∀ u ∈ vs, u.oneCell' = true) (hq : 1 ≤ q) (hb : (n + q) * bytes ≤ 140737488355328) (h63 : n + q ≤ 1000000000) :
    ∃ b' c' w', (Builtin.append_ #[t, t] ty #[.slice (if c = 0 then none else some ⟨b, 0, none⟩) n c, .slice (some a) q c2]).run P w = .ok (.slice (some ⟨b', 0, none⟩) (n + q) c') w' ∧ c' ≠ 0 ∧ VecAt b' c' e k (cs ++ vs) w' ∧
      ((c ≠ 0 ∧ b' = b) ∨ w.heap.size ≤ b') ∧ w.heap.size ≤ w'.heap.size ∧ w'.os = w.os ∧ w'.tape = w.tape ∧ w'.output = w.output ∧ ∀ l, l < w.heap.size → (c ≠ 0 → l ≠ b) → w'.heap[l]? = w.heap[l]? := by
  unfold appFact at hf
  split at hf
  · rename_i e' ht
    split at hf
    · rename_i i hi
      split at hf
      · rename_i z hz
        split at hf
        · rename_i hsz
          obtain ⟨hzs, hpos⟩ := hsz
          simp only [Option.some.injEq, Prod.mk.injEq] at hf
          obtain ⟨rfl, rfl, rfl⟩ := hf
          have hlen : (cs ++ vs).length = (n + q) * i.size := by rw [List.length_append, hcs, hvs, Nat.add_mul]
          have grown : ∀ old, old < n + q → VecAt w.heap.size (grownCap w (n + q) old e') e' i.size (cs ++ vs)
              (w.drew.alloc (.cells (cs.toArray ++ vs.toArray ++ Builtin.zeroCells z.cells (grownCap w (n + q) old e' - (n + q))) e')) := by
            intro old _
            have hge := grownCap_ge w (n + q) old e'
            refine .inr ⟨by omega, cs.toArray ++ vs.toArray ++ Builtin.zeroCells z.cells (grownCap w (n + q) old e' - (n + q)), by show (w.heap.push _)[w.heap.size]? = _; simp, ?_, fun j v hj => ?_⟩
            · simp only [Array.size_append, List.size_toArray, size_zeroCells, hzs, hcs, hvs, ← Nat.add_mul]
              congr 1; omega
            · have hlt : j < (cs ++ vs).length := (List.getElem?_eq_some_iff.1 hj).1
              have e1 : cs.toArray ++ vs.toArray = (cs ++ vs).toArray := by simp
              rw [e1, Array.getElem?_append_left (by simpa using hlt), List.getElem?_toArray]
              exact hj
          rcases hv with ⟨rfl, rfl⟩ | ⟨hc, cur, hh, hcur, hpre⟩
          · have hn : n = 0 := by
              simp only [List.length_nil] at hcs
              rcases Nat.mul_eq_zero.1 hcs.symm with h | h <;> omega
            subst hn
            have hr := run_append_nil (P := P) w t ty e' i z ht hi hz a q c2 vs hvs hnews (by omega) (by omega) (by simp only [Nat.zero_add] at hb; omega)
            have hg := grown 0 (by omega)
            simp only [Nat.zero_add, List.nil_append, Array.empty_append] at hg hr ⊢
            simp only [if_true]
            have hge := grownCap_ge w q 0 e'
            exact ⟨_, _, _, hr, by omega, hg, .inr (Nat.le_refl _), by show w.heap.size ≤ (w.heap.push _).size; simp, rfl, rfl, rfl, fun l hl _ => by show (w.heap.push _)[l]? = _; rw [Array.getElem?_push, if_neg (by omega)]⟩
          · rw [if_neg hc]
            have hnc : n ≤ c := by
              have : cs.length ≤ cur.size := by
                rcases Nat.lt_or_ge cur.size cs.length with h | h
                · have hlast := hpre cur.size cs[cur.size] (List.getElem?_eq_getElem h)
                  simp at hlast
                · exact h
              rw [hcs, hcur] at this
              exact Nat.le_of_mul_le_mul_right this hpos
            by_cases hroom : n + q ≤ c
            · have hfit : n * i.size + vs.length ≤ cur.size := by rw [hvs, hcur, ← Nat.add_mul]; exact Nat.mul_le_mul_right _ hroom
              have hr := run_append_room (P := P) w t ty e' i ht hi b n c cur hh a q c2 vs hvs hnews h1 hroom hfit
              have hblt : b < w.heap.size := (Array.getElem?_eq_some_iff.1 hh).1
              refine ⟨_, _, _, hr, hc, .inr ⟨hc, _, setRow_heap w b cur _ e' _ hh, ?_, fun j v hj => ?_⟩, .inl ⟨hc, rfl⟩, by simp [World.setRow], rfl, rfl, rfl, fun l _ hl => setRow_other w b l _ (hl hc)⟩
              · simp only [List.size_toArray, List.length_append, List.length_take, List.length_drop, Array.length_toList]
                omega
              · have htake : cur.toList.take (n * i.size) = cs := by
                  apply List.ext_getElem?
                  intro j
                  rw [List.getElem?_take]
                  by_cases hj' : j < n * i.size
                  · rw [if_pos hj']
                    have hjl : j < cs.length := by omega
                    have := hpre j cs[j] (List.getElem?_eq_getElem hjl)
                    rw [List.getElem?_eq_getElem hjl, ← this]
                    simp
                  · rw [if_neg hj', List.getElem?_eq_none (by omega)]
                rw [htake, List.getElem?_toArray, List.getElem?_append_left (List.getElem?_eq_some_iff.1 hj).1]
                exact hj
            · have holds : ∀ j u, cs[j]? = some u → w.cell? ((⟨b, 0, none⟩ : Addr).add j) = some u := by
                intro j u hj
                rw [addr_add]
                simp only [World.cell?, hh, Nat.zero_add]
                simpa using hpre j u hj
              have hr := run_append_grow (P := P) w t ty e' i z ht hi hz ⟨b, 0, none⟩ n c cs hcs holds a q c2 vs hvs hnews (by omega) (by omega) (growslice_fits (by omega) hb)
              have hg := grown c (by omega)
              have hge := grownCap_ge w (n + q) c e'
              exact ⟨_, _, _, hr, by omega, hg, .inr (Nat.le_refl _), by show w.heap.size ≤ (w.heap.push _).size; simp, rfl, rfl, rfl, fun l hl _ => by show (w.heap.push _)[l]? = _; rw [Array.getElem?_push, if_neg (by omega)]⟩
        · cases hf
      · cases hf
    · cases hf
  · cases hf

section
variable {cx : Cx} {o : Oper} {s g : Map} {m : Nat → Nat} {a : Act} {w : World}
variable {d : Nat} {type : TypeId} {pos : String} {after : Array Edge} {guard : Option (Nat × Bool)}

/-- The row L gives way to the row L', which lies in a block of its own or where L lay. -/
theorem Rel.row {L C L' C' b' c' ty k : Nat} {cs vs : List Value} {w' : World} (h : Rel cx m g a w) (hr : g (.r L) = some (.vec true C ty k cs)) (hf : ∀ k, mentions L' k (g k) = false) (hf' : ∀ k, mentions C' k (g k) = false)
    (hne : L' ≠ C') (_hc' : c' ≠ 0) (hv : VecAt b' c' ty k vs w') (hb' : (m C ≠ 0 ∧ b' = m L) ∨ w.heap.size ≤ b') (hsz : w.heap.size ≤ w'.heap.size) (hos : w'.os = w.os) (htape : w'.tape = w.tape) (hout : w'.output = w.output)
    (hk : ∀ l, l < w.heap.size → (m C ≠ 0 → l ≠ m L) → w'.heap[l]? = w.heap[l]?) :
    Rel cx (setL (setL m L' b') C' c') (upd [(.r L', some (.vec true C' ty k vs)), (.r L, none)] g) a w' := by
  have hLL : L ≠ L' := fun e => by
    have := hf (.r L); rw [hr] at this; simp [mentions, e] at this
  have key : ∀ q, upd [(.r L', some (.vec true C' ty k vs)), (.r L, none)] g q = if q = .r L' then some (.vec true C' ty k vs) else if q = .r L then none else g q := by
    intro q
    rw [upd_cons, upd_one, upd_one]
    by_cases e1 : q = .r L'
    · subst e1; simp
    · by_cases e2 : q = .r L
      · subst e2; simp [e1, Ne.symm hLL]
      · simp [e1, e2, Ne.symm e1, Ne.symm e2]
  have old : ∀ {q v}, upd [(.r L', some (.vec true C' ty k vs)), (.r L, none)] g q = some v → q ≠ .r L' → g q = some v ∧ q ≠ .r L := by
    intro q v hq hne'
    rw [key, if_neg hne'] at hq
    by_cases e : q = .r L
    · rw [if_pos e] at hq; cases hq
    · rw [if_neg e] at hq; exact ⟨hq, e⟩
  have hx : ∀ {q x}, g q = some (.x x) → den (setL (setL m L' b') C' c') x = den m x := fun {q x} hq => by
    have h1 := hf q; have h2 := hf' q
    rw [hq] at h1 h2
    rw [den_setL ((mentions_x (b := true)).1 h2), den_setL ((mentions_x (b := true)).1 h1)]
  have hxc : ∀ {q b x}, g q = some (.xc b x) → den (setL (setL m L' b') C' c') x = den m x := fun {q b x} hq => by
    have h1 := hf q; have h2 := hf' q
    rw [hq] at h1 h2
    rw [den_setL ((mentions_x (b := b)).2 h2), den_setL ((mentions_x (b := b)).2 h1)]
  have mL' : setL (setL m L' b') C' c' L' = b' := by rw [setL_ne _ _ hne, setL_self]
  have mC' : setL (setL m L' b') C' c' C' = c' := setL_self _ _ _
  have mb : ∀ {l ty' n'}, g (.b l) = some (.sh ty' n') → setL (setL m L' b') C' c' l = m l := fun {l ty' n'} hl => by
    have h1 := hf (.b l); have h2 := hf' (.b l)
    rw [hl] at h1 h2
    simp only [mentions] at h1 h2
    rw [setL_ne _ _ (fun e => by subst e; simp at h2), setL_ne _ _ (fun e => by subst e; simp at h1)]
  have mr : ∀ {l own C2 ty' k' cs'}, g (.r l) = some (.vec own C2 ty' k' cs') → setL (setL m L' b') C' c' l = m l ∧ setL (setL m L' b') C' c' C2 = m C2 := fun {l own C2 ty' k' cs'} hl => by
    have h1 := hf (.r l); have h2 := hf' (.r l)
    rw [hl] at h1 h2
    simp only [mentions, Bool.or_eq_false_iff] at h1 h2
    constructor
    · rw [setL_ne _ _ (fun e => by subst e; simp at h2), setL_ne _ _ (fun e => by subst e; simp at h1)]
    · rw [setL_ne _ _ (fun e => by subst e; simp at h2), setL_ne _ _ (fun e => by subst e; simp at h1)]
  have blkk : ∀ {l ty' n'}, g (.b l) = some (.sh ty' n') → w'.heap[m l]? = w.heap[m l]? ∧ m l < w.heap.size := fun {l ty' n'} hl => by
    obtain ⟨_, cs', _, h3⟩ := h.blk l ty' n' hl
    have hlt := (Array.getElem?_eq_some_iff.1 h3).1
    exact ⟨hk _ hlt fun hc => (h.sep L true C ty k cs l ty' n' hr hl hc).symm, hlt⟩
  have rowk : ∀ {l own C2 ty' k' cs'}, g (.r l) = some (.vec own C2 ty' k' cs') → l ≠ L → m C2 ≠ 0 → w'.heap[m l]? = w.heap[m l]? ∧ m l < w.heap.size ∧ (m C ≠ 0 → m l ≠ m L) := fun {l own C2 ty' k' cs'} hl hne2 hc2 => by
    have hlt := (h.vec l own C2 ty' k' cs' hl).lt hc2
    have hd : m C ≠ 0 → m l ≠ m L := fun hc => (h.sepR L C ty k cs l own C2 ty' k' cs' hr hl (Ne.symm hne2) hc hc2).symm
    exact ⟨hk _ hlt hd, hlt, hd⟩
  refine ⟨h.size, h.defers, fun i y hy => ?_, fun i b y hy => ?_, fun l ty' n' hl => ?_, fun l o y hy => ?_, fun l o y hy => ?_, fun l1 l2 ty1 n1 ty2 n2 h1 h2 he => ?_,
    fun l own C2 ty' k' cs' hl => ?_, fun l own C2 ty' k' cs' l2 ty2 n2 hl hl2 hc2 => ?_, fun l C2 ty' k' cs' l2 own2 C3 ty2 k2 cs2 hl hl2 hne2 hc2 hc3 => ?_, fun l C2 ty' k' cs' hl hc2 => ?_, ?_, ?_, fun l b hb => ?_⟩
  · obtain ⟨hy, _⟩ := old hy (by simp); rw [hx hy]; exact h.tm i y hy
  · obtain ⟨hy, _⟩ := old hy (by simp); rw [hxc hy]; exact h.tmc i b y hy
  · obtain ⟨hl, _⟩ := old hl (by simp)
    rw [mb hl]
    obtain ⟨h1, cs', h2, h3⟩ := h.blk l ty' n' hl
    exact ⟨h1, cs', h2, by rw [(blkk hl).1]; exact h3⟩
  · obtain ⟨hy, _⟩ := old hy (by simp)
    obtain ⟨ty', n', hl⟩ := h.own l o y hy
    rw [hx hy, mb hl]
    have := h.cell l o y hy
    simp only [World.cell?] at this ⊢
    rw [(blkk hl).1]; exact this
  · obtain ⟨hy, _⟩ := old hy (by simp)
    obtain ⟨ty', n', hl⟩ := h.own l o y hy
    exact ⟨ty', n', by rw [key, if_neg (by simp), if_neg (by simp)]; exact hl⟩
  · obtain ⟨h1, _⟩ := old h1 (by simp)
    obtain ⟨h2, _⟩ := old h2 (by simp)
    rw [mb h1, mb h2] at he
    exact h.inj l1 l2 _ _ _ _ h1 h2 he
  · by_cases e : l = L'
    · subst e
      rw [key, if_pos rfl] at hl
      simp only [Option.some.injEq, Val.vec.injEq] at hl
      obtain ⟨rfl, rfl, rfl, rfl, rfl⟩ := hl
      rw [mL', mC']; exact hv
    · obtain ⟨hl, hl'⟩ := old hl (by simpa using e)
      rw [(mr hl).1, (mr hl).2]
      exact (h.vec l own C2 ty' k' cs' hl).same fun hc2 => (rowk hl (by simpa using hl') hc2).1
  · obtain ⟨hl2, _⟩ := old hl2 (by simp)
    rw [mb hl2]
    by_cases e : l = L'
    · subst e
      rw [mL']
      have hlt := (blkk hl2).2
      rcases hb' with ⟨hc, rfl⟩ | hb'
      · exact h.sep L true C ty k cs l2 ty2 n2 hr hl2 hc
      · omega
    · obtain ⟨hl, _⟩ := old hl (by simpa using e)
      rw [(mr hl).2] at hc2
      rw [(mr hl).1]
      exact h.sep l own C2 ty' k' cs' l2 ty2 n2 hl hl2 hc2
  · by_cases e : l = L'
    · subst e
      rw [mL']
      have e2 : l2 ≠ l := Ne.symm hne2
      obtain ⟨hl2, hl2'⟩ := old hl2 (by simpa using e2)
      rw [(mr hl2).2] at hc3
      rw [(mr hl2).1]
      obtain ⟨_, hlt, hd⟩ := rowk hl2 (by simpa using hl2') hc3
      rcases hb' with ⟨hc, rfl⟩ | hb'
      · exact (hd hc).symm
      · omega
    · obtain ⟨hlo, hlo'⟩ := old hl (by simpa using e)
      rw [(mr hlo).2] at hc2
      rw [(mr hlo).1]
      by_cases e2 : l2 = L'
      · obtain ⟨_, hlt, hd⟩ := rowk hlo (by simpa using hlo') hc2
        subst e2
        rw [mL']
        rcases hb' with ⟨hc, rfl⟩ | hb'
        · exact hd hc
        · omega
      · obtain ⟨hl2, _⟩ := old hl2 (by simpa using e2)
        rw [(mr hl2).2] at hc3
        rw [(mr hl2).1]
        exact h.sepR l C2 ty' k' cs' l2 own2 C3 ty2 k2 cs2 hlo hl2 hne2 hc2 hc3
  · by_cases e : l = L'
    · subst e
      rw [mL']
      rcases hb' with ⟨hc, rfl⟩ | hb'
      · exact h.ownR L C ty k cs hr hc
      · exact .inl (Nat.le_trans h.top hb')
    · obtain ⟨hl, _⟩ := old hl (by simpa using e)
      rw [(mr hl).2] at hc2
      rw [(mr hl).1]
      exact h.ownR l C2 ty' k' cs' hl hc2
  · refine h.held.step hos htape hout hsz fun l hl hnb => hk l (Nat.lt_of_lt_of_le hl h.top) fun hc e => ?_
    rcases h.ownR L C ty k cs hr hc with h1 | h1
    · omega
    · exact hnb (e ▸ h1)
  · exact Nat.le_trans h.top hsz
  · obtain ⟨h1, ty1, n1, h2⟩ := h.fix l b hb
    exact ⟨by rw [mb h2]; exact h1, ty1, n1, by rw [key, if_neg (by simp), if_neg (by simp)]; exact h2⟩

theorem oneC_eq {v : Value} (h : oneC v = true) : v.oneCell' = true := by cases v <;> simp_all [oneC, Value.oneCell']

theorem op_append {t e k bytes L C n L' C' L2 o2 q c2 : Nat} {x y : Operand} {cs vs : List Value} (hN : d < cx.N) (hf : appFact cx.P t = some (e, k, bytes)) (hx : Ev s x (.o L C n)) (hr : s (.r L) = some (.vec true C e k cs)) (hcs : cs.length = n * k)
    (hy : Ev s y (.s L2 o2 q c2)) (hc : CellsAre s L2 o2 (vs.map SV.v)) (hvs : vs.length = q * k) (h1 : vs.all oneC = true) (hq : 1 ≤ q) (hb : (n + q) * bytes ≤ 140737488355328) (h63 : n + q ≤ 1000000000) (hne : L' ≠ C') :
    OpRun cx ⟨some d, .call ⟨.builtin .append, #[x, y], #[t, t]⟩, type, pos, after, guard⟩ s
      ⟨.r L :: (okeys x ++ okeys y ++ cellKeys L2 o2 (q * k)), [(.t d, some (.x (.o L' C' (n + q)))), (.r L', some (.vec true C' e k (cs ++ vs))), (.r L, none)], [L', C']⟩ := by
  intro m a w g hrd hfr hrel K Q hK
  have e1 := hx.eval hrel (fun k hk => hrd k (reads_mem (by simp [hk])))
  have e2 := hy.eval hrel (fun k hk => hrd k (reads_mem (by simp [hk])))
  have e3 : g (.r L) = some (.vec true C e k cs) := by rw [hrd _ (reads_mem (by simp))]; exact hr
  have hcell : ∀ j u, vs[j]? = some u → w.cell? ((⟨m L2, o2, none⟩ : Addr).add j) = some u := by
    intro j u hj
    rw [addr_add]
    have hlt : j < q * k := by rw [← hvs]; exact (List.getElem?_eq_some_iff.1 hj).1
    have h2 := cellsAre_get hc j (.v u) (by simp [hj])
    exact hrel.cell L2 (o2 + j) (.v u) (by rw [hrd _ (reads_mem (by simp [mem_cellKeys hlt]))]; exact h2)
  obtain ⟨b', c', w', hrun, hc', hv', hb', hsz, hos, htape, hout, hk⟩ := append_core (ty := type) hf (hrel.vec L true C e k cs e3) hcs hvs hcell (fun u hu => oneC_eq (List.all_eq_true.1 h1 u hu)) hq hb h63 (c2 := c2)
  refine ⟨fun _ _ => trivial, ?_⟩
  rw [semAt_of _ _ (fun _ h => by cases h)]
  have hex : (execOp a.eval ⟨some d, .call ⟨.builtin .append, #[x, y], #[t, t]⟩, type, pos, after, guard⟩).run cx.P w = .ok (.value (.slice (some ⟨b', 0, none⟩) (n + q) c')) w' := by
    simp only [execOp, resolve, invoke, builtin, Sem.run_bind, Sem.run_pure, Result.andThen_ok, List.map_toArray, List.map_cons, List.map_nil, e1, e2, den, hrun]
  rw [hex, Oper.uponIn_value]
  have hrel' := hrel.row (vs := cs ++ vs) e3 (hfr L' (by simp)) (hfr C' (by simp)) hne hc' hv' hb' hsz hos htape hout hk
  refine hK _ _ _ ((hrel'.put (x := .o L' C' (n + q)) hN ?_).congr (fun q => (upd_cons g q).symm))
  simp only [den]
  rw [setL_self, setL_ne _ _ hne, setL_self, if_neg hc']

end
end Go.AX
