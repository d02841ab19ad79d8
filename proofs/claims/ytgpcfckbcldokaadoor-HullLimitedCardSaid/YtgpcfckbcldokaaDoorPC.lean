/- The plain law of HullLimited. -/
import Derived.Test.YtgpcfckbcldokaaDoorPA2
import Derived.Test.YtgpcfckbcldokaaDoorHR
import Derived.Test.YtgpcfckbcldokaaDoorHP4
namespace Go.Proofs.T
open Go.AX Hull

theorem levLe {m n : Int} (h : m ≤ n) : LeI (lev m) (lev n) := ⟨Int.le_refl _, h, Int.le_refl _, Int.le_refl _⟩

/-- Whether she makes the speed in level ice so thick. -/
def mk (s : Ship) (ch : Bool) (v n : Int) : Bool := makes s (lev n) ch v

theorem mk_down {s : Ship} (hc : check s = 0) {ch : Bool} {v : Int} (hv : 0 ≤ v) : ∀ u w, (0 : Int) ≤ u → u ≤ w → w ≤ 400 → mk s ch v w = true → mk s ch v u = true :=
  fun _ _ h1 h2 h3 h => makes_mono hc (lev_good ⟨h1, by omega⟩) (lev_good ⟨by omega, h3⟩) (levLe h2) hv (Int.le_refl _) h

theorem limitE_eq {s : Ship} (hc : check s = 0) {v : Int} (hv : 0 ≤ v ∧ v ≤ 250) (ch : Bool) :
    limitE s v ch = if mk s ch v 0 = true then (great (mk s ch v) 0 400, 0) else (0, 4) := by
  have h0 : goodIce ⟨0, 0, 0, 0⟩ := by simp [goodIce]
  unfold limitE
  rw [if_neg (by simp [asked_zero hc h0 hv])]
  have e : greatest (fun n => makes s (lev n) ch v) 0 400 = if mk s ch v 0 = true then (great (mk s ch v) 0 400, true) else (0, false) := rfl
  rw [e]
  by_cases h : mk s ch v 0 = true <;> simp [h]

theorem limit_facts {s : Ship} (hc : check s = 0) {v : Int} (hv : 0 ≤ v ∧ v ≤ 250) (ch : Bool) :
    ((limitE s v ch).2 = 0 ∧ 0 ≤ (limitE s v ch).1 ∧ (limitE s v ch).1 ≤ 400 ∧ ∀ n, 0 ≤ n → n ≤ 400 → (mk s ch v n = true ↔ n ≤ (limitE s v ch).1)) ∨ ((limitE s v ch).2 = 4 ∧ ∀ n, 0 ≤ n → n ≤ 400 → mk s ch v n = false) := by
  rw [limitE_eq hc hv]
  by_cases h : mk s ch v 0 = true
  · rw [if_pos h]
    obtain ⟨a, b, c⟩ := great_is (by decide) h (mk_down hc hv.1)
    exact .inl ⟨rfl, a, b, c⟩
  · rw [if_neg h]
    refine .inr ⟨rfl, fun n h1 h2 => ?_⟩
    cases e : mk s ch v n with
    | false => rfl
    | true => exact absurd (mk_down hc hv.1 0 n (Int.le_refl _) h1 h2 e) h

theorem mk_mono {s : Ship} (hc : check s = 0) {u v : Int} (hu : 0 ≤ u) (h : u ≤ v) {ch : Bool} {n : Int} (hn : 0 ≤ n ∧ n ≤ 400) (hm : mk s ch v n = true) : mk s ch u n = true :=
  makes_mono hc (lev_good hn) (lev_good hn) .rfl hu h hm

theorem mk_channel {s : Ship} (hc : check s = 0) {v : Int} (hv : 0 ≤ v) {ch : Bool} {n : Int} (hn : 0 ≤ n ∧ n ≤ 400) (hm : mk s false v n = true) : mk s ch v n = true := by
  cases ch with
  | false => exact hm
  | true => exact makes_channel hc (lev_good hn) hv hm

/-- The limit for what is harder is not greater. -/
theorem limit_le {s : Ship} (hc : check s = 0) {u v : Int} {c d : Bool} (hu : 0 ≤ u ∧ u ≤ 250) (hv : 0 ≤ v ∧ v ≤ 250) (h : ∀ n, 0 ≤ n → n ≤ 400 → mk s d v n = true → mk s c u n = true) (h0 : (limitE s v d).2 = 0) :
    (limitE s u c).2 = 0 ∧ (limitE s v d).1 ≤ (limitE s u c).1 := by
  rcases limit_facts hc hv d with ⟨_, a1, a2, a3⟩ | ⟨a, _⟩
  · have h1 := h _ a1 a2 ((a3 _ a1 a2).2 (Int.le_refl _))
    rcases limit_facts hc hu c with ⟨b, b1, b2, b3⟩ | ⟨b, b1⟩
    · exact ⟨b, (b3 _ a1 a2).1 h1⟩
    · rw [b1 _ a1 a2] at h1; cases h1
  · rw [a] at h0; cases h0

theorem makesE_eq {s : Ship} (hc : check s = 0) {i : Ice} (hi : goodIce i) {v : Int} (hv : 0 ≤ v ∧ v ≤ 250) (ch : Bool) : makesE s i v ch = (makes s i ch v, 0) := by
  rw [makesE, if_neg (by simp [asked_zero hc hi hv])]

theorem m6_ok {F : Nat} (hF : 100 ≤ F) {l : List Int} (hl : Bytes l) {n v w : Int} (hn : 0 ≤ n ∧ n ≤ 65535) (hv : 0 ≤ v ∧ v ≤ 255) (hw : 0 ≤ w ∧ w ≤ 255) (ch : Bool) : Ok (fun r => r = true) (m6 F l n v w ch) := by
  unfold m6
  refine ok_bnd _ (m15_ok hF hl) fun s hc => ?_
  have e1 : (if w < v then w else v) ≤ 255 ∧ 0 ≤ (if w < v then w else v) := by split <;> omega
  have e2 : (if w > v then w else v) ≤ 255 ∧ 0 ≤ (if w > v then w else v) := by split <;> omega
  generalize (if w < v then w else v) = a at e1 ⊢
  generalize (if w > v then w else v) = b at e2 ⊢
  repeat' (with_reducible refine ok_chk (by omega) ?_)
  refine ok_join (fun (q : Int × Int) => 0 ≤ q.1 ∧ q.1 ≤ q.2 ∧ q.2 ≤ 250) (fun q hq => ?_) fun k hk => ?_
  · obtain ⟨slow, fast⟩ := q
    obtain ⟨h0, h1, h2⟩ := hq
    simp only [] at h0 h1 h2 ⊢
    repeat' (with_reducible refine ok_chk (by omega) ?_)
    have hs : 0 ≤ slow ∧ slow ≤ 250 := by omega
    have hf : 0 ≤ fast ∧ fast ≤ 250 := by omega
    have ht : 0 ≤ n % 401 ∧ n % 401 ≤ 400 := by omega
    generalize n % 401 = t at ht ⊢
    have hi : goodIce ⟨100, t, 0, 0⟩ := lev_good ht
    rw [makesE_eq hc hi hs]
    have k1 := limit_le hc (c := ch) (d := ch) hs hf (fun n h3 h4 h => mk_mono hc hs.1 h1 ⟨h3, h4⟩ h)
    have k2 := limit_le hc (c := ch) (d := false) hs hs (fun n h3 h4 h => mk_channel hc hs.1 ⟨h3, h4⟩ h)
    have hm : makes s ⟨100, t, 0, 0⟩ ch slow = mk s ch slow t := rfl
    rw [hm]
    rcases limit_facts hc hs ch with ⟨a0, a1, a2, a3⟩ | ⟨a0, a1⟩
    · have a4 := a3 t ht.1 ht.2
      refine ok_brk (fun h => ?_) (fun _ => ok_some ?_)
      · exfalso
        simp [a0] at h
        omega
      · rw [a0]
        cases hb : mk s ch slow t with
        | true => rw [hb] at a4; simp only [true_iff] at a4; simp [a4]
        | false =>
          rw [hb] at a4
          have : ¬ t ≤ (limitE s slow ch).1 := fun h => by have := a4.2 h; cases this
          simp [this]
    · refine ok_brk (fun h => ?_) (fun _ => ok_some ?_)
      · exfalso
        simp [a0] at h
        omega
      · rw [a0, a1 t ht.1 ht.2]; rfl
  · refine ok_brk (fun h => ?_) (fun h => ?_)
    · have h := of_decide_eq_true h
      refine hk _ ⟨?_, ?_, ?_⟩ <;> simp only [] <;> omega
    · have h := of_decide_eq_false h
      refine hk _ ⟨?_, ?_, ?_⟩ <;> simp only [] <;> omega
end Go.Proofs.T
