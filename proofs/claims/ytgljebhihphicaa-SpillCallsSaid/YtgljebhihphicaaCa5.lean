/- Texts ScB, ScS, ScCalls, ScAw, ScL, KFR: own work; each part says what it is. -/
import Derived.Test.YtgljebhihphicaaCa4
import Derived.Handed
import Derived.OpenShut
import Derived.ChangeSlices
import Derived.JoinedOf
namespace Go.Proofs.Sc
def inS (n a b : Int) : Bool := decide (a ≤ n) && decide (n ≤ b)
def rightS (m : Machine) : Bool :=
 inS m.Tank 1 200 && inS m.Idle 0 5 && inS m.Steam 0 9 && inS m.Work 0 9 && inS m.Watch 1 48 && inS m.Rest 1 24 && inS m.Wear 1 100 && inS m.Refit 1 48
def noCase : Case := ⟨0, 0, 0, 0, false⟩
def caseS (a : Area) (n : Int) : Case := a.Cases.getD n.toNat noCase
def hourS (a : Area) (i k : Int) : Int := (a.Hours.getD i.toNat []).getD k.toNat 0
def pressS (a : Area) (h : Int) : Int := a.Press.getD (min h ((a.Press.length : Int) - 1)).toNat 0
def sitesS (a : Area) : Int := (a.Hours.length : Int)
def sizesS (a : Area) : Bool := inS (sitesS a) 1 4 && inS (a.Press.length : Int) 1 60 && decide ((a.Cases.length : Int) ≤ 3)
def rowS (n i : Nat) (row : List Int) : Bool := decide (row.length = n) && (List.range n).all fun k => if i = k then decide (row.getD k 0 = 0) else inS (row.getD k 0) 1 24
def tableS (a : Area) : Bool := (List.range a.Hours.length).all fun i => rowS a.Hours.length i (a.Hours.getD i [])
def caseOK (a : Area) (c : Case) : Bool := inS c.Site 0 (sitesS a - 1) && inS c.To 0 (sitesS a - 1) && inS c.Cut 1 24 && inS c.Calm 0 3
def checkS (m : Machine) (a : Area) : Int :=
 if rightS m = false then 70 else if sizesS a = false then 2 else
  if tableS a && inS a.Limit 0 60 && (a.Press.all fun p => inS p 0 3) && a.Cases.all (caseOK a) then 0 else 1
structure Fit (m : Machine) (a : Area) : Prop where
 tank : 1 ≤ m.Tank ∧ m.Tank ≤ 200
 idle : 0 ≤ m.Idle ∧ m.Idle ≤ 5
 steam : 0 ≤ m.Steam ∧ m.Steam ≤ 9
 work : 0 ≤ m.Work ∧ m.Work ≤ 9
 watch : 1 ≤ m.Watch ∧ m.Watch ≤ 48
 rest : 1 ≤ m.Rest ∧ m.Rest ≤ 24
 wear : 1 ≤ m.Wear ∧ m.Wear ≤ 100
 refit : 1 ≤ m.Refit ∧ m.Refit ≤ 48
 sites : 1 ≤ sitesS a ∧ sitesS a ≤ 4
 pressN : 1 ≤ a.Press.length ∧ a.Press.length ≤ 60
 casesN : a.Cases.length ≤ 3
 limit : 0 ≤ a.Limit ∧ a.Limit ≤ 60
 rows : ∀ i : Nat, i < a.Hours.length → (a.Hours.getD i []).length = a.Hours.length
 hours : ∀ i k : Nat, i < a.Hours.length → k < a.Hours.length → i ≠ k → 1 ≤ (a.Hours.getD i []).getD k 0 ∧ (a.Hours.getD i []).getD k 0 ≤ 24
 same : ∀ i : Nat, i < a.Hours.length → (a.Hours.getD i []).getD i 0 = 0
 press : ∀ p ∈ a.Press, 0 ≤ p ∧ p ≤ 3
 cases : ∀ c ∈ a.Cases, (0 ≤ c.Site ∧ c.Site ≤ sitesS a - 1) ∧ (0 ≤ c.To ∧ c.To ≤ sitesS a - 1) ∧ (1 ≤ c.Cut ∧ c.Cut ≤ 24) ∧ (0 ≤ c.Calm ∧ c.Calm ≤ 3)
theorem inS_iff {n a b : Int} : inS n a b = true ↔ a ≤ n ∧ n ≤ b := by simp [inS]
theorem ok_of {m : Machine} {a : Area} (h : checkS m a = 0) : Fit m a := by
 unfold checkS at h
 split at h
 ·simp at h
 split at h
 ·simp at h
 split at h
 ·rename_i h1 h2 h3
  simp only [Bool.not_eq_false, rightS, sizesS, Bool.and_eq_true, inS_iff, decide_eq_true_eq, List.all_eq_true, tableS, rowS, caseOK, List.mem_range] at h1 h2 h3
  obtain ⟨⟨⟨⟨⟨⟨⟨p1, p2⟩, p3⟩, p4⟩, p5⟩, p6⟩, p7⟩, p8⟩ := h1
  obtain ⟨⟨q1, q2⟩, q3⟩ := h2
  obtain ⟨⟨⟨r1, r2⟩, r3⟩, r4⟩ := h3
  refine ⟨p1, p2, p3, p4, p5, p6, p7, p8, q1, by omega, by omega, r2, fun i hi => (r1 i hi).1, fun i k hi hk hik => ?_, fun i hi => ?_, r3, fun c hc => ?_⟩
  ·have := (r1 i hi).2 k hk
   rw [if_neg hik] at this
   exact inS_iff.1 this
  ·have := (r1 i hi).2 i hi
   rw [if_pos rfl] at this
   simpa using this
  ·obtain ⟨⟨⟨s1, s2⟩, s3⟩, s4⟩ := r4 c hc
   exact ⟨s1, s2, s3, s4⟩
 ·simp at h
def getC (c : A3ofInt) (n : Int) : Int := [c.a0, c.a1, c.a2].getD n.toNat 0
def setC (c : A3ofInt) (n v : Int) : A3ofInt := ⟨if n = 0 then v else c.a0, if n = 1 then v else c.a1, if n = 2 then v else c.a2⟩
def shipS (a : Area) (n : Nat) (v : Int) : Bool := decide (v = 0) || (decide (n < a.Cases.length) && inS v 1 3 && (decide (v = 3) || (a.Cases.getD n noCase).Towed))
def notchS (c : A3ofInt) : Int := if c.a0 = 2 then 0 else if c.a1 = 2 then 1 else if c.a2 = 2 then 2 else -1
def oneS (c : A3ofInt) : Bool := !(decide (c.a0 = 2) && decide (c.a1 = 2)) && !(decide (c.a0 = 2) && decide (c.a2 = 2)) && !(decide (c.a1 = 2) && decide (c.a2 = 2))
def stateS (m : Machine) (a : Area) (s : State) : Bool :=
 inS s.Hour 0 a.Limit && inS s.Site 0 (sitesS a - 1) && inS s.Fuel 0 m.Tank && inS s.Awake 0 m.Watch && inS s.Worn 0 m.Wear &&
  (shipS a 0 s.Cases.a0 && shipS a 1 s.Cases.a1 && shipS a 2 s.Cases.a2 && oneS s.Cases && decide (s.Notch = notchS s.Cases))
def calmS (a : Area) (h n most : Int) : Bool := (List.range n.toNat).all fun (k : Nat) => decide (pressS a (h + (k : Int)) ≤ most)
def wayS (a : Area) (s : State) (n : Int) : Int := if s.Notch ≥ 0 then 2 * hourS a s.Site n else hourS a s.Site n
def numS (a : Area) (k n : Int) : Bool := if k = 1 then inS n 0 (sitesS a - 1) else if k = 2 ∨ k = 3 then inS n 0 ((a.Cases.length : Int) - 1) else decide (n = 0)
def emptyS (k : Int) : Bool := decide (k = 2 ∨ k = 3 ∨ k = 6 ∨ k = 7 ∨ k = 8)
def needsS (a : Area) (s : State) (k n : Int) : Bool :=
 if k = 1 then decide (n ≠ s.Site) && (decide (s.Notch < 0) || calmS a s.Hour (wayS a s n) 2)
 else if k = 2 then decide (getC s.Cases n = 0) && decide ((caseS a n).Site = s.Site) && calmS a s.Hour (caseS a n).Cut (caseS a n).Calm
 else if k = 3 then decide (getC s.Cases n = 1) && decide ((caseS a n).Site = s.Site) && calmS a s.Hour 1 1
 else if k = 4 then decide (s.Notch ≥ 0) && decide ((caseS a s.Notch).To = s.Site)
 else if k = 7 ∨ k = 8 then decide (s.Site = 0) else true
def hoursS (m : Machine) (a : Area) (s : State) (k n : Int) : Int :=
 if k = 1 then wayS a s n else if k = 2 then (caseS a n).Cut else if k = 6 then m.Rest else if k = 7 then 2 else if k = 8 then m.Refit else 1
def burnS (m : Machine) (s : State) (k : Int) : Int :=
 if k = 1 then (if s.Notch ≥ 0 then m.Work else m.Steam) else if k = 2 ∨ k = 3 then m.Work else if k = 7 ∨ k = 8 then 0 else m.Idle
def worksS (s : State) (k : Int) : Bool := if k = 1 then decide (s.Notch ≥ 0) else decide (k = 2 ∨ k = 3)
def sleepsS (k : Int) : Bool := decide (k = 6 ∨ k = 8)
def thenS (m : Machine) (a : Area) (k n : Int) (t : State) : State :=
 if k = 1 then { t with Site := n }
 else if k = 2 then { t with Cases := setC t.Cases n (if (caseS a n).Towed then 1 else 3) }
 else if k = 3 then { t with Cases := setC t.Cases n 2, Notch := n }
 else if k = 4 then { t with Cases := setC t.Cases t.Notch 3, Notch := -1 }
 else if k = 7 then { t with Fuel := m.Tank }
 else if k = 8 then { t with Worn := 0 } else t
def nextS (m : Machine) (a : Area) (s : State) (k n : Int) : State :=
 { s with Hour := s.Hour + hoursS m a s k n, Fuel := s.Fuel - hoursS m a s k n * burnS m s k, Awake := if sleepsS k then 0 else s.Awake + hoursS m a s k n, Worn := if worksS s k then s.Worn + hoursS m a s k n else s.Worn }
def doS (m : Machine) (a : Area) (s : State) (x : Action) : State × Int :=
 if inS x.Kind 1 8 = false then (s, 150)
 else if numS a x.Kind x.N = false then (s, 1)
 else if (emptyS x.Kind && decide (s.Notch ≥ 0) || !needsS a s x.Kind x.N) = true then (s, 70)
 else if (nextS m a s x.Kind x.N).Hour > a.Limit then (s, 12)
 else if (nextS m a s x.Kind x.N).Fuel < 0 then (s, 71)
 else if (nextS m a s x.Kind x.N).Awake > m.Watch ∨ (nextS m a s x.Kind x.N).Worn > m.Wear then (s, 6)
 else (thenS m a x.Kind x.N (nextS m a s x.Kind x.N), 0)
structure Goes (m : Machine) (a : Area) (s : State) (k n : Int) : Prop where
 kind : 1 ≤ k ∧ k ≤ 8
 num : numS a k n = true
 empty : emptyS k = true → s.Notch < 0
 needs : needsS a s k n = true
 hour : s.Hour + hoursS m a s k n ≤ a.Limit
 fuel : 0 ≤ s.Fuel - hoursS m a s k n * burnS m s k
 awake : (if sleepsS k then 0 else s.Awake + hoursS m a s k n) ≤ m.Watch
 worn : (if worksS s k then s.Worn + hoursS m a s k n else s.Worn) ≤ m.Wear
theorem doS_ok {m : Machine} {a : Area} {s t : State} {x : Action} (h : doS m a s x = (t, 0)) : Goes m a s x.Kind x.N ∧ t = thenS m a x.Kind x.N (nextS m a s x.Kind x.N) := by
 unfold doS at h
 split at h
 ·simp at h
 split at h
 ·simp at h
 split at h
 ·simp at h
 split at h
 ·simp at h
 split at h
 ·simp at h
 split at h
 ·simp at h
 ·rename_i h1 h2 h3 h4 h5 h6
  simp only [Prod.mk.injEq, and_true] at h
  simp only [Bool.not_eq_false, inS_iff] at h1
  simp only [Bool.or_eq_true, Bool.and_eq_true, decide_eq_true_eq, Bool.not_eq_true', not_or, Bool.not_eq_false, not_and] at h2 h3
  refine ⟨⟨h1, by simpa using h2, fun he => by have := h3.1 he; omega, h3.2, by simp only [nextS] at h4; omega, by simp only [nextS] at h5; omega, ?_, ?_⟩, h.symm⟩
  ·have := mt (Or.inl (b := (nextS m a s x.Kind x.N).Worn > m.Wear)) h6
   simp only [nextS] at this
   omega
  ·have := mt (Or.inr (a := (nextS m a s x.Kind x.N).Awake > m.Watch)) h6
   simp only [nextS] at this
   omega
theorem goes_do {m : Machine} {a : Area} {s : State} {k n : Int} (h : Goes m a s k n) : doS m a s ⟨k, n⟩ = (thenS m a k n (nextS m a s k n), 0) := by
 unfold doS
 have h1 : inS k 1 8 = true := inS_iff.2 h.kind
 rw [if_neg (by simp [h1]), if_neg (by simp [h.num])]
 rw [if_neg, if_neg, if_neg, if_neg]
 ·simp only [nextS]
  have := h.awake; have := h.worn
  omega
 ·simp only [nextS]
  have := h.fuel
  omega
 ·simp only [nextS]
  have := h.hour
  omega
 ·simp only [Bool.or_eq_true, Bool.and_eq_true, decide_eq_true_eq, Bool.not_eq_true', h.needs]
  rintro (⟨h2, h3⟩ | h2)
  ·have := h.empty h2; omega
  ·simp at h2
structure StOk (m : Machine) (a : Area) (s : State) : Prop where
 hour : 0 ≤ s.Hour ∧ s.Hour ≤ a.Limit
 site : 0 ≤ s.Site ∧ s.Site ≤ sitesS a - 1
 fuel : 0 ≤ s.Fuel ∧ s.Fuel ≤ m.Tank
 awake : 0 ≤ s.Awake ∧ s.Awake ≤ m.Watch
 worn : 0 ≤ s.Worn ∧ s.Worn ≤ m.Wear
 c0 : shipS a 0 s.Cases.a0 = true
 c1 : shipS a 1 s.Cases.a1 = true
 c2 : shipS a 2 s.Cases.a2 = true
 one : oneS s.Cases = true
 notch : s.Notch = notchS s.Cases
theorem stateS_iff {m : Machine} {a : Area} {s : State} : stateS m a s = true ↔ StOk m a s := by
 unfold stateS
 simp only [Bool.and_eq_true, inS_iff, decide_eq_true_eq]
 exact ⟨fun ⟨⟨⟨⟨⟨h1, h2⟩, h3⟩, h4⟩, h5⟩, ⟨⟨⟨h6, h7⟩, h8⟩, h9⟩, h10⟩ => ⟨h1, h2, h3, h4, h5, h6, h7, h8, h9, h10⟩, fun ⟨h1, h2, h3, h4, h5, h6, h7, h8, h9, h10⟩ => ⟨⟨⟨⟨⟨h1, h2⟩, h3⟩, h4⟩, h5⟩, ⟨⟨⟨h6, h7⟩, h8⟩, h9⟩, h10⟩⟩
end Go.Proofs.Sc
namespace Go.Proofs.Sc
theorem caseS_nat {a : Area} {n : Int} {k : Nat} (h : n = (k : Int)) : caseS a n = a.Cases.getD k noCase := by
 subst h; rfl
theorem num_case {a : Area} {k n : Int} (hk : k = 2 ∨ k = 3) (h : numS a k n = true) : 0 ≤ n ∧ n < (a.Cases.length : Int) := by
 unfold numS at h
 rw [if_neg (by omega), if_pos hk, inS_iff] at h
 omega
theorem num_site {a : Area} {n : Int} (h : numS a 1 n = true) : 0 ≤ n ∧ n ≤ sitesS a - 1 := by
 unfold numS at h
 rwa [if_pos rfl, inS_iff] at h
theorem Fit.case {m : Machine} {a : Area} (h : Fit m a) {n : Int} (h0 : 0 ≤ n) (h1 : n < (a.Cases.length : Int)) :
  (0 ≤ (caseS a n).Site ∧ (caseS a n).Site ≤ sitesS a - 1) ∧ (0 ≤ (caseS a n).To ∧ (caseS a n).To ≤ sitesS a - 1) ∧ (1 ≤ (caseS a n).Cut ∧ (caseS a n).Cut ≤ 24) ∧ (0 ≤ (caseS a n).Calm ∧ (caseS a n).Calm ≤ 3) := by
 have hlt : n.toNat < a.Cases.length := by omega
 refine h.cases _ ?_
 unfold caseS
 rw [List.getD_eq_getElem?_getD, List.getElem?_eq_getElem hlt]
 exact List.getElem_mem hlt
theorem Fit.way {m : Machine} {a : Area} (h : Fit m a) {i k : Int} (h0 : 0 ≤ i ∧ i ≤ sitesS a - 1) (h1 : 0 ≤ k ∧ k ≤ sitesS a - 1) (hne : k ≠ i) : 1 ≤ hourS a i k ∧ hourS a i k ≤ 24 := by
 unfold sitesS at h0 h1
 unfold hourS
 exact h.hours i.toNat k.toNat (by omega) (by omega) (by omega)
theorem hours_pos {m : Machine} {a : Area} {s : State} {k n : Int} (hok : Fit m a) (hs : StOk m a s) (hg : Goes m a s k n) : 1 ≤ hoursS m a s k n ∧ hoursS m a s k n ≤ 48 := by
 unfold hoursS
 split
 ·rename_i e
  subst e
  have hn := num_site hg.num
  have hneeds := hg.needs
  unfold needsS at hneeds
  rw [if_pos rfl, Bool.and_eq_true, decide_eq_true_eq] at hneeds
  have := hok.way hs.site hn hneeds.1
  unfold wayS
  split <;> omega
 split
 ·rename_i e
  have hn := num_case (.inl e) hg.num
  have := (hok.case hn.1 hn.2).2.2.1
  omega
 split
 ·have := hok.rest; omega
 split
 ·omega
 split
 ·have := hok.refit; omega
 ·omega
theorem burn_pos {m : Machine} {a : Area} {s : State} {k : Int} (hok : Fit m a) : 0 ≤ burnS m s k ∧ burnS m s k ≤ 9 := by
 have h1 := hok.idle; have h2 := hok.steam; have h3 := hok.work
 unfold burnS
 repeat' split
 all_goals omega
theorem notchS_eq {c : A3ofInt} : (notchS c = -1 ∧ c.a0 ≠ 2 ∧ c.a1 ≠ 2 ∧ c.a2 ≠ 2) ∨ (notchS c = 0 ∧ c.a0 = 2) ∨ (notchS c = 1 ∧ c.a0 ≠ 2 ∧ c.a1 = 2) ∨ (notchS c = 2 ∧ c.a0 ≠ 2 ∧ c.a1 ≠ 2 ∧ c.a2 = 2) := by
 unfold notchS
 repeat' split
 all_goals simp_all
theorem notchS_none {c : A3ofInt} (h0 : c.a0 ≠ 2) (h1 : c.a1 ≠ 2) (h2 : c.a2 ≠ 2) : notchS c = -1 := by
 unfold notchS
 rw [if_neg h0, if_neg h1, if_neg h2]
theorem shipS_iff {a : Area} {n : Nat} {v : Int} : shipS a n v = true ↔ v = 0 ∨ (n < a.Cases.length ∧ (1 ≤ v ∧ v ≤ 3) ∧ (v = 3 ∨ (a.Cases.getD n noCase).Towed = true)) := by
 unfold shipS
 simp only [Bool.or_eq_true, Bool.and_eq_true, decide_eq_true_eq, inS_iff, and_assoc]
theorem oneS_iff {c : A3ofInt} : oneS c = true ↔ ¬ (c.a0 = 2 ∧ c.a1 = 2) ∧ ¬ (c.a0 = 2 ∧ c.a2 = 2) ∧ ¬ (c.a1 = 2 ∧ c.a2 = 2) := by
 unfold oneS
 simp only [Bool.and_eq_true, Bool.not_eq_true', Bool.and_eq_false_iff, decide_eq_false_iff_not, and_assoc]
 omega
theorem ships_set {m : Machine} {a : Area} {s : State} (hs : StOk m a s) {n v : Int} (h0 : 0 ≤ n) (h1 : n < (a.Cases.length : Int)) (hv : 1 ≤ v ∧ v ≤ 3) (ht : v = 3 ∨ (caseS a n).Towed = true) :
  shipS a 0 (setC s.Cases n v).a0 = true ∧ shipS a 1 (setC s.Cases n v).a1 = true ∧ shipS a 2 (setC s.Cases n v).a2 = true := by
 have key : ∀ (k : Nat) (w : Int), shipS a k w = true → shipS a k (if n = (k : Int) then v else w) = true := by
  intro k w hw
  split
  ·rename_i e
   rw [shipS_iff]
   rw [caseS_nat e] at ht
   exact .inr ⟨by omega, hv, ht⟩
  ·exact hw
 exact ⟨key 0 _ hs.c0, key 1 _ hs.c1, key 2 _ hs.c2⟩
theorem getC_cases {c : A3ofInt} {n : Int} (h0 : 0 ≤ n) (h1 : n < 3) : (n = 0 ∧ getC c n = c.a0) ∨ (n = 1 ∧ getC c n = c.a1) ∨ (n = 2 ∧ getC c n = c.a2) := by
 have : n = 0 ∨ n = 1 ∨ n = 2 := by omega
 rcases this with rfl | rfl | rfl
 ·exact .inl ⟨rfl, rfl⟩
 ·exact .inr (.inl ⟨rfl, rfl⟩)
 ·exact .inr (.inr ⟨rfl, rfl⟩)
theorem notch_at {m : Machine} {a : Area} {s : State} (hs : StOk m a s) (hn : 0 ≤ s.Notch) : s.Notch < (a.Cases.length : Int) ∧ s.Notch < 3 ∧ getC s.Cases s.Notch = 2 := by
 have h1 := shipS_iff.1 hs.c0; have h2 := shipS_iff.1 hs.c1; have h3 := shipS_iff.1 hs.c2
 have h4 := hs.notch
 rcases notchS_eq (c := s.Cases) with ⟨e, _⟩ | ⟨e, e0⟩ | ⟨e, _, e1⟩ | ⟨e, _, _, e2⟩
 ·omega
 ·rw [h4, e]; exact ⟨by omega, by omega, e0⟩
 ·rw [h4, e]; exact ⟨by omega, by omega, e1⟩
 ·rw [h4, e]; exact ⟨by omega, by omega, e2⟩
theorem then_ok {m : Machine} {a : Area} {s : State} {k n : Int} (hok : Fit m a) (hs : StOk m a s) (hg : Goes m a s k n) : StOk m a (thenS m a k n (nextS m a s k n)) := by
 have hh := hours_pos hok hs hg
 have hb := burn_pos (s := s) (k := k) hok
 have hprod : 0 ≤ hoursS m a s k n * burnS m s k := Int.mul_nonneg (by omega) hb.1
 have i1 := hs.hour; have i2 := hs.site; have i3 := hs.fuel; have i4 := hs.awake; have i5 := hs.worn
 have g1 := hg.hour; have g2 := hg.fuel; have g3 := hg.awake; have g4 := hg.worn
 have a1 : 0 ≤ (if sleepsS k then 0 else s.Awake + hoursS m a s k n) := by split <;> omega
 have w1 : 0 ≤ (if worksS s k then s.Worn + hoursS m a s k n else s.Worn) := by split <;> omega
 have htank := hok.tank; have hwear := hok.wear
 have hcn := hok.casesN
 have nx : StOk m a (nextS m a s k n) := ⟨by simp only [nextS]; omega, i2, by simp only [nextS]; omega, ⟨a1, g3⟩, ⟨w1, g4⟩, hs.c0, hs.c1, hs.c2, hs.one, hs.notch⟩
 have he := hg.empty
 have hneeds := hg.needs
 unfold needsS at hneeds
 have one := oneS_iff.1 hs.one
 have hnot := hs.notch
 unfold thenS
 split
 ·rename_i e
  subst e
  exact { nx with site := num_site hg.num }
 split
 ·rename_i _ e
  subst e
  have hn := num_case (.inl rfl) hg.num
  rw [if_neg (by omega), if_pos rfl] at hneeds
  simp only [Bool.and_eq_true, decide_eq_true_eq] at hneeds
  have he' := he (by decide)
  obtain ⟨c0, c1, c2⟩ := ships_set hs (v := if (caseS a n).Towed then 1 else 3) hn.1 hn.2 (by split <;> omega) (by split <;> simp_all)
  have hno : ∀ n', notchS s.Cases = n' → n' < 0 → s.Cases.a0 ≠ 2 ∧ s.Cases.a1 ≠ 2 ∧ s.Cases.a2 ≠ 2 := fun n' e hlt => by
   rcases notchS_eq (c := s.Cases) with ⟨e', h⟩ | ⟨e', _⟩ | ⟨e', _⟩ | ⟨e', _⟩
   ·exact h
   all_goals omega
  obtain ⟨x0, x1, x2⟩ := hno _ hnot.symm he'
  have y : ∀ (w : Int) (k : Int), w ≠ 2 → (if n = k then (if (caseS a n).Towed then 1 else 3) else w) ≠ (2 : Int) := fun w k h => by
   repeat' split
   all_goals omega
  have y0 := y _ 0 x0; have y1 := y _ 1 x1; have y2 := y _ 2 x2
  refine { nx with c0 := c0, c1 := c1, c2 := c2, one := oneS_iff.2 ⟨fun h => y0 h.1, fun h => y0 h.1, fun h => y1 h.1⟩, notch := ?_ }
  show s.Notch = notchS (setC s.Cases n (if (caseS a n).Towed = true then 1 else 3))
  rw [hnot, notchS_none x0 x1 x2, notchS_none (c := setC s.Cases n _) y0 y1 y2]
 split
 ·rename_i _ _ e
  subst e
  have hn := num_case (.inr rfl) hg.num
  rw [if_neg (by omega), if_neg (by omega), if_pos rfl] at hneeds
  simp only [Bool.and_eq_true, decide_eq_true_eq] at hneeds
  have he' := he (by decide)
  have htow : (caseS a n).Towed = true := by
   have h1 := shipS_iff.1 hs.c0; have h2 := shipS_iff.1 hs.c1; have h3 := shipS_iff.1 hs.c2
   have h4 := hneeds.1.1
   rcases getC_cases (c := s.Cases) hn.1 (by omega) with ⟨rfl, e⟩ | ⟨rfl, e⟩ | ⟨rfl, e⟩
   ·rw [e] at h4; exact ((h1.resolve_left (by omega)).2.2.resolve_left (by omega))
   ·rw [e] at h4; exact ((h2.resolve_left (by omega)).2.2.resolve_left (by omega))
   ·rw [e] at h4; exact ((h3.resolve_left (by omega)).2.2.resolve_left (by omega))
  obtain ⟨c0, c1, c2⟩ := ships_set hs (v := 2) hn.1 hn.2 (by omega) (.inr htow)
  have hno : ∀ n', notchS s.Cases = n' → n' < 0 → s.Cases.a0 ≠ 2 ∧ s.Cases.a1 ≠ 2 ∧ s.Cases.a2 ≠ 2 := fun n' e hlt => by
   rcases notchS_eq (c := s.Cases) with ⟨e', h⟩ | ⟨e', _⟩ | ⟨e', _⟩ | ⟨e', _⟩
   ·exact h
   all_goals omega
  obtain ⟨x0, x1, x2⟩ := hno _ hnot.symm he'
  refine { nx with c0 := c0, c1 := c1, c2 := c2, one := ?_, notch := ?_ }
  ·rw [oneS_iff]
   simp only [setC, nextS]
   refine ⟨?_, ?_, ?_⟩ <;> ((repeat' split) <;> omega)
  ·show n = notchS _
   simp only [notchS, setC, nextS]
   rcases getC_cases (c := s.Cases) hn.1 (by omega) with ⟨rfl, _⟩ | ⟨rfl, _⟩ | ⟨rfl, _⟩ <;> simp [x0, x1, x2]
 split
 ·rename_i _ _ _ e
  subst e
  rw [if_neg (by omega), if_neg (by omega), if_neg (by omega), if_pos rfl] at hneeds
  simp only [Bool.and_eq_true, decide_eq_true_eq] at hneeds
  obtain ⟨n1, n2, n3⟩ := notch_at hs (by omega)
  obtain ⟨c0, c1, c2⟩ := ships_set hs (v := 3) (n := s.Notch) (by omega) n1 (by omega) (.inl rfl)
  have hz : (setC s.Cases s.Notch 3).a0 ≠ 2 ∧ (setC s.Cases s.Notch 3).a1 ≠ 2 ∧ (setC s.Cases s.Notch 3).a2 ≠ 2 := by
   simp only [setC]
   rcases notchS_eq (c := s.Cases) with ⟨e', h⟩ | ⟨e', h⟩ | ⟨e', h⟩ | ⟨e', h⟩
   ·omega
   all_goals (rw [hnot, e']; simp; omega)
  refine { nx with c0 := c0, c1 := c1, c2 := c2, one := oneS_iff.2 ⟨fun h => hz.1 h.1, fun h => hz.1 h.1, fun h => hz.2.1 h.1⟩, notch := ?_ }
  show (-1 : Int) = notchS (setC s.Cases s.Notch 3)
  rw [notchS_none hz.1 hz.2.1 hz.2.2]
 split
 ·exact { nx with fuel := ⟨by simp only [nextS]; omega, Int.le_refl _⟩ }
 split
 ·exact { nx with worn := ⟨by simp only [nextS]; omega, by simp only [nextS]; omega⟩ }
 ·exact nx
theorem do_ok {m : Machine} {a : Area} {s t : State} {x : Action} (hok : Fit m a) (hs : StOk m a s) (h : doS m a s x = (t, 0)) : StOk m a t ∧ s.Hour < t.Hour := by
 obtain ⟨hg, rfl⟩ := doS_ok h
 refine ⟨then_ok hok hs hg, ?_⟩
 have hh := hours_pos hok hs hg
 have : (thenS m a x.Kind x.N (nextS m a s x.Kind x.N)).Hour = s.Hour + hoursS m a s x.Kind x.N := by
  unfold thenS
  repeat' split
  all_goals rfl
 rw [this]; omega
end Go.Proofs.Sc
namespace Go.Proofs.Sc
section
variable {m : Machine} {a : Area} {s : State} {k n : Int}
theorem hour_then {t : State} : (thenS m a k n t).Hour = t.Hour := by
 unfold thenS
 repeat' split
 all_goals rfl
theorem awake_then {t : State} : (thenS m a k n t).Awake = t.Awake := by
 unfold thenS
 repeat' split
 all_goals rfl
theorem worn_then {t : State} : (thenS m a k n t).Worn = if k = 8 then 0 else t.Worn := by
 unfold thenS
 repeat' split
 all_goals first | rfl | omega
theorem site_then {t : State} : (thenS m a k n t).Site = if k = 1 then n else t.Site := by
 unfold thenS
 repeat' split
 all_goals first | rfl | omega
theorem fuel_then {t : State} : (thenS m a k n t).Fuel = if k = 7 then m.Tank else t.Fuel := by
 unfold thenS
 repeat' split
 all_goals first | rfl | omega
theorem cases_then {t : State} : (thenS m a k n t).Cases = if k = 2 then setC t.Cases n (if (caseS a n).Towed then 1 else 3) else if k = 3 then setC t.Cases n 2 else if k = 4 then setC t.Cases t.Notch 3 else t.Cases := by
 unfold thenS
 repeat' split
 all_goals first | rfl | omega
theorem calmS_iff {a : Area} {h n most : Int} : calmS a h n most = true ↔ ∀ i : Int, h ≤ i → i < h + n → pressS a i ≤ most := by
 unfold calmS
 simp only [List.all_eq_true, List.mem_range, decide_eq_true_eq]
 constructor
 ·intro q i h1 h2
  have := q (i - h).toNat (by omega)
  rwa [show h + ((i - h).toNat : Int) = i by omega] at this
 ·intro q k hk
  exact q _ (by omega) (by omega)
variable {t : State}
end
end Go.Proofs.Sc
namespace Go.Proofs.Sc
open Go Go.KX
def caseAt (c : A3ofInt) (i : Nat) : Int := [c.a0, c.a1, c.a2].getD i 0
def restS (a : Area) (c : A3ofInt) (notch : Int) : Nat → Nat → Int → Bool
 | 0, _, n => decide (notch = n)
 | f + 1, i, n => shipS a i (caseAt c i) && !(decide (caseAt c i = 2) && decide (n ≥ 0)) && restS a c notch f (i + 1) (if caseAt c i = 2 then (i : Int) else n)
theorem rest_all {a : Area} {c : A3ofInt} {notch : Int} : restS a c notch 3 0 (-1) = (shipS a 0 c.a0 && shipS a 1 c.a1 && shipS a 2 c.a2 && oneS c && decide (notch = notchS c)) := by
 simp only [restS, caseAt, List.getD_cons_zero, List.getD_cons_succ, oneS, notchS]
 by_cases h0 : c.a0 = 2 <;> by_cases h1 : c.a1 = 2 <;> by_cases h2 : c.a2 = 2 <;> simp [h0, h1, h2]
 all_goals
  cases shipS a 0 _ <;> cases shipS a 1 _ <;> cases shipS a 2 _ <;> rfl
section
variable {F : Nat} {m : Machine} {a : Area} {s : State}
end
end Go.Proofs.Sc
namespace Go.Proofs.Sc
open Go Go.KX
section
variable {F : Nat} {m : Machine} {a : Area} {s : State}
structure Fin where
 burn : Int
 sleeps : Bool
 worn : Int
 hours : Int
 c2 : Int
 c1 : Int
 c0 : Int
 notch : Int
 worn0 : Int
 fuel : Int
 site : Int
def tailS (m : Machine) (a : Area) (s : State) (k n : Int) : State × Int :=
 if (nextS m a s k n).Hour > a.Limit then (s, 12)
 else if (nextS m a s k n).Fuel < 0 then (s, 71)
 else if (nextS m a s k n).Awake > m.Watch ∨ (nextS m a s k n).Worn > m.Wear then (s, 6)
 else (thenS m a k n (nextS m a s k n), 0)
theorem doS_tail {x : Action} (h1 : inS x.Kind 1 8 = true) (h2 : numS a x.Kind x.N = true) (h3 : emptyS x.Kind = true → s.Notch < 0) (h4 : needsS a s x.Kind x.N = true) : doS m a s x = tailS m a s x.Kind x.N := by
 unfold doS
 rw [if_neg (by simp [h1]), if_neg (by simp [h2]), if_neg]
 ·rfl
 ·simp only [Bool.or_eq_true, Bool.and_eq_true, decide_eq_true_eq, Bool.not_eq_true', h4]
  rintro (⟨h5, h6⟩ | h5)
  ·have := h3 h5; omega
  ·simp at h5
end
end Go.Proofs.Sc
namespace Go.Proofs.Sc
open Go Go.KX
structure FinBd (t : Fin) : Prop where
 burn : 0 ≤ t.burn ∧ t.burn ≤ 9
 worn : 0 ≤ t.worn ∧ t.worn ≤ 48
 hours : 1 ≤ t.hours ∧ t.hours ≤ 48
 worn0 : 0 ≤ t.worn0 ∧ t.worn0 ≤ 100
 fuel : 0 ≤ t.fuel ∧ t.fuel ≤ 200
section
variable {F : Nat} {m : Machine} {a : Area} {s : State} {x : Action}
theorem mul9 {h b : Int} (hh : 1 ≤ h ∧ h ≤ 48) (hb : 0 ≤ b ∧ b ≤ 9) : 0 ≤ h * b ∧ h * b ≤ 432 :=
 ⟨Int.mul_nonneg (by omega) hb.1, by
  have h1 : h * b ≤ 48 * b := Int.mul_le_mul_of_nonneg_right hh.2 hb.1
  omega⟩
theorem doS_70 (h1 : inS x.Kind 1 8 = true) (h2 : numS a x.Kind x.N = true) (h3 : (emptyS x.Kind = true ∧ s.Notch ≥ 0) ∨ needsS a s x.Kind x.N = false) : doS m a s x = (s, 70) := by
 unfold doS
 rw [if_neg (by simp [h1]), if_neg (by simp [h2]), if_pos]
 rcases h3 with ⟨h3, h4⟩ | h3
 ·simp [h3, h4]
 ·simp [h3]
end
end Go.Proofs.Sc
namespace Go.Proofs.Sc
open Go Go.KX
section
variable {α : Type} {post : α → Prop}
theorem ok_upto {F n : Nat} (P : Nat → Prop) {body : Int → (Int → Option α) → Option α} (hF : n < F) (h : ∀ i : Nat, i < n → (∀ j < i, P j) → ∀ next : Int → Option α, (P i → Go.KX.Ok post (next ((i : Int) + 1))) → Go.KX.Ok post (body (i : Int) next))
  (he : (∀ j < n, P j) → ∀ next : Int → Option α, Go.KX.Ok post (body (n : Int) next)) : Go.KX.Ok post (loopC body F 0) := by
 refine ok_loop (fun x : Int => 0 ≤ x ∧ x ≤ n ∧ ∀ j < x.toNat, P j) (fun x => n - x.toNat) ⟨by omega, by omega, fun j hj => by simp at hj⟩ (by simp; omega) ?_
 rintro x next ⟨h1, h2, h3⟩ hn
 obtain ⟨i, rfl⟩ := Int.eq_ofNat_of_zero_le h1
 simp only [Int.toNat_natCast] at h3 hn
 by_cases e : i < n
 ·refine h i e h3 next fun hp => hn _ ⟨by omega, by omega, fun j hj => ?_⟩ (by omega)
  by_cases e2 : j < i
  ·exact h3 j e2
  ·have : j = i := by omega
   subst this; exact hp
 ·have : i = n := by omega
  subst this
  exact he h3 next
theorem brk_lt {i n : Nat} {x y : Option α} (h : i < n) (hx : Go.KX.Ok post x) : Go.KX.Ok post (brk (decide ((i : Int) < (n : Int))) x y) := ok_brkT (decide_eq_true (by omega)) hx
theorem brk_nlt {n : Nat} {x y : Option α} (hy : Go.KX.Ok post y) : Go.KX.Ok post (brk (decide ((n : Int) < (n : Int))) x y) := ok_brkF (decide_eq_false (by omega)) hy
theorem inR1 {i : Nat} (h : i ≤ 1000000000) : InR ((i : Int) + 1) := ⟨by omega, by omega⟩
end
theorem all_range {n : Nat} {p : Nat → Bool} : (List.range n).all p = true ↔ ∀ i < n, p i = true := by simp
theorem all_list {β : Type} {l : List β} {d : β} {p : β → Bool} : l.all p = true ↔ ∀ i < l.length, p (l.getD i d) = true := by
 rw [List.all_eq_true]
 constructor
 ·intro h i hi; exact h _ (getD_mem hi)
 ·intro h x hx
  obtain ⟨i, hi, rfl⟩ := List.getElem_of_mem hx
  have := h i hi
  rwa [getD_get hi] at this
theorem all_no {β : Type} {l : List β} {d : β} {p : β → Bool} {i : Nat} (hi : i < l.length) (h : p (l.getD i d) = false) : l.all p = false := by
 cases e : l.all p with
 | false => rfl
 | true => rw [(all_list (d := d)).1 e i hi] at h; cases h
theorem range_no {n : Nat} {p : Nat → Bool} {i : Nat} (hi : i < n) (h : p i = false) : (List.range n).all p = false := by
 cases e : (List.range n).all p with
 | false => rfl
 | true => rw [all_range.1 e i hi] at h; cases h
section
variable {F : Nat} {m : Machine} {a : Area} {s : State}
def cellOK (a : Area) (i k : Nat) : Bool := if i = k then decide ((a.Hours.getD i []).getD k 0 = 0) else inS ((a.Hours.getD i []).getD k 0) 1 24
theorem rowS_iff {n i : Nat} : rowS n i (a.Hours.getD i []) = true ↔ (a.Hours.getD i []).length = n ∧ ∀ k < n, cellOK a i k = true := by
 unfold rowS cellOK
 rw [Bool.and_eq_true, decide_eq_true_eq, all_range]
def restC (a : Area) : Int := if (tableS a && inS a.Limit 0 60 && (a.Press.all fun p => inS p 0 3) && a.Cases.all (caseOK a)) = true then 0 else 1
theorem checkS_eq : checkS m a = if rightS m = false then 70 else if sizesS a = false then 2 else restC a := rfl
theorem rest1 (h : tableS a = false ∨ inS a.Limit 0 60 = false ∨ (a.Press.all fun p => inS p 0 3) = false ∨ a.Cases.all (caseOK a) = false) : (1 : Int) = restC a := by
 unfold restC
 rw [if_neg]
 rcases h with h | h | h | h <;> rw [h] <;> simp
def begunS (m : Machine) (a : Area) (s : State) : Int := if checkS m a ≠ 0 then checkS m a else if stateS m a s = false then 9 else 0
theorem begun_ok (h : begunS m a s = 0) : Fit m a ∧ StOk m a s := by
 unfold begunS at h
 split at h
 ·contradiction
 split at h
 ·simp at h
 ·rename_i h1 h2
  exact ⟨ok_of (by simpa using h1), stateS_iff.1 (by simpa using h2)⟩
end
end Go.Proofs.Sc
namespace Go.Proofs.Sc
open Go Go.KX
section
variable {F : Nat} {m : Machine} {a : Area} {s : State}
theorem p_in {n x y : Int} : breaker_within F n x y = some (inS n x y) := rfl
theorem p_right : breaker_Machine_right F m = some (rightS m) := by
 refine Go.KX.Ok.eq ?_
 unfold breaker_Machine_right rightS
 simp only [p_in, bnd_so]
 generalize inS m.Tank 1 200 = b1; generalize inS m.Idle 0 5 = b2; generalize inS m.Steam 0 9 = b3; generalize inS m.Work 0 9 = b4
 generalize inS m.Watch 1 48 = b5; generalize inS m.Rest 1 24 = b6; generalize inS m.Wear 1 100 = b7; generalize inS m.Refit 1 48 = b8
 cases b1 <;> cases b2 <;> cases b3 <;> cases b4 <;> cases b5 <;> cases b6 <;> cases b7 <;> cases b8 <;> exact ok_some rfl
theorem p_table (hF : 1000 ≤ F) (hsn : a.Hours.length ≤ 4) : breaker_Area_table F a = some (tableS a) := by
 refine Go.KX.Ok.eq ?_
 unfold breaker_Area_table
 refine ok_upto (n := a.Hours.length) (fun i => rowS a.Hours.length i (a.Hours.getD i []) = true) (by omega) (fun i hi hb next hn => ?_) (fun hall next => brk_nlt (ok_some (all_range.2 hall).symm))
 have bad0 : rowS a.Hours.length i (a.Hours.getD i []) = false → false = tableS a := fun h => (range_no hi h).symm
 refine brk_lt hi (ok_chk ⟨by omega, by omega⟩ (ok_brk (fun hl => ok_some (bad0 ?_)) (fun hl => ?_)))
 ·have hl : ¬ (a.Hours.getD i []).length = a.Hours.length := fun e => by
   rw [show Int.toNat (i : Int) = i from Int.toNat_natCast i, e] at hl; simp at hl
  unfold rowS
  rw [decide_eq_false hl]; rfl
 ·have hl : (a.Hours.getD i []).length = a.Hours.length := by
   rw [show Int.toNat (i : Int) = i from Int.toNat_natCast i] at hl
   have := bne_eq_false_iff_eq.1 hl; omega
  have bad : ∀ k < a.Hours.length, cellOK a i k = false → false = tableS a := fun k hk hc => bad0 (by
   cases e : rowS a.Hours.length i (a.Hours.getD i []) with
   | false => rfl
   | true => rw [(rowS_iff.1 e).2 k hk] at hc; cases hc)
  simp only [Int.toNat_natCast, hl]
  refine ok_upto (n := a.Hours.length) (fun k => cellOK a i k = true) (by omega) (fun k hk hkb next2 hn2 => ?_) (fun hall next2 => brk_nlt ?_)
  ·refine brk_lt hk (ok_chk ⟨by omega, by omega⟩ ?_)
   simp only [Int.toNat_natCast]
   have hc : cellOK a i k = if i = k then decide ((a.Hours.getD i []).getD k 0 = 0) else inS ((a.Hours.getD i []).getD k 0) 1 24 := rfl
   by_cases he : i = k
   ·subst he
    rw [if_pos rfl] at hc
    have e1 : ((i : Int) == (i : Int)) = true := by simp
    have e2 : ((i : Int) != (i : Int)) = false := by simp
    rw [e1, e2]
    simp only [Bool.and_false, Bool.true_and, Bool.false_and, Bool.or_false, brk_false, bnd_so]
    refine ok_brk (fun hv => ok_some (bad i hk ?_)) (fun hv => ok_chk (inR1 (by omega)) (hn2 ?_))
    ·rw [hc, decide_eq_false_iff_not]; simpa using hv
    ·rw [hc, decide_eq_true_eq]; simpa using hv
   ·rw [if_neg he] at hc
    have e1 : ((i : Int) == (k : Int)) = false := by simp; omega
    have e2 : ((i : Int) != (k : Int)) = true := by simp; omega
    rw [e1, e2]
    simp only [Bool.false_and, Bool.not_false, Bool.true_and, Bool.false_or, brk_true, p_in, bnd_so]
    refine ok_brk (fun hv => ok_some (bad k hk ?_)) (fun hv => ok_chk (inR1 (by omega)) (hn2 ?_))
    ·rw [hc]; simpa using hv
    ·rw [hc]; simpa using hv
  ·exact ok_chk (inR1 (by omega)) (hn (rowS_iff.2 ⟨hl, hall⟩))
theorem p_Check (hF : 1000 ≤ F) : breaker_Check F m a = some (checkS m a) := by
 refine Go.KX.Ok.eq ?_
 unfold breaker_Check
 rw [p_right]
 simp only [p_in, bnd_so]
 rw [checkS_eq]
 cases hr : rightS m with
 | false => exact ok_some rfl
 | true =>
 rw [if_neg (by simp)]
 refine ok_brkF rfl ?_
 have e2 : decide ((a.Cases.length : Int) > 3) = !decide ((a.Cases.length : Int) ≤ 3) := by
  by_cases q : (a.Cases.length : Int) ≤ 3
  ·simp [q]
  ·simp [q]; omega
 have e1 : inS (a.Hours.length : Int) 1 4 = inS (sitesS a) 1 4 := rfl
 rw [e1]
 simp only [e2]
 cases hz : sizesS a with
 | false =>
  rw [if_pos rfl]
  unfold sizesS at hz
  revert hz
  generalize inS (sitesS a) 1 4 = b1; generalize inS (a.Press.length : Int) 1 60 = b2; generalize decide ((a.Cases.length : Int) ≤ 3) = b3
  intro hz
  cases b1 with
  | false => exact ok_some rfl
  | true =>
  cases b2 with
  | false => exact ok_some rfl
  | true =>
  cases b3 with
  | false => exact ok_some rfl
  | true => cases hz
 | true =>
  rw [if_neg (by simp)]
  unfold sizesS at hz
  simp only [Bool.and_eq_true, decide_eq_true_eq] at hz
  obtain ⟨⟨q1, q2⟩, q3⟩ := hz
  rw [q1, q2, decide_eq_true q3]
  simp only [brk_false, brk_true, bnd_so, Bool.not_true, Bool.or_false, Bool.not_false]
  rw [inS_iff] at q1 q2
  have hsn : a.Hours.length ≤ 4 := by unfold sitesS at q1; omega
  have hpn : a.Press.length ≤ 60 := by omega
  rw [p_table hF hsn]
  simp only [bnd_so]
  cases htab : tableS a with
  | false => exact ok_some (rest1 (.inl htab))
  | true =>
  cases hlim : inS a.Limit 0 60 with
  | false => exact ok_some (rest1 (.inr (.inl hlim)))
  | true =>
  simp only [brk_false, brk_true, bnd_so, Bool.not_true, Bool.or_false, Bool.not_false]
  refine ok_upto (n := a.Press.length) (fun i => inS (a.Press.getD i 0) 0 3 = true) (by omega) (fun i hi hb next hn => ?_) (fun hpr next => brk_nlt ?_)
  ·refine brk_lt hi (ok_chk ⟨by omega, by omega⟩ (ok_brk (fun hv => ok_some (rest1 (.inr (.inr (.inl (all_no (d := 0) hi (by simpa using hv))))))) (fun hv => ok_chk (inR1 (by omega)) (hn (by simpa using hv)))))
  ·have hpress : (a.Press.all fun p => inS p 0 3) = true := (all_list (d := 0)).2 hpr
   refine ok_upto (n := a.Cases.length) (fun i => caseOK a (a.Cases.getD i noCase) = true) (by omega) (fun i hi hb next hn => ?_) (fun hcs next => brk_nlt ?_)
   ·have hc : ∀ j : Nat, a.Cases.getD j (Case.mk 0 0 0 0 false) = a.Cases.getD j noCase := fun _ => rfl
    have es : ((a.Hours.length : Int) - 1) = sitesS a - 1 := rfl
    refine brk_lt hi (ok_chk ⟨by omega, by omega⟩ (ok_chk ⟨by omega, by omega⟩ (ok_chk (fun _ => ⟨by omega, by omega⟩) ?_)))
    simp only [hc, es, Int.toNat_natCast]
    have key : caseOK a (a.Cases.getD i noCase) = (inS (a.Cases.getD i noCase).Site 0 (sitesS a - 1) && inS (a.Cases.getD i noCase).To 0 (sitesS a - 1) && inS (a.Cases.getD i noCase).Cut 1 24 && inS (a.Cases.getD i noCase).Calm 0 3) := rfl
    have bad : caseOK a (a.Cases.getD i noCase) = false → (1 : Int) = restC a := fun h => rest1 (.inr (.inr (.inr (all_no (d := noCase) hi h))))
    rw [key] at bad hn
    revert bad hn
    generalize inS (a.Cases.getD i noCase).Site 0 (sitesS a - 1) = b1; generalize inS (a.Cases.getD i noCase).To 0 (sitesS a - 1) = b2; generalize inS (a.Cases.getD i noCase).Cut 1 24 = b3; generalize inS (a.Cases.getD i noCase).Calm 0 3 = b4
    intro hn bad
    cases b1 with
    | false => exact ok_some (bad rfl)
    | true =>
    cases b2 with
    | false => exact ok_some (bad rfl)
    | true =>
    cases b3 with
    | false => exact ok_some (bad rfl)
    | true =>
    cases b4 with
    | false => exact ok_some (bad rfl)
    | true => exact ok_chk (inR1 (by omega)) (hn rfl)
   ·have hcases : a.Cases.all (caseOK a) = true := (all_list (d := noCase)).2 hcs
    refine ok_some ?_
    unfold restC
    rw [htab, hlim, hpress, hcases]; rfl
theorem p_state (hF : 1000 ≤ F) (hcn : a.Cases.length ≤ 3) (hsn : a.Hours.length ≤ 4) : breaker_works_state F (m, a) s = some (stateS m a s) := by
 refine Go.KX.Ok.eq ?_
 unfold breaker_works_state
 simp only [p_in, bnd_so]
 have e : stateS m a s = (inS s.Hour 0 a.Limit && inS s.Site 0 (sitesS a - 1) && inS s.Fuel 0 m.Tank && inS s.Awake 0 m.Watch && inS s.Worn 0 m.Wear && restS a s.Cases s.Notch 3 0 (-1)) := by rw [rest_all]; rfl
 have es : ((a.Hours.length : Int) - 1) = sitesS a - 1 := rfl
 rw [e, es]
 have hIn : InR (sitesS a - 1) := ⟨by unfold sitesS; omega, by unfold sitesS; omega⟩
 cases b1 : inS s.Hour 0 a.Limit with
 | false => exact ok_some rfl
 | true =>
 refine ok_brkF rfl (ok_chk hIn ?_)
 cases b2 : inS s.Site 0 (sitesS a - 1) with
 | false => exact ok_some rfl
 | true =>
 refine ok_brkF rfl ?_
 cases b3 : inS s.Fuel 0 m.Tank with
 | false => exact ok_some rfl
 | true =>
 refine ok_brkF rfl ?_
 cases b4 : inS s.Awake 0 m.Watch with
 | false => exact ok_some rfl
 | true =>
 refine ok_brkF rfl ?_
 cases b5 : inS s.Worn 0 m.Wear with
 | false => exact ok_some rfl
 | true =>
 refine ok_brkF rfl ?_
 simp only [Bool.true_and]
 obtain ⟨tgt, ht⟩ : ∃ t, restS a s.Cases s.Notch 3 0 (-1) = t := ⟨_, rfl⟩
 rw [ht]
 refine ok_loop (fun x : Int × Int => 0 ≤ x.2 ∧ x.2 ≤ 3 ∧ restS a s.Cases s.Notch (3 - x.2.toNat) x.2.toNat x.1 = tgt) (fun x => 3 - x.2.toNat) ⟨by simp, by simp, ht⟩ (by simp; omega) ?_
 rintro ⟨n, i⟩ next ⟨i1, i2, i3⟩ hn
 simp only at i1 i2 i3 hn ⊢
 refine ok_brk (fun hc => ?_) (fun hc => ?_)
 ·have hc : i < 3 := of_decide_eq_true hc
  have hstep : restS a s.Cases s.Notch (3 - i.toNat) i.toNat n = (shipS a i.toNat (caseAt s.Cases i.toNat) && !(decide (caseAt s.Cases i.toNat = 2) && decide (n ≥ 0)) && restS a s.Cases s.Notch (3 - (i + 1).toNat) (i + 1).toNat (if caseAt s.Cases i.toNat = 2 then i else n)) := by
   rw [show 3 - i.toNat = (3 - (i + 1).toNat) + 1 by omega, restS, show i.toNat + 1 = (i + 1).toNat by omega, show ((i.toNat : Nat) : Int) = i by omega]
  rw [hstep] at i3
  have ev : [s.Cases.a0, s.Cases.a1, s.Cases.a2].getD i.toNat 0 = caseAt s.Cases i.toNat := rfl
  simp only [ev]
  generalize caseAt s.Cases i.toNat = v at i3
  have bad : shipS a i.toNat v = false ∨ (decide (v = 2) && decide (n ≥ 0)) = true → false = tgt := fun h => by
   rw [← i3]
   rcases h with h | h <;> simp only [h, Bool.false_and, Bool.not_true, Bool.and_false]
  have hnc : a.Cases.getD i.toNat (Case.mk 0 0 0 0 false) = a.Cases.getD i.toNat noCase := rfl
  simp only [hnc]
  have iff := shipS_iff (a := a) (n := i.toNat) (v := v)
  refine ok_join (by omega) (fun n' : Int => n' = (if v = 2 then i else n) ∧ shipS a i.toNat v = true ∧ (decide (v = 2) && decide (n ≥ 0)) = false) (fun n' hn' => ?_) (fun k hk => ?_)
  ·obtain ⟨rfl, h1, h2⟩ := hn'
   rw [h1, h2] at i3
   exact ok_chk ⟨by omega, by omega⟩ (hn _ ⟨by show 0 ≤ i + 1; omega, by show i + 1 ≤ 3; omega, i3⟩ (by show 3 - (i + 1).toNat < 3 - i.toNat; omega))
  ·have fin : shipS a i.toNat v = true → Go.KX.Ok (fun x => x = tgt) (brk (v == 2 && decide (n ≥ 0)) (some false) (brk (v == 2) (k i) (k n))) := fun hsh => by
    refine ok_brk (fun h4 => ok_some (bad (.inr ?_))) (fun h4 => ok_brk (fun h5 => hk _ ⟨?_, hsh, ?_⟩) (fun h5 => hk _ ⟨?_, hsh, ?_⟩))
    ·exact h4
    ·have h5 : v = 2 := by simpa using h5
     rw [if_pos h5]
    ·exact h4
    ·have h5 : v ≠ 2 := by simpa using h5
     rw [if_neg h5]
    ·exact h4
   refine ok_chk ⟨i1, hc⟩ (ok_brk (fun hv => hk _ ?_) (fun hv => ?_))
   ·have hv : v = 0 := by simpa using hv
    subst hv
    exact ⟨by simp, by rw [shipS_iff]; exact .inl rfl, by simp⟩
   ·have hv : v ≠ 0 := by simpa using hv
    refine ok_brk (fun hl => ok_some (bad (.inl ?_))) (fun hl => ?_)
    ·have hl : (a.Cases.length : Int) ≤ i := of_decide_eq_true hl
     cases e : shipS a i.toNat v with
     | false => rfl
     | true => rw [shipS_iff] at e; omega
    ·have hl : i < (a.Cases.length : Int) := by have := of_decide_eq_false hl; omega
     refine ok_brk (fun h1 => ok_some (bad (.inl ?_))) (fun h1 => ?_)
     ·cases e : shipS a i.toNat v with
      | false => rfl
      | true =>
       have h1 : inS v 1 3 = false := by simpa using h1
       have : inS v 1 3 = true := inS_iff.2 (by rw [iff] at e; omega)
       rw [h1] at this; cases this
     ·have h1 : inS v 1 3 = true := by simpa using h1
      rw [inS_iff] at h1
      refine ok_brk (fun h2 => ok_chk ⟨i1, hl⟩ (ok_brk (fun h3 => ok_some (bad (.inl ?_))) (fun h3 => fin ?_))) (fun h2 => fin ?_)
      ·have h2 : v ≠ 3 := by simpa using h2
       have h3 : (a.Cases.getD i.toNat noCase).Towed = false := by simpa using h3
       cases e : shipS a i.toNat v with
       | false => rfl
       | true =>
        rcases iff.1 e with e | ⟨_, _, e | e⟩
        ·omega
        ·omega
        ·rw [h3] at e; cases e
      ·have h3 : (a.Cases.getD i.toNat noCase).Towed = true := by simpa using h3
       exact iff.2 (.inr ⟨by omega, by omega, .inr h3⟩)
      ·have h2 : v = 3 := by simpa using h2
       exact iff.2 (.inr ⟨by omega, by omega, .inl h2⟩)
 ·have : i = 3 := by have := of_decide_eq_false hc; omega
  subst this
  refine ok_some ?_
  rw [← i3]
  rfl
end
end Go.Proofs.Sc
namespace Go.Proofs.Sc
open Go Go.KX
section
variable {F : Nat} {m : Machine} {a : Area} {s : State}
theorem p_press (hok : Fit m a) {h : Int} (h0 : 0 ≤ h) : breaker_works_press F (m, a) h = some (pressS a h) := by
 have hp := hok.pressN
 refine Go.KX.Ok.eq ?_
 unfold breaker_works_press
 have e : (if (a.Press.length : Int) - 1 < h then (a.Press.length : Int) - 1 else h) = min h ((a.Press.length : Int) - 1) := by split <;> omega
 simp only [e]
 exact ok_chk ⟨by omega, by omega⟩ (ok_chk ⟨by omega, by omega⟩ (ok_some rfl))
theorem p_calm (hF : 1000 ≤ F) (hok : Fit m a) {h n c : Int} (h0 : 0 ≤ h ∧ h ≤ 1000) (hn : 0 ≤ n ∧ n ≤ 100) : breaker_works_calm F (m, a) h n c = some (calmS a h n c) := by
 refine Go.KX.Ok.eq ?_
 unfold breaker_works_calm
 refine ok_loop (fun x : Int => h ≤ x ∧ x ≤ h + n ∧ ∀ i : Int, h ≤ i → i < x → pressS a i ≤ c) (fun x => (h + n - x).toNat) ⟨by omega, by omega, fun i h1 h2 => by omega⟩ (by omega) ?_
 rintro i next ⟨i1, i2, i3⟩ hnx
 refine ok_chk ⟨by omega, by omega⟩ (ok_brk (fun hc => ?_) (fun hc => ?_))
 ·have hc : i < h + n := of_decide_eq_true hc
  refine ok_bnde (p_press hok (by omega)) (ok_brk (fun hp => ok_some ?_) (fun hp => ok_chk ⟨by omega, by omega⟩ (hnx _ ⟨by omega, by omega, fun j h1 h2 => ?_⟩ (by omega))))
  ·have hp : pressS a i > c := of_decide_eq_true hp
   cases e : calmS a h n c with
   | false => rfl
   | true => have := calmS_iff.1 e i i1 hc; omega
  ·have hp := of_decide_eq_false hp
   by_cases e : j = i
   ·subst e; omega
   ·exact i3 j h1 (by omega)
 ·have hc : i = h + n := by have := of_decide_eq_false hc; omega
  subst hc
  exact ok_some (calmS_iff.2 i3).symm
theorem p_way (hok : Fit m a) (hs : StOk m a s) {n : Int} (hn : 0 ≤ n ∧ n ≤ sitesS a - 1) : breaker_works_way F (m, a) s n = some (wayS a s n) := by
 refine Go.KX.Ok.eq ?_
 unfold breaker_works_way
 have hsl := hs.site
 unfold sitesS at hn hsl
 have hr := hok.rows s.Site.toNat (by omega)
 have hb : 0 ≤ hourS a s.Site n ∧ hourS a s.Site n ≤ 24 := by
  by_cases e : n = s.Site
  ·have := hok.same s.Site.toNat (by omega)
   unfold hourS
   rw [e, this]; omega
  ·have := hok.way hs.site (by unfold sitesS; exact hn) e
   omega
 have hh : List.getD (a.Hours.getD s.Site.toNat []) n.toNat 0 = hourS a s.Site n := rfl
 simp only [hh, hr]
 unfold wayS
 refine ok_brk (fun h => ?_) (fun h => ?_)
 ·rw [if_pos (of_decide_eq_true h)]
  exact ok_chk ⟨by omega, by omega⟩ (ok_chk ⟨by omega, by omega⟩ (ok_chk ⟨by omega, by omega⟩ (ok_some rfl)))
 ·rw [if_neg (of_decide_eq_false h)]
  exact ok_chk ⟨by omega, by omega⟩ (ok_chk ⟨by omega, by omega⟩ (ok_some rfl))
theorem p_site (hok : Fit m a) {n : Int} : breaker_works_site F (m, a) n = some (inS n 0 (sitesS a - 1)) := by
 have := hok.sites
 unfold sitesS at this
 unfold breaker_works_site
 rw [chk_pos (show InR _ from ⟨by simp only; omega, by simp only; omega⟩)]
 rfl
theorem p_ship (hok : Fit m a) {n : Int} : breaker_works_ship F (m, a) n = some (inS n 0 ((a.Cases.length : Int) - 1)) := by
 have := hok.casesN
 unfold breaker_works_ship
 rw [chk_pos (show InR _ from ⟨by simp only; omega, by simp only; omega⟩)]
 rfl
theorem p_goes : breaker_works_goes F (m, a) s = some (if s.Notch ≥ 0 then m.Work else m.Steam) := by
 unfold breaker_works_goes
 by_cases h : s.Notch ≥ 0
 ·rw [if_pos h, decide_eq_true h]; rfl
 ·rw [if_neg h, decide_eq_false h]; rfl
theorem p_r4 (hF : 1000 ≤ F) (hok : Fit m a) (hs : StOk m a s) {n : Int} (hn : 0 ≤ n ∧ n ≤ sitesS a - 1) : breaker_rules_4 F (m, a) s n = some (needsS a s 1 n) := by
 refine Go.KX.Ok.eq ?_
 unfold breaker_rules_4
 have e0 : needsS a s 1 n = (decide (n ≠ s.Site) && (decide (s.Notch < 0) || calmS a s.Hour (wayS a s n) 2)) := if_pos rfl
 have e1 : (n != s.Site) = decide (n ≠ s.Site) := by by_cases h : n = s.Site <;> simp [h]
 rw [e0, e1]
 have hl := hok.limit; have hh := hs.hour
 by_cases h : n = s.Site
 ·rw [decide_eq_false (not_not_intro h)]; exact ok_some rfl
 rw [decide_eq_true h]
 by_cases h2 : s.Notch < 0
 ·rw [decide_eq_true h2]; exact ok_some rfl
 rw [decide_eq_false h2]
 have hw : 0 ≤ wayS a s n ∧ wayS a s n ≤ 100 := by
  have := hok.way hs.site hn h
  unfold wayS; split <;> omega
 simp only [Bool.not_false, Bool.and_true, Bool.true_and, brk_true, Bool.false_or]
 exact ok_bnde (p_way hok hs hn) (ok_bnde (p_calm hF hok (by omega) hw) (ok_some rfl))
theorem p_r6 (hF : 1000 ≤ F) (hok : Fit m a) (hs : StOk m a s) {n : Int} (hn : 0 ≤ n ∧ n < (a.Cases.length : Int)) : breaker_rules_6 F (m, a) s n = some (needsS a s 2 n) := by
 refine Go.KX.Ok.eq ?_
 unfold breaker_rules_6
 have hcn := hok.casesN; have hc := hok.case hn.1 hn.2
 have hl := hok.limit; have hh := hs.hour
 have e0 : needsS a s 2 n = (decide (getC s.Cases n = 0) && decide ((caseS a n).Site = s.Site) && calmS a s.Hour (caseS a n).Cut (caseS a n).Calm) := rfl
 have g1 : [s.Cases.a0, s.Cases.a1, s.Cases.a2].getD n.toNat 0 = getC s.Cases n := rfl
 have g2 : a.Cases.getD n.toNat (Case.mk 0 0 0 0 false) = caseS a n := rfl
 simp only [g1, g2]
 have e1 : (getC s.Cases n == 0) = decide (getC s.Cases n = 0) := by by_cases h : getC s.Cases n = 0 <;> simp [h]
 have e2 : ((caseS a n).Site == s.Site) = decide ((caseS a n).Site = s.Site) := by by_cases h : (caseS a n).Site = s.Site <;> simp [h]
 rw [e0, e1, e2]
 refine ok_chk hn (ok_chk ⟨hn.1, by omega⟩ ?_)
 by_cases h : getC s.Cases n = 0
 ·rw [decide_eq_true h]
  by_cases h2 : (caseS a n).Site = s.Site
  ·rw [decide_eq_true h2]
   exact ok_bnde (b := calmS a s.Hour (caseS a n).Cut (caseS a n).Calm) (p_calm hF hok (by omega) (by omega)) (ok_some rfl)
  ·rw [decide_eq_false h2]; exact ok_some rfl
 ·rw [decide_eq_false h]; exact ok_some rfl
theorem p_r9 (hF : 1000 ≤ F) (hok : Fit m a) (hs : StOk m a s) {n : Int} (hn : 0 ≤ n ∧ n < (a.Cases.length : Int)) : breaker_rules_9 F (m, a) s n = some (needsS a s 3 n) := by
 refine Go.KX.Ok.eq ?_
 unfold breaker_rules_9
 have hcn := hok.casesN
 have hl := hok.limit; have hh := hs.hour
 have e0 : needsS a s 3 n = (decide (getC s.Cases n = 1) && decide ((caseS a n).Site = s.Site) && calmS a s.Hour 1 1) := rfl
 have g1 : [s.Cases.a0, s.Cases.a1, s.Cases.a2].getD n.toNat 0 = getC s.Cases n := rfl
 have g2 : a.Cases.getD n.toNat (Case.mk 0 0 0 0 false) = caseS a n := rfl
 simp only [g1, g2]
 have e1 : (getC s.Cases n == 1) = decide (getC s.Cases n = 1) := by by_cases h : getC s.Cases n = 1 <;> simp [h]
 have e2 : ((caseS a n).Site == s.Site) = decide ((caseS a n).Site = s.Site) := by by_cases h : (caseS a n).Site = s.Site <;> simp [h]
 rw [e0, e1, e2]
 refine ok_chk ⟨hn.1, by omega⟩ ?_
 by_cases h : getC s.Cases n = 1
 ·rw [decide_eq_true h]
  refine ok_brkT rfl (ok_chk hn ?_)
  by_cases h2 : (caseS a n).Site = s.Site
  ·rw [decide_eq_true h2]
   exact ok_brkT rfl (ok_bnde (b := calmS a s.Hour 1 1) (p_calm hF hok (by omega) (by omega)) (ok_some rfl))
  ·rw [decide_eq_false h2]; exact ok_some rfl
 ·rw [decide_eq_false h]; exact ok_some rfl
theorem p_r11 (hs : StOk m a s) {n : Int} : breaker_rules_11 F (m, a) s n = some (needsS a s 4 n) := by
 refine Go.KX.Ok.eq ?_
 unfold breaker_rules_11
 have e0 : needsS a s 4 n = (decide (s.Notch ≥ 0) && decide ((caseS a s.Notch).To = s.Site)) := rfl
 have g2 : a.Cases.getD s.Notch.toNat (Case.mk 0 0 0 0 false) = caseS a s.Notch := rfl
 simp only [g2]
 have e2 : ((caseS a s.Notch).To == s.Site) = decide ((caseS a s.Notch).To = s.Site) := by by_cases h : (caseS a s.Notch).To = s.Site <;> simp [h]
 rw [e0, e2]
 by_cases h : s.Notch ≥ 0
 ·rw [decide_eq_true h]
  have := notch_at hs h
  exact ok_brkT rfl (ok_chk ⟨h, this.1⟩ (ok_some rfl))
 ·rw [decide_eq_false h]; exact ok_some rfl
theorem hours_bd {k n : Int} (hok : Fit m a) (hs : StOk m a s) (hnum : numS a k n = true) (hneeds : needsS a s k n = true) : 1 ≤ hoursS m a s k n ∧ hoursS m a s k n ≤ 48 := by
 unfold hoursS
 split
 ·rename_i e
  subst e
  have hn := num_site hnum
  unfold needsS at hneeds
  rw [if_pos rfl, Bool.and_eq_true, decide_eq_true_eq] at hneeds
  have := hok.way hs.site hn hneeds.1
  unfold wayS
  split <;> omega
 split
 ·rename_i e
  have hn := num_case (.inl e) hnum
  have := (hok.case hn.1 hn.2).2.2.1
  omega
 split
 ·have := hok.rest; omega
 split
 ·omega
 split
 ·have := hok.refit; omega
 ·omega
theorem tail_ok {k n h hb aw w : Int} {R : Option (State × Int)} (e1 : h = hoursS m a s k n) (e2 : hb = hoursS m a s k n * burnS m s k) (e3 : aw = if sleepsS k then 0 else s.Awake + hoursS m a s k n)
  (e4 : w = if worksS s k then s.Worn + hoursS m a s k n else s.Worn) (hR : Go.KX.Ok (fun r => r = (thenS m a k n (nextS m a s k n), (0 : Int))) R) :
  Go.KX.Ok (fun r => r = tailS m a s k n) (brk (decide (s.Hour + h > a.Limit)) (some (s, 12)) (brk (decide (s.Fuel - hb < 0)) (some (s, 71)) (brk (decide (aw > m.Watch)) (some (s, 6)) (brk (decide (w > m.Wear)) (some (s, 6)) R)))) := by
 unfold tailS
 have n1 : (nextS m a s k n).Hour = s.Hour + h := by rw [e1]; rfl
 have n2 : (nextS m a s k n).Fuel = s.Fuel - hb := by rw [e2]; rfl
 have n3 : (nextS m a s k n).Awake = aw := by rw [e3]; rfl
 have n4 : (nextS m a s k n).Worn = w := by rw [e4]; rfl
 rw [n1, n2, n3, n4]
 refine ok_brk (fun q => ok_some ?_) (fun q => ?_)
 ·rw [if_pos (of_decide_eq_true q)]
 rw [if_neg (of_decide_eq_false q)]
 refine ok_brk (fun q => ok_some ?_) (fun q => ?_)
 ·rw [if_pos (of_decide_eq_true q)]
 rw [if_neg (of_decide_eq_false q)]
 refine ok_brk (fun q => ok_some ?_) (fun q => ?_)
 ·rw [if_pos (.inl (of_decide_eq_true q))]
 have q1 := of_decide_eq_false q
 refine ok_brk (fun q => ok_some ?_) (fun q => ?_)
 ·rw [if_pos (.inr (of_decide_eq_true q))]
 have q2 := of_decide_eq_false q
 rw [if_neg (fun h => h.elim q1 q2)]
 exact hR
theorem p_do (hF : 1000 ≤ F) (hok : Fit m a) (hs : StOk m a s) {x : Action} : breaker_works_do F (m, a) s x = some (doS m a s x) := by
 refine Go.KX.Ok.eq ?_
 obtain ⟨k, n⟩ := x
 unfold breaker_works_do
 simp only [p_site hok, p_ship hok, p_goes, bnd_so, breaker_works_zero, breaker_towing, breaker_always, breaker_never]
 have i1 := hs.hour; have i2 := hs.site; have i3 := hs.fuel; have i4 := hs.awake; have i5 := hs.worn
 have ht := hok.tank; have hw := hok.watch; have hwr := hok.wear; have hlim := hok.limit; have hcn := hok.casesN
 have wk := hok.work; have wi := hok.idle; have wst := hok.steam; have wrest := hok.rest; have wrefit := hok.refit
 have bad1 : inS k 1 8 = true → numS a k n = false → (s, (1 : Int)) = doS m a s ⟨k, n⟩ := fun h1 h2 => by
  unfold doS
  rw [if_neg (by simp [h1]), if_pos h2]
 have no : inS k 1 8 = true → numS a k n = true → (emptyS k = true ∧ s.Notch ≥ 0) ∨ needsS a s k n = false → (s, (70 : Int)) = doS m a s ⟨k, n⟩ := fun hk hnu h => (doS_70 (x := ⟨k, n⟩) hk hnu h).symm
 have tl : inS k 1 8 = true → numS a k n = true → (emptyS k = true → s.Notch < 0) → needsS a s k n = true → doS m a s ⟨k, n⟩ = tailS m a s k n := fun h1 h2 h3 h4 => doS_tail (x := ⟨k, n⟩) h1 h2 h3 h4
 have bd : numS a k n = true → needsS a s k n = true → (1 ≤ hoursS m a s k n ∧ hoursS m a s k n ≤ 48) ∧ 0 ≤ hoursS m a s k n * burnS m s k ∧ hoursS m a s k n * burnS m s k ≤ 432 := fun h1 h2 => ⟨hours_bd hok hs h1 h2, mul9 (hours_bd hok hs h1 h2) (burn_pos hok)⟩
 have hset : ∀ (i v : Int), (⟨if i = ((0 : Nat) : Int) then v else s.Cases.a0, if i = ((Nat.succ 0 : Nat) : Int) then v else s.Cases.a1, if i = ((Nat.succ (Nat.succ 0) : Nat) : Int) then v else s.Cases.a2⟩ : A3ofInt) = setC s.Cases i v := fun _ _ => rfl
 refine ok_brk (fun hk => ?_) (fun hk => ?_)
 ·have hk : k = 1 := of_decide_eq_true hk
  subst hk
  have hnum : numS a 1 n = inS n 0 (sitesS a - 1) := rfl
  rw [← hnum]
  refine ok_brk (fun h => ok_some (bad1 rfl (by simpa using h))) (fun h => ?_)
  have hnu : numS a 1 n = true := by simpa using h
  have hn := num_site hnu
  refine ok_bnde (p_r4 hF hok hs hn) (ok_brk (fun h => ok_some (no rfl hnu (.inr (by simpa using h)))) (fun h => ?_))
  have hneeds : needsS a s 1 n = true := by simpa using h
  rw [tl rfl hnu (fun h => by simp [emptyS] at h) hneeds]
  obtain ⟨b1, b2⟩ := bd hnu hneeds
  have eh : hoursS m a s 1 n = wayS a s n := rfl
  have eb : burnS m s 1 = if s.Notch ≥ 0 then m.Work else m.Steam := rfl
  rw [eh, eb] at b2
  rw [eh] at b1
  refine ok_bnde (p_way hok hs hn) (ok_chk ⟨by omega, by omega⟩ (ok_chk ⟨by omega, by omega⟩ (ok_chk ⟨by omega, by omega⟩ (ok_chk ⟨by omega, by omega⟩ ?_))))
  refine ok_join (by omega) (fun w => w = if worksS s 1 then s.Worn + hoursS m a s 1 n else s.Worn) (fun w hw => tail_ok rfl rfl rfl hw (ok_some ?_)) (fun kk hkk => ok_brk (fun h => ok_chk ⟨by omega, by omega⟩ (hkk _ ?_)) (fun h => hkk _ ?_))
  ·rw [hw]; rfl
  ·have : worksS s 1 = true := h
   rw [this, eh]; rfl
  ·have : worksS s 1 = false := h
   rw [this]; rfl
 refine ok_brk (fun hk2 => ?_) (fun hk2 => ?_)
 ·have hk : k = 2 := of_decide_eq_true hk2
  subst hk
  have hnum : numS a 2 n = inS n 0 ((a.Cases.length : Int) - 1) := rfl
  rw [← hnum]
  refine ok_brk (fun h => ok_some (bad1 rfl (by simpa using h))) (fun h => ?_)
  have hnu : numS a 2 n = true := by simpa using h
  have hn := num_case (.inl rfl) hnu
  have hc := hok.case hn.1 hn.2
  refine ok_bnd (fun b => s.Notch < 0 → b = needsS a s 2 n) ?_ fun b hb => ?_
  ·refine ok_brk (fun h => ?_) (fun h => ok_some fun h' => ?_)
   ·rw [p_r6 hF hok hs hn]; exact ok_some fun _ => rfl
   ·simp at h; omega
  refine ok_brk (fun h => ok_some (no rfl hnu ?_)) (fun h => ?_)
  ·by_cases hno : s.Notch ≥ 0
   ·exact .inl ⟨by decide, hno⟩
   ·right
    rw [← hb (by omega)]
    have : decide (s.Notch ≥ 0) = false := decide_eq_false hno
    rw [this] at h
    simpa using h
  simp only [Bool.or_eq_false_iff, decide_eq_false_iff_not, Bool.not_eq_false'] at h
  obtain ⟨hno, hb1⟩ := h
  have hneeds : needsS a s 2 n = true := by rw [← hb (by omega)]; exact hb1
  rw [tl rfl hnu (fun _ => by omega) hneeds]
  obtain ⟨b1, b2⟩ := bd hnu hneeds
  have eh : hoursS m a s 2 n = (caseS a n).Cut := rfl
  have eb : burnS m s 2 = m.Work := rfl
  rw [eh, eb] at b2
  rw [eh] at b1
  have hcs : a.Cases.getD n.toNat (Case.mk 0 0 0 0 false) = caseS a n := rfl
  simp only [hcs]
  refine ok_chk hn (ok_chk ⟨by omega, by omega⟩ (ok_chk ⟨by omega, by omega⟩ (ok_chk ⟨by omega, by omega⟩ (ok_chk ⟨by omega, by omega⟩ ?_))))
  refine ok_join (by omega) (fun w => w = if worksS s 2 then s.Worn + hoursS m a s 2 n else s.Worn) (fun w hw => tail_ok rfl rfl rfl hw ?_) (fun kk hkk => ok_brkT rfl (ok_chk ⟨by omega, by omega⟩ (hkk _ rfl)))
  refine ok_join (by omega) (fun t : Int × Int × Int => (⟨t.2.2, t.2.1, t.1⟩ : A3ofInt) = setC s.Cases n (if (caseS a n).Towed then 1 else 3)) (fun t ht => ok_some ?_) (fun k2 hk2 => ok_chk ⟨hn.1, by omega⟩ (ok_chk hn (ok_brk (fun h => ok_chk ⟨hn.1, by omega⟩ (hk2 _ ?_)) (fun h => hk2 _ ?_))))
  ·rw [ht, hw]; rfl
  ·rw [h]
   have e0 : ∀ (i w : Int), (if n = i then (1 : Int) else if n = i then 3 else w) = (if n = i then 1 else w) := fun i w => by split <;> rfl
   simp only [e0]
   rfl
  ·rw [h]; rfl
 refine ok_brk (fun hk3 => ?_) (fun hk3 => ?_)
 ·have hk : k = 3 := of_decide_eq_true hk3
  subst hk
  have hnum : numS a 3 n = inS n 0 ((a.Cases.length : Int) - 1) := rfl
  rw [← hnum]
  refine ok_brk (fun h => ok_some (bad1 rfl (by simpa using h))) (fun h => ?_)
  have hnu : numS a 3 n = true := by simpa using h
  have hn := num_case (.inr rfl) hnu
  refine ok_bnd (fun b => s.Notch < 0 → b = needsS a s 3 n) ?_ fun b hb => ?_
  ·refine ok_brk (fun h => ?_) (fun h => ok_some fun h' => ?_)
   ·rw [p_r9 hF hok hs hn]; exact ok_some fun _ => rfl
   ·simp at h; omega
  refine ok_brk (fun h => ok_some (no rfl hnu ?_)) (fun h => ?_)
  ·by_cases hno : s.Notch ≥ 0
   ·exact .inl ⟨by decide, hno⟩
   ·right
    rw [← hb (by omega)]
    have : decide (s.Notch ≥ 0) = false := decide_eq_false hno
    rw [this] at h
    simpa using h
  simp only [Bool.or_eq_false_iff, decide_eq_false_iff_not, Bool.not_eq_false'] at h
  obtain ⟨hno, hb1⟩ := h
  have hneeds : needsS a s 3 n = true := by rw [← hb (by omega)]; exact hb1
  rw [tl rfl hnu (fun _ => by omega) hneeds]
  refine ok_chk ⟨by omega, by omega⟩ (ok_chk ⟨by omega, by omega⟩ (ok_chk ⟨by omega, by omega⟩ (ok_chk ⟨by omega, by omega⟩ ?_)))
  exact ok_join (by omega) (fun w => w = if worksS s 3 then s.Worn + hoursS m a s 3 n else s.Worn) (fun w hw => tail_ok rfl rfl rfl hw (ok_chk ⟨hn.1, by omega⟩ (ok_some (by rw [hw]; rfl)))) (fun kk hkk => ok_brkT rfl (ok_chk ⟨by omega, by omega⟩ (hkk _ rfl)))
 refine ok_brk (fun hk4 => ?_) (fun hk4 => ?_)
 ·have hk : k = 4 := of_decide_eq_true hk4
  subst hk
  have hnum : (n == 0) = numS a 4 n := by
   show (n == 0) = decide (n = 0)
   by_cases h : n = 0 <;> simp [h]
  rw [hnum]
  refine ok_brk (fun h => ok_some (bad1 rfl (by simpa using h))) (fun h => ?_)
  have hnu : numS a 4 n = true := by simpa using h
  refine ok_bnde (p_r11 hs) (ok_brk (fun h => ok_some (no rfl hnu (.inr (by simpa using h)))) (fun h => ?_))
  have hneeds : needsS a s 4 n = true := by simpa using h
  have hno : s.Notch ≥ 0 := by
   have h' := hneeds
   unfold needsS at h'
   rw [if_neg (by omega), if_neg (by omega), if_neg (by omega), if_pos rfl] at h'
   simp only [Bool.and_eq_true, decide_eq_true_eq] at h'
   exact h'.1
  have hna := notch_at hs hno
  rw [tl rfl hnu (fun h => by simp [emptyS] at h) hneeds]
  refine ok_chk ⟨by omega, by omega⟩ (ok_chk ⟨by omega, by omega⟩ (ok_chk ⟨by omega, by omega⟩ (ok_chk ⟨by omega, by omega⟩ ?_)))
  exact ok_join (by omega) (fun w => w = if worksS s 4 then s.Worn + hoursS m a s 4 n else s.Worn) (fun w hw => tail_ok rfl rfl rfl hw (ok_chk ⟨by omega, by omega⟩ (ok_some (by rw [hw]; rfl)))) (fun kk hkk => ok_brkF rfl (hkk _ rfl))
 refine ok_brk (fun hk5 => ?_) (fun hk5 => ?_)
 ·have hk : k = 5 := of_decide_eq_true hk5
  subst hk
  have hnum : (n == 0) = numS a 5 n := by
   show (n == 0) = decide (n = 0)
   by_cases h : n = 0 <;> simp [h]
  rw [hnum]
  refine ok_brk (fun h => ok_some (bad1 rfl (by simpa using h))) (fun h => ?_)
  have hnu : numS a 5 n = true := by simpa using h
  rw [tl rfl hnu (fun h => by simp [emptyS] at h) rfl]
  refine ok_chk ⟨by omega, by omega⟩ (ok_chk ⟨by omega, by omega⟩ (ok_chk ⟨by omega, by omega⟩ (ok_chk ⟨by omega, by omega⟩ ?_)))
  exact ok_join (by omega) (fun w => w = if worksS s 5 then s.Worn + hoursS m a s 5 n else s.Worn) (fun w hw => tail_ok rfl rfl rfl hw (ok_some (by rw [hw]; rfl))) (fun kk hkk => ok_brkF rfl (hkk _ rfl))
 refine ok_brk (fun hk6 => ?_) (fun hk6 => ?_)
 ·have hk : k = 6 := of_decide_eq_true hk6
  subst hk
  have hnum : (n == 0) = numS a 6 n := by
   show (n == 0) = decide (n = 0)
   by_cases h : n = 0 <;> simp [h]
  rw [hnum]
  refine ok_brk (fun h => ok_some (bad1 rfl (by simpa using h))) (fun h => ?_)
  have hnu : numS a 6 n = true := by simpa using h
  refine ok_brk (fun h => ok_some (no rfl hnu (.inl ⟨by decide, of_decide_eq_true h⟩))) (fun h => ?_)
  have hno := of_decide_eq_false h
  rw [tl rfl hnu (fun _ => by omega) rfl]
  obtain ⟨b1, b2⟩ := bd hnu rfl
  have eh : hoursS m a s 6 n = m.Rest := rfl
  have eb : burnS m s 6 = m.Idle := rfl
  rw [eh, eb] at b2
  refine ok_chk ⟨by omega, by omega⟩ (ok_chk ⟨by omega, by omega⟩ (ok_chk ⟨by omega, by omega⟩ (ok_chk ⟨by omega, by omega⟩ ?_)))
  exact ok_join (by omega) (fun w => w = if worksS s 6 then s.Worn + hoursS m a s 6 n else s.Worn) (fun w hw => tail_ok rfl rfl rfl hw (ok_some (by rw [hw]; rfl))) (fun kk hkk => ok_brkF rfl (hkk _ rfl))
 refine ok_brk (fun hk7 => ?_) (fun hk7 => ?_)
 ·have hk : k = 7 := of_decide_eq_true hk7
  subst hk
  have hnum : (n == 0) = numS a 7 n := by
   show (n == 0) = decide (n = 0)
   by_cases h : n = 0 <;> simp [h]
  rw [hnum]
  refine ok_brk (fun h => ok_some (bad1 rfl (by simpa using h))) (fun h => ?_)
  have hnu : numS a 7 n = true := by simpa using h
  refine ok_brk (fun h => ok_some (no rfl hnu (.inl ⟨by decide, of_decide_eq_true h⟩))) (fun h => ?_)
  have hno := of_decide_eq_false h
  have nd : needsS a s 7 n = decide (s.Site = 0) := rfl
  refine ok_brk (fun h => ok_some (no rfl hnu (.inr ?_))) (fun h => ?_)
  ·rw [nd]; simpa using h
  have hneeds : needsS a s 7 n = true := by rw [nd]; simpa using h
  rw [tl rfl hnu (fun _ => by omega) hneeds]
  have e0 : IntKind.i64.wrap ((2 : Int) * 0) = 0 := by decide
  rw [e0]
  refine ok_chk ⟨by omega, by omega⟩ (ok_chk ⟨by omega, by omega⟩ (ok_chk ⟨by omega, by omega⟩ ?_))
  exact ok_join (by omega) (fun w => w = if worksS s 7 then s.Worn + hoursS m a s 7 n else s.Worn) (fun w hw => tail_ok rfl rfl rfl hw (ok_some (by rw [hw]; rfl))) (fun kk hkk => ok_brkF rfl (hkk _ rfl))
 refine ok_brk (fun hk8 => ?_) (fun hk8 => ok_some ?_)
 ·have hk : k = 8 := of_decide_eq_true hk8
  subst hk
  have hnum : (n == 0) = numS a 8 n := by
   show (n == 0) = decide (n = 0)
   by_cases h : n = 0 <;> simp [h]
  rw [hnum]
  refine ok_brk (fun h => ok_some (bad1 rfl (by simpa using h))) (fun h => ?_)
  have hnu : numS a 8 n = true := by simpa using h
  refine ok_brk (fun h => ok_some (no rfl hnu (.inl ⟨by decide, of_decide_eq_true h⟩))) (fun h => ?_)
  have hno := of_decide_eq_false h
  have nd : needsS a s 8 n = decide (s.Site = 0) := rfl
  refine ok_brk (fun h => ok_some (no rfl hnu (.inr ?_))) (fun h => ?_)
  ·rw [nd]; simpa using h
  have hneeds : needsS a s 8 n = true := by rw [nd]; simpa using h
  rw [tl rfl hnu (fun _ => by omega) hneeds]
  have e0 : m.Refit * 0 = 0 := Int.mul_zero _
  refine ok_chk ⟨by omega, by omega⟩ (ok_chk ⟨by omega, by omega⟩ (ok_chk ⟨by omega, by omega⟩ (ok_chk ⟨by omega, by omega⟩ ?_)))
  exact ok_join (by omega) (fun w => w = if worksS s 8 then s.Worn + hoursS m a s 8 n else s.Worn) (fun w hw => tail_ok rfl rfl rfl hw (ok_some rfl)) (fun kk hkk => ok_brkF rfl (hkk _ rfl))
 ·have h1 := of_decide_eq_false hk; have h2 := of_decide_eq_false hk2; have h3 := of_decide_eq_false hk3; have h4 := of_decide_eq_false hk4
  have h5 := of_decide_eq_false hk5; have h6 := of_decide_eq_false hk6; have h7 := of_decide_eq_false hk7; have h8 := of_decide_eq_false hk8
  unfold doS
  have : inS k 1 8 = false := by
   cases e : inS k 1 8 with
   | false => rfl
   | true => rw [inS_iff] at e; omega
  rw [if_pos this]
end
end Go.Proofs.Sc
namespace Go.Proofs.Sc
open Go Go.KX
def zeroS : State := ⟨0, 0, 0, 0, 0, 0, ⟨0, 0, 0⟩⟩
def noAct : Action := ⟨0, 0⟩
def beginS (m : Machine) (a : Area) : State × Int := if checkS m a ≠ 0 then (zeroS, checkS m a) else (⟨0, 0, m.Tank, 0, 0, -1, ⟨0, 0, 0⟩⟩, 0)
def DoS (m : Machine) (a : Area) (s : State) (x : Action) : State × Int :=
 if begunS m a s ≠ 0 then (zeroS, begunS m a s) else if (doS m a s x).2 ≠ 0 then (zeroS, (doS m a s x).2) else doS m a s x
section
variable {F : Nat} {m : Machine} {a : Area} {s : State} {α : Type} {post : α → Prop}
theorem start1 (hF : 1000 ≤ F) {err : Int → Option α} {rest : Option α} (he : ∀ e, e ≠ 0 → begunS m a s = e → Go.KX.Ok post (err e)) (hr : begunS m a s = 0 → Fit m a → StOk m a s → Go.KX.Ok post rest) :
  Go.KX.Ok post (bnd (breaker_Check F m a) fun x => brk (x != 0) (brk (x != 0) (err x) none) (loopC (fun (x1 : Int) (x2 : Int → Option α) => brk (decide (x1 < (([s] : List State).length : Int))) (chk (0 ≤ x1 ∧ x1 < (([s] : List State).length : Int)) (bnd (breaker_works_state F (m, a) (([s] : List State).getD x1.toNat zeroS)) fun x3 => brk (!x3) (err 9) (chk (InR (x1 + 1)) (x2 (x1 + 1))))) rest) F 0)) := by
 refine ok_bnde (p_Check hF) (ok_brk (fun h => ?_) (fun h => ?_))
 ·have h' : checkS m a ≠ 0 := by simpa using h
  exact ok_brkT h (he _ h' (by unfold begunS; rw [if_pos h']))
 ·have h' : checkS m a = 0 := by simpa using h
  have hf := ok_of h'
  have h1 := hf.casesN; have h2 := hf.sites; unfold sitesS at h2
  refine ok_upto (n := 1) (fun i => stateS m a s = true) (by omega) (fun i hi _ next hn => ?_) (fun hall next => ok_brkF (by simp) (hr ?_ hf (stateS_iff.1 (hall 0 (by omega)))))
  ·obtain rfl : i = 0 := by omega
   refine ok_brkT (by simp) (ok_chk (by simp) (ok_bnde (p_state hF h1 (by omega)) (ok_brk (fun hs => he 9 (by omega) ?_) (fun hs => ok_chk (by decide) (hn ?_)))))
   ·have hs : stateS m a s = false := by simpa using hs
    unfold begunS
    rw [if_neg (by simp [h']), if_pos hs]
   ·simpa using hs
  ·have := hall 0 (by omega)
   unfold begunS
   rw [if_neg (by simp [h']), if_neg (by simp [this])]
theorem p_Begin (hF : 1000 ≤ F) : breaker_Begin F m a = some (beginS m a) := by
 refine Go.KX.Ok.eq ?_
 unfold breaker_Begin beginS
 refine ok_bnde (p_Check hF) (ok_brk (fun h => ?_) (fun h => ?_))
 ·have h' : checkS m a ≠ 0 := by simpa using h
  rw [if_pos h']
  exact ok_brkT h (ok_some rfl)
 ·have h' : checkS m a = 0 := by simpa using h
  rw [if_neg (by simp [h'])]
  exact ok_upto (n := 0) (fun _ => True) (by omega) (fun i hi => by omega) (fun _ next => ok_brkF (by simp) (ok_some rfl))
theorem p_Do (hF : 1000 ≤ F) {x : Action} : breaker_Do F m a s x = some (DoS m a s x) := by
 refine Go.KX.Ok.eq ?_
 unfold breaker_Do DoS
 refine start1 (err := fun e => some (zeroS, e)) hF (fun e h1 h2 => ok_some ?_) (fun h0 hf hs => ?_)
 ·rw [if_pos (by rw [h2]; exact h1), h2]
 ·rw [if_neg (by simp [h0])]
  refine ok_bnde (p_do hF hf hs) (ok_brk (fun h => ok_some ?_) (fun h => ok_some ?_))
  ·rw [if_pos (by simpa using h)]; rfl
  ·have h : (doS m a s x).2 = 0 := by simpa using h
   rw [if_neg (by simp [h]), ← h]
theorem beginS_ok (h : checkS m a = 0) : begunS m a ⟨0, 0, m.Tank, 0, 0, -1, ⟨0, 0, 0⟩⟩ = 0 := by
 have hf := ok_of h
 unfold begunS
 rw [if_neg (by simp [h]), if_neg]
 rw [Bool.not_eq_false, stateS_iff]
 have h1 := hf.limit; have h2 := hf.sites; have h3 := hf.tank; have h4 := hf.watch; have h5 := hf.wear
 exact ⟨by show 0 ≤ (0 : Int) ∧ (0 : Int) ≤ a.Limit; omega, by show 0 ≤ (0 : Int) ∧ (0 : Int) ≤ sitesS a - 1; omega, by show 0 ≤ m.Tank ∧ m.Tank ≤ m.Tank; omega, by show 0 ≤ (0 : Int) ∧ (0 : Int) ≤ m.Watch; omega, by show 0 ≤ (0 : Int) ∧ (0 : Int) ≤ m.Wear; omega, rfl, rfl, rfl, rfl, rfl⟩
abbrev StT := Int × Int × Int × Int × Int × Int × Int × Int × Int
end
end Go.Proofs.Sc
namespace Go.Proofs.Sc
open Go Go.KX
section
variable {α β : Type} {post : α → Prop}
theorem ok_acc {F n : Nat} (inv : Nat → β → Prop) {body : Int × β → (Int × β → Option α) → Option α} (lo : Int) {acc0 : β} (hF : n < F) (h0 : inv 0 acc0)
  (h : ∀ i : Nat, i < n → ∀ acc (next : Int × β → Option α), inv i acc → (∀ acc', inv (i + 1) acc' → Go.KX.Ok post (next (lo + i + 1, acc'))) → Go.KX.Ok post (body (lo + i, acc) next))
  (he : ∀ acc (next : Int × β → Option α), inv n acc → Go.KX.Ok post (body (lo + n, acc) next)) : Go.KX.Ok post (loopC body F (lo, acc0)) := by
 refine ok_loop (fun x : Int × β => lo ≤ x.1 ∧ x.1 ≤ lo + n ∧ inv (x.1 - lo).toNat x.2) (fun x => (lo + n - x.1).toNat) ⟨by simp, by simp; omega, by simpa using h0⟩ (by simp; omega) ?_
 rintro ⟨x, acc⟩ next ⟨h1, h2, h3⟩ hn
 simp only at h1 h2 h3 hn
 obtain ⟨i, hi⟩ := Int.eq_ofNat_of_zero_le (show 0 ≤ x - lo by omega)
 obtain rfl : x = lo + i := by omega
 rw [show (lo + (i : Int) - lo).toNat = i by omega] at h3
 by_cases e : i < n
 ·refine h i e acc next h3 fun acc' ha => hn _ ⟨by show lo ≤ lo + i + 1; omega, by show lo + i + 1 ≤ lo + n; omega, ?_⟩ (by show (lo + n - (lo + i + 1)).toNat < (lo + n - (lo + i)).toNat; omega)
  show inv (lo + i + 1 - lo).toNat acc'
  rw [show (lo + (i : Int) + 1 - lo).toNat = i + 1 by omega]; exact ha
 ·obtain rfl : i = n := by omega
  exact he acc next h3
end
def finishedS (a : Area) (s : State) : Bool := (List.range a.Cases.length).all (fun i => decide (caseAt s.Cases i = 3)) && decide (s.Site = 0)
def coversS (s t : State) : Bool := decide (s.Hour = t.Hour) && decide (s.Site = t.Site) && decide (s.Notch = t.Notch) && decide (s.Cases = t.Cases) && decide (t.Fuel ≤ s.Fuel) && decide (s.Awake ≤ t.Awake) && decide (s.Worn ≤ t.Worn)
section
variable {F : Nat} {m : Machine} {a : Area} {s t : State}
theorem fin_loop (hF : 1000 ≤ F) (hcn : a.Cases.length ≤ 3) : Go.KX.Ok (fun r => r = finishedS a s) (loopC (fun (x : Int) (next : Int → Option Bool) => brk (decide (x < (a.Cases.length : Int))) (chk (0 ≤ x ∧ x < ((3 : Nat) : Int)) (brk (([s.Cases.a0, s.Cases.a1, s.Cases.a2] : List Int).getD x.toNat 0 != 3) (some false) (chk (InR (x + 1)) (next (x + 1))))) (some (s.Site == 0))) F 0) := by
 refine ok_upto (n := a.Cases.length) (fun i => caseAt s.Cases i = 3) (by omega) (fun i hi _ next hn => ?_) (fun hall next => brk_nlt (ok_some ?_))
 ·refine brk_lt hi (ok_chk ⟨by omega, by omega⟩ ?_)
  have e : ([s.Cases.a0, s.Cases.a1, s.Cases.a2] : List Int).getD (i : Int).toNat 0 = caseAt s.Cases i := rfl
  rw [e]
  refine ok_brk (fun h => ok_some ?_) (fun h => ok_chk (inR1 (by omega)) (hn (by simpa using h)))
  have h : ¬ caseAt s.Cases i = 3 := by simpa using h
  unfold finishedS
  rw [range_no (i := i) hi (decide_eq_false h)]; rfl
 ·unfold finishedS
  rw [all_range.2 (fun i hi => decide_eq_true (hall i hi)), Bool.true_and]
  by_cases h : s.Site = 0 <;> simp [h]
theorem p_finished (hF : 1000 ≤ F) (hf : Fit m a) : breaker_works_finished F (m, a) s = some (finishedS a s) := (fin_loop hF hf.casesN).eq
theorem cases_eq {c d : A3ofInt} : decide (c = d) = (c.a0 == d.a0 && (c.a1 == d.a1 && (c.a2 == d.a2 && true))) := by
 obtain ⟨c0, c1, c2⟩ := c
 obtain ⟨d0, d1, d2⟩ := d
 rw [Bool.eq_iff_iff]
 simp
theorem p_covers : breaker_State_covers F s t = some (coversS s t) := by
 unfold breaker_State_covers breaker_State_key coversS
 simp only [bnd_so, cases_eq]
 congr 1
 rw [Bool.eq_iff_iff]
 simp [and_assoc]
end
end Go.Proofs.Sc
namespace Go.Proofs.Sc
open Go Go.KX
section
variable {F : Nat} {m : Machine} {a : Area} {s t : State}
theorem step_bd {x : Action} (hf : Fit m a) (hs : StOk m a s) (h : (doS m a s x).2 = 0) : (1 ≤ x.Kind ∧ x.Kind ≤ 8) ∧ (0 ≤ (doS m a s x).1.Hour - s.Hour ∧ (doS m a s x).1.Hour - s.Hour ≤ 100) ∧ (-200 ≤ (doS m a s x).1.Fuel - s.Fuel ∧ (doS m a s x).1.Fuel - s.Fuel ≤ 200) ∧ StOk m a (doS m a s x).1 := by
 have e : doS m a s x = ((doS m a s x).1, 0) := by rw [← h]
 obtain ⟨h1, h2⟩ := do_ok hf hs e
 have g := (doS_ok e).1
 have q1 := h1.hour; have q2 := hs.hour; have q3 := h1.fuel; have q4 := hs.fuel; have q5 := hf.limit; have q6 := hf.tank
 exact ⟨g.kind, by omega, by omega, h1⟩
abbrev PT := Int × Int × Int × Int × Int × Int × Int × Int × Int × Int × StT
end
end Go.Proofs.Sc
namespace Go.Proofs.Sc
open Go Go.KX
section
variable {F : Nat} {m : Machine} {a : Area} {s t : State}
structure Light (a : Area) : Prop where
 h : a.Hours.length ≤ 6
 p : a.Press.length ≤ 80
 c : a.Cases.length ≤ 5
 r : ∀ x ∈ a.Hours, x.length ≤ 6
end
end Go.Proofs.Sc
namespace Go.Proofs.Sc
open Go Go.KX
section
variable {F : Nat} {m : Machine} {a : Area}
theorem fit_check (h : Fit m a) : checkS m a = 0 := by
 rw [checkS_eq]
 have hr : rightS m = true := by
  unfold rightS
  simp only [Bool.and_eq_true, inS_iff]
  exact ⟨⟨⟨⟨⟨⟨⟨h.tank, h.idle⟩, h.steam⟩, h.work⟩, h.watch⟩, h.rest⟩, h.wear⟩, h.refit⟩
 have hz : sizesS a = true := by
  unfold sizesS
  simp only [Bool.and_eq_true, inS_iff, decide_eq_true_eq]
  have := h.pressN; have := h.casesN
  exact ⟨⟨h.sites, by omega⟩, by omega⟩
 rw [if_neg (by simp [hr]), if_neg (by simp [hz])]
 unfold restC
 rw [if_pos]
 simp only [Bool.and_eq_true]
 refine ⟨⟨⟨all_range.2 fun i hi => rowS_iff.2 ⟨h.rows i hi, fun k hk => ?_⟩, inS_iff.2 h.limit⟩, List.all_eq_true.2 fun p hp => inS_iff.2 (h.press p hp)⟩, List.all_eq_true.2 fun c hc => ?_⟩
 ·unfold cellOK
  split
  ·rename_i e; subst e; exact decide_eq_true (h.same i hi)
  ·rename_i e; exact inS_iff.2 (h.hours i k hi hk e)
 ·obtain ⟨q1, q2, q3, q4⟩ := h.cases c hc
  unfold caseOK
  simp only [Bool.and_eq_true, inS_iff]
  exact ⟨⟨⟨q1, q2⟩, q3⟩, q4⟩
theorem fit_begin (h : Fit m a) : beginS m a = (⟨0, 0, m.Tank, 0, 0, -1, ⟨0, 0, 0⟩⟩, 0) := by
 unfold beginS
 rw [if_neg (by simp [fit_check h])]
structure RowsOk (n : Nat) (rows : List (List Int)) : Prop where
 len : ∀ i, i < rows.length → (rows.getD i []).length = n
 hours : ∀ i k : Nat, i < rows.length → k < n → i ≠ k → 1 ≤ (rows.getD i []).getD k 0 ∧ (rows.getD i []).getD k 0 ≤ 24
 same : ∀ i : Nat, i < rows.length → i < n → (rows.getD i []).getD i 0 = 0
theorem RowsOk.snoc {n : Nat} {rows : List (List Int)} {row : List Int} (h : RowsOk n rows) (hl : row.length = n) (h1 : ∀ k : Nat, k < n → rows.length ≠ k → 1 ≤ row.getD k 0 ∧ row.getD k 0 ≤ 24) (h2 : rows.length < n → row.getD rows.length 0 = 0) : RowsOk n (rows ++ [row]) := by
 have key : ∀ i, i < (rows ++ [row]).length → (i < rows.length ∧ (rows ++ [row]).getD i [] = rows.getD i []) ∨ (i = rows.length ∧ (rows ++ [row]).getD i [] = row) := by
  intro i hi
  rw [List.length_append, List.length_singleton] at hi
  by_cases e : i < rows.length
  ·exact .inl ⟨e, getD_append_left' e⟩
  ·have : i = rows.length := by omega
   subst this
   exact .inr ⟨rfl, getD_append_here⟩
 refine ⟨fun i hi => ?_, fun i k hi hk hik => ?_, fun i hi hin => ?_⟩
 ·rcases key i hi with ⟨e, q⟩ | ⟨e, q⟩ <;> rw [q]
  ·exact h.len i e
  ·exact hl
 ·rcases key i hi with ⟨e, q⟩ | ⟨e, q⟩ <;> rw [q]
  ·exact h.hours i k e hk hik
  ·exact h1 k hk (by omega)
 ·rcases key i hi with ⟨e, q⟩ | ⟨e, q⟩ <;> rw [q]
  ·exact h.same i e hin
  ·subst e; exact h2 hin
theorem made_ok (hF : 1000 ≤ F) {l : List Int} (hl : Bytes l) : Go.KX.Ok (fun r => Fit r.1 r.2 ∧ r.2.Hours.length ≤ 3 ∧ r.2.Press.length ≤ 20 ∧ r.2.Cases.length ≤ 2 ∧ r.1.Tank ≤ 119 ∧ r.1.Watch ≤ 35 ∧ r.1.Wear ≤ 44 ∧ r.2.Limit ≤ 27) (law06_Made F l) := by
 have f0 : 0 < F := by omega
 unfold law06_Made
 refine ok_next0 f0 hl (n := 100) (by omega) fun v p a1 a2 a3 a4 a5 => ok_chk ⟨by simp only; omega, by simp only; omega⟩ ?_
 refine ok_next f0 hl a4 a5 (n := 3) (by omega) fun v1 p1 b1 b2 b3 b4 b5 => ?_
 refine ok_next f0 hl b4 b5 (n := 5) (by omega) fun v2 p2 c1 c2 c3 c4 c5 => ?_
 refine ok_next f0 hl c4 c5 (n := 6) (by omega) fun v3 p3 d1 d2 d3 d4 d5 => ?_
 refine ok_next f0 hl d4 d5 (n := 30) (by omega) fun v4 p4 e1 e2 e3 e4 e5 => ok_chk ⟨by simp only; omega, by simp only; omega⟩ ?_
 refine ok_next f0 hl e4 e5 (n := 8) (by omega) fun v5 p5 f1 f2 f3 f4 f5 => ok_chk ⟨by simp only; omega, by simp only; omega⟩ ?_
 refine ok_next f0 hl f4 f5 (n := 40) (by omega) fun v6 p6 g1 g2 g3 g4 g5 => ok_chk ⟨by simp only; omega, by simp only; omega⟩ ?_
 refine ok_next f0 hl g4 g5 (n := 10) (by omega) fun v7 p7 h1 h2 h3 h4 h5 => ok_chk ⟨by simp only; omega, by simp only; omega⟩ ?_
 refine ok_next f0 hl h4 h5 (n := 24) (by omega) fun v8 p8 i1 i2 i3 i4 i5 => ok_chk ⟨by simp only; omega, by simp only; omega⟩ ?_
 refine ok_next f0 hl i4 i5 (n := 3) (by omega) fun v9 p9 j1 j2 j3 j4 j5 => ok_chk ⟨by simp only; omega, by simp only; omega⟩ ?_
 obtain ⟨N, hN⟩ := Int.eq_ofNat_of_zero_le (show 0 ≤ 1 + v9 by omega)
 simp only [hN]
 have hrep : ((N : Int).toNat) = N := by omega
 refine ok_acc (n := N) (fun i acc => (0 ≤ acc.1 ∧ acc.1 ≤ (l.length : Int)) ∧ acc.2.length = i ∧ RowsOk N acc.2) 0 (by omega) ⟨⟨j4, j5⟩, rfl, ⟨fun i hi => by simp at hi, fun i k hi => by simp at hi, fun i hi => by simp at hi⟩⟩ (fun i hi acc next hinv hn => ?_) (fun acc next hinv => ?_)
 ·obtain ⟨pos, rows⟩ := acc
  obtain ⟨⟨q1, q2⟩, q3, q4⟩ := hinv
  simp only at q1 q2 q3 q4 hn ⊢
  rw [show (0 : Int) + (i : Int) = i by omega] at hn ⊢
  refine ok_brkT (decide_eq_true (by omega)) (ok_chk ⟨by omega, by omega, by omega⟩ ?_)
  rw [hrep]
  refine ok_acc (n := N) (fun k acc => (0 ≤ acc.1 ∧ acc.1 ≤ (l.length : Int)) ∧ acc.2.length = N ∧ (∀ j : Nat, j < k → i ≠ j → 1 ≤ acc.2.getD j 0 ∧ acc.2.getD j 0 ≤ 24) ∧ (∀ j : Nat, (k ≤ j ∨ i = j) → j < N → acc.2.getD j 0 = 0)) 0 (by omega) ⟨⟨q1, q2⟩, by simp, fun j hj => by omega, fun j _ hj => by simp [List.getD_eq_getElem?_getD, hj]⟩ (fun k hk acc2 next2 hinv2 hn2 => ?_) (fun acc2 next2 hinv2 => ?_)
  ·obtain ⟨pos2, row⟩ := acc2
   obtain ⟨⟨r1, r2⟩, r3, r4, r5⟩ := hinv2
   simp only at r1 r2 r3 r4 r5 hn2 ⊢
   rw [show (0 : Int) + (k : Int) = k by omega] at hn2 ⊢
   refine ok_brkT (decide_eq_true (by rw [List.length_replicate]; omega)) ?_
   refine ok_join f0 (fun y : Int × List Int => (0 ≤ y.1 ∧ y.1 ≤ (l.length : Int)) ∧ y.2.length = N ∧ (∀ j : Nat, j < k + 1 → i ≠ j → 1 ≤ y.2.getD j 0 ∧ y.2.getD j 0 ≤ 24) ∧ (∀ j : Nat, (k + 1 ≤ j ∨ i = j) → j < N → y.2.getD j 0 = 0)) (fun y hy => ok_chk ⟨by omega, by omega⟩ (hn2 y hy)) (fun kk hkk => ok_brk (fun hne => ?_) (fun heq => hkk _ ?_))
   ·have hne : i ≠ k := fun e => by subst e; simp at hne
    refine ok_next f0 hl r1 r2 (n := 4) (by omega) fun v p w1 w2 w3 w4 w5 => ok_chk ⟨by simp only; omega, by simp only; omega⟩ (ok_chk ⟨by omega, by omega⟩ (hkk _ ⟨⟨w4, w5⟩, by simp only [List.length_set]; exact r3, fun j hj hij => ?_, fun j hj hjn => ?_⟩))
    ·simp only [Int.toNat_natCast]
     rw [getD_set' (by omega)]
     split
     ·omega
     ·exact r4 j (by omega) hij
    ·simp only [Int.toNat_natCast]
     rw [getD_set' (by omega), if_neg (by omega)]
     exact r5 j (by omega) hjn
   ·have heq : i = k := by have := bne_eq_false_iff_eq.1 heq; omega
    exact ⟨⟨r1, r2⟩, r3, fun j hj hij => r4 j (by omega) hij, fun j hj hjn => r5 j (by omega) hjn⟩
  ·obtain ⟨pos2, row⟩ := acc2
   obtain ⟨⟨r1, r2⟩, r3, r4, r5⟩ := hinv2
   simp only at r1 r2 r3 r4 r5 ⊢
   refine ok_brkF (decide_eq_false (by rw [List.length_replicate]; omega)) (ok_chk (by simp only [List.length_cons, List.length_nil]; omega) (ok_chk ⟨by omega, by omega⟩ (hn _ ⟨⟨r1, r2⟩, by simp [q3], ?_⟩)))
   exact q4.snoc r3 (fun j hj hij => r4 j hj (by omega)) (fun hlt => r5 _ (.inr q3.symm) hlt)
 ·obtain ⟨pos, rows⟩ := acc
  obtain ⟨⟨q1, q2⟩, q3, q4⟩ := hinv
  simp only at q1 q2 q3 q4 ⊢
  refine ok_brkF (decide_eq_false (by omega)) ?_
  refine ok_next f0 hl q1 q2 (n := 20) (by omega) fun v10 p10 k1 k2 k3 k4 k5 => ok_chk ⟨by simp only; omega, by simp only; omega⟩ ?_
  obtain ⟨P, hP⟩ := Int.eq_ofNat_of_zero_le (show 0 ≤ 1 + v10 by omega)
  simp only [hP]
  refine ok_acc (n := P) (fun i acc => (0 ≤ acc.1 ∧ acc.1 ≤ (l.length : Int)) ∧ acc.2.length = i ∧ ∀ x ∈ acc.2, 0 ≤ x ∧ x ≤ 3) 0 (by omega) ⟨⟨k4, k5⟩, rfl, fun x hx => by simp at hx⟩ (fun i hi acc next hinv hn => ?_) (fun acc next hinv => ?_)
  ·obtain ⟨pos2, ps⟩ := acc
   obtain ⟨⟨r1, r2⟩, r3, r4⟩ := hinv
   simp only at r1 r2 r3 r4 hn ⊢
   rw [show (0 : Int) + (i : Int) = i by omega] at hn ⊢
   refine ok_brkT (decide_eq_true (by omega)) (ok_next f0 hl r1 r2 (n := 4) (by omega) fun v p w1 w2 w3 w4 w5 => ok_chk (by simp only [List.length_cons, List.length_nil]; omega) (ok_chk ⟨by omega, by omega⟩ (hn _ ⟨⟨w4, w5⟩, by simp [r3], fun x hx => ?_⟩)))
   rcases List.mem_append.1 hx with hx | hx
   ·exact r4 x hx
   ·simp only [List.mem_singleton] at hx; omega
  ·obtain ⟨pos2, ps⟩ := acc
   obtain ⟨⟨r1, r2⟩, r3, r4⟩ := hinv
   simp only at r1 r2 r3 r4 ⊢
   refine ok_brkF (decide_eq_false (by omega)) ?_
   refine ok_next f0 hl r1 r2 (n := 3) (by omega) fun v11 p11 l1 l2 l3 l4 l5 => ?_
   obtain ⟨C, hC⟩ := Int.eq_ofNat_of_zero_le l1
   simp only [hC]
   refine ok_acc (n := C) (fun i acc => (0 ≤ acc.1 ∧ acc.1 ≤ (l.length : Int)) ∧ acc.2.length = i ∧ ∀ c ∈ acc.2, (0 ≤ c.Site ∧ c.Site ≤ (N : Int) - 1) ∧ (0 ≤ c.To ∧ c.To ≤ (N : Int) - 1) ∧ (1 ≤ c.Cut ∧ c.Cut ≤ 24) ∧ (0 ≤ c.Calm ∧ c.Calm ≤ 3)) 0 (by omega) ⟨⟨l4, l5⟩, rfl, fun x hx => by simp at hx⟩ (fun i hi acc next hinv hn => ?_) (fun acc next hinv => ?_)
   ·obtain ⟨pos3, cs⟩ := acc
    obtain ⟨⟨s1, s2⟩, s3, s4⟩ := hinv
    simp only at s1 s2 s3 s4 hn ⊢
    rw [show (0 : Int) + (i : Int) = i by omega] at hn ⊢
    refine ok_brkT (decide_eq_true (by omega)) ?_
    refine ok_nextS f0 hl s1 s2 (n := (N : Int)) (by omega) fun va pa t1 t2 t3 t4 t5 => ?_
    refine ok_nextS f0 hl t4 t5 (n := (N : Int)) (by omega) fun vb pb u1 u2 u3 u4 u5 => ?_
    refine ok_next f0 hl u4 u5 (n := 4) (by omega) fun vc pc x1 x2 x3 x4 x5 => ok_chk ⟨by simp only; omega, by simp only; omega⟩ ?_
    refine ok_next f0 hl x4 x5 (n := 4) (by omega) fun vd pd y1 y2 y3 y4 y5 => ok_chk ⟨by simp only; omega, by simp only; omega⟩ ?_
    refine ok_next f0 hl y4 y5 (n := 2) (by omega) fun ve pe z1 z2 z3 z4 z5 => ok_chk (by simp only [List.length_cons, List.length_nil]; omega) (ok_chk ⟨by omega, by omega⟩ (hn _ ⟨⟨z4, z5⟩, by simp [s3], fun x hx => ?_⟩))
    rcases List.mem_append.1 hx with hx | hx
    ·exact s4 x hx
    ·simp only [List.mem_singleton] at hx
     subst hx
     exact ⟨by simp only; omega, by simp only; omega, by simp only; omega, by simp only; omega⟩
   ·obtain ⟨pos3, cs⟩ := acc
    obtain ⟨⟨s1, s2⟩, s3, s4⟩ := hinv
    simp only at s1 s2 s3 s4 ⊢
    refine ok_brkF (decide_eq_false (by omega)) (ok_some ⟨⟨?_, ?_, ?_, ?_, ?_, ?_, ?_, ?_, ?_, ?_, ?_, ?_, fun i hi => ?_, fun i k hi hk hik => ?_, fun i hi => ?_, r4, fun c hc => ?_⟩, ?_, ?_, ?_, ?_, ?_, ?_, ?_⟩)
    any_goals (simp only [sitesS]; omega)
    ·rw [q4.len i hi]; exact q3.symm
    ·exact q4.hours i k hi (by rw [← q3]; exact hk) hik
    ·exact q4.same i hi (by rw [← q3]; exact hi)
    ·have := s4 c hc
     simp only [sitesS, q3]
     exact this
end
end Go.Proofs.Sc
namespace Go.Proofs.Sc
open Go Go.KX
structure PathOk (m : Machine) (a : Area) (s : State) (prog : List Action) (sts : List State) : Prop where
 len : sts.length = prog.length + 1
 head : sts.getD 0 zeroS = s
 step : ∀ i : Nat, i < prog.length → doS m a (sts.getD i zeroS) (prog.getD i noAct) = (sts.getD (i + 1) zeroS, 0)
 ok : ∀ i : Nat, i ≤ prog.length → StOk m a (sts.getD i zeroS)
section
variable {F : Nat} {m : Machine} {a : Area} {s t : State}
theorem PathOk.snoc {prog : List Action} {sts : List State} {x : Action} (hf : Fit m a) (h : PathOk m a s prog sts) (hd : doS m a (sts.getD prog.length zeroS) x = (t, 0)) : PathOk m a s (prog ++ [x]) (sts ++ [t]) := by
 have hl := h.len
 have g1 : ∀ i : Nat, i ≤ prog.length → (sts ++ [t]).getD i zeroS = sts.getD i zeroS := fun i hi => getD_append_left' (by omega)
 have g2 : (sts ++ [t]).getD (prog.length + 1) zeroS = t := by rw [← hl]; exact getD_append_here
 have hst := (do_ok hf (h.ok prog.length (Nat.le_refl _)) hd).1
 refine ⟨by simp [hl], by rw [g1 0 (by omega)]; exact h.head, fun i hi => ?_, fun i hi => ?_⟩
 ·rw [List.length_append, List.length_singleton] at hi
  by_cases e : i < prog.length
  ·rw [g1 i (by omega), g1 (i + 1) (by omega), getD_append_left' e]
   exact h.step i e
  ·obtain rfl : i = prog.length := by omega
   rw [g1 _ (Nat.le_refl _), g2, getD_append_here]
   exact hd
 ·rw [List.length_append, List.length_singleton] at hi
  by_cases e : i ≤ prog.length
  ·rw [g1 i e]; exact h.ok i e
  ·obtain rfl : i = prog.length + 1 := by omega
   rw [g2]; exact hst
end
end Go.Proofs.Sc
namespace Go.Proofs.Sc
open Go Go.KX
def N0 : Node := ⟨zeroS, noAct, 0, false⟩
def nd (all : List Node) (i : Nat) : Node := all.getD i N0
def keyOf (s : State) : Key := ⟨s.Hour, s.Site, s.Notch, s.Cases⟩
def Cov (all : List Node) (t : State) : Prop := ∃ j, j < all.length ∧ (nd all j).f_live = true ∧ coversS (nd all j).f_at t = true
structure SInv (m : Machine) (a : Area) (s0 : State) (all : List Node) (hours : List (List Int)) (kept : List (Key × List Int)) : Prop where
 ok : ∀ i, i < all.length → StOk m a (nd all i).f_at
 path : ∀ i, i < all.length → ((nd all i).f_from = -1 ∧ (nd all i).f_at = s0) ∨ ∃ j : Nat, (nd all i).f_from = (j : Int) ∧ j < i ∧ doS m a (nd all j).f_at (nd all i).f_by = ((nd all i).f_at, 0)
 hlen : (hours.length : Int) = a.Limit + 1
 hmem : ∀ h : Nat, ∀ j ∈ hours.getD h [], ∃ i : Nat, j = (i : Int) ∧ i < all.length ∧ (nd all i).f_at.Hour = (h : Int)
 hall : ∀ i : Nat, i < all.length → (i : Int) ∈ hours.getD (nd all i).f_at.Hour.toNat []
 hbd : ∀ h : Nat, (hours.getD h []).length ≤ all.length
 kmem : ∀ κ, ∀ j ∈ getK kept κ, ∃ i : Nat, j = (i : Int) ∧ i < all.length ∧ (nd all i).f_live = true ∧ keyOf (nd all i).f_at = κ
 kall : ∀ i : Nat, i < all.length → (nd all i).f_live = true → (i : Int) ∈ getK kept (keyOf (nd all i).f_at)
 kbd : ∀ κ, (getK kept κ).length ≤ all.length
 dist : ∀ i j : Nat, i < all.length → j < all.length → (nd all i).f_at = (nd all j).f_at → i = j
 cov : ∀ i : Nat, i < all.length → Cov all (nd all i).f_at
theorem covers_iff {s t : State} : coversS s t = true ↔ s.Hour = t.Hour ∧ s.Site = t.Site ∧ s.Notch = t.Notch ∧ s.Cases = t.Cases ∧ t.Fuel ≤ s.Fuel ∧ s.Awake ≤ t.Awake ∧ s.Worn ≤ t.Worn := by
 unfold coversS
 simp only [Bool.and_eq_true, decide_eq_true_eq, and_assoc]
theorem covers_refl {s : State} : coversS s s = true := covers_iff.2 ⟨rfl, rfl, rfl, rfl, Int.le_refl _, Int.le_refl _, Int.le_refl _⟩
theorem covers_trans {s t u : State} (h : coversS s t = true) (h' : coversS t u = true) : coversS s u = true := by
 rw [covers_iff] at *
 obtain ⟨a1, a2, a3, a4, a5, a6, a7⟩ := h
 obtain ⟨b1, b2, b3, b4, b5, b6, b7⟩ := h'
 exact ⟨a1.trans b1, a2.trans b2, a3.trans b3, a4.trans b4, by omega, by omega, by omega⟩
theorem covers_key {s t : State} (h : coversS s t = true) : keyOf s = keyOf t := by
 obtain ⟨a1, a2, a3, a4, _⟩ := covers_iff.1 h
 unfold keyOf
 rw [a1, a2, a3, a4]
theorem pigeon : ∀ (N n : Nat) (f : Nat → Nat), (∀ i, i < n → f i < N) → (∀ i j, i < n → j < n → f i = f j → i = j) → n ≤ N
 | 0, n, f, h1, _ => by
  rcases Nat.eq_zero_or_pos n with h | h
  ·omega
  ·have := h1 0 h; omega
 | N + 1, n, f, h1, h2 => by
  by_cases hex : ∃ i0, i0 < n ∧ f i0 = N
  ·obtain ⟨i0, hi0, hf0⟩ := hex
   have := pigeon N (n - 1) (fun i => f (if i < i0 then i else i + 1)) (fun i hi => by
    have hb : (if i < i0 then i else i + 1) < n := by split <;> omega
    have h3 := h1 _ hb
    have h4 : f (if i < i0 then i else i + 1) ≠ N := fun e => by
     have := h2 _ _ hb hi0 (e.trans hf0.symm)
     split at this <;> omega
    show f _ < N
    omega) (fun i j hi hj e => by
    have hbi : (if i < i0 then i else i + 1) < n := by split <;> omega
    have hbj : (if j < i0 then j else j + 1) < n := by split <;> omega
    have := h2 _ _ hbi hbj e
    split at this <;> split at this <;> omega)
   omega
  ·have := pigeon N n f (fun i hi => by
    have h3 := h1 i hi
    have h4 : f i ≠ N := fun e => hex ⟨i, hi, e⟩
    omega) h2
   omega
structure Few (m : Machine) (a : Area) : Prop where
 limit : a.Limit ≤ 32
 sites : a.Hours.length ≤ 3
 cases : a.Cases.length ≤ 2
 tank : m.Tank ≤ 138
 watch : m.Watch ≤ 42
 wear : m.Wear ≤ 53
def pk (K x y : Nat) : Nat := x * K + y
theorem pk_inj {K x y x' y' : Nat} (h : pk K x y = pk K x' y') (hy : y < K) (hy' : y' < K) : x = x' ∧ y = y' := by
 have h : x * K + y = x' * K + y' := h
 rcases Nat.lt_trichotomy x x' with g | g | g
 ·have := Nat.mul_le_mul_right K (show x + 1 ≤ x' from g)
  rw [Nat.add_mul, Nat.one_mul] at this
  omega
 ·subst g; omega
 ·have := Nat.mul_le_mul_right K (show x' + 1 ≤ x from g)
  rw [Nat.add_mul, Nat.one_mul] at this
  omega
theorem pk_lt {K x y A : Nat} (hx : x < A) (hy : y < K) : pk K x y < A * K := by
 have := Nat.mul_le_mul_right K (show x + 1 ≤ A from hx)
 rw [Nat.add_mul, Nat.one_mul] at this
 unfold pk; omega
def codeS (s : State) : Nat := pk 4 (pk 4 (pk 54 (pk 43 (pk 139 (pk 3 s.Hour.toNat s.Site.toNat) s.Fuel.toNat) s.Awake.toNat) s.Worn.toNat) s.Cases.a0.toNat) s.Cases.a1.toNat
theorem ship_bd {a : Area} {n : Nat} {v : Int} (h : shipS a n v = true) : 0 ≤ v ∧ v ≤ 3 := by
 rw [shipS_iff] at h; omega
theorem ship_out {a : Area} {n : Nat} {v : Int} (h : shipS a n v = true) (hn : a.Cases.length ≤ n) : v = 0 := by
 rw [shipS_iff] at h; omega
theorem code_lt {m : Machine} {a : Area} {s : State} (hf : Few m a) (hs : StOk m a s) : codeS s < 511248672 := by
 have h1 := hs.hour; have h2 := hs.site; have h3 := hs.fuel; have h4 := hs.awake; have h5 := hs.worn
 have h6 := ship_bd hs.c0; have h7 := ship_bd hs.c1
 have g1 := hf.limit; have g2 := hf.sites; have g3 := hf.tank; have g4 := hf.watch; have g5 := hf.wear
 unfold sitesS at h2
 have b1 : pk 3 s.Hour.toNat s.Site.toNat < 33 * 3 := pk_lt (by omega) (by omega)
 have b2 := pk_lt (K := 139) (y := s.Fuel.toNat) b1 (by omega)
 have b3 := pk_lt (K := 43) (y := s.Awake.toNat) b2 (by omega)
 have b4 := pk_lt (K := 54) (y := s.Worn.toNat) b3 (by omega)
 have b5 := pk_lt (K := 4) (y := s.Cases.a0.toNat) b4 (by omega)
 have b6 := pk_lt (K := 4) (y := s.Cases.a1.toNat) b5 (by omega)
 exact b6
theorem cases_ext {c d : A3ofInt} (h0 : c.a0 = d.a0) (h1 : c.a1 = d.a1) (h2 : c.a2 = d.a2) : c = d := by
 cases c; cases d; simp only at h0 h1 h2; subst h0; subst h1; subst h2; rfl
theorem state_ext {s t : State} (h0 : s.Hour = t.Hour) (h1 : s.Site = t.Site) (h2 : s.Fuel = t.Fuel) (h3 : s.Awake = t.Awake) (h4 : s.Worn = t.Worn) (h5 : s.Notch = t.Notch) (h6 : s.Cases = t.Cases) : s = t := by
 cases s; cases t; simp only at h0 h1 h2 h3 h4 h5 h6; subst h0; subst h1; subst h2; subst h3; subst h4; subst h5; subst h6; rfl
theorem code_inj {m : Machine} {a : Area} {s t : State} (hf : Few m a) (hs : StOk m a s) (ht : StOk m a t) (h : codeS s = codeS t) : s = t := by
 have h1 := hs.hour; have h2 := hs.site; have h3 := hs.fuel; have h4 := hs.awake; have h5 := hs.worn
 have h6 := ship_bd hs.c0; have h7 := ship_bd hs.c1; have h8 := ship_out hs.c2 hf.cases
 have k1 := ht.hour; have k2 := ht.site; have k3 := ht.fuel; have k4 := ht.awake; have k5 := ht.worn
 have k6 := ship_bd ht.c0; have k7 := ship_bd ht.c1; have k8 := ship_out ht.c2 hf.cases
 have g1 := hf.limit; have g2 := hf.sites; have g3 := hf.tank; have g4 := hf.watch; have g5 := hf.wear
 unfold sitesS at h2 k2
 unfold codeS at h
 obtain ⟨h, e1⟩ := pk_inj h (by omega) (by omega)
 obtain ⟨h, e0⟩ := pk_inj h (by omega) (by omega)
 obtain ⟨h, e2⟩ := pk_inj h (by omega) (by omega)
 obtain ⟨h, e3⟩ := pk_inj h (by omega) (by omega)
 obtain ⟨h, e4⟩ := pk_inj h (by omega) (by omega)
 obtain ⟨e6, e5⟩ := pk_inj h (by omega) (by omega)
 clear h
 have q0 : s.Cases.a0 = t.Cases.a0 := by omega
 have q1 : s.Cases.a1 = t.Cases.a1 := by omega
 have q2 : s.Cases.a2 = t.Cases.a2 := by omega
 have qc : s.Cases = t.Cases := cases_ext q0 q1 q2
 exact state_ext (by omega) (by omega) (by omega) (by omega) (by omega) (by rw [hs.notch, ht.notch, qc]) qc
theorem SInv.count {m : Machine} {a : Area} {s0 : State} {all : List Node} {hours : List (List Int)} {kept : List (Key × List Int)} (hf : Few m a) (h : SInv m a s0 all hours kept) : all.length ≤ 511248672 :=
 pigeon _ _ (fun i => codeS (nd all i).f_at) (fun i hi => code_lt hf (h.ok i hi)) (fun i j hi hj e => h.dist i j hi hj (code_inj hf (h.ok i hi) (h.ok j hj) e))
section
variable {β : Type} {κ κ' : Key}
theorem getK_set : ∀ {l : List (Key × List β)} {v : List β}, getK (setK l κ v) κ' = if κ = κ' then v else getK l κ'
 | [], v => by
  show (if κ = κ' then v else []) = _
  rfl
 | p :: l, v => by
  unfold setK
  by_cases e : p.1 = κ
  ·rw [if_pos e]
   show (if p.1 = κ' then v else getK l κ') = _
   by_cases e2 : κ = κ'
   ·rw [if_pos e2, if_pos (e.trans e2)]
   ·rw [if_neg e2, if_neg (fun q => e2 (e.symm.trans q))]
    show _ = (if p.1 = κ' then p.2 else getK l κ')
    rw [if_neg (fun q => e2 (e.symm.trans q))]
  ·rw [if_neg e]
   show (if p.1 = κ' then p.2 else getK (setK l κ v) κ') = _
   rw [getK_set (l := l)]
   show _ = if κ = κ' then v else (if p.1 = κ' then p.2 else getK l κ')
   by_cases e2 : p.1 = κ'
   ·rw [if_pos e2, if_pos e2, if_neg (fun q => e (e2.trans q.symm))]
   ·rw [if_neg e2, if_neg e2]
theorem getK_ins : ∀ {l : List (Key × List β)}, getK (insK l κ) κ' = getK l κ'
 | [] => by
  show (if κ = κ' then [] else []) = ([] : List β)
  split <;> rfl
 | p :: l => by
  unfold insK
  by_cases e : p.1 = κ
  ·rw [if_pos e]
  ·rw [if_neg e]
   show (if p.1 = κ' then p.2 else getK (insK l κ) κ') = (if p.1 = κ' then p.2 else getK l κ')
   rw [getK_ins (l := l)]
theorem getK_upd : ∀ {l : List (Key × List β)}, getK (updK l κ (getK l κ)) κ' = getK l κ'
 | [] => rfl
 | p :: l => by
  unfold updK
  by_cases e : p.1 = κ
  ·rw [if_pos e]
   show (if p.1 = κ' then getK (p :: l) κ else getK l κ') = (if p.1 = κ' then p.2 else getK l κ')
   have : getK (p :: l) κ = p.2 := if_pos e
   rw [this]
  ·rw [if_neg e]
   have hk : getK (p :: l) κ = getK l κ := if_neg e
   rw [hk]
   show (if p.1 = κ' then p.2 else getK (updK l κ (getK l κ)) κ') = (if p.1 = κ' then p.2 else getK l κ')
   rw [getK_upd (l := l)]
end
end Go.Proofs.Sc
namespace Go.Proofs.Sc
open Go Go.KX
set_option linter.unusedVariables false
noncomputable def addM {α : Type} (F : Nat) (a : Area) (t : State) (act : Action) (fr : Int) (all : List Node) (hours : List (List Int)) (hole : Int) (kept : List (Key × List Int)) (k : List Node × ((List (List Int) × Int) × List (Key × List Int)) → Option α) : Option α :=
 bnd (breaker_State_key F t) (fun (y1 : Key) => loopC (fun (y2 : Int) => fun y3 => brk (decide (y2 < (↑(getK kept y1).length : Int))) (chk ((0 : Int) ≤ y2 ∧ y2 < (↑(getK kept y1).length : Int)) (chk ((0 : Int) ≤ (getK kept y1).getD (Int.toNat y2) (0 : Int) ∧ (getK kept y1).getD (Int.toNat y2) (0 : Int) < (↑(List.length all) : Int)) (bnd (breaker_State_covers F (List.getD all (Int.toNat ((getK kept y1).getD (Int.toNat y2) (0 : Int))) (Node.mk (State.mk (0 : Int) (0 : Int) (0 : Int) (0 : Int) (0 : Int) (0 : Int) (A3ofInt.mk (0 : Int) (0 : Int) (0 : Int))) (Action.mk (0 : Int) (0 : Int)) (0 : Int) false)).f_at t) (fun (y4 : Bool) => brk (y4) (k ((all, (hours, hole), updK kept y1 (getK kept y1)))) (chk (InR (y2 + (1 : Int))) (y3 (y2 + (1 : Int)))))))) (chk (y1 = y1) (join (F) (fun (y4 : (List (Int)) × (List (Node))) => chk (y1 = y1) (chk ((getK (setK kept y1 y4.fst) y1).length + [(↑(List.length y4.snd) : Int)].length ≤ (1000000000 : Nat)) (chk (y1 = y1) (chk ((0 : Int) ≤ t.Hour ∧ t.Hour < (↑(a.Limit + (1 : Int)).toNat : Int)) (chk ((0 : Int) ≤ hole ∧ t.Hour ≠ hole) (chk (List.length (hours.getD t.Hour.toNat ([] : List Int)) + [(↑(List.length y4.snd) : Int)].length ≤ (1000000000 : Nat)) (chk ((0 : Int) ≤ t.Hour ∧ t.Hour < (↑(a.Limit + (1 : Int)).toNat : Int)) (chk (t.Hour = t.Hour) (chk (List.length y4.snd + [Node.mk t act fr true].length ≤ (1000000000 : Nat)) (k ((y4.snd ++ [Node.mk t act fr true], (hours.set t.Hour.toNat (hours.getD t.Hour.toNat [] ++ [(↑(List.length y4.snd) : Int)]), hole), setK (insK (setK kept y1 y4.fst) y1) y1 (getK (setK kept y1 y4.fst) y1 ++ [(↑(List.length y4.snd) : Int)]))))))))))))) (fun y4 => join (F) (fun (y5 : (Int) × (List (Node))) => brk (y5.fst == (-1 : Int)) (y4 ((getK kept y1, y5.snd))) (chk (InR (y5.fst + (1 : Int))) (loopC (fun (y6 : (Int) × ((Int) × ((List (Node)) × (List (Int))))) => fun y7 => brk (decide (y6.fst < (↑(List.length y6.snd.snd.snd) : Int))) (join (F) (fun (y8 : (Int) × ((List (Node)) × (List (Int)))) => chk (InR (y6.fst + (1 : Int))) (y7 ((y6.fst + (1 : Int), y8)))) (fun y8 => chk ((0 : Int) ≤ y6.fst ∧ y6.fst < (↑(List.length y6.snd.snd.snd) : Int)) (join (F) (fun (y9 : List (Node)) => chk ((0 : Int) ≤ List.getD y6.snd.snd.snd (Int.toNat y6.fst) (0 : Int) ∧ List.getD y6.snd.snd.snd (Int.toNat y6.fst) (0 : Int) < (↑(List.length y9) : Int)) (brk (!!(List.getD y9 (Int.toNat (List.getD y6.snd.snd.snd (Int.toNat y6.fst) (0 : Int))) (Node.mk (State.mk (0 : Int) (0 : Int) (0 : Int) (0 : Int) (0 : Int) (0 : Int) (A3ofInt.mk (0 : Int) (0 : Int) (0 : Int))) (Action.mk (0 : Int) (0 : Int)) (0 : Int) false)).f_live) (chk ((0 : Int) ≤ y6.snd.fst ∧ y6.snd.fst < (↑(List.length y6.snd.snd.snd) : Int)) (chk (InR (y6.snd.fst + (1 : Int))) (y8 ((y6.snd.fst + (1 : Int), y9, List.set y6.snd.snd.snd (Int.toNat y6.snd.fst) (List.getD y6.snd.snd.snd (Int.toNat y6.fst) (0 : Int))))))) (y8 ((y6.snd.fst, y9, y6.snd.snd.snd))))) (fun y9 => chk ((0 : Int) ≤ List.getD y6.snd.snd.snd (Int.toNat y6.fst) (0 : Int) ∧ List.getD y6.snd.snd.snd (Int.toNat y6.fst) (0 : Int) < (↑(List.length y6.snd.snd.fst) : Int)) (bnd (breaker_State_covers F t (List.getD y6.snd.snd.fst (Int.toNat (List.getD y6.snd.snd.snd (Int.toNat y6.fst) (0 : Int))) (Node.mk (State.mk (0 : Int) (0 : Int) (0 : Int) (0 : Int) (0 : Int) (0 : Int) (A3ofInt.mk (0 : Int) (0 : Int) (0 : Int))) (Action.mk (0 : Int) (0 : Int)) (0 : Int) false)).f_at) (fun (x_30 : Bool) => brk (x_30) (chk ((0 : Int) ≤ List.getD y6.snd.snd.snd (Int.toNat y6.fst) (0 : Int) ∧ List.getD y6.snd.snd.snd (Int.toNat y6.fst) (0 : Int) < (↑(List.length y6.snd.snd.fst) : Int)) (y9 (List.set y6.snd.snd.fst (Int.toNat (List.getD y6.snd.snd.snd (Int.toNat y6.fst) (0 : Int))) (Node.mk (List.getD y6.snd.snd.fst (Int.toNat (List.getD y6.snd.snd.snd (Int.toNat y6.fst) (0 : Int))) (Node.mk (State.mk (0 : Int) (0 : Int) (0 : Int) (0 : Int) (0 : Int) (0 : Int) (A3ofInt.mk (0 : Int) (0 : Int) (0 : Int))) (Action.mk (0 : Int) (0 : Int)) (0 : Int) false)).f_at (List.getD y6.snd.snd.fst (Int.toNat (List.getD y6.snd.snd.snd (Int.toNat y6.fst) (0 : Int))) (Node.mk (State.mk (0 : Int) (0 : Int) (0 : Int) (0 : Int) (0 : Int) (0 : Int) (A3ofInt.mk (0 : Int) (0 : Int) (0 : Int))) (Action.mk (0 : Int) (0 : Int)) (0 : Int) false)).f_by (List.getD y6.snd.snd.fst (Int.toNat (List.getD y6.snd.snd.snd (Int.toNat y6.fst) (0 : Int))) (Node.mk (State.mk (0 : Int) (0 : Int) (0 : Int) (0 : Int) (0 : Int) (0 : Int) (A3ofInt.mk (0 : Int) (0 : Int) (0 : Int))) (Action.mk (0 : Int) (0 : Int)) (0 : Int) false)).f_from false)))) (y9 (y6.snd.snd.fst)))))))) (chk ((0 : Int) ≤ y6.snd.fst ∧ y6.snd.fst ≤ (↑(List.length y6.snd.snd.snd) : Int) ∧ (↑(List.length y6.snd.snd.snd) : Int) ≤ (↑(List.length y6.snd.snd.snd) : Int)) (chk ((0 : Int) ≤ y6.snd.fst ∧ y6.snd.fst ≤ (↑(clearL y6.snd.snd.snd (Int.toNat y6.snd.fst) ((↑(List.length y6.snd.snd.snd) : Int) - y6.snd.fst).toNat (0 : Int)).length : Int)) (y4 ((List.take (Int.toNat y6.snd.fst) (clearL y6.snd.snd.snd (Int.toNat y6.snd.fst) ((↑(List.length y6.snd.snd.snd) : Int) - y6.snd.fst).toNat (0 : Int)), y6.snd.snd.fst)))))) (F) ((y5.fst + (1 : Int), y5.fst, y5.snd, getK kept y1))))) (fun y5 => loopC (fun (y6 : (Int) × (List (Node))) => fun y7 => brk (decide (y6.fst < (↑(getK kept y1).length : Int))) (chk ((0 : Int) ≤ y6.fst ∧ y6.fst < (↑(getK kept y1).length : Int)) (join (F) (fun (y8 : List (Node)) => chk ((0 : Int) ≤ (getK kept y1).getD (Int.toNat y6.fst) (0 : Int) ∧ (getK kept y1).getD (Int.toNat y6.fst) (0 : Int) < (↑(List.length y8) : Int)) (brk (!(List.getD y8 (Int.toNat ((getK kept y1).getD (Int.toNat y6.fst) (0 : Int))) (Node.mk (State.mk (0 : Int) (0 : Int) (0 : Int) (0 : Int) (0 : Int) (0 : Int) (A3ofInt.mk (0 : Int) (0 : Int) (0 : Int))) (Action.mk (0 : Int) (0 : Int)) (0 : Int) false)).f_live) (y5 ((y6.fst, y8))) (chk (InR (y6.fst + (1 : Int))) (y7 ((y6.fst + (1 : Int), y8)))))) (fun y8 => chk ((0 : Int) ≤ (getK kept y1).getD (Int.toNat y6.fst) (0 : Int) ∧ (getK kept y1).getD (Int.toNat y6.fst) (0 : Int) < (↑(List.length y6.snd) : Int)) (bnd (breaker_State_covers F t (List.getD y6.snd (Int.toNat ((getK kept y1).getD (Int.toNat y6.fst) (0 : Int))) (Node.mk (State.mk (0 : Int) (0 : Int) (0 : Int) (0 : Int) (0 : Int) (0 : Int) (A3ofInt.mk (0 : Int) (0 : Int) (0 : Int))) (Action.mk (0 : Int) (0 : Int)) (0 : Int) false)).f_at) (fun (y9 : Bool) => brk (y9) (chk ((0 : Int) ≤ (getK kept y1).getD (Int.toNat y6.fst) (0 : Int) ∧ (getK kept y1).getD (Int.toNat y6.fst) (0 : Int) < (↑(List.length y6.snd) : Int)) (y8 (List.set y6.snd (Int.toNat ((getK kept y1).getD (Int.toNat y6.fst) (0 : Int))) (Node.mk (List.getD y6.snd (Int.toNat ((getK kept y1).getD (Int.toNat y6.fst) (0 : Int))) (Node.mk (State.mk (0 : Int) (0 : Int) (0 : Int) (0 : Int) (0 : Int) (0 : Int) (A3ofInt.mk (0 : Int) (0 : Int) (0 : Int))) (Action.mk (0 : Int) (0 : Int)) (0 : Int) false)).f_at (List.getD y6.snd (Int.toNat ((getK kept y1).getD (Int.toNat y6.fst) (0 : Int))) (Node.mk (State.mk (0 : Int) (0 : Int) (0 : Int) (0 : Int) (0 : Int) (0 : Int) (A3ofInt.mk (0 : Int) (0 : Int) (0 : Int))) (Action.mk (0 : Int) (0 : Int)) (0 : Int) false)).f_by (List.getD y6.snd (Int.toNat ((getK kept y1).getD (Int.toNat y6.fst) (0 : Int))) (Node.mk (State.mk (0 : Int) (0 : Int) (0 : Int) (0 : Int) (0 : Int) (0 : Int) (A3ofInt.mk (0 : Int) (0 : Int) (0 : Int))) (Action.mk (0 : Int) (0 : Int)) (0 : Int) false)).f_from false)))) (y8 (y6.snd))))))) (y5 (((-1 : Int), y6.snd)))) (F) (((0 : Int), all))))))) (F) ((0 : Int)))
structure Marked (t : State) (all0 all : List Node) (S : List Int) : Prop where
 len : all.length = all0.length
 at_ : ∀ i, i < all0.length → (nd all i).f_at = (nd all0 i).f_at ∧ (nd all i).f_by = (nd all0 i).f_by ∧ (nd all i).f_from = (nd all0 i).f_from
 live : ∀ i, i < all0.length → (nd all i).f_live = ((nd all0 i).f_live && !(decide ((i : Int) ∈ S) && coversS t (nd all0 i).f_at))
section
variable {t : State} {all0 all : List Node} {S : List Int}
theorem Marked.refl : Marked t all0 all0 [] := ⟨rfl, fun _ _ => ⟨rfl, rfl, rfl⟩, fun i _ => by simp⟩
theorem nd_set {i j : Nat} {x : Node} (h : i < all.length) : nd (all.set i x) j = if i = j then x else nd all j := getD_set' h
theorem Marked.hit {i0 : Nat} (h : Marked t all0 all S) (h0 : i0 < all0.length) (hc : coversS t (nd all0 i0).f_at = true) : Marked t all0 (all.set i0 ⟨(nd all i0).f_at, (nd all i0).f_by, (nd all i0).f_from, false⟩) (S ++ [(i0 : Int)]) := by
 have hl := h.len
 refine ⟨by rw [List.length_set, hl], fun i hi => ?_, fun i hi => ?_⟩
 ·rw [nd_set (by omega)]
  by_cases e : i0 = i
  ·subst e; rw [if_pos rfl]; exact h.at_ i0 hi
  ·rw [if_neg e]; exact h.at_ i hi
 ·rw [nd_set (by omega)]
  by_cases e : i0 = i
  ·subst e
   rw [if_pos rfl, hc]
   have : decide ((i0 : Int) ∈ S ++ [(i0 : Int)]) = true := by simp
   rw [this]
   simp
  ·rw [if_neg e, h.live i hi]
   have : decide ((i : Int) ∈ S ++ [(i0 : Int)]) = decide ((i : Int) ∈ S) := by
    have hne : ¬ (i : Int) = (i0 : Int) := by omega
    simp [hne]
   rw [this]
theorem Marked.miss {i0 : Nat} (h : Marked t all0 all S) (hc : coversS t (nd all0 i0).f_at = false) : Marked t all0 all (S ++ [(i0 : Int)]) := by
 refine ⟨h.len, h.at_, fun i hi => ?_⟩
 rw [h.live i hi]
 by_cases e : i0 = i
 ·subst e; rw [hc]; simp
 ·have : decide ((i : Int) ∈ S ++ [(i0 : Int)]) = decide ((i : Int) ∈ S) := by
   have hne : ¬ (i : Int) = (i0 : Int) := by omega
   simp [hne]
  rw [this]
def keepB (t : State) (all0 : List Node) (j : Int) : Bool := !coversS t (nd all0 j.toNat).f_at
structure AddRes (m : Machine) (a : Area) (s0 t : State) (all : List Node) (hours : List (List Int)) (all' : List Node) (hours' : List (List Int)) (kept' : List (Key × List Int)) : Prop where
 inv : SInv m a s0 all' hours' kept'
 len : all.length ≤ all'.length
 at_ : ∀ i, i < all.length → (nd all' i).f_at = (nd all i).f_at
 live : ∀ i, i < all.length → (nd all i).f_at.Hour ≠ t.Hour → (nd all' i).f_live = (nd all i).f_live
 new : ∀ i, all.length ≤ i → i < all'.length → (nd all' i).f_at = t
 rows : ∀ h : Nat, (h : Int) ≠ t.Hour → hours'.getD h [] = hours.getD h []
 covt : Cov all' t
 cov : ∀ u, Cov all u → Cov all' u
theorem SInv.sameK {m : Machine} {a : Area} {s0 : State} {hours : List (List Int)} {kept kept' : List (Key × List Int)} (h : SInv m a s0 all hours kept) (e : ∀ κ, getK kept' κ = getK kept κ) : SInv m a s0 all hours kept' :=
 ⟨h.ok, h.path, h.hlen, h.hmem, h.hall, h.hbd, fun κ j hj => h.kmem κ j (by rw [← e]; exact hj), fun i hi hl => by rw [e]; exact h.kall i hi hl, fun κ => by rw [e]; exact h.kbd κ, h.dist, h.cov⟩
theorem add_inv {m : Machine} {a : Area} {s0 : State} {hours : List (List Int)} {kept kept' : List (Key × List Int)} {act : Action} {j0 : Nat} (hf : Fit m a) (h : SInv m a s0 all0 hours kept) (ht : StOk m a t) (hj0 : j0 < all0.length) (hdo : doS m a (nd all0 j0).f_at act = (t, 0))
  (hno : ∀ j ∈ getK kept (keyOf t), coversS (nd all0 j.toNat).f_at t = false) (hm : Marked t all0 all (getK kept (keyOf t)))
  (hk : ∀ κ, getK kept' κ = if keyOf t = κ then (getK kept (keyOf t)).filter (keepB t all0) ++ [(all0.length : Int)] else getK kept κ) :
  AddRes m a s0 t all0 hours (all ++ [Node.mk t act (j0 : Int) true]) (hours.set t.Hour.toNat (hours.getD t.Hour.toNat [] ++ [(all0.length : Int)])) kept' := by
 have hl := hm.len
 have g1 : ∀ i, i < all0.length → nd (all ++ [Node.mk t act (j0 : Int) true]) i = nd all i := fun i hi => getD_append_left' (by omega)
 have g2 : nd (all ++ [Node.mk t act (j0 : Int) true]) all0.length = Node.mk t act (j0 : Int) true := by
  rw [← hl]; exact getD_append_here
 have glen : (all ++ [Node.mk t act (j0 : Int) true]).length = all0.length + 1 := by rw [List.length_append, hl]; rfl
 have gat : ∀ i, i < all0.length → (nd (all ++ [Node.mk t act (j0 : Int) true]) i).f_at = (nd all0 i).f_at := fun i hi => by rw [g1 i hi]; exact (hm.at_ i hi).1
 have glive : ∀ i, i < all0.length → (nd (all ++ [Node.mk t act (j0 : Int) true]) i).f_live = ((nd all0 i).f_live && !(decide ((i : Int) ∈ getK kept (keyOf t)) && coversS t (nd all0 i).f_at)) := fun i hi => by rw [g1 i hi]; exact hm.live i hi
 have hth := ht.hour
 have hlen := h.hlen
 have htl : t.Hour.toNat < hours.length := by omega
 have rows : ∀ q : Nat, (hours.set t.Hour.toNat (hours.getD t.Hour.toNat [] ++ [(all0.length : Int)])).getD q [] = if t.Hour.toNat = q then hours.getD t.Hour.toNat [] ++ [(all0.length : Int)] else hours.getD q [] := fun q => getD_set' htl
 -- a node that was not covered by the new one stays alive
 have stay : ∀ i, i < all0.length → (nd all0 i).f_live = true → coversS t (nd all0 i).f_at = false → (nd (all ++ [Node.mk t act (j0 : Int) true]) i).f_live = true := fun i hi h1 h2 => by rw [glive i hi, h1, h2]; simp
 have covmono : ∀ u, Cov all0 u → Cov (all ++ [Node.mk t act (j0 : Int) true]) u := by
  rintro u ⟨j, hj, hjl, hjc⟩
  by_cases hc : coversS t (nd all0 j).f_at = true
  ·exact ⟨all0.length, by omega, by rw [g2], by rw [g2]; exact covers_trans hc hjc⟩
  ·exact ⟨j, by omega, stay j hj hjl (by simpa using hc), by rw [gat j hj]; exact hjc⟩
 have fresh : ∀ i, i < all0.length → (nd all0 i).f_at ≠ t := by
  intro i hi e
  obtain ⟨j, hj, hjl, hjc⟩ := h.cov i hi
  rw [e] at hjc
  have hkj := h.kall j hj hjl
  rw [covers_key hjc] at hkj
  have := hno _ hkj
  rw [Int.toNat_natCast] at this
  rw [this] at hjc; cases hjc
 refine ⟨⟨?_, ?_, ?_, ?_, ?_, ?_, ?_, ?_, ?_, ?_, ?_⟩, by omega, gat, fun i hi hne => ?_, fun i h1 h2 => ?_, fun q hq => ?_, ⟨all0.length, by omega, by rw [g2], by rw [g2]; exact covers_refl⟩, covmono⟩
 ·intro i hi
  by_cases e : i < all0.length
  ·rw [gat i e]; exact h.ok i e
  ·obtain rfl : i = all0.length := by omega
   rw [g2]; exact ht
 ·intro i hi
  by_cases e : i < all0.length
  ·have ha := hm.at_ i e
   rw [gat i e, g1 i e, ha.2.1, ha.2.2]
   rcases h.path i e with ⟨p1, p2⟩ | ⟨j, p1, p2, p3⟩
   ·exact .inl ⟨p1, p2⟩
   ·exact .inr ⟨j, p1, p2, by rw [gat j (by omega)]; exact p3⟩
  ·obtain rfl : i = all0.length := by omega
   rw [g2]
   exact .inr ⟨j0, rfl, hj0, by rw [gat j0 hj0]; exact hdo⟩
 ·rw [List.length_set]; exact hlen
 ·intro q j hj
  rw [rows] at hj
  by_cases e : t.Hour.toNat = q
  ·rw [if_pos e] at hj
   rcases List.mem_append.1 hj with hj | hj
   ·obtain ⟨i, e1, e2, e3⟩ := h.hmem _ j hj
    exact ⟨i, e1, by omega, by rw [gat i e2, e3, e]⟩
   ·simp only [List.mem_singleton] at hj
    exact ⟨all0.length, hj, by omega, by rw [g2]; show t.Hour = _; omega⟩
  ·rw [if_neg e] at hj
   obtain ⟨i, e1, e2, e3⟩ := h.hmem _ j hj
   exact ⟨i, e1, by omega, by rw [gat i e2]; exact e3⟩
 ·intro i hi
  rw [rows]
  by_cases e : i < all0.length
  ·rw [gat i e]
   have := h.hall i e
   split
   ·rename_i e2
    rw [e2]
    exact List.mem_append_left _ this
   ·exact this
  ·obtain rfl : i = all0.length := by omega
   rw [g2, if_pos rfl]
   exact List.mem_append_right _ (by simp)
 ·intro q
  rw [rows, glen]
  split
  ·rw [List.length_append]
   have := h.hbd t.Hour.toNat
   simp only [List.length_singleton]; omega
  ·have := h.hbd q; omega
 ·intro κ j hj
  rw [hk] at hj
  by_cases e : keyOf t = κ
  ·rw [if_pos e] at hj
   rcases List.mem_append.1 hj with hj | hj
   ·rw [List.mem_filter] at hj
    obtain ⟨i, e1, e2, e3, e4⟩ := h.kmem _ j hj.1
    subst e1
    have hc : coversS t (nd all0 i).f_at = false := by simpa [keepB] using hj.2
    exact ⟨i, rfl, by omega, stay i e2 e3 hc, by rw [gat i e2, e4, e]⟩
   ·simp only [List.mem_singleton] at hj
    exact ⟨all0.length, hj, by omega, by rw [g2], by rw [g2]; exact e⟩
  ·rw [if_neg e] at hj
   obtain ⟨i, e1, e2, e3, e4⟩ := h.kmem _ j hj
   have hc : coversS t (nd all0 i).f_at = false := by
    cases q : coversS t (nd all0 i).f_at with
    | false => rfl
    | true => exact absurd ((covers_key q).trans e4) e
   exact ⟨i, e1, by omega, stay i e2 e3 hc, by rw [gat i e2]; exact e4⟩
 ·intro i hi hlv
  rw [hk]
  by_cases e : i < all0.length
  ·rw [glive i e] at hlv
   simp only [Bool.and_eq_true, Bool.not_eq_true', Bool.and_eq_false_iff, decide_eq_false_iff_not] at hlv
   rw [gat i e]
   have hk0 := h.kall i e hlv.1
   by_cases e2 : keyOf t = keyOf (nd all0 i).f_at
   ·rw [if_pos e2]
    rw [← e2] at hk0
    refine List.mem_append_left _ (List.mem_filter.2 ⟨hk0, ?_⟩)
    have := hlv.2.resolve_left (fun q => q hk0)
    simp [keepB, this]
   ·rw [if_neg e2]; exact hk0
  ·obtain rfl : i = all0.length := by omega
   rw [g2, if_pos rfl]
   exact List.mem_append_right _ (by simp)
 ·intro κ
  rw [hk, glen]
  split
  ·rw [List.length_append]
   have h1 := List.length_filter_le (keepB t all0) (getK kept (keyOf t))
   have h2 := h.kbd (keyOf t)
   simp only [List.length_singleton]; omega
  ·have := h.kbd κ; omega
 ·intro i j hi hj e
  by_cases e1 : i < all0.length
  ·by_cases e2 : j < all0.length
   ·rw [gat i e1, gat j e2] at e; exact h.dist i j e1 e2 e
   ·obtain rfl : j = all0.length := by omega
    rw [gat i e1, g2] at e
    exact absurd e (fresh i e1)
  ·obtain rfl : i = all0.length := by omega
   by_cases e2 : j < all0.length
   ·rw [gat j e2, g2] at e
    exact absurd e.symm (fresh j e2)
   ·omega
 ·intro i hi
  by_cases e : i < all0.length
  ·rw [gat i e]; exact covmono _ (h.cov i e)
  ·obtain rfl : i = all0.length := by omega
   rw [g2]
   exact ⟨all0.length, by omega, by rw [g2], by rw [g2]; exact covers_refl⟩
 ·rw [glive i hi]
  have : coversS t (nd all0 i).f_at = false := by
   cases q : coversS t (nd all0 i).f_at with
   | false => rfl
   | true => exact absurd (covers_iff.1 q).1.symm hne
  rw [this]; simp
 ·obtain rfl : i = all0.length := by omega
  rw [g2]
 ·rw [rows, if_neg (by omega)]
end
end Go.Proofs.Sc
namespace Go.Proofs.Sc
open Go Go.KX
section
variable {α : Type} {post : α → Prop} {F : Nat} {m : Machine} {a : Area} {s0 t : State} {all : List Node} {hours : List (List Int)} {kept : List (Key × List Int)}
theorem take_set_self {β : Type} {l : List β} {w : Nat} {v d : β} (hw : w < l.length) : (l.set w v).take (w + 1) = l.take w ++ [v] := by
 rw [take_succ' (d := d) (by rw [List.length_set]; exact hw), getD_set' hw, if_pos rfl, List.take_set, List.set_eq_of_length_le (by rw [List.length_take]; omega)]
theorem add_ok (hF : 10000000000 ≤ F) (hf : Fit m a) (hfew : Few m a) (h : SInv m a s0 all hours kept) {act : Action} {j0 : Nat} {hole : Int} (ht : StOk m a t) (hj0 : j0 < all.length) (hdo : doS m a (nd all j0).f_at act = (t, 0)) (hh : 0 ≤ hole ∧ t.Hour ≠ hole)
  {k : List Node × ((List (List Int) × Int) × List (Key × List Int)) → Option α}
  (hkk : ∀ all' hours' kept', (all' = all ∧ hours' = hours ∧ SInv m a s0 all hours kept' ∧ Cov all t) ∨ AddRes m a s0 t all hours all' hours' kept' → Go.KX.Ok post (k (all', ((hours', hole), kept')))) :
  Go.KX.Ok post (addM F a t act (j0 : Int) all hours hole kept k) := by
 have hcount := h.count hfew
 have hth := ht.hour
 have hlim := hf.limit
 unfold addM
 refine ok_bnde (b := keyOf t) rfl ?_
 have hN0 : ∀ (l : List Node) (j : Nat), l.getD j (Node.mk (State.mk 0 0 0 0 0 0 (A3ofInt.mk 0 0 0)) (Action.mk 0 0) 0 false) = nd l j := fun _ _ => rfl
 simp only [hN0]
 obtain ⟨KP, hKP⟩ : ∃ KP, getK kept (keyOf t) = KP := ⟨_, rfl⟩
 have hkm := h.kmem (keyOf t)
 have hkb := h.kbd (keyOf t)
 rw [hKP] at hkm hkb
 simp only [hKP]
 -- every index of the row is one of a node
 have hidx : ∀ i : Nat, i < KP.length → ∃ q : Nat, KP.getD i 0 = (q : Int) ∧ q < all.length ∧ (nd all q).f_live = true ∧ keyOf (nd all q).f_at = keyOf t := fun i hi => hkm _ (getD_mem hi)
 refine ok_upto (n := KP.length) (fun i => coversS (nd all (KP.getD i 0).toNat).f_at t = false) (by omega) (fun i hi _ next hn => ?_) (fun hnone next => brk_nlt ?_)
 ·obtain ⟨q, e1, e2, e3, e4⟩ := hidx i hi
  refine brk_lt hi (ok_chk ⟨by omega, by omega⟩ ?_)
  simp only [Int.toNat_natCast, e1] at hn ⊢
  refine ok_chk ⟨by omega, by omega⟩ (ok_bnde p_covers (ok_brk (fun hc => hkk _ _ _ (.inl ⟨rfl, rfl, h.sameK fun κ => ?_, ⟨q, e2, e3, hc⟩⟩)) (fun hc => ok_chk ⟨by omega, by omega⟩ (hn hc))))
  rw [← hKP]
  exact getK_upd
 have hno : ∀ j ∈ getK kept (keyOf t), coversS (nd all j.toNat).f_at t = false := by
  rw [hKP]
  intro j hj
  obtain ⟨i, hi, rfl⟩ := List.getElem_of_mem hj
  have := hnone i hi
  rwa [getD_get hi] at this
 refine ok_chk trivial (ok_join (by omega) (fun y : List Int × List Node => Marked t all y.2 KP ∧ y.1 = KP.filter (keepB t all)) (fun y hy => ?_) (fun k4 hk4 => ?_))
 ·-- the node is added
  obtain ⟨row, all'⟩ := y
  obtain ⟨hm, rfl⟩ := hy
  simp only at hm ⊢
  have hl := hm.len
  have hrow := h.hbd t.Hour.toNat
  have hg1 : getK (setK kept (keyOf t) (KP.filter (keepB t all))) (keyOf t) = KP.filter (keepB t all) := by rw [getK_set, if_pos rfl]
  have hfl := List.length_filter_le (keepB t all) KP
  have hlt : t.Hour < ((a.Limit + 1).toNat : Int) := by omega
  rw [hg1]
  refine ok_chk trivial (ok_chk (by simp only [List.length_singleton]; omega) (ok_chk trivial (ok_chk ⟨hth.1, hlt⟩ (ok_chk hh (ok_chk (by simp only [List.length_singleton]; omega) (ok_chk ⟨hth.1, hlt⟩ (ok_chk trivial (ok_chk (by simp only [List.length_singleton]; omega) (hkk _ _ _ (.inr ?_))))))))))
  rw [hl]
  exact add_inv hf h ht hj0 hdo hno (by rw [hKP]; exact hm) fun κ => by
   rw [getK_set]
   by_cases e : keyOf t = κ
   ·rw [if_pos e, if_pos e, hKP]
   ·rw [if_neg e, if_neg e, getK_ins, getK_set, if_neg e]
 ·-- the first one that is covered
  refine ok_join (by omega) (fun y : Int × List Node => (y.1 = -1 ∧ Marked t all y.2 KP ∧ ∀ j ∈ KP, keepB t all j = true) ∨ (∃ i : Nat, y.1 = (i : Int) ∧ i < KP.length ∧ Marked t all y.2 (KP.take (i + 1)) ∧ (∀ j ∈ KP.take i, keepB t all j = true) ∧ keepB t all (KP.getD i 0) = false)) (fun y hy => ?_) (fun k5 hk5 => ?_)
  ·obtain ⟨p, all1⟩ := y
   rcases hy with ⟨e, hm, hall⟩ | ⟨i, e, hi, hm, hpre, hcov⟩
   ·simp only at e hm ⊢
    subst e
    exact ok_brkT rfl (hk4 _ ⟨hm, (List.filter_eq_self.2 hall).symm⟩)
   ·simp only at e hm ⊢
    subst e
    refine ok_brkF (by simp only [beq_eq_false_iff_ne]; omega) (ok_chk ⟨by omega, by omega⟩ ?_)
    have htake : (KP.take (i + 1)).filter (keepB t all) = KP.take i := by
     rw [take_succ' (d := 0) hi, List.filter_append, List.filter_eq_self.2 hpre, List.filter_cons_of_neg (by rw [hcov]; exact Bool.false_ne_true), List.filter_nil, List.append_nil]
    have hpl : (KP.take i).length = i := by rw [List.length_take]; omega
    refine ok_loop (fun z : Int × Int × List Node × List Int => ∃ q w : Nat, z.1 = (q : Int) ∧ z.2.1 = (w : Int) ∧ i + 1 ≤ q ∧ q ≤ KP.length ∧ w < q ∧ Marked t all z.2.2.1 (KP.take q) ∧ z.2.2.2.length = KP.length ∧ z.2.2.2.take w = (KP.take q).filter (keepB t all) ∧ w = ((KP.take q).filter (keepB t all)).length ∧ ∀ r, q ≤ r → r < KP.length → z.2.2.2.getD r 0 = KP.getD r 0)
     (fun z => (KP.length - z.1).toNat) ⟨i + 1, i, rfl, rfl, Nat.le_refl _, by omega, by omega, hm, rfl, by rw [htake], by rw [htake, hpl], fun r _ _ => rfl⟩ (by simp only; omega) ?_
    rintro ⟨z1, z2, all2, row⟩ next ⟨q, w, e1, e2, hq1, hq2, hwq, hm2, hrl, htk, hwl, hrest⟩ hn
    simp only at e1 e2 hm2 hrl htk hrest hn ⊢
    subst e1; subst e2
    refine ok_brk (fun hc => ?_) (fun hc => ?_)
    ·have hc : (q : Int) < (row.length : Int) := of_decide_eq_true hc
     have hq : q < KP.length := by omega
     obtain ⟨x, f1, f2, f3, f4⟩ := hidx q hq
     have hrq : row.getD q 0 = (x : Int) := by rw [hrest q (Nat.le_refl _) hq, f1]
     refine ok_join (by omega) (fun z : Int × List Node × List Int => ∃ w' : Nat, z.1 = (w' : Int) ∧ w' < q + 1 ∧ Marked t all z.2.1 (KP.take (q + 1)) ∧ z.2.2.length = KP.length ∧ z.2.2.take w' = (KP.take (q + 1)).filter (keepB t all) ∧ w' = ((KP.take (q + 1)).filter (keepB t all)).length ∧ ∀ r, q + 1 ≤ r → r < KP.length → z.2.2.getD r 0 = KP.getD r 0) (fun z hz => ?_) (fun k8 hk8 => ?_)
     ·obtain ⟨w', h1, h2, h3, h4, h5, h6, h7⟩ := hz
      exact ok_chk ⟨by omega, by omega⟩ (hn _ ⟨q + 1, w', by show (q : Int) + 1 = _; omega, h1, by omega, by omega, h2, h3, h4, h5, h6, h7⟩ (by show (_ - ((q : Int) + 1)).toNat < (_ - (q : Int)).toNat; omega))
     ·refine ok_chk ⟨by omega, hc⟩ ?_
      simp only [Int.toNat_natCast, hrq]
      have hfq : (KP.take (q + 1)).filter (keepB t all) = (KP.take q).filter (keepB t all) ++ (if keepB t all (x : Int) = true then [(x : Int)] else []) := by
       rw [take_succ' (d := 0) hq, List.filter_append, f1]
       by_cases e : keepB t all (x : Int) = true
       ·rw [if_pos e]; simp [e]
       ·rw [if_neg e]; simp [e]
      have hml := hm2.len
      have hcx : coversS t (nd all2 x).f_at = coversS t (nd all x).f_at := by rw [(hm2.at_ x f2).1]
      refine ok_join (by omega) (fun z : List Node => Marked t all z (KP.take q ++ [(x : Int)])) (fun z hz => ?_) (fun k9 hk9 => ?_)
      ·have hzl := hz.len
       have hlv : (nd z x).f_live = keepB t all (x : Int) := by
        rw [hz.live x f2, f3]
        have : decide ((x : Int) ∈ KP.take q ++ [(x : Int)]) = true := by simp
        rw [this]; rfl
       have hz' : Marked t all z (KP.take (q + 1)) := by rw [take_succ' (d := 0) hq, f1]; exact hz
       refine ok_chk ⟨by omega, by omega⟩ (ok_brk (fun hb => ok_chk ⟨by omega, by omega⟩ (ok_chk ⟨by omega, by omega⟩ (hk8 _ ?_))) (fun hb => hk8 _ ?_))
       ·rw [hlv] at hb
        have hb : keepB t all (x : Int) = true := by simpa using hb
        rw [if_pos hb] at hfq
        refine ⟨w + 1, by show (w : Int) + 1 = _; omega, by omega, hz', by show (row.set w (x : Int)).length = _; rw [List.length_set]; exact hrl, ?_, ?_, fun r h1 h2 => ?_⟩
        ·show (row.set w (x : Int)).take (w + 1) = _
         rw [take_set_self (d := 0) (by omega), htk, hfq]
        ·rw [hfq, List.length_append, ← hwl]; rfl
        ·show (row.set w (x : Int)).getD r 0 = _
         rw [getD_set' (by omega), if_neg (by omega)]
         exact hrest r (by omega) h2
       ·rw [hlv] at hb
        have hb : ¬ keepB t all (x : Int) = true := by
         intro e; rw [e] at hb; simp at hb
        rw [if_neg hb, List.append_nil] at hfq
        exact ⟨w, rfl, by omega, hz', hrl, by rw [hfq]; exact htk, by rw [hfq]; exact hwl, fun r h1 h2 => hrest r (by omega) h2⟩
      ·refine ok_chk ⟨by omega, by omega⟩ (ok_bnde p_covers (ok_brk (fun hc => ok_chk ⟨by omega, by omega⟩ (hk9 _ ?_)) (fun hc => hk9 _ ?_)))
       ·exact hm2.hit f2 (by rw [← hcx]; exact hc)
       ·exact hm2.miss (by rw [← hcx]; exact hc)
    ·have hc := of_decide_eq_false hc
     obtain rfl : q = KP.length := by omega
     rw [List.take_length] at hm2 htk hwl
     have hle : w ≤ row.length := by omega
     have hcl : (clearL row w ((row.length : Int) - (w : Int)).toNat 0).length = row.length := by
      unfold clearL
      simp only [List.length_append, List.length_take, List.length_replicate, List.length_drop]
      omega
     refine ok_chk ⟨by omega, by omega, by omega⟩ ?_
     simp only [Int.toNat_natCast]
     refine ok_chk ⟨by omega, by rw [hcl]; omega⟩ (hk4 _ ⟨hm2, ?_⟩)
     show (clearL row w ((row.length : Int) - (w : Int)).toNat 0).take w = _
     rw [← htk]
     unfold clearL
     rw [List.take_append_of_le_length (by rw [List.length_take]; omega), List.take_take, Nat.min_self]
  ·refine ok_loop (fun z : Int × List Node => ∃ q : Nat, z.1 = (q : Int) ∧ q ≤ KP.length ∧ Marked t all z.2 (KP.take q) ∧ ∀ j ∈ KP.take q, keepB t all j = true) (fun z => (KP.length - z.1).toNat) ⟨0, rfl, by omega, Marked.refl, fun j hj => by simp at hj⟩ (by simp only; omega) ?_
   rintro ⟨z1, all2⟩ next ⟨q, e1, hq2, hm2, hpre⟩ hn
   simp only at e1 hm2 hpre hn ⊢
   subst e1
   refine ok_brk (fun hc => ?_) (fun hc => ?_)
   ·have hc : (q : Int) < (KP.length : Int) := of_decide_eq_true hc
    have hq : q < KP.length := by omega
    obtain ⟨x, f1, f2, f3, f4⟩ := hidx q hq
    have hml := hm2.len
    have hcx : coversS t (nd all2 x).f_at = coversS t (nd all x).f_at := by rw [(hm2.at_ x f2).1]
    refine ok_chk ⟨by omega, hc⟩ ?_
    simp only [Int.toNat_natCast, f1]
    refine ok_join (by omega) (fun z : List Node => Marked t all z (KP.take q ++ [(x : Int)])) (fun z hz => ?_) (fun k8 hk8 => ?_)
    ·have hzl := hz.len
     have hlv : (nd z x).f_live = keepB t all (x : Int) := by
      rw [hz.live x f2, f3]
      have : decide ((x : Int) ∈ KP.take q ++ [(x : Int)]) = true := by simp
      rw [this]; rfl
     have hz' : Marked t all z (KP.take (q + 1)) := by rw [take_succ' (d := 0) hq, f1]; exact hz
     refine ok_chk ⟨by omega, by omega⟩ (ok_brk (fun hb => hk5 _ (.inr ⟨q, rfl, hq, hz', hpre, ?_⟩)) (fun hb => ok_chk ⟨by omega, by omega⟩ (hn _ ⟨q + 1, by show (q : Int) + 1 = _; omega, by omega, hz', fun j hj => ?_⟩ (by show (_ - ((q : Int) + 1)).toNat < (_ - (q : Int)).toNat; omega))))
     ·rw [hlv] at hb
      rw [f1]
      simpa using hb
     ·rw [take_succ' (d := 0) hq, f1] at hj
      rcases List.mem_append.1 hj with hj | hj
      ·exact hpre j hj
      ·simp only [List.mem_singleton] at hj
       rw [hlv] at hb
       rw [hj]
       simpa using hb
    ·refine ok_chk ⟨by omega, by omega⟩ (ok_bnde p_covers (ok_brk (fun hc => ok_chk ⟨by omega, by omega⟩ (hk8 _ ?_)) (fun hc => hk8 _ ?_)))
     ·exact hm2.hit f2 (by rw [← hcx]; exact hc)
     ·exact hm2.miss (by rw [← hcx]; exact hc)
   ·have hc := of_decide_eq_false hc
    obtain rfl : q = KP.length := by omega
    rw [List.take_length] at hm2 hpre
    exact hk5 _ (.inl ⟨rfl, hm2, hpre⟩)
end
end Go.Proofs.Sc
namespace Go.Proofs.Sc
open Go Go.KX
structure Sim (m : Machine) (a : Area) (p : Machine) (b : Area) : Prop where
 tank : m.Tank ≤ p.Tank
 watch : m.Watch ≤ p.Watch
 wear : m.Wear ≤ p.Wear
 idle : p.Idle ≤ m.Idle
 steam : p.Steam ≤ m.Steam
 work : p.Work ≤ m.Work
 rest : p.Rest = m.Rest
 refit : p.Refit = m.Refit
 hours : b.Hours = a.Hours
 cases : b.Cases = a.Cases
 press : ∀ h : Int, 0 ≤ h → pressS b h ≤ pressS a h
 limit : a.Limit ≤ b.Limit
theorem Sim.refl {m : Machine} {a : Area} : Sim m a m a := ⟨Int.le_refl _, Int.le_refl _, Int.le_refl _, Int.le_refl _, Int.le_refl _, Int.le_refl _, rfl, rfl, rfl, rfl, fun _ _ => Int.le_refl _, Int.le_refl _⟩
theorem covers_iff' {s t : State} : coversS s t = true ↔ s.Hour = t.Hour ∧ s.Site = t.Site ∧ s.Notch = t.Notch ∧ s.Cases = t.Cases ∧ t.Fuel ≤ s.Fuel ∧ s.Awake ≤ t.Awake ∧ s.Worn ≤ t.Worn := by
 unfold coversS
 simp only [Bool.and_eq_true, decide_eq_true_eq, and_assoc]
theorem notch_then {m : Machine} {a : Area} {k n : Int} {t : State} : (thenS m a k n t).Notch = if k = 3 then n else if k = 4 then -1 else t.Notch := by
 unfold thenS
 repeat' split
 all_goals first | rfl | omega
section
variable {m p : Machine} {a b : Area} {u v : State} {x : Action}
theorem sim_step (hs : Sim m a p b) (hf : Fit m a) (hu : StOk m a u) (hc : coversS v u = true) (h : (doS m a u x).2 = 0) : (doS p b v x).2 = 0 ∧ coversS (doS p b v x).1 (doS m a u x).1 = true := by
 have e : doS m a u x = ((doS m a u x).1, 0) := by rw [← h]
 obtain ⟨hg, ht⟩ := doS_ok e
 obtain ⟨k, n⟩ := x
 have hg : Goes m a u k n := hg
 have ht : (doS m a u ⟨k, n⟩).1 = thenS m a k n (nextS m a u k n) := ht
 obtain ⟨c1, c2, c3, c4, c5, c6, c7⟩ := covers_iff'.1 hc
 have hpos := hours_pos hf hu hg
 have hcase : ∀ i : Int, caseS b i = caseS a i := fun i => by unfold caseS; rw [hs.cases]
 have hway : wayS b v n = wayS a u n := by unfold wayS hourS; rw [c3, c2, hs.hours]
 have hsit : sitesS b = sitesS a := by unfold sitesS; rw [hs.hours]
 have hho : hoursS p b v k n = hoursS m a u k n := by
  unfold hoursS
  rw [hway, hcase, hs.rest, hs.refit]
 have hbu : burnS p v k ≤ burnS m u k := by
  have h1 := hs.idle; have h2 := hs.steam; have h3 := hs.work
  unfold burnS
  rw [c3]
  repeat' split
  all_goals omega
 have hwo : worksS v k = worksS u k := by unfold worksS; rw [c3]
 have hcalm : ∀ q c : Int, calmS a u.Hour q c = true → calmS b v.Hour q c = true := fun q c hq => by
  rw [calmS_iff] at hq ⊢
  intro i h1 h2
  have h0 := hu.hour
  have := hs.press i (by omega)
  have := hq i (by omega) (by omega)
  omega
 have hmul : hoursS m a u k n * burnS p v k ≤ hoursS m a u k n * burnS m u k := Int.mul_le_mul_of_nonneg_left hbu (by omega)
 have g1 := hg.hour; have g2 := hg.fuel; have g3 := hg.awake; have g4 := hg.worn
 have s1 := hs.limit; have s2 := hs.watch; have s3 := hs.wear; have s4 := hs.tank
 have hneeds : needsS b v k n = true := by
  have hn := hg.needs
  unfold needsS at hn ⊢
  rw [c2, c3, c4, hcase, hcase, hway]
  split
  ·rename_i e1
   rw [if_pos e1] at hn
   simp only [Bool.and_eq_true, Bool.or_eq_true, decide_eq_true_eq] at hn ⊢
   exact ⟨hn.1, hn.2.imp_right (hcalm _ _)⟩
  rename_i e1
  rw [if_neg e1] at hn
  split
  ·rename_i e2
   rw [if_pos e2] at hn
   simp only [Bool.and_eq_true, decide_eq_true_eq] at hn ⊢
   exact ⟨hn.1, hcalm _ _ hn.2⟩
  rename_i e2
  rw [if_neg e2] at hn
  split
  ·rename_i e3
   rw [if_pos e3] at hn
   simp only [Bool.and_eq_true, decide_eq_true_eq] at hn ⊢
   exact ⟨hn.1, hcalm _ _ hn.2⟩
  rename_i e3
  rw [if_neg e3] at hn
  exact hn
 have hgo : Goes p b v k n := by
  refine ⟨hg.kind, ?_, fun h1 => by rw [c3]; exact hg.empty h1, hneeds, by rw [hho, c1]; omega, by rw [hho]; omega, ?_, ?_⟩
  ·have := hg.num
   unfold numS at this ⊢
   rw [hsit, hs.cases]; exact this
  ·rw [hho]; split
   ·rename_i q; have q' : sleepsS k = true := q; rw [if_pos q'] at g3; omega
   ·rename_i q; rw [if_neg q] at g3
    have : v.Awake + hoursS m a u k n ≤ u.Awake + hoursS m a u k n := by omega
    have g3' : u.Awake + hoursS m a u k n ≤ m.Watch := g3
    omega
  ·rw [hho, hwo]; split
   ·rename_i q; rw [if_pos q] at g4
    have g4' : u.Worn + hoursS m a u k n ≤ m.Wear := g4
    omega
   ·rename_i q; rw [if_neg q] at g4
    have g4' : u.Worn ≤ m.Wear := g4
    omega
 have hd := goes_do hgo
 rw [hd]
 refine ⟨rfl, ?_⟩
 rw [ht]
 simp only
 rw [covers_iff']
 refine ⟨?_, ?_, ?_, ?_, ?_, ?_, ?_⟩
 ·rw [hour_then, hour_then]
  show v.Hour + hoursS p b v k n = u.Hour + hoursS m a u k n
  rw [hho, c1]
 ·rw [site_then, site_then]
  split
  ·rfl
  ·exact c2
 ·rw [notch_then, notch_then]
  split
  ·rfl
  split
  ·rfl
  ·exact c3
 ·rw [cases_then, cases_then, hcase]
  have e1 : (nextS p b v k n).Cases = (nextS m a u k n).Cases := c4
  have e2 : (nextS p b v k n).Notch = (nextS m a u k n).Notch := c3
  rw [e1, e2]
 ·rw [fuel_then, fuel_then]
  split
  ·exact s4
  ·show u.Fuel - hoursS m a u k n * burnS m u k ≤ v.Fuel - hoursS p b v k n * burnS p v k
   rw [hho]; omega
 ·rw [awake_then, awake_then]
  show (if sleepsS k then 0 else v.Awake + hoursS p b v k n) ≤ (if sleepsS k then 0 else u.Awake + hoursS m a u k n)
  rw [hho]
  split <;> omega
 ·rw [worn_then, worn_then]
  split
  ·omega
  ·show (if worksS v k then v.Worn + hoursS p b v k n else v.Worn) ≤ (if worksS u k then u.Worn + hoursS m a u k n else u.Worn)
   rw [hho, hwo]
   split <;> omega
theorem finished_covers (hs : a.Cases = b.Cases) (hc : coversS v u = true) : finishedS b v = finishedS a u := by
 obtain ⟨_, c2, _, c4, _⟩ := covers_iff'.1 hc
 unfold finishedS
 rw [c2, c4, hs]
inductive Reach (m : Machine) (a : Area) (s : State) : State → Prop
 | refl : Reach m a s s
 | step {u : State} (x : Action) : Reach m a s u → (doS m a u x).2 = 0 → Reach m a s (doS m a u x).1
def runF (m : Machine) (a : Area) : State → List Action → Option State
 | u, [] => some u
 | u, x :: l => if (doS m a u x).2 = 0 then runF m a (doS m a u x).1 l else none
theorem reach_ok {s : State} (hf : Fit m a) (hs : StOk m a s) (h : Reach m a s u) : StOk m a u ∧ s.Hour ≤ u.Hour := by
 induction h with
 | refl => exact ⟨hs, Int.le_refl _⟩
 | step x hr h1 ih =>
  obtain ⟨i1, i2⟩ := ih
  obtain ⟨_, g2, _, g1⟩ := step_bd hf i1 h1
  exact ⟨g1, by omega⟩
theorem run_hours (hf : Fit m a) : ∀ {l : List Action} {u v : State}, StOk m a u → runF m a u l = some v → StOk m a v ∧ u.Hour + l.length ≤ v.Hour
 | [], u, v, hu, h => by cases h; exact ⟨hu, by simp⟩
 | x :: l, u, v, hu, h => by
  unfold runF at h
  split at h
  ·rename_i h1
   have e : doS m a u x = ((doS m a u x).1, 0) := by rw [← h1]
   obtain ⟨g1, g2⟩ := do_ok hf hu e
   obtain ⟨k1, k2⟩ := run_hours hf (l := l) g1 h
   exact ⟨k1, by simp only [List.length_cons]; omega⟩
  ·cases h
end
end Go.Proofs.Sc
namespace Go.Proofs.Sc
open Go Go.KX
def Exp (m : Machine) (a : Area) (all : List Node) (i : Nat) : Prop :=
 finishedS a (nd all i).f_at = false ∧ ∀ x, (doS m a (nd all i).f_at x).2 = 0 → Cov all (doS m a (nd all i).f_at x).1
def DoneTo (m : Machine) (a : Area) (all : List Node) (h : Int) : Prop := ∀ i, i < all.length → (nd all i).f_live = true → (nd all i).f_at.Hour < h → Exp m a all i
structure SCtx (m : Machine) (a : Area) (s : State) (h : Int) (ROW : List Int) (q : Nat) (all : List Node) (hours : List (List Int)) (kept : List (Key × List Int)) : Prop where
 inv : SInv m a s all hours kept
 row : hours.getD h.toNat [] = ROW
 done : DoneTo m a all h
 root : Cov all s
 prev : ∀ r, r < q → ∀ i : Nat, ROW.getD r 0 = (i : Int) → (nd all i).f_live = true → Exp m a all i
section
variable {F : Nat} {m : Machine} {a : Area} {s t : State} {all all' : List Node} {hours hours' : List (List Int)} {kept kept' : List (Key × List Int)} {h : Int} {ROW : List Int} {q : Nat}
theorem Exp.add (hr : AddRes m a s t all hours all' hours' kept') {i : Nat} (hi : i < all.length) (he : Exp m a all i) : Exp m a all' i := by
 unfold Exp at *
 rw [hr.at_ i hi]
 exact ⟨he.1, fun x hx => hr.cov _ (he.2 x hx)⟩
theorem SCtx.idx (hc : SCtx m a s h ROW q all hours kept) (h0 : 0 ≤ h) {r : Nat} (hr : r < ROW.length) : ∃ i : Nat, ROW.getD r 0 = (i : Int) ∧ i < all.length ∧ (nd all i).f_at.Hour = h := by
 have hm : ROW.getD r 0 ∈ hours.getD h.toNat [] := by rw [hc.row]; exact getD_mem hr
 obtain ⟨i, e1, e2, e3⟩ := hc.inv.hmem _ _ hm
 exact ⟨i, e1, e2, by rw [e3]; omega⟩
theorem SCtx.add (hc : SCtx m a s h ROW q all hours kept) (h0 : 0 ≤ h) (hq : q ≤ ROW.length) (hth : h < t.Hour) (hr : AddRes m a s t all hours all' hours' kept') : SCtx m a s h ROW q all' hours' kept' := by
 refine ⟨hr.inv, by rw [hr.rows _ (by omega)]; exact hc.row, fun i hi hl hlt => ?_, hr.cov _ hc.root, fun r hrq i hri hl => ?_⟩
 ·by_cases e : i < all.length
  ·rw [hr.at_ i e] at hlt
   rw [hr.live i e (by omega)] at hl
   exact (hc.done i e hl hlt).add hr e
  ·rw [hr.new i (by omega) hi] at hlt
   omega
 ·obtain ⟨i', e1, e2, e3⟩ := hc.idx h0 (show r < ROW.length by omega)
  obtain rfl : i' = i := by omega
  rw [hr.live i' e2 (by omega)] at hl
  exact (hc.prev r hrq i' e1 hl).add hr e2
theorem SCtx.same (hc : SCtx m a s h ROW q all hours kept) (hi : SInv m a s all hours kept') : SCtx m a s h ROW q all hours kept' := ⟨hi, hc.row, hc.done, hc.root, hc.prev⟩
theorem cov_reach (hf : Fit m a) (hs : StOk m a s) (hi : SInv m a s all hours kept) (hd : DoneTo m a all h) (h0 : Cov all s) {u : State} (hr : Reach m a s u) : u.Hour ≤ h → Cov all u := by
 induction hr with
 | refl => exact fun _ => h0
 | step x hr h1 ih =>
  intro hle
  have hu := (reach_ok hf hs hr).1
  obtain ⟨_, g2, _, g1⟩ := step_bd hf hu h1
  have g3 := (do_ok hf hu (x := x) (t := (doS m a _ x).1) (by rw [← h1])).2
  obtain ⟨j, j1, j2, j3⟩ := ih (by omega)
  have hh := (covers_iff.1 j3).1
  obtain ⟨_, e2⟩ := hd j j1 j2 (by omega)
  obtain ⟨k1, k2⟩ := sim_step Sim.refl hf hu j3 h1
  obtain ⟨i, i1, i2, i3⟩ := e2 x k1
  exact ⟨i, i1, i2, covers_trans i3 k2⟩
theorem none_before (hf : Fit m a) (hs : StOk m a s) (hi : SInv m a s all hours kept) (hd : DoneTo m a all h) (h0 : Cov all s) {u : State} (hr : Reach m a s u) (hfin : finishedS a u = true) : h ≤ u.Hour := by
 by_cases hlt : u.Hour < h
 ·exfalso
  obtain ⟨j, j1, j2, j3⟩ := cov_reach hf hs hi hd h0 hr (Int.le_of_lt hlt)
  have hh := (covers_iff.1 j3).1
  have he := (hd j j1 j2 (by omega)).1
  rw [finished_covers (a := a) (b := a) rfl j3, hfin] at he
  cases he
 ·omega
theorem act_small (hf : Fit m a) {u : State} {x : Action} (h : (doS m a u x).2 = 0) : (1 ≤ x.Kind ∧ x.Kind ≤ 8) ∧ 0 ≤ x.N ∧ x.N < 4 := by
 have e : doS m a u x = ((doS m a u x).1, 0) := by rw [← h]
 have g := (doS_ok e).1
 have hn := g.num
 have h1 := hf.sites; have h2 := hf.casesN
 unfold numS at hn
 refine ⟨g.kind, ?_⟩
 split at hn
 ·rw [inS_iff] at hn; omega
 split at hn
 ·rw [inS_iff] at hn; omega
 ·rw [decide_eq_true_eq] at hn; omega
abbrev SeT := List Node × ((List (List Int) × Int) × List (Key × List Int))
theorem expand_ok {α : Type} {post : α → Prop} (hF : 10000000000 ≤ F) (hf : Fit m a) (hfew : Few m a) (h0 : 0 ≤ h) (hq : q ≤ ROW.length) (hc : SCtx m a s h ROW q all hours kept) {c : Nat} (hcl : c < all.length) (hch : (nd all c).f_at.Hour = h) {K : SeT → Option α}
  (hK : ∀ all' hours' kept', SCtx m a s h ROW q all' hours' kept' → c < all'.length → (nd all' c).f_at = (nd all c).f_at → (nd all' c).f_live = (nd all c).f_live → (∀ x, (doS m a (nd all c).f_at x).2 = 0 → Cov all' (doS m a (nd all c).f_at x).1) → Go.KX.Ok post (K (all', ((hours', h), kept')))) :
  Go.KX.Ok post (loopC (fun (x : Int × SeT) next => brk (decide (x.1 ≤ 8)) (loopC (fun (y : Int × SeT) next2 => brk (decide (y.1 < 4)) (bnd (breaker_works_do F (m, a) (nd all c).f_at (Action.mk x.1 y.1)) fun r => brk (r.2 == 0) (join F (fun z => chk (InR (y.1 + 1)) (next2 (y.1 + 1, z))) fun k => addM F a r.1 (Action.mk x.1 y.1) (c : Int) y.2.1 y.2.2.1.1 y.2.2.1.2 y.2.2.2 k) (chk (InR (y.1 + 1)) (next2 (y.1 + 1, y.2))))
   (chk (InR (x.1 + 1)) (next (x.1 + 1, y.2)))) F (0, x.2)) (K x.2)) F (1, (all, ((hours, h), kept)))) := by
 have hst := hc.inv.ok c hcl
 refine ok_acc (n := 8) (fun i (acc : SeT) => acc.2.1.2 = h ∧ SCtx m a s h ROW q acc.1 acc.2.1.1 acc.2.2 ∧ all.length ≤ acc.1.length ∧ (nd acc.1 c).f_at = (nd all c).f_at ∧ (nd acc.1 c).f_live = (nd all c).f_live ∧ ∀ x, (doS m a (nd all c).f_at x).2 = 0 → x.Kind < 1 + (i : Int) → Cov acc.1 (doS m a (nd all c).f_at x).1) 1 (by omega)
  ⟨rfl, hc, Nat.le_refl _, rfl, rfl, fun x hx hlt => by have := (act_small hf hx).1; omega⟩ (fun i hi acc next hinv hn => ?_) (fun acc next hinv => ?_)
 ·refine ok_brkT (decide_eq_true (by show 1 + (i : Int) ≤ 8; omega)) ?_
  refine ok_acc (n := 4) (fun j (acc : SeT) => acc.2.1.2 = h ∧ SCtx m a s h ROW q acc.1 acc.2.1.1 acc.2.2 ∧ all.length ≤ acc.1.length ∧ (nd acc.1 c).f_at = (nd all c).f_at ∧ (nd acc.1 c).f_live = (nd all c).f_live ∧ ∀ x, (doS m a (nd all c).f_at x).2 = 0 → (x.Kind < 1 + (i : Int) ∨ (x.Kind = 1 + (i : Int) ∧ x.N < (j : Int))) → Cov acc.1 (doS m a (nd all c).f_at x).1) 0 (by omega)
   (by
    obtain ⟨i1, i2, i3, i4, i5, i6⟩ := hinv
    exact ⟨i1, i2, i3, i4, i5, fun x hx hlt => i6 x hx (by have := (act_small hf hx).2; omega)⟩) (fun j hj acc2 next2 hinv2 hn2 => ?_) (fun acc2 next2 hinv2 => ?_)
  ·obtain ⟨all2, ⟨hours2, hole⟩, kept2⟩ := acc2
   obtain ⟨rfl, j2, j3, j4, j5, j6⟩ := hinv2
   simp only at j2 j3 j4 j5 j6 hn2 ⊢
   rw [show (0 : Int) + (j : Int) = j by omega] at hn2 ⊢
   refine ok_brkT (decide_eq_true (by omega)) (ok_bnde (p_do (by omega) hf hst) (ok_brk (fun hr => ?_) (fun hr => ok_chk ⟨by omega, by omega⟩ (hn2 _ ⟨rfl, j2, j3, j4, j5, fun x hx hlt => ?_⟩))))
   ·have hr : (doS m a (nd all c).f_at ⟨1 + (i : Int), (j : Int)⟩).2 = 0 := by simpa using hr
    have e : doS m a (nd all c).f_at ⟨1 + (i : Int), (j : Int)⟩ = ((doS m a (nd all c).f_at ⟨1 + (i : Int), (j : Int)⟩).1, 0) := by rw [← hr]
    obtain ⟨g1, g2⟩ := do_ok hf hst e
    rw [hch] at g2
    have cover : ∀ all', (∀ u, Cov all2 u → Cov all' u) → Cov all' (doS m a (nd all c).f_at ⟨1 + (i : Int), (j : Int)⟩).1 → ∀ x, (doS m a (nd all c).f_at x).2 = 0 → (x.Kind < 1 + (i : Int) ∨ (x.Kind = 1 + (i : Int) ∧ x.N < ((j + 1 : Nat) : Int))) → Cov all' (doS m a (nd all c).f_at x).1 := fun all' hmono hnew x hx hlt => by
     by_cases e2 : x.Kind = 1 + (i : Int) ∧ x.N = (j : Int)
     ·obtain ⟨xk, xn⟩ := x
      obtain ⟨e3, e4⟩ := e2
      simp only at e3 e4
      subst e3; subst e4
      exact hnew
     ·exact hmono _ (j6 x hx (by omega))
    refine ok_join (by omega) (fun z : SeT => z.2.1.2 = hole ∧ SCtx m a s hole ROW q z.1 z.2.1.1 z.2.2 ∧ all.length ≤ z.1.length ∧ (nd z.1 c).f_at = (nd all c).f_at ∧ (nd z.1 c).f_live = (nd all c).f_live ∧ ∀ x, (doS m a (nd all c).f_at x).2 = 0 → (x.Kind < 1 + (i : Int) ∨ (x.Kind = 1 + (i : Int) ∧ x.N < ((j + 1 : Nat) : Int))) → Cov z.1 (doS m a (nd all c).f_at x).1) (fun z hz => ok_chk ⟨by omega, by omega⟩ (hn2 _ hz)) (fun k hk => ?_)
    refine add_ok hF hf hfew j2.inv (j0 := c) g1 (by omega) (by rw [j4, ← hr]) ⟨h0, by omega⟩ fun all' hours' kept' hcase => hk _ ?_
    rcases hcase with ⟨rfl, rfl, k1, k2⟩ | k1
    ·exact ⟨rfl, j2.same k1, j3, j4, j5, cover all' (fun _ hu => hu) k2⟩
    ·exact ⟨rfl, j2.add h0 hq (by omega) k1, Nat.le_trans j3 k1.len, by rw [k1.at_ c (by omega)]; exact j4, by rw [k1.live c (by omega) (by rw [j4]; omega)]; exact j5, cover all' k1.cov k1.covt⟩
   ·have hr : ¬ (doS m a (nd all c).f_at ⟨1 + (i : Int), (j : Int)⟩).2 = 0 := by simpa using hr
    by_cases e2 : x.Kind = 1 + (i : Int) ∧ x.N = (j : Int)
    ·obtain ⟨xk, xn⟩ := x
     obtain ⟨e3, e4⟩ := e2
     simp only at e3 e4
     subst e3; subst e4
     exact absurd hx hr
    ·exact j6 x hx (by omega)
  ·obtain ⟨j1, j2, j3, j4, j5, j6⟩ := hinv2
   refine ok_brkF (decide_eq_false (by show ¬ (0 : Int) + ((4 : Nat) : Int) < 4; omega)) (ok_chk ⟨by show _ ≤ 1 + (i : Int) + 1; omega, by show 1 + (i : Int) + 1 ≤ _; omega⟩ (hn _ ⟨j1, j2, j3, j4, j5, fun x hx hlt => j6 x hx ?_⟩))
   have := (act_small hf hx).2
   omega
 ·obtain ⟨all2, ⟨hours2, hole⟩, kept2⟩ := acc
  obtain ⟨rfl, j2, j3, j4, j5, j6⟩ := hinv
  simp only at j2 j3 j4 j5 j6 ⊢
  refine ok_brkF (decide_eq_false (by show ¬ (1 : Int) + ((8 : Nat) : Int) ≤ 8; omega)) (hK _ _ _ j2 (by omega) j4 j5 fun x hx => j6 x hx ?_)
  have := (act_small hf hx).1
  omega
end
end Go.Proofs.Sc
namespace Go.Proofs.Sc
open Go Go.KX
def FoundOk (m : Machine) (a : Area) (s : State) (r : List Action × Int × Int) : Prop :=
 (r.2.2 = 0 ∧ ∃ u, runF m a s r.1 = some u ∧ finishedS a u = true ∧ u.Hour = r.2.1 ∧ ∀ w, Reach m a s w → finishedS a w = true → r.2.1 ≤ w.Hour) ∨
 (r.2.2 = 4 ∧ r.1 = [] ∧ r.2.1 = 0 ∧ ∀ w, Reach m a s w → finishedS a w = false)
section
variable {F : Nat} {m : Machine} {a : Area} {s : State}
theorem inv_start (hf : Fit m a) (hs : StOk m a s) : SInv m a s [Node.mk s noAct (-1) true] ((List.replicate (a.Limit + 1).toNat ([] : List Int)).set s.Hour.toNat ((List.replicate (a.Limit + 1).toNat ([] : List Int)).getD s.Hour.toNat [] ++ [((0 : Nat) : Int)]))
  (setK (insK (setK ([] : List (Key × List Int)) (keyOf s) (getK ([] : List (Key × List Int)) (keyOf s))) (keyOf s)) (keyOf s) (getK (setK ([] : List (Key × List Int)) (keyOf s) (getK ([] : List (Key × List Int)) (keyOf s))) (keyOf s) ++ [((0 : Nat) : Int)])) := by
 have hh := hs.hour; have hl := hf.limit
 have hlt : s.Hour.toNat < (a.Limit + 1).toNat := by omega
 have e0 : ∀ q : Nat, (List.replicate (a.Limit + 1).toNat ([] : List Int)).getD q [] = [] := fun q => by
  rw [List.getD_eq_getElem?_getD, List.getElem?_replicate]
  split <;> rfl
 have rows : ∀ q : Nat, ((List.replicate (a.Limit + 1).toNat ([] : List Int)).set s.Hour.toNat ((List.replicate (a.Limit + 1).toNat ([] : List Int)).getD s.Hour.toNat [] ++ [((0 : Nat) : Int)])).getD q [] = if s.Hour.toNat = q then [((0 : Nat) : Int)] else [] := fun q => by
  rw [getD_set' (by rw [List.length_replicate]; exact hlt), e0, e0]; rfl
 have hk : ∀ κ, getK (setK (insK (setK ([] : List (Key × List Int)) (keyOf s) (getK ([] : List (Key × List Int)) (keyOf s))) (keyOf s)) (keyOf s) (getK (setK ([] : List (Key × List Int)) (keyOf s) (getK ([] : List (Key × List Int)) (keyOf s))) (keyOf s) ++ [((0 : Nat) : Int)])) κ = if keyOf s = κ then [((0 : Nat) : Int)] else [] := fun κ => by
  rw [getK_set]
  by_cases e : keyOf s = κ
  ·rw [if_pos e, if_pos e, getK_set, if_pos rfl]; rfl
  ·rw [if_neg e, if_neg e, getK_ins, getK_set, if_neg e]; rfl
 have n0 : nd [Node.mk s noAct (-1) true] 0 = Node.mk s noAct (-1) true := rfl
 have z : ∀ i : Nat, i < ([Node.mk s noAct (-1) true] : List Node).length → i = 0 := fun i hi => by simpa using hi
 refine ⟨fun i hi => ?_, fun i hi => ?_, by rw [List.length_set, List.length_replicate]; omega, fun q j hj => ?_, fun i hi => ?_, fun q => ?_, fun κ j hj => ?_, fun i hi hl => ?_, fun κ => ?_, fun i j hi hj _ => by rw [z i hi, z j hj], fun i hi => ?_⟩
 ·rw [z i hi]; exact hs
 ·rw [z i hi]; exact .inl ⟨rfl, rfl⟩
 ·rw [rows] at hj
  split at hj
  ·rename_i e
   simp only [List.mem_singleton] at hj
   exact ⟨0, hj, by simp, by show s.Hour = _; omega⟩
  ·simp at hj
 ·rw [z i hi, rows, if_pos (show s.Hour.toNat = (nd [Node.mk s noAct (-1) true] 0).f_at.Hour.toNat from rfl)]; simp
 ·rw [rows]; split <;> simp
 ·rw [hk] at hj
  split at hj
  ·rename_i e
   simp only [List.mem_singleton] at hj
   exact ⟨0, hj, by simp, rfl, e⟩
  ·simp at hj
 ·rw [z i hi, hk, if_pos (show keyOf s = keyOf (nd [Node.mk s noAct (-1) true] 0).f_at from rfl)]; simp
 ·rw [hk]; split <;> simp
 ·rw [z i hi]; exact ⟨0, by simp, rfl, covers_refl⟩
def SeOut (m : Machine) (a : Area) (s : State) (y : Int × List Node) : Prop :=
 ∃ hours kept, SInv m a s y.2 hours kept ∧ Cov y.2 s ∧ ((y.1 = -1 ∧ DoneTo m a y.2 (a.Limit + 1)) ∨ ∃ i : Nat, y.1 = (i : Int) ∧ i < y.2.length ∧ finishedS a (nd y.2 i).f_at = true ∧ DoneTo m a y.2 (nd y.2 i).f_at.Hour)
theorem search_ok {α : Type} {post : α → Prop} (hF : 10000000000 ≤ F) (hf : Fit m a) (hfew : Few m a) (hs : StOk m a s) {K : Int × List Node → Option α} (hK : ∀ y, SeOut m a s y → Go.KX.Ok post (K y)) {hours : List (List Int)} {kept : List (Key × List Int)} {all : List Node} (hi : SInv m a s all hours kept) (hroot : Cov all s) (hd : DoneTo m a all s.Hour) :
  Go.KX.Ok post (loopC (fun (x : Int × Int × List Node × List (List Int) × List (Key × List Int)) next => brk (decide (x.2.1 ≤ a.Limit)) (chk (0 ≤ x.2.1 ∧ x.2.1 < ((a.Limit + 1).toNat : Int)) (loopC (fun (y : Int × SeT) next2 => brk (decide (y.1 < ((List.getD x.2.2.2.1 x.2.1.toNat []).length : Int))) (join F (fun z => chk (InR (y.1 + 1)) (next2 (y.1 + 1, z))) fun k => chk (0 ≤ y.1 ∧ y.1 < ((List.getD x.2.2.2.1 x.2.1.toNat []).length : Int)) (chk (0 ≤ List.getD (List.getD x.2.2.2.1 x.2.1.toNat []) y.1.toNat 0 ∧ List.getD (List.getD x.2.2.2.1 x.2.1.toNat []) y.1.toNat 0 < (y.2.1.length : Int))
   (brk (!(nd y.2.1 (List.getD (List.getD x.2.2.2.1 x.2.1.toNat []) y.1.toNat 0).toNat).f_live) (k y.2) (chk (0 ≤ List.getD (List.getD x.2.2.2.1 x.2.1.toNat []) y.1.toNat 0 ∧ List.getD (List.getD x.2.2.2.1 x.2.1.toNat []) y.1.toNat 0 < (y.2.1.length : Int)) (bnd (breaker_works_finished F (m, a) (nd y.2.1 (List.getD (List.getD x.2.2.2.1 x.2.1.toNat []) y.1.toNat 0).toNat).f_at) fun b => brk b (K (List.getD (List.getD x.2.2.2.1 x.2.1.toNat []) y.1.toNat 0, y.2.1))
    (chk (0 ≤ List.getD (List.getD x.2.2.2.1 x.2.1.toNat []) y.1.toNat 0 ∧ List.getD (List.getD x.2.2.2.1 x.2.1.toNat []) y.1.toNat 0 < (y.2.1.length : Int)) (loopC (fun (w : Int × SeT) next3 => brk (decide (w.1 ≤ 8)) (loopC (fun (v : Int × SeT) next4 => brk (decide (v.1 < 4)) (bnd (breaker_works_do F (m, a) (nd y.2.1 (List.getD (List.getD x.2.2.2.1 x.2.1.toNat []) y.1.toNat 0).toNat).f_at (Action.mk w.1 v.1)) fun r => brk (r.2 == 0) (join F (fun z => chk (InR (v.1 + 1)) (next4 (v.1 + 1, z))) fun k => addM F a r.1 (Action.mk w.1 v.1) (List.getD (List.getD x.2.2.2.1 x.2.1.toNat []) y.1.toNat 0) v.2.1 v.2.2.1.1 v.2.2.1.2 v.2.2.2 k) (chk (InR (v.1 + 1)) (next4 (v.1 + 1, v.2))))
     (chk (InR (w.1 + 1)) (next3 (w.1 + 1, v.2)))) F (0, w.2)) (k w.2)) F (1, y.2))))))))
   (chk (InR (x.2.1 + 1)) (next (x.1, x.2.1 + 1, y.2.1, y.2.2.1.1.set y.2.2.1.2.toNat (List.getD x.2.2.2.1 x.2.1.toNat []), y.2.2.2)))) F (0, (x.2.2.1, ((x.2.2.2.1, x.2.1), x.2.2.2.2))))) (K (x.1, x.2.2.1))) F (-1, s.Hour, all, hours, kept)) := by
 have hsh := hs.hour; have hl := hf.limit
 refine ok_loop (fun x : Int × Int × List Node × List (List Int) × List (Key × List Int) => x.1 = -1 ∧ (s.Hour ≤ x.2.1 ∧ x.2.1 ≤ a.Limit + 1) ∧ SInv m a s x.2.2.1 x.2.2.2.1 x.2.2.2.2 ∧ Cov x.2.2.1 s ∧ DoneTo m a x.2.2.1 x.2.1) (fun x => (a.Limit + 1 - x.2.1).toNat) ⟨rfl, ⟨Int.le_refl _, by show s.Hour ≤ _; omega⟩, hi, hroot, hd⟩ (by show (a.Limit + 1 - s.Hour).toNat < F; omega) ?_
 rintro ⟨at0, h, all, hours, kept⟩ next ⟨rfl, ⟨q1, q2⟩, q3, q4, q5⟩ hn
 simp only at q1 q2 q3 q4 q5 hn ⊢
 refine ok_brk (fun hc => ?_) (fun hc => hK _ ⟨hours, kept, q3, q4, .inl ⟨rfl, ?_⟩⟩)
 ·have hc : h ≤ a.Limit := of_decide_eq_true hc
  obtain ⟨ROW, hROW⟩ : ∃ ROW, hours.getD h.toNat [] = ROW := ⟨_, rfl⟩
  simp only [hROW]
  have hrl : ROW.length ≤ 511248672 := by
   rw [← hROW]
   exact Nat.le_trans (q3.hbd _) (q3.count hfew)
  refine ok_chk ⟨by omega, by omega⟩ ?_
  refine ok_acc (n := ROW.length) (fun q (acc : SeT) => acc.2.1.2 = h ∧ SCtx m a s h ROW q acc.1 acc.2.1.1 acc.2.2) 0 (by omega) ⟨rfl, q3, hROW, q5, q4, fun r hr => by omega⟩ (fun q hq acc next2 hinv hn2 => ?_) (fun acc next2 hinv => ?_)
  ·obtain ⟨all2, ⟨hours2, hole⟩, kept2⟩ := acc
   obtain ⟨e, hctx⟩ := hinv
   simp only at e hctx hn2 ⊢
   subst e
   rw [show (0 : Int) + (q : Int) = q by omega] at hn2 ⊢
   obtain ⟨c, c1, c2, c3⟩ := hctx.idx (by omega) hq
   simp only [Int.toNat_natCast, c1]
   refine brk_lt hq (ok_join (by omega) (fun z : SeT => z.2.1.2 = hole ∧ SCtx m a s hole ROW (q + 1) z.1 z.2.1.1 z.2.2) (fun z hz => ok_chk ⟨by omega, by omega⟩ (hn2 _ hz)) (fun k hk => ok_chk ⟨by omega, by omega⟩ (ok_chk ⟨by omega, by omega⟩ (ok_brk (fun hlv => hk _ ⟨rfl, ?_⟩) (fun hlv => ok_chk ⟨by omega, by omega⟩ ?_)))))
   ·have hlv : (nd all2 c).f_live = false := by simpa using hlv
    refine ⟨hctx.inv, hctx.row, hctx.done, hctx.root, fun r hr i hri hl2 => ?_⟩
    by_cases e : r = q
    ·subst e
     obtain rfl : i = c := by omega
     rw [hlv] at hl2; cases hl2
    ·exact hctx.prev r (by omega) i hri hl2
   ·have hlv : (nd all2 c).f_live = true := by simpa using hlv
    refine ok_bnde (p_finished (by omega) hf) (ok_brk (fun hfin => hK _ ⟨hours2, kept2, hctx.inv, hctx.root, .inr ⟨c, rfl, c2, hfin, by rw [c3]; exact hctx.done⟩⟩) (fun hfin => ok_chk ⟨by omega, by omega⟩ ?_))
    refine expand_ok (m := m) (a := a) (s := s) (h := hole) (ROW := ROW) (q := q) (all := all2) (hours := hours2) (kept := kept2) hF hf hfew (by omega) (Nat.le_of_lt hq) hctx (c := c) c2 c3 (K := k) fun all' hours' kept' k1 k2 k3 k4 k5 => hk _ ⟨rfl, ?_⟩
    refine ⟨k1.inv, k1.row, k1.done, k1.root, fun r hr i hri hl2 => ?_⟩
    by_cases e : r = q
    ·subst e
     obtain rfl : i = c := by omega
     unfold Exp
     rw [k3]
     exact ⟨hfin, k5⟩
    ·exact k1.prev r (by omega) i hri hl2
  ·obtain ⟨all2, ⟨hours2, hole⟩, kept2⟩ := acc
   obtain ⟨e, hctx⟩ := hinv
   simp only at e hctx ⊢
   subst e
   have hset : hours2.set hole.toNat ROW = hours2 := by
    have hlen := hctx.inv.hlen
    rw [← hctx.row, List.getD_eq_getElem?_getD, List.getElem?_eq_getElem (by omega), Option.getD_some, List.set_getElem_self]
   rw [hset]
   refine ok_brkF (decide_eq_false (by show ¬ (0 : Int) + (ROW.length : Int) < ROW.length; omega)) (ok_chk ⟨by omega, by omega⟩ (hn _ ⟨rfl, ⟨by show s.Hour ≤ hole + 1; omega, by show hole + 1 ≤ _; omega⟩, hctx.inv, hctx.root, fun i hi hlv hlt => ?_⟩ (by show (a.Limit + 1 - (hole + 1)).toNat < (a.Limit + 1 - hole).toNat; omega)))
   by_cases e : (nd all2 i).f_at.Hour < hole
   ·exact hctx.done i hi hlv e
   ·have hlt' : (nd all2 i).f_at.Hour < hole + 1 := hlt
    have eh : (nd all2 i).f_at.Hour = hole := by omega
    have hm := hctx.inv.hall i hi
    rw [eh, hctx.row] at hm
    obtain ⟨r, hr, hri⟩ := List.getElem_of_mem hm
    exact hctx.prev r hr i (by rw [getD_get hr]; exact hri) hlv
 ·have hc := of_decide_eq_false hc
  have : h = a.Limit + 1 := by omega
  rw [this] at q5; exact q5
theorem back_run {all : List Node} {hours : List (List Int)} {kept : List (Key × List Int)} (hi : SInv m a s all hours kept) {u : State} {out : List Action} {c c' : Nat} (h : runF m a (nd all c).f_at out.reverse = some u) (hd : doS m a (nd all c').f_at (nd all c).f_by = ((nd all c).f_at, 0)) : runF m a (nd all c').f_at (out ++ [(nd all c).f_by]).reverse = some u := by
 rw [List.reverse_append, List.reverse_singleton, List.singleton_append, runF, hd, if_pos rfl]
 exact h
theorem find_ok (hF : 10000000000 ≤ F) (hf : Fit m a) (hfew : Few m a) (hs : StOk m a s) : Go.KX.Ok (FoundOk m a s) (breaker_Find F m a s) := by
 have hb : begunS m a s = 0 := by
  unfold begunS
  rw [if_neg (by simp [fit_check hf]), if_neg (by simp [stateS_iff.2 hs])]
 have hsh := hs.hour; have hl := hf.limit
 unfold breaker_Find
 refine start1 (err := fun e => some ([], 0, e)) (by omega) (fun e h1 h2 => absurd (h2.symm.trans hb) h1) (fun _ _ _ => ?_)
 have hlt : s.Hour < ((a.Limit + 1).toNat : Int) := by omega
 refine ok_chk ⟨by omega, by omega⟩ (ok_chk ⟨by omega, by omega, by omega⟩ (ok_bnde (b := keyOf s) rfl ?_))
 refine ok_upto (n := 0) (fun _ => True) (by omega) (fun i hi => by omega) (fun _ next => brk_nlt ?_)
 refine ok_chk rfl (ok_upto (n := 0) (fun _ => True) (by omega) (fun i hi => by omega) (fun _ next => brk_nlt ?_))
 have e0 : (List.replicate (a.Limit + 1).toNat ([] : List Int)).getD s.Hour.toNat [] = [] := by
  rw [List.getD_eq_getElem?_getD, List.getElem?_replicate]
  split <;> rfl
 refine ok_chk rfl (ok_chk (by rw [getK_set, if_pos rfl]; show 0 + 1 ≤ _; omega) (ok_chk rfl (ok_chk ⟨hsh.1, hlt⟩ (ok_chk (by rw [e0]; show 0 + 1 ≤ _; omega) (ok_chk ⟨hsh.1, hlt⟩ (ok_chk rfl (ok_chk (by show 1 ≤ _; omega) ?_)))))))
 refine ok_join (by omega) (SeOut m a s) (fun y hy => ?_) (fun k hk => ?_)
 ·obtain ⟨c, all⟩ := y
  obtain ⟨hours, kept, hi, hroot, hcase⟩ := hy
  simp only at hi hroot hcase ⊢
  have hcnt := hi.count hfew
  rcases hcase with ⟨rfl, hd⟩ | ⟨i, rfl, hil, hfin, hd⟩
  ·refine ok_brkT (decide_eq_true (by omega)) (ok_some (.inr ⟨rfl, rfl, rfl, fun w hw => ?_⟩))
   cases e : finishedS a w with
   | false => rfl
   | true =>
    have h1 := none_before hf hs hi hd hroot hw e
    have h2 := (reach_ok hf hs hw).1.hour
    omega
  ·refine ok_brkF (decide_eq_false (by omega)) (ok_chk ⟨by omega, by omega⟩ ?_)
   have hnd : ∀ j : Nat, all.getD j (Node.mk (State.mk 0 0 0 0 0 0 (A3ofInt.mk 0 0 0)) (Action.mk 0 0) 0 false) = nd all j := fun _ => rfl
   simp only [hnd, Int.toNat_natCast]
   refine ok_loop (fun x : Int × List Action => ∃ c : Nat, x.1 = (c : Int) ∧ c < all.length ∧ runF m a (nd all c).f_at x.2.reverse = some (nd all i).f_at) (fun x => x.1.toNat) ⟨i, rfl, hil, rfl⟩ (by simp only; omega) ?_
   rintro ⟨cc, out⟩ next ⟨c, e1, e2, e3⟩ hn
   simp only at e1 e3 hn ⊢
   subst e1
   have hrh := (run_hours hf (hi.ok c e2) e3).2
   rw [List.length_reverse] at hrh
   have hc0 := (hi.ok c e2).hour; have hi0 := (hi.ok i hil).hour
   simp only [Int.toNat_natCast]
   refine ok_chk ⟨by omega, by omega⟩ (ok_brk (fun hfr => ?_) (fun hfr => ?_))
   ·have hfr := of_decide_eq_true hfr
    rcases hi.path c e2 with ⟨p1, p2⟩ | ⟨j, p1, p2, p3⟩
    ·rw [p1] at hfr; omega
    ·rw [p1]
     exact ok_chk ⟨by omega, by omega⟩ (ok_chk (by simp only [List.length_singleton]; omega) (ok_chk ⟨by omega, by omega⟩ (hn _ ⟨j, rfl, by omega, back_run hi e3 p3⟩ (by show ((j : Int)).toNat < ((c : Int)).toNat; omega))))
   ·have hfr := of_decide_eq_false hfr
    have hroot2 : (nd all c).f_at = s := by
     rcases hi.path c e2 with ⟨p1, p2⟩ | ⟨j, p1, p2, p3⟩
     ·exact p2
     ·rw [p1] at hfr; omega
    rw [hroot2] at e3
    refine ok_chk ⟨by omega, by omega⟩ ?_
    have hol : out.length ≤ 60 := by omega
    have hx : ∀ (l : List Action) (j : Nat), l.getD j (Action.mk 0 0) = l.getD j noAct := fun _ _ => rfl
    simp only [hx]
    refine ok_loop (fun x : Int × Int × List Action => 0 ≤ x.1 ∧ x.1 + x.2.1 = (out.length : Int) - 1 ∧ x.1 ≤ x.2.1 + 2 ∧ x.2.2.length = out.length ∧ ∀ r : Nat, r < out.length → x.2.2.getD r noAct = if (r : Int) < x.1 ∨ x.2.1 < (r : Int) then out.getD (out.length - 1 - r) noAct else out.getD r noAct) (fun x => (x.2.1 - x.1 + 2).toNat) ⟨by simp, by simp, by show (0 : Int) ≤ (out.length : Int) - 1 + 2; omega, rfl, fun r hr => ?_⟩ (by show ((out.length : Int) - 1 - 0 + 2).toNat < F; omega) ?_
    ·rw [if_neg]
     show ¬ ((r : Int) < 0 ∨ (out.length : Int) - 1 < (r : Int))
     omega
    rintro ⟨x, y, l⟩ next3 ⟨w1, w2, w3, w4, w5⟩ hn3
    simp only at w1 w2 w3 w4 w5 hn3 ⊢
    refine ok_brk (fun hxy => ?_) (fun hxy => ok_some (.inl ⟨rfl, (nd all i).f_at, ?_, hfin, rfl, fun w hw hwf => none_before hf hs hi hd hroot hw hwf⟩))
    ·have hxy : x < y := of_decide_eq_true hxy
     obtain ⟨xn, rfl⟩ := Int.eq_ofNat_of_zero_le w1
     obtain ⟨yn, rfl⟩ := Int.eq_ofNat_of_zero_le (show 0 ≤ y by omega)
     refine ok_chk ⟨by omega, by omega⟩ (ok_chk ⟨by omega, by omega⟩ (ok_chk ⟨by omega, by omega⟩ (ok_chk ⟨by omega, by rw [List.length_set]; omega⟩ (ok_chk ⟨by omega, by omega⟩ (ok_chk ⟨by omega, by omega⟩ (hn3 _ ⟨by show 0 ≤ (xn : Int) + 1; omega, by show (xn : Int) + 1 + ((yn : Int) - 1) = _; omega, by show (xn : Int) + 1 ≤ (yn : Int) - 1 + 2; omega, ?_, fun r hr => ?_⟩ (by show ((yn : Int) - 1 - ((xn : Int) + 1) + 2).toNat < ((yn : Int) - (xn : Int) + 2).toNat; omega)))))))
     ·simp only [List.length_set]; exact w4
     ·simp only [Int.toNat_natCast]
      have hxv : l.getD xn noAct = out.getD xn noAct := by rw [w5 xn (by omega), if_neg (by omega)]
      have hyv : l.getD yn noAct = out.getD yn noAct := by rw [w5 yn (by omega), if_neg (by omega)]
      rw [getD_set' (by rw [List.length_set]; omega), getD_set' (by omega), hxv, hyv]
      by_cases r1 : yn = r
      ·subst r1
       rw [if_pos rfl, if_pos (by omega), show out.length - 1 - yn = xn by omega]
      ·rw [if_neg r1]
       by_cases r2 : xn = r
       ·subst r2
        rw [if_pos rfl, if_pos (by omega), show out.length - 1 - xn = yn by omega]
       ·rw [if_neg r2, w5 r hr]
        by_cases r3 : (r : Int) < (xn : Int) ∨ (yn : Int) < (r : Int)
        ·rw [if_pos r3, if_pos (by omega)]
        ·rw [if_neg r3, if_neg (by omega)]
    ·have hxy := of_decide_eq_false hxy
     have : l = out.reverse := by
      refine list_ext noAct (by rw [List.length_reverse]; exact w4) fun r hr => ?_
      have hr' : r < out.length := by omega
      rw [w5 r hr']
      have hrev : out.reverse.getD r noAct = out.getD (out.length - 1 - r) noAct := by
       rw [getD_get (by rw [List.length_reverse]; exact hr'), getD_get (by omega), List.getElem_reverse]
      rw [hrev]
      split
      ·rfl
      ·rw [show out.length - 1 - r = r by omega]
     show runF m a s l = _
     rw [this]; exact e3
 ·refine search_ok hF hf hfew hs (K := k) hk (inv_start hf hs) ⟨0, by simp, rfl, covers_refl⟩ (fun i hi hlv hlt => ?_)
  have : i = 0 := by simpa using hi
  subst this
  have hlt' : s.Hour < s.Hour := hlt
  omega
end
end Go.Proofs.Sc
namespace Go.Proofs.Sc
open Go Go.KX
section
variable {F : Nat} {m : Machine} {a : Area}
theorem start_ok (hf : Fit m a) : StOk m a ⟨0, 0, m.Tank, 0, 0, -1, ⟨0, 0, 0⟩⟩ := (begun_ok (beginS_ok (fit_check hf))).2
end
end Go.Proofs.Sc

namespace Go.Proofs.Sc.S
open Go Go.KX
theorem within_eq (F : Nat) (a b c : Int) : spill_within F a b c = some (decide (a ≥ b) && decide (a ≤ c)) := rfl
abbrev SpanOK (m : Int) (s : Span) : Prop := 0 ≤ s.Lo ∧ s.Lo ≤ s.Hi ∧ s.Hi ≤ m
theorem span_eq (F : Nat) (s : Span) (m : Int) : spill_span F s m = some (decide (SpanOK m s)) := by
 unfold spill_span
 rw [within_eq, bnd_so]
 cases h : (decide (s.Lo ≥ 0) && decide (s.Lo ≤ m)) with
 | true =>
  simp only [Bool.and_eq_true, decide_eq_true_eq] at h
  rw [brk_true, within_eq, bnd_so, Bool.true_and]
  congr 1
  rw [← Bool.decide_and]
  exact decide_eq_decide.2 ⟨fun h' => ⟨h.1, h'.1, h'.2⟩, fun h' => ⟨h'.2.1, h'.2.2⟩⟩
 | false =>
  simp only [Bool.and_eq_false_iff, decide_eq_false_iff_not] at h
  rw [brk_false, bnd_so, Bool.false_and]
  congr 1
  symm
  rw [decide_eq_false_iff_not]
  rintro ⟨h1, h2, h3⟩
  omega
def checkV (f : Field) : Int :=
 if ¬ (1 ≤ f.W ∧ f.W ≤ 8 ∧ 1 ≤ f.H ∧ f.H ≤ 8) then 6
 else if (f.Cells.length : Int) ≠ f.W * f.H then 1
 else if ∀ s ∈ f.Cells, SpanOK 1000000 s then 0 else 120
theorem mul_bound {w h : Int} (h1 : 1 ≤ w) (h2 : w ≤ 8) (h3 : 1 ≤ h) (h4 : h ≤ 8) : 1 ≤ w * h ∧ w * h ≤ 64 := by
 have : w = 1 ∨ w = 2 ∨ w = 3 ∨ w = 4 ∨ w = 5 ∨ w = 6 ∨ w = 7 ∨ w = 8 := by omega
 rcases this with rfl | rfl | rfl | rfl | rfl | rfl | rfl | rfl <;> omega
theorem find_ok {F : Nat} {m : Int} {l : List Span} {g : Nat → Span → Option Bool} (hg : ∀ s, g F s = some (!decide (SpanOK m s))) {α : Type} {post : α → Prop} (k : Int → Option α) (hF : l.length < F) (hl : l.length ≤ 1000000)
  (hk : ∀ i : Int, (0 ≤ i ↔ ¬ ∀ s ∈ l, SpanOK m s) → Ok post (k i)) :
  Ok post (loopC (fun (x_3 : Int) => fun x_4 => brk (decide (x_3 < (↑l.length : Int))) (chk ((0 : Int) ≤ x_3 ∧ x_3 < (↑l.length : Int)) (bnd (g F (Span.mk (l.getD (Int.toNat x_3) (Span.mk (0 : Int) (0 : Int))).Lo (l.getD (Int.toNat x_3) (Span.mk (0 : Int) (0 : Int))).Hi)) (fun (x_5 : Bool) => brk (x_5) (k (x_3)) (chk (InR (x_3 + (1 : Int))) (x_4 (x_3 + (1 : Int))))))) (k ((-1 : Int)))) (F) ((0 : Int))) := by
 refine ok_loop (fun i : Int => 0 ≤ i ∧ i ≤ l.length ∧ ∀ j : Nat, (j : Int) < i → SpanOK m (l.getD j ⟨0, 0⟩)) (fun i : Int => l.length - i.toNat) ⟨by omega, by omega, fun j hj => by omega⟩ (by simp; omega) fun i next ⟨h1, h2, h3⟩ hn => ?_
 refine ok_brk (fun hc => ?_) (fun hc => ?_)
 ·have hc : i < l.length := by simpa using hc
  have hi : i.toNat < l.length := by omega
  refine ok_chk ⟨h1, hc⟩ ?_
  rw [hg, bnd_so]
  refine ok_brk (fun hb => ?_) (fun hb => ?_)
  ·simp only [Bool.not_eq_true', decide_eq_false_iff_not] at hb
   exact hk i ⟨fun _ h => hb (h _ (getD_mem hi)), fun _ => h1⟩
  ·simp only [Bool.not_eq_false', decide_eq_true_eq] at hb
   refine ok_chk (by constructor <;> omega) (hn _ ⟨by omega, by omega, fun j hj => ?_⟩ (by omega))
   by_cases e : (j : Int) < i
   ·exact h3 j e
   ·obtain rfl : j = i.toNat := by omega
    exact hb
 ·have hc : ¬ i < l.length := by simpa using hc
  refine hk (-1) ⟨fun h => by omega, fun h => absurd (fun s hs => ?_) h⟩
  obtain ⟨j, hj, rfl⟩ := List.getElem_of_mem hs
  have := h3 j (by omega)
  rwa [getD_get hj] at this
theorem Check_eq {F : Nat} {f : Field} (hF : f.Cells.length < F) : spill_Check F f = some (checkV f) := by
 refine Ok.eq ?_
 unfold spill_Check
 rw [within_eq, bnd_so]
 have key : Ok (fun x => x = checkV f) (brk (!decide (1 ≤ f.W ∧ f.W ≤ 8) || !decide (1 ≤ f.H ∧ f.H ≤ 8)) (some ((6 : Int))) (chk (InR (f.W * f.H)) (brk ((↑f.Cells.length : Int) != f.W * f.H) (some ((1 : Int))) (join F (fun (x_2 : Int) => brk (decide (x_2 ≥ (0 : Int))) (some ((120 : Int))) (some ((0 : Int)))) (fun x_2 => loopC (fun (x_3 : Int) => fun x_4 => brk (decide (x_3 < (↑f.Cells.length : Int))) (chk ((0 : Int) ≤ x_3 ∧ x_3 < (↑f.Cells.length : Int)) (bnd (spill_Check_1 F (Span.mk (f.Cells.getD (Int.toNat x_3) (Span.mk (0 : Int) (0 : Int))).Lo (f.Cells.getD (Int.toNat x_3) (Span.mk (0 : Int) (0 : Int))).Hi)) (fun (x_5 : Bool) => brk (x_5) (x_2 (x_3)) (chk (InR (x_3 + (1 : Int))) (x_4 (x_3 + (1 : Int))))))) (x_2 ((-1 : Int)))) (F) ((0 : Int))))))) := by
  refine ok_brk (fun h => ok_some ?_) (fun h => ?_)
  ·rw [checkV, if_pos]
   simp only [Bool.or_eq_true, Bool.not_eq_true', decide_eq_false_iff_not] at h
   omega
  ·simp only [Bool.or_eq_false_iff, Bool.not_eq_false', decide_eq_true_eq] at h
   obtain ⟨hb1, hb2⟩ := mul_bound h.1.1 h.1.2 h.2.1 h.2.2
   have e1 : ¬ ¬ (1 ≤ f.W ∧ f.W ≤ 8 ∧ 1 ≤ f.H ∧ f.H ≤ 8) := by omega
   refine ok_chk (by constructor <;> omega) (ok_brk (fun h2 => ok_some ?_) (fun h2 => ?_))
   ·rw [checkV, if_neg e1, if_pos (by simpa using h2)]
   ·have h2 : (f.Cells.length : Int) = f.W * f.H := by simpa using h2
    refine ok_join (by omega) (fun i : Int => 0 ≤ i ↔ ¬ ∀ s ∈ f.Cells, SpanOK 1000000 s) (fun i hi => ?_) fun k hk => find_ok (g := spill_Check_1) (fun s => by unfold spill_Check_1; rw [span_eq, bnd_so]) k hF (by omega) hk
    refine ok_brk (fun h3 => ok_some ?_) (fun h3 => ok_some ?_)
    ·rw [checkV, if_neg e1, if_neg (fun h => h h2), if_neg (hi.1 (by simpa using h3))]
    ·rw [checkV, if_neg e1, if_neg (fun h => h h2), if_pos]
     exact Classical.not_not.1 fun h => absurd (hi.2 h) (by simpa using h3)
 have e : ∀ a b c : Int, (decide (a ≥ b) && decide (a ≤ c)) = decide (b ≤ a ∧ a ≤ c) := fun a b c => by rw [← Bool.decide_and]
 rw [e]
 by_cases h : 1 ≤ f.W ∧ f.W ≤ 8
 ·rw [decide_eq_true h] at key ⊢
  simp only [Bool.not_true, Bool.not_false, brk_true, within_eq, bnd_so, e]
  exact key
 ·rw [decide_eq_false h] at key ⊢
  simp only [Bool.not_false, Bool.not_true, brk_false, bnd_so] at key ⊢
  simpa only [Bool.true_or, brk_true] using key
structure FieldOK (f : Field) : Prop where
 w : 1 ≤ f.W ∧ f.W ≤ 8
 h : 1 ≤ f.H ∧ f.H ≤ 8
 len : (f.Cells.length : Int) = f.W * f.H
 cells : ∀ s ∈ f.Cells, SpanOK 1000000 s
theorem FieldOK.check {f : Field} (h : FieldOK f) : checkV f = 0 := by
 rw [checkV, if_neg (by have := h.w; have := h.h; omega), if_neg (fun e => e h.len), if_pos h.cells]
theorem FieldOK.small {f : Field} (h : FieldOK f) : 1 ≤ f.Cells.length ∧ f.Cells.length ≤ 64 := by
 have h1 := mul_bound h.w.1 h.w.2 h.h.1 h.h.2
 have := h.len
 omega
end Go.Proofs.Sc.S
namespace Go.Proofs.Sc.S
open Go Go.KX
abbrev d0 : A2ofInt := A2ofInt.mk (0 : Int) (0 : Int)
abbrev dirs : List A2ofInt := [A2ofInt.mk (0 : Int) (-1 : Int), A2ofInt.mk (1 : Int) (0 : Int), A2ofInt.mk (0 : Int) (1 : Int), A2ofInt.mk (-1 : Int) (0 : Int)]
def okD (W H c : Int) (d : A2ofInt) : Bool := (decide (c % W + d.a0 ≥ 0) && decide (c % W + d.a0 ≤ W - 1)) && (decide (c / W + d.a1 ≥ 0) && decide (c / W + d.a1 ≤ H - 1))
def toD (W c : Int) (d : A2ofInt) : Int := (c / W + d.a1) * W + (c % W + d.a0)
def nbl (W H c : Int) (l : List A2ofInt) : List Int := (l.filter (okD W H c)).map (toD W c)
def nb (W H c : Int) : List Int := nbl W H c dirs
def addAt (l : List Int) (k : Int) (v : Int) : List Int := l.set k.toNat (l.getD k.toNat 0 + v)
def adds : List Int → List (Int × Int) → List Int
 | l, [] => l
 | l, p :: cs => adds (addAt l p.1 p.2) cs
theorem adds_append : ∀ (cs ds : List (Int × Int)) (l : List Int), adds l (cs ++ ds) = adds (adds l cs) ds
 | [], _, _ => rfl
 | _ :: cs, ds, l => adds_append cs ds _
def give (f m : Int) : Int → List Int → List (Int × Int)
 | _, [] => []
 | i, k :: ks => (k, (f + i) / m) :: give f m (i + 1) ks
theorem give_append (f m : Int) : ∀ (ks : List Int) (i k : Int), give f m i (ks ++ [k]) = give f m i ks ++ [(k, (f + (i + ks.length)) / m)]
 | [], i, k => by simp [give]
 | q :: ks, i, k => by
  simp only [List.cons_append, give, give_append f m ks, List.length_cons]
  rw [show i + 1 + (ks.length : Int) = i + ((ks.length + 1 : Nat) : Int) by omega]
def offV (a c : Int) : Int := (if a - c > 0 then a - c else 0) / 2
def contr (W H c n s g : Int) : List (Int × Int) := if (nb W H c).length = 0 then [(c, n)] else (c, n - offV n s) :: give (offV n g) (nb W H c).length 0 (nb W H c)
def contrs (W H : Int) (am st gi : List Int) : Nat → List (Int × Int)
 | 0 => []
 | k + 1 => contrs W H am st gi k ++ contr W H k (am.getD k 0) (st.getD k 0) (gi.getD k 0)
def hourV (W H : Int) (am st gi : List Int) : List Int := adds (List.replicate am.length 0) (contrs W H am st gi am.length)
theorem off_eq {F : Nat} {a c : Int} (ha : 0 ≤ a ∧ a ≤ 1000000) (hc : 0 ≤ c ∧ c ≤ 1000000) : spill_off F a c = some (offV a c) := by
 unfold spill_off
 rw [chk_pos (by constructor <;> (first | omega | (dsimp only; omega))), chk_pos (by split <;> constructor <;> omega)]
 rfl
theorem offV_bound {a c : Int} (ha : 0 ≤ a ∧ a ≤ 1000000) (hc : 0 ≤ c) : 0 ≤ offV a c ∧ offV a c ≤ a ∧ offV a c ≤ 1000000 := by
 unfold offV
 split <;> refine ⟨by omega, by omega, by omega⟩
structure Good (L : Nat) (B : Int) (out : List Int) : Prop where
 len : out.length = L
 nn : ∀ x ∈ out, 0 ≤ x
 sum : sumL out ≤ B
theorem Good.get {L : Nat} {B : Int} {out : List Int} (h : Good L B out) (i : Nat) : 0 ≤ out.getD i 0 ∧ out.getD i 0 ≤ B :=
 ⟨getD_nonneg h.nn i, Int.le_trans (getD_le_sum h.nn i) h.sum⟩
theorem Good.mono {L : Nat} {B B' : Int} {out : List Int} (h : Good L B out) (hB : B ≤ B') : Good L B' out := ⟨h.len, h.nn, Int.le_trans h.sum hB⟩
theorem Good.addAt {L : Nat} {B V : Int} {out : List Int} {k v : Int} (h : Good L B out) (h1 : 0 ≤ k) (h2 : k < L) (h3 : 0 ≤ v) (h4 : v ≤ V) : Good L (B + V) (S.addAt out k v) := by
 have hk : k.toNat < out.length := by rw [h.len]; omega
 refine ⟨by rw [S.addAt, List.length_set, h.len], fun x hx => ?_, ?_⟩
 ·have := (h.get k.toNat).1
  rcases List.mem_or_eq_of_mem_set hx with hx | rfl
  ·exact h.nn x hx
  ·omega
 ·have := h.sum
  rw [S.addAt, sumL_set _ _ _ hk]; omega
theorem dirs_small : ∀ d ∈ dirs, -1 ≤ d.a0 ∧ d.a0 ≤ 1 ∧ -1 ≤ d.a1 ∧ d.a1 ≤ 1 := by decide
theorem pos_bound {W H c : Int} (hW : 1 ≤ W ∧ W ≤ 8) (hH : 1 ≤ H ∧ H ≤ 8) (hc : 0 ≤ c ∧ c < W * H) : 0 ≤ c % W ∧ c % W ≤ W - 1 ∧ 0 ≤ c / W ∧ c / W ≤ H - 1 := by
 have h1 := Int.emod_nonneg c (by omega : W ≠ 0)
 have h2 := Int.emod_lt_of_pos c (by omega : 0 < W)
 have h3 := Int.ediv_nonneg hc.1 (by omega : 0 ≤ W)
 have h4 := Int.ediv_lt_of_lt_mul (by omega : 0 < W) (show c < H * W by rw [Int.mul_comm]; exact hc.2)
 omega
theorem toD_bound {W H c : Int} {d : A2ofInt} (hW : 1 ≤ W ∧ W ≤ 8) (hH : 1 ≤ H ∧ H ≤ 8) (h : okD W H c d = true) : 0 ≤ (c / W + d.a1) * W ∧ (c / W + d.a1) * W ≤ 64 ∧ 0 ≤ toD W c d ∧ toD W c d < W * H := by
 simp only [okD, Bool.and_eq_true, decide_eq_true_eq] at h
 obtain ⟨⟨h1, h2⟩, h3, h4⟩ := h
 have h5 : 0 ≤ (c / W + d.a1) * W := Int.mul_nonneg h3 (by omega)
 have h6 : (c / W + d.a1) * W ≤ (H - 1) * W := Int.mul_le_mul_of_nonneg_right h4 (by omega)
 have h7 : (H - 1) * W = W * H - W := by rw [Int.sub_mul, Int.one_mul, Int.mul_comm]
 have h8 := mul_bound hW.1 hW.2 hH.1 hH.2
 refine ⟨h5, by omega, ?_, ?_⟩ <;> unfold toD <;> omega
theorem nbl_snoc (W H c : Int) (l : List A2ofInt) (d : A2ofInt) : nbl W H c (l ++ [d]) = bif okD W H c d then nbl W H c l ++ [toD W c d] else nbl W H c l := by
 unfold nbl
 rw [List.filter_append, List.map_append]
 cases h : okD W H c d <;> simp [h]
theorem nbl_mem {W H c : Int} (hW : 1 ≤ W ∧ W ≤ 8) (hH : 1 ≤ H ∧ H ≤ 8) {l : List A2ofInt} : ∀ k ∈ nbl W H c l, 0 ≤ k ∧ k < W * H := by
 intro k hk
 unfold nbl at hk
 simp only [List.mem_map, List.mem_filter] at hk
 obtain ⟨d, ⟨_, hd⟩, rfl⟩ := hk
 have := toD_bound hW hH hd
 exact ⟨this.2.2.1, this.2.2.2⟩
theorem brk_and {F : Nat} {b : Bool} {x m : Int} : brk b (spill_within F x 0 m) (some false) = some (b && (decide (x ≥ 0) && decide (x ≤ m))) := by
 cases b <;> rfl
theorem nbl_le4 (W H c : Int) (j : Nat) : (nbl W H c (dirs.take j)).length ≤ 4 := by
 unfold nbl
 rw [List.length_map]
 refine Nat.le_trans (List.length_filter_le _ _) ?_
 rw [List.length_take]; exact Nat.min_le_right _ _
theorem hour_eq {F : Nat} {f : Field} {am st gi : List Int} (hF : 100 < F) (hW : 1 ≤ f.W ∧ f.W ≤ 8) (hH : 1 ≤ f.H ∧ f.H ≤ 8) (hl : (am.length : Int) = f.W * f.H) (hs : st.length = am.length) (hg : gi.length = am.length)
  (ha : ∀ a ∈ am, 0 ≤ a ∧ a ≤ 1000000) (hst : ∀ a ∈ st, 0 ≤ a ∧ a ≤ 10000) (hgi : ∀ a ∈ gi, 0 ≤ a ∧ a ≤ 10000) :
  spill_grid_hour F f am st gi = some (hourV f.W f.H am st gi) ∧ Good am.length 1000000000 (hourV f.W f.H am st gi) := by
 have hL := mul_bound hW.1 hW.2 hH.1 hH.2
 suffices h : Ok (fun r => r = hourV f.W f.H am st gi ∧ Good am.length 1000000000 r) (spill_grid_hour F f am st gi) by
  obtain ⟨r, h1, rfl, h2⟩ := h
  exact ⟨h1, h2⟩
 unfold spill_grid_hour
 refine ok_chk (by omega) ?_
 refine ok_loop (fun x : Int × List Int => 0 ≤ x.1 ∧ x.1 ≤ am.length ∧ x.2 = adds (List.replicate am.length 0) (contrs f.W f.H am st gi x.1.toNat) ∧ Good am.length (x.1 * 10000000) x.2) (fun x : Int × List Int => am.length - x.1.toNat) ?_ (by simp; omega) ?_
 ·refine ⟨Int.le_refl _, by simp, rfl, by simp, fun x hx => ?_, ?_⟩
  ·have := List.eq_of_mem_replicate hx; omega
  ·rw [sumL_replicate0]; exact Int.le_refl _
 rintro ⟨c, out⟩ next ⟨h1, h2, h3, h4⟩ hn
 simp only at h1 h2 h3 h4
 refine ok_brk (fun hc => ?_) (fun hc => ok_some ?_)
 rotate_left
 ·have hc : ¬ c < am.length := by simpa using hc
  obtain rfl : c = am.length := by omega
  exact ⟨h3, h4.mono (by omega)⟩
 have hc : c < am.length := by simpa using hc
 have hcn : c.toNat < am.length := by omega
 obtain ⟨p1, p2, p3, p4⟩ := pos_bound hW hH ⟨h1, by omega⟩
 have hn1 := ha _ (getD_mem (d := 0) hcn)
 have hs1 := hst _ (getD_mem (i := c.toNat) (d := 0) (by omega))
 have hg1 := hgi _ (getD_mem (i := c.toNat) (d := 0) (by omega))
 have hcontr : contrs f.W f.H am st gi (c + 1).toNat = contrs f.W f.H am st gi c.toNat ++ contr f.W f.H c (am.getD c.toNat 0) (st.getD c.toNat 0) (gi.getD c.toNat 0) := by
  rw [show (c + 1).toNat = c.toNat + 1 by omega, contrs, show ((c.toNat : Nat) : Int) = c by omega]
 refine ok_join (by omega) (fun o : List Int => o = adds out (contr f.W f.H c (am.getD c.toNat 0) (st.getD c.toNat 0) (gi.getD c.toNat 0)) ∧ Good am.length ((c + 1) * 10000000) o) (fun o ho => ?_) fun k hk => ?_
 ·refine ok_chk (by constructor <;> (first | omega | (dsimp only; omega))) (hn _ ⟨by show 0 ≤ c + 1; omega, by show c + 1 ≤ _; omega, ?_, ho.2⟩ (by show am.length - (c + 1).toNat < am.length - c.toNat; omega))
  show o = _
  rw [hcontr, adds_append, ← h3]; exact ho.1
 refine ok_chk ⟨h1, hc⟩ (ok_chk (by constructor <;> (first | omega | (dsimp only; omega))) (ok_chk (by constructor <;> (first | omega | (dsimp only; omega))) ?_))
 have dsm : ∀ j : Nat, j < 4 → -1 ≤ (dirs.getD j d0).a0 ∧ (dirs.getD j d0).a0 ≤ 1 ∧ -1 ≤ (dirs.getD j d0).a1 ∧ (dirs.getD j d0).a1 ≤ 1 := fun j hj => dirs_small _ (getD_mem (l := dirs) hj)
 refine ok_loop (fun x : Int × Int × Int => 0 ≤ x.2.1 ∧ x.2.1 ≤ 4 ∧ x.1 = (nbl f.W f.H c (dirs.take x.2.1.toNat)).length ∧ x.2.2 = x.1) (fun x : Int × Int × Int => 4 - x.2.1.toNat) ⟨by simp, by simp, rfl, rfl⟩ (by simp; omega) ?_
 rintro ⟨q, j, i⟩ next1 ⟨g1, g2, g3, g4⟩ hn1'
 simp only at g1 g2 g3 g4
 subst g4
 have l4 := nbl_le4 f.W f.H c j.toNat
 refine ok_brk (fun hj => ?_) (fun hj => ?_)
 ·have hj : j < 4 := by simpa using hj
  have ht : dirs.take (j + 1).toNat = dirs.take j.toNat ++ [dirs.getD j.toNat d0] := by
   rw [show (j + 1).toNat = j.toNat + 1 by omega]; exact take_succ' (l := dirs) (by show j.toNat < 4; omega)
  obtain ⟨q1, q2, q3, q4⟩ := dsm j.toNat (by omega)
  refine ok_join (by omega) (fun y : Int × Int => y.1 = (nbl f.W f.H c (dirs.take (j + 1).toNat)).length ∧ y.2 = y.1) (fun y hy => ?_) fun k1 hk1 => ?_
  ·exact ok_chk (by constructor <;> (first | omega | (dsimp only; omega))) (hn1' _ ⟨by show 0 ≤ j + 1; omega, by show j + 1 ≤ 4; omega, hy.1, hy.2⟩ (by show 4 - (j + 1).toNat < 4 - j.toNat; omega))
  have i5 : InR (c % f.W + (dirs.getD j.toNat d0).a0) := ⟨by omega, by omega⟩
  have i6 : InR (c / f.W + (dirs.getD j.toNat d0).a1) := ⟨by omega, by omega⟩
  refine ok_chk ⟨g1, hj⟩ (ok_chk i5 (ok_chk i6 (ok_chk (by constructor <;> (first | omega | (dsimp only; omega))) ?_)))
  rw [within_eq, bnd_so]
  refine ok_chk (fun _ => by constructor <;> omega) ?_
  rw [brk_and, bnd_so, Bool.and_self_left]
  rw [ht, nbl_snoc] at hk1
  refine ok_brk (fun hb => ?_) (fun hb => ?_)
  ·have hb : okD f.W f.H c (dirs.getD j.toNat d0) = true := hb
   obtain ⟨b1, b2, b3, b4⟩ := toD_bound hW hH hb
   rw [hb, cond_true] at hk1
   unfold toD at b3 b4
   have i1 : InR ((c / f.W + (dirs.getD j.toNat d0).a1) * f.W) := ⟨by omega, by omega⟩
   have i2 : InR ((c / f.W + (dirs.getD j.toNat d0).a1) * f.W + (c % f.W + (dirs.getD j.toNat d0).a0)) := ⟨by omega, by omega⟩
   refine ok_chk i1 (ok_chk i2 (ok_chk (by constructor <;> (first | omega | (dsimp only; omega))) (ok_chk (by constructor <;> (first | omega | (dsimp only; omega))) (hk1 _ ⟨?_, rfl⟩))))
   simp only [List.length_append, List.length_singleton]; omega
  ·have hb : okD f.W f.H c (dirs.getD j.toNat d0) = false := hb
   rw [hb, cond_false] at hk1
   exact hk1 _ ⟨g3, rfl⟩
 have hj : ¬ j < 4 := by simpa using hj
 obtain rfl : j = 4 := by omega
 have g3 : i = (nb f.W f.H c).length := g3
 have hcb := h4.get c.toNat
 have hmem : ∀ k ∈ nb f.W f.H c, 0 ≤ k ∧ k < f.W * f.H := nbl_mem hW hH
 refine ok_brk (fun hz => ?_) (fun hz => ?_)
 ·have hz : i = 0 := by simpa using hz
  have e : contr f.W f.H c (am.getD c.toNat 0) (st.getD c.toNat 0) (gi.getD c.toNat 0) = [(c, am.getD c.toNat 0)] := by rw [contr, if_pos (by omega)]
  refine ok_chk ⟨h1, by rw [h4.len]; exact hc⟩ (ok_chk (by constructor <;> (first | omega | (dsimp only; omega))) (ok_chk ⟨h1, by rw [h4.len]; exact hc⟩ (hk _ ?_)))
  rw [e]
  exact ⟨rfl, (h4.addAt h1 hc hn1.1 hn1.2).mono (by omega)⟩
 have hz : ¬ i = 0 := by simpa using hz
 have hob := offV_bound hn1 hs1.1
 have hog := offV_bound hn1 hg1.1
 have e : contr f.W f.H c (am.getD c.toNat 0) (st.getD c.toNat 0) (gi.getD c.toNat 0) = (c, am.getD c.toNat 0 - offV (am.getD c.toNat 0) (st.getD c.toNat 0)) :: give (offV (am.getD c.toNat 0) (gi.getD c.toNat 0)) i 0 (nb f.W f.H c) := by
  rw [contr, if_neg (by omega), g3]
 have hbase := h4.addAt (k := c) (v := am.getD c.toNat 0 - offV (am.getD c.toNat 0) (st.getD c.toNat 0)) (V := 1000000) h1 hc (by omega) (by omega)
 refine ok_chk ⟨h1, by rw [h4.len]; exact hc⟩ (ok_chk ⟨h1, by rw [hs]; exact hc⟩ ?_)
 have hs2 : 0 ≤ st.getD c.toNat 0 ∧ st.getD c.toNat 0 ≤ 1000000 := ⟨hs1.1, by omega⟩
 have hg2 : 0 ≤ gi.getD c.toNat 0 ∧ gi.getD c.toNat 0 ≤ 1000000 := ⟨hg1.1, by omega⟩
 refine ok_bnde (off_eq hn1 hs2) ?_
 have i7 : InR (am.getD c.toNat 0 - offV (am.getD c.toNat 0) (st.getD c.toNat 0)) := ⟨by omega, by omega⟩
 have i8 : InR (out.getD c.toNat 0 + (am.getD c.toNat 0 - offV (am.getD c.toNat 0) (st.getD c.toNat 0))) := ⟨by omega, by omega⟩
 refine ok_chk i7 (ok_chk i8 (ok_chk ⟨h1, by rw [h4.len]; exact hc⟩ (ok_chk ⟨h1, by rw [hg]; exact hc⟩ ?_)))
 refine ok_bnde (off_eq hn1 hg2) ?_
 refine ok_chk (by constructor <;> (first | omega | (dsimp only; omega))) (ok_chk (by constructor <;> (first | omega | (dsimp only; omega))) ?_)
 refine ok_loop (fun x : Int × Int × List Int => 0 ≤ x.2.1 ∧ x.2.1 ≤ 4 ∧ x.1 = (nbl f.W f.H c (dirs.take x.2.1.toNat)).length ∧
  x.2.2 = adds (addAt out c (am.getD c.toNat 0 - offV (am.getD c.toNat 0) (st.getD c.toNat 0))) (give (offV (am.getD c.toNat 0) (gi.getD c.toNat 0)) i 0 (nbl f.W f.H c (dirs.take x.2.1.toNat))) ∧
  Good am.length (c * 10000000 + 1000000 + x.2.1 * 2000000) x.2.2) (fun x : Int × Int × List Int => 4 - x.2.1.toNat) ⟨by simp, by simp, rfl, rfl, hbase.mono (by simp)⟩ (by simp; omega) ?_
 rintro ⟨p, j, o⟩ next2 ⟨k1, k2, k3, k4, k5⟩ hn2
 simp only at k1 k2 k3 k4 k5
 have l4' := nbl_le4 f.W f.H c j.toNat
 refine ok_brk (fun hj => ?_) (fun hj => ?_)
 ·have hj : j < 4 := by simpa using hj
  have ht : dirs.take (j + 1).toNat = dirs.take j.toNat ++ [dirs.getD j.toNat d0] := by
   rw [show (j + 1).toNat = j.toNat + 1 by omega]; exact take_succ' (l := dirs) (by show j.toNat < 4; omega)
  obtain ⟨q1, q2, q3, q4⟩ := dsm j.toNat (by omega)
  refine ok_join (by omega) (fun y : Int × List Int => y.1 = (nbl f.W f.H c (dirs.take (j + 1).toNat)).length ∧
   y.2 = adds (addAt out c (am.getD c.toNat 0 - offV (am.getD c.toNat 0) (st.getD c.toNat 0))) (give (offV (am.getD c.toNat 0) (gi.getD c.toNat 0)) i 0 (nbl f.W f.H c (dirs.take (j + 1).toNat))) ∧
   Good am.length (c * 10000000 + 1000000 + (j + 1) * 2000000) y.2) (fun y hy => ?_) fun k6 hk6 => ?_
  ·exact ok_chk (by constructor <;> (first | omega | (dsimp only; omega))) (hn2 _ ⟨by show 0 ≤ j + 1; omega, by show j + 1 ≤ 4; omega, hy.1, hy.2⟩ (by show 4 - (j + 1).toNat < 4 - j.toNat; omega))
  have i5 : InR (c % f.W + (dirs.getD j.toNat d0).a0) := ⟨by omega, by omega⟩
  have i6 : InR (c / f.W + (dirs.getD j.toNat d0).a1) := ⟨by omega, by omega⟩
  refine ok_chk ⟨k1, hj⟩ (ok_chk i5 (ok_chk i6 (ok_chk (by constructor <;> (first | omega | (dsimp only; omega))) ?_)))
  rw [within_eq, bnd_so]
  refine ok_chk (fun _ => by constructor <;> omega) ?_
  rw [brk_and, bnd_so, Bool.and_self_left]
  rw [ht, nbl_snoc] at hk6
  refine ok_brk (fun hb => ?_) (fun hb => ?_)
  ·have hb : okD f.W f.H c (dirs.getD j.toNat d0) = true := hb
   obtain ⟨b1, b2, b3, b4⟩ := toD_bound hW hH hb
   rw [hb, cond_true] at hk6
   have b3' := b3
   have b4' := b4
   unfold toD at b3 b4
   have hgo := k5.get (toD f.W c (dirs.getD j.toNat d0)).toNat
   unfold toD at hgo
   have hdiv0 : 0 ≤ (offV (am.getD c.toNat 0) (gi.getD c.toNat 0) + p) / i := Int.ediv_nonneg (by omega) (by omega)
   have hdiv1 : (offV (am.getD c.toNat 0) (gi.getD c.toNat 0) + p) / i ≤ offV (am.getD c.toNat 0) (gi.getD c.toNat 0) + p := Int.ediv_le_self _ (by omega)
   have i1 : InR ((c / f.W + (dirs.getD j.toNat d0).a1) * f.W) := ⟨by omega, by omega⟩
   have i2 : InR ((c / f.W + (dirs.getD j.toNat d0).a1) * f.W + (c % f.W + (dirs.getD j.toNat d0).a0)) := ⟨by omega, by omega⟩
   have i3 : 0 ≤ (c / f.W + (dirs.getD j.toNat d0).a1) * f.W + (c % f.W + (dirs.getD j.toNat d0).a0) ∧ (c / f.W + (dirs.getD j.toNat d0).a1) * f.W + (c % f.W + (dirs.getD j.toNat d0).a0) < (o.length : Int) := ⟨b3, by rw [k5.len]; omega⟩
   have i4 : InR (o.getD ((c / f.W + (dirs.getD j.toNat d0).a1) * f.W + (c % f.W + (dirs.getD j.toNat d0).a0)).toNat 0 + (offV (am.getD c.toNat 0) (gi.getD c.toNat 0) + p) / i) := ⟨by omega, by omega⟩
   refine ok_chk i1 (ok_chk i2 (ok_chk i3 (ok_chk (by constructor <;> (first | omega | (dsimp only; omega))) (ok_chk (by constructor <;> (first | omega | (dsimp only; omega))) (ok_chk i4 (ok_chk i3 (ok_chk (by constructor <;> (first | omega | (dsimp only; omega))) (hk6 _ ⟨?_, ?_, ?_⟩))))))))
   ·simp only [List.length_append, List.length_singleton]; omega
   ·rw [give_append, adds_append, ← k4, Int.zero_add, ← k3]
    rfl
   ·exact (k5.addAt (k := toD f.W c (dirs.getD j.toNat d0)) (V := 2000000) b3' (by omega) hdiv0 (by omega)).mono (by omega)
  ·have hb : okD f.W f.H c (dirs.getD j.toNat d0) = false := hb
   rw [hb, cond_false] at hk6
   exact hk6 _ ⟨k3, k4, k5.mono (by omega)⟩
 have hj : ¬ j < 4 := by simpa using hj
 obtain rfl : j = 4 := by omega
 refine hk _ ⟨?_, k5.mono (by omega)⟩
 rw [e]
 exact k4
end Go.Proofs.Sc.S
namespace Go.Proofs.Sc.S
open Go Go.KX
def LeL (l r : List Int) : Prop := l.length = r.length ∧ ∀ i, l.getD i 0 ≤ r.getD i 0
inductive LeC : List (Int × Int) → List (Int × Int) → Prop
 | nil : LeC [] []
 | cons {k v v' : Int} {l r : List (Int × Int)} (h : v ≤ v') (t : LeC l r) : LeC ((k, v) :: l) ((k, v') :: r)
theorem LeC.append {a b c d : List (Int × Int)} (h : LeC a b) (h' : LeC c d) : LeC (a ++ c) (b ++ d) := by
 induction h with
 | nil => exact h'
 | cons h t ih => exact .cons h ih
theorem LeL.addAt {l r : List Int} {k v v' : Int} (h : LeL l r) (hv : v ≤ v') : LeL (addAt l k v) (addAt r k v') := by
 refine ⟨by simp only [S.addAt, List.length_set]; exact h.1, fun i => ?_⟩
 unfold S.addAt
 by_cases hk : k.toNat < l.length
 ·rw [getD_set' hk, getD_set' (by rw [← h.1]; exact hk)]
  have := h.2 i
  have := h.2 k.toNat
  split <;> omega
 ·rw [List.set_eq_of_length_le (by omega), List.set_eq_of_length_le (by rw [← h.1]; omega)]
  exact h.2 i
theorem LeL.adds {c d : List (Int × Int)} (hc : LeC c d) : ∀ {l r : List Int}, LeL l r → LeL (adds l c) (adds r d) := by
 induction hc with
 | nil => intro l r h; exact h
 | cons h t ih => intro l r hl; exact ih (hl.addAt h)
theorem LeL.refl (l : List Int) : LeL l l := ⟨rfl, fun _ => Int.le_refl _⟩
theorem give_le {f f' m : Int} (hm : 0 ≤ m) (h : f ≤ f') : ∀ (ks : List Int) (i : Int), LeC (give f m i ks) (give f' m i ks)
 | [], _ => .nil
 | k :: ks, i => .cons (by
   rcases Int.eq_ofNat_of_zero_le hm with ⟨n, rfl⟩
   rcases Nat.eq_zero_or_pos n with h0 | h0
   ·subst h0; simp
   ·exact Int.ediv_le_ediv (by omega) (by omega)) (give_le hm h ks (i + 1))
theorem contr_le {W H c n s g n' s' g' : Int} (hn : n ≤ n') (hs : s ≤ s') (hg : g' ≤ g) : LeC (contr W H c n s g) (contr W H c n' s' g') := by
 unfold contr
 split
 ·exact .cons hn .nil
 ·refine .cons ?_ (give_le (by omega) ?_ _ _)
  ·unfold offV; split <;> split <;> omega
  ·unfold offV; split <;> split <;> omega
theorem contrs_le {W H : Int} {am st gi am' st' gi' : List Int} (ha : LeL am am') (hs : LeL st st') (hg : LeL gi' gi) : ∀ k, LeC (contrs W H am st gi k) (contrs W H am' st' gi' k)
 | 0 => .nil
 | k + 1 => (contrs_le ha hs hg k).append (contr_le (ha.2 k) (hs.2 k) (hg.2 k))
theorem hour_le {W H : Int} {am st gi am' st' gi' : List Int} (ha : LeL am am') (hs : LeL st st') (hg : LeL gi' gi) : LeL (hourV W H am st gi) (hourV W H am' st' gi') := by
 unfold hourV
 rw [ha.1]
 exact (LeL.refl _).adds (contrs_le ha hs hg _)
def sumC : List (Int × Int) → Int
 | [] => 0
 | p :: r => p.2 + sumC r
theorem sumC_append : ∀ l r : List (Int × Int), sumC (l ++ r) = sumC l + sumC r
 | [], r => by simp [sumC]
 | x :: l, r => by simp only [List.cons_append, sumC, sumC_append l r]; omega
theorem addAt_len (l : List Int) (k v : Int) : (addAt l k v).length = l.length := by simp [addAt]
theorem sum_adds : ∀ (cs : List (Int × Int)) (l : List Int), (∀ p ∈ cs, 0 ≤ p.1 ∧ p.1 < l.length) → sumL (adds l cs) = sumL l + sumC cs
 | [], l, _ => by simp [adds, sumC]
 | p :: cs, l, h => by
  have h1 := h p (by simp)
  rw [adds, sum_adds cs _ (fun q hq => by rw [addAt_len]; exact h q (by simp [hq])), addAt, sumL_set _ _ _ (by omega), sumC]
  omega
theorem sum_give {f : Int} (hf : 0 ≤ f) : ∀ (ks : List Int), ks.length ≤ 4 → ks.length ≠ 0 → sumC (give f ks.length 0 ks) = f
 | [], _, h => absurd rfl h
 | [_], _, _ => by simp [give, sumC]
 | [_, _], _, _ => by simp only [give, sumC, List.length_cons, List.length_nil]; omega
 | [_, _, _], _, _ => by simp only [give, sumC, List.length_cons, List.length_nil]; omega
 | [_, _, _, _], _, _ => by simp only [give, sumC, List.length_cons, List.length_nil]; omega
 | _ :: _ :: _ :: _ :: _ :: _, h, _ => by simp only [List.length_cons] at h; omega
theorem sum_contr {W H c n s : Int} : sumC (contr W H c n s s) = n := by
 unfold contr
 split
 ·simp [sumC]
 ·rename_i h
  have h4 : (nb W H c).length ≤ 4 := nbl_le4 W H c 4
  have hf : 0 ≤ offV n s := by unfold offV; split <;> omega
  rw [sumC, sum_give hf _ h4 h]; simp only; omega
theorem give_keys {f m : Int} : ∀ (ks : List Int) (i : Int) (p : Int × Int), p ∈ give f m i ks → p.1 ∈ ks
 | [], _, _, h => by simp [give] at h
 | k :: ks, i, p, h => by
  rcases List.mem_cons.1 h with rfl | h
  ·simp
  ·exact List.mem_cons_of_mem _ (give_keys ks _ p h)
theorem contr_keys {W H c n s g : Int} (hW : 1 ≤ W ∧ W ≤ 8) (hH : 1 ≤ H ∧ H ≤ 8) (hc : 0 ≤ c ∧ c < W * H) : ∀ p ∈ contr W H c n s g, 0 ≤ p.1 ∧ p.1 < W * H := by
 intro p hp
 unfold contr at hp
 split at hp
 ·rcases List.mem_singleton.1 hp with rfl; exact hc
 ·rcases List.mem_cons.1 hp with rfl | hp
  ·exact hc
  ·exact nbl_mem hW hH _ (give_keys _ _ _ hp)
theorem contrs_keys {W H : Int} {am st gi : List Int} (hW : 1 ≤ W ∧ W ≤ 8) (hH : 1 ≤ H ∧ H ≤ 8) : ∀ k : Nat, (k : Int) ≤ W * H → ∀ p ∈ contrs W H am st gi k, 0 ≤ p.1 ∧ p.1 < W * H
 | 0, _, p, hp => by simp [contrs] at hp
 | k + 1, hk, p, hp => by
  rcases List.mem_append.1 hp with hp | hp
  ·exact contrs_keys hW hH k (by omega) p hp
  ·exact contr_keys hW hH ⟨by omega, by omega⟩ p hp
theorem sumL_take_succ {l : List Int} {i : Nat} (h : i < l.length) : sumL (l.take (i + 1)) = sumL (l.take i) + l.getD i 0 := by
 rw [take_succ' (d := 0) h, sumL_append]; simp [sumL]
theorem sum_hour {W H : Int} {am st : List Int} (hW : 1 ≤ W ∧ W ≤ 8) (hH : 1 ≤ H ∧ H ≤ 8) (hl : (am.length : Int) = W * H) : sumL (hourV W H am st st) = sumL am := by
 unfold hourV
 rw [sum_adds _ _ (fun p hp => by rw [List.length_replicate, hl]; exact contrs_keys hW hH _ (by omega) p hp), sumL_replicate0, Int.zero_add]
 have : ∀ k, k ≤ am.length → sumC (contrs W H am st st k) = sumL (am.take k) := by
  intro k
  induction k with
  | zero => intro _; simp [contrs, sumC, sumL]
  | succ k ih =>
   intro hk
   rw [contrs, sumC_append, ih (by omega), sum_contr, sumL_take_succ (by omega)]
 rw [this _ (Nat.le_refl _), List.take_length]
theorem ends_eq {F : Nat} {l : List Span} (hF : l.length < F) (hl : l.length ≤ 1000) : spill_ends F l = some (l.map (·.Lo), l.map (·.Hi)) := by
 refine Ok.eq ?_
 unfold spill_ends
 refine ok_loop (fun x : List Int × Int × List Int => 0 ≤ x.2.1 ∧ x.2.1 ≤ l.length ∧ x.1 = (l.map (·.Lo)).take x.2.1.toNat ∧ x.2.2 = (l.map (·.Hi)).take x.2.1.toNat) (fun x : List Int × Int × List Int => l.length - x.2.1.toNat) ⟨by simp, by simp, rfl, rfl⟩ (by simp; omega) ?_
 rintro ⟨a, i, b⟩ next ⟨h1, h2, h3, h4⟩ hn
 simp only at h1 h2 h3 h4
 have la : a.length ≤ 1000 := by rw [h3, List.length_take, List.length_map]; omega
 have lb : b.length ≤ 1000 := by rw [h4, List.length_take, List.length_map]; omega
 refine ok_brk (fun hc => ?_) (fun hc => ok_some ?_)
 ·have hc : i < l.length := by simpa using hc
  have hi : i.toNat < l.length := by omega
  refine ok_chk ⟨h1, hc⟩ (ok_chk (by simp only [List.length_singleton]; omega) (ok_chk (by simp only [List.length_singleton]; omega) (ok_chk (by constructor <;> (first | omega | (dsimp only; omega))) (hn _ ⟨by show 0 ≤ i + 1; omega, by show i + 1 ≤ _; omega, ?_, ?_⟩ (by show l.length - (i + 1).toNat < l.length - i.toNat; omega)))))
  ·show a ++ [_] = (l.map (·.Lo)).take (i + 1).toNat
   rw [show (i + 1).toNat = i.toNat + 1 by omega, take_succ' (d := 0) (by simpa using hi), h3]
   congr 2
   rw [getD_get hi, getD_get (by simpa using hi)]; simp
  ·show b ++ [_] = (l.map (·.Hi)).take (i + 1).toNat
   rw [show (i + 1).toNat = i.toNat + 1 by omega, take_succ' (d := 0) (by simpa using hi), h4]
   congr 2
   rw [getD_get hi, getD_get (by simpa using hi)]; simp
 ·have hc : ¬ i < l.length := by simpa using hc
  obtain rfl : i = l.length := by omega
  show (a, b) = _
  rw [h3, h4]
  simp [List.take_of_length_le]
def minO (n : Int) : Int := if 1000000 < n then 1000000 else n
theorem minO_le (n : Int) : minO n ≤ 1000000 := by unfold minO; split <;> omega
theorem minO_mono {a b : Int} (h : a ≤ b) : minO a ≤ minO b := by unfold minO; split <;> split <;> omega
theorem minO_nn {a : Int} (h : 0 ≤ a) : 0 ≤ minO a := by unfold minO; split <;> omega
theorem minO_self (n : Int) : minO n ≤ n := by unfold minO; split <;> omega
theorem minO_ge {n m : Int} (h : n ≤ m) (h' : n ≤ 1000000) : n ≤ minO m := by unfold minO; split <;> omega
def loV (W H : Int) (cells caps : List Span) : List Int := hourV W H (cells.map (·.Lo)) (caps.map (·.Lo)) (caps.map (·.Hi))
def hiV (W H : Int) (cells caps : List Span) : List Int := hourV W H (cells.map (·.Hi)) (caps.map (·.Hi)) (caps.map (·.Lo))
def spreadV (W H : Int) (cells caps : List Span) : List Span := List.zipWith (fun a b => Span.mk (minO a) (minO b)) (loV W H cells caps) (hiV W H cells caps)
def spreadN (W H : Int) (caps : List Span) : Nat → List Span → List Span
 | 0, cells => cells
 | n + 1, cells => spreadV W H (spreadN W H caps n cells) caps
structure CapsOK (n : Nat) (caps : List Span) : Prop where
 len : caps.length = n
 ok : ∀ s ∈ caps, SpanOK 10000 s
theorem getD_map {α β : Type} (f : α → β) (l : List α) (i : Nat) (d : α) (e : β) (h : i < l.length) : (l.map f).getD i e = f (l.getD i d) := by
 rw [getD_get (by simpa using h), getD_get h]; simp
theorem leL_map {l : List Span} {m : Int} (h : ∀ s ∈ l, SpanOK m s) : LeL (l.map (·.Lo)) (l.map (·.Hi)) := by
 refine ⟨by simp, fun i => ?_⟩
 by_cases hi : i < l.length
 ·rw [getD_map _ _ _ ⟨0, 0⟩ _ hi, getD_map _ _ _ ⟨0, 0⟩ _ hi]
  exact (h _ (getD_mem hi)).2.1
 ·simp [List.getD_eq_getElem?_getD, List.getElem?_eq_none (show (l.map (·.Lo)).length ≤ i by simpa using hi), List.getElem?_eq_none (show (l.map (·.Hi)).length ≤ i by simpa using hi)]
theorem spread_eq {F : Nat} {f : Field} {caps : List Span} (hF : 100 < F) (hf : FieldOK f) (hc : CapsOK f.Cells.length caps) :
  spill_grid_spread F f caps = some (spreadV f.W f.H f.Cells caps) ∧ FieldOK ⟨f.W, f.H, spreadV f.W f.H f.Cells caps⟩ ∧ (loV f.W f.H f.Cells caps).length = f.Cells.length ∧ (hiV f.W f.H f.Cells caps).length = f.Cells.length ∧
   (∀ i, 0 ≤ (loV f.W f.H f.Cells caps).getD i 0) := by
 have hs := hf.small
 have hcl := hc.len
 have m1 : ∀ (l : List Span) (m : Int), (∀ s ∈ l, SpanOK m s) → ∀ a ∈ l.map (·.Lo), 0 ≤ a ∧ a ≤ m := by
  intro l m h a ha
  obtain ⟨s, hs, rfl⟩ := List.mem_map.1 ha
  have := h s hs
  exact ⟨this.1, by omega⟩
 have m2 : ∀ (l : List Span) (m : Int), (∀ s ∈ l, SpanOK m s) → ∀ a ∈ l.map (·.Hi), 0 ≤ a ∧ a ≤ m := by
  intro l m h a ha
  obtain ⟨s, hs, rfl⟩ := List.mem_map.1 ha
  have := h s hs
  exact ⟨by omega, this.2.2⟩
 obtain ⟨e1, g1⟩ := hour_eq (F := F) (f := f) (am := f.Cells.map (·.Lo)) (st := caps.map (·.Lo)) (gi := caps.map (·.Hi)) hF hf.w hf.h (by simpa using hf.len) (by simpa using hcl) (by simpa using hcl) (m1 _ _ hf.cells) (m1 _ _ hc.ok) (m2 _ _ hc.ok)
 obtain ⟨e2, g2⟩ := hour_eq (F := F) (f := f) (am := f.Cells.map (·.Hi)) (st := caps.map (·.Hi)) (gi := caps.map (·.Lo)) hF hf.w hf.h (by simpa using hf.len) (by simpa using hcl) (by simpa using hcl) (m2 _ _ hf.cells) (m2 _ _ hc.ok) (m1 _ _ hc.ok)
 have hle := hour_le (W := f.W) (H := f.H) (leL_map hf.cells) (leL_map hc.ok) (leL_map hc.ok)
 have l1 : (loV f.W f.H f.Cells caps).length = f.Cells.length := by have := g1.len; simpa [loV] using this
 have l2 : (hiV f.W f.H f.Cells caps).length = f.Cells.length := by have := g2.len; simpa [hiV] using this
 have lv : (spreadV f.W f.H f.Cells caps).length = f.Cells.length := by rw [spreadV, List.length_zipWith, l1, l2, Nat.min_self]
 have gv : ∀ i, i < f.Cells.length → (spreadV f.W f.H f.Cells caps).getD i ⟨0, 0⟩ = ⟨minO ((loV f.W f.H f.Cells caps).getD i 0), minO ((hiV f.W f.H f.Cells caps).getD i 0)⟩ := by
  intro i hi
  rw [getD_get (by rw [lv]; exact hi), getD_get (by rw [l1]; exact hi), getD_get (by rw [l2]; exact hi)]
  simp [spreadV]
 refine ⟨Ok.eq ?_, ⟨hf.w, hf.h, by rw [lv]; exact hf.len, fun s hs => ?_⟩, l1, l2, fun i => (g1.get i).1⟩
 ·unfold spill_grid_spread
  refine ok_bnde (ends_eq (by omega) (by omega)) (ok_bnde (ends_eq (by omega) (by omega)) (ok_bnde e1 (ok_bnde e2 ?_)))
  show Ok (fun x => x = spreadV f.W f.H f.Cells caps) (loopC _ F _)
  refine ok_loop (fun x : Int × List Span => 0 ≤ x.1 ∧ x.1 ≤ f.Cells.length ∧ x.2 = (spreadV f.W f.H f.Cells caps).take x.1.toNat) (fun x : Int × List Span => f.Cells.length - x.1.toNat) ⟨by simp, by simp, rfl⟩ (by simp; omega) ?_
  rintro ⟨i, o⟩ next ⟨h1, h2, h3⟩ hn
  simp only at h1 h2 h3
  have lo : o.length ≤ 64 := by rw [h3, List.length_take, lv]; omega
  have l1' : (hourV f.W f.H (f.Cells.map (·.Lo)) (caps.map (·.Lo)) (caps.map (·.Hi))).length = f.Cells.length := l1
  have l2' : (hourV f.W f.H (f.Cells.map (·.Hi)) (caps.map (·.Hi)) (caps.map (·.Lo))).length = f.Cells.length := l2
  refine ok_brk (fun hcc => ?_) (fun hcc => ok_some ?_)
  ·have hcc : i < f.Cells.length := by simpa [l1'] using hcc
   have hi : i.toNat < f.Cells.length := by omega
   refine ok_chk ⟨h1, by rw [l1']; exact hcc⟩ (ok_chk ⟨h1, by rw [l2']; exact hcc⟩ (ok_chk (by simp only [List.length_singleton]; omega) (ok_chk (by constructor <;> (first | omega | (dsimp only; omega))) (hn _ ⟨by show 0 ≤ i + 1; omega, by show i + 1 ≤ _; omega, ?_⟩ (by show f.Cells.length - (i + 1).toNat < f.Cells.length - i.toNat; omega)))))
   show o ++ [_] = (spreadV f.W f.H f.Cells caps).take (i + 1).toNat
   rw [show (i + 1).toNat = i.toNat + 1 by omega, take_succ' (d := ⟨0, 0⟩) (by rw [lv]; exact hi), h3, gv _ hi]
   rfl
  ·have hcc : ¬ i < f.Cells.length := by simpa [l1'] using hcc
   obtain rfl : i = f.Cells.length := by omega
   show o = _
   rw [h3, List.take_of_length_le (by rw [lv]; simp)]
 ·obtain ⟨i, hi, rfl⟩ := List.getElem_of_mem hs
  have hi' : i < f.Cells.length := by
   have : i < (spreadV f.W f.H f.Cells caps).length := hi
   omega
  have := gv i hi'
  rw [getD_get (by rw [lv]; exact hi')] at this
  show SpanOK 1000000 ((spreadV f.W f.H f.Cells caps)[i])
  rw [this]
  exact ⟨minO_nn (g1.get i).1, minO_mono (hle.2 i), minO_le _⟩
end Go.Proofs.Sc.S
namespace Go.Proofs.Sc.S
open Go Go.KX
theorem wb {x lo hi : Int} (h1 : lo ≤ x) (h2 : x ≤ hi) : (decide (x ≥ lo) && decide (x ≤ hi)) = true := by rw [decide_eq_true (show x ≥ lo from h1), decide_eq_true h2]; rfl
theorem clone_eq {F : Nat} {l : List Span} (h : l.length ≤ 1000000) : slices_Clone_api_Span F l = some l := by
 unfold slices_Clone_api_Span
 rw [chk_pos (by simp; omega)]; rfl
theorem spreadN_ok {F : Nat} {f : Field} {caps : List Span} (hF : 100 < F) (hf : FieldOK f) (hc : CapsOK f.Cells.length caps) : ∀ n, FieldOK ⟨f.W, f.H, spreadN f.W f.H caps n f.Cells⟩ ∧ (spreadN f.W f.H caps n f.Cells).length = f.Cells.length
 | 0 => ⟨hf, rfl⟩
 | n + 1 => by
  obtain ⟨h1, h2⟩ := spreadN_ok hF hf hc n
  obtain ⟨_, h3, _⟩ := spread_eq (F := F) (f := ⟨f.W, f.H, spreadN f.W f.H caps n f.Cells⟩) hF h1 (by rw [h2]; exact hc)
  refine ⟨h3, ?_⟩
  have e1 := h3.len
  have e2 := hf.len
  simp only at e1
  show (spreadV f.W f.H (spreadN f.W f.H caps n f.Cells) caps).length = _
  omega
theorem Spread_eq {F : Nat} {f : Field} {caps : List Span} {hours : Int} (hF : 100 < F) (hf : FieldOK f) (hc : CapsOK f.Cells.length caps) (hh : 0 ≤ hours ∧ hours ≤ 48) :
  spill_Spread F f caps hours = some (⟨f.W, f.H, spreadN f.W f.H caps hours.toNat f.Cells⟩, 0) := by
 have hs := hf.small
 have hcl := hc.len
 refine Ok.eq ?_
 unfold spill_Spread
 refine ok_bnde (Check_eq (by show f.Cells.length < F; omega)) ?_
 rw [show checkV (Field.mk f.W f.H f.Cells) = 0 from hf.check]
 refine ok_brkF (by simp) (ok_brkF (by simp [hcl]) ?_)
 refine ok_join (by omega) (fun i : Int => 0 ≤ i ↔ ¬ ∀ s ∈ caps, SpanOK 10000 s) (fun i hi => ?_) fun k hk => find_ok (g := spill_begin_1) (m := 10000) (fun s => by unfold spill_begin_1; rw [span_eq, bnd_so]) k (by omega) (by omega) hk
 refine ok_brkF ?_ ?_
 ·rw [decide_eq_false_iff_not]
  exact fun h => (hi.1 h) hc.ok
 refine ok_bnde (clone_eq (by omega)) ?_
 rw [within_eq, bnd_so]
 refine ok_brkF (by simp; omega) ?_
 refine ok_loop (fun x : Int × List Span => 0 ≤ x.1 ∧ x.1 ≤ hours ∧ x.2 = spreadN f.W f.H caps x.1.toNat f.Cells) (fun x : Int × List Span => hours.toNat - x.1.toNat) ⟨by simp, by simp; omega, rfl⟩ (by simp; omega) ?_
 rintro ⟨i, o⟩ next ⟨h1, h2, h3⟩ hn
 simp only at h1 h2 h3
 refine ok_brk (fun hcc => ?_) (fun hcc => ok_some ?_)
 ·have hcc : i < hours := by simpa using hcc
  obtain ⟨h4, h5⟩ := spreadN_ok hF hf hc i.toNat
  rw [← h3] at h4 h5
  refine ok_bnde (spread_eq (f := ⟨f.W, f.H, o⟩) hF h4 (by rw [h5]; exact hc)).1 (ok_chk (by constructor <;> (first | omega | (dsimp only; omega))) (hn _ ⟨by show 0 ≤ i + 1; omega, by show i + 1 ≤ hours; omega, ?_⟩ (by show hours.toNat - (i + 1).toNat < hours.toNat - i.toNat; omega)))
  show spreadV f.W f.H o caps = spreadN f.W f.H caps (i + 1).toNat f.Cells
  rw [show (i + 1).toNat = i.toNat + 1 by omega, spreadN, h3]
 ·have hcc : ¬ i < hours := by simpa using hcc
  obtain rfl : i = hours := by omega
  rw [h3]
structure FlowOK (W H : Int) (am caps : List Int) : Prop where
 w : 1 ≤ W ∧ W ≤ 8
 h : 1 ≤ H ∧ H ≤ 8
 la : (am.length : Int) = W * H
 lc : (caps.length : Int) = W * H
 nn : ∀ a ∈ am, 0 ≤ a
 sum : sumL am ≤ 1000000
 caps : ∀ a ∈ caps, 0 ≤ a ∧ a ≤ 10000
theorem sumL_take_le {l : List Int} (h : ∀ x ∈ l, 0 ≤ x) (k : Nat) : sumL (l.take k) ≤ sumL l := by
 have e : sumL l = sumL (l.take k) + sumL (l.drop k) := by rw [← sumL_append, List.take_append_drop]
 have := sumL_nonneg (l.drop k) fun x hx => h x (List.mem_of_mem_drop hx)
 omega
theorem within_brk {F : Nat} {b : Bool} {x lo m : Int} : brk b (spill_within F x lo m) (some false) = some (b && (decide (x ≥ lo) && decide (x ≤ m))) := by
 cases b <;> rfl
theorem Flow_eq {F : Nat} {W H : Int} {am caps : List Int} (hF : 100 < F) (h : FlowOK W H am caps) :
  spill_Flow F W H am caps = some (hourV W H am caps caps, 0) ∧ Good am.length 1000000 (hourV W H am caps caps) ∧ sumL (hourV W H am caps caps) = sumL am := by
 have hb := mul_bound h.w.1 h.w.2 h.h.1 h.h.2
 have hla := h.la
 have hlc := h.lc
 have ha1 : ∀ a ∈ am, 0 ≤ a ∧ a ≤ 1000000 := fun a ha => ⟨h.nn a ha, Int.le_trans (mem_le_sumL am h.nn a ha) h.sum⟩
 obtain ⟨e1, g1⟩ := hour_eq (F := F) (f := ⟨W, H, []⟩) (am := am) (st := caps) (gi := caps) hF h.w h.h h.la (by omega) (by omega) ha1 h.caps h.caps
 have hsum := sum_hour (st := caps) h.w h.h h.la
 refine ⟨Ok.eq ?_, ⟨g1.len, g1.nn, by rw [hsum]; exact h.sum⟩, hsum⟩
 unfold spill_Flow
 rw [within_eq, bnd_so]
 have ew : (decide (W ≥ 1) && decide (W ≤ 8)) = true := wb h.w.1 h.w.2
 have eh : (decide (H ≥ 1) && decide (H ≤ 8)) = true := wb h.h.1 h.h.2
 rw [ew, within_brk, bnd_so, eh]
 refine ok_brkF rfl (ok_chk (by constructor <;> omega) (ok_chk (fun _ => by constructor <;> omega) (ok_brkF (by simp [hla, hlc]) ?_)))
 refine ok_loop (fun x : Int × Int => 0 ≤ x.2 ∧ x.2 ≤ am.length ∧ x.1 = 1000000 - sumL (am.take x.2.toNat)) (fun x : Int × Int => am.length - x.2.toNat) ⟨by simp, by simp, rfl⟩ (by simp; omega) ?_
 rintro ⟨left, i⟩ next ⟨h1, h2, h3⟩ hn
 simp only at h1 h2 h3
 have hs0 := sumL_nonneg (am.take i.toNat) fun x hx => h.nn x (List.mem_of_mem_take hx)
 have hs1 := sumL_take_le h.nn i.toNat
 have hs := h.sum
 refine ok_brk (fun hcc => ?_) (fun hcc => ?_)
 ·have hcc : i < am.length := by simpa using hcc
  have hi : i.toNat < am.length := by omega
  have hsn := sumL_take_succ hi
  have hsl := sumL_take_le h.nn (i.toNat + 1)
  have hai := ha1 _ (getD_mem (d := 0) hi)
  have hci := h.caps _ (getD_mem (i := i.toNat) (d := 0) (by omega))
  refine ok_chk ⟨h1, hcc⟩ ?_
  have eb : (decide (am.getD i.toNat 0 ≥ 0) && decide (am.getD i.toNat 0 ≤ left)) = true := wb hai.1 (by omega)
  have ec : (decide (caps.getD i.toNat 0 ≥ 0) && decide (caps.getD i.toNat 0 ≤ 10000)) = true := wb hci.1 hci.2
  refine ok_bnde (b := true) (show spill_within F (am.getD i.toNat 0) 0 left = some true from congrArg some eb) (ok_chk (fun _ => ⟨h1, by show i < _; omega⟩) ?_)
  refine ok_bnde (b := true) (show brk (!!true) (spill_within F (caps.getD i.toNat 0) 0 10000) (some false) = some true from congrArg some ec) ?_
  refine ok_brkF rfl (ok_chk (show InR (left - am.getD i.toNat 0) from ⟨by omega, by omega⟩) (ok_chk (by constructor <;> (first | omega | (dsimp only; omega))) (hn _ ⟨by show 0 ≤ i + 1; omega, by show i + 1 ≤ _; omega, ?_⟩ (by show am.length - (i + 1).toNat < am.length - i.toNat; omega))))
  show left - am.getD i.toNat 0 = 1000000 - sumL (am.take (i + 1).toNat)
  rw [show (i + 1).toNat = i.toNat + 1 by omega, hsn]; omega
 ·exact ok_bnde e1 (ok_some rfl)
theorem Holds_eq {F : Nat} {f : Field} {am : List Int} (hF : 100 < F) (hf : FieldOK f) (hl : am.length = f.Cells.length) :
  spill_Holds F f am = some (decide (∀ i, i < am.length → (f.Cells.getD i ⟨0, 0⟩).Lo ≤ am.getD i 0 ∧ am.getD i 0 ≤ (f.Cells.getD i ⟨0, 0⟩).Hi), 0) := by
 have hs := hf.small
 refine Ok.eq ?_
 unfold spill_Holds
 refine ok_bnde (Check_eq (by show f.Cells.length < F; omega)) ?_
 rw [show checkV (Field.mk f.W f.H f.Cells) = 0 from hf.check]
 refine ok_brkF (by simp) (ok_brkF (by simp [hl]) ?_)
 refine ok_loop (fun x : Int => 0 ≤ x ∧ x ≤ am.length ∧ ∀ j : Nat, (j : Int) < x → (f.Cells.getD j ⟨0, 0⟩).Lo ≤ am.getD j 0 ∧ am.getD j 0 ≤ (f.Cells.getD j ⟨0, 0⟩).Hi) (fun x : Int => am.length - x.toNat) ⟨by omega, by omega, fun j hj => by omega⟩ (by simp; omega) ?_
 intro i next ⟨h1, h2, h3⟩ hn
 refine ok_brk (fun hcc => ?_) (fun hcc => ok_some ?_)
 ·have hcc : i < am.length := by simpa using hcc
  have hi : i.toNat < am.length := by omega
  refine ok_chk ⟨h1, hcc⟩ (ok_chk ⟨h1, by omega⟩ (ok_chk ⟨h1, by omega⟩ ?_))
  rw [within_eq, bnd_so]
  refine ok_brk (fun hb => ok_some ?_) (fun hb => ok_chk (by constructor <;> omega) (hn _ ⟨by omega, by omega, fun j hj => ?_⟩ (by omega)))
  ·congr 1
   symm
   rw [decide_eq_false_iff_not]
   intro h
   obtain ⟨a1, a2⟩ := h _ hi
   rw [wb a1 a2] at hb; cases hb
  ·by_cases e : (j : Int) < i
   ·exact h3 j e
   ·obtain rfl : j = i.toNat := by omega
    simp only [Bool.not_eq_false', Bool.and_eq_true, decide_eq_true_eq] at hb
    exact hb
 ·have hcc : ¬ i < am.length := by simpa using hcc
  congr 1
  symm
  rw [decide_eq_true_eq]
  exact fun j hj => h3 j (by omega)
theorem sum_eq {F : Nat} {l : List Int} (hF : l.length < F) (hl : l.length ≤ 1000) (h : ∀ x ∈ l, 0 ≤ x ∧ x ≤ 1000000) : law11_sum F l = some (sumL l) := by
 refine Ok.eq ?_
 unfold law11_sum
 refine ok_loop (fun x : Int × Int => 0 ≤ x.1 ∧ x.1 ≤ l.length ∧ x.2 = sumL (l.take x.1.toNat)) (fun x : Int × Int => l.length - x.1.toNat) ⟨by simp, by simp, rfl⟩ (by simp; omega) ?_
 rintro ⟨i, s⟩ next ⟨h1, h2, h3⟩ hn
 simp only at h1 h2 h3
 refine ok_brk (fun hcc => ?_) (fun hcc => ok_some ?_)
 ·have hcc : i < l.length := by simpa using hcc
  have hi : i.toNat < l.length := by omega
  have e := h _ (getD_mem (d := 0) hi)
  have s0 := sumL_nonneg (l.take i.toNat) fun x hx => (h x (List.mem_of_mem_take hx)).1
  have s1 := sumL_le (B := 1000000) (l.take i.toNat) fun x hx => (h x (List.mem_of_mem_take hx)).2
  rw [List.length_take] at s1
  refine ok_chk ⟨h1, hcc⟩ (ok_chk (show InR (s + l.getD i.toNat 0) from ⟨by omega, by omega⟩) (ok_chk (by constructor <;> (first | omega | (dsimp only; omega))) (hn _ ⟨by show 0 ≤ i + 1; omega, by show i + 1 ≤ _; omega, ?_⟩ (by show l.length - (i + 1).toNat < l.length - i.toNat; omega))))
  show s + _ = sumL (l.take (i + 1).toNat)
  rw [show (i + 1).toNat = i.toNat + 1 by omega, sumL_take_succ hi, h3]
 ·have hcc : ¬ i < l.length := by simpa using hcc
  obtain rfl : i = l.length := by omega
  show s = _
  rw [h3]; simp [List.take_of_length_le]
end Go.Proofs.Sc.S
namespace Go.Proofs.Sc.S
open Go Go.KX
structure Bytes (l : List Int) : Prop where
 b : ∀ x ∈ l, 0 ≤ x ∧ x ≤ 255
 len : l.length ≤ 9223372036854775807
section
variable {α : Type} {post : α → Prop} {l : List Int} {pos n : Int}
theorem next_gen (hl : Bytes l) (h0 : 0 ≤ pos) (hp : pos < l.length) (hn : 0 < n) :
  0 ≤ l.getD pos.toNat 0 ∧ l.getD pos.toNat 0 ≤ 255 ∧ 0 ≤ l.getD pos.toNat 0 % n ∧ l.getD pos.toNat 0 % n < n ∧ l.getD pos.toNat 0 % n ≤ 255 := by
 have h := hl.b _ (getD_mem (i := pos.toNat) (d := 0) (by omega))
 have h1 := Int.emod_nonneg (l.getD pos.toNat 0) (by omega : n ≠ 0)
 have h2 := Int.emod_lt_of_pos (l.getD pos.toNat 0) hn
 have h3 : l.getD pos.toNat 0 % n ≤ l.getD pos.toNat 0 := by
  have e := Int.emod_add_mul_ediv (l.getD pos.toNat 0) n
  have e2 := Int.mul_nonneg (by omega : 0 ≤ n) (Int.ediv_nonneg h.1 (by omega : 0 ≤ n))
  omega
 exact ⟨h.1, h.2, h1, h2, by omega⟩
theorem next_ok (hl : Bytes l) (h0 : 0 ≤ pos) (hp : pos ≤ l.length) (hn : 0 < n) (k : Int × Int → Option α) (hk : ∀ v p : Int, 0 ≤ v → v < n → v ≤ 255 → 0 ≤ p → p ≤ l.length → Ok post (k (v, p))) :
  Ok post (brk (decide (pos ≥ (l.length : Int))) (k (0, pos)) (chk (InR (pos + 1)) (chk (InR (pos + 1 - 1)) (chk (0 ≤ pos + 1 - 1 ∧ pos + 1 - 1 < (l.length : Int)) (chk (InR (l.getD (pos + 1 - 1).toNat 0)) (chk (0 ≤ l.getD (pos + 1 - 1).toNat 0 ∧ l.getD (pos + 1 - 1).toNat 0 ≤ 9223372036854775807) (k (l.getD (pos + 1 - 1).toNat 0 % n, pos + 1)))))))) := by
 have hlen := hl.len
 refine ok_brk (fun _ => hk 0 pos (by omega) hn (by omega) h0 hp) (fun hc => ?_)
 have hc : pos < l.length := by simpa using hc
 rw [show pos + 1 - 1 = pos by omega]
 obtain ⟨h1, h2, h3, h4, h5⟩ := next_gen hl h0 hc hn
 exact ok_chk ⟨by omega, by omega⟩ (ok_chk ⟨by omega, by omega⟩ (ok_chk ⟨h0, hc⟩ (ok_chk ⟨by omega, by omega⟩ (ok_chk ⟨h1, by omega⟩ (hk _ _ h3 h4 h5 (by omega) (by omega))))))
theorem next_okS (hl : Bytes l) (h0 : 0 ≤ pos) (hp : pos ≤ l.length) (hn : 0 < n) (k : Int × Int → Option α) (hk : ∀ v p : Int, 0 ≤ v → v < n → v ≤ 255 → 0 ≤ p → p ≤ l.length → Ok post (k (v, p))) :
  Ok post (brk (decide (pos ≥ (l.length : Int))) (k (0, pos)) (chk (InR (pos + 1)) (chk (InR (pos + 1 - 1)) (chk (0 ≤ pos + 1 - 1 ∧ pos + 1 - 1 < (l.length : Int)) (chk (InR (l.getD (pos + 1 - 1).toNat 0)) (chk ((0 ≤ l.getD (pos + 1 - 1).toNat 0 ∧ l.getD (pos + 1 - 1).toNat 0 ≤ 9223372036854775807) ∧ 0 < n) (k (l.getD (pos + 1 - 1).toNat 0 % n, pos + 1)))))))) := by
 have hlen := hl.len
 refine ok_brk (fun _ => hk 0 pos (by omega) hn (by omega) h0 hp) (fun hc => ?_)
 have hc : pos < l.length := by simpa using hc
 rw [show pos + 1 - 1 = pos by omega]
 obtain ⟨h1, h2, h3, h4, h5⟩ := next_gen hl h0 hc hn
 exact ok_chk ⟨by omega, by omega⟩ (ok_chk ⟨by omega, by omega⟩ (ok_chk ⟨h0, hc⟩ (ok_chk ⟨by omega, by omega⟩ (ok_chk ⟨⟨h1, by omega⟩, hn⟩ (hk _ _ h3 h4 h5 (by omega) (by omega))))))
theorem next_ok0 {w0 w1 : Int} (e0 : w0 = 0) (e1 : w1 = 1) (hl : Bytes l) (hn : 0 < n) (k : Int × Int → Option α) (hk : ∀ v p : Int, 0 ≤ v → v < n → v ≤ 255 → 0 ≤ p → p ≤ l.length → Ok post (k (v, p))) :
  Ok post (brk (decide (0 ≥ (l.length : Int))) (k (0, 0)) (chk (0 ≤ w0 ∧ w0 < (l.length : Int)) (chk (InR (l.getD w0.toNat 0)) (chk (0 ≤ l.getD w0.toNat 0 ∧ l.getD w0.toNat 0 ≤ 9223372036854775807) (k (l.getD w0.toNat 0 % n, w1)))))) := by
 subst e0; subst e1
 refine ok_brk (fun _ => hk 0 0 (by omega) hn (by omega) (by omega) (by omega)) (fun hc => ?_)
 have hc : (0 : Int) < l.length := by have := of_decide_eq_false hc; omega
 obtain ⟨h1, h2, h3, h4, h5⟩ := next_gen hl (Int.le_refl 0) hc hn
 exact ok_chk ⟨by omega, hc⟩ (ok_chk ⟨by omega, by omega⟩ (ok_chk ⟨h1, by omega⟩ (hk _ _ h3 h4 h5 (by omega) (by omega))))
end
def Inside (cells : List Span) (am : List Int) : Prop := ∀ i, i < am.length → (cells.getD i ⟨0, 0⟩).Lo ≤ am.getD i 0 ∧ am.getD i 0 ≤ (cells.getD i ⟨0, 0⟩).Hi
structure MadeOK (x : Field × List Span × List Int) : Prop where
 f : FieldOK x.1
 small : x.1.W ≤ 4 ∧ x.1.H ≤ 4
 caps : CapsOK x.1.Cells.length x.2.1
 len : x.2.2.length = x.1.Cells.length
 inside : Inside x.1.Cells x.2.2
 nn : ∀ a ∈ x.2.2, 0 ≤ a ∧ a ≤ 600
 hi : ∀ s ∈ x.1.Cells, s.Hi ≤ 600
 chi : ∀ s ∈ x.2.1, s.Hi ≤ 200
theorem inside_snoc {cells : List Span} {am : List Int} {s : Span} {a : Int} (hl : am.length = cells.length) (h : Inside cells am) (h1 : s.Lo ≤ a) (h2 : a ≤ s.Hi) : Inside (cells ++ [s]) (am ++ [a]) := by
 intro i hi
 rw [List.length_append, List.length_singleton] at hi
 by_cases e : i < am.length
 ·rw [getD_append_left' e, getD_append_left' (by omega)]; exact h i e
 ·obtain rfl : i = am.length := by omega
  rw [getD_append_here, hl, getD_append_here]; exact ⟨h1, h2⟩
theorem mem_snoc {α : Type} {p : α → Prop} {l : List α} {x : α} (h : ∀ y ∈ l, p y) (hx : p x) : ∀ y ∈ l ++ [x], p y := by
 intro y hy
 rcases List.mem_append.1 hy with hy | hy
 ·exact h y hy
 ·rcases List.mem_singleton.1 hy with rfl; exact hx
theorem Made_ok {F : Nat} {l : List Int} (hF : 100 < F) (hl : Bytes l) : Ok MadeOK (law11_Made F l) := by
 unfold law11_Made
 refine ok_join (by omega) (fun x : Int × Int => 0 ≤ x.1 ∧ x.1 < 4 ∧ 0 ≤ x.2 ∧ x.2 ≤ l.length) ?_ fun k hk => next_ok0 (by decide) (by decide) hl (by decide) k fun v p h1 h2 _ h3 h4 => hk _ ⟨h1, h2, h3, h4⟩
 rintro ⟨w, p0⟩ ⟨w1, w2, w3, w4⟩
 simp only at w1 w2 w3 w4
 refine ok_chk (by constructor <;> (first | omega | (dsimp only; omega))) ?_
 refine ok_join (by omega) (fun x : Int × Int => 0 ≤ x.1 ∧ x.1 < 4 ∧ 0 ≤ x.2 ∧ x.2 ≤ l.length) ?_ fun k hk => next_ok hl w3 w4 (by decide) k fun v p h1 h2 _ h3 h4 => hk _ ⟨h1, h2, h3, h4⟩
 rintro ⟨h, p1⟩ ⟨v1, v2, v3, v4⟩
 simp only at v1 v2 v3 v4
 have hb := mul_bound (w := 1 + w) (h := 1 + h) (by omega) (by omega) (by omega) (by omega)
 refine ok_chk (by constructor <;> (first | omega | (dsimp only; omega))) (ok_chk (show InR ((1 + w) * (1 + h)) from ⟨by omega, by omega⟩) ?_)
 refine ok_loop (fun x : List Int × Int × List Span × List Span × Int => 0 ≤ x.2.1 ∧ x.2.1 ≤ (1 + w) * (1 + h) ∧ (x.1.length : Int) = x.2.1 ∧ (x.2.2.1.length : Int) = x.2.1 ∧ (x.2.2.2.1.length : Int) = x.2.1 ∧ 0 ≤ x.2.2.2.2 ∧ x.2.2.2.2 ≤ l.length ∧
  Inside x.2.2.2.1 x.1 ∧ (∀ a ∈ x.1, 0 ≤ a ∧ a ≤ 600) ∧ (∀ s ∈ x.2.2.1, SpanOK 200 s) ∧ (∀ s ∈ x.2.2.2.1, SpanOK 600 s)) (fun x : List Int × Int × List Span × List Span × Int => ((1 + w) * (1 + h)).toNat - x.2.1.toNat)
  ⟨by simp, by simp; omega, rfl, rfl, rfl, v3, v4, fun i hi => absurd hi (Nat.not_lt_zero _), by simp, by simp, by simp⟩ (by simp; omega) ?_
 rintro ⟨am, i, caps, cells, pos⟩ next ⟨i1, i2, i3, i4, i5, i6, i7, i8, i9, i10, i11⟩ hn
 simp only at i1 i2 i3 i4 i5 i6 i7 i8 i9 i10 i11
 refine ok_brk (fun hc => ?_) (fun hc => ok_some ?_)
 ·have hc : i < (1 + w) * (1 + h) := by simpa using hc
  refine ok_join (by omega) (fun x : Int × Int => 0 ≤ x.1 ∧ x.1 < 256 ∧ 0 ≤ x.2 ∧ x.2 ≤ l.length) ?_ fun k hk => next_ok hl i6 i7 (by decide) k fun v p h1 h2 _ h3 h4 => hk _ ⟨h1, h2, h3, h4⟩
  rintro ⟨a, p2⟩ ⟨a1, a2, a3, a4⟩
  simp only at a1 a2 a3 a4
  have hlo : 0 ≤ (if 4 * a - 500 > 0 then 4 * a - 500 else 0) ∧ (if 4 * a - 500 > 0 then 4 * a - 500 else 0) ≤ 520 := by split <;> omega
  refine ok_chk (by constructor <;> (first | omega | (dsimp only; omega))) (ok_chk (by constructor <;> (first | omega | (dsimp only; omega))) ?_)
  refine ok_join (by omega) (fun x : Int × Int => 0 ≤ x.1 ∧ x.1 < 60 ∧ 0 ≤ x.2 ∧ x.2 ≤ l.length) ?_ fun k hk => next_ok hl a3 a4 (by decide) k fun v p h1 h2 _ h3 h4 => hk _ ⟨h1, h2, h3, h4⟩
  rintro ⟨b, p3⟩ ⟨b1, b2, b3, b4⟩
  simp only at b1 b2 b3 b4
  show Ok MadeOK (chk (InR ((if 4 * a - 500 > 0 then 4 * a - 500 else 0) + b)) _)
  generalize (if 4 * a - 500 > 0 then 4 * a - 500 else 0) = lo at hlo ⊢
  refine ok_chk ⟨by omega, by omega⟩ (ok_chk (show cells.length + 1 ≤ 1000000000 by omega) (ok_chk (show InR (lo + b - lo) from ⟨by omega, by omega⟩) (ok_chk (show InR (lo + b - lo + 1) from ⟨by omega, by omega⟩) ?_)))
  refine ok_join (by omega) (fun x : Int × Int => 0 ≤ x.1 ∧ x.1 < lo + b - lo + 1 ∧ 0 ≤ x.2 ∧ x.2 ≤ l.length) ?_ fun k hk => next_okS (n := lo + b - lo + 1) hl b3 b4 (by omega) k fun v p h1 h2 _ h3 h4 => hk _ ⟨h1, h2, h3, h4⟩
  rintro ⟨c, p4⟩ ⟨c1, c2, c3, c4⟩
  simp only at c1 c2 c3 c4
  refine ok_chk (show InR (lo + c) from ⟨by omega, by omega⟩) (ok_chk (show am.length + 1 ≤ 1000000000 by omega) ?_)
  refine ok_join (by omega) (fun x : Int × Int => 0 ≤ x.1 ∧ x.1 < 100 ∧ 0 ≤ x.2 ∧ x.2 ≤ l.length) ?_ fun k hk => next_ok hl c3 c4 (by decide) k fun v p h1 h2 _ h3 h4 => hk _ ⟨h1, h2, h3, h4⟩
  rintro ⟨d, p5⟩ ⟨d1, d2, d3, d4⟩
  simp only at d1 d2 d3 d4
  refine ok_join (by omega) (fun x : Int × Int => 0 ≤ x.1 ∧ x.1 < 40 ∧ 0 ≤ x.2 ∧ x.2 ≤ l.length) ?_ fun k hk => next_ok hl d3 d4 (by decide) k fun v p h1 h2 _ h3 h4 => hk _ ⟨h1, h2, h3, h4⟩
  rintro ⟨e, p6⟩ ⟨e1, e2, e3, e4⟩
  simp only at e1 e2 e3 e4
  refine ok_chk (show InR (d + e) from ⟨by omega, by omega⟩) (ok_chk (show caps.length + 1 ≤ 1000000000 by omega) (ok_chk (show InR (i + 1) from ⟨by omega, by omega⟩) (hn _ ?_ ?_)))
  ·refine ⟨by show 0 ≤ i + 1; omega, by show i + 1 ≤ _; omega, ?_, ?_, ?_, e3, e4, inside_snoc (show am.length = cells.length by omega) i8 ?_ ?_, mem_snoc i9 ⟨by omega, by omega⟩, mem_snoc i10 ⟨by show 0 ≤ d; omega, by show d ≤ d + e; omega, by show d + e ≤ 200; omega⟩, mem_snoc i11 ⟨by show 0 ≤ lo; omega, by show lo ≤ lo + b; omega, by show lo + b ≤ 600; omega⟩⟩
   ·show ((am ++ [_]).length : Int) = i + 1
    rw [List.length_append, List.length_singleton]; omega
   ·show ((caps ++ [_]).length : Int) = i + 1
    rw [List.length_append, List.length_singleton]; omega
   ·show ((cells ++ [_]).length : Int) = i + 1
    rw [List.length_append, List.length_singleton]; omega
   ·show lo ≤ lo + c; omega
   ·show lo + c ≤ lo + b; omega
  ·show ((1 + w) * (1 + h)).toNat - (i + 1).toNat < ((1 + w) * (1 + h)).toNat - i.toNat
   omega
 ·have hc : ¬ i < (1 + w) * (1 + h) := by simpa using hc
  have hi : i = (1 + w) * (1 + h) := by omega
  exact ⟨⟨⟨by show 1 ≤ 1 + w; omega, by show 1 + w ≤ 8; omega⟩, ⟨by show 1 ≤ 1 + h; omega, by show 1 + h ≤ 8; omega⟩, by show (cells.length : Int) = (1 + w) * (1 + h); omega, fun s hs => by have := i11 s hs; exact ⟨this.1, this.2.1, by have := this.2.2; omega⟩⟩,
   ⟨by show 1 + w ≤ 4; omega, by show 1 + h ≤ 4; omega⟩, ⟨by show caps.length = cells.length; omega, fun s hs => by have := i10 s hs; exact ⟨this.1, this.2.1, by have := this.2.2; omega⟩⟩, by show am.length = cells.length; omega, i8, i9, fun s hs => (i11 s hs).2.2, fun s hs => (i10 s hs).2.2⟩
end Go.Proofs.Sc.S
namespace Go.Proofs.Sc.S
open Go Go.KX
theorem inside_le {cells : List Span} {am : List Int} (hl : am.length = cells.length) (h : Inside cells am) : LeL (cells.map (·.Lo)) am ∧ LeL am (cells.map (·.Hi)) := by
 refine ⟨⟨by simp [hl], fun i => ?_⟩, ⟨by simp [hl], fun i => ?_⟩⟩
 ·by_cases hi : i < am.length
  ·rw [getD_map _ _ _ ⟨0, 0⟩ _ (by omega)]; exact (h i hi).1
  ·simp [List.getD_eq_getElem?_getD, List.getElem?_eq_none (show (cells.map (·.Lo)).length ≤ i by simp; omega), List.getElem?_eq_none (show am.length ≤ i by omega)]
 ·by_cases hi : i < am.length
  ·rw [getD_map _ _ _ ⟨0, 0⟩ _ (by omega)]; exact (h i hi).2
  ·simp [List.getD_eq_getElem?_getD, List.getElem?_eq_none (show (cells.map (·.Hi)).length ≤ i by simp; omega), List.getElem?_eq_none (show am.length ≤ i by omega)]
structure OwnIn (caps : List Span) (own : List Int) : Prop where
 len : own.length = caps.length
 ok : Inside caps own
theorem flow_inside {F : Nat} {f : Field} {caps : List Span} {am own : List Int} (hF : 100 < F) (hf : FieldOK f) (hc : CapsOK f.Cells.length caps) (ho : OwnIn caps own) (hl : am.length = f.Cells.length)
  (h : Inside f.Cells am) (hfl : FlowOK f.W f.H am own) : Inside (spreadV f.W f.H f.Cells caps) (hourV f.W f.H am own own) := by
 obtain ⟨_, _, l1, l2, _⟩ := spread_eq hF hf hc
 obtain ⟨_, g, hs⟩ := Flow_eq hF hfl
 obtain ⟨a1, a2⟩ := inside_le hl h
 obtain ⟨b1, b2⟩ := inside_le ho.len ho.ok
 have c1 := hour_le (W := f.W) (H := f.H) a1 b1 b2
 have c2 := hour_le (W := f.W) (H := f.H) a2 b2 b1
 intro i hi
 rw [g.len] at hi
 have e : (spreadV f.W f.H f.Cells caps).getD i ⟨0, 0⟩ = ⟨minO ((loV f.W f.H f.Cells caps).getD i 0), minO ((hiV f.W f.H f.Cells caps).getD i 0)⟩ := by
  rw [getD_get (by rw [spreadV, List.length_zipWith, l1, l2]; omega), getD_get (by omega), getD_get (by omega)]
  simp [spreadV]
 rw [e]
 exact ⟨Int.le_trans (minO_self _) (c1.2 i), minO_ge (c2.2 i) (g.get i).2⟩
theorem own_step {caps : List Span} {own : List Int} {i v : Int} (h1 : 0 ≤ i) (h2 : i < caps.length) (hl : (own.length : Int) = i) (h : ∀ j, j < own.length → (caps.getD j ⟨0, 0⟩).Lo ≤ own.getD j 0 ∧ own.getD j 0 ≤ (caps.getD j ⟨0, 0⟩).Hi)
  (hv : 0 ≤ v) (hv2 : (caps.getD i.toNat ⟨0, 0⟩).Lo + v ≤ (caps.getD i.toNat ⟨0, 0⟩).Hi) :
  Inside caps (own ++ [(caps.getD i.toNat ⟨0, 0⟩).Lo + v]) := by
 intro j hj
 rw [List.length_append, List.length_singleton] at hj
 by_cases e : j < own.length
 ·rw [getD_append_left' e]; exact h j e
 ·obtain rfl : j = own.length := by omega
  rw [getD_append_here, show own.length = i.toNat by omega]
  exact ⟨by omega, hv2⟩
end Go.Proofs.Sc.S

namespace Go.Proofs.Sc
open Go Go.KX
section
variable {m : Machine} {a : Area}
theorem run_at {u v : State} {l : List Action} {i : Nat} (hi : i < l.length) (h : runF m a u (l.drop i) = some v) : (doS m a u (l.getD i noAct)).2 = 0 ∧ runF m a (doS m a u (l.getD i noAct)).1 (l.drop (i + 1)) = some v := by
 rw [drop_get (d := noAct) hi, runF] at h
 split at h
 ·exact ⟨‹_›, h⟩
 ·cases h
theorem DoS_eq {s : State} {x : Action} (hf : Fit m a) (hs : StOk m a s) (h : (doS m a s x).2 = 0) : DoS m a s x = doS m a s x := by
 have hb : begunS m a s = 0 := by
  unfold begunS
  rw [if_neg (by simp [fit_check hf]), if_neg (by simp [stateS_iff.2 hs])]
 unfold DoS
 rw [if_neg (by simp [hb]), if_neg (by simp [h])]
abbrev CaT := Int × List Int × Int × Int × Int × Int × Int × Int × Int × Int × Int × Int
def caS (x : CaT) : State := ⟨x.2.2.2.2.2.2.2.2.2.2.1, x.2.2.2.2.2.2.2.2.2.1, x.2.2.2.2.2.2.2.2.1, x.2.2.2.2.2.2.2.1, x.2.2.2.2.2.2.1, x.2.2.2.2.2.1, ⟨x.2.2.2.2.1, x.2.2.2.1, x.2.2.1⟩⟩
structure AmOk (f : Field) (caps : List Span) (all : Int) (h : Nat) (am : List Int) : Prop where
 len : am.length = f.Cells.length
 nn : ∀ x ∈ am, 0 ≤ x
 sum : sumL am = all
 ins : S.Inside (S.spreadN f.W f.H caps h f.Cells) am
end
variable {F : Nat}
theorem calls_ok (hF : 10000000000 ≤ F) (hw : law11_awake F = some true) {l mm kk : List Int} (hl : Bytes l) (hm : Bytes mm) (hk : Bytes kk) : law11_SpillCalls F l mm kk = some true := by
 refine Go.KX.Ok.eq ?_
 have f0 : 0 < F := by omega
 have h1 : S.Bytes kk := ⟨hk.b, hk.len⟩
 unfold law11_SpillCalls
 refine ok_bnd S.MadeOK (S.Made_ok (by omega) ⟨hl.b, hl.len⟩) ?_
 rintro ⟨f, caps, am0⟩ hmd
 have hf : S.FieldOK f := hmd.f
 have hsm := hf.small
 have hlen : am0.length = f.Cells.length := hmd.len
 have hnn : ∀ x ∈ am0, 0 ≤ x ∧ x ≤ 1000000 := fun x hx => by have := hmd.nn x hx; omega
 have hall0 := sumL_nonneg am0 fun x hx => (hnn x hx).1
 have hall1 := sumL_le (B := 600) am0 fun x hx => (hmd.nn x hx).2
 have hcp : S.CapsOK f.Cells.length caps := hmd.caps
 have hcl : caps.length = f.Cells.length := hcp.len
 refine ok_bnd _ (made_ok (by omega) hm) ?_
 rintro ⟨m, a⟩ ⟨hg, z1, z2, z3, z4, z5, z6, z7⟩
 simp only at hg z1 z2 z3 z4 z5 z6 z7 ⊢
 have hfew : Few m a := ⟨by omega, z1, z3, by omega, by omega, by omega⟩
 refine ok_bnde (p_Begin (by omega)) ?_
 rw [fit_begin hg]
 refine ok_bnd _ (find_ok hF hg hfew (start_ok hg)) ?_
 rintro ⟨plan, n, e⟩ hfound
 rcases hfound with ⟨q1, u, hu1, hu2, hu3, hu4⟩ | ⟨q1, hu1, hu2, hu3⟩
 ·simp only at q1 hu1
  subst q1
  refine ok_brkF rfl ?_
  dsimp only at hu2 hu3 hu4 ⊢
  refine ok_bnde (S.sum_eq (by show am0.length < F; omega) (by show am0.length ≤ 1000; omega) hnn) ?_
  generalize hall : sumL am0 = all at hall0 hall1
  have hallB : all ≤ 40000 := by omega
  have hlim := hg.limit
  have hpl := run_hours hg (start_ok hg) hu1
  have hpl2 := hpl.1.hour
  have hplan : plan.length ≤ 60 := by
   have h1 : (0 : Int) + (plan.length : Int) ≤ u.Hour := hpl.2
   have h2 : u.Hour ≤ a.Limit := hpl2.2
   omega
  refine ok_loop (fun x : CaT => (0 ≤ x.1 ∧ x.1 ≤ plan.length ∧ StOk m a (caS x) ∧ runF m a (caS x) (plan.drop x.1.toNat) = some u) ∧ AmOk f caps all x.2.2.2.2.2.2.2.2.2.2.1.toNat x.2.1 ∧ 0 ≤ x.2.2.2.2.2.2.2.2.2.2.2 ∧ x.2.2.2.2.2.2.2.2.2.2.2 ≤ kk.length) (fun x => plan.length - x.1.toNat)
   ⟨⟨by simp, by simp, start_ok hg, hu1⟩, ⟨hlen, fun x hx => (hnn x hx).1, hall, hmd.inside⟩, by simp, by simp⟩ (by simp only; omega) ?_
  rintro x nx ⟨⟨k1, k2, k3, k4⟩, ka, kp1, kp2⟩ hnx
  obtain ⟨w, hwe⟩ : ∃ w : State, w = caS x := ⟨_, rfl⟩
  rw [← hwe] at k3 k4
  obtain ⟨j, hj⟩ := Int.eq_ofNat_of_zero_le k1
  rw [hj, Int.toNat_natCast] at k4
  refine ok_brk (fun g => ?_) (fun g => ok_bnde hw (ok_some rfl))
  have g := of_decide_eq_true g
  have hjl : j < plan.length := by omega
  refine ok_chk ⟨by omega, by omega⟩ ?_
  obtain ⟨d1, d2⟩ := run_at hjl k4
  have hst : State.mk x.2.2.2.2.2.2.2.2.2.2.1 x.2.2.2.2.2.2.2.2.2.1 x.2.2.2.2.2.2.2.2.1 x.2.2.2.2.2.2.2.1 x.2.2.2.2.2.2.1 x.2.2.2.2.2.1 (A3ofInt.mk x.2.2.2.2.1 x.2.2.2.1 x.2.2.1) = w := hwe.symm
  have hh : x.2.2.2.2.2.2.2.2.2.2.1 = w.Hour := by rw [hwe]; rfl
  rw [hh] at ka
  rw [hst, hh]
  have hx : List.getD plan (Int.toNat x.1) (Action.mk 0 0) = plan.getD j noAct := by rw [hj, Int.toNat_natCast]; rfl
  rw [hx]
  obtain ⟨act, hact⟩ : ∃ act, act = plan.getD j noAct := ⟨_, rfl⟩
  rw [← hact] at d1 d2 ⊢
  refine ok_bnde (b := doS m a w act) (by rw [p_Do (by omega), DoS_eq hg k3 d1]) ?_
  obtain ⟨t, ht⟩ : ∃ t, doS m a w act = (t, 0) := ⟨(doS m a w act).1, by rw [← d1]⟩
  rw [ht] at d2 ⊢
  simp only at d2 ⊢
  obtain ⟨t1, t2⟩ := do_ok hg k3 ht
  have hwh := k3.hour
  have hth := t1.hour
  refine ok_brkF ?_ ?_
  ·simp only [Bool.or_eq_false_iff, decide_eq_false_iff_not, bne_self_eq_false, true_and]
   omega
  refine ok_chk ⟨by omega, by omega⟩ ?_
  refine ok_loop (fun y : List Int × Int × Int => (0 ≤ y.2.1 ∧ y.2.1 ≤ t.Hour - w.Hour) ∧ AmOk f caps all (w.Hour + y.2.1).toNat y.1 ∧ 0 ≤ y.2.2 ∧ y.2.2 ≤ kk.length) (fun y => (t.Hour - w.Hour - y.2.1).toNat)
   ⟨⟨by simp, by simp only; omega⟩, by simpa using ka, kp1, kp2⟩ (by simp only; omega) ?_
  rintro ⟨am, h, pos⟩ ny ⟨⟨y1, y2⟩, ya, yp1, yp2⟩ hny
  simp only at y1 y2 ya yp1 yp2 hny ⊢
  have i3 := ya.len; have i4 := ya.nn; have i5 := ya.sum; have i6 := ya.ins
  have hnat : (w.Hour + h).toNat = w.Hour.toNat + h.toNat := by omega
  obtain ⟨g1, g2⟩ := S.spreadN_ok (F := F) (by omega) hf hcp (w.Hour + h).toNat
  refine ok_brk (fun hc => ?_) (fun hc => ?_)
  ·have hc := of_decide_eq_true hc
   refine ok_loop (fun x : Int × List Int × Int => 0 ≤ x.1 ∧ x.1 ≤ caps.length ∧ (x.2.1.length : Int) = x.1 ∧ S.Inside caps x.2.1 ∧ 0 ≤ x.2.2 ∧ x.2.2 ≤ kk.length) (fun x : Int × List Int × Int => caps.length - x.1.toNat) ⟨by simp, by simp, rfl, fun j hj => absurd hj (Nat.not_lt_zero _), yp1, yp2⟩ (by simp; omega) ?_
   rintro ⟨i, own, p9⟩ next2 ⟨j1, j2, j3, j4, j5, j6⟩ hn2
   simp only at j1 j2 j3 j4 j5 j6 hn2 ⊢
   refine ok_brk (fun hcc => ?_) (fun hcc => ?_)
   ·have hcc : i < caps.length := by simpa using hcc
    have hs1 := hcp.ok _ (getD_mem (i := i.toNat) (d := ⟨0, 0⟩) (by omega : i.toNat < caps.length))
    have b1 := hs1.1; have b2 := hs1.2.1; have b3 := hs1.2.2
    obtain ⟨sp, hsp⟩ : ∃ sp, sp = caps.getD i.toNat ⟨0, 0⟩ := ⟨_, rfl⟩
    rw [← hsp] at b1 b2 b3
    have hsp' : caps.getD i.toNat (Span.mk 0 0) = sp := hsp.symm
    rw [hsp']
    have hmn : 0 < (if sp.Hi - sp.Lo + 1 < 256 then sp.Hi - sp.Lo + 1 else 256) ∧ (if sp.Hi - sp.Lo + 1 < 256 then sp.Hi - sp.Lo + 1 else 256) ≤ sp.Hi - sp.Lo + 1 := by split <;> omega
    refine ok_chk ⟨j1, hcc⟩ (ok_chk (show InR (sp.Hi - sp.Lo) from ⟨by omega, by omega⟩) (ok_chk (show InR (sp.Hi - sp.Lo + 1) from ⟨by omega, by omega⟩) ?_))
    refine ok_join (by omega) (fun x : Int × Int => 0 ≤ x.1 ∧ sp.Lo + x.1 ≤ sp.Hi ∧ 0 ≤ x.2 ∧ x.2 ≤ kk.length) ?_ fun k hk3 => S.next_okS (n := if sp.Hi - sp.Lo + 1 < 256 then sp.Hi - sp.Lo + 1 else 256) h1 j5 j6 hmn.1 k fun v p e1 e2 _ e3 e4 => hk3 _ ⟨e1, by simp only; omega, e3, e4⟩
    rintro ⟨v, p⟩ ⟨d1, d2, d3, d4⟩
    simp only at d1 d2 d3 d4 ⊢
    refine ok_chk (show InR (sp.Lo + v) from ⟨by omega, by omega⟩) (ok_chk (by simp only [List.length_cons, List.length_nil]; omega) (ok_chk (show InR (i + 1) from ⟨by omega, by omega⟩) (hn2 _ ⟨by show 0 ≤ i + 1; omega, by show i + 1 ≤ _; omega, ?_, ?_, d3, d4⟩ (by show caps.length - (i + 1).toNat < caps.length - i.toNat; omega))))
    ·show ((own ++ [_]).length : Int) = i + 1
     rw [List.length_append, List.length_singleton]; omega
    ·have := S.own_step j1 hcc j3 j4 (v := v) d1 (by rw [hsp']; exact d2)
     rw [hsp'] at this
     exact this
   ·have hcc : ¬ i < caps.length := by simpa using hcc
    have hown : S.OwnIn caps own := ⟨by omega, j4⟩
    have hl0 := hf.len
    have hfl : S.FlowOK f.W f.H am own := ⟨hf.w, hf.h, by omega, by omega, i4, by omega, fun x hx => by
     obtain ⟨j, hj, rfl⟩ := List.getElem_of_mem hx
     have e1 := j4 j hj
     have e2 := hcp.ok _ (getD_mem (i := j) (d := ⟨0, 0⟩) (by omega : j < caps.length))
     have c1 := e2.1; have c2 := e2.2.1; have c3 := e2.2.2
     rw [getD_get hj] at e1
     omega⟩
    obtain ⟨r1, r2, r3⟩ := S.Flow_eq (F := F) (by omega) hfl
    refine ok_bnde r1 (ok_brkF rfl (ok_chk ⟨by omega, by omega⟩ (hny _ ⟨⟨by simp only; omega, by simp only; omega⟩, ⟨by simp only; rw [r2.len, i3], r2.nn, by simp only; rw [r3, i5], ?_⟩, j5, j6⟩ (by simp only; omega))))
    show S.Inside (S.spreadN f.W f.H caps (w.Hour + (h + 1)).toNat f.Cells) (S.hourV f.W f.H am own own)
    rw [show (w.Hour + (h + 1)).toNat = (w.Hour + h).toNat + 1 by omega, S.spreadN]
    exact S.flow_inside (F := F) (f := ⟨f.W, f.H, S.spreadN f.W f.H caps (w.Hour + h).toNat f.Cells⟩) (by omega) g1 (by show S.CapsOK (S.spreadN f.W f.H caps (w.Hour + h).toNat f.Cells).length caps; rw [g2]; exact hcp) hown (by rw [i3]; exact g2.symm) i6 hfl
  ·have hc := of_decide_eq_false hc
   have hht : w.Hour + h = t.Hour := by omega
   rw [hht] at g1 g2 i6
   refine ok_bnde (S.Spread_eq (f := f) (by omega) hf hcp ⟨by omega, by omega⟩) ?_
   refine ok_bnde (S.Holds_eq (f := ⟨f.W, f.H, S.spreadN f.W f.H caps t.Hour.toNat f.Cells⟩) (by omega) g1 (by rw [i3]; exact g2.symm)) ?_
   rw [decide_eq_true (show ∀ i, i < am.length → ((Field.mk f.W f.H (S.spreadN f.W f.H caps t.Hour.toNat f.Cells)).Cells.getD i ⟨0, 0⟩).Lo ≤ am.getD i 0 ∧ am.getD i 0 ≤ ((Field.mk f.W f.H (S.spreadN f.W f.H caps t.Hour.toNat f.Cells)).Cells.getD i ⟨0, 0⟩).Hi from i6)]
   refine ok_bnde (b := all) ?_ (ok_brkF ?_ (ok_chk ⟨by omega, by omega⟩ (hnx _ ⟨⟨by simp only; omega, by simp only; omega, t1, ?_⟩, ⟨i3, i4, i5, i6⟩, yp1, yp2⟩ (by simp only; omega))))
   ·show law11_sum F am = some all
    rw [S.sum_eq (by omega) (by omega) fun x hx => ⟨i4 x hx, Int.le_trans (mem_le_sumL am i4 x hx) (by omega)⟩, i5]
   ·simp
   ·show runF m a t (plan.drop (x.1 + 1).toNat) = some u
    rw [show (x.1 + 1).toNat = j + 1 by omega]
    exact d2
 ·simp only at q1
  subst q1
  exact ok_brkT rfl (ok_bnde (b := true) hw (ok_some rfl))
end Go.Proofs.Sc

namespace Go.Proofs.Sc
open Go Go.KX
theorem awake_eq : law11_awake 1000000000000000 = some true := by kernel_rfl
end Go.Proofs.Sc

namespace Go.Proofs.Sc
open Go Go.KX
theorem calls_law {l m k : List Int} (h1 : (∀ x ∈ l, 0 ≤ x ∧ x ≤ 255) ∧ l.length ≤ 9223372036854775807) (h2 : (∀ x ∈ m, 0 ≤ x ∧ x ≤ 255) ∧ m.length ≤ 9223372036854775807) (h3 : (∀ x ∈ k, 0 ≤ x ∧ x ≤ 255) ∧ k.length ≤ 9223372036854775807) : law11_SpillCalls 1000000000000000 l m k = some true :=
 calls_ok (by decide) awake_eq ⟨h1.1, h1.2⟩ ⟨h2.1, h2.2⟩ ⟨h3.1, h3.2⟩
end Go.Proofs.Sc

namespace Go.KX
open Go Go.ChangeShapes Go.WideShapes Go.RowKit
def goodT (P : Program) : Nat → TypeId → Bool
 | 0, _ => false
 | n + 1, t => match P.underlying t with
  | some (.int _) => true
  | some .bool => true
  | some (.struct fs) => fs.toList.all fun f => goodT P n f.type
  | some (.array _ e) => goodT P n e
  | some (.slice e) => goodT P n e && Nat.ble 1 (P.cellsOf e)
  | _ => false
theorem mapM_carry' {α β : Type} {f g : α → Option β} : ∀ {l : List α} {r : List β}, l.mapM f = some r → (∀ x y, x ∈ l → y ∈ r → f x = some y → g x = some y) → l.mapM g = some r := mapM_carry
section
variable {H : Type} {enc : TypeId × Value → H} {P : Program} {w : World} {base : Nat} {held : Bool}
theorem trod_spare {sp : Nat → Bool} : ∀ (m n : Nat) (t : TypeId) (cs : List Value) (x : DataW H × List MemPlace), goodT P m t = true →
  DataW.trod enc P w base (fun _ => true) held n t cs = some x → (∀ p ∈ x.2, sp p.block = true) → DataW.trod enc P w base sp held n t cs = some x := by
 intro m
 induction m with
 | zero => intro n t cs x h; cases h
 | succ m ih =>
  intro n t cs x hg h hs
  cases n with
  | zero => simp [DataW.trod] at h
  | succ n =>
   rw [DataW.trod_step] at h ⊢
   unfold goodT at hg
   unfold DataW.trodStep at h ⊢
   split at h
   case h_1 => exact h
   case h_2 => exact h
   case h_8 e a len cap hu =>
    rw [hu] at hg
    simp only [Bool.and_eq_true] at hg
    simp only at h ⊢
    split at h
    ·rename_i hc
     rw [if_pos hc]
     simp only [if_true, Option.map_eq_some_iff, Option.bind_eq_some_iff] at h ⊢
     obtain ⟨elems, he, rest, hr, rfl⟩ := h
     have hlen : elems.length = len := by simpa using mapM_some_length he
     have hrlen : rest.length = cap - len := by simpa using mapM_some_length hr
     have hk : 1 ≤ P.cellsOf e := Nat.le_of_ble_eq_true hg.2
     have one : ∀ i y, (w.cells? base (a.add (i * P.cellsOf e)) (P.cellsOf e)).bind (DataW.trod enc P w base (fun _ => true) held n e) = some y → (∀ p ∈ y.2, sp p.block = true) →
       (w.cells? base (a.add (i * P.cellsOf e)) (P.cellsOf e)).bind (DataW.trod enc P w base sp held n e) = some y := by
      intro i y hy hp
      rw [Option.bind_eq_some_iff] at hy ⊢
      obtain ⟨cs', h1, h2⟩ := hy
      exact ⟨cs', h1, ih n e cs' y hg.1 h2 hp⟩
     have hpl : ∀ y, y ∈ elems ++ rest → ∀ p ∈ y.2, sp p.block = true := fun y hy p hp => hs p (by
      simp only [List.mem_append]
      exact .inr (List.mem_flatMap.2 ⟨y, hy, hp⟩))
     refine ⟨elems, mapM_carry' he fun i y hi hy hiy => one i y hiy (hpl y (by simp [hy])), rest, ?_, rfl⟩
     by_cases hcap : cap = 0
     ·have : rest = [] := List.length_eq_zero_iff.1 (by omega)
      subst this
      split
      ·rw [show cap - len = 0 by omega]; rfl
      ·rfl
     ·have : sp a.block = true := by
       have := hs (.cell a.block (a.off + 0)) (by
        simp only [List.mem_append]
        refine .inl (MemPlace.mem_row.2 ⟨0, ?_, rfl⟩)
        rw [hlen, hrlen, show len + (cap - len) = cap by omega]
        exact Nat.mul_pos (by omega) hk)
       exact this
      rw [if_pos this]
      exact mapM_carry' hr fun j y hj hy hjy => one _ y hjy (hpl y (by simp [hy]))
    ·cases h
   case h_7 => exact h
   case h_9 fs cs' hu =>
    rw [hu] at hg
    simp only at hg
    split at h
    ·rename_i hl
     rw [if_pos hl]
     simp only [Option.map_eq_some_iff] at h ⊢
     obtain ⟨xs, hx, rfl⟩ := h
     refine ⟨xs, mapM_carry' hx fun f y hf hy hfy => ih n f.type _ y (List.all_eq_true.1 hg f hf) hfy fun p hp => hs p ?_, rfl⟩
     exact List.mem_flatMap.2 ⟨y, hy, hp⟩
    ·cases h
   case h_10 =>
    rename_i e hu
    rw [hu] at hg
    simp only at hg
    split at h
    ·rename_i hl
     rw [if_pos hl]
     simp only [Option.map_eq_some_iff] at h ⊢
     obtain ⟨xs, hx, rfl⟩ := h
     refine ⟨xs, mapM_carry' hx fun f y hf hy hfy => ih n e _ y hg hfy fun p hp => hs p ?_, rfl⟩
     exact List.mem_flatMap.2 ⟨y, hy, hp⟩
    ·cases h
   all_goals simp_all
theorem trod_move {w' : World} {sp : Nat → Bool} {t : TypeId} {v : Value} {d : DataW H} {ps : List MemPlace} (hg : goodT P 8 t = true) (h : DataW.Trod enc P w base (fun _ => true) held t v d ps)
  (hsame : ∀ p ∈ ps, w.sameAt w' p) (hs : ∀ p ∈ ps, sp p.block = true) : DataW.Trod enc P w' base sp held t v d ps := by
 obtain ⟨n, hn⟩ := h
 exact ⟨n, trod_spare 8 n t _ _ hg (DataW.trod_carry n t _ _ hn hsame) hs⟩
theorem trodAll_move {w' : World} {sp : Nat → Bool} : ∀ {ts : List TypeId} {vs : List Value} {ds : List (DataW H)} {ps : List MemPlace}, ts.all (goodT P 8) = true → DataW.TrodAll enc P w base (fun _ => true) held ts vs ds ps →
  (∀ p ∈ ps, w.sameAt w' p) → (∀ p ∈ ps, sp p.block = true) → DataW.TrodAll enc P w' base sp held ts vs ds ps := by
 intro ts
 induction ts with
 | nil =>
  intro vs ds ps _ h _ _
  obtain ⟨rfl, rfl, rfl⟩ := trodAll_nil h
  rfl
 | cons t ts ih =>
  intro vs ds ps hg h hsame hs
  obtain ⟨v, vs', d, ds', p, q, rfl, rfl, rfl, h1, h2⟩ := trodAll_cons h
  simp only [List.all_cons, Bool.and_eq_true] at hg
  exact ⟨p, q, trod_move hg.1 h1 (fun x hx => hsame x (by simp [hx])) (fun x hx => hs x (by simp [hx])), ih hg.2 h2 (fun x hx => hsame x (by simp [hx])) (fun x hx => hs x (by simp [hx])), rfl⟩
theorem post_law {f : Func} {s : ChangeSpec} {W W' : World} {args : Array Value} {ds gs : List (DataW H)} {before : List MemPlace} {tb : TypeId} (hW : DataW.Whole enc P f.params.toList s.vars false W args.toList ds gs before)
  (hv : s.vars = []) (hfn : s.fn H ds = { results := [.lit (.bool true)], args := ds }) (hrt : f.resultTypes = #[tb]) (htb : P.underlying tb = some .bool) (hgood : f.params.toList.all (goodT P 8) = true) (hb : Below W.heap.size W W') :
  s.post enc P f false true false false W args (.bool true) W' := by
 have hW0 := hW
 obtain ⟨p, q, hA, hV, rfl, _, _⟩ := hW
 rw [hv] at hV
 obtain ⟨rfl, rfl⟩ := trodVars_none hV
 have hlt : ∀ x ∈ p ++ [], x.block < W.heap.size := fun x hx => hW0.lt x hx
 have hsame : ∀ x ∈ p, W.sameAt W' x := fun x hx => hb.same (hlt x (by simpa using hx))
 refine ⟨ds, [], p ++ [], [], p, [], hW0, ?_, ?_, ?_, hb.frame _, fun h => by cases h⟩
 ·simp only [List.append_nil, hfn, hrt]
  exact trodAll_mk1 (shut_bool htb _)
 ·simp only [List.append_nil, hfn]
  exact trodAll_move hgood hA hsame fun x hx => by simpa using hlt x (by simpa using hx)
 ·simp only [List.append_nil, hfn, hv]
  rfl
end
theorem wf_u8 {n : Int} (h : (Lit.int .u8 n).wf = true) : 0 ≤ n ∧ n ≤ 255 := by
 simp [Lit.wf, IntKind.min, IntKind.max, IntKind.signed, IntKind.bits] at h
 omega
def HReads (E : Env) (t : TypeId) (c : Nat) (In : E.G.car c → Prop) : Prop :=
 E.P.cellsOf t = E.G.sz c ∧ ∀ (H : Type) (e : TypeId × Value → H) (w : World) (base : Nat) (sp : Nat → Bool) (held : Bool) (fuel : Nat) (cs : List Value) (x : DataW H × List MemPlace),
  DataW.trod e E.P w base sp held fuel t cs = some x → ∃ a : E.G.car c, HdL E.G (IsCells w) w (E.G.enc c a) cs ∧ In a
theorem isCells_of {w : World} {a : Addr} {u : Value} (h : w.cell? a = some u) : IsCells w a.block ∧ a.spot = none := by
 unfold World.cell? at h
 split at h
 ·rename_i c e s hb
  refine ⟨⟨_, hb, rfl⟩, ?_⟩
  split at h
  ·cases h
  ·rename_i hs
   simpa using hs
 ·cases h
section
variable {E : Env} {H : Type} {e : TypeId × Value → H} {w : World} {base : Nat} {sp : Nat → Bool} {held : Bool}
theorem hdL_one {x : Value} {cv : CV E.G.car} (h : Hd E.G (IsCells w) w cv x) : HdL E.G (IsCells w) w [cv] [x] := ⟨_, _, rfl, h, rfl⟩
theorem hreads_int {t : TypeId} {c : Nat} {k : IntKind} {In : E.G.car c → Prop} (f : Int → E.G.car c) (hf : ∀ n, E.G.enc c (f n) = [.v (.int k n)]) (hu : E.P.underlying t = some (.int k)) (hc : E.P.cellsOf t = E.G.sz c)
  (hIn : ∀ n, (Lit.int k n).wf = true → In (f n)) : HReads E t c In :=
 ⟨hc, fun _ _ _ _ _ _ _ _ _ h => by
  obtain ⟨n, h1, _, h2⟩ := DataW.trod_int hu h
  subst h1
  exact ⟨f n, by rw [hf]; exact hdL_one (.v _), hIn n h2⟩⟩
theorem HReads.at {t : TypeId} {c off : Nat} {In : E.G.car c → Prop} {cs : List Value} (hR : HReads E t c In)
  (hx : ∃ fuel y, DataW.trod e E.P w base sp held fuel t ((cs.drop off).take (E.P.cellsOf t)) = some y) : ∃ a, HdL E.G (IsCells w) w (E.G.enc c a) ((cs.drop off).take (E.G.sz c)) ∧ In a := by
 obtain ⟨fuel, y, h⟩ := hx
 rw [hR.1] at h
 exact hR.2 _ _ _ _ _ _ _ _ _ h
theorem hslice_of {t el : TypeId} {c fuel : Nat} {In : E.G.car c → Prop} {cs : List Value} {x : DataW H × List MemPlace} (hu : E.P.underlying t = some (.slice el)) (hR : HReads E el c In) (hn : 0 < E.G.sz c)
  (h : DataW.trod e E.P w base sp held fuel t cs = some x) :
  ∃ (p : Option Addr) (n cap : Nat) (l : List (E.G.car c)), cs = [.slice p n cap] ∧ Hd E.G (IsCells w) w (.sl c l) (.slice p n cap) ∧ (∀ x ∈ l, In x) ∧ l.length ≤ 9223372036854775807 := by
 rcases DataW.trod_slice hu h with ⟨rfl, _⟩ | ⟨a, len, cap, elems, rest, m, _, rfl, _, hb, hl, hm, hel, hi, _, _⟩
 ·exact ⟨none, 0, 0, [], rfl, Hd.mk (b := 0) (o := 0) rfl (Nat.le_refl _) (fun h => absurd rfl h) (fun i x hx => by simp at hx), by simp, by simp⟩
 have build : ∀ k, k ≤ len → ∃ l : List (E.G.car c), l.length = k ∧ ∀ i x, l[i]? = some x → In x ∧ ∃ us, w.cells? base (a.add (i * E.G.sz c)) (E.G.sz c) = some us ∧ HdL E.G (IsCells w) w (E.G.enc c x) us := by
  intro k
  induction k with
  | zero => intro _; exact ⟨[], rfl, fun i x hx => by simp at hx⟩
  | succ k ih =>
   intro hk
   obtain ⟨l, h1, h2⟩ := ih (by omega)
   have h3 := hi k (by omega)
   rw [List.getElem?_eq_getElem (by omega), hR.1, Option.bind_eq_some_iff] at h3
   obtain ⟨cs', h4, h5⟩ := h3
   obtain ⟨y, hy1, hy⟩ := hR.2 _ _ _ _ _ _ _ _ _ h5
   refine ⟨l ++ [y], by simp [h1], fun i x hx => ?_⟩
   rcases Nat.lt_or_ge i k with h6 | h6
   ·rw [List.getElem?_append_left (by omega)] at hx; exact h2 i x hx
   ·rw [List.getElem?_append_right (by omega)] at hx
    have : i - l.length = 0 := by
     have := (List.getElem?_eq_some_iff.1 hx).1
     simpa using this
    rw [this] at hx
    simp only [List.getElem?_cons_zero, Option.some.injEq] at hx
    subst hx
    obtain rfl : i = k := by omega
    exact ⟨hy, _, h4, hy1⟩
 obtain ⟨l, h1, h2⟩ := build len (Nat.le_refl _)
 have hcell : ∀ (i : Nat) x, l[i]? = some x → ∀ (j : Nat) (cv : CV E.G.car), (E.G.enc c x)[j]? = some cv → ∃ u, w.cell? ((a.add (i * E.G.sz c)).add j) = some u ∧ Hd E.G (IsCells w) w cv u := by
  intro i x hx j cv hcv
  obtain ⟨_, us, h3, h4⟩ := h2 i x hx
  obtain ⟨u, h5, h6⟩ := h4.get j cv hcv
  obtain ⟨_, h7, h8⟩ := World.cells?_some h3
  refine ⟨u, ?_, h6⟩
  rw [h8 j (by rw [← h7]; exact (List.getElem?_eq_some_iff.1 h5).1), h5]
 refine ⟨some a, len, cap, l, rfl, ?_, fun x hx => ?_, by unfold maxLen at hm; omega⟩
 ·rcases Nat.eq_zero_or_pos len with h0 | h0
  ·have : l = [] := List.length_eq_zero_iff.1 (by omega)
   subst this
   exact Hd.mk (b := 0) (o := 0) h1.symm hl (fun h => absurd rfl h) (fun i x hx => by simp at hx)
  ·have hpos : 0 < l.length := by omega
   have hz : 0 < (E.G.enc c l[0]).length := by rw [E.G.hsz]; exact hn
   obtain ⟨u, h3, _⟩ := hcell 0 l[0] (List.getElem?_eq_getElem hpos) 0 _ (List.getElem?_eq_getElem hz)
   rw [Nat.zero_mul, show (a.add 0).add 0 = a by simp [Addr.add]] at h3
   obtain ⟨h4, h5⟩ := isCells_of h3
   obtain ⟨b, o, s⟩ := a
   simp only at h4 h5
   subst h5
   refine Hd.mk (b := b) (o := o) h1.symm hl (fun _ => ⟨rfl, h4⟩) (fun i x hx j cv hcv => ?_)
   have := hcell i x hx j cv hcv
   rwa [addr_add, addr_add] at this
 ·obtain ⟨i, hi⟩ := List.getElem?_of_mem hx
  exact (h2 i x hi).1
theorem harg_sl {r : Reach} {b0 : Nat} {t el : TypeId} {c : Nat} {In : E.G.car c → Prop} {v : Value} {d : DataW H} {ps : List MemPlace} (hu : E.P.underlying t = some (.slice el)) (hR : HReads E el c In) (hn : 0 < E.G.sz c)
  (hval : Value.okWide E.P w r b0 t v) (h : DataW.Trod e E.P w base sp held t v d ps) : ∃ a : List (E.G.car c), ArgIs E (IsCells w) w (.sl c) a v ∧ (∀ x ∈ a, In x) ∧ a.length ≤ 9223372036854775807 := by
 obtain ⟨p, n, cap, rfl⟩ := okWide_slice hu hval
 obtain ⟨fuel, hf⟩ := h
 obtain ⟨p', n', cap', l, h1, h2, h3, h4⟩ := hslice_of hu hR hn hf
 have h1 : [Value.slice p n cap] = [.slice p' n' cap'] := h1
 simp only [List.cons.injEq, and_true, Value.slice.injEq] at h1
 obtain ⟨rfl, rfl, rfl⟩ := h1
 exact ⟨l, h2, h3, h4⟩
theorem law_calls {k : Nat} {ps : List PK} {t : Nat} {es : List Nat} {f : AT E.G.car ps → Option (E.G.car t)} (hc : CSok E [] ⟨k, ps, [.v t false es], f⟩) (hglo : E.glo = []) (b : E.G.car t) (hb : E.G.enc t b = [.v (.bool true)])
  {vs : List Value} {xs : AT E.G.car ps} (ha : ArgsAre E (IsCells w) w ps xs vs) (hm : f xs = some b) :
  Calls E.P k vs.toArray w fun e w' => e = .returned (.bool true) ∧ Below w.heap.size w w' := by
 have h := hc.ok (IsCells w) w vs xs ⟨fun _ => { b := 0, p := none, n := 0, c := 0 }, by rw [hglo]; exact And.intro (fun p hp => nomatch hp) (fun q hq => nomatch hq)⟩ (fun _ h => h) ha b hm
 refine h.mono fun e' w' ⟨us, ms, A', h1, h2, _, _, _, h3, _⟩ => ⟨?_, h2.below⟩
 obtain ⟨v, rfl, us', h4, h5⟩ := h3
 simp only [Bool.false_eq_true, if_false] at h5
 subst h5
 have h4 : ResCells E.G A' w.heap.size w' (E.G.enc t b) es [v] ms := h4
 rw [hb] at h4
 obtain ⟨us2, h6, _⟩ := h4
 cases h6
 exact h1
end
end Go.KX
