/- Texts FsLaw, KFR: own work; each part says what it is. -/
import Derived.Test.YtejiiddllbnpdaaSe4
import Derived.Handed
import Derived.OpenShut
import Derived.ChangeSlices
import Derived.JoinedOf
namespace Go.Proofs.Fs
open Go Go.KX
theorem Season_is {F : Nat} (hF : 1000 < F) {t : Tariff} (ht : TarOK t) {l : List Voyage} (hl : l.length ≤ 500) (hv : ∀ v ∈ l, VG v) : fees_Season F t l = some (seaV t [] l, sumS (seaV t [] l), 0) := by
 obtain ⟨r, h1, h2⟩ := season_ok hF ht l
 rcases h2 with ⟨a, _⟩ | ⟨_, h2⟩
 ·omega
 ·rcases h2 with ⟨a, _⟩ | ⟨_, rfl⟩
  ·exact absurd (fun v q => (hv v q).ok) a
  ·exact h1
theorem pr {α β : Type} {a a' : α} {b b' : β} (h : a = a') (h' : b = b') : (a, b) = (a', b') := by rw [h, h']
def Dz (t : Tariff) (f : Int → Int) (l : List Voyage) : Prop := ∀ k, 0 ≤ f k ∧ f k ≤ cnt k l ∧ f k ≤ t.Paid
set_option maxRecDepth 100000 in
set_option maxHeartbeats 1000000 in
theorem feesSeason_ok' {F : Nat} (hF : F = 1000000000000000) {l h : List Int} (hl : Bytes l) (hh : Bytes h) : law12_FeesSeason F l h = some true := by
 have F0 : 0 < F := by omega
 suffices H : Ok (fun r => r = true) (law12_FeesSeason F l h) by obtain ⟨r, h1, rfl⟩ := H; exact h1
 unfold law12_FeesSeason
 refine ok_bnd _ (made_ok (by omega) hl) fun t ht => ?_
 refine ok_next0 F0 hh (by omega) fun N p1 a1 a2 a3 a4 a5 => ?_
 dsimp only
 refine ok_loop (fun x : List Voyage × Int × Int => (0 ≤ x.2.1 ∧ x.2.1 ≤ N) ∧ (0 ≤ x.2.2 ∧ x.2.2 ≤ h.length) ∧ x.1.length = x.2.1.toNat ∧ ∀ v ∈ x.1, VG v) (fun x => (N - x.2.1).toNat) ⟨⟨Int.le_refl _, a1⟩, ⟨a4, a5⟩, rfl, fun v hv => nomatch hv⟩ (by show (N - 0).toNat < F; omega) ?_
 rintro ⟨vs, i, pos⟩ next ⟨⟨i1, i2⟩, ⟨p1', p2⟩, i3, i4⟩ hn
 simp only at i1 i2 i3 i4 p1' p2
 dsimp only
 refine ok_brk (fun hc => ?_) (fun hc => ?_)
 ·have hc : i < N := of_decide_eq_true hc
  refine ok_next F0 hh p1' p2 (by omega) fun s q1 b1 b2 b3 b4 b5 => ?_
  dsimp only
  refine ok_chk (show InR _ from ⟨by omega, by omega⟩) (ok_chk (show InR _ from ⟨by omega, by omega⟩) (ok_next F0 hh b4 b5 (by omega) fun u2 q2 c1 c2 c3 c4 c5 => ?_))
  dsimp only
  refine ok_next F0 hh c4 c5 (by omega) fun u3 q3 d1 d2 d3 d4 d5 => ?_
  dsimp only
  refine ok_next F0 hh d4 d5 (by omega) fun u4 q4 e1 e2 e3 e4 e5 => ?_
  dsimp only
  refine ok_next F0 hh e4 e5 (by omega) fun u5 q5 f1 f2 f3 f4 f5 => ?_
  dsimp only
  refine ok_chk (by simp; omega) (ok_chk (show InR _ from ⟨by omega, by omega⟩) (hn _ ⟨⟨by show 0 ≤ i + 1; omega, by show i + 1 ≤ N; omega⟩, ⟨f4, f5⟩, by simp; omega, fun v hv => ?_⟩ (by show (N - (i + 1)).toNat < (N - i).toNat; omega)))
  rcases List.mem_append.1 hv with q | q
  ·exact i4 v q
  ·rw [List.mem_singleton.1 q]
   exact ⟨⟨b1, b2⟩, rfl, rfl, ⟨c1, c3⟩, ⟨d1, d2⟩, ⟨e1, e2⟩, ⟨f1, f2⟩⟩
 have hc : ¬ i < N := of_decide_eq_false hc
 have hlen : vs.length ≤ 30 := by omega
 have hs : ShL vs := ⟨fun v hv => (i4 v hv).ship, by omega⟩
 refine ok_bnde (show slices_Clone_fees_Voyage F vs = some vs by
  unfold slices_Clone_fees_Voyage
  rw [chk_pos (by omega)]; rfl) ?_
 refine ok_loop (fun x : Int × Int × List Voyage => 20 ≤ x.1 ∧ x.2.1 = x.1 - 20 ∧ x.1 ≤ vs.length + 20 ∧ x.2.2.Perm vs) (fun x => (vs.length + 20 - x.1).toNat) ⟨Int.le_refl _, rfl, by show (20 : Int) ≤ _; omega, .refl _⟩ (by show ((vs.length : Int) + 20 - 20).toNat < F; omega) ?_
 rintro ⟨b, a, m⟩ next2 ⟨j1, j2, j3, j4⟩ hn2
 simp only at j1 j2 j3 j4
 dsimp only
 have e1 := j4.length_eq
 refine ok_brk (fun hb => ?_) (fun hb => ?_)
 ·have hb : b ≤ vs.length := of_decide_eq_true hb
  refine ok_chk (show InR _ from ⟨by omega, by omega⟩) (insr (by omega) (A := a) (B := b) (l := m) (hs.perm j4) (by omega) (by omega) (by omega) fun ⟨_, m'⟩ pm => ?_)
  exact ok_chk (show InR _ from ⟨by omega, by omega⟩) (hn2 _ ⟨by show 20 ≤ b + 20; omega, by show b = b + 20 - 20; omega, by show b + 20 ≤ _; omega, pm.trans j4⟩ (by show (vs.length + 20 - (b + 20) : Int).toNat < (vs.length + 20 - b : Int).toNat; omega))
 have hb : ¬ b ≤ vs.length := of_decide_eq_false hb
 refine ok_chk (show InR _ from ⟨by omega, by omega⟩) ?_
 refine insr (by omega) (A := a) (B := vs.length) (l := m) (hs.perm j4) (by omega) (by omega) (by omega) fun ⟨_, m1⟩ pm => ?_
 have pm : m1.Perm vs := List.Perm.trans pm j4
 dsimp only
 refine ok_loop (fun x : Int × List Voyage => 20 ≤ x.1 ∧ x.1 ≤ 2 * vs.length + 20 ∧ x.2.Perm vs) (fun x => (vs.length - x.1).toNat) ⟨Int.le_refl _, by show (20 : Int) ≤ _; omega, pm⟩ (by show ((vs.length : Int) - 20).toNat < F; omega) ?_
 rintro ⟨bs, m2⟩ next3 ⟨k1, k2, k3⟩ hn3
 simp only at k1 k2 k3
 dsimp only
 refine ok_brk (fun hc => ?_) (fun hc => ?_)
 ·have hc : bs < vs.length := of_decide_eq_true hc
  refine ok_chk (show InR _ from ⟨by omega, by omega⟩) (ok_loop (fun x : Int × Int × List Voyage => 0 ≤ x.2.1 ∧ x.1 = x.2.1 + 2 * bs ∧ x.2.1 ≤ vs.length ∧ x.2.2.Perm vs) (fun x => (vs.length + 2 * bs - x.1).toNat) ⟨Int.le_refl _, by show 2 * bs = 0 + 2 * bs; omega, by show (0 : Int) ≤ _; omega, k3⟩ (by show (vs.length + 2 * bs - 2 * bs : Int).toNat < F; omega) ?_)
  rintro ⟨b, a, m3⟩ next4 ⟨u1, u2, u3, u4⟩ hn4
  simp only at u1 u2 u3 u4
  dsimp only
  have e2 := u4.length_eq
  refine ok_brk (fun hb => ?_) (fun hb => ?_)
  ·have hb : b ≤ vs.length := of_decide_eq_true hb
   refine ok_chk (show InR _ from ⟨by omega, by omega⟩) (ok_bnd _ (symM_ok (by omega) F a (a + bs) b m3 (hs.perm u4) (by omega) (by omega) (by omega) (by omega) (by omega)) fun m4 p4 => ?_)
   exact ok_chk (show InR _ from ⟨by omega, by omega⟩) (ok_chk (show InR _ from ⟨by omega, by omega⟩) (hn4 _ ⟨by show 0 ≤ b; omega, by show b + 2 * bs = b + 2 * bs; rfl, by show b ≤ _; omega, p4.trans u4⟩ (by show (vs.length + 2 * bs - (b + 2 * bs) : Int).toNat < (vs.length + 2 * bs - b : Int).toNat; omega)))
  ·have hb : ¬ b ≤ vs.length := of_decide_eq_false hb
   refine ok_join F0 (fun x : List Voyage => x.Perm vs) (fun m4 p4 => ?_) fun k5 hk5 => ?_
   ·exact ok_chk (show InR _ from ⟨by omega, by omega⟩) (hn3 _ ⟨by show 20 ≤ bs * 2; omega, by show bs * 2 ≤ _; omega, p4⟩ (by show (vs.length - bs * 2 : Int).toNat < (vs.length - bs : Int).toNat; omega))
   ·refine ok_chk (show InR _ from ⟨by omega, by omega⟩) (ok_brk (fun hb2 => ?_) (fun _ => hk5 _ u4))
    have hb2 : a + bs < vs.length := of_decide_eq_true hb2
    exact ok_bnd _ (symM_ok (by omega) F a (a + bs) vs.length m3 (hs.perm u4) (by omega) (by omega) (by omega) (by omega) (by omega)) fun m4 p4 => hk5 _ (p4.trans u4)
 clear hc
 have hvs : ∀ v ∈ vs, VG v := i4
 have hm2 : ∀ v ∈ m2, VG v := fun v hv => i4 v (k3.mem_iff.1 hv)
 have e3 := k3.length_eq
 refine ok_bnde (Season_is (by omega) ht (by omega) hvs) (ok_bnde (Season_is (by omega) ht (by omega) hm2) ?_)
 have hsum := sum_perm t k3 hvs
 have hpay := fun k => pay_perm t k k3 hvs
 dsimp only
 refine ok_brkF ?_ ?_
 ·simp [seaV_length, e3, hsum]
 have hpd := ht.nums.paid
 refine ok_loop (fun x => ∃ (i : Int) (f : Int → Int), 0 ≤ i ∧ i ≤ vs.length ∧ Dz t f (vs.take i.toNat) ∧ x = (sumS (seaV t [] (vs.take i.toNat)), i, f 3, f 2, f 1, f 0, payS t 3 [] (vs.take i.toNat), payS t 2 [] (vs.take i.toNat), payS t 1 [] (vs.take i.toNat), payS t 0 [] (vs.take i.toNat), cnt 3 (vs.take i.toNat), cnt 2 (vs.take i.toNat), cnt 1 (vs.take i.toNat), cnt 0 (vs.take i.toNat), payS t 3 [] (m2.take i.toNat), payS t 2 [] (m2.take i.toNat), payS t 1 [] (m2.take i.toNat), payS t 0 [] (m2.take i.toNat))) (fun x => (vs.length - x.2.1).toNat) ⟨0, fun _ => 0, Int.le_refl _, by omega, fun k => ⟨Int.le_refl _, by simp [cnt], by show (0 : Int) ≤ t.Paid; omega⟩, rfl⟩ (by show ((vs.length : Int) - 0).toNat < F; omega) ?_
 rintro _ next5 ⟨i, f, w1, w2, w3, rfl⟩ hn5
 dsimp only
 refine ok_brk (fun hcd => ?_) (fun hc => ?_)
 ·have hc : i < vs.length := of_decide_eq_true hcd
  have hi : i.toNat < vs.length := by omega
  have hi2 : i.toNat < m2.length := by omega
  have htk : vs.take (i + 1).toNat = vs.take i.toNat ++ [vs.getD i.toNat w0] := by rw [show (i + 1).toNat = i.toNat + 1 by omega, take_succ' (d := w0) hi]
  have htk2 : m2.take (i + 1).toNat = m2.take i.toNat ++ [m2.getD i.toNat w0] := by rw [show (i + 1).toNat = i.toNat + 1 by omega, take_succ' (d := w0) hi2]
  have g1 := sea_get t ⟨⟨0, 0, 0, 0, 0⟩, 0⟩ vs [] i.toNat hi
  have g2 := sea_get t ⟨⟨0, 0, 0, 0, 0⟩, 0⟩ m2 [] i.toNat hi2
  rw [List.nil_append] at g1 g2
  have hV := hvs _ (getD_mem (d := w0) hi)
  have hW := hm2 _ (getD_mem (d := w0) hi2)
  have hL : ∀ v ∈ vs.take i.toNat, VG v := fun v hv => hvs v (List.mem_of_mem_take hv)
  have hM : ∀ v ∈ m2.take i.toNat, VG v := fun v hv => hm2 v (List.mem_of_mem_take hv)
  have hLl : (vs.take i.toNat).length ≤ 30 := by rw [List.length_take]; omega
  have hMl : (m2.take i.toNat).length ≤ 30 := by rw [List.length_take]; omega
  refine ok_join F0 (fun x => ∃ f' : Int → Int, Dz t f' (vs.take (i + 1).toNat) ∧ x = (sumS (seaV t [] (vs.take (i + 1).toNat)), f' 3, f' 2, f' 1, f' 0, payS t 3 [] (vs.take (i + 1).toNat), payS t 2 [] (vs.take (i + 1).toNat), payS t 1 [] (vs.take (i + 1).toNat), payS t 0 [] (vs.take (i + 1).toNat), cnt 3 (vs.take (i + 1).toNat), cnt 2 (vs.take (i + 1).toNat), cnt 1 (vs.take (i + 1).toNat), cnt 0 (vs.take (i + 1).toNat), payS t 3 [] (m2.take (i + 1).toNat), payS t 2 [] (m2.take (i + 1).toNat), payS t 1 [] (m2.take (i + 1).toNat), payS t 0 [] (m2.take (i + 1).toNat))) ?_ ?_
  ·rintro _ ⟨f', z1, rfl⟩
   dsimp only
   exact ok_chk (show InR _ from ⟨by omega, by omega⟩) (hn5 _ ⟨i + 1, f', by omega, by omega, z1, rfl⟩ (by show (vs.length - (i + 1) : Int).toNat < (vs.length - i : Int).toNat; omega))
  ·intro k6 hk6
   rw [show Voyage.mk (0 : Int) (0 : Int) (0 : Int) (0 : Int) (0 : Int) (0 : Int) (0 : Int) = w0 from rfl, show Account.mk (A5ofInt.mk (0 : Int) (0 : Int) (0 : Int) (0 : Int) (0 : Int)) (0 : Int) = ⟨⟨0, 0, 0, 0, 0⟩, 0⟩ from rfl, g1, g2]
   rw [htk, htk2] at hk6
   generalize vs.take i.toNat = L at htk w3 g1 hL hLl hk6 ⊢
   generalize m2.take i.toNat = M at htk2 g2 hM hMl hk6 ⊢
   generalize vs.getD i.toNat w0 = V at htk g1 hV hk6 ⊢
   generalize m2.getD i.toNat w0 = W at htk2 g2 hW hk6 ⊢
   have hs1 := hV.ship
   have hs2 := hW.ship
   rw [get4 (fun k => cnt k L) hs1, get4 f hs1, get4 (fun k => payS t k [] L) hs1, get4 (fun k => payS t k [] M) hs2]
   have hcb := cnt_bound V.Ship L
   refine ok_chk ⟨w1, hc⟩ (ok_chk ⟨hs1.1, hs1.2⟩ (ok_bnde (Bill_is (by omega) ht hV.ok hcb.1) ?_))
   refine ok_chk (fun _ => ⟨w1, by rw [seaV_length]; exact hc⟩) (ok_brkF (by simp) ?_)
   dsimp only
   have b1 := billV_bound ht hV.ok (cnt V.Ship L)
   have b2 := billV_bound ht hW.ok (cnt W.Ship M)
   have b3 := pay_bound ht V.Ship L [] hL
   have b4 := pay_bound ht W.Ship M [] hM
   have b5 := sea_bound ht L [] hL
   have b6 := w3 V.Ship
   have b7 : (L.length : Int) ≤ 30 := by omega
   have b8 : (M.length : Int) ≤ 30 := by omega
   have hs1' : 0 ≤ V.Ship ∧ V.Ship < ((4 : Nat) : Int) := hs1
   have hs2' : 0 ≤ W.Ship ∧ W.Ship < ((4 : Nat) : Int) := hs2
   refine ok_chk hs1' (ok_chk (show InR _ from ⟨by omega, by omega⟩) (ok_chk hs1' (ok_chk (show InR _ from ⟨by omega, by omega⟩) (ok_chk hs1' (ok_chk (show InR _ from ⟨by omega, by omega⟩) (ok_chk hs1' (ok_chk ⟨w1, by omega⟩ (ok_chk hs2' (ok_chk ⟨w1, by rw [seaV_length]; omega⟩ (ok_chk (show InR _ from ⟨by omega, by omega⟩) (ok_chk hs2' ?_)))))))))))
   refine ok_brk (fun hb => ?_) (fun hb => ?_)
   ·have hb : (if cnt V.Ship L < t.Paid then duesV t V.Class V.Tonnes else 0) > 0 := of_decide_eq_true hb
    have hp : cnt V.Ship L < t.Paid := by
     by_cases e : cnt V.Ship L < t.Paid
     ·exact e
     ·rw [if_neg e] at hb; omega
    refine ok_chk hs1' (ok_chk (show InR _ from ⟨by omega, by omega⟩) (ok_chk hs1' (hk6 _ ⟨fun k => f k + if V.Ship = k then 1 else 0, fun k => ?_, ?_⟩)))
    ·have := w3 k
     rw [cnt_snoc]
     by_cases e : V.Ship = k
     ·subst e; simp only [if_pos rfl]; omega
     ·simp only [if_neg e]; omega
    ·simp only [pay_snoc, cnt_snoc, sea_snoc, sumS_append, List.nil_append]
     exact (pr (by simp only [sumS]; omega) (pr (upd4 f V.Ship 3 1) (pr (upd4 f V.Ship 2 1) (pr (upd4 f V.Ship 1 1) (pr (upd4 f V.Ship 0 1) (pr (upd4 (fun k => payS t k [] L) V.Ship 3 _) (pr (upd4 (fun k => payS t k [] L) V.Ship 2 _) (pr (upd4 (fun k => payS t k [] L) V.Ship 1 _) (pr (upd4 (fun k => payS t k [] L) V.Ship 0 _) (pr (upd4 (fun k => cnt k L) V.Ship 3 1) (pr (upd4 (fun k => cnt k L) V.Ship 2 1) (pr (upd4 (fun k => cnt k L) V.Ship 1 1) (pr (upd4 (fun k => cnt k L) V.Ship 0 1) (pr (upd4 (fun k => payS t k [] M) W.Ship 3 _) (pr (upd4 (fun k => payS t k [] M) W.Ship 2 _) (pr (upd4 (fun k => payS t k [] M) W.Ship 1 _) (upd4 (fun k => payS t k [] M) W.Ship 0 _)))))))))))))))))
   ·refine hk6 _ ⟨f, fun k => ?_, ?_⟩
    ·have := w3 k
     rw [cnt_snoc]
     split <;> omega
    ·simp only [pay_snoc, cnt_snoc, sea_snoc, sumS_append, List.nil_append]
     exact (pr (by simp only [sumS]; omega) (pr rfl (pr rfl (pr rfl (pr rfl (pr (upd4 (fun k => payS t k [] L) V.Ship 3 _) (pr (upd4 (fun k => payS t k [] L) V.Ship 2 _) (pr (upd4 (fun k => payS t k [] L) V.Ship 1 _) (pr (upd4 (fun k => payS t k [] L) V.Ship 0 _) (pr (upd4 (fun k => cnt k L) V.Ship 3 1) (pr (upd4 (fun k => cnt k L) V.Ship 2 1) (pr (upd4 (fun k => cnt k L) V.Ship 1 1) (pr (upd4 (fun k => cnt k L) V.Ship 0 1) (pr (upd4 (fun k => payS t k [] M) W.Ship 3 _) (pr (upd4 (fun k => payS t k [] M) W.Ship 2 _) (pr (upd4 (fun k => payS t k [] M) W.Ship 1 _) (upd4 (fun k => payS t k [] M) W.Ship 0 _)))))))))))))))))
 ·have hc : ¬ i < vs.length := of_decide_eq_false hc
  obtain rfl : i = vs.length := by omega
  rw [List.take_of_length_le (by omega), List.take_of_length_le (by omega)]
  simp only [hpay]
  rw [List.take_of_length_le (by omega)] at w3
  refine ok_bnd (fun m => m ≤ t.Paid) (ok_brk (fun _ => (max_ok (by simp; omega) (by simp) (by simp)).mono fun m hm => ?_) (fun _ => ok_some (by omega))) fun m hm => ?_
  ·have := hm.1
   simp only [List.mem_cons, List.not_mem_nil, or_false] at this
   rcases this with e | e | e | e <;> rw [e] <;> exact (w3 _).2.2
  ·have haw := awake_eq
   rw [← hF] at haw
   generalize law12_awake F = A at haw ⊢
   subst haw
   simp only [beq_self_eq_true, Bool.and_self, Bool.true_and, hm, decide_true]
   exact ok_some rfl
theorem feesSeason_ok {l m : List Int} (h0 : (∀ y ∈ l, 0 ≤ y ∧ y ≤ 255) ∧ l.length ≤ 9223372036854775807) (h1 : (∀ y ∈ m, 0 ≤ y ∧ y ≤ 255) ∧ m.length ≤ 9223372036854775807) : law12_FeesSeason 1000000000000000 l m = some true := feesSeason_ok' rfl ⟨h0.1, by have := h0.2; omega⟩ ⟨h1.1, by have := h1.2; omega⟩
end Go.Proofs.Fs

namespace Go.KX
open Go Go.ChangeShapes Go.WideShapes Go.RowKit
def goodT (P : Program) : Nat → TypeId → Bool
 | 0, _ => false
 | n + 1, t => match P.underlying t with
  | some (.int _) => true
  | some .bool => true
  | some (.struct fs) => fs.toList.all fun f => goodT P n f.type
  | some (.array _ e) => goodT P n e
  | some (.slice e) => goodT P n e && Nat.ble 1 (P.cellsOf e)
  | _ => false
theorem mapM_carry' {α β : Type} {f g : α → Option β} : ∀ {l : List α} {r : List β}, l.mapM f = some r → (∀ x y, x ∈ l → y ∈ r → f x = some y → g x = some y) → l.mapM g = some r := mapM_carry
section
variable {H : Type} {enc : TypeId × Value → H} {P : Program} {w : World} {base : Nat} {held : Bool}
theorem trod_spare {sp : Nat → Bool} : ∀ (m n : Nat) (t : TypeId) (cs : List Value) (x : DataW H × List MemPlace), goodT P m t = true →
  DataW.trod enc P w base (fun _ => true) held n t cs = some x → (∀ p ∈ x.2, sp p.block = true) → DataW.trod enc P w base sp held n t cs = some x := by
 intro m
 induction m with
 | zero => intro n t cs x h; cases h
 | succ m ih =>
  intro n t cs x hg h hs
  cases n with
  | zero => simp [DataW.trod] at h
  | succ n =>
   rw [DataW.trod_step] at h ⊢
   unfold goodT at hg
   unfold DataW.trodStep at h ⊢
   split at h
   case h_1 => exact h
   case h_2 => exact h
   case h_8 e a len cap hu =>
    rw [hu] at hg
    simp only [Bool.and_eq_true] at hg
    simp only at h ⊢
    split at h
    ·rename_i hc
     rw [if_pos hc]
     simp only [if_true, Option.map_eq_some_iff, Option.bind_eq_some_iff] at h ⊢
     obtain ⟨elems, he, rest, hr, rfl⟩ := h
     have hlen : elems.length = len := by simpa using mapM_some_length he
     have hrlen : rest.length = cap - len := by simpa using mapM_some_length hr
     have hk : 1 ≤ P.cellsOf e := Nat.le_of_ble_eq_true hg.2
     have one : ∀ i y, (w.cells? base (a.add (i * P.cellsOf e)) (P.cellsOf e)).bind (DataW.trod enc P w base (fun _ => true) held n e) = some y → (∀ p ∈ y.2, sp p.block = true) →
       (w.cells? base (a.add (i * P.cellsOf e)) (P.cellsOf e)).bind (DataW.trod enc P w base sp held n e) = some y := by
      intro i y hy hp
      rw [Option.bind_eq_some_iff] at hy ⊢
      obtain ⟨cs', h1, h2⟩ := hy
      exact ⟨cs', h1, ih n e cs' y hg.1 h2 hp⟩
     have hpl : ∀ y, y ∈ elems ++ rest → ∀ p ∈ y.2, sp p.block = true := fun y hy p hp => hs p (by
      simp only [List.mem_append]
      exact .inr (List.mem_flatMap.2 ⟨y, hy, hp⟩))
     refine ⟨elems, mapM_carry' he fun i y hi hy hiy => one i y hiy (hpl y (by simp [hy])), rest, ?_, rfl⟩
     by_cases hcap : cap = 0
     ·have : rest = [] := List.length_eq_zero_iff.1 (by omega)
      subst this
      split
      ·rw [show cap - len = 0 by omega]; rfl
      ·rfl
     ·have : sp a.block = true := by
       have := hs (.cell a.block (a.off + 0)) (by
        simp only [List.mem_append]
        refine .inl (MemPlace.mem_row.2 ⟨0, ?_, rfl⟩)
        rw [hlen, hrlen, show len + (cap - len) = cap by omega]
        exact Nat.mul_pos (by omega) hk)
       exact this
      rw [if_pos this]
      exact mapM_carry' hr fun j y hj hy hjy => one _ y hjy (hpl y (by simp [hy]))
    ·cases h
   case h_7 => exact h
   case h_9 fs cs' hu =>
    rw [hu] at hg
    simp only at hg
    split at h
    ·rename_i hl
     rw [if_pos hl]
     simp only [Option.map_eq_some_iff] at h ⊢
     obtain ⟨xs, hx, rfl⟩ := h
     refine ⟨xs, mapM_carry' hx fun f y hf hy hfy => ih n f.type _ y (List.all_eq_true.1 hg f hf) hfy fun p hp => hs p ?_, rfl⟩
     exact List.mem_flatMap.2 ⟨y, hy, hp⟩
    ·cases h
   case h_10 =>
    rename_i e hu
    rw [hu] at hg
    simp only at hg
    split at h
    ·rename_i hl
     rw [if_pos hl]
     simp only [Option.map_eq_some_iff] at h ⊢
     obtain ⟨xs, hx, rfl⟩ := h
     refine ⟨xs, mapM_carry' hx fun f y hf hy hfy => ih n e _ y hg hfy fun p hp => hs p ?_, rfl⟩
     exact List.mem_flatMap.2 ⟨y, hy, hp⟩
    ·cases h
   all_goals simp_all
theorem trod_move {w' : World} {sp : Nat → Bool} {t : TypeId} {v : Value} {d : DataW H} {ps : List MemPlace} (hg : goodT P 8 t = true) (h : DataW.Trod enc P w base (fun _ => true) held t v d ps)
  (hsame : ∀ p ∈ ps, w.sameAt w' p) (hs : ∀ p ∈ ps, sp p.block = true) : DataW.Trod enc P w' base sp held t v d ps := by
 obtain ⟨n, hn⟩ := h
 exact ⟨n, trod_spare 8 n t _ _ hg (DataW.trod_carry n t _ _ hn hsame) hs⟩
theorem trodAll_move {w' : World} {sp : Nat → Bool} : ∀ {ts : List TypeId} {vs : List Value} {ds : List (DataW H)} {ps : List MemPlace}, ts.all (goodT P 8) = true → DataW.TrodAll enc P w base (fun _ => true) held ts vs ds ps →
  (∀ p ∈ ps, w.sameAt w' p) → (∀ p ∈ ps, sp p.block = true) → DataW.TrodAll enc P w' base sp held ts vs ds ps := by
 intro ts
 induction ts with
 | nil =>
  intro vs ds ps _ h _ _
  obtain ⟨rfl, rfl, rfl⟩ := trodAll_nil h
  rfl
 | cons t ts ih =>
  intro vs ds ps hg h hsame hs
  obtain ⟨v, vs', d, ds', p, q, rfl, rfl, rfl, h1, h2⟩ := trodAll_cons h
  simp only [List.all_cons, Bool.and_eq_true] at hg
  exact ⟨p, q, trod_move hg.1 h1 (fun x hx => hsame x (by simp [hx])) (fun x hx => hs x (by simp [hx])), ih hg.2 h2 (fun x hx => hsame x (by simp [hx])) (fun x hx => hs x (by simp [hx])), rfl⟩
theorem post_law {f : Func} {s : ChangeSpec} {W W' : World} {args : Array Value} {ds gs : List (DataW H)} {before : List MemPlace} {tb : TypeId} (hW : DataW.Whole enc P f.params.toList s.vars false W args.toList ds gs before)
  (hv : s.vars = []) (hfn : s.fn H ds = { results := [.lit (.bool true)], args := ds }) (hrt : f.resultTypes = #[tb]) (htb : P.underlying tb = some .bool) (hgood : f.params.toList.all (goodT P 8) = true) (hb : Below W.heap.size W W') :
  s.post enc P f false true false false W args (.bool true) W' := by
 have hW0 := hW
 obtain ⟨p, q, hA, hV, rfl, _, _⟩ := hW
 rw [hv] at hV
 obtain ⟨rfl, rfl⟩ := trodVars_none hV
 have hlt : ∀ x ∈ p ++ [], x.block < W.heap.size := fun x hx => hW0.lt x hx
 have hsame : ∀ x ∈ p, W.sameAt W' x := fun x hx => hb.same (hlt x (by simpa using hx))
 refine ⟨ds, [], p ++ [], [], p, [], hW0, ?_, ?_, ?_, hb.frame _, fun h => by cases h⟩
 ·simp only [List.append_nil, hfn, hrt]
  exact trodAll_mk1 (shut_bool htb _)
 ·simp only [List.append_nil, hfn]
  exact trodAll_move hgood hA hsame fun x hx => by simpa using hlt x (by simpa using hx)
 ·simp only [List.append_nil, hfn, hv]
  rfl
end
theorem wf_u8 {n : Int} (h : (Lit.int .u8 n).wf = true) : 0 ≤ n ∧ n ≤ 255 := by
 simp [Lit.wf, IntKind.min, IntKind.max, IntKind.signed, IntKind.bits] at h
 omega
def HReads (E : Env) (t : TypeId) (c : Nat) (In : E.G.car c → Prop) : Prop :=
 E.P.cellsOf t = E.G.sz c ∧ ∀ (H : Type) (e : TypeId × Value → H) (w : World) (base : Nat) (sp : Nat → Bool) (held : Bool) (fuel : Nat) (cs : List Value) (x : DataW H × List MemPlace),
  DataW.trod e E.P w base sp held fuel t cs = some x → ∃ a : E.G.car c, HdL E.G (IsCells w) w (E.G.enc c a) cs ∧ In a
theorem isCells_of {w : World} {a : Addr} {u : Value} (h : w.cell? a = some u) : IsCells w a.block ∧ a.spot = none := by
 unfold World.cell? at h
 split at h
 ·rename_i c e s hb
  refine ⟨⟨_, hb, rfl⟩, ?_⟩
  split at h
  ·cases h
  ·rename_i hs
   simpa using hs
 ·cases h
section
variable {E : Env} {H : Type} {e : TypeId × Value → H} {w : World} {base : Nat} {sp : Nat → Bool} {held : Bool}
theorem hdL_one {x : Value} {cv : CV E.G.car} (h : Hd E.G (IsCells w) w cv x) : HdL E.G (IsCells w) w [cv] [x] := ⟨_, _, rfl, h, rfl⟩
theorem hreads_int {t : TypeId} {c : Nat} {k : IntKind} {In : E.G.car c → Prop} (f : Int → E.G.car c) (hf : ∀ n, E.G.enc c (f n) = [.v (.int k n)]) (hu : E.P.underlying t = some (.int k)) (hc : E.P.cellsOf t = E.G.sz c)
  (hIn : ∀ n, (Lit.int k n).wf = true → In (f n)) : HReads E t c In :=
 ⟨hc, fun _ _ _ _ _ _ _ _ _ h => by
  obtain ⟨n, h1, _, h2⟩ := DataW.trod_int hu h
  subst h1
  exact ⟨f n, by rw [hf]; exact hdL_one (.v _), hIn n h2⟩⟩
theorem HReads.at {t : TypeId} {c off : Nat} {In : E.G.car c → Prop} {cs : List Value} (hR : HReads E t c In)
  (hx : ∃ fuel y, DataW.trod e E.P w base sp held fuel t ((cs.drop off).take (E.P.cellsOf t)) = some y) : ∃ a, HdL E.G (IsCells w) w (E.G.enc c a) ((cs.drop off).take (E.G.sz c)) ∧ In a := by
 obtain ⟨fuel, y, h⟩ := hx
 rw [hR.1] at h
 exact hR.2 _ _ _ _ _ _ _ _ _ h
theorem hslice_of {t el : TypeId} {c fuel : Nat} {In : E.G.car c → Prop} {cs : List Value} {x : DataW H × List MemPlace} (hu : E.P.underlying t = some (.slice el)) (hR : HReads E el c In) (hn : 0 < E.G.sz c)
  (h : DataW.trod e E.P w base sp held fuel t cs = some x) :
  ∃ (p : Option Addr) (n cap : Nat) (l : List (E.G.car c)), cs = [.slice p n cap] ∧ Hd E.G (IsCells w) w (.sl c l) (.slice p n cap) ∧ (∀ x ∈ l, In x) ∧ l.length ≤ 9223372036854775807 := by
 rcases DataW.trod_slice hu h with ⟨rfl, _⟩ | ⟨a, len, cap, elems, rest, m, _, rfl, _, hb, hl, hm, hel, hi, _, _⟩
 ·exact ⟨none, 0, 0, [], rfl, Hd.mk (b := 0) (o := 0) rfl (Nat.le_refl _) (fun h => absurd rfl h) (fun i x hx => by simp at hx), by simp, by simp⟩
 have build : ∀ k, k ≤ len → ∃ l : List (E.G.car c), l.length = k ∧ ∀ i x, l[i]? = some x → In x ∧ ∃ us, w.cells? base (a.add (i * E.G.sz c)) (E.G.sz c) = some us ∧ HdL E.G (IsCells w) w (E.G.enc c x) us := by
  intro k
  induction k with
  | zero => intro _; exact ⟨[], rfl, fun i x hx => by simp at hx⟩
  | succ k ih =>
   intro hk
   obtain ⟨l, h1, h2⟩ := ih (by omega)
   have h3 := hi k (by omega)
   rw [List.getElem?_eq_getElem (by omega), hR.1, Option.bind_eq_some_iff] at h3
   obtain ⟨cs', h4, h5⟩ := h3
   obtain ⟨y, hy1, hy⟩ := hR.2 _ _ _ _ _ _ _ _ _ h5
   refine ⟨l ++ [y], by simp [h1], fun i x hx => ?_⟩
   rcases Nat.lt_or_ge i k with h6 | h6
   ·rw [List.getElem?_append_left (by omega)] at hx; exact h2 i x hx
   ·rw [List.getElem?_append_right (by omega)] at hx
    have : i - l.length = 0 := by
     have := (List.getElem?_eq_some_iff.1 hx).1
     simpa using this
    rw [this] at hx
    simp only [List.getElem?_cons_zero, Option.some.injEq] at hx
    subst hx
    obtain rfl : i = k := by omega
    exact ⟨hy, _, h4, hy1⟩
 obtain ⟨l, h1, h2⟩ := build len (Nat.le_refl _)
 have hcell : ∀ (i : Nat) x, l[i]? = some x → ∀ (j : Nat) (cv : CV E.G.car), (E.G.enc c x)[j]? = some cv → ∃ u, w.cell? ((a.add (i * E.G.sz c)).add j) = some u ∧ Hd E.G (IsCells w) w cv u := by
  intro i x hx j cv hcv
  obtain ⟨_, us, h3, h4⟩ := h2 i x hx
  obtain ⟨u, h5, h6⟩ := h4.get j cv hcv
  obtain ⟨_, h7, h8⟩ := World.cells?_some h3
  refine ⟨u, ?_, h6⟩
  rw [h8 j (by rw [← h7]; exact (List.getElem?_eq_some_iff.1 h5).1), h5]
 refine ⟨some a, len, cap, l, rfl, ?_, fun x hx => ?_, by unfold maxLen at hm; omega⟩
 ·rcases Nat.eq_zero_or_pos len with h0 | h0
  ·have : l = [] := List.length_eq_zero_iff.1 (by omega)
   subst this
   exact Hd.mk (b := 0) (o := 0) h1.symm hl (fun h => absurd rfl h) (fun i x hx => by simp at hx)
  ·have hpos : 0 < l.length := by omega
   have hz : 0 < (E.G.enc c l[0]).length := by rw [E.G.hsz]; exact hn
   obtain ⟨u, h3, _⟩ := hcell 0 l[0] (List.getElem?_eq_getElem hpos) 0 _ (List.getElem?_eq_getElem hz)
   rw [Nat.zero_mul, show (a.add 0).add 0 = a by simp [Addr.add]] at h3
   obtain ⟨h4, h5⟩ := isCells_of h3
   obtain ⟨b, o, s⟩ := a
   simp only at h4 h5
   subst h5
   refine Hd.mk (b := b) (o := o) h1.symm hl (fun _ => ⟨rfl, h4⟩) (fun i x hx j cv hcv => ?_)
   have := hcell i x hx j cv hcv
   rwa [addr_add, addr_add] at this
 ·obtain ⟨i, hi⟩ := List.getElem?_of_mem hx
  exact (h2 i x hi).1
theorem harg_sl {r : Reach} {b0 : Nat} {t el : TypeId} {c : Nat} {In : E.G.car c → Prop} {v : Value} {d : DataW H} {ps : List MemPlace} (hu : E.P.underlying t = some (.slice el)) (hR : HReads E el c In) (hn : 0 < E.G.sz c)
  (hval : Value.okWide E.P w r b0 t v) (h : DataW.Trod e E.P w base sp held t v d ps) : ∃ a : List (E.G.car c), ArgIs E (IsCells w) w (.sl c) a v ∧ (∀ x ∈ a, In x) ∧ a.length ≤ 9223372036854775807 := by
 obtain ⟨p, n, cap, rfl⟩ := okWide_slice hu hval
 obtain ⟨fuel, hf⟩ := h
 obtain ⟨p', n', cap', l, h1, h2, h3, h4⟩ := hslice_of hu hR hn hf
 have h1 : [Value.slice p n cap] = [.slice p' n' cap'] := h1
 simp only [List.cons.injEq, and_true, Value.slice.injEq] at h1
 obtain ⟨rfl, rfl, rfl⟩ := h1
 exact ⟨l, h2, h3, h4⟩
theorem law_calls {k : Nat} {ps : List PK} {t : Nat} {es : List Nat} {f : AT E.G.car ps → Option (E.G.car t)} (hc : CSok E [] ⟨k, ps, [.v t false es], f⟩) (hglo : E.glo = []) (b : E.G.car t) (hb : E.G.enc t b = [.v (.bool true)])
  {vs : List Value} {xs : AT E.G.car ps} (ha : ArgsAre E (IsCells w) w ps xs vs) (hm : f xs = some b) :
  Calls E.P k vs.toArray w fun e w' => e = .returned (.bool true) ∧ Below w.heap.size w w' := by
 have h := hc.ok (IsCells w) w vs xs ⟨fun _ => { b := 0, p := none, n := 0, c := 0 }, by rw [hglo]; exact And.intro (fun p hp => nomatch hp) (fun q hq => nomatch hq)⟩ (fun _ h => h) ha b hm
 refine h.mono fun e' w' ⟨us, ms, A', h1, h2, _, _, _, h3, _⟩ => ⟨?_, h2.below⟩
 obtain ⟨v, rfl, us', h4, h5⟩ := h3
 simp only [Bool.false_eq_true, if_false] at h5
 subst h5
 have h4 : ResCells E.G A' w.heap.size w' (E.G.enc t b) es [v] ms := h4
 rw [hb] at h4
 obtain ⟨us2, h6, _⟩ := h4
 cases h6
 exact h1
end
end Go.KX
