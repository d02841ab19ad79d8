/-
  The law BreakerPlans answers true for every input and leaves what was there alone. Conditions: none but those of the given statement.
-/
import Derived.Test.YtdifecdpdjigjaaGreatBp5
import Derived.Test.YtdifecdpdjigjaaGreatRows
import Derived.ChangeAt
namespace Go.Proofs.YtdifecdpdjigjaaGreat
open Go Go.KX Go.ChangeShapes Go.WideShapes Go.ChangeAt Go.RowKit Bp
def In0(x:Int):Prop:= -9223372036854775808≤x∧x≤9223372036854775807
def In6(x:Bp.Machine):Prop:=In0 x.Tank∧In0 x.Idle∧In0 x.Steam∧In0 x.Work∧In0 x.Watch∧In0 x.Rest∧In0 x.Wear∧In0 x.Refit
theorem hr3:HReads E 3 0 In0:=hreads_int (E:=E) (c:=0) (k:= .i64) (fun n=>n) (fun _=>rfl) Tryz.underlying3 (by kernel_rfl) (fun n h=>wf_i64 h)
theorem hr23:HReads E 23 6 In6:=by
 refine⟨by kernel_rfl,fun H e w base sp held fuel cs x h=>?_⟩
 obtain⟨hl,hf⟩:=fields_of (E:=E) Tryz.underlying23 h
 obtain⟨a0,e0,g0⟩:=hr3.at (hf 0 _ rfl)
 obtain⟨a1,e1,g1⟩:=hr3.at (hf 1 _ rfl)
 obtain⟨a2,e2,g2⟩:=hr3.at (hf 2 _ rfl)
 obtain⟨a3,e3,g3⟩:=hr3.at (hf 3 _ rfl)
 obtain⟨a4,e4,g4⟩:=hr3.at (hf 4 _ rfl)
 obtain⟨a5,e5,g5⟩:=hr3.at (hf 5 _ rfl)
 obtain⟨a6,e6,g6⟩:=hr3.at (hf 6 _ rfl)
 obtain⟨a7,e7,g7⟩:=hr3.at (hf 7 _ rfl)
 have q:=(hcut_cons (E:=E) (o:=0) (n:=1) e0 (hcut_cons (E:=E) (o:=1) (n:=1) e1 (hcut_cons (E:=E) (o:=2) (n:=1) e2 (hcut_cons (E:=E) (o:=3) (n:=1) e3 (hcut_cons (E:=E) (o:=4) (n:=1) e4 (hcut_cons (E:=E) (o:=5) (n:=1) e5 (hcut_cons (E:=E) (o:=6) (n:=1) e6 (hcut_cons (E:=E) (o:=7) (n:=1) e7 (hcut_nil (E:=E) (o:=8) (Nat.le_of_eq (hl.trans (by kernel_rfl))))))))))))
 rw[List.drop_zero]at q
 exact⟨⟨a0,a1,a2,a3,a4,a5,a6,a7⟩,q,g0,g1,g2,g3,g4,g5,g6,g7⟩
def In7(x:List (Int)):Prop:=(∀y∈x,In0 y)∧x.length≤9223372036854775807
def In8(x:List (List (Int))):Prop:=(∀y∈x,In7 y)∧x.length≤9223372036854775807
def In1(x:Bool):Prop:=True
def In9(x:Bp.Case):Prop:=In0 x.Site∧In0 x.To∧In0 x.Cut∧In0 x.Calm∧In1 x.Towed
def In10(x:List (Bp.Case)):Prop:=(∀y∈x,In9 y)∧x.length≤9223372036854775807
def In11(x:Bp.Area):Prop:=In8 x.Hours∧In7 x.Press∧In10 x.Cases∧In0 x.Limit
theorem hr25:HReads E 25 7 In7:=hreads_slice (E:=E) (c:=0) (d:=7) (fun l=>l) (fun _=>rfl) Tryz.underlying25 hr3 (by decide) (by kernel_rfl) (fun l h h2=>⟨h,h2⟩)
theorem hr24:HReads E 24 8 In8:=hreads_slice (E:=E) (c:=7) (d:=8) (fun l=>l) (fun _=>rfl) Tryz.underlying24 hr25 (by decide) (by kernel_rfl) (fun l h h2=>⟨h,h2⟩)
theorem hr4:HReads E 4 1 In1:=hreads_bool (E:=E) (c:=1) (fun n=>n) (fun _=>rfl) Tryz.underlying4 (by kernel_rfl) (fun _=>trivial)
theorem hr79:HReads E 79 9 In9:=by
 refine⟨by kernel_rfl,fun H e w base sp held fuel cs x h=>?_⟩
 obtain⟨hl,hf⟩:=fields_of (E:=E) Tryz.underlying79 h
 obtain⟨a0,e0,g0⟩:=hr3.at (hf 0 _ rfl)
 obtain⟨a1,e1,g1⟩:=hr3.at (hf 1 _ rfl)
 obtain⟨a2,e2,g2⟩:=hr3.at (hf 2 _ rfl)
 obtain⟨a3,e3,g3⟩:=hr3.at (hf 3 _ rfl)
 obtain⟨a4,e4,g4⟩:=hr4.at (hf 4 _ rfl)
 have q:=(hcut_cons (E:=E) (o:=0) (n:=1) e0 (hcut_cons (E:=E) (o:=1) (n:=1) e1 (hcut_cons (E:=E) (o:=2) (n:=1) e2 (hcut_cons (E:=E) (o:=3) (n:=1) e3 (hcut_cons (E:=E) (o:=4) (n:=1) e4 (hcut_nil (E:=E) (o:=5) (Nat.le_of_eq (hl.trans (by kernel_rfl)))))))))
 rw[List.drop_zero]at q
 exact⟨⟨a0,a1,a2,a3,a4⟩,q,g0,g1,g2,g3,g4⟩
theorem hr26:HReads E 26 10 In10:=hreads_slice (E:=E) (c:=9) (d:=10) (fun l=>l) (fun _=>rfl) Tryz.underlying26 hr79 (by decide) (by kernel_rfl) (fun l h h2=>⟨h,h2⟩)
theorem hr28:HReads E 28 11 In11:=by
 refine⟨by kernel_rfl,fun H e w base sp held fuel cs x h=>?_⟩
 obtain⟨hl,hf⟩:=fields_of (E:=E) Tryz.underlying28 h
 obtain⟨a0,e0,g0⟩:=hr24.at (hf 0 _ rfl)
 obtain⟨a1,e1,g1⟩:=hr25.at (hf 1 _ rfl)
 obtain⟨a2,e2,g2⟩:=hr26.at (hf 2 _ rfl)
 obtain⟨a3,e3,g3⟩:=hr3.at (hf 3 _ rfl)
 have q:=(hcut_cons (E:=E) (o:=0) (n:=1) e0 (hcut_cons (E:=E) (o:=1) (n:=1) e1 (hcut_cons (E:=E) (o:=2) (n:=1) e2 (hcut_cons (E:=E) (o:=3) (n:=1) e3 (hcut_nil (E:=E) (o:=4) (Nat.le_of_eq (hl.trans (by kernel_rfl))))))))
 rw[List.drop_zero]at q
 exact⟨⟨a0,a1,a2,a3⟩,q,g0,g1,g2,g3⟩
def In12(x:Bp.A3ofInt):Prop:=In0 x.a0∧In0 x.a1∧In0 x.a2
def In13(x:Bp.State):Prop:=In0 x.Hour∧In0 x.Site∧In0 x.Fuel∧In0 x.Awake∧In0 x.Worn∧In0 x.Notch∧In12 x.Cases
theorem hr29:HReads E 29 12 In12:=by
 refine⟨by kernel_rfl,fun H e w base sp held fuel cs x h=>?_⟩
 obtain⟨hl,hf⟩:=elems_of (E:=E) (s:=1) Tryz.underlying29 (by kernel_rfl) h
 obtain⟨a0,e0,g0⟩:=hr3.at (hf 0 (by decide))
 obtain⟨a1,e1,g1⟩:=hr3.at (hf 1 (by decide))
 obtain⟨a2,e2,g2⟩:=hr3.at (hf 2 (by decide))
 have q:=(hcut_cons (E:=E) (o:=0) (n:=1) e0 (hcut_cons (E:=E) (o:=1) (n:=1) e1 (hcut_cons (E:=E) (o:=2) (n:=1) e2 (hcut_nil (E:=E) (o:=3) (Nat.le_of_eq (hl.trans (by kernel_rfl)))))))
 rw[List.drop_zero]at q
 exact⟨⟨a0,a1,a2⟩,q,g0,g1,g2⟩
theorem hr31:HReads E 31 13 In13:=by
 refine⟨by kernel_rfl,fun H e w base sp held fuel cs x h=>?_⟩
 obtain⟨hl,hf⟩:=fields_of (E:=E) Tryz.underlying31 h
 obtain⟨a0,e0,g0⟩:=hr3.at (hf 0 _ rfl)
 obtain⟨a1,e1,g1⟩:=hr3.at (hf 1 _ rfl)
 obtain⟨a2,e2,g2⟩:=hr3.at (hf 2 _ rfl)
 obtain⟨a3,e3,g3⟩:=hr3.at (hf 3 _ rfl)
 obtain⟨a4,e4,g4⟩:=hr3.at (hf 4 _ rfl)
 obtain⟨a5,e5,g5⟩:=hr3.at (hf 5 _ rfl)
 obtain⟨a6,e6,g6⟩:=hr29.at (hf 6 _ rfl)
 have q:=(hcut_cons (E:=E) (o:=0) (n:=1) e0 (hcut_cons (E:=E) (o:=1) (n:=1) e1 (hcut_cons (E:=E) (o:=2) (n:=1) e2 (hcut_cons (E:=E) (o:=3) (n:=1) e3 (hcut_cons (E:=E) (o:=4) (n:=1) e4 (hcut_cons (E:=E) (o:=5) (n:=1) e5 (hcut_cons (E:=E) (o:=6) (n:=3) e6 (hcut_nil (E:=E) (o:=9) (Nat.le_of_eq (hl.trans (by kernel_rfl)))))))))))
 rw[List.drop_zero]at q
 exact⟨⟨a0,a1,a2,a3,a4,a5,a6⟩,q,g0,g1,g2,g3,g4,g5,g6⟩
theorem own:ownKnob Tryz.prog.godebug=none:=by kernel_rfl
set_option maxRecDepth 100000 in
set_option maxHeartbeats 4000000 in
theorem breakerPlans_lifted(os:Os)(started:os.Started)(H:Type)(enc:TypeId×Value→H):
  ReturnsInHanded {} Tryz.checked os 3 .any (Rows.breakerPlansSpec.pre6 enc Tryz.prog Tryz.f3 [] false) (Rows.breakerPlansSpec.post enc Tryz.prog Tryz.f3 false true false false):=by
 refine returnsInHanded_of_change (C:=Tryz.checked) own started (by kernel_rfl) Tryz.func3
  (ChangeSpec.witness6 (enc:=enc) (C:=Tryz.checked) false ⟨#[], #[.agg #[.int .i64 0,.int .i64 0,.int .i64 0,.int .i64 0,.int .i64 0,.int .i64 0,.int .i64 0,.int .i64 0],.agg #[.slice none 0 0,.slice none 0 0,.slice none 0 0,.int .i64 0],.agg #[.int .i64 0,.int .i64 0,.int .i64 0,.int .i64 0,.int .i64 0,.int .i64 0,.int .i64 0,.int .i64 0,.int .i64 0],.slice none 0 0],[]⟩ 8 (by kernel_rfl) (by kernel_rfl) (by kernel_rfl) (by kernel_rfl)) ?_
 intro W base args ds gs before hval0 hW _ _
 have hval:∀(j:Nat) t v,Tryz.f3.params[j]?=some t→args[j]?=some v→Value.okWide Tryz.prog W .any base t v:=hval0
 have hW':=hW
 obtain⟨p,q,hA0,hV,rfl,hfz,hnd⟩:=hW
 have hA:DataW.TrodAll enc Tryz.prog W 0 (fun _=>true) true Tryz.f3.params.toList args.toList ds p:=hA0
 rw[Tryz.params3]at hA hval
 obtain⟨v0,vs0,d0,ds0,p0,q0,hargs,rfl,rfl,h0,r0⟩:=trodAll_cons hA
 obtain⟨v1,vs1,d1,ds1,p1,q1,rfl,rfl,rfl,h1,r1⟩:=trodAll_cons r0
 obtain⟨v2,vs2,d2,ds2,p2,q2,rfl,rfl,rfl,h2,r2⟩:=trodAll_cons r1
 obtain⟨v3,vs3,d3,ds3,p3,q3,rfl,rfl,rfl,h3,r3⟩:=trodAll_cons r2
 obtain⟨rfl,rfl,rfl⟩:=trodAll_nil r3
 obtain rfl:args= #[v0,v1,v2,v3]:=by cases args;simp_all
 obtain⟨rfl,rfl⟩:=trodVars_none hV
 obtain⟨a0,m0,b0⟩:=harg_agg hr23 Tryz.underlying23 (hval 0 23 v0 rfl rfl) h0
 obtain⟨a1,m1,b1⟩:=harg_agg hr28 Tryz.underlying28 (hval 1 28 v1 rfl rfl) h1
 obtain⟨a2,m2,b2⟩:=harg_agg hr31 Tryz.underlying31 (hval 2 31 v2 rfl rfl) h2
 obtain⟨a3,m3,b3⟩:=harg_sl (E:=E) Tryz.underlying32 hr31 (by decide) (hval 3 32 v3 rfl rfl) h3
 clear hA0 hval0
 have hc:CSok E [] ⟨3,[.v 6 true,.v 11 true,.v 13 true,.sl 13],[.v 1 false []],fun x=>law06_BreakerPlans 1000000000000000 x.1 x.2.1 x.2.2.1 x.2.2.2.1⟩:=c3 1000000000000000
 have hargs2:ArgsAre E (IsCells W) W [.v 6 true,.v 11 true,.v 13 true,.sl 13] (a0,a1,a2,a3,()) [v0,v1,v2,v3]:=⟨v0,_,rfl,m0,⟨v1,_,rfl,m1,⟨v2,_,rfl,m2,⟨v3,_,rfl,m3,rfl⟩⟩⟩⟩
 have hwalk:=law_calls (E:=E) hc rfl true rfl hargs2 (plans_law b0 b1 b2 b3)
 refine hwalk.mono fun e W' ⟨he,hb⟩=>?_
 subst he
 exact⟨_,rfl,post_law hW' rfl rfl rfl Tryz.underlying4 (by kernel_rfl) hb⟩
theorem breakerPlans_holds:Rows.BreakerPlansSaid:=
 OpenClaim.holds_of_wide 3 Tryz.f3 rfl rfl rfl rfl rfl rfl rfl ⟨rfl,rfl,rfl,rfl,rfl⟩ rfl rfl rfl rfl rfl (by kernel_rfl) Tryz.func3 (by kernel_rfl)
  (of_decide_eq_true (by kernel_rfl)) (by unfold Func.isWrapper;first|(rw[if_pos (by decide+kernel)];kernel_rfl)|(rw[if_neg (by decide+kernel)];exact⟨rfl,rfl⟩))
  (fun os started H enc _=>breakerPlans_lifted os started H enc)
#print axioms breakerPlans_holds
end Go.Proofs.YtdifecdpdjigjaaGreat
