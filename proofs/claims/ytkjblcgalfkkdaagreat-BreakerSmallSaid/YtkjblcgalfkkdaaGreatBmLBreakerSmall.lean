/-
  The law BreakerSmall answers true for every input and leaves what was there alone. Conditions: none but those of the given statement.
-/
import Derived.Test.YtkjblcgalfkkdaaGreatBm5
import Derived.Test.YtkjblcgalfkkdaaGreatRows
import Derived.ChangeAt
namespace Go.Proofs.YtkjblcgalfkkdaaGreat
open Go Go.KX Go.ChangeShapes Go.WideShapes Go.ChangeAt Go.RowKit Bm
theorem own:ownKnob Tryz.prog.godebug=none:=by kernel_rfl
set_option maxRecDepth 100000 in
set_option maxHeartbeats 4000000 in
theorem breakerSmall_lifted(os:Os)(started:os.Started)(H:Type)(enc:TypeId×Value→H):
  ReturnsInHanded {} Tryz.checked os 3 .any (Rows.breakerSmallSpec.pre6 enc Tryz.prog Tryz.f3 [] false) (Rows.breakerSmallSpec.post enc Tryz.prog Tryz.f3 false true false false):=by
 refine returnsInHanded_of_change (C:=Tryz.checked) own started (by kernel_rfl) Tryz.func3
  (ChangeSpec.witness6 (enc:=enc) (C:=Tryz.checked) false ⟨#[], #[],[]⟩ 8 (by kernel_rfl) (by kernel_rfl) (by kernel_rfl) (by kernel_rfl)) ?_
 intro W base args ds gs before hval0 hW _ _
 have hval:∀(j:Nat) t v,Tryz.f3.params[j]?=some t→args[j]?=some v→Value.okWide Tryz.prog W .any base t v:=hval0
 have hW':=hW
 obtain⟨p,q,hA0,hV,rfl,hfz,hnd⟩:=hW
 have hA:DataW.TrodAll enc Tryz.prog W 0 (fun _=>true) true Tryz.f3.params.toList args.toList ds p:=hA0
 rw[Tryz.params3]at hA hval
 obtain⟨hargs,rfl,rfl⟩:=trodAll_nil hA
 obtain rfl:args= #[]:=by cases args;simp_all
 obtain⟨rfl,rfl⟩:=trodVars_none hV
 clear hA0 hval0
 have hc:CSok E [] ⟨3,[],[.v 1 false []],fun x=>law06_BreakerSmall 1000000000000000⟩:=c3 1000000000000000
 have hargs2:ArgsAre E (IsCells W) W [] (()) []:=rfl
 have hwalk:=law_calls (E:=E) hc rfl true rfl hargs2 (small_law)
 refine hwalk.mono fun e W' ⟨he,hb⟩=>?_
 subst he
 exact⟨_,rfl,post_law hW' rfl rfl rfl Tryz.underlying4 (by kernel_rfl) hb⟩
theorem breakerSmall_holds:Rows.BreakerSmallSaid:=
 OpenClaim.holds_of_wide 3 Tryz.f3 rfl rfl rfl rfl rfl rfl rfl ⟨rfl,rfl,rfl,rfl,rfl⟩ rfl rfl rfl rfl rfl (by kernel_rfl) Tryz.func3 (by kernel_rfl)
  (of_decide_eq_true (by kernel_rfl)) (by unfold Func.isWrapper;first|(rw[if_pos (by decide+kernel)];kernel_rfl)|(rw[if_neg (by decide+kernel)];exact⟨rfl,rfl⟩))
  (fun os started H enc _=>breakerSmall_lifted os started H enc)
#print axioms breakerSmall_holds
end Go.Proofs.YtkjblcgalfkkdaaGreat
