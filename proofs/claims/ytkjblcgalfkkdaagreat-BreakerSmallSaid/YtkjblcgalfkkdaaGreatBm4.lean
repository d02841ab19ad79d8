/- Texts FnA, KLN, BmD, BmE, BmF, BmG, BmH, BmI, BmJ: own work; each part says what it is. -/
import Derived.Test.YtkjblcgalfkkdaaGreatBm3
namespace Go.Proofs.Bm
open Go Go.KX Go.RowKit
set_option linter.unusedVariables false
set_option maxRecDepth 100000
noncomputable section
theorem hf4:HF 4 Tryz.f4:=hK (by kernel_rfl)
theorem en4:Proofs.Enters Tryz.prog 4:=mkE hf4 (by kernel_rfl) rfl
theorem hf70:HF 70 Tryz.f70:=hK (by kernel_rfl)
def breaker_within(F:Nat)(a0:Int)(a1:Int)(a2:Int):Option (Bool):=
 some (decide (a0≥a1)&&decide (a0≤a2))
def s70(F:Nat):CS E.G:=⟨70,[.v 0 false,.v 0 false,.v 0 false],[.v 1 false []],fun x=>breaker_within F x.1 x.2.1 x.2.2.1⟩
theorem c70(F:Nat):CSok E [] (s70 F):=mkC (cx:=⟨[],[],F,[],[]⟩) hf70 (by kernel_rfl) rfl all0 ⟨inl0,all0⟩ .n rfl (by kernel_rfl)
theorem hf69:HF 69 Tryz.f69:=hK (by kernel_rfl)
def breaker_Machine_right(F:Nat)(a0:Machine):Option (Bool):=
 bnd (breaker_within F a0.Tank 1 200) (fun x=>bnd (brk x (breaker_within F a0.Idle 0 5) (some false)) (fun x_1=>bnd (brk (x&&x_1) (breaker_within F a0.Steam 0 9) (some false)) (fun x_2=>bnd (brk (x&&x_1&&x_2) (breaker_within F a0.Work 0 9) (some false)) (fun x_3=>bnd (brk (x&&x_1&&x_2&&x_3) (breaker_within F a0.Watch 1 48) (some false)) (fun x_4=>bnd (brk (x&&x_1&&x_2&&x_3&&x_4) (breaker_within F a0.Rest 1 24) (some false)) (fun x_5=>bnd (brk (x&&x_1&&x_2&&x_3&&x_4&&x_5) (breaker_within F a0.Wear 1 100) (some false)) (fun x_6=>bnd (brk (x&&x_1&&x_2&&x_3&&x_4&&x_5&&x_6) (breaker_within F a0.Refit 1 48) (some false)) (fun x_7=>some (x&&x_1&&x_2&&x_3&&x_4&&x_5&&x_6&&x_7)))))))))
def s69(F:Nat):CS E.G:=⟨69,[.ptr 7],[.v 1 false []],fun x=>breaker_Machine_right F x.1⟩
theorem c69(F:Nat):CSok E [] (s69 F):=mkC (cx:=⟨[s70 F],[],F,[],[]⟩) hf69 (by kernel_rfl) rfl (allC (c70 F) all0) ⟨inl0,all0⟩ .n rfl (by kernel_rfl)
theorem hf71:HF 71 Tryz.f71:=hK (by kernel_rfl)
def breaker_Area_table(F:Nat)(a0:Area):Option (Bool):=
 loopC (fun(x:Int)=>fun x_1=>brk (decide (x<(↑a0.Hours.length:Int))) (chk (0≤x∧x<(↑a0.Hours.length:Int)) (brk ((↑(List.length (a0.Hours.getD (Int.toNat x) [])):Int) != (↑a0.Hours.length:Int)) (some (false)) (loopC (fun(x_2:Int)=>fun x_3=>brk (decide (x_2<(↑(List.length (a0.Hours.getD (Int.toNat x) [])):Int))) (chk (0≤x_2∧x_2<(↑(List.length (a0.Hours.getD (Int.toNat x) [])):Int)) (bnd (brk (!(x==x_2&&List.getD (a0.Hours.getD (Int.toNat x) []) (Int.toNat x_2) (0:Int) != 0)&&x != x_2) (breaker_within F (List.getD (a0.Hours.getD (Int.toNat x) []) (Int.toNat x_2) (0:Int)) 1 24) (some false)) (fun x_4=>brk (x==x_2&&List.getD (a0.Hours.getD (Int.toNat x) []) (Int.toNat x_2) (0:Int) != 0||x != x_2&& !x_4) (some (false)) (chk (InR (x_2+1)) (x_3 (x_2+1)))))) (chk (InR (x+1)) (x_1 (x+1)))) F (0:Int)))) (some (true))) F (0:Int)
def s71(F:Nat):CS E.G:=⟨71,[.ptr 11],[.v 1 false []],fun x=>breaker_Area_table F x.1⟩
theorem c71(F:Nat):CSok E [] (s71 F):=mkC (cx:=⟨[s70 F],[],F,[],[]⟩) hf71 (by kernel_rfl) rfl (allC (c70 F) all0) ⟨inl0,all0⟩ (.l ⟨[.i],[0,160,176],[0,1],[(192,.i IntKind.i64)],[],[],[],2⟩ (.c (.c .n (.l ⟨[.i],[0,192,160,416,48,400,176],[0,1,2],[(432,.i IntKind.i64)],[],[],[],4⟩ (.c .n .n))) .n)) rfl (by kernel_rfl)
theorem hf19:HF 19 Tryz.f19:=hK (by kernel_rfl)
def breaker_Check(F:Nat)(a0:Machine)(a1:Area):Option (Int):=
 bnd (breaker_Machine_right F a0) (fun x=>brk (!x) (some (70:Int)) (bnd (breaker_within F (↑a1.Hours.length:Int) 1 4) (fun x_1=>bnd (brk (!!x_1) (breaker_within F (↑a1.Press.length:Int) 1 60) (some false)) (fun x_2=>brk (!x_1|| !x_2||decide ((↑a1.Cases.length:Int)>3)) (some (2:Int)) (bnd (breaker_Area_table F a1) (fun x_3=>bnd (brk (!!x_3) (breaker_within F a1.Limit 0 60) (some false)) (fun x_4=>brk (!x_3|| !x_4) (some (1:Int)) (loopC (fun(x_5:Int)=>fun x_6=>brk (decide (x_5<(↑a1.Press.length:Int))) (chk (0≤x_5∧x_5<(↑a1.Press.length:Int)) (bnd (breaker_within F (a1.Press.getD (Int.toNat x_5) 0) 0 3) (fun x_7=>brk (!x_7) (some (1:Int)) (chk (InR (x_5+1)) (x_6 (x_5+1)))))) (loopC (fun(x_7:Int)=>fun x_8=>brk (decide (x_7<(↑a1.Cases.length:Int))) (chk (0≤x_7∧x_7<(↑a1.Cases.length:Int)) (chk (InR ((↑a1.Hours.length:Int)-(1:Int))) (bnd (breaker_within F (a1.Cases.getD (Int.toNat x_7) (Case.mk 0 0 0 0 false)).Site 0 ((↑a1.Hours.length:Int)-(1:Int))) (fun x_9=>chk ((!!x_9)=true→InR ((↑a1.Hours.length:Int)-(1:Int))) (bnd (brk (!!x_9) (breaker_within F (a1.Cases.getD (Int.toNat x_7) (Case.mk 0 0 0 0 false)).To 0 ((↑a1.Hours.length:Int)-(1:Int))) (some false)) (fun x_10=>bnd (brk (!(!x_9|| !x_10)) (breaker_within F (a1.Cases.getD (Int.toNat x_7) (Case.mk 0 0 0 0 false)).Cut 1 24) (some false)) (fun x_11=>bnd (brk (!(!x_9|| !x_10|| !x_11)) (breaker_within F (a1.Cases.getD (Int.toNat x_7) (Case.mk 0 0 0 0 false)).Calm 0 3) (some false)) (fun x_12=>brk (!x_9|| !x_10|| !x_11|| !x_12) (some (1:Int)) (chk (InR (x_7+1)) (x_8 (x_7+1))))))))))) (some (0:Int))) F (0:Int))) F (0:Int)))))))))
def s19(F:Nat):CS E.G:=⟨19,[.v 7 true,.v 11 true],[.v 0 false []],fun x=>breaker_Check F x.1 x.2.1⟩
theorem c19(F:Nat):CSok E [] (s19 F):=mkC (cx:=⟨[s69 F,s70 F,s71 F],[],F,[],[]⟩) hf19 (by kernel_rfl) rfl (allC (c69 F) (allC (c70 F) (allC (c71 F) all0))) ⟨inl0,all0⟩ (.c .n (.c .n (.c .n (.l ⟨[.i],[704,48,80,688],[4,1,2,0],[(720,.i IntKind.i64)],[],[],[],5⟩ (.c .n (.l ⟨[.i],[864,80,880],[2],[(896,.i IntKind.i64)],[],[],[],5⟩ (.c .n .n))))))) rfl (by kernel_rfl)
theorem hf105:HF 105 Tryz.f105:=hK (by kernel_rfl)
theorem en105:Proofs.Enters Tryz.prog 105:=mkE hf105 (by kernel_rfl) rfl
theorem hf106:HF 106 Tryz.f106:=hK (by kernel_rfl)
theorem en106:Proofs.Enters Tryz.prog 106:=mkE hf106 (by kernel_rfl) rfl
theorem hf107:HF 107 Tryz.f107:=hK (by kernel_rfl)
theorem en107:Proofs.Enters Tryz.prog 107:=mkE hf107 (by kernel_rfl) rfl
theorem hf108:HF 108 Tryz.f108:=hK (by kernel_rfl)
def breaker_works_site(F:Nat)(a0:Machine×Area)(a1:Int):Option (Bool):=
 chk (InR ((↑a0.2.Hours.length:Int)-(1:Int))) (bnd (breaker_within F a1 0 ((↑a0.2.Hours.length:Int)-(1:Int))) (fun x=>some x))
def s108(F:Nat):CS E.G:=⟨108,[.wk 7 11 rulesR,.v 0 false],[.v 1 false []],fun x=>breaker_works_site F x.1 x.2.1⟩
theorem c108(F:Nat):CSok E [] (s108 F):=mkC (cx:=⟨[s70 F],[],F,[],[]⟩) hf108 (by kernel_rfl) rfl (allC (c70 F) all0) ⟨inl0,all0⟩ .n rfl (by kernel_rfl)
theorem hf146:HF 146 Tryz.f146:=hK (by kernel_rfl)
def breaker_works_press(F:Nat)(a0:Machine×Area)(a1:Int):Option (Int):=
 chk (InR ((↑a0.2.Press.length:Int)-(1:Int))) (chk ((0≤if(↑a0.2.Press.length:Int)-(1:Int)<a1 then(↑a0.2.Press.length:Int)-(1:Int)else a1)∧(if(↑a0.2.Press.length:Int)-(1:Int)<a1 then(↑a0.2.Press.length:Int)-(1:Int)else a1)<(↑a0.2.Press.length:Int)) (some (a0.2.Press.getD (if(↑a0.2.Press.length:Int)-(1:Int)<a1 then(↑a0.2.Press.length:Int)-(1:Int)else a1).toNat (0:Int))))
def s146(F:Nat):CS E.G:=⟨146,[.wk 7 11 rulesR,.v 0 false],[.v 0 false []],fun x=>breaker_works_press F x.1 x.2.1⟩
theorem c146(F:Nat):CSok E [] (s146 F):=mkC (cx:=⟨[],[],F,[],[]⟩) hf146 (by kernel_rfl) rfl all0 ⟨inl0,all0⟩ .n rfl (by kernel_rfl)
theorem hf110:HF 110 Tryz.f110:=hK (by kernel_rfl)
def breaker_works_calm(F:Nat)(a0:Machine×Area)(a1:Int)(a2:Int)(a3:Int):Option (Bool):=
 loopC (fun(x:Int)=>fun x_1=>chk (InR (a1+a2)) (brk (decide (x<a1+a2)) (bnd (breaker_works_press F a0 x) (fun x_2=>brk (decide (x_2>a3)) (some (false)) (chk (InR (x+1)) (x_1 (x+1))))) (some (true)))) F (a1)
def s110(F:Nat):CS E.G:=⟨110,[.wk 7 11 rulesR,.v 0 false,.v 0 false,.v 0 false],[.v 1 false []],fun x=>breaker_works_calm F x.1 x.2.1 x.2.2.1 x.2.2.2.1⟩
theorem c110(F:Nat):CSok E [] (s110 F):=mkC (cx:=⟨[s146 F],[],F,[],[]⟩) hf110 (by kernel_rfl) rfl (allC (c146 F) all0) ⟨inl0,all0⟩ (.l ⟨[.i],[0,16,32,48],[3,0,1,2],[(144,.i IntKind.i64)],[],[],[],4⟩ (.c .n .n)) rfl (by kernel_rfl)
theorem hf111:HF 111 Tryz.f111:=hK (by kernel_rfl)
def breaker_works_way(F:Nat)(a0:Machine×Area)(a1:State)(a2:Int):Option (Int):=
 brk (decide (a1.Notch≥0)) (chk (0≤a1.Site∧a1.Site<(↑a0.2.Hours.length:Int)) (chk (0≤a2∧a2<(↑(List.length (a0.2.Hours.getD a1.Site.toNat [])):Int)) (chk (InR ((2:Int)*List.getD (a0.2.Hours.getD a1.Site.toNat []) a2.toNat (0:Int))) (some ((2:Int)*List.getD (a0.2.Hours.getD a1.Site.toNat []) a2.toNat (0:Int)))))) (chk (0≤a1.Site∧a1.Site<(↑a0.2.Hours.length:Int)) (chk (0≤a2∧a2<(↑(List.length (a0.2.Hours.getD a1.Site.toNat [])):Int)) (some (List.getD (a0.2.Hours.getD a1.Site.toNat []) a2.toNat (0:Int)))))
def s111(F:Nat):CS E.G:=⟨111,[.wk 7 11 rulesR,.v 13 true,.v 0 false],[.v 0 false []],fun x=>breaker_works_way F x.1 x.2.1 x.2.2.1⟩
theorem c111(F:Nat):CSok E [] (s111 F):=mkC (cx:=⟨[],[],F,[],[]⟩) hf111 (by kernel_rfl) rfl all0 ⟨inl0,all0⟩ .n rfl (by kernel_rfl)
theorem hf109:HF 109 Tryz.f109:=hK (by kernel_rfl)
def breaker_rules_4(F:Nat)(a0:Machine×Area)(a1:State)(a2:Int):Option (Bool):=
 bnd (brk (a2 != a1.Site&& !decide (a1.Notch<0)) (breaker_works_way F a0 a1 a2) (some (0:Int))) (fun x=>bnd (brk (a2 != a1.Site&& !decide (a1.Notch<0)) (breaker_works_calm F a0 a1.Hour x 2) (some false)) (fun x_1=>some (a2 != a1.Site&&(decide (a1.Notch<0)||x_1))))
def s109(F:Nat):CS E.G:=⟨109,[.wk 7 11 rulesR,.v 13 true,.v 0 false],[.v 1 false []],fun x=>breaker_rules_4 F x.1 x.2.1 x.2.2.1⟩
theorem c109(F:Nat):CSok E [] (s109 F):=mkC (cx:=⟨[s110 F,s111 F],[],F,[],[]⟩) hf109 (by kernel_rfl) rfl (allC (c110 F) (allC (c111 F) all0)) ⟨inl0,all0⟩ .n rfl (by kernel_rfl)
theorem hf112:HF 112 Tryz.f112:=hK (by kernel_rfl)
def breaker_works_goes(F:Nat)(a0:Machine×Area)(a1:State):Option (Int):=
 brk (decide (a1.Notch≥0)) (some (a0.1.Work)) (some (a0.1.Steam))
def s112(F:Nat):CS E.G:=⟨112,[.wk 7 11 rulesR,.v 13 true],[.v 0 false []],fun x=>breaker_works_goes F x.1 x.2.1⟩
theorem c112(F:Nat):CSok E [] (s112 F):=mkC (cx:=⟨[],[],F,[],[]⟩) hf112 (by kernel_rfl) rfl all0 ⟨inl0,all0⟩ .n rfl (by kernel_rfl)
theorem hf113:HF 113 Tryz.f113:=hK (by kernel_rfl)
def breaker_towing(F:Nat)(a0:State):Option (Bool):=
 some (decide (a0.Notch≥0))
def s113(F:Nat):CS E.G:=⟨113,[.v 13 true],[.v 1 false []],fun x=>breaker_towing F x.1⟩
theorem c113(F:Nat):CSok E [] (s113 F):=mkC (cx:=⟨[],[],F,[],[]⟩) hf113 (by kernel_rfl) rfl all0 ⟨inl0,all0⟩ .n rfl (by kernel_rfl)
theorem hf114:HF 114 Tryz.f114:=hK (by kernel_rfl)
theorem en114:Proofs.Enters Tryz.prog 114:=mkE hf114 (by kernel_rfl) rfl
theorem hf115:HF 115 Tryz.f115:=hK (by kernel_rfl)
def breaker_works_ship(F:Nat)(a0:Machine×Area)(a1:Int):Option (Bool):=
 chk (InR ((↑a0.2.Cases.length:Int)-(1:Int))) (bnd (breaker_within F a1 0 ((↑a0.2.Cases.length:Int)-(1:Int))) (fun x=>some x))
def s115(F:Nat):CS E.G:=⟨115,[.wk 7 11 rulesR,.v 0 false],[.v 1 false []],fun x=>breaker_works_ship F x.1 x.2.1⟩
theorem c115(F:Nat):CSok E [] (s115 F):=mkC (cx:=⟨[s70 F],[],F,[],[]⟩) hf115 (by kernel_rfl) rfl (allC (c70 F) all0) ⟨inl0,all0⟩ .n rfl (by kernel_rfl)
theorem hf116:HF 116 Tryz.f116:=hK (by kernel_rfl)
def breaker_rules_6(F:Nat)(a0:Machine×Area)(a1:State)(a2:Int):Option (Bool):=
 chk (0≤a2∧a2<(↑a0.2.Cases.length:Int)) (chk (0≤a2∧a2<(↑(3:Nat):Int)) (bnd (brk ([a1.Cases.a0,a1.Cases.a1,a1.Cases.a2].getD a2.toNat 0==0&&(a0.2.Cases.getD a2.toNat (Case.mk 0 0 0 0 false)).Site==a1.Site) (breaker_works_calm F a0 a1.Hour (a0.2.Cases.getD a2.toNat (Case.mk 0 0 0 0 false)).Cut (a0.2.Cases.getD a2.toNat (Case.mk 0 0 0 0 false)).Calm) (some false)) (fun x=>some ([a1.Cases.a0,a1.Cases.a1,a1.Cases.a2].getD a2.toNat 0==0&&(a0.2.Cases.getD a2.toNat (Case.mk 0 0 0 0 false)).Site==a1.Site&&x))))
def s116(F:Nat):CS E.G:=⟨116,[.wk 7 11 rulesR,.v 13 true,.v 0 false],[.v 1 false []],fun x=>breaker_rules_6 F x.1 x.2.1 x.2.2.1⟩
theorem c116(F:Nat):CSok E [] (s116 F):=mkC (cx:=⟨[s110 F],[],F,[],[]⟩) hf116 (by kernel_rfl) rfl (allC (c110 F) all0) ⟨inl0,all0⟩ .n rfl (by kernel_rfl)
theorem hf117:HF 117 Tryz.f117:=hK (by kernel_rfl)
theorem en117:Proofs.Enters Tryz.prog 117:=mkE hf117 (by kernel_rfl) rfl
theorem hf118:HF 118 Tryz.f118:=hK (by kernel_rfl)
theorem en118:Proofs.Enters Tryz.prog 118:=mkE hf118 (by kernel_rfl) rfl
theorem hf119:HF 119 Tryz.f119:=hK (by kernel_rfl)
def breaker_always(F:Nat)(a0:State):Option (Bool):=
 some (true)
def s119(F:Nat):CS E.G:=⟨119,[.v 13 true],[.v 1 false []],fun x=>breaker_always F x.1⟩
theorem c119(F:Nat):CSok E [] (s119 F):=mkC (cx:=⟨[],[],F,[],[]⟩) hf119 (by kernel_rfl) rfl all0 ⟨inl0,all0⟩ .n rfl (by kernel_rfl)
theorem hf120:HF 120 Tryz.f120:=hK (by kernel_rfl)
theorem en120:Proofs.Enters Tryz.prog 120:=mkE hf120 (by kernel_rfl) rfl
theorem hf121:HF 121 Tryz.f121:=hK (by kernel_rfl)
def breaker_rules_9(F:Nat)(a0:Machine×Area)(a1:State)(a2:Int):Option (Bool):=
 chk (0≤a2∧a2<(↑(3:Nat):Int)) (brk ([a1.Cases.a0,a1.Cases.a1,a1.Cases.a2].getD a2.toNat 0==1) (chk (0≤a2∧a2<(↑a0.2.Cases.length:Int)) (brk ((a0.2.Cases.getD a2.toNat (Case.mk 0 0 0 0 false)).Site==a1.Site) (bnd (breaker_works_calm F a0 a1.Hour 1 1) (fun x=>some x)) (some (false)))) (some (false)))
def s121(F:Nat):CS E.G:=⟨121,[.wk 7 11 rulesR,.v 13 true,.v 0 false],[.v 1 false []],fun x=>breaker_rules_9 F x.1 x.2.1 x.2.2.1⟩
theorem c121(F:Nat):CSok E [] (s121 F):=mkC (cx:=⟨[s110 F],[],F,[],[]⟩) hf121 (by kernel_rfl) rfl (allC (c110 F) all0) ⟨inl0,all0⟩ (.s (.s .n .n) .n) rfl (by kernel_rfl)
theorem hf122:HF 122 Tryz.f122:=hK (by kernel_rfl)
theorem en122:Proofs.Enters Tryz.prog 122:=mkE hf122 (by kernel_rfl) rfl
theorem hf123:HF 123 Tryz.f123:=hK (by kernel_rfl)
theorem en123:Proofs.Enters Tryz.prog 123:=mkE hf123 (by kernel_rfl) rfl
theorem hf124:HF 124 Tryz.f124:=hK (by kernel_rfl)
def breaker_works_zero(F:Nat)(a0:Machine×Area)(a1:Int):Option (Bool):=
 some (a1==0)
def s124(F:Nat):CS E.G:=⟨124,[.wk 7 11 rulesR,.v 0 false],[.v 1 false []],fun x=>breaker_works_zero F x.1 x.2.1⟩
theorem c124(F:Nat):CSok E [] (s124 F):=mkC (cx:=⟨[],[],F,[],[]⟩) hf124 (by kernel_rfl) rfl all0 ⟨inl0,all0⟩ .n rfl (by kernel_rfl)
theorem hf125:HF 125 Tryz.f125:=hK (by kernel_rfl)
def breaker_rules_11(F:Nat)(a0:Machine×Area)(a1:State)(a2:Int):Option (Bool):=
 brk (decide (a1.Notch≥0)) (chk (0≤a1.Notch∧a1.Notch<(↑a0.2.Cases.length:Int)) (some ((a0.2.Cases.getD a1.Notch.toNat (Case.mk 0 0 0 0 false)).To==a1.Site))) (some (false))
def s125(F:Nat):CS E.G:=⟨125,[.wk 7 11 rulesR,.v 13 true,.v 0 false],[.v 1 false []],fun x=>breaker_rules_11 F x.1 x.2.1 x.2.2.1⟩
theorem c125(F:Nat):CSok E [] (s125 F):=mkC (cx:=⟨[],[],F,[],[]⟩) hf125 (by kernel_rfl) rfl all0 ⟨inl0,all0⟩ (.s .n .n) rfl (by kernel_rfl)
theorem hf126:HF 126 Tryz.f126:=hK (by kernel_rfl)
theorem en126:Proofs.Enters Tryz.prog 126:=mkE hf126 (by kernel_rfl) rfl
theorem hf127:HF 127 Tryz.f127:=hK (by kernel_rfl)
def breaker_never(F:Nat)(a0:State):Option (Bool):=
 some (false)
def s127(F:Nat):CS E.G:=⟨127,[.v 13 true],[.v 1 false []],fun x=>breaker_never F x.1⟩
theorem c127(F:Nat):CSok E [] (s127 F):=mkC (cx:=⟨[],[],F,[],[]⟩) hf127 (by kernel_rfl) rfl all0 ⟨inl0,all0⟩ .n rfl (by kernel_rfl)
theorem hf128:HF 128 Tryz.f128:=hK (by kernel_rfl)
theorem en128:Proofs.Enters Tryz.prog 128:=mkE hf128 (by kernel_rfl) rfl
theorem hf129:HF 129 Tryz.f129:=hK (by kernel_rfl)
theorem en129:Proofs.Enters Tryz.prog 129:=mkE hf129 (by kernel_rfl) rfl
theorem hf130:HF 130 Tryz.f130:=hK (by kernel_rfl)
theorem en130:Proofs.Enters Tryz.prog 130:=mkE hf130 (by kernel_rfl) rfl
theorem hf131:HF 131 Tryz.f131:=hK (by kernel_rfl)
theorem en131:Proofs.Enters Tryz.prog 131:=mkE hf131 (by kernel_rfl) rfl
theorem hf132:HF 132 Tryz.f132:=hK (by kernel_rfl)
theorem en132:Proofs.Enters Tryz.prog 132:=mkE hf132 (by kernel_rfl) rfl
theorem hf133:HF 133 Tryz.f133:=hK (by kernel_rfl)
theorem en133:Proofs.Enters Tryz.prog 133:=mkE hf133 (by kernel_rfl) rfl
theorem hf134:HF 134 Tryz.f134:=hK (by kernel_rfl)
theorem en134:Proofs.Enters Tryz.prog 134:=mkE hf134 (by kernel_rfl) rfl
theorem hf90:HF 90 Tryz.f90:=hK (by kernel_rfl)
theorem en90:Proofs.Enters Tryz.prog 90:=mkE hf90 (by kernel_rfl) rfl
theorem hf91:HF 91 Tryz.f91:=hK (by kernel_rfl)
def breaker_works_state(F:Nat)(a0:Machine×Area)(a1:State):Option (Bool):=
 bnd (breaker_within F a1.Hour 0 a0.2.Limit) (fun x=>brk (!x) (some (false)) (chk (InR ((↑a0.2.Hours.length:Int)-(1:Int))) (bnd (breaker_within F a1.Site 0 ((↑a0.2.Hours.length:Int)-(1:Int))) (fun x_1=>brk (!x_1) (some (false)) (bnd (breaker_within F a1.Fuel 0 a0.1.Tank) (fun x_2=>brk (!x_2) (some (false)) (bnd (breaker_within F a1.Awake 0 a0.1.Watch) (fun x_3=>brk (!x_3) (some (false)) (bnd (breaker_within F a1.Worn 0 a0.1.Wear) (fun x_4=>brk (!x_4) (some (false)) (loopC (fun(x_5:Int×Int)=>fun x_6=>brk (decide (x_5.2<3)) (join F (fun(x_7:Int)=>chk (InR (x_5.2+1)) (x_6 ((x_7,x_5.2+1)))) (fun x_7=>chk (0≤x_5.2∧x_5.2<(↑(3:Nat):Int)) (brk ([a1.Cases.a0,a1.Cases.a1,a1.Cases.a2].getD (Int.toNat x_5.2) 0==0) (x_7 x_5.1) (brk (decide (x_5.2≥(↑a0.2.Cases.length:Int))) (some (false)) (bnd (breaker_within F ([a1.Cases.a0,a1.Cases.a1,a1.Cases.a2].getD (Int.toNat x_5.2) 0) 1 3) (fun x_8=>brk (!x_8) (some (false)) (brk ([a1.Cases.a0,a1.Cases.a1,a1.Cases.a2].getD (Int.toNat x_5.2) 0 != 3) (chk (0≤x_5.2∧x_5.2<(↑a0.2.Cases.length:Int)) (brk (!(a0.2.Cases.getD (Int.toNat x_5.2) (Case.mk 0 0 0 0 false)).Towed) (some (false)) (brk ([a1.Cases.a0,a1.Cases.a1,a1.Cases.a2].getD (Int.toNat x_5.2) 0==2&&decide (x_5.1≥0)) (some (false)) (brk ([a1.Cases.a0,a1.Cases.a1,a1.Cases.a2].getD (Int.toNat x_5.2) 0==2) (x_7 x_5.2) (x_7 x_5.1))))) (brk ([a1.Cases.a0,a1.Cases.a1,a1.Cases.a2].getD (Int.toNat x_5.2) 0==2&&decide (x_5.1≥0)) (some (false)) (brk ([a1.Cases.a0,a1.Cases.a1,a1.Cases.a2].getD (Int.toNat x_5.2) 0==2) (x_7 x_5.2) (x_7 x_5.1)))))))))) (some (a1.Notch==x_5.1))) F (((-1:Int),(0:Int))))))))))))))
def s91(F:Nat):CS E.G:=⟨91,[.wk 7 11 rulesR,.v 13 true],[.v 1 false []],fun x=>breaker_works_state F x.1 x.2.1⟩
theorem c91(F:Nat):CSok E [] (s91 F):=mkC (cx:=⟨[s70 F],[],F,[],[]⟩) hf91 (by kernel_rfl) rfl (allC (c70 F) all0) ⟨inl0,all0⟩ (.s .n (.s .n (.s .n (.s .n (.c .n (.l ⟨[.i,.i],[0,1184,48],[3,4,0,1,2],[(80,.i IntKind.i64),(1200,.i IntKind.i64)],[],[],[],6⟩ (.c (.j ⟨[.i],[0,1184,48,1200],[3,4,0,1,2],[(80,.i IntKind.i64)],[],[],[],6⟩ (.c .n (.s .n (.s .n (.s (.c .n (.c .n .n)) (.c .n .n))))) .n) .n))))))) rfl (by kernel_rfl)
theorem hf48:HF 48 Tryz.f48:=hK (by kernel_rfl)
theorem en48:Proofs.Enters Tryz.prog 48:=mkE hf48 (by kernel_rfl) rfl
theorem hf9:HF 9 Tryz.f9:=hK (by kernel_rfl)
def breaker_Begin(F:Nat)(a0:Machine)(a1:Area):Option (State×Int):=
 bnd (breaker_Check F a0 a1) (fun x=>brk (x != 0) (brk (x != 0) (some (State.mk (0:Int) (0:Int) (0:Int) (0:Int) (0:Int) (0:Int) (A3ofInt.mk 0 0 0),x)) none) (loopC (fun(x_1:Int)=>fun x_2=>brk (decide (x_1<(↑(0:Nat):Int))) none (some (State.mk (0:Int) (0:Int) a0.Tank (0:Int) (0:Int) (-1:Int) (A3ofInt.mk 0 0 0),(0:Int)))) F (0:Int)))
def s9(F:Nat):CS E.G:=⟨9,[.v 7 true,.v 11 true],[.v 13 true [],.v 0 false []],fun x=>breaker_Begin F x.1 x.2.1⟩
theorem c9(F:Nat):CSok E [] (s9 F):=mkC (cx:=⟨[s19 F,s108 F,s109 F,s111 F,s112 F,s113 F,s115 F,s116 F,s119 F,s121 F,s124 F,s125 F,s127 F,s91 F],[(48,Tryz.f48),(90,Tryz.f90),(105,Tryz.f105),(106,Tryz.f106),(107,Tryz.f107),(114,Tryz.f114),(117,Tryz.f117),(118,Tryz.f118),(120,Tryz.f120),(122,Tryz.f122),(123,Tryz.f123),(126,Tryz.f126),(128,Tryz.f128),(129,Tryz.f129),(130,Tryz.f130),(131,Tryz.f131),(132,Tryz.f132),(133,Tryz.f133),(134,Tryz.f134)],F,[],[]⟩) hf9 (by kernel_rfl) rfl (allC (c19 F) (allC (c108 F) (allC (c109 F) (allC (c111 F) (allC (c112 F) (allC (c113 F) (allC (c115 F) (allC (c116 F) (allC (c119 F) (allC (c121 F) (allC (c124 F) (allC (c125 F) (allC (c127 F) (allC (c91 F) all0)))))))))))))) ⟨(inlC hf48 en48 (inlC hf90 en90 (inlC hf105 en105 (inlC hf106 en106 (inlC hf107 en107 (inlC hf114 en114 (inlC hf117 en117 (inlC hf118 en118 (inlC hf120 en120 (inlC hf122 en122 (inlC hf123 en123 (inlC hf126 en126 (inlC hf128 en128 (inlC hf129 en129 (inlC hf130 en130 (inlC hf131 en131 (inlC hf132 en132 (inlC hf133 en133 (inlC hf134 en134 inl0))))))))))))))))))),all0⟩ (.p (.c (.c .n (.u 0 .n)) (.p (.l ⟨[.i],[352,144,336],[0,1,2,9,8,7,6],[(368,.i IntKind.i64)],[],[],[],10⟩ .n)))) rfl (by kernel_rfl)
theorem hf49:HF 49 Tryz.f49:=hK (by kernel_rfl)
def breaker_works_do(F:Nat)(a0:Machine×Area)(a1:State)(a2:Action):Option (State×Int):=
 brk (decide (a2.Kind=(1:Int))) (bnd (breaker_works_site F a0 a2.N) (fun x=>brk (!x) (some (a1,(1:Int))) (bnd (breaker_rules_4 F a0 a1 a2.N) (fun x_1=>brk (!x_1) (some (a1,(70:Int))) (bnd (breaker_works_way F a0 a1 a2.N) (fun x_2=>chk (InR (a1.Hour+x_2)) (bnd (breaker_works_goes F a0 a1) (fun x_3=>chk (InR (x_2*x_3)) (chk (InR (a1.Fuel-x_2*x_3)) (chk (InR (a1.Awake+x_2)) (join F (fun(x_4:Int)=>brk (decide (a1.Hour+x_2>a0.2.Limit)) (some (a1,(12:Int))) (brk (decide (a1.Fuel-x_2*x_3<0)) (some (a1,(71:Int))) (brk (decide (a1.Awake+x_2>a0.1.Watch)) (some (a1,(6:Int))) (brk (decide (x_4>a0.1.Wear)) (some (a1,(6:Int))) (some (State.mk (a1.Hour+x_2) a2.N (a1.Fuel-x_2*x_3) (a1.Awake+x_2) x_4 a1.Notch a1.Cases,(0:Int))))))) (fun x_4=>bnd (breaker_towing F a1) (fun x_5=>brk x_5 (chk (InR (a1.Worn+x_2)) (x_4 (a1.Worn+x_2))) (x_4 (a1.Worn))))))))))))))) (brk (decide (a2.Kind=(2:Int))) (bnd (breaker_works_ship F a0 a2.N) (fun x=>brk (!x) (some (a1,(1:Int))) (bnd (brk (!decide (a1.Notch≥0)) (breaker_rules_6 F a0 a1 a2.N) (some false)) (fun x_1=>brk (decide (a1.Notch≥0)|| !x_1) (some (a1,(70:Int))) (chk (0≤a2.N∧a2.N<(↑a0.2.Cases.length:Int)) (chk (InR (a1.Hour+(a0.2.Cases.getD a2.N.toNat (Case.mk 0 0 0 0 false)).Cut)) (chk (InR ((a0.2.Cases.getD a2.N.toNat (Case.mk 0 0 0 0 false)).Cut*a0.1.Work)) (chk (InR (a1.Fuel-(a0.2.Cases.getD a2.N.toNat (Case.mk 0 0 0 0 false)).Cut*a0.1.Work)) (chk (InR (a1.Awake+(a0.2.Cases.getD a2.N.toNat (Case.mk 0 0 0 0 false)).Cut)) (join F (fun(x_2:Int)=>brk (decide (a1.Hour+(a0.2.Cases.getD a2.N.toNat (Case.mk 0 0 0 0 false)).Cut>a0.2.Limit)) (some (a1,(12:Int))) (brk (decide (a1.Fuel-(a0.2.Cases.getD a2.N.toNat (Case.mk 0 0 0 0 false)).Cut*a0.1.Work<0)) (some (a1,(71:Int))) (brk (decide (a1.Awake+(a0.2.Cases.getD a2.N.toNat (Case.mk 0 0 0 0 false)).Cut>a0.1.Watch)) (some (a1,(6:Int))) (brk (decide (x_2>a0.1.Wear)) (some (a1,(6:Int))) (join F (fun(x_3:Int×Int×Int)=>some ((State.mk (a1.Hour+(a0.2.Cases.getD a2.N.toNat (Case.mk 0 0 0 0 false)).Cut) a1.Site (a1.Fuel-(a0.2.Cases.getD a2.N.toNat (Case.mk 0 0 0 0 false)).Cut*a0.1.Work) (a1.Awake+(a0.2.Cases.getD a2.N.toNat (Case.mk 0 0 0 0 false)).Cut) x_2 a1.Notch (A3ofInt.mk x_3.2.2 x_3.2.1 x_3.1),(0:Int)))) (fun x_3=>chk (0≤a2.N∧a2.N<(↑(3:Nat):Int)) (chk (0≤a2.N∧a2.N<(↑a0.2.Cases.length:Int)) (brk ((a0.2.Cases.getD a2.N.toNat (Case.mk 0 0 0 0 false)).Towed) (chk (0≤a2.N∧a2.N<(↑(3:Nat):Int)) (x_3 ((if a2.N=(↑(Nat.succ (0:Nat)).succ:Int)then(1:Int)else if a2.N=(↑(Nat.succ (0:Nat)).succ:Int)then(3:Int)else a1.Cases.a2,if a2.N=(↑(Nat.succ (0:Nat)):Int)then(1:Int)else if a2.N=(↑(Nat.succ (0:Nat)):Int)then(3:Int)else a1.Cases.a1,if a2.N=(↑(0:Nat):Int)then(1:Int)else if a2.N=(↑(0:Nat):Int)then(3:Int)else a1.Cases.a0)))) (x_3 ((if a2.N=(↑(Nat.succ (0:Nat)).succ:Int)then(3:Int)else a1.Cases.a2,if a2.N=(↑(Nat.succ (0:Nat)):Int)then(3:Int)else a1.Cases.a1,if a2.N=(↑(0:Nat):Int)then(3:Int)else a1.Cases.a0))))))))))) (fun x_2=>bnd (breaker_always F a1) (fun x_3=>brk x_3 (chk (InR (a1.Worn+(a0.2.Cases.getD a2.N.toNat (Case.mk 0 0 0 0 false)).Cut)) (x_2 (a1.Worn+(a0.2.Cases.getD a2.N.toNat (Case.mk 0 0 0 0 false)).Cut))) (x_2 (a1.Worn)))))))))))))) (brk (decide (a2.Kind=(3:Int))) (bnd (breaker_works_ship F a0 a2.N) (fun x=>brk (!x) (some (a1,(1:Int))) (bnd (brk (!decide (a1.Notch≥0)) (breaker_rules_9 F a0 a1 a2.N) (some false)) (fun x_1=>brk (decide (a1.Notch≥0)|| !x_1) (some (a1,(70:Int))) (chk (InR (a1.Hour+1)) (chk (InR ((1:Int)*a0.1.Work)) (chk (InR (a1.Fuel-(1:Int)*a0.1.Work)) (chk (InR (a1.Awake+1)) (join F (fun(x_2:Int)=>brk (decide (a1.Hour+1>a0.2.Limit)) (some (a1,(12:Int))) (brk (decide (a1.Fuel-(1:Int)*a0.1.Work<0)) (some (a1,(71:Int))) (brk (decide (a1.Awake+1>a0.1.Watch)) (some (a1,(6:Int))) (brk (decide (x_2>a0.1.Wear)) (some (a1,(6:Int))) (chk (0≤a2.N∧a2.N<(↑(3:Nat):Int)) (some ((State.mk (a1.Hour+1) a1.Site (a1.Fuel-(1:Int)*a0.1.Work) (a1.Awake+1) x_2 a2.N (A3ofInt.mk (if a2.N=(↑(0:Nat):Int)then(2:Int)else a1.Cases.a0) (if a2.N=(↑(Nat.succ (0:Nat)):Int)then(2:Int)else a1.Cases.a1) (if a2.N=(↑(Nat.succ (0:Nat)).succ:Int)then(2:Int)else a1.Cases.a2)),(0:Int))))))))) (fun x_2=>bnd (breaker_always F a1) (fun x_3=>brk x_3 (chk (InR (a1.Worn+1)) (x_2 (a1.Worn+1))) (x_2 (a1.Worn))))))))))))) (brk (decide (a2.Kind=(4:Int))) (bnd (breaker_works_zero F a0 a2.N) (fun x=>brk (!x) (some (a1,(1:Int))) (bnd (breaker_rules_11 F a0 a1 a2.N) (fun x_1=>brk (!x_1) (some (a1,(70:Int))) (chk (InR (a1.Hour+1)) (chk (InR ((1:Int)*a0.1.Idle)) (chk (InR (a1.Fuel-(1:Int)*a0.1.Idle)) (chk (InR (a1.Awake+1)) (join F (fun(x_2:Int)=>brk (decide (a1.Hour+1>a0.2.Limit)) (some (a1,(12:Int))) (brk (decide (a1.Fuel-(1:Int)*a0.1.Idle<0)) (some (a1,(71:Int))) (brk (decide (a1.Awake+1>a0.1.Watch)) (some (a1,(6:Int))) (brk (decide (x_2>a0.1.Wear)) (some (a1,(6:Int))) (chk (0≤a1.Notch∧a1.Notch<(↑(3:Nat):Int)) (some ((State.mk (a1.Hour+1) a1.Site (a1.Fuel-(1:Int)*a0.1.Idle) (a1.Awake+1) x_2 (-1:Int) (A3ofInt.mk (if a1.Notch=(↑(0:Nat):Int)then(3:Int)else a1.Cases.a0) (if a1.Notch=(↑(Nat.succ (0:Nat)):Int)then(3:Int)else a1.Cases.a1) (if a1.Notch=(↑(Nat.succ (0:Nat)).succ:Int)then(3:Int)else a1.Cases.a2)),(0:Int))))))))) (fun x_2=>bnd (breaker_never F a1) (fun x_3=>brk x_3 (chk (InR (a1.Worn+1)) (x_2 (a1.Worn+1))) (x_2 (a1.Worn))))))))))))) (brk (decide (a2.Kind=(5:Int))) (bnd (breaker_works_zero F a0 a2.N) (fun x=>brk (!x) (some (a1,(1:Int))) (chk (InR (a1.Hour+1)) (chk (InR ((1:Int)*a0.1.Idle)) (chk (InR (a1.Fuel-(1:Int)*a0.1.Idle)) (chk (InR (a1.Awake+1)) (join F (fun(x_1:Int)=>brk (decide (a1.Hour+1>a0.2.Limit)) (some (a1,(12:Int))) (brk (decide (a1.Fuel-(1:Int)*a0.1.Idle<0)) (some (a1,(71:Int))) (brk (decide (a1.Awake+1>a0.1.Watch)) (some (a1,(6:Int))) (brk (decide (x_1>a0.1.Wear)) (some (a1,(6:Int))) (some ((State.mk (a1.Hour+1) a1.Site (a1.Fuel-(1:Int)*a0.1.Idle) (a1.Awake+1) x_1 a1.Notch a1.Cases,(0:Int)))))))) (fun x_1=>bnd (breaker_never F a1) (fun x_2=>brk x_2 (chk (InR (a1.Worn+1)) (x_1 (a1.Worn+1))) (x_1 (a1.Worn))))))))))) (brk (decide (a2.Kind=(6:Int))) (bnd (breaker_works_zero F a0 a2.N) (fun x=>brk (!x) (some (a1,(1:Int))) (brk (decide (a1.Notch≥0)) (some (a1,(70:Int))) (chk (InR (a1.Hour+a0.1.Rest)) (chk (InR (a0.1.Rest*a0.1.Idle)) (chk (InR (a1.Fuel-a0.1.Rest*a0.1.Idle)) (chk (InR (a1.Awake+a0.1.Rest)) (join F (fun(x_1:Int)=>brk (decide (a1.Hour+a0.1.Rest>a0.2.Limit)) (some (a1,(12:Int))) (brk (decide (a1.Fuel-a0.1.Rest*a0.1.Idle<0)) (some (a1,(71:Int))) (brk (decide ((0:Int)>a0.1.Watch)) (some (a1,(6:Int))) (brk (decide (x_1>a0.1.Wear)) (some (a1,(6:Int))) (some (State.mk (a1.Hour+a0.1.Rest) a1.Site (a1.Fuel-a0.1.Rest*a0.1.Idle) (0:Int) x_1 a1.Notch a1.Cases,(0:Int))))))) (fun x_1=>bnd (breaker_never F a1) (fun x_2=>brk x_2 (chk (InR (a1.Worn+a0.1.Rest)) (x_1 (a1.Worn+a0.1.Rest))) (x_1 (a1.Worn)))))))))))) (brk (decide (a2.Kind=(7:Int))) (bnd (breaker_works_zero F a0 a2.N) (fun x=>brk (!x) (some (a1,(1:Int))) (brk (decide (a1.Notch≥0)) (some (a1,(70:Int))) (brk (!a1.Site==0) (some (a1,(70:Int))) (chk (InR (a1.Hour+2)) (chk (InR (a1.Fuel-IntKind.i64.wrap ((2:Int)*(0:Int)))) (chk (InR (a1.Awake+2)) (join F (fun(x_1:Int)=>brk (decide (a1.Hour+2>a0.2.Limit)) (some (a1,(12:Int))) (brk (decide (a1.Fuel-IntKind.i64.wrap ((2:Int)*(0:Int))<0)) (some (a1,(71:Int))) (brk (decide (a1.Awake+2>a0.1.Watch)) (some (a1,(6:Int))) (brk (decide (x_1>a0.1.Wear)) (some (a1,(6:Int))) (some (State.mk (a1.Hour+2) a1.Site a0.1.Tank (a1.Awake+2) x_1 a1.Notch a1.Cases,(0:Int))))))) (fun x_1=>bnd (breaker_never F a1) (fun x_2=>brk x_2 (chk (InR (a1.Worn+2)) (x_1 (a1.Worn+2))) (x_1 (a1.Worn)))))))))))) (brk (decide (a2.Kind=(8:Int))) (bnd (breaker_works_zero F a0 a2.N) (fun x=>brk (!x) (some (a1,(1:Int))) (brk (decide (a1.Notch≥0)) (some (a1,(70:Int))) (brk (!a1.Site==0) (some (a1,(70:Int))) (chk (InR (a1.Hour+a0.1.Refit)) (chk (InR (a0.1.Refit*0)) (chk (InR (a1.Fuel-a0.1.Refit*0)) (chk (InR (a1.Awake+a0.1.Refit)) (join F (fun(x_1:Int)=>brk (decide (a1.Hour+a0.1.Refit>a0.2.Limit)) (some (a1,(12:Int))) (brk (decide (a1.Fuel-a0.1.Refit*0<(0:Int))) (some (a1,(71:Int))) (brk (decide ((0:Int)>a0.1.Watch)) (some (a1,(6:Int))) (brk (decide (x_1>a0.1.Wear)) (some (a1,(6:Int))) (some (State.mk (a1.Hour+a0.1.Refit) a1.Site (a1.Fuel-a0.1.Refit*0) (0:Int) (0:Int) a1.Notch a1.Cases,(0:Int))))))) (fun x_1=>bnd (breaker_never F a1) (fun x_2=>brk x_2 (chk (InR (a1.Worn+a0.1.Refit)) (x_1 (a1.Worn+a0.1.Refit))) (x_1 (a1.Worn))))))))))))) (some (a1,(150:Int))))))))))
def s49(F:Nat):CS E.G:=⟨49,[.wk 7 11 rulesR,.v 13 true,.v 14 true],[.v 13 true [],.v 0 false []],fun x=>breaker_works_do F x.1 x.2.1 x.2.2.1⟩
theorem c49(F:Nat):CSok E [] (s49 F):=mkC (cx:=⟨[s108 F,s109 F,s111 F,s112 F,s113 F,s115 F,s116 F,s119 F,s121 F,s124 F,s125 F,s127 F],[(105,Tryz.f105),(106,Tryz.f106),(107,Tryz.f107),(114,Tryz.f114),(117,Tryz.f117),(118,Tryz.f118),(120,Tryz.f120),(122,Tryz.f122),(123,Tryz.f123),(126,Tryz.f126),(128,Tryz.f128),(129,Tryz.f129),(130,Tryz.f130),(131,Tryz.f131),(132,Tryz.f132),(133,Tryz.f133),(134,Tryz.f134)],F,[],[]⟩) hf49 (by kernel_rfl) rfl (allC (c108 F) (allC (c109 F) (allC (c111 F) (allC (c112 F) (allC (c113 F) (allC (c115 F) (allC (c116 F) (allC (c119 F) (allC (c121 F) (allC (c124 F) (allC (c125 F) (allC (c127 F) all0)))))))))))) ⟨(inlC hf105 en105 (inlC hf106 en106 (inlC hf107 en107 (inlC hf114 en114 (inlC hf117 en117 (inlC hf118 en118 (inlC hf120 en120 (inlC hf122 en122 (inlC hf123 en123 (inlC hf126 en126 (inlC hf128 en128 (inlC hf129 en129 (inlC hf130 en130 (inlC hf131 en131 (inlC hf132 en132 (inlC hf133 en133 (inlC hf134 en134 inl0))))))))))))))))),all0⟩ (.s (.c .n (.c .n (.k (.k (.k (.k (.k (.k (.j ⟨[.i],[0,64,128,96,160,80],[3,4,7,6,8,5,0,1,2],[],[],[(8,4,.i IntKind.i64)],[],9⟩ .n (.c .n (.c .n (.s .n (.c .n (.p .n)))))))))))))) (.s (.c .n (.c .n (.p (.p (.k (.k (.k (.k (.k (.j ⟨[.i],[0,64,128,96,160,80],[3,4,7,6,10,5,0,1,2],[],[],[(10,4,.i IntKind.i64)],[],12⟩ .n (.c .n (.c .n (.s .n (.c .n (.w ⟨[.i,.i,.i],[],[0,1,3,2,10],[(0,.t [])],[],[(10,8,.i IntKind.i64),(10,7,.i IntKind.i64),(10,6,.i IntKind.i64)],[],12⟩ .n .n))))))))))))))) (.s (.c .n (.c .n (.p (.p (.k (.k (.k (.k (.k (.j ⟨[.i],[0,64,128,96,160,80],[3,4,7,6,9,5,0,1,2],[],[],[(9,4,.i IntKind.i64)],[],11⟩ .n (.c .n (.c .n (.s .n (.c .n (.p .n))))))))))))))) (.s (.c .n (.c .n (.p (.p (.k (.k (.k (.k (.k (.j ⟨[.i],[0,64,128,96,160,80],[3,4,7,6,9,5,0,1,2],[],[],[(9,4,.i IntKind.i64)],[],11⟩ .n (.c .n (.c .n (.s .n (.c .n (.p .n))))))))))))))) (.s (.c .n (.p (.p (.p (.k (.k (.k (.k (.k (.j ⟨[.i],[0,64,128,96,160,80],[3,4,7,6,10,5,0,1,2],[],[],[(10,4,.i IntKind.i64)],[],12⟩ .n (.c .n (.c .n (.s .n (.c .n (.p .n))))))))))))))) (.s (.c .n (.s .n (.p (.p (.p (.k (.k (.k (.k (.k (.j ⟨[.i],[0,64,128,96,160,80],[3,4,7,6,10,5,0,1,2],[],[],[(10,4,.i IntKind.i64)],[],12⟩ .n (.c .n (.c .n (.s .n (.c .n (.p .n)))))))))))))))) (.s (.c .n (.s .n (.p (.c .n (.p (.p (.k (.k (.k (.k (.k (.j ⟨[.i],[0,64,128,96,160,80],[3,4,7,6,10,5,0,1,2],[],[],[(10,4,.i IntKind.i64)],[],12⟩ .n (.c .n (.c .n (.s .n (.c .n (.p .n))))))))))))))))) (.s (.c .n (.s .n (.p (.c .n (.p (.p (.k (.k (.k (.k (.k (.j ⟨[.i],[0,64,128,96,160,80],[3,4,7,6,10,5,0,1,2],[],[],[(10,4,.i IntKind.i64)],[],12⟩ .n (.c .n (.c .n (.s .n (.c .n (.p .n))))))))))))))))) .n)))))))) rfl (by kernel_rfl)
theorem hf10:HF 10 Tryz.f10:=hK (by kernel_rfl)
def breaker_Run(F:Nat)(a0:Machine)(a1:Area)(a2:State)(a3:List Action):Option (State×Int×Int):=
 bnd (breaker_Check F a0 a1) (fun x=>brk (x != 0) (brk (x==0&&decide ((↑a3.length:Int)>100)) (some (State.mk (0:Int) (0:Int) (0:Int) (0:Int) (0:Int) (0:Int) (A3ofInt.mk 0 0 0),(0:Int),(2:Int))) (brk (x != 0) (some (State.mk (0:Int) (0:Int) (0:Int) (0:Int) (0:Int) (0:Int) (A3ofInt.mk 0 0 0),(0:Int),x)) none)) (loopC (fun(x_1:Int)=>fun x_2=>brk (decide (x_1<(↑[a2].length:Int))) (chk (0≤x_1∧x_1<(↑[a2].length:Int)) (bnd (breaker_works_state F (a0,a1) ([a2].getD (Int.toNat x_1) (State.mk 0 0 0 0 0 0 (A3ofInt.mk 0 0 0)))) (fun x_3=>brk (!x_3) (some (State.mk (0:Int) (0:Int) (0:Int) (0:Int) (0:Int) (0:Int) (A3ofInt.mk 0 0 0),(0:Int),(9:Int))) (chk (InR (x_1+1)) (x_2 (x_1+1)))))) (join F (fun(x_3:Int)=>brk (x_3 != 0) (some (State.mk (0:Int) (0:Int) (0:Int) (0:Int) (0:Int) (0:Int) (A3ofInt.mk 0 0 0),(0:Int),x_3)) (loopC (fun(x_4:Int×Int×Int×Int×Int×Int×Int×Int×Int×Int)=>fun x_5=>brk (decide (x_4.1<(↑a3.length:Int))) (chk (0≤x_4.1∧x_4.1<(↑a3.length:Int)) (bnd (breaker_works_do F (a0,a1) (State.mk x_4.2.2.2.2.2.2.2.2.2 x_4.2.2.2.2.2.2.2.2.1 x_4.2.2.2.2.2.2.2.1 x_4.2.2.2.2.2.2.1 x_4.2.2.2.2.2.1 x_4.2.2.2.2.1 (A3ofInt.mk x_4.2.2.2.1 x_4.2.2.1 x_4.2.1)) (a3.getD (Int.toNat x_4.1) (Action.mk 0 0))) (fun x_6=>brk (x_6.2 != 0) (some (State.mk x_4.2.2.2.2.2.2.2.2.2 x_4.2.2.2.2.2.2.2.2.1 x_4.2.2.2.2.2.2.2.1 x_4.2.2.2.2.2.2.1 x_4.2.2.2.2.2.1 x_4.2.2.2.2.1 (A3ofInt.mk x_4.2.2.2.1 x_4.2.2.1 x_4.2.1),x_4.1,x_6.2)) (chk (InR (x_4.1+1)) (x_5 ((x_4.1+1,x_6.1.Cases.a2,x_6.1.Cases.a1,x_6.1.Cases.a0,x_6.1.Notch,x_6.1.Worn,x_6.1.Awake,x_6.1.Fuel,x_6.1.Site,x_6.1.Hour))))))) (some (State.mk x_4.2.2.2.2.2.2.2.2.2 x_4.2.2.2.2.2.2.2.2.1 x_4.2.2.2.2.2.2.2.1 x_4.2.2.2.2.2.2.1 x_4.2.2.2.2.2.1 x_4.2.2.2.2.1 (A3ofInt.mk x_4.2.2.2.1 x_4.2.2.1 x_4.2.1),(↑a3.length:Int),(0:Int)))) F (((0:Int),a2.Cases.a2,a2.Cases.a1,a2.Cases.a0,a2.Notch,a2.Worn,a2.Awake,a2.Fuel,a2.Site,a2.Hour)))) (fun x_3=>brk (decide ((↑a3.length:Int)>100)) (x_3 (2:Int)) (x_3 (0:Int))))) F (0:Int)))
def s10(F:Nat):CS E.G:=⟨10,[.v 7 true,.v 11 true,.v 13 true,.sl 14],[.v 13 true [],.v 0 false [],.v 0 false []],fun x=>breaker_Run F x.1 x.2.1 x.2.2.1 x.2.2.2.1⟩
theorem c10(F:Nat):CSok E [] (s10 F):=mkC (cx:=⟨[s19 F,s108 F,s109 F,s111 F,s112 F,s113 F,s115 F,s116 F,s119 F,s121 F,s124 F,s125 F,s127 F,s91 F,s49 F],[(48,Tryz.f48),(90,Tryz.f90),(105,Tryz.f105),(106,Tryz.f106),(107,Tryz.f107),(114,Tryz.f114),(117,Tryz.f117),(118,Tryz.f118),(120,Tryz.f120),(122,Tryz.f122),(123,Tryz.f123),(126,Tryz.f126),(128,Tryz.f128),(129,Tryz.f129),(130,Tryz.f130),(131,Tryz.f131),(132,Tryz.f132),(133,Tryz.f133),(134,Tryz.f134)],F,[],[]⟩) hf10 (by kernel_rfl) rfl (allC (c19 F) (allC (c108 F) (allC (c109 F) (allC (c111 F) (allC (c112 F) (allC (c113 F) (allC (c115 F) (allC (c116 F) (allC (c119 F) (allC (c121 F) (allC (c124 F) (allC (c125 F) (allC (c127 F) (allC (c91 F) (allC (c49 F) all0))))))))))))))) ⟨(inlC hf48 en48 (inlC hf90 en90 (inlC hf105 en105 (inlC hf106 en106 (inlC hf107 en107 (inlC hf114 en114 (inlC hf117 en117 (inlC hf118 en118 (inlC hf120 en120 (inlC hf122 en122 (inlC hf123 en123 (inlC hf126 en126 (inlC hf128 en128 (inlC hf129 en129 (inlC hf130 en130 (inlC hf131 en131 (inlC hf132 en132 (inlC hf133 en133 (inlC hf134 en134 inl0))))))))))))))))))),all0⟩ (.p (.c (.c .n (.c .n (.u 0 .n))) (.p (.l ⟨[.i],[352,144,336],[0,1,2,8,12,11,10,9],[(368,.i IntKind.i64)],[],[],[],13⟩ (.c .n (.k (.j ⟨[.i],[128,96,48,176],[7,6,3,12,11,10,9,2,1,0],[(192,.i IntKind.i64)],[],[],[],13⟩ .n (.c .n (.l ⟨[.i,.i,.i,.i,.i,.i,.i,.i,.i,.i],[128,576,96,48,592,176],[7,3,6,12,11,10,9,2,1,0],[(608,.i IntKind.i64)],[],[(6,8,.i IntKind.i64),(6,7,.i IntKind.i64),(6,6,.i IntKind.i64),(6,5,.i IntKind.i64),(6,4,.i IntKind.i64),(6,3,.i IntKind.i64),(6,2,.i IntKind.i64),(6,1,.i IntKind.i64),(6,0,.i IntKind.i64)],[],13⟩ (.c .n .n)))))))))) rfl (by kernel_rfl)
theorem hf100:HF 100 Tryz.f100:=hK (by kernel_rfl)
theorem en100:Proofs.Enters Tryz.prog 100:=mkE hf100 (by kernel_rfl) rfl
theorem hf64:HF 64 Tryz.f64:=hK (by kernel_rfl)
theorem en64:Proofs.Enters Tryz.prog 64:=mkE hf64 (by kernel_rfl) rfl
theorem hf65:HF 65 Tryz.f65:=hK (by kernel_rfl)
def law06_heavy_1(F:Nat)(a0:List Int):Option (Bool):=
 some (decide ((↑a0.length:Int)>6))
def s65(F:Nat):CS E.G:=⟨65,[.sl 0],[.v 1 false []],fun x=>law06_heavy_1 F x.1⟩
theorem c65(F:Nat):CSok E [] (s65 F):=mkC (cx:=⟨[],[],F,[],[]⟩) hf65 (by kernel_rfl) rfl all0 ⟨inl0,all0⟩ .n rfl (by kernel_rfl)
theorem hf15:HF 15 Tryz.f15:=hK (by kernel_rfl)
def law06_heavy(F:Nat)(a0:Area):Option (Bool):=
 brk (decide ((↑a0.Hours.length:Int)>6)) (some (true)) (brk (decide ((↑a0.Press.length:Int)>80)) (some (true)) (brk (decide ((↑a0.Cases.length:Int)>5)) (some (true)) (join F (fun(x:Int)=>brk (decide (x≥0)) (some (true)) (some (decide (a0.Limit>40)&&decide (a0.Limit≤60)||(↑a0.Cases.length:Int)==3&&decide (a0.Limit>16)&&decide (a0.Limit≤60)))) (fun x=>loopC (fun(x_1:Int)=>fun x_2=>brk (decide (x_1<(↑a0.Hours.length:Int))) (chk (0≤x_1∧x_1<(↑a0.Hours.length:Int)) (bnd (law06_heavy_1 F (a0.Hours.getD (Int.toNat x_1) [])) (fun x_3=>brk x_3 (x x_1) (chk (InR (x_1+1)) (x_2 (x_1+1)))))) (x (-1:Int))) F (0:Int)))))
def s15(F:Nat):CS E.G:=⟨15,[.v 11 true],[.v 1 false []],fun x=>law06_heavy F x.1⟩
theorem c15(F:Nat):CSok E [] (s15 F):=mkC (cx:=⟨[s65 F],[(64,Tryz.f64),(100,Tryz.f100)],F,[],[]⟩) hf15 (by kernel_rfl) rfl (allC (c65 F) all0) ⟨(inlC hf64 en64 (inlC hf100 en100 inl0)),all0⟩ (.s .n (.s .n (.s .n (.p (.w ⟨[.i],[],[0],[(0,.i IntKind.i64)],[],[],[],4⟩ (.l ⟨[.i],[0,16,112],[0],[(128,.i IntKind.i64)],[],[],[],4⟩ (.c .n .n)) .n))))) rfl (by kernel_rfl)
theorem hf67:HF 67 Tryz.f67:=hK (by kernel_rfl)
def kit_CopyInts(F:Nat)(a0:List Int):Option ((List Int)):=
 chk (a0.length≤(20000000000:Nat)) (some a0)
def s67(F:Nat):CS E.G:=⟨67,[.sl 0],[.sl 0 3],fun x=>kit_CopyInts F x.1⟩
theorem c67(F:Nat):CSok E [] (s67 F):=mkC (cx:=⟨[],[],F,[],[]⟩) hf67 (by kernel_rfl) rfl all0 ⟨inl0,all0⟩ .n rfl (by kernel_rfl)
theorem hf101:HF 101 Tryz.f101:=hK (by kernel_rfl)
def kit_CopyList(F:Nat)(a0:List Int):Option ((List Int)):=
 bnd (kit_CopyInts F a0) (fun x=>some x)
def s101(F:Nat):CS E.G:=⟨101,[.sl 0],[.sl 0 3],fun x=>kit_CopyList F x.1⟩
theorem c101(F:Nat):CSok E [] (s101 F):=mkC (cx:=⟨[s67 F],[],F,[],[]⟩) hf101 (by kernel_rfl) rfl (allC (c67 F) all0) ⟨inl0,all0⟩ .n rfl (by kernel_rfl)
theorem hf66:HF 66 Tryz.f66:=hK (by kernel_rfl)
def kit_CopyLists(F:Nat)(a0:List (List Int)):Option ((List (List Int))):=
 loopC (fun(x:Int×List (List Int))=>fun x_1=>brk (decide (x.1<(↑a0.length:Int))) (chk (0≤x.1∧x.1<(↑a0.length:Int)) (bnd (kit_CopyList F (a0.getD (Int.toNat x.1) [])) (fun x_2=>chk (List.length x.2+[x_2].length≤(20000000000:Nat)) (chk (InR (x.1+1)) (x_1 ((x.1+1,x.2++[x_2]))))))) (some x.2)) F (((0:Int),[]))
def s66(F:Nat):CS E.G:=⟨66,[.sl 6],[.sl 6 22],fun x=>kit_CopyLists F x.1⟩
theorem c66(F:Nat):CSok E [] (s66 F):=mkC (cx:=⟨[s101 F],[],F,[],[]⟩) hf66 (by kernel_rfl) rfl (allC (c101 F) all0) ⟨inl0,all0⟩ (.l ⟨[.i,.l 6],[0],[0],[(64,.i IntKind.i64),(48,.h 1 22 6)],[],[],[],2⟩ .n) rfl (by kernel_rfl)
theorem hf68:HF 68 Tryz.f68:=hK (by kernel_rfl)
theorem en68:Proofs.Enters Tryz.prog 68:=mkE hf68 (by kernel_rfl) rfl
def slices_Clone_breaker_Case(F:Nat)(a0:List Case):Option ((List Case)):=
 chk ((0:Nat)+a0.length≤(20000000000:Nat)) (some ([]++a0))
def s68(F:Nat):CS E.G:=⟨68,[.sl 9],[.sl 9 32],fun x=>slices_Clone_breaker_Case F x.1⟩
def cx68(F:Nat):Ctx E:=⟨[],[],F,[],[]⟩
def h68:Hint:= .n
theorem e68n(F:Nat)(c:Nat):fnK (E:=E) (cx68 F) Tryz.f68 [] [.nl] [.sl 9 32] .n (c,())=some ([]):=by kernel_rfl
theorem e68s(F:Nat)(a0:List Case):fnK (E:=E) (cx68 F) Tryz.f68 [] [.sn 9] [.sl 9 32] h68 (a0,())=slices_Clone_breaker_Case F a0:=by kernel_rfl
theorem c68(F:Nat):CSok E [] (s68 F):=⟨en68,by
 have h0:=fn_sound (E:=E) (gl:=[]) (cx:=cx68 F) mix all0 ⟨inl0,all0⟩ keys0 rfl (fun _ h=>nomatch h) hf68 (ps:=[.nl]) (rs:=[.sl 9 32]) (by decide) .n
 have h1:=fn_sound (E:=E) (gl:=[]) (cx:=cx68 F) mix all0 ⟨inl0,all0⟩ keys0 rfl (fun _ h=>nomatch h) hf68 (ps:=[.sn 9]) (rs:=[.sl 9 32]) (by decide) h68
 rw[show fnK (E:=E) (cx68 F) Tryz.f68 [] [.nl] [.sl 9 32] .n=(fun x:AT E.G.car [.nl]=>some ([]))from funext fun x=>e68n F x.1]at h0
 rw[show fnK (E:=E) (cx68 F) Tryz.f68 [] [.sn 9] [.sl 9 32] h68=(fun x:AT E.G.car [.sn 9]=>slices_Clone_breaker_Case F x.1)from funext fun x=>e68s F x.1]at h1
 exact contract_nil (E:=E) (t:=9) (rs:=[.sl 9 32]) (f:=slices_Clone_breaker_Case F) (f0:=fun _=>some ([])) (f1:=slices_Clone_breaker_Case F) h0 h1 (fun _ _ h=>(show slices_Clone_breaker_Case F []=some [] by kernel_rfl).symm.trans h) (fun _ _ h=>h)⟩
theorem hf16:HF 16 Tryz.f16:=hK (by kernel_rfl)
def law06_CopyArea(F:Nat)(a0:Area):Option (Area):=
 bnd (kit_CopyLists F a0.Hours) (fun x=>bnd (kit_CopyInts F a0.Press) (fun x_1=>bnd (slices_Clone_breaker_Case F a0.Cases) (fun x_2=>some (Area.mk x x_1 x_2 a0.Limit))))
def s16(F:Nat):CS E.G:=⟨16,[.v 11 true],[.v 11 true [22,3,32]],fun x=>law06_CopyArea F x.1⟩
theorem c16(F:Nat):CSok E [] (s16 F):=mkC (cx:=⟨[s66 F,s67 F,s68 F],[],F,[],[]⟩) hf16 (by kernel_rfl) rfl (allC (c66 F) (allC (c67 F) (allC (c68 F) all0))) ⟨inl0,all0⟩ .n rfl (by kernel_rfl)
theorem hf17:HF 17 Tryz.f17:=hK (by kernel_rfl)
theorem en17:Proofs.Enters Tryz.prog 17:=mkE hf17 (by kernel_rfl) rfl
def slices_Clone_breaker_Action(F:Nat)(a0:List Action):Option ((List Action)):=
 chk ((0:Nat)+a0.length≤(20000000000:Nat)) (some ([]++a0))
def s17(F:Nat):CS E.G:=⟨17,[.sl 14],[.sl 14 40],fun x=>slices_Clone_breaker_Action F x.1⟩
def cx17(F:Nat):Ctx E:=⟨[],[],F,[],[]⟩
def h17:Hint:= .n
theorem e17n(F:Nat)(c:Nat):fnK (E:=E) (cx17 F) Tryz.f17 [] [.nl] [.sl 14 40] .n (c,())=some ([]):=by kernel_rfl
theorem e17s(F:Nat)(a0:List Action):fnK (E:=E) (cx17 F) Tryz.f17 [] [.sn 14] [.sl 14 40] h17 (a0,())=slices_Clone_breaker_Action F a0:=by kernel_rfl
theorem c17(F:Nat):CSok E [] (s17 F):=⟨en17,by
 have h0:=fn_sound (E:=E) (gl:=[]) (cx:=cx17 F) mix all0 ⟨inl0,all0⟩ keys0 rfl (fun _ h=>nomatch h) hf17 (ps:=[.nl]) (rs:=[.sl 14 40]) (by decide) .n
 have h1:=fn_sound (E:=E) (gl:=[]) (cx:=cx17 F) mix all0 ⟨inl0,all0⟩ keys0 rfl (fun _ h=>nomatch h) hf17 (ps:=[.sn 14]) (rs:=[.sl 14 40]) (by decide) h17
 rw[show fnK (E:=E) (cx17 F) Tryz.f17 [] [.nl] [.sl 14 40] .n=(fun x:AT E.G.car [.nl]=>some ([]))from funext fun x=>e17n F x.1]at h0
 rw[show fnK (E:=E) (cx17 F) Tryz.f17 [] [.sn 14] [.sl 14 40] h17=(fun x:AT E.G.car [.sn 14]=>slices_Clone_breaker_Action F x.1)from funext fun x=>e17s F x.1]at h1
 exact contract_nil (E:=E) (t:=14) (rs:=[.sl 14 40]) (f:=slices_Clone_breaker_Action F) (f0:=fun _=>some ([])) (f1:=slices_Clone_breaker_Action F) h0 h1 (fun _ _ h=>(show slices_Clone_breaker_Action F []=some [] by kernel_rfl).symm.trans h) (fun _ _ h=>h)⟩
theorem hf18:HF 18 Tryz.f18:=hK (by kernel_rfl)
def law06_Area(F:Nat)(a0:Area):Option (Area2):=
 bnd (kit_CopyInts F a0.Press) (fun x=>loopC (fun(x_1:Int×List (List Int))=>fun x_2=>brk (decide (x_1.1<(↑a0.Hours.length:Int))) (chk (0≤x_1.1∧x_1.1<(↑a0.Hours.length:Int)) (bnd (kit_CopyInts F (a0.Hours.getD (Int.toNat x_1.1) [])) (fun x_3=>chk (List.length x_1.2+[x_3].length≤(20000000000:Nat)) (chk (InR (x_1.1+1)) (x_2 ((x_1.1+1,x_1.2++[x_3]))))))) (loopC (fun(x_3:Int×List Case)=>fun x_4=>brk (decide (x_3.1<(↑a0.Cases.length:Int))) (chk (0≤x_3.1∧x_3.1<(↑a0.Cases.length:Int)) (chk (List.length x_3.2+[a0.Cases.getD (Int.toNat x_3.1) (Case.mk 0 0 0 0 false)].length≤(20000000000:Nat)) (chk (InR (x_3.1+1)) (x_4 ((x_3.1+1,x_3.2++[a0.Cases.getD (Int.toNat x_3.1) (Case.mk 0 0 0 0 false)])))))) (some (Area2.mk x_1.2 x x_3.2 a0.Limit))) F (((0:Int),[])))) F (((0:Int),[])))
def s18(F:Nat):CS E.G:=⟨18,[.v 11 true],[.v 18 true [22,3,146]],fun x=>law06_Area F x.1⟩
theorem c18(F:Nat):CSok E [] (s18 F):=mkC (cx:=⟨[s67 F],[],F,[],[]⟩) hf18 (by kernel_rfl) rfl (allC (c67 F) all0) ⟨inl0,all0⟩ (.l ⟨[.i,.l 6],[16,32,256,48,240],[3,4,6,0,2,1,5],[(272,.i IntKind.i64)],[],[(6,0,.h 7 22 6)],[],8⟩ (.c .n (.l ⟨[.i,.l 9],[32,480,48,496],[4,2,6,5,7],[(512,.i IntKind.i64)],[],[(6,2,.h 8 146 9)],[],9⟩ .n))) rfl (by kernel_rfl)
theorem hf72:HF 72 Tryz.f72:=hK (by kernel_rfl)
def ref06_in(F:Nat)(a0:Int)(a1:Int)(a2:Int):Option (Bool):=
 some (decide (a0≥a1)&&decide (a0≤a2))
def s72(F:Nat):CS E.G:=⟨72,[.v 0 false,.v 0 false,.v 0 false],[.v 1 false []],fun x=>ref06_in F x.1 x.2.1 x.2.2.1⟩
theorem c72(F:Nat):CSok E [] (s72 F):=mkC (cx:=⟨[],[],F,[],[]⟩) hf72 (by kernel_rfl) rfl all0 ⟨inl0,all0⟩ .n rfl (by kernel_rfl)
theorem hf20:HF 20 Tryz.f20:=hK (by kernel_rfl)
def ref06_Check(F:Nat)(a0:Machine)(a1:Area2):Option (Int):=
 bnd (ref06_in F a0.Tank 1 200) (fun x=>bnd (brk (!!x) (ref06_in F a0.Idle 0 5) (some false)) (fun x_1=>bnd (brk (!(!x|| !x_1)) (ref06_in F a0.Steam 0 9) (some false)) (fun x_2=>bnd (brk (!(!x|| !x_1|| !x_2)) (ref06_in F a0.Work 0 9) (some false)) (fun x_3=>brk (!x|| !x_1|| !x_2|| !x_3) (some (70:Int)) (bnd (ref06_in F a0.Watch 1 48) (fun x_4=>bnd (brk (!!x_4) (ref06_in F a0.Rest 1 24) (some false)) (fun x_5=>bnd (brk (!(!x_4|| !x_5)) (ref06_in F a0.Wear 1 100) (some false)) (fun x_6=>bnd (brk (!(!x_4|| !x_5|| !x_6)) (ref06_in F a0.Refit 1 48) (some false)) (fun x_7=>brk (!x_4|| !x_5|| !x_6|| !x_7) (some (70:Int)) (bnd (ref06_in F (↑a1.Hours.length:Int) 1 4) (fun x_8=>bnd (brk (!!x_8) (ref06_in F (↑a1.Press.length:Int) 1 60) (some false)) (fun x_9=>brk (!x_8|| !x_9||decide ((↑a1.Cases.length:Int)>3)) (some (2:Int)) (loopC (fun(x_10:Int)=>fun x_11=>brk (decide (x_10<(↑a1.Hours.length:Int))) (chk (0≤x_10∧x_10<(↑a1.Hours.length:Int)) (brk ((↑(List.length (a1.Hours.getD (Int.toNat x_10) [])):Int) != (↑a1.Hours.length:Int)) (some (1:Int)) (loopC (fun(x_12:Int)=>fun x_13=>brk (decide (x_12<(↑a1.Hours.length:Int))) (brk (x_10==x_12) (chk (0≤x_10∧x_10<(↑a1.Hours.length:Int)) (chk (0≤x_12∧x_12<(↑(List.length (a1.Hours.getD (Int.toNat x_10) [])):Int)) (brk (List.getD (a1.Hours.getD (Int.toNat x_10) []) (Int.toNat x_12) (0:Int) != 0) (some (1:Int)) (brk (x_10 != x_12) (chk (0≤x_10∧x_10<(↑a1.Hours.length:Int)) (chk (0≤x_12∧x_12<(↑(List.length (a1.Hours.getD (Int.toNat x_10) [])):Int)) (bnd (ref06_in F (List.getD (a1.Hours.getD (Int.toNat x_10) []) (Int.toNat x_12) (0:Int)) 1 24) (fun x_14=>brk (!x_14) (some (1:Int)) (chk (InR (x_12+1)) (x_13 (x_12+1))))))) (chk (InR (x_12+1)) (x_13 (x_12+1))))))) (brk (x_10 != x_12) (chk (0≤x_10∧x_10<(↑a1.Hours.length:Int)) (chk (0≤x_12∧x_12<(↑(List.length (a1.Hours.getD (Int.toNat x_10) [])):Int)) (bnd (ref06_in F (List.getD (a1.Hours.getD (Int.toNat x_10) []) (Int.toNat x_12) (0:Int)) 1 24) (fun x_14=>brk (!x_14) (some (1:Int)) (chk (InR (x_12+1)) (x_13 (x_12+1))))))) (chk (InR (x_12+1)) (x_13 (x_12+1))))) (chk (InR (x_10+1)) (x_11 (x_10+1)))) F (0:Int)))) (loopC (fun(x_12:Int)=>fun x_13=>brk (decide (x_12<(↑a1.Press.length:Int))) (chk (0≤x_12∧x_12<(↑a1.Press.length:Int)) (bnd (ref06_in F (a1.Press.getD (Int.toNat x_12) 0) 0 3) (fun x_14=>brk (!x_14) (some (1:Int)) (chk (InR (x_12+1)) (x_13 (x_12+1)))))) (loopC (fun(x_14:Int)=>fun x_15=>brk (decide (x_14<(↑a1.Cases.length:Int))) (chk (0≤x_14∧x_14<(↑a1.Cases.length:Int)) (chk (InR ((↑a1.Hours.length:Int)-(1:Int))) (bnd (ref06_in F (a1.Cases.getD (Int.toNat x_14) (Case.mk 0 0 0 0 false)).Site 0 ((↑a1.Hours.length:Int)-(1:Int))) (fun x_16=>chk ((!!x_16)=true→InR ((↑a1.Hours.length:Int)-(1:Int))) (bnd (brk (!!x_16) (ref06_in F (a1.Cases.getD (Int.toNat x_14) (Case.mk 0 0 0 0 false)).To 0 ((↑a1.Hours.length:Int)-(1:Int))) (some false)) (fun x_17=>bnd (brk (!(!x_16|| !x_17)) (ref06_in F (a1.Cases.getD (Int.toNat x_14) (Case.mk 0 0 0 0 false)).Cut 1 24) (some false)) (fun x_18=>bnd (brk (!(!x_16|| !x_17|| !x_18)) (ref06_in F (a1.Cases.getD (Int.toNat x_14) (Case.mk 0 0 0 0 false)).Calm 0 3) (some false)) (fun x_19=>brk (!x_16|| !x_17|| !x_18|| !x_19) (some (1:Int)) (chk (InR (x_14+1)) (x_15 (x_14+1))))))))))) (bnd (ref06_in F a1.Limit 0 60) (fun x_16=>brk (!x_16) (some (1:Int)) (some (0:Int))))) F (0:Int))) F (0:Int))) F (0:Int))))))))))))))
def s20(F:Nat):CS E.G:=⟨20,[.v 7 true,.v 18 true],[.v 0 false []],fun x=>ref06_Check F x.1 x.2.1⟩
theorem c20(F:Nat):CSok E [] (s20 F):=mkC (cx:=⟨[s72 F],[],F,[],[]⟩) hf20 (by kernel_rfl) rfl (allC (c72 F) all0) ⟨inl0,all0⟩ (.c .n (.c .n (.c .n (.l ⟨[.i],[48,80],[4,2,1,0],[(96,.i IntKind.i64)],[],[],[],5⟩ (.c (.c .n (.l ⟨[.i],[96,48,80],[4,2,1,0],[(112,.i IntKind.i64)],[],[],[],6⟩ (.c (.s (.s .n (.s .n .n)) (.s .n .n)) .n))) (.l ⟨[.i],[48,80],[4,2,1,0],[(128,.i IntKind.i64)],[],[],[],5⟩ (.c .n (.l ⟨[.i],[48,80],[4,2,1,0],[(144,.i IntKind.i64)],[],[],[],5⟩ (.c .n .n))))))))) rfl (by kernel_rfl)
theorem hf21:HF 21 Tryz.f21:=hK (by kernel_rfl)
def ref06_Begin(F:Nat)(a0:Machine)(a1:Area2):Option (State×Int):=
 bnd (ref06_Check F a0 a1) (fun x=>brk (x != 0) (some (State.mk (0:Int) (0:Int) (0:Int) (0:Int) (0:Int) (0:Int) (A3ofInt.mk 0 0 0),x)) (some (State.mk (0:Int) (0:Int) a0.Tank (0:Int) (0:Int) (-1:Int) (A3ofInt.mk 0 0 0),(0:Int))))
def s21(F:Nat):CS E.G:=⟨21,[.v 7 true,.v 18 true],[.v 13 true [],.v 0 false []],fun x=>ref06_Begin F x.1 x.2.1⟩
theorem c21(F:Nat):CSok E [] (s21 F):=mkC (cx:=⟨[s20 F],[],F,[],[]⟩) hf21 (by kernel_rfl) rfl (allC (c20 F) all0) ⟨inl0,all0⟩ .n rfl (by kernel_rfl)
theorem hf22:HF 22 Tryz.f22:=hK (by kernel_rfl)
def breaker_Do(F:Nat)(a0:Machine)(a1:Area)(a2:State)(a3:Action):Option (State×Int):=
 bnd (breaker_Check F a0 a1) (fun x=>brk (x != 0) (brk (x != 0) (some (State.mk (0:Int) (0:Int) (0:Int) (0:Int) (0:Int) (0:Int) (A3ofInt.mk 0 0 0),x)) none) (loopC (fun(x_1:Int)=>fun x_2=>brk (decide (x_1<(↑[a2].length:Int))) (chk (0≤x_1∧x_1<(↑[a2].length:Int)) (bnd (breaker_works_state F (a0,a1) ([a2].getD (Int.toNat x_1) (State.mk 0 0 0 0 0 0 (A3ofInt.mk 0 0 0)))) (fun x_3=>brk (!x_3) (some (State.mk (0:Int) (0:Int) (0:Int) (0:Int) (0:Int) (0:Int) (A3ofInt.mk 0 0 0),(9:Int))) (chk (InR (x_1+1)) (x_2 (x_1+1)))))) (bnd (breaker_works_do F (a0,a1) a2 a3) (fun x_3=>brk (x_3.2 != 0) (some (State.mk (0:Int) (0:Int) (0:Int) (0:Int) (0:Int) (0:Int) (A3ofInt.mk 0 0 0),x_3.2)) (some (x_3.1,(0:Int)))))) F (0:Int)))
def s22(F:Nat):CS E.G:=⟨22,[.v 7 true,.v 11 true,.v 13 true,.v 14 true],[.v 13 true [],.v 0 false []],fun x=>breaker_Do F x.1 x.2.1 x.2.2.1 x.2.2.2.1⟩
theorem c22(F:Nat):CSok E [] (s22 F):=mkC (cx:=⟨[s19 F,s108 F,s109 F,s111 F,s112 F,s113 F,s115 F,s116 F,s119 F,s121 F,s124 F,s125 F,s127 F,s91 F,s49 F],[(48,Tryz.f48),(90,Tryz.f90),(105,Tryz.f105),(106,Tryz.f106),(107,Tryz.f107),(114,Tryz.f114),(117,Tryz.f117),(118,Tryz.f118),(120,Tryz.f120),(122,Tryz.f122),(123,Tryz.f123),(126,Tryz.f126),(128,Tryz.f128),(129,Tryz.f129),(130,Tryz.f130),(131,Tryz.f131),(132,Tryz.f132),(133,Tryz.f133),(134,Tryz.f134)],F,[],[]⟩) hf22 (by kernel_rfl) rfl (allC (c19 F) (allC (c108 F) (allC (c109 F) (allC (c111 F) (allC (c112 F) (allC (c113 F) (allC (c115 F) (allC (c116 F) (allC (c119 F) (allC (c121 F) (allC (c124 F) (allC (c125 F) (allC (c127 F) (allC (c91 F) (allC (c49 F) all0))))))))))))))) ⟨(inlC hf48 en48 (inlC hf90 en90 (inlC hf105 en105 (inlC hf106 en106 (inlC hf107 en107 (inlC hf114 en114 (inlC hf117 en117 (inlC hf118 en118 (inlC hf120 en120 (inlC hf122 en122 (inlC hf123 en123 (inlC hf126 en126 (inlC hf128 en128 (inlC hf129 en129 (inlC hf130 en130 (inlC hf131 en131 (inlC hf132 en132 (inlC hf133 en133 (inlC hf134 en134 inl0))))))))))))))))))),all0⟩ (.p (.c (.c .n (.u 0 .n)) (.p (.l ⟨[.i],[352,144,336],[0,1,2,8,12,11,10,9],[(368,.i IntKind.i64)],[],[],[],13⟩ (.c .n .n))))) rfl (by kernel_rfl)
theorem hf85:HF 85 Tryz.f85:=hK (by kernel_rfl)
def ref06_state(F:Nat)(a0:Machine)(a1:Area2)(a2:State):Option (Bool):=
 bnd (ref06_in F a2.Hour 0 a1.Limit) (fun x=>chk ((!!x)=true→InR ((↑a1.Hours.length:Int)-(1:Int))) (bnd (brk (!!x) (ref06_in F a2.Site 0 ((↑a1.Hours.length:Int)-(1:Int))) (some false)) (fun x_1=>bnd (brk (!(!x|| !x_1)) (ref06_in F a2.Fuel 0 a0.Tank) (some false)) (fun x_2=>bnd (brk (!(!x|| !x_1|| !x_2)) (ref06_in F a2.Awake 0 a0.Watch) (some false)) (fun x_3=>bnd (brk (!(!x|| !x_1|| !x_2|| !x_3)) (ref06_in F a2.Worn 0 a0.Wear) (some false)) (fun x_4=>brk (!x|| !x_1|| !x_2|| !x_3|| !x_4) (some (false)) (loopC (fun(x_5:Int×Int)=>fun x_6=>brk (decide (x_5.1<3)) (join F (fun(x_7:Int)=>chk (InR (x_5.1+1)) (x_6 ((x_5.1+1,x_7)))) (fun x_7=>brk (decide (x_5.1≥(↑a1.Cases.length:Int))) (chk (0≤x_5.1∧x_5.1<(↑(3:Nat):Int)) (brk ([a2.Cases.a0,a2.Cases.a1,a2.Cases.a2].getD (Int.toNat x_5.1) 0 != 0) (some (false)) (x_7 x_5.2))) (chk (0≤x_5.1∧x_5.1<(↑(3:Nat):Int)) (bnd (ref06_in F ([a2.Cases.a0,a2.Cases.a1,a2.Cases.a2].getD (Int.toNat x_5.1) 0) 0 3) (fun x_8=>brk (!x_8) (some (false)) (chk (0≤x_5.1∧x_5.1<(↑(3:Nat):Int)) (chk ((![a2.Cases.a0,a2.Cases.a1,a2.Cases.a2].getD (Int.toNat x_5.1) 0==1)=true→0≤x_5.1∧x_5.1<(↑(3:Nat):Int)) (chk (([a2.Cases.a0,a2.Cases.a1,a2.Cases.a2].getD (Int.toNat x_5.1) 0==1||[a2.Cases.a0,a2.Cases.a1,a2.Cases.a2].getD (Int.toNat x_5.1) 0==2)=true→0≤x_5.1∧x_5.1<(↑a1.Cases.length:Int)) (brk (([a2.Cases.a0,a2.Cases.a1,a2.Cases.a2].getD (Int.toNat x_5.1) 0==1||[a2.Cases.a0,a2.Cases.a1,a2.Cases.a2].getD (Int.toNat x_5.1) 0==2)&& !(a1.Cases.getD (Int.toNat x_5.1) (Case.mk 0 0 0 0 false)).Towed) (some (false)) (chk (0≤x_5.1∧x_5.1<(↑(3:Nat):Int)) (brk ([a2.Cases.a0,a2.Cases.a1,a2.Cases.a2].getD (Int.toNat x_5.1) 0==2) (brk (decide (x_5.2≥0)) (some (false)) (x_7 x_5.1)) (x_7 x_5.2)))))))))))) (some (a2.Notch==x_5.2))) F (((0:Int),(-1:Int))))))))))
def s85(F:Nat):CS E.G:=⟨85,[.v 7 true,.v 18 true,.v 13 true],[.v 1 false []],fun x=>ref06_state F x.1 x.2.1 x.2.2.1⟩
theorem c85(F:Nat):CSok E [] (s85 F):=mkC (cx:=⟨[s72 F],[],F,[],[]⟩) hf85 (by kernel_rfl) rfl (allC (c72 F) all0) ⟨inl0,all0⟩ (.c .n (.l ⟨[.i,.i],[64,80],[4,5,2,1,0],[(128,.i IntKind.i64),(112,.i IntKind.i64)],[],[],[],6⟩ (.c (.j ⟨[.i],[64,128,80],[4,5,2,1,0],[(112,.i IntKind.i64)],[],[],[],6⟩ (.c .n (.c .n (.c .n (.c .n .n)))) .n) .n))) rfl (by kernel_rfl)
theorem hf73:HF 73 Tryz.f73:=hK (by kernel_rfl)
def ref06_begun(F:Nat)(a0:Machine)(a1:Area2)(a2:State):Option (Int):=
 bnd (ref06_Check F a0 a1) (fun x=>brk (x != 0) (some x) (bnd (ref06_state F a0 a1 a2) (fun x_1=>brk (!x_1) (some (9:Int)) (some (0:Int)))))
def s73(F:Nat):CS E.G:=⟨73,[.v 7 true,.v 18 true,.v 13 true],[.v 0 false []],fun x=>ref06_begun F x.1 x.2.1 x.2.2.1⟩
theorem c73(F:Nat):CSok E [] (s73 F):=mkC (cx:=⟨[s20 F,s85 F],[],F,[],[]⟩) hf73 (by kernel_rfl) rfl (allC (c20 F) (allC (c85 F) all0)) ⟨inl0,all0⟩ (.c .n .n) rfl (by kernel_rfl)
theorem hf102:HF 102 Tryz.f102:=hK (by kernel_rfl)
def ref06_press(F:Nat)(a0:Area2)(a1:Int)(a2:Int):Option (Int):=
 loopC (fun(x:Int×Int)=>fun x_1=>chk (InR (a1+a2)) (brk (decide (x.1<a1+a2)) (join F (fun(x_2:Int)=>chk (InR (x.1+1)) (x_1 ((x.1+1,x_2)))) (fun x_2=>brk (decide (x.1<(↑a0.Press.length:Int))) (chk (0≤x.1∧x.1<(↑a0.Press.length:Int)) (x_2 (if a0.Press.getD (Int.toNat x.1) 0>x.2 then a0.Press.getD (Int.toNat x.1) 0 else x.2))) (chk (InR ((↑a0.Press.length:Int)-(1:Int))) (chk (0≤(↑a0.Press.length:Int)-(1:Int)∧(↑a0.Press.length:Int)-(1:Int)<(↑a0.Press.length:Int)) (x_2 (if a0.Press.getD ((↑a0.Press.length:Int)-(1:Int)).toNat (0:Int)>x.2 then a0.Press.getD ((↑a0.Press.length:Int)-(1:Int)).toNat (0:Int)else x.2)))))) (some x.2))) F ((a1,(0:Int)))
def s102(F:Nat):CS E.G:=⟨102,[.v 18 true,.v 0 false,.v 0 false],[.v 0 false []],fun x=>ref06_press F x.1 x.2.1 x.2.2.1⟩
theorem c102(F:Nat):CSok E [] (s102 F):=mkC (cx:=⟨[],[],F,[],[]⟩) hf102 (by kernel_rfl) rfl all0 ⟨inl0,all0⟩ (.l ⟨[.i,.i],[16,32,48],[3,2,1,0],[(128,.i IntKind.i64),(112,.i IntKind.i64)],[],[],[],4⟩ (.c (.j ⟨[.i],[16,32,128,48],[3,2,1,0],[(112,.i IntKind.i64)],[],[],[],4⟩ .n .n) .n)) rfl (by kernel_rfl)
theorem hf74:HF 74 Tryz.f74:=hK (by kernel_rfl)
def ref06_step(F:Nat)(a0:Machine)(a1:Area2)(a2:State)(a3:Action):Option (State×Int):=
 bnd (ref06_in F a3.Kind 1 8) (fun x=>brk (!x) (some (a2,(150:Int))) (chk ((a3.Kind==1)=true→InR ((↑a1.Hours.length:Int)-(1:Int))) (bnd (brk (a3.Kind==1) (ref06_in F a3.N 0 ((↑a1.Hours.length:Int)-(1:Int))) (some false)) (fun x_1=>chk ((!(a3.Kind==1&& !x_1)&&(a3.Kind==2||a3.Kind==3))=true→InR ((↑a1.Cases.length:Int)-(1:Int))) (bnd (brk (!(a3.Kind==1&& !x_1)&&(a3.Kind==2||a3.Kind==3)) (ref06_in F a3.N 0 ((↑a1.Cases.length:Int)-(1:Int))) (some false)) (fun x_2=>brk (a3.Kind==1&& !x_1||(a3.Kind==2||a3.Kind==3)&& !x_2||decide (a3.Kind>3)&&a3.N != 0) (some (a2,(1:Int))) (join F (fun(x_3:Int×Bool×Int×Int×Int×Int×Int×Int×Int×Int×Int)=>chk (InR (a2.Hour+x_3.2.2.2.1)) (brk (decide (a2.Hour+x_3.2.2.2.1>a1.Limit)) (some (a2,(12:Int))) (chk (InR (x_3.2.2.2.1*x_3.1)) (brk (decide (a2.Fuel<x_3.2.2.2.1*x_3.1)) (some (a2,(71:Int))) (chk ((!x_3.2.1)=true→InR (a2.Awake+x_3.2.2.2.1)) (chk ((!(!x_3.2.1&&decide (a2.Awake+x_3.2.2.2.1>a0.Watch)))=true→InR (a2.Worn+x_3.2.2.1)) (brk (!x_3.2.1&&decide (a2.Awake+x_3.2.2.2.1>a0.Watch)||decide (a2.Worn+x_3.2.2.1>a0.Wear)) (some (a2,(6:Int))) (chk (InR (a2.Hour+x_3.2.2.2.1)) (chk (InR (x_3.2.2.2.1*x_3.1)) (chk (InR (x_3.2.2.2.2.2.2.2.2.2.1-x_3.2.2.2.1*x_3.1)) (chk (InR (a2.Awake+x_3.2.2.2.1)) (join F (fun(x_4:Int)=>chk (InR (x_3.2.2.2.2.2.2.2.2.1+x_3.2.2.1)) (some (State.mk (a2.Hour+x_3.2.2.2.1) x_3.2.2.2.2.2.2.2.2.2.2 (x_3.2.2.2.2.2.2.2.2.2.1-x_3.2.2.2.1*x_3.1) x_4 (x_3.2.2.2.2.2.2.2.2.1+x_3.2.2.1) x_3.2.2.2.2.2.2.2.1 (A3ofInt.mk x_3.2.2.2.2.2.2.1 x_3.2.2.2.2.2.1 x_3.2.2.2.2.1),(0:Int)))) (fun x_4=>brk x_3.2.1 (x_4 (0:Int)) (x_4 (a2.Awake+x_3.2.2.2.1))))))))))))))) (fun x_3=>brk (a3.Kind==1) (brk (a3.N==a2.Site) (some (a2,(70:Int))) (chk (0≤a2.Site∧a2.Site<(↑a1.Hours.length:Int)) (chk (0≤a3.N∧a3.N<(↑(List.length (a1.Hours.getD a2.Site.toNat [])):Int)) (join F (fun(x_4:Int×Int×Int)=>x_3 ((x_4.1,false,x_4.2.1,x_4.2.2,a2.Cases.a2,a2.Cases.a1,a2.Cases.a0,a2.Notch,a2.Worn,a2.Fuel,a3.N))) (fun x_4=>brk (decide (a2.Notch≥0)) (chk (InR (List.getD (a1.Hours.getD a2.Site.toNat []) a3.N.toNat (0:Int)+List.getD (a1.Hours.getD a2.Site.toNat []) a3.N.toNat (0:Int))) (bnd (ref06_press F a1 a2.Hour (List.getD (a1.Hours.getD a2.Site.toNat []) a3.N.toNat (0:Int)+List.getD (a1.Hours.getD a2.Site.toNat []) a3.N.toNat (0:Int))) (fun x_5=>brk (x_5==3) (some (a2,(70:Int))) (x_4 ((a0.Work,List.getD (a1.Hours.getD a2.Site.toNat []) a3.N.toNat (0:Int)+List.getD (a1.Hours.getD a2.Site.toNat []) a3.N.toNat (0:Int),List.getD (a1.Hours.getD a2.Site.toNat []) a3.N.toNat (0:Int)+List.getD (a1.Hours.getD a2.Site.toNat []) a3.N.toNat (0:Int))))))) (x_4 ((a0.Steam,(0:Int),List.getD (a1.Hours.getD a2.Site.toNat []) a3.N.toNat (0:Int))))))))) (brk (a3.Kind==2) (chk (0≤a3.N∧a3.N<(↑a1.Cases.length:Int)) (chk ((!decide (a2.Notch≥0))=true→0≤a3.N∧a3.N<(↑(3:Nat):Int)) (bnd (brk (!(decide (a2.Notch≥0)||[a2.Cases.a0,a2.Cases.a1,a2.Cases.a2].getD a3.N.toNat 0 != 0||(a1.Cases.getD a3.N.toNat (Case.mk 0 0 0 0 false)).Site != a2.Site)) (ref06_press F a1 a2.Hour (a1.Cases.getD a3.N.toNat (Case.mk 0 0 0 0 false)).Cut) (some (0:Int))) (fun x_4=>brk (decide (a2.Notch≥0)||[a2.Cases.a0,a2.Cases.a1,a2.Cases.a2].getD a3.N.toNat 0 != 0||(a1.Cases.getD a3.N.toNat (Case.mk 0 0 0 0 false)).Site != a2.Site||decide (x_4>(a1.Cases.getD a3.N.toNat (Case.mk 0 0 0 0 false)).Calm)) (some (a2,(70:Int))) (chk (0≤a3.N∧a3.N<(↑(3:Nat):Int)) (brk ((a1.Cases.getD a3.N.toNat (Case.mk 0 0 0 0 false)).Towed) (chk (0≤a3.N∧a3.N<(↑(3:Nat):Int)) (x_3 ((a0.Work,false,(a1.Cases.getD a3.N.toNat (Case.mk 0 0 0 0 false)).Cut,(a1.Cases.getD a3.N.toNat (Case.mk 0 0 0 0 false)).Cut,if a3.N=(↑(Nat.succ (0:Nat)).succ:Int)then(1:Int)else if a3.N=(↑(Nat.succ (0:Nat)).succ:Int)then(3:Int)else a2.Cases.a2,if a3.N=(↑(Nat.succ (0:Nat)):Int)then(1:Int)else if a3.N=(↑(Nat.succ (0:Nat)):Int)then(3:Int)else a2.Cases.a1,if a3.N=(↑(0:Nat):Int)then(1:Int)else if a3.N=(↑(0:Nat):Int)then(3:Int)else a2.Cases.a0,a2.Notch,a2.Worn,a2.Fuel,a2.Site)))) (x_3 ((a0.Work,false,(a1.Cases.getD a3.N.toNat (Case.mk 0 0 0 0 false)).Cut,(a1.Cases.getD a3.N.toNat (Case.mk 0 0 0 0 false)).Cut,if a3.N=(↑(Nat.succ (0:Nat)).succ:Int)then(3:Int)else a2.Cases.a2,if a3.N=(↑(Nat.succ (0:Nat)):Int)then(3:Int)else a2.Cases.a1,if a3.N=(↑(0:Nat):Int)then(3:Int)else a2.Cases.a0,a2.Notch,a2.Worn,a2.Fuel,a2.Site))))))))) (brk (a3.Kind==3) (chk ((!decide (a2.Notch≥0))=true→0≤a3.N∧a3.N<(↑(3:Nat):Int)) (chk ((!(decide (a2.Notch≥0)||[a2.Cases.a0,a2.Cases.a1,a2.Cases.a2].getD a3.N.toNat 0 != 1))=true→0≤a3.N∧a3.N<(↑a1.Cases.length:Int)) (bnd (brk (!(decide (a2.Notch≥0)||[a2.Cases.a0,a2.Cases.a1,a2.Cases.a2].getD a3.N.toNat 0 != 1||(a1.Cases.getD a3.N.toNat (Case.mk 0 0 0 0 false)).Site != a2.Site)) (ref06_press F a1 a2.Hour 1) (some (0:Int))) (fun x_4=>brk (decide (a2.Notch≥0)||[a2.Cases.a0,a2.Cases.a1,a2.Cases.a2].getD a3.N.toNat 0 != 1||(a1.Cases.getD a3.N.toNat (Case.mk 0 0 0 0 false)).Site != a2.Site||decide (x_4>1)) (some (a2,(70:Int))) (chk (0≤a3.N∧a3.N<(↑(3:Nat):Int)) (x_3 ((a0.Work,false,(1:Int),(1:Int),if a3.N=(↑(Nat.succ (0:Nat)).succ:Int)then(2:Int)else a2.Cases.a2,if a3.N=(↑(Nat.succ (0:Nat)):Int)then(2:Int)else a2.Cases.a1,if a3.N=(↑(0:Nat):Int)then(2:Int)else a2.Cases.a0,a3.N,a2.Worn,a2.Fuel,a2.Site)))))))) (brk (a3.Kind==4) (chk ((!!decide (a2.Notch≥0))=true→0≤a2.Notch∧a2.Notch<(↑a1.Cases.length:Int)) (brk (!decide (a2.Notch≥0)||(a1.Cases.getD a2.Notch.toNat (Case.mk 0 0 0 0 false)).To != a2.Site) (some (a2,(70:Int))) (chk (0≤a2.Notch∧a2.Notch<(↑(3:Nat):Int)) (x_3 ((a0.Idle,false,(0:Int),(1:Int),if a2.Notch=(↑(Nat.succ (0:Nat)).succ:Int)then(3:Int)else a2.Cases.a2,if a2.Notch=(↑(Nat.succ (0:Nat)):Int)then(3:Int)else a2.Cases.a1,if a2.Notch=(↑(0:Nat):Int)then(3:Int)else a2.Cases.a0,(-1:Int),a2.Worn,a2.Fuel,a2.Site)))))) (brk (a3.Kind==6) (brk (decide (a2.Notch≥0)) (some (a2,(70:Int))) (x_3 ((a0.Idle,true,(0:Int),a0.Rest,a2.Cases.a2,a2.Cases.a1,a2.Cases.a0,a2.Notch,a2.Worn,a2.Fuel,a2.Site)))) (brk (a3.Kind==7) (brk (decide (a2.Notch≥0)||a2.Site != 0) (some (a2,(70:Int))) (x_3 (((0:Int),false,(0:Int),(2:Int),a2.Cases.a2,a2.Cases.a1,a2.Cases.a0,a2.Notch,a2.Worn,a0.Tank,a2.Site)))) (brk (a3.Kind==8) (brk (decide (a2.Notch≥0)||a2.Site != 0) (some (a2,(70:Int))) (x_3 (((0:Int),true,(0:Int),a0.Refit,a2.Cases.a2,a2.Cases.a1,a2.Cases.a0,a2.Notch,(0:Int),a2.Fuel,a2.Site)))) (x_3 ((a0.Idle,false,(0:Int),(1:Int),a2.Cases.a2,a2.Cases.a1,a2.Cases.a0,a2.Notch,a2.Worn,a2.Fuel,a2.Site)))))))))))))))))
def s74(F:Nat):CS E.G:=⟨74,[.v 7 true,.v 18 true,.v 13 true,.v 14 true],[.v 13 true [],.v 0 false []],fun x=>ref06_step F x.1 x.2.1 x.2.2.1 x.2.2.2.1⟩
theorem c74(F:Nat):CSok E [] (s74 F):=mkC (cx:=⟨[s72 F,s102 F],[],F,[],[]⟩) hf74 (by kernel_rfl) rfl (allC (c72 F) (allC (c102 F) all0)) ⟨inl0,all0⟩ (.c .n (.c .n (.k (.k (.k (.k (.j ⟨[.i,.b,.i,.i,.i,.i,.i,.i,.i,.i,.i],[64,128,96,80,240],[3,7,5,4,8,2,1,0],[(192,.i IntKind.i64),(224,.b),(208,.i IntKind.i64),(176,.i IntKind.i64)],[],[(8,8,.i IntKind.i64),(8,7,.i IntKind.i64),(8,6,.i IntKind.i64),(8,5,.i IntKind.i64),(8,4,.i IntKind.i64),(8,2,.i IntKind.i64),(8,1,.i IntKind.i64)],[],9⟩ (.c (.c .n (.k (.k (.j ⟨[.i,.i,.i],[64,128,96,224,80,112,240],[3,7,5,4,6,8,2,1,0],[(192,.i IntKind.i64),(208,.i IntKind.i64),(176,.i IntKind.i64)],[],[],[],10⟩ (.c .n .n) .n)))) (.c (.c .n .n) (.c .n (.c .n (.c .n (.c .n (.c .n .n))))))) (.c .n (.c .n (.c .n (.k (.k (.k (.j ⟨[.i],[128,208,240],[7,8],[],[],[(8,3,.i IntKind.i64)],[],9⟩ .n .n)))))))))))))) rfl (by kernel_rfl)
theorem hf23:HF 23 Tryz.f23:=hK (by kernel_rfl)
def ref06_Do(F:Nat)(a0:Machine)(a1:Area2)(a2:State)(a3:Action):Option (State×Int):=
 bnd (ref06_begun F a0 a1 a2) (fun x=>brk (x != 0) (some (State.mk (0:Int) (0:Int) (0:Int) (0:Int) (0:Int) (0:Int) (A3ofInt.mk 0 0 0),x)) (bnd (ref06_step F a0 a1 a2 a3) (fun x_1=>brk (x_1.2 != 0) (some (State.mk (0:Int) (0:Int) (0:Int) (0:Int) (0:Int) (0:Int) (A3ofInt.mk 0 0 0),x_1.2)) (some (x_1.1,(0:Int))))))
def s23(F:Nat):CS E.G:=⟨23,[.v 7 true,.v 18 true,.v 13 true,.v 14 true],[.v 13 true [],.v 0 false []],fun x=>ref06_Do F x.1 x.2.1 x.2.2.1 x.2.2.2.1⟩
theorem c23(F:Nat):CSok E [] (s23 F):=mkC (cx:=⟨[s73 F,s74 F],[],F,[],[]⟩) hf23 (by kernel_rfl) rfl (allC (c73 F) (allC (c74 F) all0)) ⟨inl0,all0⟩ (.c .n .n) rfl (by kernel_rfl)
theorem hf24:HF 24 Tryz.f24:=hK (by kernel_rfl)
def ref06_Run(F:Nat)(a0:Machine)(a1:Area2)(a2:State)(a3:List Action):Option (State×Int×Int):=
 bnd (ref06_begun F a0 a1 a2) (fun x=>brk (x != 0) (some (State.mk (0:Int) (0:Int) (0:Int) (0:Int) (0:Int) (0:Int) (A3ofInt.mk 0 0 0),(0:Int),x)) (brk (decide ((↑a3.length:Int)>100)) (some (State.mk (0:Int) (0:Int) (0:Int) (0:Int) (0:Int) (0:Int) (A3ofInt.mk 0 0 0),(0:Int),(2:Int))) (loopC (fun(x_1:Int×Int×Int×Int×Int×Int×Int×Int×Int×Int)=>fun x_2=>brk (decide (x_1.1<(↑a3.length:Int))) (chk (0≤x_1.1∧x_1.1<(↑a3.length:Int)) (bnd (ref06_step F a0 a1 (State.mk x_1.2.2.2.2.2.2.2.2.2 x_1.2.2.2.2.2.2.2.2.1 x_1.2.2.2.2.2.2.2.1 x_1.2.2.2.2.2.2.1 x_1.2.2.2.2.2.1 x_1.2.2.2.2.1 (A3ofInt.mk x_1.2.2.2.1 x_1.2.2.1 x_1.2.1)) (a3.getD (Int.toNat x_1.1) (Action.mk 0 0))) (fun x_3=>brk (x_3.2 != 0) (some (State.mk x_1.2.2.2.2.2.2.2.2.2 x_1.2.2.2.2.2.2.2.2.1 x_1.2.2.2.2.2.2.2.1 x_1.2.2.2.2.2.2.1 x_1.2.2.2.2.2.1 x_1.2.2.2.2.1 (A3ofInt.mk x_1.2.2.2.1 x_1.2.2.1 x_1.2.1),x_1.1,x_3.2)) (chk (InR (x_1.1+1)) (x_2 ((x_1.1+1,x_3.1.Cases.a2,x_3.1.Cases.a1,x_3.1.Cases.a0,x_3.1.Notch,x_3.1.Worn,x_3.1.Awake,x_3.1.Fuel,x_3.1.Site,x_3.1.Hour))))))) (some (State.mk x_1.2.2.2.2.2.2.2.2.2 x_1.2.2.2.2.2.2.2.2.1 x_1.2.2.2.2.2.2.2.1 x_1.2.2.2.2.2.2.1 x_1.2.2.2.2.2.1 x_1.2.2.2.2.1 (A3ofInt.mk x_1.2.2.2.1 x_1.2.2.1 x_1.2.1),(↑a3.length:Int),(0:Int)))) F (((0:Int),a2.Cases.a2,a2.Cases.a1,a2.Cases.a0,a2.Notch,a2.Worn,a2.Awake,a2.Fuel,a2.Site,a2.Hour)))))
def s24(F:Nat):CS E.G:=⟨24,[.v 7 true,.v 18 true,.v 13 true,.sl 14],[.v 13 true [],.v 0 false [],.v 0 false []],fun x=>ref06_Run F x.1 x.2.1 x.2.2.1 x.2.2.2.1⟩
theorem c24(F:Nat):CSok E [] (s24 F):=mkC (cx:=⟨[s73 F,s74 F],[],F,[],[]⟩) hf24 (by kernel_rfl) rfl (allC (c73 F) (allC (c74 F) all0)) ⟨inl0,all0⟩ (.c .n (.c .n (.l ⟨[.i,.i,.i,.i,.i,.i,.i,.i,.i,.i],[64,128,96,48,80],[4,7,6,3,5,2,1,0],[(192,.i IntKind.i64)],[],[(6,8,.i IntKind.i64),(6,7,.i IntKind.i64),(6,6,.i IntKind.i64),(6,5,.i IntKind.i64),(6,4,.i IntKind.i64),(6,3,.i IntKind.i64),(6,2,.i IntKind.i64),(6,1,.i IntKind.i64),(6,0,.i IntKind.i64)],[],8⟩ (.c .n .n)))) rfl (by kernel_rfl)
theorem hf25:HF 25 Tryz.f25:=hK (by kernel_rfl)
def law06_actions(F:Nat)(a0:List Action):Option ((List Action)):=
 loopC (fun(x:Int×List Action)=>fun x_1=>brk (decide (x.1<(↑a0.length:Int))) (chk (0≤x.1∧x.1<(↑a0.length:Int)) (chk (List.length x.2+[a0.getD (Int.toNat x.1) (Action.mk 0 0)].length≤(20000000000:Nat)) (chk (InR (x.1+1)) (x_1 ((x.1+1,x.2++[a0.getD (Int.toNat x.1) (Action.mk 0 0)])))))) (some x.2)) F (((0:Int),[]))
def s25(F:Nat):CS E.G:=⟨25,[.sl 14],[.sl 14 72],fun x=>law06_actions F x.1⟩
theorem c25(F:Nat):CSok E [] (s25 F):=mkC (cx:=⟨[],[],F,[],[]⟩) hf25 (by kernel_rfl) rfl all0 ⟨inl0,all0⟩ (.l ⟨[.i,.l 14],[96,112],[0],[(128,.i IntKind.i64),(48,.h 1 72 14)],[],[],[],2⟩ .n) rfl (by kernel_rfl)
theorem hf93:HF 93 Tryz.f93:=hK (by kernel_rfl)
theorem en93:Proofs.Enters Tryz.prog 93:=mkE hf93 (by kernel_rfl) rfl
theorem hf56:HF 56 Tryz.f56:=hK (by kernel_rfl)
theorem en56:Proofs.Enters Tryz.prog 56:=mkE hf56 (by kernel_rfl) rfl
theorem hf26:HF 26 Tryz.f26:=hK (by kernel_rfl)
def breaker_Can(F:Nat)(a0:Machine)(a1:Area)(a2:State):Option ((List Action)×Int):=
 bnd (breaker_Check F a0 a1) (fun x=>brk (x != 0) (brk (x != 0) (some ([],x)) none) (loopC (fun(x_1:Int)=>fun x_2=>brk (decide (x_1<(↑[a2].length:Int))) (chk (0≤x_1∧x_1<(↑[a2].length:Int)) (bnd (breaker_works_state F (a0,a1) ([a2].getD (Int.toNat x_1) (State.mk 0 0 0 0 0 0 (A3ofInt.mk 0 0 0)))) (fun x_3=>brk (!x_3) (some ([],(9:Int))) (chk (InR (x_1+1)) (x_2 (x_1+1)))))) (loopC (fun(x_3:Int×List Action)=>fun x_4=>brk (decide (x_3.1≤8)) (loopC (fun(x_5:Int×List Action)=>fun x_6=>brk (decide (x_5.1<4)) (bnd (breaker_works_do F (a0,a1) a2 (Action.mk x_3.1 x_5.1)) (fun x_7=>brk (x_7.2==0) (chk (List.length x_5.2+[Action.mk x_3.1 x_5.1].length≤(20000000000:Nat)) (chk (InR (x_5.1+1)) (x_6 ((x_5.1+1,x_5.2++[Action.mk x_3.1 x_5.1]))))) (chk (InR (x_5.1+1)) (x_6 ((x_5.1+1,x_5.2)))))) (chk (InR (x_3.1+1)) (x_4 ((x_3.1+1,x_5.2))))) F (((0:Int),x_3.2))) (some (x_3.2,(0:Int)))) F (((1:Int),[])))) F (0:Int)))
def s26(F:Nat):CS E.G:=⟨26,[.v 7 true,.v 11 true,.v 13 true],[.sl 14 40,.v 0 false []],fun x=>breaker_Can F x.1 x.2.1 x.2.2.1⟩
theorem c26(F:Nat):CSok E [] (s26 F):=mkC (cx:=⟨[s19 F,s108 F,s109 F,s111 F,s112 F,s113 F,s115 F,s116 F,s119 F,s121 F,s124 F,s125 F,s127 F,s91 F,s49 F],[(48,Tryz.f48),(90,Tryz.f90),(105,Tryz.f105),(106,Tryz.f106),(107,Tryz.f107),(114,Tryz.f114),(117,Tryz.f117),(118,Tryz.f118),(120,Tryz.f120),(122,Tryz.f122),(123,Tryz.f123),(126,Tryz.f126),(128,Tryz.f128),(129,Tryz.f129),(130,Tryz.f130),(131,Tryz.f131),(132,Tryz.f132),(133,Tryz.f133),(134,Tryz.f134),(56,Tryz.f56),(93,Tryz.f93)],F,[],[]⟩) hf26 (by kernel_rfl) rfl (allC (c19 F) (allC (c108 F) (allC (c109 F) (allC (c111 F) (allC (c112 F) (allC (c113 F) (allC (c115 F) (allC (c116 F) (allC (c119 F) (allC (c121 F) (allC (c124 F) (allC (c125 F) (allC (c127 F) (allC (c91 F) (allC (c49 F) all0))))))))))))))) ⟨(inlC hf48 en48 (inlC hf90 en90 (inlC hf105 en105 (inlC hf106 en106 (inlC hf107 en107 (inlC hf114 en114 (inlC hf117 en117 (inlC hf118 en118 (inlC hf120 en120 (inlC hf122 en122 (inlC hf123 en123 (inlC hf126 en126 (inlC hf128 en128 (inlC hf129 en129 (inlC hf130 en130 (inlC hf131 en131 (inlC hf132 en132 (inlC hf133 en133 (inlC hf134 en134 (inlC hf56 en56 (inlC hf93 en93 inl0))))))))))))))))))))),all0⟩ (.p (.c (.c .n (.u 0 .n)) (.p (.l ⟨[.i],[352,144,336],[0,1,2,6,10,9,8,7],[(368,.i IntKind.i64)],[],[],[],11⟩ (.c .n (.p (.l ⟨[.i,.l 14],[0,16,32],[0,1,3,7,11,5,9,13,2,4,8,12,6,10,14],[(64,.i IntKind.i64)],[],[(11,0,.h 15 40 14)],[],16⟩ (.c (.l ⟨[.i,.l 14],[0,16,32,64],[0,1,3,7,11,5,9,13,2,4,8,12,6,10,14],[(208,.i IntKind.i64)],[],[(11,0,.h 16 40 14)],[],17⟩ (.c (.s (.p .n) .n) .n)) .n)))))))) rfl (by kernel_rfl)
theorem hf75:HF 75 Tryz.f75:=hK (by kernel_rfl)
def ref06_can(F:Nat)(a0:Machine)(a1:Area2)(a2:State):Option ((List Action)):=
 loopC (fun(x:Int×List Action)=>fun x_1=>brk (decide (x.1≤8)) (loopC (fun(x_2:Int×List Action)=>fun x_3=>brk (decide (x_2.1<4)) (join F (fun(x_4:List Action)=>chk (InR (x_2.1+1)) (x_3 ((x_2.1+1,x_4)))) (fun x_4=>bnd (ref06_step F a0 a1 a2 (Action.mk x.1 x_2.1)) (fun x_5=>brk (x_5.2==0) (chk (List.length x_2.2+[Action.mk x.1 x_2.1].length≤(20000000000:Nat)) (x_4 (x_2.2++[Action.mk x.1 x_2.1]))) (x_4 x_2.2)))) (chk (InR (x.1+1)) (x_1 ((x.1+1,x_2.2))))) F (((0:Int),x.2))) (some x.2)) F (((1:Int),[]))
def s75(F:Nat):CS E.G:=⟨75,[.v 7 true,.v 18 true,.v 13 true],[.sl 14 72],fun x=>ref06_can F x.1 x.2.1 x.2.2.1⟩
theorem c75(F:Nat):CSok E [] (s75 F):=mkC (cx:=⟨[s74 F],[],F,[],[]⟩) hf75 (by kernel_rfl) rfl (allC (c74 F) all0) ⟨inl0,all0⟩ (.l ⟨[.i,.l 14],[64,48,80],[4,3,5,2,1,0],[(128,.i IntKind.i64),(112,.h 6 72 14)],[],[],[],7⟩ (.c (.l ⟨[.i,.l 14],[64,128,48,80],[4,3,5,2,1,0],[(144,.i IntKind.i64),(112,.h 7 72 14)],[],[],[],8⟩ (.c (.j ⟨[.l 14],[64,128,48,80,144],[4,3,5,2,1,0],[(112,.h 8 72 14)],[],[],[],9⟩ .n .n) .n)) .n)) rfl (by kernel_rfl)
theorem hf27:HF 27 Tryz.f27:=hK (by kernel_rfl)
def ref06_Can(F:Nat)(a0:Machine)(a1:Area2)(a2:State):Option ((List Action)×Int):=
 bnd (ref06_begun F a0 a1 a2) (fun x=>brk (x != 0) (some ([],x)) (bnd (ref06_can F a0 a1 a2) (fun x_1=>some (x_1,(0:Int)))))
def s27(F:Nat):CS E.G:=⟨27,[.v 7 true,.v 18 true,.v 13 true],[.sl 14 72,.v 0 false []],fun x=>ref06_Can F x.1 x.2.1 x.2.2.1⟩
theorem c27(F:Nat):CSok E [] (s27 F):=mkC (cx:=⟨[s73 F,s75 F],[],F,[],[]⟩) hf27 (by kernel_rfl) rfl (allC (c73 F) (allC (c75 F) all0)) ⟨inl0,all0⟩ .n rfl (by kernel_rfl)
theorem hf28:HF 28 Tryz.f28:=hK (by kernel_rfl)
def slices_Equal_polynyaref06_Action(F:Nat)(a0:List Action)(a1:List Action):Option (Bool):=
 brk ((↑a0.length:Int) != (↑a1.length:Int)) (some (false)) (loopC (fun(x:Int)=>fun x_1=>brk (decide (x<(↑a0.length:Int))) (chk (0≤x∧x<(↑a0.length:Int)) (chk (0≤x∧x<(↑a1.length:Int)) (brk (!((a0.getD (Int.toNat x) (Action.mk 0 0)).Kind==(a1.getD (Int.toNat x) (Action.mk 0 0)).Kind&&((a0.getD (Int.toNat x) (Action.mk 0 0)).N==(a1.getD (Int.toNat x) (Action.mk 0 0)).N&&true))) (some (false)) (chk (InR (x+1)) (x_1 (x+1)))))) (some (true))) F (0:Int))
def s28(F:Nat):CS E.G:=⟨28,[.sl 14,.sl 14],[.v 1 false []],fun x=>slices_Equal_polynyaref06_Action F x.1 x.2.1⟩
theorem c28(F:Nat):CSok E [] (s28 F):=mkC (cx:=⟨[],[],F,[],[]⟩) hf28 (by kernel_rfl) rfl all0 ⟨inl0,all0⟩ (.c .n (.l ⟨[.i],[0,16,192],[0,1],[(208,.i IntKind.i64)],[],[],[],2⟩ (.c .n .n))) rfl (by kernel_rfl)
theorem hf50:HF 50 Tryz.f50:=hK (by kernel_rfl)
def breaker_works_finished(F:Nat)(a0:Machine×Area)(a1:State):Option (Bool):=
 loopC (fun(x:Int)=>fun x_1=>brk (decide (x<(↑a0.2.Cases.length:Int))) (chk (0≤x∧x<(↑(3:Nat):Int)) (brk ([a1.Cases.a0,a1.Cases.a1,a1.Cases.a2].getD (Int.toNat x) 0 != 3) (some (false)) (chk (InR (x+1)) (x_1 (x+1))))) (some (a1.Site==0))) F (0:Int)
def s50(F:Nat):CS E.G:=⟨50,[.wk 7 11 rulesR,.v 13 true],[.v 1 false []],fun x=>breaker_works_finished F x.1 x.2.1⟩
theorem c50(F:Nat):CSok E [] (s50 F):=mkC (cx:=⟨[],[],F,[],[]⟩) hf50 (by kernel_rfl) rfl all0 ⟨inl0,all0⟩ (.l ⟨[.i],[48,208],[4],[(224,.i IntKind.i64)],[],[],[],6⟩ (.c .n .n)) rfl (by kernel_rfl)
theorem hf29:HF 29 Tryz.f29:=hK (by kernel_rfl)
def breaker_Done(F:Nat)(a0:Machine)(a1:Area)(a2:State):Option (Bool×Int):=
 bnd (breaker_Check F a0 a1) (fun x=>brk (x != 0) (brk (x != 0) (some (false,x)) none) (loopC (fun(x_1:Int)=>fun x_2=>brk (decide (x_1<(↑[a2].length:Int))) (chk (0≤x_1∧x_1<(↑[a2].length:Int)) (bnd (breaker_works_state F (a0,a1) ([a2].getD (Int.toNat x_1) (State.mk 0 0 0 0 0 0 (A3ofInt.mk 0 0 0)))) (fun x_3=>brk (!x_3) (some (false,(9:Int))) (chk (InR (x_1+1)) (x_2 (x_1+1)))))) (bnd (breaker_works_finished F (a0,a1) a2) (fun x_3=>some (x_3,(0:Int))))) F (0:Int)))
def s29(F:Nat):CS E.G:=⟨29,[.v 7 true,.v 11 true,.v 13 true],[.v 1 false [],.v 0 false []],fun x=>breaker_Done F x.1 x.2.1 x.2.2.1⟩
theorem c29(F:Nat):CSok E [] (s29 F):=mkC (cx:=⟨[s19 F,s108 F,s109 F,s111 F,s112 F,s113 F,s115 F,s116 F,s119 F,s121 F,s124 F,s125 F,s127 F,s91 F,s50 F],[(48,Tryz.f48),(90,Tryz.f90),(105,Tryz.f105),(106,Tryz.f106),(107,Tryz.f107),(114,Tryz.f114),(117,Tryz.f117),(118,Tryz.f118),(120,Tryz.f120),(122,Tryz.f122),(123,Tryz.f123),(126,Tryz.f126),(128,Tryz.f128),(129,Tryz.f129),(130,Tryz.f130),(131,Tryz.f131),(132,Tryz.f132),(133,Tryz.f133),(134,Tryz.f134)],F,[],[]⟩) hf29 (by kernel_rfl) rfl (allC (c19 F) (allC (c108 F) (allC (c109 F) (allC (c111 F) (allC (c112 F) (allC (c113 F) (allC (c115 F) (allC (c116 F) (allC (c119 F) (allC (c121 F) (allC (c124 F) (allC (c125 F) (allC (c127 F) (allC (c91 F) (allC (c50 F) all0))))))))))))))) ⟨(inlC hf48 en48 (inlC hf90 en90 (inlC hf105 en105 (inlC hf106 en106 (inlC hf107 en107 (inlC hf114 en114 (inlC hf117 en117 (inlC hf118 en118 (inlC hf120 en120 (inlC hf122 en122 (inlC hf123 en123 (inlC hf126 en126 (inlC hf128 en128 (inlC hf129 en129 (inlC hf130 en130 (inlC hf131 en131 (inlC hf132 en132 (inlC hf133 en133 (inlC hf134 en134 inl0))))))))))))))))))),all0⟩ (.p (.c (.c .n (.u 0 .n)) (.p (.l ⟨[.i],[352,144,336],[0,1,2,6,10,9,8,7],[(368,.i IntKind.i64)],[],[],[],11⟩ (.c .n .n))))) rfl (by kernel_rfl)
theorem hf76:HF 76 Tryz.f76:=hK (by kernel_rfl)
def ref06_finished(F:Nat)(a0:Area2)(a1:State):Option (Bool):=
 loopC (fun(x:Int)=>fun x_1=>brk (decide (x<(↑a0.Cases.length:Int))) (chk (0≤x∧x<(↑(3:Nat):Int)) (brk ([a1.Cases.a0,a1.Cases.a1,a1.Cases.a2].getD (Int.toNat x) 0 != 3) (some (false)) (chk (InR (x+1)) (x_1 (x+1))))) (some (a1.Site==0))) F (0:Int)
def s76(F:Nat):CS E.G:=⟨76,[.v 18 true,.v 13 true],[.v 1 false []],fun x=>ref06_finished F x.1 x.2.1⟩
theorem c76(F:Nat):CSok E [] (s76 F):=mkC (cx:=⟨[],[],F,[],[]⟩) hf76 (by kernel_rfl) rfl all0 ⟨inl0,all0⟩ (.l ⟨[.i],[32,48],[3,4,2,1,0],[(80,.i IntKind.i64)],[],[],[],5⟩ (.c .n .n)) rfl (by kernel_rfl)
theorem hf30:HF 30 Tryz.f30:=hK (by kernel_rfl)
def ref06_Done(F:Nat)(a0:Machine)(a1:Area2)(a2:State):Option (Bool×Int):=
 bnd (ref06_begun F a0 a1 a2) (fun x=>brk (x != 0) (some (false,x)) (bnd (ref06_finished F a1 a2) (fun x_1=>some (x_1,(0:Int)))))
def s30(F:Nat):CS E.G:=⟨30,[.v 7 true,.v 18 true,.v 13 true],[.v 1 false [],.v 0 false []],fun x=>ref06_Done F x.1 x.2.1 x.2.2.1⟩
theorem c30(F:Nat):CSok E [] (s30 F):=mkC (cx:=⟨[s73 F,s76 F],[],F,[],[]⟩) hf30 (by kernel_rfl) rfl (allC (c73 F) (allC (c76 F) all0)) ⟨inl0,all0⟩ .n rfl (by kernel_rfl)
theorem hf51:HF 51 Tryz.f51:=hK (by kernel_rfl)
def breaker_State_key(F:Nat)(a0:State):Option (Key):=
 some (Key.mk a0.Hour a0.Site a0.Notch a0.Cases)
def s51(F:Nat):CS E.G:=⟨51,[.v 13 true],[.v 23 true []],fun x=>breaker_State_key F x.1⟩
theorem c51(F:Nat):CSok E [] (s51 F):=mkC (cx:=⟨[],[],F,[],[]⟩) hf51 (by kernel_rfl) rfl all0 ⟨inl0,all0⟩ .n rfl (by kernel_rfl)
theorem hf55:HF 55 Tryz.f55:=hK (by kernel_rfl)
def breaker_State_covers(F:Nat)(a0:State)(a1:State):Option (Bool):=
 bnd (breaker_State_key F a0) (fun x=>bnd (breaker_State_key F a1) (fun x_1=>some (x.f_hour==x_1.f_hour&&(x.f_site==x_1.f_site&&(x.f_notch==x_1.f_notch&&(x.f_cases.a0==x_1.f_cases.a0&&(x.f_cases.a1==x_1.f_cases.a1&&(x.f_cases.a2==x_1.f_cases.a2&&true))&&true)))&&decide (a0.Fuel≥a1.Fuel)&&decide (a0.Awake≤a1.Awake)&&decide (a0.Worn≤a1.Worn))))
def s55(F:Nat):CS E.G:=⟨55,[.v 13 true,.v 13 true],[.v 1 false []],fun x=>breaker_State_covers F x.1 x.2.1⟩
theorem c55(F:Nat):CSok E [] (s55 F):=mkC (cx:=⟨[s51 F],[],F,[],[]⟩) hf55 (by kernel_rfl) rfl (allC (c51 F) all0) ⟨inl0,all0⟩ .n rfl (by kernel_rfl)
theorem hf31:HF 31 Tryz.f31:=hK (by kernel_rfl)
def breaker_Covers(F:Nat)(a0:Machine)(a1:Area)(a2:State)(a3:State):Option (Bool×Int):=
 bnd (breaker_Check F a0 a1) (fun x=>brk (x != 0) (brk (x != 0) (some (false,x)) none) (loopC (fun(x_1:Int)=>fun x_2=>brk (decide (x_1<(↑[a2,a3].length:Int))) (chk (0≤x_1∧x_1<(↑[a2,a3].length:Int)) (bnd (breaker_works_state F (a0,a1) ([a2,a3].getD (Int.toNat x_1) (State.mk 0 0 0 0 0 0 (A3ofInt.mk 0 0 0)))) (fun x_3=>brk (!x_3) (some (false,(9:Int))) (chk (InR (x_1+1)) (x_2 (x_1+1)))))) (bnd (breaker_State_covers F a2 a3) (fun x_3=>some (x_3,(0:Int))))) F (0:Int)))
def s31(F:Nat):CS E.G:=⟨31,[.v 7 true,.v 11 true,.v 13 true,.v 13 true],[.v 1 false [],.v 0 false []],fun x=>breaker_Covers F x.1 x.2.1 x.2.2.1 x.2.2.2.1⟩
theorem c31(F:Nat):CSok E [] (s31 F):=mkC (cx:=⟨[s19 F,s108 F,s109 F,s111 F,s112 F,s113 F,s115 F,s116 F,s119 F,s121 F,s124 F,s125 F,s127 F,s91 F,s55 F],[(48,Tryz.f48),(90,Tryz.f90),(105,Tryz.f105),(106,Tryz.f106),(107,Tryz.f107),(114,Tryz.f114),(117,Tryz.f117),(118,Tryz.f118),(120,Tryz.f120),(122,Tryz.f122),(123,Tryz.f123),(126,Tryz.f126),(128,Tryz.f128),(129,Tryz.f129),(130,Tryz.f130),(131,Tryz.f131),(132,Tryz.f132),(133,Tryz.f133),(134,Tryz.f134)],F,[],[]⟩) hf31 (by kernel_rfl) rfl (allC (c19 F) (allC (c108 F) (allC (c109 F) (allC (c111 F) (allC (c112 F) (allC (c113 F) (allC (c115 F) (allC (c116 F) (allC (c119 F) (allC (c121 F) (allC (c124 F) (allC (c125 F) (allC (c127 F) (allC (c91 F) (allC (c55 F) all0))))))))))))))) ⟨(inlC hf48 en48 (inlC hf90 en90 (inlC hf105 en105 (inlC hf106 en106 (inlC hf107 en107 (inlC hf114 en114 (inlC hf117 en117 (inlC hf118 en118 (inlC hf120 en120 (inlC hf122 en122 (inlC hf123 en123 (inlC hf126 en126 (inlC hf128 en128 (inlC hf129 en129 (inlC hf130 en130 (inlC hf131 en131 (inlC hf132 en132 (inlC hf133 en133 (inlC hf134 en134 inl0))))))))))))))))))),all0⟩ (.p (.c (.c .n (.u 0 .n)) (.p (.l ⟨[.i],[352,144,336],[0,1,7,2,11,10,9,8],[(368,.i IntKind.i64)],[],[],[],12⟩ (.c .n .n))))) rfl (by kernel_rfl)
theorem hf77:HF 77 Tryz.f77:=hK (by kernel_rfl)
def ref06_covers(F:Nat)(a0:State)(a1:State):Option (Bool):=
 some (a0.Hour==a1.Hour&&a0.Site==a1.Site&&a0.Notch==a1.Notch&&(a0.Cases.a0==a1.Cases.a0&&(a0.Cases.a1==a1.Cases.a1&&(a0.Cases.a2==a1.Cases.a2&&true)))&&decide (a0.Fuel≥a1.Fuel)&&decide (a0.Awake≤a1.Awake)&&decide (a0.Worn≤a1.Worn))
def s77(F:Nat):CS E.G:=⟨77,[.v 13 true,.v 13 true],[.v 1 false []],fun x=>ref06_covers F x.1 x.2.1⟩
theorem c77(F:Nat):CSok E [] (s77 F):=mkC (cx:=⟨[],[],F,[],[]⟩) hf77 (by kernel_rfl) rfl all0 ⟨inl0,all0⟩ .n rfl (by kernel_rfl)
theorem hf32:HF 32 Tryz.f32:=hK (by kernel_rfl)
def ref06_Covers(F:Nat)(a0:Machine)(a1:Area2)(a2:State)(a3:State):Option (Bool×Int):=
 bnd (ref06_begun F a0 a1 a2) (fun x=>brk (x != 0) (some (false,x)) (bnd (ref06_begun F a0 a1 a3) (fun x_1=>brk (x_1 != 0) (some (false,x_1)) (bnd (ref06_covers F a2 a3) (fun x_2=>some (x_2,(0:Int)))))))
def s32(F:Nat):CS E.G:=⟨32,[.v 7 true,.v 18 true,.v 13 true,.v 13 true],[.v 1 false [],.v 0 false []],fun x=>ref06_Covers F x.1 x.2.1 x.2.2.1 x.2.2.2.1⟩
theorem c32(F:Nat):CSok E [] (s32 F):=mkC (cx:=⟨[s73 F,s77 F],[],F,[],[]⟩) hf32 (by kernel_rfl) rfl (allC (c73 F) (allC (c77 F) all0)) ⟨inl0,all0⟩ (.c .n .n) rfl (by kernel_rfl)
theorem hf33:HF 33 Tryz.f33:=hK (by kernel_rfl)
def breaker_Spent(F:Nat)(a0:Machine)(a1:Area)(a2:State)(a3:List Action):Option (Account×Int):=
 bnd (breaker_Check F a0 a1) (fun x=>brk (x != 0) (brk (x==0) none (brk (x != 0) (some (Account.mk (A8ofInt.mk 0 0 0 0 0 0 0 0) (0:Int) (0:Int),x)) none)) (loopC (fun(x_1:Int)=>fun x_2=>brk (decide (x_1<(↑[a2].length:Int))) (chk (0≤x_1∧x_1<(↑[a2].length:Int)) (bnd (breaker_works_state F (a0,a1) ([a2].getD (Int.toNat x_1) (State.mk 0 0 0 0 0 0 (A3ofInt.mk 0 0 0)))) (fun x_3=>brk (!x_3) (some (Account.mk (A8ofInt.mk 0 0 0 0 0 0 0 0) (0:Int) (0:Int),(9:Int))) (chk (InR (x_1+1)) (x_2 (x_1+1)))))) (bnd (breaker_Run F a0 a1 a2 a3) (fun x_3=>brk (x_3.2.2 != 0) (some (Account.mk (A8ofInt.mk 0 0 0 0 0 0 0 0) (0:Int) (0:Int),x_3.2.2)) (loopC (fun(x_4:Int×Int×Int×Int×Int×Int×Int×Int×Int×Int×Int×Int×Int×Int×Int×Int×Int×Int×Int×Int)=>fun x_5=>brk (decide (x_4.1<(↑a3.length:Int))) (chk (0≤x_4.1∧x_4.1<(↑a3.length:Int)) (bnd (breaker_works_do F (a0,a1) (State.mk x_4.2.2.2.2.2.2.2.2.2.2.2.2.2.2.2.2.2.2.2 x_4.2.2.2.2.2.2.2.2.2.2.2.2.2.2.2.2.2.2.1 x_4.2.2.2.2.2.2.2.2.2.2.2.2.2.2.2.2.2.1 x_4.2.2.2.2.2.2.2.2.2.2.2.2.2.2.2.2.1 x_4.2.2.2.2.2.2.2.2.2.2.2.2.2.2.2.1 x_4.2.2.2.2.2.2.2.2.2.2.2.2.2.2.1 (A3ofInt.mk x_4.2.2.2.2.2.2.2.2.2.2.2.2.2.1 x_4.2.2.2.2.2.2.2.2.2.2.2.2.1 x_4.2.2.2.2.2.2.2.2.2.2.2.1)) (a3.getD (Int.toNat x_4.1) (Action.mk 0 0))) (fun x_6=>chk (InR ((a3.getD (Int.toNat x_4.1) (Action.mk 0 0)).Kind-1)) (chk (0≤(a3.getD (Int.toNat x_4.1) (Action.mk 0 0)).Kind-1∧(a3.getD (Int.toNat x_4.1) (Action.mk 0 0)).Kind-1<(↑(8:Nat):Int)) (chk (InR (x_6.1.Hour-x_4.2.2.2.2.2.2.2.2.2.2.2.2.2.2.2.2.2.2.2)) (chk (InR ([x_4.2.2.2.2.2.2.2.2.2.2.1,x_4.2.2.2.2.2.2.2.2.2.1,x_4.2.2.2.2.2.2.2.2.1,x_4.2.2.2.2.2.2.2.1,x_4.2.2.2.2.2.2.1,x_4.2.2.2.2.2.1,x_4.2.2.2.2.1,x_4.2.2.2.1].getD ((a3.getD (Int.toNat x_4.1) (Action.mk 0 0)).Kind-1).toNat (0:Int)+(x_6.1.Hour-x_4.2.2.2.2.2.2.2.2.2.2.2.2.2.2.2.2.2.2.2))) (chk (0≤(a3.getD (Int.toNat x_4.1) (Action.mk 0 0)).Kind-1∧(a3.getD (Int.toNat x_4.1) (Action.mk 0 0)).Kind-1<(↑(8:Nat):Int)) (join F (fun(x_7:Int×Int)=>chk (InR (x_4.1+1)) (x_5 ((x_4.1+1,x_7.1,x_7.2,if(a3.getD (Int.toNat x_4.1) (Action.mk 0 0)).Kind-1=(↑(Nat.succ (0:Nat)).succ.succ.succ.succ.succ.succ:Int)then[x_4.2.2.2.2.2.2.2.2.2.2.1,x_4.2.2.2.2.2.2.2.2.2.1,x_4.2.2.2.2.2.2.2.2.1,x_4.2.2.2.2.2.2.2.1,x_4.2.2.2.2.2.2.1,x_4.2.2.2.2.2.1,x_4.2.2.2.2.1,x_4.2.2.2.1].getD ((a3.getD (Int.toNat x_4.1) (Action.mk 0 0)).Kind-1).toNat (0:Int)+(x_6.1.Hour-x_4.2.2.2.2.2.2.2.2.2.2.2.2.2.2.2.2.2.2.2)else x_4.2.2.2.1,if(a3.getD (Int.toNat x_4.1) (Action.mk 0 0)).Kind-1=(↑(Nat.succ (0:Nat)).succ.succ.succ.succ.succ:Int)then[x_4.2.2.2.2.2.2.2.2.2.2.1,x_4.2.2.2.2.2.2.2.2.2.1,x_4.2.2.2.2.2.2.2.2.1,x_4.2.2.2.2.2.2.2.1,x_4.2.2.2.2.2.2.1,x_4.2.2.2.2.2.1,x_4.2.2.2.2.1,x_4.2.2.2.1].getD ((a3.getD (Int.toNat x_4.1) (Action.mk 0 0)).Kind-1).toNat (0:Int)+(x_6.1.Hour-x_4.2.2.2.2.2.2.2.2.2.2.2.2.2.2.2.2.2.2.2)else x_4.2.2.2.2.1,if(a3.getD (Int.toNat x_4.1) (Action.mk 0 0)).Kind-1=(↑(Nat.succ (0:Nat)).succ.succ.succ.succ:Int)then[x_4.2.2.2.2.2.2.2.2.2.2.1,x_4.2.2.2.2.2.2.2.2.2.1,x_4.2.2.2.2.2.2.2.2.1,x_4.2.2.2.2.2.2.2.1,x_4.2.2.2.2.2.2.1,x_4.2.2.2.2.2.1,x_4.2.2.2.2.1,x_4.2.2.2.1].getD ((a3.getD (Int.toNat x_4.1) (Action.mk 0 0)).Kind-1).toNat (0:Int)+(x_6.1.Hour-x_4.2.2.2.2.2.2.2.2.2.2.2.2.2.2.2.2.2.2.2)else x_4.2.2.2.2.2.1,if(a3.getD (Int.toNat x_4.1) (Action.mk 0 0)).Kind-1=(↑(Nat.succ (0:Nat)).succ.succ.succ:Int)then[x_4.2.2.2.2.2.2.2.2.2.2.1,x_4.2.2.2.2.2.2.2.2.2.1,x_4.2.2.2.2.2.2.2.2.1,x_4.2.2.2.2.2.2.2.1,x_4.2.2.2.2.2.2.1,x_4.2.2.2.2.2.1,x_4.2.2.2.2.1,x_4.2.2.2.1].getD ((a3.getD (Int.toNat x_4.1) (Action.mk 0 0)).Kind-1).toNat (0:Int)+(x_6.1.Hour-x_4.2.2.2.2.2.2.2.2.2.2.2.2.2.2.2.2.2.2.2)else x_4.2.2.2.2.2.2.1,if(a3.getD (Int.toNat x_4.1) (Action.mk 0 0)).Kind-1=(↑(Nat.succ (0:Nat)).succ.succ:Int)then[x_4.2.2.2.2.2.2.2.2.2.2.1,x_4.2.2.2.2.2.2.2.2.2.1,x_4.2.2.2.2.2.2.2.2.1,x_4.2.2.2.2.2.2.2.1,x_4.2.2.2.2.2.2.1,x_4.2.2.2.2.2.1,x_4.2.2.2.2.1,x_4.2.2.2.1].getD ((a3.getD (Int.toNat x_4.1) (Action.mk 0 0)).Kind-1).toNat (0:Int)+(x_6.1.Hour-x_4.2.2.2.2.2.2.2.2.2.2.2.2.2.2.2.2.2.2.2)else x_4.2.2.2.2.2.2.2.1,if(a3.getD (Int.toNat x_4.1) (Action.mk 0 0)).Kind-1=(↑(Nat.succ (0:Nat)).succ:Int)then[x_4.2.2.2.2.2.2.2.2.2.2.1,x_4.2.2.2.2.2.2.2.2.2.1,x_4.2.2.2.2.2.2.2.2.1,x_4.2.2.2.2.2.2.2.1,x_4.2.2.2.2.2.2.1,x_4.2.2.2.2.2.1,x_4.2.2.2.2.1,x_4.2.2.2.1].getD ((a3.getD (Int.toNat x_4.1) (Action.mk 0 0)).Kind-1).toNat (0:Int)+(x_6.1.Hour-x_4.2.2.2.2.2.2.2.2.2.2.2.2.2.2.2.2.2.2.2)else x_4.2.2.2.2.2.2.2.2.1,if(a3.getD (Int.toNat x_4.1) (Action.mk 0 0)).Kind-1=(↑(Nat.succ (0:Nat)):Int)then[x_4.2.2.2.2.2.2.2.2.2.2.1,x_4.2.2.2.2.2.2.2.2.2.1,x_4.2.2.2.2.2.2.2.2.1,x_4.2.2.2.2.2.2.2.1,x_4.2.2.2.2.2.2.1,x_4.2.2.2.2.2.1,x_4.2.2.2.2.1,x_4.2.2.2.1].getD ((a3.getD (Int.toNat x_4.1) (Action.mk 0 0)).Kind-1).toNat (0:Int)+(x_6.1.Hour-x_4.2.2.2.2.2.2.2.2.2.2.2.2.2.2.2.2.2.2.2)else x_4.2.2.2.2.2.2.2.2.2.1,if(a3.getD (Int.toNat x_4.1) (Action.mk 0 0)).Kind-1=(↑(0:Nat):Int)then[x_4.2.2.2.2.2.2.2.2.2.2.1,x_4.2.2.2.2.2.2.2.2.2.1,x_4.2.2.2.2.2.2.2.2.1,x_4.2.2.2.2.2.2.2.1,x_4.2.2.2.2.2.2.1,x_4.2.2.2.2.2.1,x_4.2.2.2.2.1,x_4.2.2.2.1].getD ((a3.getD (Int.toNat x_4.1) (Action.mk 0 0)).Kind-1).toNat (0:Int)+(x_6.1.Hour-x_4.2.2.2.2.2.2.2.2.2.2.2.2.2.2.2.2.2.2.2)else x_4.2.2.2.2.2.2.2.2.2.2.1,x_6.1.Cases.a2,x_6.1.Cases.a1,x_6.1.Cases.a0,x_6.1.Notch,x_6.1.Worn,x_6.1.Awake,x_6.1.Fuel,x_6.1.Site,x_6.1.Hour)))) (fun x_7=>brk ((a3.getD (Int.toNat x_4.1) (Action.mk 0 0)).Kind==7) (chk (InR (x_6.1.Fuel-x_4.2.2.2.2.2.2.2.2.2.2.2.2.2.2.2.2.2.1)) (chk (InR (x_4.2.1+(x_6.1.Fuel-x_4.2.2.2.2.2.2.2.2.2.2.2.2.2.2.2.2.2.1))) (x_7 ((x_4.2.1+(x_6.1.Fuel-x_4.2.2.2.2.2.2.2.2.2.2.2.2.2.2.2.2.2.1),x_4.2.2.1))))) (chk (InR (x_4.2.2.2.2.2.2.2.2.2.2.2.2.2.2.2.2.2.1-x_6.1.Fuel)) (chk (InR (x_4.2.2.1+(x_4.2.2.2.2.2.2.2.2.2.2.2.2.2.2.2.2.2.1-x_6.1.Fuel))) (x_7 ((x_4.2.1,x_4.2.2.1+(x_4.2.2.2.2.2.2.2.2.2.2.2.2.2.2.2.2.2.1-x_6.1.Fuel))))))))))))))) (some (Account.mk (A8ofInt.mk x_4.2.2.2.2.2.2.2.2.2.2.1 x_4.2.2.2.2.2.2.2.2.2.1 x_4.2.2.2.2.2.2.2.2.1 x_4.2.2.2.2.2.2.2.1 x_4.2.2.2.2.2.2.1 x_4.2.2.2.2.2.1 x_4.2.2.2.2.1 x_4.2.2.2.1) x_4.2.2.1 x_4.2.1,(0:Int)))) F (((0:Int),(0:Int),(0:Int),(0:Int),(0:Int),(0:Int),(0:Int),(0:Int),(0:Int),(0:Int),(0:Int),a2.Cases.a2,a2.Cases.a1,a2.Cases.a0,a2.Notch,a2.Worn,a2.Awake,a2.Fuel,a2.Site,a2.Hour)))))) F (0:Int)))
def s33(F:Nat):CS E.G:=⟨33,[.v 7 true,.v 11 true,.v 13 true,.sl 14],[.v 21 true [],.v 0 false []],fun x=>breaker_Spent F x.1 x.2.1 x.2.2.1 x.2.2.2.1⟩
theorem c33(F:Nat):CSok E [] (s33 F):=mkC (cx:=⟨[s10 F,s19 F,s108 F,s109 F,s111 F,s112 F,s113 F,s115 F,s116 F,s119 F,s121 F,s124 F,s125 F,s127 F,s91 F,s49 F],[(48,Tryz.f48),(90,Tryz.f90),(105,Tryz.f105),(106,Tryz.f106),(107,Tryz.f107),(114,Tryz.f114),(117,Tryz.f117),(118,Tryz.f118),(120,Tryz.f120),(122,Tryz.f122),(123,Tryz.f123),(126,Tryz.f126),(128,Tryz.f128),(129,Tryz.f129),(130,Tryz.f130),(131,Tryz.f131),(132,Tryz.f132),(133,Tryz.f133),(134,Tryz.f134)],F,[],[]⟩) hf33 (by kernel_rfl) rfl (allC (c10 F) (allC (c19 F) (allC (c108 F) (allC (c109 F) (allC (c111 F) (allC (c112 F) (allC (c113 F) (allC (c115 F) (allC (c116 F) (allC (c119 F) (allC (c121 F) (allC (c124 F) (allC (c125 F) (allC (c127 F) (allC (c91 F) (allC (c49 F) all0)))))))))))))))) ⟨(inlC hf48 en48 (inlC hf90 en90 (inlC hf105 en105 (inlC hf106 en106 (inlC hf107 en107 (inlC hf114 en114 (inlC hf117 en117 (inlC hf118 en118 (inlC hf120 en120 (inlC hf122 en122 (inlC hf123 en123 (inlC hf126 en126 (inlC hf128 en128 (inlC hf129 en129 (inlC hf130 en130 (inlC hf131 en131 (inlC hf132 en132 (inlC hf133 en133 (inlC hf134 en134 inl0))))))))))))))))))),all0⟩ (.p (.c (.c (.u 0 .n) (.c .n (.u 0 .n))) (.p (.l ⟨[.i],[352,144,336],[0,1,2,8,12,11,10,9],[(368,.i IntKind.i64)],[],[],[],13⟩ (.c .n (.c .n (.l ⟨[.i,.i,.i,.i,.i,.i,.i,.i,.i,.i,.i,.i,.i,.i,.i,.i,.i,.i,.i,.i],[128,640,192,96,160,656],[7,3,13,6,12,11,10,9,2,1,0],[(672,.i IntKind.i64)],[],[(13,9,.i IntKind.i64),(13,8,.i IntKind.i64),(13,7,.i IntKind.i64),(13,6,.i IntKind.i64),(13,5,.i IntKind.i64),(13,4,.i IntKind.i64),(13,3,.i IntKind.i64),(13,2,.i IntKind.i64),(13,1,.i IntKind.i64),(13,0,.i IntKind.i64),(6,8,.i IntKind.i64),(6,7,.i IntKind.i64),(6,6,.i IntKind.i64),(6,5,.i IntKind.i64),(6,4,.i IntKind.i64),(6,3,.i IntKind.i64),(6,2,.i IntKind.i64),(6,1,.i IntKind.i64),(6,0,.i IntKind.i64)],[],14⟩ (.c (.k (.k (.k (.k (.j ⟨[.i,.i],[128,640,192,96,160,672,656,240],[7,3,13,6,12,15,11,10,9,2,1,0],[],[],[(13,9,.i IntKind.i64),(13,8,.i IntKind.i64)],[],16⟩ .n .n))))) .n)))))))) rfl (by kernel_rfl)
theorem hf34:HF 34 Tryz.f34:=hK (by kernel_rfl)
def ref06_Spent(F:Nat)(a0:Machine)(a1:Area2)(a2:State)(a3:List Action):Option (Account×Int):=
 bnd (ref06_Run F a0 a1 a2 a3) (fun x=>brk (x.2.2 != 0) (some (Account.mk (A8ofInt.mk 0 0 0 0 0 0 0 0) (0:Int) (0:Int),x.2.2)) (loopC (fun(x_1:Int×Int×Int×Int×Int×Int×Int×Int×Int×Int×Int×Int×Int×Int×Int×Int×Int×Int×Int×Int)=>fun x_2=>brk (decide (x_1.1<(↑a3.length:Int))) (chk (0≤x_1.1∧x_1.1<(↑a3.length:Int)) (bnd (ref06_step F a0 a1 (State.mk x_1.2.2.2.2.2.2.2.2.2.1 x_1.2.2.2.2.2.2.2.2.1 x_1.2.2.2.2.2.2.2.1 x_1.2.2.2.2.2.2.1 x_1.2.2.2.2.2.1 x_1.2.2.2.2.1 (A3ofInt.mk x_1.2.2.2.1 x_1.2.2.1 x_1.2.1)) (a3.getD (Int.toNat x_1.1) (Action.mk 0 0))) (fun x_3=>chk (0≤x_1.1∧x_1.1<(↑a3.length:Int)) (chk (InR ((a3.getD (Int.toNat x_1.1) (Action.mk 0 0)).Kind-1)) (chk (0≤(a3.getD (Int.toNat x_1.1) (Action.mk 0 0)).Kind-1∧(a3.getD (Int.toNat x_1.1) (Action.mk 0 0)).Kind-1<(↑(8:Nat):Int)) (chk (InR ([x_1.2.2.2.2.2.2.2.2.2.2.2.2.2.2.2.2.2.2.2,x_1.2.2.2.2.2.2.2.2.2.2.2.2.2.2.2.2.2.2.1,x_1.2.2.2.2.2.2.2.2.2.2.2.2.2.2.2.2.2.1,x_1.2.2.2.2.2.2.2.2.2.2.2.2.2.2.2.2.1,x_1.2.2.2.2.2.2.2.2.2.2.2.2.2.2.2.1,x_1.2.2.2.2.2.2.2.2.2.2.2.2.2.2.1,x_1.2.2.2.2.2.2.2.2.2.2.2.2.2.1,x_1.2.2.2.2.2.2.2.2.2.2.2.2.1].getD ((a3.getD (Int.toNat x_1.1) (Action.mk 0 0)).Kind-1).toNat (0:Int)+x_3.1.Hour)) (chk (InR ([x_1.2.2.2.2.2.2.2.2.2.2.2.2.2.2.2.2.2.2.2,x_1.2.2.2.2.2.2.2.2.2.2.2.2.2.2.2.2.2.2.1,x_1.2.2.2.2.2.2.2.2.2.2.2.2.2.2.2.2.2.1,x_1.2.2.2.2.2.2.2.2.2.2.2.2.2.2.2.2.1,x_1.2.2.2.2.2.2.2.2.2.2.2.2.2.2.2.1,x_1.2.2.2.2.2.2.2.2.2.2.2.2.2.2.1,x_1.2.2.2.2.2.2.2.2.2.2.2.2.2.1,x_1.2.2.2.2.2.2.2.2.2.2.2.2.1].getD ((a3.getD (Int.toNat x_1.1) (Action.mk 0 0)).Kind-1).toNat (0:Int)+x_3.1.Hour-x_1.2.2.2.2.2.2.2.2.2.1)) (chk (0≤(a3.getD (Int.toNat x_1.1) (Action.mk 0 0)).Kind-1∧(a3.getD (Int.toNat x_1.1) (Action.mk 0 0)).Kind-1<(↑(8:Nat):Int)) (join F (fun(x_4:Int×Int)=>chk (InR (x_1.1+1)) (x_2 ((x_1.1+1,x_3.1.Cases.a2,x_3.1.Cases.a1,x_3.1.Cases.a0,x_3.1.Notch,x_3.1.Worn,x_3.1.Awake,x_3.1.Fuel,x_3.1.Site,x_3.1.Hour,x_4.1,x_4.2,if(a3.getD (Int.toNat x_1.1) (Action.mk 0 0)).Kind-1=(↑(Nat.succ (0:Nat)).succ.succ.succ.succ.succ.succ:Int)then[x_1.2.2.2.2.2.2.2.2.2.2.2.2.2.2.2.2.2.2.2,x_1.2.2.2.2.2.2.2.2.2.2.2.2.2.2.2.2.2.2.1,x_1.2.2.2.2.2.2.2.2.2.2.2.2.2.2.2.2.2.1,x_1.2.2.2.2.2.2.2.2.2.2.2.2.2.2.2.2.1,x_1.2.2.2.2.2.2.2.2.2.2.2.2.2.2.2.1,x_1.2.2.2.2.2.2.2.2.2.2.2.2.2.2.1,x_1.2.2.2.2.2.2.2.2.2.2.2.2.2.1,x_1.2.2.2.2.2.2.2.2.2.2.2.2.1].getD ((a3.getD (Int.toNat x_1.1) (Action.mk 0 0)).Kind-1).toNat (0:Int)+x_3.1.Hour-x_1.2.2.2.2.2.2.2.2.2.1 else x_1.2.2.2.2.2.2.2.2.2.2.2.2.1,if(a3.getD (Int.toNat x_1.1) (Action.mk 0 0)).Kind-1=(↑(Nat.succ (0:Nat)).succ.succ.succ.succ.succ:Int)then[x_1.2.2.2.2.2.2.2.2.2.2.2.2.2.2.2.2.2.2.2,x_1.2.2.2.2.2.2.2.2.2.2.2.2.2.2.2.2.2.2.1,x_1.2.2.2.2.2.2.2.2.2.2.2.2.2.2.2.2.2.1,x_1.2.2.2.2.2.2.2.2.2.2.2.2.2.2.2.2.1,x_1.2.2.2.2.2.2.2.2.2.2.2.2.2.2.2.1,x_1.2.2.2.2.2.2.2.2.2.2.2.2.2.2.1,x_1.2.2.2.2.2.2.2.2.2.2.2.2.2.1,x_1.2.2.2.2.2.2.2.2.2.2.2.2.1].getD ((a3.getD (Int.toNat x_1.1) (Action.mk 0 0)).Kind-1).toNat (0:Int)+x_3.1.Hour-x_1.2.2.2.2.2.2.2.2.2.1 else x_1.2.2.2.2.2.2.2.2.2.2.2.2.2.1,if(a3.getD (Int.toNat x_1.1) (Action.mk 0 0)).Kind-1=(↑(Nat.succ (0:Nat)).succ.succ.succ.succ:Int)then[x_1.2.2.2.2.2.2.2.2.2.2.2.2.2.2.2.2.2.2.2,x_1.2.2.2.2.2.2.2.2.2.2.2.2.2.2.2.2.2.2.1,x_1.2.2.2.2.2.2.2.2.2.2.2.2.2.2.2.2.2.1,x_1.2.2.2.2.2.2.2.2.2.2.2.2.2.2.2.2.1,x_1.2.2.2.2.2.2.2.2.2.2.2.2.2.2.2.1,x_1.2.2.2.2.2.2.2.2.2.2.2.2.2.2.1,x_1.2.2.2.2.2.2.2.2.2.2.2.2.2.1,x_1.2.2.2.2.2.2.2.2.2.2.2.2.1].getD ((a3.getD (Int.toNat x_1.1) (Action.mk 0 0)).Kind-1).toNat (0:Int)+x_3.1.Hour-x_1.2.2.2.2.2.2.2.2.2.1 else x_1.2.2.2.2.2.2.2.2.2.2.2.2.2.2.1,if(a3.getD (Int.toNat x_1.1) (Action.mk 0 0)).Kind-1=(↑(Nat.succ (0:Nat)).succ.succ.succ:Int)then[x_1.2.2.2.2.2.2.2.2.2.2.2.2.2.2.2.2.2.2.2,x_1.2.2.2.2.2.2.2.2.2.2.2.2.2.2.2.2.2.2.1,x_1.2.2.2.2.2.2.2.2.2.2.2.2.2.2.2.2.2.1,x_1.2.2.2.2.2.2.2.2.2.2.2.2.2.2.2.2.1,x_1.2.2.2.2.2.2.2.2.2.2.2.2.2.2.2.1,x_1.2.2.2.2.2.2.2.2.2.2.2.2.2.2.1,x_1.2.2.2.2.2.2.2.2.2.2.2.2.2.1,x_1.2.2.2.2.2.2.2.2.2.2.2.2.1].getD ((a3.getD (Int.toNat x_1.1) (Action.mk 0 0)).Kind-1).toNat (0:Int)+x_3.1.Hour-x_1.2.2.2.2.2.2.2.2.2.1 else x_1.2.2.2.2.2.2.2.2.2.2.2.2.2.2.2.1,if(a3.getD (Int.toNat x_1.1) (Action.mk 0 0)).Kind-1=(↑(Nat.succ (0:Nat)).succ.succ:Int)then[x_1.2.2.2.2.2.2.2.2.2.2.2.2.2.2.2.2.2.2.2,x_1.2.2.2.2.2.2.2.2.2.2.2.2.2.2.2.2.2.2.1,x_1.2.2.2.2.2.2.2.2.2.2.2.2.2.2.2.2.2.1,x_1.2.2.2.2.2.2.2.2.2.2.2.2.2.2.2.2.1,x_1.2.2.2.2.2.2.2.2.2.2.2.2.2.2.2.1,x_1.2.2.2.2.2.2.2.2.2.2.2.2.2.2.1,x_1.2.2.2.2.2.2.2.2.2.2.2.2.2.1,x_1.2.2.2.2.2.2.2.2.2.2.2.2.1].getD ((a3.getD (Int.toNat x_1.1) (Action.mk 0 0)).Kind-1).toNat (0:Int)+x_3.1.Hour-x_1.2.2.2.2.2.2.2.2.2.1 else x_1.2.2.2.2.2.2.2.2.2.2.2.2.2.2.2.2.1,if(a3.getD (Int.toNat x_1.1) (Action.mk 0 0)).Kind-1=(↑(Nat.succ (0:Nat)).succ:Int)then[x_1.2.2.2.2.2.2.2.2.2.2.2.2.2.2.2.2.2.2.2,x_1.2.2.2.2.2.2.2.2.2.2.2.2.2.2.2.2.2.2.1,x_1.2.2.2.2.2.2.2.2.2.2.2.2.2.2.2.2.2.1,x_1.2.2.2.2.2.2.2.2.2.2.2.2.2.2.2.2.1,x_1.2.2.2.2.2.2.2.2.2.2.2.2.2.2.2.1,x_1.2.2.2.2.2.2.2.2.2.2.2.2.2.2.1,x_1.2.2.2.2.2.2.2.2.2.2.2.2.2.1,x_1.2.2.2.2.2.2.2.2.2.2.2.2.1].getD ((a3.getD (Int.toNat x_1.1) (Action.mk 0 0)).Kind-1).toNat (0:Int)+x_3.1.Hour-x_1.2.2.2.2.2.2.2.2.2.1 else x_1.2.2.2.2.2.2.2.2.2.2.2.2.2.2.2.2.2.1,if(a3.getD (Int.toNat x_1.1) (Action.mk 0 0)).Kind-1=(↑(Nat.succ (0:Nat)):Int)then[x_1.2.2.2.2.2.2.2.2.2.2.2.2.2.2.2.2.2.2.2,x_1.2.2.2.2.2.2.2.2.2.2.2.2.2.2.2.2.2.2.1,x_1.2.2.2.2.2.2.2.2.2.2.2.2.2.2.2.2.2.1,x_1.2.2.2.2.2.2.2.2.2.2.2.2.2.2.2.2.1,x_1.2.2.2.2.2.2.2.2.2.2.2.2.2.2.2.1,x_1.2.2.2.2.2.2.2.2.2.2.2.2.2.2.1,x_1.2.2.2.2.2.2.2.2.2.2.2.2.2.1,x_1.2.2.2.2.2.2.2.2.2.2.2.2.1].getD ((a3.getD (Int.toNat x_1.1) (Action.mk 0 0)).Kind-1).toNat (0:Int)+x_3.1.Hour-x_1.2.2.2.2.2.2.2.2.2.1 else x_1.2.2.2.2.2.2.2.2.2.2.2.2.2.2.2.2.2.2.1,if(a3.getD (Int.toNat x_1.1) (Action.mk 0 0)).Kind-1=(↑(0:Nat):Int)then[x_1.2.2.2.2.2.2.2.2.2.2.2.2.2.2.2.2.2.2.2,x_1.2.2.2.2.2.2.2.2.2.2.2.2.2.2.2.2.2.2.1,x_1.2.2.2.2.2.2.2.2.2.2.2.2.2.2.2.2.2.1,x_1.2.2.2.2.2.2.2.2.2.2.2.2.2.2.2.2.1,x_1.2.2.2.2.2.2.2.2.2.2.2.2.2.2.2.1,x_1.2.2.2.2.2.2.2.2.2.2.2.2.2.2.1,x_1.2.2.2.2.2.2.2.2.2.2.2.2.2.1,x_1.2.2.2.2.2.2.2.2.2.2.2.2.1].getD ((a3.getD (Int.toNat x_1.1) (Action.mk 0 0)).Kind-1).toNat (0:Int)+x_3.1.Hour-x_1.2.2.2.2.2.2.2.2.2.1 else x_1.2.2.2.2.2.2.2.2.2.2.2.2.2.2.2.2.2.2.2)))) (fun x_4=>chk (0≤x_1.1∧x_1.1<(↑a3.length:Int)) (brk ((a3.getD (Int.toNat x_1.1) (Action.mk 0 0)).Kind==7) (chk (InR (x_1.2.2.2.2.2.2.2.2.2.2.1+x_3.1.Fuel)) (chk (InR (x_1.2.2.2.2.2.2.2.2.2.2.1+x_3.1.Fuel-x_1.2.2.2.2.2.2.2.1)) (x_4 ((x_1.2.2.2.2.2.2.2.2.2.2.1+x_3.1.Fuel-x_1.2.2.2.2.2.2.2.1,x_1.2.2.2.2.2.2.2.2.2.2.2.1))))) (chk (InR (x_1.2.2.2.2.2.2.2.2.2.2.2.1+x_1.2.2.2.2.2.2.2.1)) (chk (InR (x_1.2.2.2.2.2.2.2.2.2.2.2.1+x_1.2.2.2.2.2.2.2.1-x_3.1.Fuel)) (x_4 ((x_1.2.2.2.2.2.2.2.2.2.2.1,x_1.2.2.2.2.2.2.2.2.2.2.2.1+x_1.2.2.2.2.2.2.2.1-x_3.1.Fuel)))))))))))))))) (some (Account.mk (A8ofInt.mk x_1.2.2.2.2.2.2.2.2.2.2.2.2.2.2.2.2.2.2.2 x_1.2.2.2.2.2.2.2.2.2.2.2.2.2.2.2.2.2.2.1 x_1.2.2.2.2.2.2.2.2.2.2.2.2.2.2.2.2.2.1 x_1.2.2.2.2.2.2.2.2.2.2.2.2.2.2.2.2.1 x_1.2.2.2.2.2.2.2.2.2.2.2.2.2.2.2.1 x_1.2.2.2.2.2.2.2.2.2.2.2.2.2.2.1 x_1.2.2.2.2.2.2.2.2.2.2.2.2.2.1 x_1.2.2.2.2.2.2.2.2.2.2.2.2.1) x_1.2.2.2.2.2.2.2.2.2.2.2.1 x_1.2.2.2.2.2.2.2.2.2.2.1,(0:Int)))) F (((0:Int),a2.Cases.a2,a2.Cases.a1,a2.Cases.a0,a2.Notch,a2.Worn,a2.Awake,a2.Fuel,a2.Site,a2.Hour,(0:Int),(0:Int),(0:Int),(0:Int),(0:Int),(0:Int),(0:Int),(0:Int),(0:Int),(0:Int)))))
def s34(F:Nat):CS E.G:=⟨34,[.v 7 true,.v 18 true,.v 13 true,.sl 14],[.v 21 true [],.v 0 false []],fun x=>ref06_Spent F x.1 x.2.1 x.2.2.1 x.2.2.2.1⟩
theorem c34(F:Nat):CSok E [] (s34 F):=mkC (cx:=⟨[s24 F,s74 F],[],F,[],[]⟩) hf34 (by kernel_rfl) rfl (allC (c24 F) (allC (c74 F) all0)) ⟨inl0,all0⟩ (.c .n (.l ⟨[.i,.i,.i,.i,.i,.i,.i,.i,.i,.i,.i,.i,.i,.i,.i,.i,.i,.i,.i,.i],[64,128,96,48,80,208],[4,7,6,3,5,9,2,1,0],[(224,.i IntKind.i64)],[],[(6,8,.i IntKind.i64),(6,7,.i IntKind.i64),(6,6,.i IntKind.i64),(6,5,.i IntKind.i64),(6,4,.i IntKind.i64),(6,3,.i IntKind.i64),(6,2,.i IntKind.i64),(6,1,.i IntKind.i64),(6,0,.i IntKind.i64),(9,9,.i IntKind.i64),(9,8,.i IntKind.i64),(9,7,.i IntKind.i64),(9,6,.i IntKind.i64),(9,5,.i IntKind.i64),(9,4,.i IntKind.i64),(9,3,.i IntKind.i64),(9,2,.i IntKind.i64),(9,1,.i IntKind.i64),(9,0,.i IntKind.i64)],[],10⟩ (.c (.k (.k (.k (.k (.j ⟨[.i,.i],[64,128,96,224,48,80,208,240],[4,7,6,3,5,9,10,2,1,0],[],[],[(9,9,.i IntKind.i64),(9,8,.i IntKind.i64)],[],11⟩ .n .n))))) .n))) rfl (by kernel_rfl)
theorem hf35:HF 35 Tryz.f35:=hK (by kernel_rfl)
def breaker_Verify(F:Nat)(a0:Machine)(a1:Area)(a2:State)(a3:List Action):Option (Int×Int):=
 bnd (breaker_Check F a0 a1) (fun x=>brk (x != 0) (brk (x != 0) (some ((0:Int),x)) none) (loopC (fun(x_1:Int)=>fun x_2=>brk (decide (x_1<(↑[a2].length:Int))) (chk (0≤x_1∧x_1<(↑[a2].length:Int)) (bnd (breaker_works_state F (a0,a1) ([a2].getD (Int.toNat x_1) (State.mk 0 0 0 0 0 0 (A3ofInt.mk 0 0 0)))) (fun x_3=>brk (!x_3) (some ((0:Int),(9:Int))) (chk (InR (x_1+1)) (x_2 (x_1+1)))))) (bnd (breaker_Run F a0 a1 a2 a3) (fun x_3=>brk (x_3.2.2==2) (some ((0:Int),x_3.2.2)) (bnd (brk (!x_3.2.2 != 0) (breaker_works_finished F (a0,a1) x_3.1) (some false)) (fun x_4=>brk (x_3.2.2 != 0|| !x_4) (some ((0:Int),(7:Int))) (some (x_3.1.Hour,(0:Int)))))))) F (0:Int)))
def s35(F:Nat):CS E.G:=⟨35,[.v 7 true,.v 11 true,.v 13 true,.sl 14],[.v 0 false [],.v 0 false []],fun x=>breaker_Verify F x.1 x.2.1 x.2.2.1 x.2.2.2.1⟩
theorem c35(F:Nat):CSok E [] (s35 F):=mkC (cx:=⟨[s10 F,s19 F,s108 F,s109 F,s111 F,s112 F,s113 F,s115 F,s116 F,s119 F,s121 F,s124 F,s125 F,s127 F,s91 F,s50 F],[(48,Tryz.f48),(90,Tryz.f90),(105,Tryz.f105),(106,Tryz.f106),(107,Tryz.f107),(114,Tryz.f114),(117,Tryz.f117),(118,Tryz.f118),(120,Tryz.f120),(122,Tryz.f122),(123,Tryz.f123),(126,Tryz.f126),(128,Tryz.f128),(129,Tryz.f129),(130,Tryz.f130),(131,Tryz.f131),(132,Tryz.f132),(133,Tryz.f133),(134,Tryz.f134)],F,[],[]⟩) hf35 (by kernel_rfl) rfl (allC (c10 F) (allC (c19 F) (allC (c108 F) (allC (c109 F) (allC (c111 F) (allC (c112 F) (allC (c113 F) (allC (c115 F) (allC (c116 F) (allC (c119 F) (allC (c121 F) (allC (c124 F) (allC (c125 F) (allC (c127 F) (allC (c91 F) (allC (c50 F) all0)))))))))))))))) ⟨(inlC hf48 en48 (inlC hf90 en90 (inlC hf105 en105 (inlC hf106 en106 (inlC hf107 en107 (inlC hf114 en114 (inlC hf117 en117 (inlC hf118 en118 (inlC hf120 en120 (inlC hf122 en122 (inlC hf123 en123 (inlC hf126 en126 (inlC hf128 en128 (inlC hf129 en129 (inlC hf130 en130 (inlC hf131 en131 (inlC hf132 en132 (inlC hf133 en133 (inlC hf134 en134 inl0))))))))))))))))))),all0⟩ (.p (.c (.c .n (.u 0 .n)) (.p (.l ⟨[.i],[352,144,336],[0,1,7,2,11,10,9,8],[(368,.i IntKind.i64)],[],[],[],12⟩ (.c .n (.c .n .n)))))) rfl (by kernel_rfl)
theorem hf36:HF 36 Tryz.f36:=hK (by kernel_rfl)
def ref06_Verify(F:Nat)(a0:Machine)(a1:Area2)(a2:State)(a3:List Action):Option (Int×Int):=
 bnd (ref06_begun F a0 a1 a2) (fun x=>brk (x != 0) (some ((0:Int),x)) (bnd (ref06_Run F a0 a1 a2 a3) (fun x_1=>brk (x_1.2.2==2) (some ((0:Int),x_1.2.2)) (bnd (brk (!x_1.2.2 != 0) (ref06_finished F a1 x_1.1) (some false)) (fun x_2=>brk (x_1.2.2 != 0|| !x_2) (some ((0:Int),(7:Int))) (some (x_1.1.Hour,(0:Int))))))))
def s36(F:Nat):CS E.G:=⟨36,[.v 7 true,.v 18 true,.v 13 true,.sl 14],[.v 0 false [],.v 0 false []],fun x=>ref06_Verify F x.1 x.2.1 x.2.2.1 x.2.2.2.1⟩
theorem c36(F:Nat):CSok E [] (s36 F):=mkC (cx:=⟨[s24 F,s73 F,s76 F],[],F,[],[]⟩) hf36 (by kernel_rfl) rfl (allC (c24 F) (allC (c73 F) (allC (c76 F) all0))) ⟨inl0,all0⟩ (.c .n (.c .n .n)) rfl (by kernel_rfl)
theorem hf79:HF 79 Tryz.f79:=hK (by kernel_rfl)
def kit_SameInts(F:Nat)(a0:List Int)(a1:List Int):Option (Bool):=
 brk ((↑a0.length:Int) != (↑a1.length:Int)) (some (false)) (loopC (fun(x:Int)=>fun x_1=>brk (decide (x<(↑a0.length:Int))) (chk (0≤x∧x<(↑a0.length:Int)) (chk (0≤x∧x<(↑a1.length:Int)) (brk (a0.getD (Int.toNat x) 0 != a1.getD (Int.toNat x) 0) (some (false)) (chk (InR (x+1)) (x_1 (x+1)))))) (some (true))) F (0:Int))
def s79(F:Nat):CS E.G:=⟨79,[.sl 0,.sl 0],[.v 1 false []],fun x=>kit_SameInts F x.1 x.2.1⟩
theorem c79(F:Nat):CSok E [] (s79 F):=mkC (cx:=⟨[],[],F,[],[]⟩) hf79 (by kernel_rfl) rfl all0 ⟨inl0,all0⟩ (.c .n (.l ⟨[.i],[0,16],[0,1],[(80,.i IntKind.i64)],[],[],[],2⟩ (.c .n .n))) rfl (by kernel_rfl)
theorem hf103:HF 103 Tryz.f103:=hK (by kernel_rfl)
def kit_SameList(F:Nat)(a0:List Int)(a1:List Int):Option (Bool):=
 bnd (kit_SameInts F a0 a1) (fun x=>some x)
def s103(F:Nat):CS E.G:=⟨103,[.sl 0,.sl 0],[.v 1 false []],fun x=>kit_SameList F x.1 x.2.1⟩
theorem c103(F:Nat):CSok E [] (s103 F):=mkC (cx:=⟨[s79 F],[],F,[],[]⟩) hf103 (by kernel_rfl) rfl (allC (c79 F) all0) ⟨inl0,all0⟩ .n rfl (by kernel_rfl)
theorem hf78:HF 78 Tryz.f78:=hK (by kernel_rfl)
def kit_SameLists(F:Nat)(a0:List (List Int))(a1:List (List Int)):Option (Bool):=
 brk ((↑a0.length:Int) != (↑a1.length:Int)) (some (false)) (loopC (fun(x:Int)=>fun x_1=>brk (decide (x<(↑a0.length:Int))) (chk (0≤x∧x<(↑a0.length:Int)) (chk (0≤x∧x<(↑a1.length:Int)) (bnd (kit_SameList F (a0.getD (Int.toNat x) []) (a1.getD (Int.toNat x) [])) (fun x_2=>brk (!x_2) (some (false)) (chk (InR (x+1)) (x_1 (x+1))))))) (some (true))) F (0:Int))
def s78(F:Nat):CS E.G:=⟨78,[.sl 6,.sl 6],[.v 1 false []],fun x=>kit_SameLists F x.1 x.2.1⟩
theorem c78(F:Nat):CSok E [] (s78 F):=mkC (cx:=⟨[s103 F],[],F,[],[]⟩) hf78 (by kernel_rfl) rfl (allC (c103 F) all0) ⟨inl0,all0⟩ (.c .n (.l ⟨[.i],[0,16],[0,1],[(80,.i IntKind.i64)],[],[],[],2⟩ (.c .n .n))) rfl (by kernel_rfl)
theorem hf80:HF 80 Tryz.f80:=hK (by kernel_rfl)
def slices_Equal_breaker_Case(F:Nat)(a0:List Case)(a1:List Case):Option (Bool):=
 brk ((↑a0.length:Int) != (↑a1.length:Int)) (some (false)) (loopC (fun(x:Int)=>fun x_1=>brk (decide (x<(↑a0.length:Int))) (chk (0≤x∧x<(↑a0.length:Int)) (chk (0≤x∧x<(↑a1.length:Int)) (brk (!((a0.getD (Int.toNat x) (Case.mk 0 0 0 0 false)).Site==(a1.getD (Int.toNat x) (Case.mk 0 0 0 0 false)).Site&&((a0.getD (Int.toNat x) (Case.mk 0 0 0 0 false)).To==(a1.getD (Int.toNat x) (Case.mk 0 0 0 0 false)).To&&((a0.getD (Int.toNat x) (Case.mk 0 0 0 0 false)).Cut==(a1.getD (Int.toNat x) (Case.mk 0 0 0 0 false)).Cut&&((a0.getD (Int.toNat x) (Case.mk 0 0 0 0 false)).Calm==(a1.getD (Int.toNat x) (Case.mk 0 0 0 0 false)).Calm&&((a0.getD (Int.toNat x) (Case.mk 0 0 0 0 false)).Towed==(a1.getD (Int.toNat x) (Case.mk 0 0 0 0 false)).Towed&&true)))))) (some (false)) (chk (InR (x+1)) (x_1 (x+1)))))) (some (true))) F (0:Int))
def s80(F:Nat):CS E.G:=⟨80,[.sl 9,.sl 9],[.v 1 false []],fun x=>slices_Equal_breaker_Case F x.1 x.2.1⟩
theorem c80(F:Nat):CSok E [] (s80 F):=mkC (cx:=⟨[],[],F,[],[]⟩) hf80 (by kernel_rfl) rfl all0 ⟨inl0,all0⟩ (.c .n (.l ⟨[.i],[0,16,192],[0,1],[(208,.i IntKind.i64)],[],[],[],2⟩ (.c .n .n))) rfl (by kernel_rfl)
theorem hf37:HF 37 Tryz.f37:=hK (by kernel_rfl)
def law06_sameArea(F:Nat)(a0:Area)(a1:Area):Option (Bool):=
 bnd (kit_SameLists F a0.Hours a1.Hours) (fun x=>bnd (brk x (kit_SameInts F a0.Press a1.Press) (some false)) (fun x_1=>bnd (brk (x&&x_1) (slices_Equal_breaker_Case F a0.Cases a1.Cases) (some false)) (fun x_2=>some (x&&x_1&&x_2&&a0.Limit==a1.Limit))))
def s37(F:Nat):CS E.G:=⟨37,[.v 11 true,.v 11 true],[.v 1 false []],fun x=>law06_sameArea F x.1 x.2.1⟩
theorem c37(F:Nat):CSok E [] (s37 F):=mkC (cx:=⟨[s78 F,s79 F,s80 F],[],F,[],[]⟩) hf37 (by kernel_rfl) rfl (allC (c78 F) (allC (c79 F) (allC (c80 F) all0))) ⟨inl0,all0⟩ .n rfl (by kernel_rfl)
theorem hf38:HF 38 Tryz.f38:=hK (by kernel_rfl)
def slices_Equal_breaker_Action(F:Nat)(a0:List Action)(a1:List Action):Option (Bool):=
 brk ((↑a0.length:Int) != (↑a1.length:Int)) (some (false)) (loopC (fun(x:Int)=>fun x_1=>brk (decide (x<(↑a0.length:Int))) (chk (0≤x∧x<(↑a0.length:Int)) (chk (0≤x∧x<(↑a1.length:Int)) (brk (!((a0.getD (Int.toNat x) (Action.mk 0 0)).Kind==(a1.getD (Int.toNat x) (Action.mk 0 0)).Kind&&((a0.getD (Int.toNat x) (Action.mk 0 0)).N==(a1.getD (Int.toNat x) (Action.mk 0 0)).N&&true))) (some (false)) (chk (InR (x+1)) (x_1 (x+1)))))) (some (true))) F (0:Int))
def s38(F:Nat):CS E.G:=⟨38,[.sl 14,.sl 14],[.v 1 false []],fun x=>slices_Equal_breaker_Action F x.1 x.2.1⟩
theorem c38(F:Nat):CSok E [] (s38 F):=mkC (cx:=⟨[],[],F,[],[]⟩) hf38 (by kernel_rfl) rfl all0 ⟨inl0,all0⟩ (.c .n (.l ⟨[.i],[0,16,192],[0,1],[(208,.i IntKind.i64)],[],[],[],2⟩ (.c .n .n))) rfl (by kernel_rfl)
theorem hf5:HF 5 Tryz.f5:=hK (by kernel_rfl)
def law06_acts(F:Nat)(a0:Machine)(a1:Area)(a2:State)(a3:State)(a4:Action)(a5:List Action):Option (Bool):=
 bnd (law06_heavy F a1) (fun x=>brk (x||decide ((↑a5.length:Int)>40)&&decide ((↑a5.length:Int)≤(100:Int))||decide ((↑a5.length:Int)>120)) (some (true)) (bnd (law06_CopyArea F a1) (fun x_1=>bnd (slices_Clone_breaker_Action F a5) (fun x_2=>bnd (law06_Area F a1) (fun x_3=>bnd (breaker_Check F a0 x_1) (fun x_4=>bnd (ref06_Check F a0 x_3) (fun x_5=>brk (x_4 != x_5) (some (false)) (bnd (breaker_Begin F a0 x_1) (fun x_6=>bnd (ref06_Begin F a0 x_3) (fun x_7=>brk (!(x_6.1.Hour==x_7.1.Hour&&(x_6.1.Site==x_7.1.Site&&(x_6.1.Fuel==x_7.1.Fuel&&(x_6.1.Awake==x_7.1.Awake&&(x_6.1.Worn==x_7.1.Worn&&(x_6.1.Notch==x_7.1.Notch&&(x_6.1.Cases.a0==x_7.1.Cases.a0&&(x_6.1.Cases.a1==x_7.1.Cases.a1&&(x_6.1.Cases.a2==x_7.1.Cases.a2&&true))&&true)))))))||x_6.2 != x_7.2) (some (false)) (bnd (breaker_Do F a0 x_1 a2 a4) (fun x_8=>bnd (ref06_Do F a0 x_3 a2 a4) (fun x_9=>brk (!(x_8.1.Hour==x_9.1.Hour&&(x_8.1.Site==x_9.1.Site&&(x_8.1.Fuel==x_9.1.Fuel&&(x_8.1.Awake==x_9.1.Awake&&(x_8.1.Worn==x_9.1.Worn&&(x_8.1.Notch==x_9.1.Notch&&(x_8.1.Cases.a0==x_9.1.Cases.a0&&(x_8.1.Cases.a1==x_9.1.Cases.a1&&(x_8.1.Cases.a2==x_9.1.Cases.a2&&true))&&true)))))))||x_8.2 != x_9.2) (some (false)) (bnd (breaker_Run F a0 x_1 a2 x_2) (fun x_10=>bnd (law06_actions F a5) (fun x_11=>bnd (ref06_Run F a0 x_3 a2 x_11) (fun x_12=>brk (!(x_10.1.Hour==x_12.1.Hour&&(x_10.1.Site==x_12.1.Site&&(x_10.1.Fuel==x_12.1.Fuel&&(x_10.1.Awake==x_12.1.Awake&&(x_10.1.Worn==x_12.1.Worn&&(x_10.1.Notch==x_12.1.Notch&&(x_10.1.Cases.a0==x_12.1.Cases.a0&&(x_10.1.Cases.a1==x_12.1.Cases.a1&&(x_10.1.Cases.a2==x_12.1.Cases.a2&&true))&&true)))))))||x_10.2.1 != x_12.2.1||x_10.2.2 != x_12.2.2) (some (false)) (bnd (breaker_Can F a0 x_1 a2) (fun x_13=>bnd (ref06_Can F a0 x_3 a2) (fun x_14=>bnd (law06_actions F x_13.1) (fun x_15=>bnd (slices_Equal_polynyaref06_Action F x_15 x_14.1) (fun x_16=>brk (!x_16||x_13.2 != x_14.2) (some (false)) (bnd (breaker_Done F a0 x_1 a2) (fun x_17=>bnd (ref06_Done F a0 x_3 a2) (fun x_18=>brk (!x_17.1==x_18.1||x_17.2 != x_18.2) (some (false)) (bnd (breaker_Covers F a0 x_1 a2 a3) (fun x_19=>bnd (ref06_Covers F a0 x_3 a2 a3) (fun x_20=>brk (!x_19.1==x_20.1||x_19.2 != x_20.2) (some (false)) (bnd (breaker_Spent F a0 x_1 a2 x_2) (fun x_21=>bnd (law06_actions F a5) (fun x_22=>bnd (ref06_Spent F a0 x_3 a2 x_22) (fun x_23=>brk (!(x_21.1.Hours.a0==x_23.1.Hours.a0&&(x_21.1.Hours.a1==x_23.1.Hours.a1&&(x_21.1.Hours.a2==x_23.1.Hours.a2&&(x_21.1.Hours.a3==x_23.1.Hours.a3&&(x_21.1.Hours.a4==x_23.1.Hours.a4&&(x_21.1.Hours.a5==x_23.1.Hours.a5&&(x_21.1.Hours.a6==x_23.1.Hours.a6&&(x_21.1.Hours.a7==x_23.1.Hours.a7&&true)))))))&&(x_21.1.Burnt==x_23.1.Burnt&&(x_21.1.Taken==x_23.1.Taken&&true)))||x_21.2 != x_23.2) (some (false)) (bnd (breaker_Verify F a0 x_1 a2 x_2) (fun x_24=>bnd (law06_actions F a5) (fun x_25=>bnd (ref06_Verify F a0 x_3 a2 x_25) (fun x_26=>bnd (brk (x_24.1==x_26.1&&x_24.2==x_26.2) (law06_sameArea F a1 x_1) (some false)) (fun x_27=>bnd (brk (x_24.1==x_26.1&&x_24.2==x_26.2&&x_27) (slices_Equal_breaker_Action F x_2 a5) (some false)) (fun x_28=>some (x_24.1==x_26.1&&x_24.2==x_26.2&&x_27&&x_28)))))))))))))))))))))))))))))))))))))))
def s5(F:Nat):CS E.G:=⟨5,[.v 7 true,.v 11 true,.v 13 true,.v 13 true,.v 14 true,.sl 14],[.v 1 false []],fun x=>law06_acts F x.1 x.2.1 x.2.2.1 x.2.2.2.1 x.2.2.2.2.1 x.2.2.2.2.2.1⟩
theorem c5(F:Nat):CSok E [] (s5 F):=mkC (cx:=⟨[s9 F,s10 F,s15 F,s16 F,s17 F,s18 F,s19 F,s20 F,s21 F,s22 F,s23 F,s24 F,s25 F,s26 F,s27 F,s28 F,s29 F,s30 F,s31 F,s32 F,s33 F,s34 F,s35 F,s36 F,s37 F,s38 F],[],F,[],[]⟩) hf5 (by kernel_rfl) rfl (allC (c9 F) (allC (c10 F) (allC (c15 F) (allC (c16 F) (allC (c17 F) (allC (c18 F) (allC (c19 F) (allC (c20 F) (allC (c21 F) (allC (c22 F) (allC (c23 F) (allC (c24 F) (allC (c25 F) (allC (c26 F) (allC (c27 F) (allC (c28 F) (allC (c29 F) (allC (c30 F) (allC (c31 F) (allC (c32 F) (allC (c33 F) (allC (c34 F) (allC (c35 F) (allC (c36 F) (allC (c37 F) (allC (c38 F) all0)))))))))))))))))))))))))) ⟨inl0,all0⟩ (.c .n (.c .n (.c .n (.c .n (.c .n (.c .n (.c .n (.c .n .n)))))))) rfl (by kernel_rfl)
theorem hf92:HF 92 Tryz.f92:=hK (by kernel_rfl)
theorem en92:Proofs.Enters Tryz.prog 92:=mkE hf92 (by kernel_rfl) rfl
theorem hf53:HF 53 Tryz.f53:=hK (by kernel_rfl)
theorem en53:Proofs.Enters Tryz.prog 53:=mkE hf53 (by kernel_rfl) rfl
theorem hf54:HF 54 Tryz.f54:=hK (by kernel_rfl)
theorem en54:Proofs.Enters Tryz.prog 54:=mkE hf54 (by kernel_rfl) rfl
theorem hf52:HF 52 Tryz.f52:=hK (by kernel_rfl)
theorem en52:Proofs.Enters Tryz.prog 52:=mkE hf52 (by kernel_rfl) rfl
theorem hf12:HF 12 Tryz.f12:=hK (by kernel_rfl)
def breaker_Proves(F:Nat)(a0:Machine)(a1:Area)(a2:State)(a3:List State):Option (Bool×Int):=
 bnd (breaker_Check F a0 a1) (fun x=>brk (x != 0) (brk (x==0&&decide ((↑a3.length:Int)>30000)) (some (false,(8:Int))) (brk (x==0) none (brk (x != 0) (some (false,x)) none))) (loopC (fun(x_1:Int)=>fun x_2=>brk (decide (x_1<(↑[a2].length:Int))) (chk (0≤x_1∧x_1<(↑[a2].length:Int)) (bnd (breaker_works_state F (a0,a1) ([a2].getD (Int.toNat x_1) (State.mk 0 0 0 0 0 0 (A3ofInt.mk 0 0 0)))) (fun x_3=>brk (!x_3) (some (false,(9:Int))) (chk (InR (x_1+1)) (x_2 (x_1+1)))))) (join F (fun(x_3:Int)=>join F (fun(x_4:Int)=>brk (x_4 != 0) (some (false,x_4)) (loopC (fun(x_5:Int×List (Key×List State))=>fun x_6=>brk (decide (x_5.1<(↑a3.length:Int))) (chk (0≤x_5.1∧x_5.1<(↑a3.length:Int)) (bnd (breaker_works_finished F (a0,a1) (a3.getD (Int.toNat x_5.1) (State.mk 0 0 0 0 0 0 (A3ofInt.mk 0 0 0)))) (fun x_7=>brk x_7 (some (false,(0:Int))) (bnd (breaker_State_key F (a3.getD (Int.toNat x_5.1) (State.mk 0 0 0 0 0 0 (A3ofInt.mk 0 0 0)))) (fun x_8=>bnd (breaker_State_key F (a3.getD (Int.toNat x_5.1) (State.mk 0 0 0 0 0 0 (A3ofInt.mk 0 0 0)))) (fun x_9=>chk ((getK x_5.2 x_9).length+[a3.getD (Int.toNat x_5.1) (State.mk 0 0 0 0 0 0 (A3ofInt.mk 0 0 0))].length≤(20000000000:Nat)) (chk (x_9=x_8) (chk (InR (x_5.1+1)) (x_6 ((x_5.1+1,setK x_5.2 x_8 (getK x_5.2 x_9++[a3.getD (Int.toNat x_5.1) (State.mk 0 0 0 0 0 0 (A3ofInt.mk 0 0 0))])))))))))))) (bnd (breaker_State_key F a2) (fun x_7=>join F (fun(x_8:Int)=>brk (!decide (x_8≥0)) (some (false,(0:Int))) (loopC (fun(x_9:Int×List (Key×List State))=>fun x_10=>brk (decide (x_9.1<(↑a3.length:Int))) (chk (0≤x_9.1∧x_9.1<(↑a3.length:Int)) (loopC (fun(x_11:Int×List (Key×List State))=>fun x_12=>brk (decide (x_11.1≤8)) (loopC (fun(x_13:Int×List (Key×List State))=>fun x_14=>brk (decide (x_13.1<4)) (bnd (breaker_works_do F (a0,a1) (a3.getD (Int.toNat x_9.1) (State.mk 0 0 0 0 0 0 (A3ofInt.mk 0 0 0))) (Action.mk x_11.1 x_13.1)) (fun x_15=>brk (x_15.2==0) (bnd (breaker_State_key F x_15.1) (fun x_16=>join F (fun(x_17:Int)=>brk (!decide (x_17≥0)) (some (false,(0:Int))) (chk (InR (x_13.1+1)) (x_14 ((x_13.1+1,updK x_13.2 x_16 (getK x_13.2 x_16)))))) (fun x_17=>loopC (fun(x_18:Int)=>fun x_19=>brk (decide (x_18<(↑(getK x_13.2 x_16).length:Int))) (chk (0≤x_18∧x_18<(↑(getK x_13.2 x_16).length:Int)) (bnd (breaker_State_covers F ((getK x_13.2 x_16).getD (Int.toNat x_18) (State.mk 0 0 0 0 0 0 (A3ofInt.mk 0 0 0))) x_15.1) (fun x_20=>brk x_20 (x_17 x_18) (chk (InR (x_18+1)) (x_19 (x_18+1)))))) (x_17 (-1:Int))) F (0:Int)))) (chk (InR (x_13.1+1)) (x_14 ((x_13.1+1,x_13.2)))))) (chk (InR (x_11.1+1)) (x_12 ((x_11.1+1,x_13.2))))) F (((0:Int),x_11.2))) (chk (InR (x_9.1+1)) (x_10 ((x_9.1+1,x_11.2))))) F (((1:Int),x_9.2)))) (some (true,(0:Int)))) F (((0:Int),updK x_5.2 x_7 (getK x_5.2 x_7))))) (fun x_8=>loopC (fun(x_9:Int)=>fun x_10=>brk (decide (x_9<(↑(getK x_5.2 x_7).length:Int))) (chk (0≤x_9∧x_9<(↑(getK x_5.2 x_7).length:Int)) (bnd (breaker_State_covers F ((getK x_5.2 x_7).getD (Int.toNat x_9) (State.mk 0 0 0 0 0 0 (A3ofInt.mk 0 0 0))) a2) (fun x_11=>brk x_11 (x_8 x_9) (chk (InR (x_9+1)) (x_10 (x_9+1)))))) (x_8 (-1:Int))) F (0:Int))))) F (((0:Int),[])))) (fun x_4=>brk (x_3==0) (bnd (breaker_Check F a0 a1) (fun x_5=>brk (x_5 != 0) (x_4 x_5) (loopC (fun(x_6:Int)=>fun x_7=>brk (decide (x_6<(↑a3.length:Int))) (chk (0≤x_6∧x_6<(↑a3.length:Int)) (bnd (breaker_works_state F (a0,a1) (a3.getD (Int.toNat x_6) (State.mk 0 0 0 0 0 0 (A3ofInt.mk 0 0 0)))) (fun x_8=>brk (!x_8) (x_4 (9:Int)) (chk (InR (x_6+1)) (x_7 (x_6+1)))))) (x_4 (0:Int))) F (0:Int)))) (x_4 x_3))) (fun x_3=>brk (decide ((↑a3.length:Int)>30000)) (x_3 (8:Int)) (x_3 (0:Int))))) F (0:Int)))
def s12(F:Nat):CS E.G:=⟨12,[.v 7 true,.v 11 true,.v 13 true,.sl 13],[.v 1 false [],.v 0 false []],fun x=>breaker_Proves F x.1 x.2.1 x.2.2.1 x.2.2.2.1⟩
theorem c12(F:Nat):CSok E [] (s12 F):=mkC (cx:=⟨[s19 F,s108 F,s109 F,s111 F,s112 F,s113 F,s115 F,s116 F,s119 F,s121 F,s124 F,s125 F,s127 F,s91 F,s50 F,s51 F,s55 F,s49 F],[(48,Tryz.f48),(90,Tryz.f90),(105,Tryz.f105),(106,Tryz.f106),(107,Tryz.f107),(114,Tryz.f114),(117,Tryz.f117),(118,Tryz.f118),(120,Tryz.f120),(122,Tryz.f122),(123,Tryz.f123),(126,Tryz.f126),(128,Tryz.f128),(129,Tryz.f129),(130,Tryz.f130),(131,Tryz.f131),(132,Tryz.f132),(133,Tryz.f133),(134,Tryz.f134),(52,Tryz.f52),(53,Tryz.f53),(92,Tryz.f92),(54,Tryz.f54),(56,Tryz.f56),(93,Tryz.f93)],F,[(8,0)],[]⟩) hf12 (by kernel_rfl) rfl (allC (c19 F) (allC (c108 F) (allC (c109 F) (allC (c111 F) (allC (c112 F) (allC (c113 F) (allC (c115 F) (allC (c116 F) (allC (c119 F) (allC (c121 F) (allC (c124 F) (allC (c125 F) (allC (c127 F) (allC (c91 F) (allC (c50 F) (allC (c51 F) (allC (c55 F) (allC (c49 F) all0)))))))))))))))))) ⟨(inlC hf48 en48 (inlC hf90 en90 (inlC hf105 en105 (inlC hf106 en106 (inlC hf107 en107 (inlC hf114 en114 (inlC hf117 en117 (inlC hf118 en118 (inlC hf120 en120 (inlC hf122 en122 (inlC hf123 en123 (inlC hf126 en126 (inlC hf128 en128 (inlC hf129 en129 (inlC hf130 en130 (inlC hf131 en131 (inlC hf132 en132 (inlC hf133 en133 (inlC hf134 en134 (inlC hf52 en52 (inlC hf53 en53 (inlC hf92 en92 (inlC hf54 en54 (inlC hf56 en56 (inlC hf93 en93 inl0))))))))))))))))))))))))),all0⟩ (.p (.c (.c .n (.c (.u 0 .n) (.c .n (.u 0 .n)))) (.p (.l ⟨[.i],[352,144,336],[0,1,9,2,13,12,11,10],[(368,.i IntKind.i64)],[],[],[],14⟩ (.c .n (.k (.j ⟨[.i],[64,128,96,160,48,80,144],[4,7,6,13,3,5,8,12,11,10,2,1,0],[(176,.i IntKind.i64)],[],[],[],14⟩ .n (.j ⟨[.i],[128,96,160,48,144],[7,6,13,3,8,12,11,10,2,1,0],[(176,.i IntKind.i64)],[],[],[],14⟩ (.c (.p (.c .n (.p (.l ⟨[.i],[352,144,336],[0,1,3,2,17,16,15,14],[(368,.i IntKind.i64)],[],[],[],18⟩ (.c .n .n))))) .n) (.c .n (.l ⟨[.i,.dm 23 13 35],[128,768,192,96,160,48,144,784],[7,3,16,6,13,8,14,12,11,10,2,1,0],[(800,.i IntKind.i64)],[],[],[(14,17,0)],18⟩ (.c .n (.p (.p (.w ⟨[.i],[],[19,20],[(0,.i IntKind.i64)],[],[],[],22⟩ (.l ⟨[.i],[0,16,112],[19,20],[(128,.i IntKind.i64)],[],[],[],22⟩ (.c (.p .n) .n)) (.c .n (.l ⟨[.i,.dm 23 13 35],[128,160,1184,144,1168,240],[7,13,8,3,18,12,11,10,16,2,1,0,14],[(1200,.i IntKind.i64)],[],[],[(14,23,0)],24⟩ (.c (.p (.l ⟨[.i,.dm 23 13 35],[0,16,32],[0,1,3,7,11,25,13,2,8,16,24,12,10,18,26,14,27],[(64,.i IntKind.i64)],[],[],[(14,28,0)],29⟩ (.c (.l ⟨[.i,.dm 23 13 35],[0,16,32,64],[0,1,3,7,11,25,13,2,8,16,24,12,10,18,26,14,27],[(208,.i IntKind.i64)],[],[],[(14,29,0)],30⟩ (.c (.s (.p (.p (.p (.w ⟨[.i],[],[33,34],[(0,.i IntKind.i64)],[],[],[],36⟩ (.l ⟨[.i],[0,16,112],[33,34],[(128,.i IntKind.i64)],[],[],[],36⟩ (.c (.p .n) .n)) .n)))) .n) .n)) .n))) .n))))))))))))))))) rfl (by kernel_rfl)
theorem hf135:HF 135 Tryz.f135:=hK (by kernel_rfl)
theorem en135:Proofs.Enters Tryz.prog 135:=mkE hf135 (by kernel_rfl) rfl
theorem hf95:HF 95 Tryz.f95:=hK (by kernel_rfl)
theorem en95:Proofs.Enters Tryz.prog 95:=mkE hf95 (by kernel_rfl) rfl
theorem hf96:HF 96 Tryz.f96:=hK (by kernel_rfl)
theorem en96:Proofs.Enters Tryz.prog 96:=mkE hf96 (by kernel_rfl) rfl
theorem hf94:HF 94 Tryz.f94:=hK (by kernel_rfl)
theorem en94:Proofs.Enters Tryz.prog 94:=mkE hf94 (by kernel_rfl) rfl
theorem hf57:HF 57 Tryz.f57:=hK (by kernel_rfl)
theorem en57:Proofs.Enters Tryz.prog 57:=mkE hf57 (by kernel_rfl) rfl
theorem hf58:HF 58 Tryz.f58:=hK (by kernel_rfl)
def breaker_Front_1(F:Nat)(a0:State):Option (Bool):=
 some (false)
def s58(F:Nat):CS E.G:=⟨58,[.v 13 true],[.v 1 false []],fun x=>breaker_Front_1 F x.1⟩
theorem c58(F:Nat):CSok E [] (s58 F):=mkC (cx:=⟨[],[],F,[],[]⟩) hf58 (by kernel_rfl) rfl all0 ⟨inl0,all0⟩ .n rfl (by kernel_rfl)
theorem hf13:HF 13 Tryz.f13:=hK (by kernel_rfl)
def breaker_Front(F:Nat)(a0:Machine)(a1:Area)(a2:State):Option ((List State)×Int):=
 bnd (breaker_Check F a0 a1) (fun x=>brk (x != 0) (brk (x != 0) (some ([],x)) none) (loopC (fun(x_1:Int)=>fun x_2=>brk (decide (x_1<(↑[a2].length:Int))) (chk (0≤x_1∧x_1<(↑[a2].length:Int)) (bnd (breaker_works_state F (a0,a1) ([a2].getD (Int.toNat x_1) (State.mk 0 0 0 0 0 0 (A3ofInt.mk 0 0 0)))) (fun x_3=>brk (!x_3) (some ([],(9:Int))) (chk (InR (x_1+1)) (x_2 (x_1+1)))))) (chk (InR (a1.Limit+1)) (chk (0≤a1.Limit+1∧a1.Limit+1≤a1.Limit+1∧a1.Limit+1≤(100000:Int)) (bnd (breaker_State_key F a2) (fun x_3=>loopC (fun(x_4:Int)=>fun x_5=>brk (decide (x_4<(↑(getK ([]:List (Key×List Int)) x_3).length:Int))) (chk (0≤x_4∧x_4<(↑(getK ([]:List (Key×List Int)) x_3).length:Int)) none) (chk (x_3=x_3) (loopC (fun(x_6:Int)=>fun x_7=>brk (decide (x_6<(↑(getK ([]:List (Key×List Int)) x_3).length:Int))) (chk (0≤x_6∧x_6<(↑(getK ([]:List (Key×List Int)) x_3).length:Int)) none) (chk (x_3=x_3) (chk ((getK (setK ([]:List (Key×List Int)) x_3 (getK ([]:List (Key×List Int)) x_3)) x_3).length+[(↑(0:Nat):Int)].length≤(20000000000:Nat)) (chk (x_3=x_3) (chk (0≤a2.Hour∧a2.Hour<(↑(a1.Limit+1).toNat:Int)) (chk (List.length ((List.replicate (a1.Limit+1).toNat ([]:List Int)).getD a2.Hour.toNat ([]:List Int))+[(↑(0:Nat):Int)].length≤(20000000000:Nat)) (chk (0≤a2.Hour∧a2.Hour<(↑(a1.Limit+1).toNat:Int)) (chk (a2.Hour=a2.Hour) (chk ([Node.mk a2 (Action.mk 0 0) (-1:Int) true].length≤(20000000000:Nat)) (join F (fun(x_8:Int×List Node)=>loopC (fun(x_9:List State×Int)=>fun x_10=>brk (decide (x_9.2<(↑(List.length x_8.2):Int))) (join F (fun(x_11:List State)=>chk (InR (x_9.2+1)) (x_10 ((x_11,x_9.2+1)))) (fun x_11=>chk (0≤x_9.2∧x_9.2<(↑(List.length x_8.2):Int)) (brk ((List.getD x_8.2 (Int.toNat x_9.2) (Node.mk (State.mk 0 0 0 0 0 0 (A3ofInt.mk 0 0 0)) (Action.mk 0 0) (0:Int) false)).f_live) (chk (List.length x_9.1+[(List.getD x_8.2 (Int.toNat x_9.2) (Node.mk (State.mk 0 0 0 0 0 0 (A3ofInt.mk 0 0 0)) (Action.mk 0 0) (0:Int) false)).f_at].length≤(20000000000:Nat)) (x_11 (x_9.1++[(List.getD x_8.2 (Int.toNat x_9.2) (Node.mk (State.mk 0 0 0 0 0 0 (A3ofInt.mk 0 0 0)) (Action.mk 0 0) (0:Int) false)).f_at]))) (x_11 x_9.1)))) (brk (decide ((↑(List.length x_9.1):Int)>30000)) (some ([],(8:Int))) (bnd (sortStates F x_9.1) (fun x_11=>some (x_11,(0:Int)))))) F (([],(0:Int)))) (fun x_8=>loopC (fun(x_9:Int×Int×List Node×List (List Int)×List (Key×List Int))=>fun x_10=>brk (decide (x_9.2.1≤a1.Limit)) (chk (0≤x_9.2.1∧x_9.2.1<(↑(a1.Limit+1).toNat:Int)) (loopC (fun(x_11:Int×List Node×(List (List Int)×Int)×List (Key×List Int))=>fun x_12=>brk (decide (x_11.1<(↑(List.length (List.getD x_9.2.2.2.1 (Int.toNat x_9.2.1) [])):Int))) (join F (fun(x_13:List Node×(List (List Int)×Int)×List (Key×List Int))=>chk (InR (x_11.1+1)) (x_12 ((x_11.1+1,x_13)))) (fun x_13=>chk (0≤x_11.1∧x_11.1<(↑(List.length (List.getD x_9.2.2.2.1 (Int.toNat x_9.2.1) [])):Int)) (chk ((0:Int)≤List.getD (List.getD x_9.2.2.2.1 (Int.toNat x_9.2.1) []) (Int.toNat x_11.1) (0:Int)∧List.getD (List.getD x_9.2.2.2.1 (Int.toNat x_9.2.1) []) (Int.toNat x_11.1) (0:Int)<(↑(List.length x_11.2.1):Int)) (brk (!(List.getD x_11.2.1 (Int.toNat (List.getD (List.getD x_9.2.2.2.1 (Int.toNat x_9.2.1) []) (Int.toNat x_11.1) (0:Int))) (Node.mk (State.mk 0 0 0 0 0 0 (A3ofInt.mk 0 0 0)) (Action.mk 0 0) (0:Int) false)).f_live) (x_13 x_11.2) (chk ((0:Int)≤List.getD (List.getD x_9.2.2.2.1 (Int.toNat x_9.2.1) []) (Int.toNat x_11.1) (0:Int)∧List.getD (List.getD x_9.2.2.2.1 (Int.toNat x_9.2.1) []) (Int.toNat x_11.1) (0:Int)<(↑(List.length x_11.2.1):Int)) (bnd (breaker_Front_1 F (List.getD x_11.2.1 (Int.toNat (List.getD (List.getD x_9.2.2.2.1 (Int.toNat x_9.2.1) []) (Int.toNat x_11.1) (0:Int))) (Node.mk (State.mk 0 0 0 0 0 0 (A3ofInt.mk 0 0 0)) (Action.mk 0 0) (0:Int) false)).f_at) (fun x_14=>brk x_14 (x_8 ((List.getD (List.getD x_9.2.2.2.1 (Int.toNat x_9.2.1) []) (Int.toNat x_11.1) (0:Int),x_11.2.1))) (chk ((0:Int)≤List.getD (List.getD x_9.2.2.2.1 (Int.toNat x_9.2.1) []) (Int.toNat x_11.1) (0:Int)∧List.getD (List.getD x_9.2.2.2.1 (Int.toNat x_9.2.1) []) (Int.toNat x_11.1) (0:Int)<(↑(List.length x_11.2.1):Int)) (loopC (fun(x_15:Int×List Node×(List (List Int)×Int)×List (Key×List Int))=>fun x_16=>brk (decide (x_15.1≤8)) (loopC (fun(x_17:Int×List Node×(List (List Int)×Int)×List (Key×List Int))=>fun x_18=>brk (decide (x_17.1<4)) (bnd (breaker_works_do F (a0,a1) (List.getD x_11.2.1 (Int.toNat (List.getD (List.getD x_9.2.2.2.1 (Int.toNat x_9.2.1) []) (Int.toNat x_11.1) (0:Int))) (Node.mk (State.mk 0 0 0 0 0 0 (A3ofInt.mk 0 0 0)) (Action.mk 0 0) (0:Int) false)).f_at (Action.mk x_15.1 x_17.1)) (fun x_19=>brk (x_19.2==0) (join F (fun(x_20:List Node×(List (List Int)×Int)×List (Key×List Int))=>chk (InR (x_17.1+1)) (x_18 ((x_17.1+1,x_20)))) (fun x_20=>bnd (breaker_State_key F x_19.1) (fun x_21=>loopC (fun(x_22:Int)=>fun x_23=>brk (decide (x_22<(↑(getK x_17.2.2.2 x_21).length:Int))) (chk (0≤x_22∧x_22<(↑(getK x_17.2.2.2 x_21).length:Int)) (chk (0≤(getK x_17.2.2.2 x_21).getD (Int.toNat x_22) 0∧(getK x_17.2.2.2 x_21).getD (Int.toNat x_22) 0<(↑(List.length x_17.2.1):Int)) (bnd (breaker_State_covers F (List.getD x_17.2.1 (Int.toNat ((getK x_17.2.2.2 x_21).getD (Int.toNat x_22) 0)) (Node.mk (State.mk 0 0 0 0 0 0 (A3ofInt.mk 0 0 0)) (Action.mk 0 0) (0:Int) false)).f_at x_19.1) (fun x_24=>brk x_24 (x_20 ((x_17.2.1,x_17.2.2.1,updK x_17.2.2.2 x_21 (getK x_17.2.2.2 x_21)))) (chk (InR (x_22+1)) (x_23 (x_22+1))))))) (chk (x_21=x_21) (join F (fun(x_24:List Int×List Node)=>chk (x_21=x_21) (chk ((getK (setK x_17.2.2.2 x_21 x_24.1) x_21).length+[(↑(List.length x_24.2):Int)].length≤(20000000000:Nat)) (chk (x_21=x_21) (chk (0≤x_19.1.Hour∧x_19.1.Hour<(↑(a1.Limit+1).toNat:Int)) (chk (0≤x_17.2.2.1.2∧x_19.1.Hour≠x_17.2.2.1.2) (chk (List.length (x_17.2.2.1.1.getD x_19.1.Hour.toNat ([]:List Int))+[(↑(List.length x_24.2):Int)].length≤(20000000000:Nat)) (chk (0≤x_19.1.Hour∧x_19.1.Hour<(↑(a1.Limit+1).toNat:Int)) (chk (x_19.1.Hour=x_19.1.Hour) (chk (List.length x_24.2+[Node.mk x_19.1 (Action.mk x_15.1 x_17.1) (List.getD (List.getD x_9.2.2.2.1 (Int.toNat x_9.2.1) []) (Int.toNat x_11.1) (0:Int)) true].length≤(20000000000:Nat)) (x_20 ((x_24.2++[Node.mk x_19.1 (Action.mk x_15.1 x_17.1) (List.getD (List.getD x_9.2.2.2.1 (Int.toNat x_9.2.1) []) (Int.toNat x_11.1) (0:Int)) true],(x_17.2.2.1.1.set x_19.1.Hour.toNat (x_17.2.2.1.1.getD x_19.1.Hour.toNat []++[(↑(List.length x_24.2):Int)]),x_17.2.2.1.2),setK (insK (setK x_17.2.2.2 x_21 x_24.1) x_21) x_21 (getK (setK x_17.2.2.2 x_21 x_24.1) x_21++[(↑(List.length x_24.2):Int)]))))))))))))) (fun x_24=>join F (fun(x_25:Int×List Node)=>brk (x_25.1==(-1:Int)) (x_24 ((getK x_17.2.2.2 x_21,x_25.2))) (chk (InR (x_25.1+1)) (loopC (fun(x_26:Int×Int×List Node×List Int)=>fun x_27=>brk (decide (x_26.1<(↑(List.length x_26.2.2.2):Int))) (join F (fun(x_28:Int×List Node×List Int)=>chk (InR (x_26.1+1)) (x_27 ((x_26.1+1,x_28)))) (fun x_28=>chk (0≤x_26.1∧x_26.1<(↑(List.length x_26.2.2.2):Int)) (join F (fun(x_29:List Node)=>chk ((0:Int)≤List.getD x_26.2.2.2 (Int.toNat x_26.1) (0:Int)∧List.getD x_26.2.2.2 (Int.toNat x_26.1) (0:Int)<(↑(List.length x_29):Int)) (brk (!!(List.getD x_29 (Int.toNat (List.getD x_26.2.2.2 (Int.toNat x_26.1) (0:Int))) (Node.mk (State.mk 0 0 0 0 0 0 (A3ofInt.mk 0 0 0)) (Action.mk 0 0) (0:Int) false)).f_live) (chk (0≤x_26.2.1∧x_26.2.1<(↑(List.length x_26.2.2.2):Int)) (chk (InR (x_26.2.1+1)) (x_28 ((x_26.2.1+1,x_29,List.set x_26.2.2.2 (Int.toNat x_26.2.1) (List.getD x_26.2.2.2 (Int.toNat x_26.1) (0:Int))))))) (x_28 ((x_26.2.1,x_29,x_26.2.2.2))))) (fun x_29=>chk ((0:Int)≤List.getD x_26.2.2.2 (Int.toNat x_26.1) (0:Int)∧List.getD x_26.2.2.2 (Int.toNat x_26.1) (0:Int)<(↑(List.length x_26.2.2.1):Int)) (bnd (breaker_State_covers F x_19.1 (List.getD x_26.2.2.1 (Int.toNat (List.getD x_26.2.2.2 (Int.toNat x_26.1) (0:Int))) (Node.mk (State.mk 0 0 0 0 0 0 (A3ofInt.mk 0 0 0)) (Action.mk 0 0) (0:Int) false)).f_at) (fun x_30=>brk x_30 (chk ((0:Int)≤List.getD x_26.2.2.2 (Int.toNat x_26.1) (0:Int)∧List.getD x_26.2.2.2 (Int.toNat x_26.1) (0:Int)<(↑(List.length x_26.2.2.1):Int)) (x_29 (List.set x_26.2.2.1 (Int.toNat (List.getD x_26.2.2.2 (Int.toNat x_26.1) (0:Int))) (Node.mk (List.getD x_26.2.2.1 (Int.toNat (List.getD x_26.2.2.2 (Int.toNat x_26.1) (0:Int))) (Node.mk (State.mk 0 0 0 0 0 0 (A3ofInt.mk 0 0 0)) (Action.mk 0 0) (0:Int) false)).f_at (List.getD x_26.2.2.1 (Int.toNat (List.getD x_26.2.2.2 (Int.toNat x_26.1) (0:Int))) (Node.mk (State.mk 0 0 0 0 0 0 (A3ofInt.mk 0 0 0)) (Action.mk 0 0) (0:Int) false)).f_by (List.getD x_26.2.2.1 (Int.toNat (List.getD x_26.2.2.2 (Int.toNat x_26.1) (0:Int))) (Node.mk (State.mk 0 0 0 0 0 0 (A3ofInt.mk 0 0 0)) (Action.mk 0 0) (0:Int) false)).f_from false)))) (x_29 x_26.2.2.1))))))) (chk (0≤x_26.2.1∧x_26.2.1≤(↑(List.length x_26.2.2.2):Int)∧(↑(List.length x_26.2.2.2):Int)≤(↑(List.length x_26.2.2.2):Int)) (chk (0≤x_26.2.1∧x_26.2.1≤(↑(clearL x_26.2.2.2 (Int.toNat x_26.2.1) ((↑(List.length x_26.2.2.2):Int)-x_26.2.1).toNat (0:Int)).length:Int)) (x_24 ((List.take (Int.toNat x_26.2.1) (clearL x_26.2.2.2 (Int.toNat x_26.2.1) ((↑(List.length x_26.2.2.2):Int)-x_26.2.1).toNat (0:Int)),x_26.2.2.1)))))) F ((x_25.1+1,x_25.1,x_25.2,getK x_17.2.2.2 x_21))))) (fun x_25=>loopC (fun(x_26:Int×List Node)=>fun x_27=>brk (decide (x_26.1<(↑(getK x_17.2.2.2 x_21).length:Int))) (chk (0≤x_26.1∧x_26.1<(↑(getK x_17.2.2.2 x_21).length:Int)) (join F (fun(x_28:List Node)=>chk (0≤(getK x_17.2.2.2 x_21).getD (Int.toNat x_26.1) 0∧(getK x_17.2.2.2 x_21).getD (Int.toNat x_26.1) 0<(↑(List.length x_28):Int)) (brk (!(List.getD x_28 (Int.toNat ((getK x_17.2.2.2 x_21).getD (Int.toNat x_26.1) 0)) (Node.mk (State.mk 0 0 0 0 0 0 (A3ofInt.mk 0 0 0)) (Action.mk 0 0) (0:Int) false)).f_live) (x_25 ((x_26.1,x_28))) (chk (InR (x_26.1+1)) (x_27 ((x_26.1+1,x_28)))))) (fun x_28=>chk (0≤(getK x_17.2.2.2 x_21).getD (Int.toNat x_26.1) 0∧(getK x_17.2.2.2 x_21).getD (Int.toNat x_26.1) 0<(↑(List.length x_26.2):Int)) (bnd (breaker_State_covers F x_19.1 (List.getD x_26.2 (Int.toNat ((getK x_17.2.2.2 x_21).getD (Int.toNat x_26.1) 0)) (Node.mk (State.mk 0 0 0 0 0 0 (A3ofInt.mk 0 0 0)) (Action.mk 0 0) (0:Int) false)).f_at) (fun x_29=>brk x_29 (chk (0≤(getK x_17.2.2.2 x_21).getD (Int.toNat x_26.1) 0∧(getK x_17.2.2.2 x_21).getD (Int.toNat x_26.1) 0<(↑(List.length x_26.2):Int)) (x_28 (List.set x_26.2 (Int.toNat ((getK x_17.2.2.2 x_21).getD (Int.toNat x_26.1) 0)) (Node.mk (List.getD x_26.2 (Int.toNat ((getK x_17.2.2.2 x_21).getD (Int.toNat x_26.1) 0)) (Node.mk (State.mk 0 0 0 0 0 0 (A3ofInt.mk 0 0 0)) (Action.mk 0 0) (0:Int) false)).f_at (List.getD x_26.2 (Int.toNat ((getK x_17.2.2.2 x_21).getD (Int.toNat x_26.1) 0)) (Node.mk (State.mk 0 0 0 0 0 0 (A3ofInt.mk 0 0 0)) (Action.mk 0 0) (0:Int) false)).f_by (List.getD x_26.2 (Int.toNat ((getK x_17.2.2.2 x_21).getD (Int.toNat x_26.1) 0)) (Node.mk (State.mk 0 0 0 0 0 0 (A3ofInt.mk 0 0 0)) (Action.mk 0 0) (0:Int) false)).f_from false)))) (x_28 x_26.2)))))) (x_25 (((-1:Int),x_26.2)))) F (((0:Int),x_17.2.1))))))) F (0:Int)))) (chk (InR (x_17.1+1)) (x_18 ((x_17.1+1,x_17.2)))))) (chk (InR (x_15.1+1)) (x_16 ((x_15.1+1,x_17.2))))) F (((0:Int),x_15.2))) (x_13 x_15.2)) F (((1:Int),x_11.2))))))))))) (chk (InR (x_9.2.1+1)) (x_10 ((x_9.1,x_9.2.1+1,x_11.2.1,x_11.2.2.1.1.set x_11.2.2.1.2.toNat (List.getD x_9.2.2.2.1 (Int.toNat x_9.2.1) []),x_11.2.2.2))))) F (((0:Int),x_9.2.2.1,(x_9.2.2.2.1,x_9.2.1),x_9.2.2.2.2)))) (x_8 ((x_9.1,x_9.2.2.1)))) F (((-1:Int),a2.Hour,[Node.mk a2 (Action.mk 0 0) (-1:Int) true],(List.replicate (a1.Limit+1).toNat ([]:List Int)).set a2.Hour.toNat ((List.replicate (a1.Limit+1).toNat ([]:List Int)).getD a2.Hour.toNat []++[(↑(0:Nat):Int)]),setK (insK (setK ([]:List (Key×List Int)) x_3 (getK ([]:List (Key×List Int)) x_3)) x_3) x_3 (getK (setK ([]:List (Key×List Int)) x_3 (getK ([]:List (Key×List Int)) x_3)) x_3++[(↑(0:Nat):Int)])))))))))))))) F (0:Int)))) F (0:Int)))))) F (0:Int)))
def s13(F:Nat):CS E.G:=⟨13,[.v 7 true,.v 11 true,.v 13 true],[.sl 13 35,.v 0 false []],fun x=>breaker_Front F x.1 x.2.1 x.2.2.1⟩
theorem c13(F:Nat):CSok E [] (s13 F):=mkC (cx:=⟨[s19 F,s108 F,s109 F,s111 F,s112 F,s113 F,s115 F,s116 F,s119 F,s121 F,s124 F,s125 F,s127 F,s91 F,s49 F,s51 F,s55 F,s58 F,s60 F],[(48,Tryz.f48),(90,Tryz.f90),(105,Tryz.f105),(106,Tryz.f106),(107,Tryz.f107),(114,Tryz.f114),(117,Tryz.f117),(118,Tryz.f118),(120,Tryz.f120),(122,Tryz.f122),(123,Tryz.f123),(126,Tryz.f126),(128,Tryz.f128),(129,Tryz.f129),(130,Tryz.f130),(131,Tryz.f131),(132,Tryz.f132),(133,Tryz.f133),(134,Tryz.f134),(57,Tryz.f57),(56,Tryz.f56),(93,Tryz.f93),(94,Tryz.f94),(95,Tryz.f95),(135,Tryz.f135),(96,Tryz.f96)],F,[(2,8),(3,0),(12,2)],[⟨59,13,60,fun _=>sortStates F,false,0,none⟩]⟩) hf13 (by kernel_rfl) rfl (allC (c19 F) (allC (c108 F) (allC (c109 F) (allC (c111 F) (allC (c112 F) (allC (c113 F) (allC (c115 F) (allC (c116 F) (allC (c119 F) (allC (c121 F) (allC (c124 F) (allC (c125 F) (allC (c127 F) (allC (c91 F) (allC (c49 F) (allC (c51 F) (allC (c55 F) (allC (c58 F) (allC (c60 F) all0))))))))))))))))))) ⟨(inlC hf48 en48 (inlC hf90 en90 (inlC hf105 en105 (inlC hf106 en106 (inlC hf107 en107 (inlC hf114 en114 (inlC hf117 en117 (inlC hf118 en118 (inlC hf120 en120 (inlC hf122 en122 (inlC hf123 en123 (inlC hf126 en126 (inlC hf128 en128 (inlC hf129 en129 (inlC hf130 en130 (inlC hf131 en131 (inlC hf132 en132 (inlC hf133 en133 (inlC hf134 en134 (inlC hf57 en57 (inlC hf56 en56 (inlC hf93 en93 (inlC hf94 en94 (inlC hf95 en95 (inlC hf135 en135 (inlC hf96 en96 inl0)))))))))))))))))))))))))),(allC (sok59 F) all0)⟩ (.p (.c (.c .n (.u 0 .n)) (.p (.l ⟨[.i],[352,144,336],[0,1,2,6,10,9,8,7],[(368,.i IntKind.i64)],[],[],[],11⟩ (.c .n (.p (.p (.l ⟨[.i],[16,32,64,224,48,80,208],[15,13,16,12,18,20,21,22],[(240,.i IntKind.i64)],[],[],[],25⟩ (.c .n (.p (.p (.l ⟨[.i],[0,16,112],[12,20,22],[(128,.i IntKind.i64)],[],[],[],25⟩ (.c (.p (.k (.k .n))) (.k (.k (.k (.k (.k (.k (.k (.k (.j ⟨[.i,.l 24],[128],[0,1,7,9,2,8,10,12],[(192,.i IntKind.i64)],[],[(12,0,.h 39 135 24)],[],40⟩ (.l ⟨[.i,.i,.l 24,.d 22 6 [some 3],.dm 23 0 3],[0,32,128,144,176],[0,1,7,9,2,8,10,12,15,19,13,18,16],[(192,.i IntKind.i64),(208,.i IntKind.i64)],[],[(12,0,.h 39 135 24)],[(13,40,0),(16,41,0)],42⟩ (.c (.l ⟨[.i,.l 24,.dh 22 6 [some 3] 42 0,.dm 23 0 3],[0,32,128,192,800,144,208,176,816],[0,1,7,9,2,8,10,12,42,15,19,13,18,16],[(832,.i IntKind.i64)],[],[(12,0,.h 45 135 24)],[(13,46,43),(16,47,0)],48⟩ (.c (.j ⟨[.l 24,.dh 22 6 [some 3] 42 0,.dm 23 0 3],[0,32,128,192,832,800,144,208,176,816],[0,1,7,9,2,8,10,12,42,15,19,13,18,16],[],[],[(12,0,.h 49 135 24)],[(13,50,43),(16,51,0)],52⟩ (.c .n (.c .n (.p (.l ⟨[.i,.l 24,.dh 22 6 [some 3] 42 0,.dm 23 0 3],[0,16,32],[0,1,7,15,19,9,49,13,2,8,16,48,12,10,18,50,42,51],[(64,.i IntKind.i64)],[],[(12,0,.h 55 135 24)],[(13,53,43),(16,54,0)],56⟩ (.c (.l ⟨[.i,.l 24,.dh 22 6 [some 3] 42 0,.dm 23 0 3],[0,16,32,64],[0,1,7,15,19,9,49,13,2,8,16,48,12,10,18,50,42,51],[(208,.i IntKind.i64)],[],[(12,0,.h 59 135 24)],[(13,57,43),(16,58,0)],60⟩ (.c (.s (.p (.w ⟨[.l 24,.dh 22 6 [some 3] 42 0,.dm 23 0 3],[],[15,13,16,12,18,42],[(0,.t [])],[],[(12,0,.h 67 135 24)],[(13,65,43),(16,66,0)],68⟩ (.l ⟨[.i],[16,32,64,224,48,80,208],[15,59,13,16,12,18,42,64,65,66],[(240,.i IntKind.i64)],[],[],[],70⟩ (.c .n (.w ⟨[.l 0,.l 24],[],[59,64,12],[(0,.h 70 3 0)],[],[],[(59,135,24)],71⟩ (.w ⟨[.i,.l 24],[],[59,64,12,66],[(0,.i IntKind.i64)],[],[],[(59,135,24)],70⟩ (.l ⟨[.i,.l 24],[0,16,112],[59,64,12,66],[(128,.i IntKind.i64)],[],[],[(59,135,24)],70⟩ (.c (.p (.k (.j ⟨[.l 24],[0,32],[59,64,12],[],[],[],[(59,135,24)],70⟩ .n .n))) .n)) (.c .n (.l ⟨[.i,.i,.l 24,.l 0],[0,16],[59,64,12,66],[(96,.i IntKind.i64),(80,.i IntKind.i64)],[],[],[(59,135,24),(66,3,0)],70⟩ (.c (.j ⟨[.i,.l 24,.l 0],[0,16,96],[59,64,12,66],[(80,.i IntKind.i64)],[],[],[(59,135,24),(66,3,0)],70⟩ (.p (.k (.j ⟨[.l 24],[0,32],[59,64,12],[],[],[],[(59,135,24)],70⟩ .n .n))) .n) .n)))) .n))) .n)) .n) .n)) .n))))) .n) .n)) .n)) (.l ⟨[.l 13,.i],[512,528],[39],[(192,.h 40 35 13),(544,.i IntKind.i64)],[],[],[],41⟩ (.c (.j ⟨[.l 13],[512,544,528],[39],[(192,.h 41 35 13)],[],[],[],42⟩ .n .n) (.c .n (.p .n)))))))))))))))))))))))))) rfl (by kernel_rfl)
theorem hf39:HF 39 Tryz.f39:=hK (by kernel_rfl)
theorem en39:Proofs.Enters Tryz.prog 39:=mkE hf39 (by kernel_rfl) rfl
def slices_Clone_breaker_State(F:Nat)(a0:List State):Option ((List State)):=
 chk ((0:Nat)+a0.length≤(20000000000:Nat)) (some ([]++a0))
def s39(F:Nat):CS E.G:=⟨39,[.sl 13],[.sl 13 35],fun x=>slices_Clone_breaker_State F x.1⟩
def cx39(F:Nat):Ctx E:=⟨[],[],F,[],[]⟩
def h39:Hint:= .n
theorem e39n(F:Nat)(c:Nat):fnK (E:=E) (cx39 F) Tryz.f39 [] [.nl] [.sl 13 35] .n (c,())=some ([]):=by kernel_rfl
theorem e39s(F:Nat)(a0:List State):fnK (E:=E) (cx39 F) Tryz.f39 [] [.sn 13] [.sl 13 35] h39 (a0,())=slices_Clone_breaker_State F a0:=by kernel_rfl
theorem c39(F:Nat):CSok E [] (s39 F):=⟨en39,by
 have h0:=fn_sound (E:=E) (gl:=[]) (cx:=cx39 F) mix all0 ⟨inl0,all0⟩ keys0 rfl (fun _ h=>nomatch h) hf39 (ps:=[.nl]) (rs:=[.sl 13 35]) (by decide) .n
 have h1:=fn_sound (E:=E) (gl:=[]) (cx:=cx39 F) mix all0 ⟨inl0,all0⟩ keys0 rfl (fun _ h=>nomatch h) hf39 (ps:=[.sn 13]) (rs:=[.sl 13 35]) (by decide) h39
 rw[show fnK (E:=E) (cx39 F) Tryz.f39 [] [.nl] [.sl 13 35] .n=(fun x:AT E.G.car [.nl]=>some ([]))from funext fun x=>e39n F x.1]at h0
 rw[show fnK (E:=E) (cx39 F) Tryz.f39 [] [.sn 13] [.sl 13 35] h39=(fun x:AT E.G.car [.sn 13]=>slices_Clone_breaker_State F x.1)from funext fun x=>e39s F x.1]at h1
 exact contract_nil (E:=E) (t:=13) (rs:=[.sl 13 35]) (f:=slices_Clone_breaker_State F) (f0:=fun _=>some ([])) (f1:=slices_Clone_breaker_State F) h0 h1 (fun _ _ h=>(show slices_Clone_breaker_State F []=some [] by kernel_rfl).symm.trans h) (fun _ _ h=>h)⟩
theorem hf81:HF 81 Tryz.f81:=hK (by kernel_rfl)
theorem en81:Proofs.Enters Tryz.prog 81:=mkE hf81 (by kernel_rfl) rfl
theorem hf40:HF 40 Tryz.f40:=hK (by kernel_rfl)
def breaker_Find(F:Nat)(a0:Machine)(a1:Area)(a2:State):Option ((List Action)×Int×Int):=
 bnd (breaker_Check F a0 a1) (fun x=>brk (x != 0) (brk (x != 0) (some ([],(0:Int),x)) none) (loopC (fun(x_1:Int)=>fun x_2=>brk (decide (x_1<(↑[a2].length:Int))) (chk (0≤x_1∧x_1<(↑[a2].length:Int)) (bnd (breaker_works_state F (a0,a1) ([a2].getD (Int.toNat x_1) (State.mk 0 0 0 0 0 0 (A3ofInt.mk 0 0 0)))) (fun x_3=>brk (!x_3) (some ([],(0:Int),(9:Int))) (chk (InR (x_1+1)) (x_2 (x_1+1)))))) (chk (InR (a1.Limit+1)) (chk (0≤a1.Limit+1∧a1.Limit+1≤a1.Limit+1∧a1.Limit+1≤(100000:Int)) (bnd (breaker_State_key F a2) (fun x_3=>loopC (fun(x_4:Int)=>fun x_5=>brk (decide (x_4<(↑(getK ([]:List (Key×List Int)) x_3).length:Int))) (chk (0≤x_4∧x_4<(↑(getK ([]:List (Key×List Int)) x_3).length:Int)) none) (chk (x_3=x_3) (loopC (fun(x_6:Int)=>fun x_7=>brk (decide (x_6<(↑(getK ([]:List (Key×List Int)) x_3).length:Int))) (chk (0≤x_6∧x_6<(↑(getK ([]:List (Key×List Int)) x_3).length:Int)) none) (chk (x_3=x_3) (chk ((getK (setK ([]:List (Key×List Int)) x_3 (getK ([]:List (Key×List Int)) x_3)) x_3).length+[(↑(0:Nat):Int)].length≤(20000000000:Nat)) (chk (x_3=x_3) (chk (0≤a2.Hour∧a2.Hour<(↑(a1.Limit+1).toNat:Int)) (chk (List.length ((List.replicate (a1.Limit+1).toNat ([]:List Int)).getD a2.Hour.toNat ([]:List Int))+[(↑(0:Nat):Int)].length≤(20000000000:Nat)) (chk (0≤a2.Hour∧a2.Hour<(↑(a1.Limit+1).toNat:Int)) (chk (a2.Hour=a2.Hour) (chk ([Node.mk a2 (Action.mk 0 0) (-1:Int) true].length≤(20000000000:Nat)) (join F (fun(x_8:Int×List Node)=>brk (decide (x_8.1<0)) (some ([],(0:Int),(4:Int))) (chk (0≤x_8.1∧x_8.1<(↑(List.length x_8.2):Int)) (loopC (fun(x_9:Int×List Action)=>fun x_10=>chk (0≤x_9.1∧x_9.1<(↑(List.length x_8.2):Int)) (brk (decide ((List.getD x_8.2 (Int.toNat x_9.1) (Node.mk (State.mk 0 0 0 0 0 0 (A3ofInt.mk 0 0 0)) (Action.mk 0 0) (0:Int) false)).f_from≥0)) (chk (0≤x_9.1∧x_9.1<(↑(List.length x_8.2):Int)) (chk (List.length x_9.2+[(List.getD x_8.2 (Int.toNat x_9.1) (Node.mk (State.mk 0 0 0 0 0 0 (A3ofInt.mk 0 0 0)) (Action.mk 0 0) (0:Int) false)).f_by].length≤(20000000000:Nat)) (chk (0≤x_9.1∧x_9.1<(↑(List.length x_8.2):Int)) (x_10 (((List.getD x_8.2 (Int.toNat x_9.1) (Node.mk (State.mk 0 0 0 0 0 0 (A3ofInt.mk 0 0 0)) (Action.mk 0 0) (0:Int) false)).f_from,x_9.2++[(List.getD x_8.2 (Int.toNat x_9.1) (Node.mk (State.mk 0 0 0 0 0 0 (A3ofInt.mk 0 0 0)) (Action.mk 0 0) (0:Int) false)).f_by])))))) (chk (InR ((↑(List.length x_9.2):Int)-(1:Int))) (loopC (fun(x_11:Int×Int×List Action)=>fun x_12=>brk (decide (x_11.1<x_11.2.1)) (chk (0≤x_11.2.1∧x_11.2.1<(↑(List.length x_11.2.2):Int)) (chk (0≤x_11.1∧x_11.1<(↑(List.length x_11.2.2):Int)) (chk (0≤x_11.1∧x_11.1<(↑(List.length x_11.2.2):Int)) (chk (0≤x_11.2.1∧x_11.2.1<(↑(List.set x_11.2.2 (Int.toNat x_11.1) (List.getD x_11.2.2 (Int.toNat x_11.2.1) (Action.mk 0 0))).length:Int)) (chk (InR (x_11.1+1)) (chk (InR (x_11.2.1-1)) (x_12 ((x_11.1+1,x_11.2.1-1,(List.set x_11.2.2 (Int.toNat x_11.1) (List.getD x_11.2.2 (Int.toNat x_11.2.1) (Action.mk 0 0))).set (Int.toNat x_11.2.1) (List.getD x_11.2.2 (Int.toNat x_11.1) (Action.mk 0 0))))))))))) (some ((x_11.2.2,(List.getD x_8.2 (Int.toNat x_8.1) (Node.mk (State.mk 0 0 0 0 0 0 (A3ofInt.mk 0 0 0)) (Action.mk 0 0) (0:Int) false)).f_at.Hour,(0:Int))))) F (((0:Int),(↑(List.length x_9.2):Int)-(1:Int),x_9.2)))))) F ((x_8.1,[]))))) (fun x_8=>loopC (fun(x_9:Int×Int×List Node×List (List Int)×List (Key×List Int))=>fun x_10=>brk (decide (x_9.2.1≤a1.Limit)) (chk (0≤x_9.2.1∧x_9.2.1<(↑(a1.Limit+1).toNat:Int)) (loopC (fun(x_11:Int×List Node×(List (List Int)×Int)×List (Key×List Int))=>fun x_12=>brk (decide (x_11.1<(↑(List.length (List.getD x_9.2.2.2.1 (Int.toNat x_9.2.1) [])):Int))) (join F (fun(x_13:List Node×(List (List Int)×Int)×List (Key×List Int))=>chk (InR (x_11.1+1)) (x_12 ((x_11.1+1,x_13)))) (fun x_13=>chk (0≤x_11.1∧x_11.1<(↑(List.length (List.getD x_9.2.2.2.1 (Int.toNat x_9.2.1) [])):Int)) (chk ((0:Int)≤List.getD (List.getD x_9.2.2.2.1 (Int.toNat x_9.2.1) []) (Int.toNat x_11.1) (0:Int)∧List.getD (List.getD x_9.2.2.2.1 (Int.toNat x_9.2.1) []) (Int.toNat x_11.1) (0:Int)<(↑(List.length x_11.2.1):Int)) (brk (!(List.getD x_11.2.1 (Int.toNat (List.getD (List.getD x_9.2.2.2.1 (Int.toNat x_9.2.1) []) (Int.toNat x_11.1) (0:Int))) (Node.mk (State.mk 0 0 0 0 0 0 (A3ofInt.mk 0 0 0)) (Action.mk 0 0) (0:Int) false)).f_live) (x_13 x_11.2) (chk ((0:Int)≤List.getD (List.getD x_9.2.2.2.1 (Int.toNat x_9.2.1) []) (Int.toNat x_11.1) (0:Int)∧List.getD (List.getD x_9.2.2.2.1 (Int.toNat x_9.2.1) []) (Int.toNat x_11.1) (0:Int)<(↑(List.length x_11.2.1):Int)) (bnd (breaker_works_finished F (a0,a1) (List.getD x_11.2.1 (Int.toNat (List.getD (List.getD x_9.2.2.2.1 (Int.toNat x_9.2.1) []) (Int.toNat x_11.1) (0:Int))) (Node.mk (State.mk 0 0 0 0 0 0 (A3ofInt.mk 0 0 0)) (Action.mk 0 0) (0:Int) false)).f_at) (fun x_14=>brk x_14 (x_8 ((List.getD (List.getD x_9.2.2.2.1 (Int.toNat x_9.2.1) []) (Int.toNat x_11.1) (0:Int),x_11.2.1))) (chk ((0:Int)≤List.getD (List.getD x_9.2.2.2.1 (Int.toNat x_9.2.1) []) (Int.toNat x_11.1) (0:Int)∧List.getD (List.getD x_9.2.2.2.1 (Int.toNat x_9.2.1) []) (Int.toNat x_11.1) (0:Int)<(↑(List.length x_11.2.1):Int)) (loopC (fun(x_15:Int×List Node×(List (List Int)×Int)×List (Key×List Int))=>fun x_16=>brk (decide (x_15.1≤8)) (loopC (fun(x_17:Int×List Node×(List (List Int)×Int)×List (Key×List Int))=>fun x_18=>brk (decide (x_17.1<4)) (bnd (breaker_works_do F (a0,a1) (List.getD x_11.2.1 (Int.toNat (List.getD (List.getD x_9.2.2.2.1 (Int.toNat x_9.2.1) []) (Int.toNat x_11.1) (0:Int))) (Node.mk (State.mk 0 0 0 0 0 0 (A3ofInt.mk 0 0 0)) (Action.mk 0 0) (0:Int) false)).f_at (Action.mk x_15.1 x_17.1)) (fun x_19=>brk (x_19.2==0) (join F (fun(x_20:List Node×(List (List Int)×Int)×List (Key×List Int))=>chk (InR (x_17.1+1)) (x_18 ((x_17.1+1,x_20)))) (fun x_20=>bnd (breaker_State_key F x_19.1) (fun x_21=>loopC (fun(x_22:Int)=>fun x_23=>brk (decide (x_22<(↑(getK x_17.2.2.2 x_21).length:Int))) (chk (0≤x_22∧x_22<(↑(getK x_17.2.2.2 x_21).length:Int)) (chk (0≤(getK x_17.2.2.2 x_21).getD (Int.toNat x_22) 0∧(getK x_17.2.2.2 x_21).getD (Int.toNat x_22) 0<(↑(List.length x_17.2.1):Int)) (bnd (breaker_State_covers F (List.getD x_17.2.1 (Int.toNat ((getK x_17.2.2.2 x_21).getD (Int.toNat x_22) 0)) (Node.mk (State.mk 0 0 0 0 0 0 (A3ofInt.mk 0 0 0)) (Action.mk 0 0) (0:Int) false)).f_at x_19.1) (fun x_24=>brk x_24 (x_20 ((x_17.2.1,x_17.2.2.1,updK x_17.2.2.2 x_21 (getK x_17.2.2.2 x_21)))) (chk (InR (x_22+1)) (x_23 (x_22+1))))))) (chk (x_21=x_21) (join F (fun(x_24:List Int×List Node)=>chk (x_21=x_21) (chk ((getK (setK x_17.2.2.2 x_21 x_24.1) x_21).length+[(↑(List.length x_24.2):Int)].length≤(20000000000:Nat)) (chk (x_21=x_21) (chk (0≤x_19.1.Hour∧x_19.1.Hour<(↑(a1.Limit+1).toNat:Int)) (chk (0≤x_17.2.2.1.2∧x_19.1.Hour≠x_17.2.2.1.2) (chk (List.length (x_17.2.2.1.1.getD x_19.1.Hour.toNat ([]:List Int))+[(↑(List.length x_24.2):Int)].length≤(20000000000:Nat)) (chk (0≤x_19.1.Hour∧x_19.1.Hour<(↑(a1.Limit+1).toNat:Int)) (chk (x_19.1.Hour=x_19.1.Hour) (chk (List.length x_24.2+[Node.mk x_19.1 (Action.mk x_15.1 x_17.1) (List.getD (List.getD x_9.2.2.2.1 (Int.toNat x_9.2.1) []) (Int.toNat x_11.1) (0:Int)) true].length≤(20000000000:Nat)) (x_20 ((x_24.2++[Node.mk x_19.1 (Action.mk x_15.1 x_17.1) (List.getD (List.getD x_9.2.2.2.1 (Int.toNat x_9.2.1) []) (Int.toNat x_11.1) (0:Int)) true],(x_17.2.2.1.1.set x_19.1.Hour.toNat (x_17.2.2.1.1.getD x_19.1.Hour.toNat []++[(↑(List.length x_24.2):Int)]),x_17.2.2.1.2),setK (insK (setK x_17.2.2.2 x_21 x_24.1) x_21) x_21 (getK (setK x_17.2.2.2 x_21 x_24.1) x_21++[(↑(List.length x_24.2):Int)]))))))))))))) (fun x_24=>join F (fun(x_25:Int×List Node)=>brk (x_25.1==(-1:Int)) (x_24 ((getK x_17.2.2.2 x_21,x_25.2))) (chk (InR (x_25.1+1)) (loopC (fun(x_26:Int×Int×List Node×List Int)=>fun x_27=>brk (decide (x_26.1<(↑(List.length x_26.2.2.2):Int))) (join F (fun(x_28:Int×List Node×List Int)=>chk (InR (x_26.1+1)) (x_27 ((x_26.1+1,x_28)))) (fun x_28=>chk (0≤x_26.1∧x_26.1<(↑(List.length x_26.2.2.2):Int)) (join F (fun(x_29:List Node)=>chk ((0:Int)≤List.getD x_26.2.2.2 (Int.toNat x_26.1) (0:Int)∧List.getD x_26.2.2.2 (Int.toNat x_26.1) (0:Int)<(↑(List.length x_29):Int)) (brk (!!(List.getD x_29 (Int.toNat (List.getD x_26.2.2.2 (Int.toNat x_26.1) (0:Int))) (Node.mk (State.mk 0 0 0 0 0 0 (A3ofInt.mk 0 0 0)) (Action.mk 0 0) (0:Int) false)).f_live) (chk (0≤x_26.2.1∧x_26.2.1<(↑(List.length x_26.2.2.2):Int)) (chk (InR (x_26.2.1+1)) (x_28 ((x_26.2.1+1,x_29,List.set x_26.2.2.2 (Int.toNat x_26.2.1) (List.getD x_26.2.2.2 (Int.toNat x_26.1) (0:Int))))))) (x_28 ((x_26.2.1,x_29,x_26.2.2.2))))) (fun x_29=>chk ((0:Int)≤List.getD x_26.2.2.2 (Int.toNat x_26.1) (0:Int)∧List.getD x_26.2.2.2 (Int.toNat x_26.1) (0:Int)<(↑(List.length x_26.2.2.1):Int)) (bnd (breaker_State_covers F x_19.1 (List.getD x_26.2.2.1 (Int.toNat (List.getD x_26.2.2.2 (Int.toNat x_26.1) (0:Int))) (Node.mk (State.mk 0 0 0 0 0 0 (A3ofInt.mk 0 0 0)) (Action.mk 0 0) (0:Int) false)).f_at) (fun x_30=>brk x_30 (chk ((0:Int)≤List.getD x_26.2.2.2 (Int.toNat x_26.1) (0:Int)∧List.getD x_26.2.2.2 (Int.toNat x_26.1) (0:Int)<(↑(List.length x_26.2.2.1):Int)) (x_29 (List.set x_26.2.2.1 (Int.toNat (List.getD x_26.2.2.2 (Int.toNat x_26.1) (0:Int))) (Node.mk (List.getD x_26.2.2.1 (Int.toNat (List.getD x_26.2.2.2 (Int.toNat x_26.1) (0:Int))) (Node.mk (State.mk 0 0 0 0 0 0 (A3ofInt.mk 0 0 0)) (Action.mk 0 0) (0:Int) false)).f_at (List.getD x_26.2.2.1 (Int.toNat (List.getD x_26.2.2.2 (Int.toNat x_26.1) (0:Int))) (Node.mk (State.mk 0 0 0 0 0 0 (A3ofInt.mk 0 0 0)) (Action.mk 0 0) (0:Int) false)).f_by (List.getD x_26.2.2.1 (Int.toNat (List.getD x_26.2.2.2 (Int.toNat x_26.1) (0:Int))) (Node.mk (State.mk 0 0 0 0 0 0 (A3ofInt.mk 0 0 0)) (Action.mk 0 0) (0:Int) false)).f_from false)))) (x_29 x_26.2.2.1))))))) (chk (0≤x_26.2.1∧x_26.2.1≤(↑(List.length x_26.2.2.2):Int)∧(↑(List.length x_26.2.2.2):Int)≤(↑(List.length x_26.2.2.2):Int)) (chk (0≤x_26.2.1∧x_26.2.1≤(↑(clearL x_26.2.2.2 (Int.toNat x_26.2.1) ((↑(List.length x_26.2.2.2):Int)-x_26.2.1).toNat (0:Int)).length:Int)) (x_24 ((List.take (Int.toNat x_26.2.1) (clearL x_26.2.2.2 (Int.toNat x_26.2.1) ((↑(List.length x_26.2.2.2):Int)-x_26.2.1).toNat (0:Int)),x_26.2.2.1)))))) F ((x_25.1+1,x_25.1,x_25.2,getK x_17.2.2.2 x_21))))) (fun x_25=>loopC (fun(x_26:Int×List Node)=>fun x_27=>brk (decide (x_26.1<(↑(getK x_17.2.2.2 x_21).length:Int))) (chk (0≤x_26.1∧x_26.1<(↑(getK x_17.2.2.2 x_21).length:Int)) (join F (fun(x_28:List Node)=>chk (0≤(getK x_17.2.2.2 x_21).getD (Int.toNat x_26.1) 0∧(getK x_17.2.2.2 x_21).getD (Int.toNat x_26.1) 0<(↑(List.length x_28):Int)) (brk (!(List.getD x_28 (Int.toNat ((getK x_17.2.2.2 x_21).getD (Int.toNat x_26.1) 0)) (Node.mk (State.mk 0 0 0 0 0 0 (A3ofInt.mk 0 0 0)) (Action.mk 0 0) (0:Int) false)).f_live) (x_25 ((x_26.1,x_28))) (chk (InR (x_26.1+1)) (x_27 ((x_26.1+1,x_28)))))) (fun x_28=>chk (0≤(getK x_17.2.2.2 x_21).getD (Int.toNat x_26.1) 0∧(getK x_17.2.2.2 x_21).getD (Int.toNat x_26.1) 0<(↑(List.length x_26.2):Int)) (bnd (breaker_State_covers F x_19.1 (List.getD x_26.2 (Int.toNat ((getK x_17.2.2.2 x_21).getD (Int.toNat x_26.1) 0)) (Node.mk (State.mk 0 0 0 0 0 0 (A3ofInt.mk 0 0 0)) (Action.mk 0 0) (0:Int) false)).f_at) (fun x_29=>brk x_29 (chk (0≤(getK x_17.2.2.2 x_21).getD (Int.toNat x_26.1) 0∧(getK x_17.2.2.2 x_21).getD (Int.toNat x_26.1) 0<(↑(List.length x_26.2):Int)) (x_28 (List.set x_26.2 (Int.toNat ((getK x_17.2.2.2 x_21).getD (Int.toNat x_26.1) 0)) (Node.mk (List.getD x_26.2 (Int.toNat ((getK x_17.2.2.2 x_21).getD (Int.toNat x_26.1) 0)) (Node.mk (State.mk 0 0 0 0 0 0 (A3ofInt.mk 0 0 0)) (Action.mk 0 0) (0:Int) false)).f_at (List.getD x_26.2 (Int.toNat ((getK x_17.2.2.2 x_21).getD (Int.toNat x_26.1) 0)) (Node.mk (State.mk 0 0 0 0 0 0 (A3ofInt.mk 0 0 0)) (Action.mk 0 0) (0:Int) false)).f_by (List.getD x_26.2 (Int.toNat ((getK x_17.2.2.2 x_21).getD (Int.toNat x_26.1) 0)) (Node.mk (State.mk 0 0 0 0 0 0 (A3ofInt.mk 0 0 0)) (Action.mk 0 0) (0:Int) false)).f_from false)))) (x_28 x_26.2)))))) (x_25 (((-1:Int),x_26.2)))) F (((0:Int),x_17.2.1))))))) F (0:Int)))) (chk (InR (x_17.1+1)) (x_18 ((x_17.1+1,x_17.2)))))) (chk (InR (x_15.1+1)) (x_16 ((x_15.1+1,x_17.2))))) F (((0:Int),x_15.2))) (x_13 x_15.2)) F (((1:Int),x_11.2))))))))))) (chk (InR (x_9.2.1+1)) (x_10 ((x_9.1,x_9.2.1+1,x_11.2.1,x_11.2.2.1.1.set x_11.2.2.1.2.toNat (List.getD x_9.2.2.2.1 (Int.toNat x_9.2.1) []),x_11.2.2.2))))) F (((0:Int),x_9.2.2.1,(x_9.2.2.2.1,x_9.2.1),x_9.2.2.2.2)))) (x_8 ((x_9.1,x_9.2.2.1)))) F (((-1:Int),a2.Hour,[Node.mk a2 (Action.mk 0 0) (-1:Int) true],(List.replicate (a1.Limit+1).toNat ([]:List Int)).set a2.Hour.toNat ((List.replicate (a1.Limit+1).toNat ([]:List Int)).getD a2.Hour.toNat []++[(↑(0:Nat):Int)]),setK (insK (setK ([]:List (Key×List Int)) x_3 (getK ([]:List (Key×List Int)) x_3)) x_3) x_3 (getK (setK ([]:List (Key×List Int)) x_3 (getK ([]:List (Key×List Int)) x_3)) x_3++[(↑(0:Nat):Int)])))))))))))))) F (0:Int)))) F (0:Int)))))) F (0:Int)))
def s40(F:Nat):CS E.G:=⟨40,[.v 7 true,.v 11 true,.v 13 true],[.sl 14 40,.v 0 false [],.v 0 false []],fun x=>breaker_Find F x.1 x.2.1 x.2.2.1⟩
theorem c40(F:Nat):CSok E [] (s40 F):=mkC (cx:=⟨[s19 F,s108 F,s109 F,s111 F,s112 F,s113 F,s115 F,s116 F,s119 F,s121 F,s124 F,s125 F,s127 F,s91 F,s50 F,s49 F,s51 F,s55 F],[(48,Tryz.f48),(90,Tryz.f90),(105,Tryz.f105),(106,Tryz.f106),(107,Tryz.f107),(114,Tryz.f114),(117,Tryz.f117),(118,Tryz.f118),(120,Tryz.f120),(122,Tryz.f122),(123,Tryz.f123),(126,Tryz.f126),(128,Tryz.f128),(129,Tryz.f129),(130,Tryz.f130),(131,Tryz.f131),(132,Tryz.f132),(133,Tryz.f133),(134,Tryz.f134),(57,Tryz.f57),(56,Tryz.f56),(93,Tryz.f93),(94,Tryz.f94),(95,Tryz.f95),(135,Tryz.f135),(96,Tryz.f96),(81,Tryz.f81)],F,[(2,8),(3,0),(12,2)],[]⟩) hf40 (by kernel_rfl) rfl (allC (c19 F) (allC (c108 F) (allC (c109 F) (allC (c111 F) (allC (c112 F) (allC (c113 F) (allC (c115 F) (allC (c116 F) (allC (c119 F) (allC (c121 F) (allC (c124 F) (allC (c125 F) (allC (c127 F) (allC (c91 F) (allC (c50 F) (allC (c49 F) (allC (c51 F) (allC (c55 F) all0)))))))))))))))))) ⟨(inlC hf48 en48 (inlC hf90 en90 (inlC hf105 en105 (inlC hf106 en106 (inlC hf107 en107 (inlC hf114 en114 (inlC hf117 en117 (inlC hf118 en118 (inlC hf120 en120 (inlC hf122 en122 (inlC hf123 en123 (inlC hf126 en126 (inlC hf128 en128 (inlC hf129 en129 (inlC hf130 en130 (inlC hf131 en131 (inlC hf132 en132 (inlC hf133 en133 (inlC hf134 en134 (inlC hf57 en57 (inlC hf56 en56 (inlC hf93 en93 (inlC hf94 en94 (inlC hf95 en95 (inlC hf135 en135 (inlC hf96 en96 (inlC hf81 en81 inl0))))))))))))))))))))))))))),all0⟩ (.p (.c (.c .n (.u 0 .n)) (.p (.l ⟨[.i],[352,144,336],[0,1,2,6,10,9,8,7],[(368,.i IntKind.i64)],[],[],[],11⟩ (.c .n (.p (.p (.l ⟨[.i],[16,32,64,224,48,80,208],[15,13,16,12,18,20,21,22],[(240,.i IntKind.i64)],[],[],[],25⟩ (.c .n (.p (.p (.l ⟨[.i],[0,16,112],[12,20,22],[(128,.i IntKind.i64)],[],[],[],25⟩ (.c (.p (.k (.k .n))) (.k (.k (.k (.k (.k (.k (.k (.k (.j ⟨[.i,.l 24],[128],[0,1,7,9,2,8,10,12],[(192,.i IntKind.i64)],[],[(12,0,.h 39 135 24)],[],40⟩ (.l ⟨[.i,.i,.l 24,.d 22 6 [some 3],.dm 23 0 3],[0,32,128,144,176],[0,1,7,9,2,8,10,12,15,19,13,18,16],[(192,.i IntKind.i64),(208,.i IntKind.i64)],[],[(12,0,.h 39 135 24)],[(13,40,0),(16,41,0)],42⟩ (.c (.l ⟨[.i,.l 24,.dh 22 6 [some 3] 42 0,.dm 23 0 3],[0,32,128,192,800,144,208,176,816],[0,1,7,9,2,8,10,12,42,15,19,13,18,16],[(832,.i IntKind.i64)],[],[(12,0,.h 45 135 24)],[(13,46,43),(16,47,0)],48⟩ (.c (.j ⟨[.l 24,.dh 22 6 [some 3] 42 0,.dm 23 0 3],[0,32,128,192,832,800,144,208,176,816],[0,1,7,9,2,8,10,12,42,15,19,13,18,16],[],[],[(12,0,.h 49 135 24)],[(13,50,43),(16,51,0)],52⟩ (.c .n (.c .n (.p (.l ⟨[.i,.l 24,.dh 22 6 [some 3] 42 0,.dm 23 0 3],[0,16,32],[0,1,7,15,19,9,49,13,2,8,16,48,12,10,18,50,42,51],[(64,.i IntKind.i64)],[],[(12,0,.h 55 135 24)],[(13,53,43),(16,54,0)],56⟩ (.c (.l ⟨[.i,.l 24,.dh 22 6 [some 3] 42 0,.dm 23 0 3],[0,16,32,64],[0,1,7,15,19,9,49,13,2,8,16,48,12,10,18,50,42,51],[(208,.i IntKind.i64)],[],[(12,0,.h 59 135 24)],[(13,57,43),(16,58,0)],60⟩ (.c (.s (.p (.w ⟨[.l 24,.dh 22 6 [some 3] 42 0,.dm 23 0 3],[],[15,13,16,12,18,42],[(0,.t [])],[],[(12,0,.h 67 135 24)],[(13,65,43),(16,66,0)],68⟩ (.l ⟨[.i],[16,32,64,224,48,80,208],[15,59,13,16,12,18,42,64,65,66],[(240,.i IntKind.i64)],[],[],[],70⟩ (.c .n (.w ⟨[.l 0,.l 24],[],[59,64,12],[(0,.h 70 3 0)],[],[],[(59,135,24)],71⟩ (.w ⟨[.i,.l 24],[],[59,64,12,66],[(0,.i IntKind.i64)],[],[],[(59,135,24)],70⟩ (.l ⟨[.i,.l 24],[0,16,112],[59,64,12,66],[(128,.i IntKind.i64)],[],[],[(59,135,24)],70⟩ (.c (.p (.k (.j ⟨[.l 24],[0,32],[59,64,12],[],[],[],[(59,135,24)],70⟩ .n .n))) .n)) (.c .n (.l ⟨[.i,.i,.l 24,.l 0],[0,16],[59,64,12,66],[(96,.i IntKind.i64),(80,.i IntKind.i64)],[],[],[(59,135,24),(66,3,0)],70⟩ (.c (.j ⟨[.i,.l 24,.l 0],[0,16,96],[59,64,12,66],[(80,.i IntKind.i64)],[],[],[(59,135,24),(66,3,0)],70⟩ (.p (.k (.j ⟨[.l 24],[0,32],[59,64,12],[],[],[],[(59,135,24)],70⟩ .n .n))) .n) .n)))) .n))) .n)) .n) .n)) .n))))) .n) .n)) .n)) (.c .n (.l ⟨[.i,.l 14],[208,176],[39],[(192,.i IntKind.i64),(224,.h 40 40 14)],[],[],[],41⟩ (.c .n (.p (.l ⟨[.i,.i,.l 14],[0],[40],[(32,.i IntKind.i64),(48,.i IntKind.i64)],[],[],[(40,40,14)],41⟩ .n))))))))))))))))))))))))))) rfl (by kernel_rfl)
theorem hf86:HF 86 Tryz.f86:=hK (by kernel_rfl)
def ref06_at(F:Nat)(a0:State):Option (Int):=
 chk (InR (a0.Hour*4)) (chk (InR (a0.Hour*(4:Int)+a0.Site)) (chk (InR ((a0.Hour*(4:Int)+a0.Site)*4)) (chk (InR ((a0.Hour*(4:Int)+a0.Site)*(4:Int)+a0.Cases.a0)) (chk (InR (((a0.Hour*(4:Int)+a0.Site)*(4:Int)+a0.Cases.a0)*16)) (chk (InR (a0.Cases.a1*4)) (chk (InR (((a0.Hour*(4:Int)+a0.Site)*(4:Int)+a0.Cases.a0)*(16:Int)+a0.Cases.a1*4)) (chk (InR (((a0.Hour*(4:Int)+a0.Site)*(4:Int)+a0.Cases.a0)*(16:Int)+a0.Cases.a1*(4:Int)+a0.Cases.a2)) (some (((a0.Hour*(4:Int)+a0.Site)*(4:Int)+a0.Cases.a0)*(16:Int)+a0.Cases.a1*(4:Int)+a0.Cases.a2)))))))))
def s86(F:Nat):CS E.G:=⟨86,[.v 13 true],[.v 0 false []],fun x=>ref06_at F x.1⟩
theorem c86(F:Nat):CSok E [] (s86 F):=mkC (cx:=⟨[],[],F,[],[]⟩) hf86 (by kernel_rfl) rfl all0 ⟨inl0,all0⟩ .n rfl (by kernel_rfl)
theorem hf104:HF 104 Tryz.f104:=hK (by kernel_rfl)
theorem en104:Proofs.Enters Tryz.prog 104:=mkE hf104 (by kernel_rfl) rfl
theorem hf83:HF 83 Tryz.f83:=hK (by kernel_rfl)
def ref06_fronts(F:Nat)(a0:Machine)(a1:Area2)(a2:State):Option ((List (List State))):=
 chk (0≤(15616:Int)∧(15616:Int)≤(15616:Int)∧(15616:Int)≤(100000:Int)) (join F (fun(x:List (List State))=>loopC (fun(x_1:Int×List (List State))=>fun x_2=>brk (decide (x_1.1<(↑(List.length x_1.2):Int))) (loopC (fun(x_3:Int×List (List State))=>fun x_4=>chk (0≤x_1.1∧x_1.1<(↑(List.length x_3.2):Int)) (brk (decide (x_3.1<(↑(List.length (List.getD x_3.2 (Int.toNat x_1.1) [])):Int))) (chk (0≤x_1.1∧x_1.1<(↑(List.length x_3.2):Int)) (chk (0≤x_3.1∧x_3.1<(↑(List.length (List.getD x_3.2 (Int.toNat x_1.1) [])):Int)) (bnd (ref06_can F a0 a1 (List.getD (List.getD x_3.2 (Int.toNat x_1.1) []) (Int.toNat x_3.1) (State.mk 0 0 0 0 0 0 (A3ofInt.mk 0 0 0)))) (fun x_5=>loopC (fun(x_6:Int×List (List State))=>fun x_7=>brk (decide (x_6.1<(↑(List.length x_5):Int))) (chk (0≤x_1.1∧x_1.1<(↑(List.length x_6.2):Int)) (chk (0≤x_3.1∧x_3.1<(↑(List.length (List.getD x_6.2 (Int.toNat x_1.1) [])):Int)) (chk (0≤x_6.1∧x_6.1<(↑(List.length x_5):Int)) (bnd (ref06_step F a0 a1 (List.getD (List.getD x_6.2 (Int.toNat x_1.1) []) (Int.toNat x_3.1) (State.mk 0 0 0 0 0 0 (A3ofInt.mk 0 0 0))) (List.getD x_5 (Int.toNat x_6.1) (Action.mk 0 0))) (fun x_8=>join F (fun(x_9:List (List State))=>chk (InR (x_6.1+1)) (x_7 ((x_6.1+1,x_9)))) (fun x_9=>bnd (ref06_at F x_8.1) (fun x_10=>chk (0≤x_10∧x_10<(↑(List.length x_6.2):Int)) (loopC (fun(x_11:Int×List State)=>fun x_12=>brk (decide (x_11.1<(↑(List.length (List.getD x_6.2 (Int.toNat x_10) [])):Int))) (join F (fun(x_13:List State)=>chk (InR (x_11.1+1)) (x_12 ((x_11.1+1,x_13)))) (fun x_13=>chk (0≤x_11.1∧x_11.1<(↑(List.length (List.getD x_6.2 (Int.toNat x_10) [])):Int)) (bnd (ref06_covers F (List.getD (List.getD x_6.2 (Int.toNat x_10) []) (Int.toNat x_11.1) (State.mk 0 0 0 0 0 0 (A3ofInt.mk 0 0 0))) x_8.1) (fun x_14=>brk x_14 (x_9 x_6.2) (chk (0≤x_11.1∧x_11.1<(↑(List.length (List.getD x_6.2 (Int.toNat x_10) [])):Int)) (bnd (ref06_covers F x_8.1 (List.getD (List.getD x_6.2 (Int.toNat x_10) []) (Int.toNat x_11.1) (State.mk 0 0 0 0 0 0 (A3ofInt.mk 0 0 0)))) (fun x_15=>brk (!x_15) (chk (0≤x_11.1∧x_11.1<(↑(List.length (List.getD x_6.2 (Int.toNat x_10) [])):Int)) (chk (List.length x_11.2+[List.getD (List.getD x_6.2 (Int.toNat x_10) []) (Int.toNat x_11.1) (State.mk 0 0 0 0 0 0 (A3ofInt.mk 0 0 0))].length≤(20000000000:Nat)) (x_13 (x_11.2++[List.getD (List.getD x_6.2 (Int.toNat x_10) []) (Int.toNat x_11.1) (State.mk 0 0 0 0 0 0 (A3ofInt.mk 0 0 0))])))) (x_13 x_11.2)))))))) (bnd (ref06_at F x_8.1) (fun x_13=>chk (List.length x_11.2+[x_8.1].length≤(20000000000:Nat)) (chk (0≤x_13∧x_13<(↑(List.length x_6.2):Int)) (x_9 (List.set x_6.2 (Int.toNat x_13) (x_11.2++[x_8.1]))))))) F (((0:Int),[])))))))))) (chk (InR (x_3.1+1)) (x_4 ((x_3.1+1,x_6.2))))) F (((0:Int),x_3.2)))))) (chk (InR (x_1.1+1)) (x_2 ((x_1.1+1,x_3.2)))))) F (((0:Int),x_1.2))) (some x_1.2)) F (((0:Int),x))) (fun x=>bnd (ref06_at F a2) (fun x_1=>chk (0≤x_1∧x_1<(↑(List.replicate (Int.toNat (15616:Int)) ([]:List State)).length:Int)) (loopC (fun(x_2:Int×List State)=>fun x_3=>brk (decide (x_2.1<(↑(List.length ((List.replicate (Int.toNat (15616:Int)) ([]:List State)).getD (Int.toNat x_1) [])):Int))) (join F (fun(x_4:List State)=>chk (InR (x_2.1+1)) (x_3 ((x_2.1+1,x_4)))) (fun x_4=>chk (0≤x_2.1∧x_2.1<(↑(List.length ((List.replicate (Int.toNat (15616:Int)) ([]:List State)).getD (Int.toNat x_1) [])):Int)) (bnd (ref06_covers F (List.getD ((List.replicate (Int.toNat (15616:Int)) ([]:List State)).getD (Int.toNat x_1) []) (Int.toNat x_2.1) (State.mk 0 0 0 0 0 0 (A3ofInt.mk 0 0 0))) a2) (fun x_5=>brk x_5 (x (List.replicate (Int.toNat (15616:Int)) ([]:List State))) (chk (0≤x_2.1∧x_2.1<(↑(List.length ((List.replicate (Int.toNat (15616:Int)) ([]:List State)).getD (Int.toNat x_1) [])):Int)) (bnd (ref06_covers F a2 (List.getD ((List.replicate (Int.toNat (15616:Int)) ([]:List State)).getD (Int.toNat x_1) []) (Int.toNat x_2.1) (State.mk 0 0 0 0 0 0 (A3ofInt.mk 0 0 0)))) (fun x_6=>brk (!x_6) (chk (0≤x_2.1∧x_2.1<(↑(List.length ((List.replicate (Int.toNat (15616:Int)) ([]:List State)).getD (Int.toNat x_1) [])):Int)) (chk (List.length x_2.2+[List.getD ((List.replicate (Int.toNat (15616:Int)) ([]:List State)).getD (Int.toNat x_1) []) (Int.toNat x_2.1) (State.mk 0 0 0 0 0 0 (A3ofInt.mk 0 0 0))].length≤(20000000000:Nat)) (x_4 (x_2.2++[List.getD ((List.replicate (Int.toNat (15616:Int)) ([]:List State)).getD (Int.toNat x_1) []) (Int.toNat x_2.1) (State.mk 0 0 0 0 0 0 (A3ofInt.mk 0 0 0))])))) (x_4 x_2.2)))))))) (bnd (ref06_at F a2) (fun x_4=>chk (List.length x_2.2+[a2].length≤(20000000000:Nat)) (chk (0≤x_4∧x_4<(↑(List.replicate (Int.toNat (15616:Int)) ([]:List State)).length:Int)) (x ((List.replicate (Int.toNat (15616:Int)) ([]:List State)).set (Int.toNat x_4) (x_2.2++[a2]))))))) F (((0:Int),[]))))))
def s83(F:Nat):CS E.G:=⟨83,[.v 7 true,.v 18 true,.v 13 true],[.sl 22 103],fun x=>ref06_fronts F x.1 x.2.1 x.2.2.1⟩
theorem c83(F:Nat):CSok E [] (s83 F):=mkC (cx:=⟨[s74 F,s75 F,s77 F,s86 F],[(104,Tryz.f104)],F,[],[]⟩) hf83 (by kernel_rfl) rfl (allC (c74 F) (allC (c75 F) (allC (c77 F) (allC (c86 F) all0)))) ⟨(inlC hf104 en104 inl0),all0⟩ (.w ⟨[.l 22],[],[6],[(0,.t [])],[],[],[(6,103,22)],7⟩ (.l ⟨[.i,.l 13],[0,64,48],[6,8,7],[(96,.i IntKind.i64),(80,.h 9 65 13)],[],[],[],10⟩ (.c (.j ⟨[.l 13],[0,64,96,48],[6,8,7],[(80,.h 10 65 13)],[],[],[],11⟩ (.c .n .n) .n) .n)) (.l ⟨[.i,.l 22],[64,48,112],[4,3,6,2,1,0],[(128,.i IntKind.i64)],[],[],[(6,103,22)],7⟩ (.c (.l ⟨[.i,.l 22],[64,128,48,112],[4,3,6,2,1,0],[(144,.i IntKind.i64)],[],[],[(6,103,22)],7⟩ (.c (.l ⟨[.i,.l 22],[64,128,160,48,144,112],[4,9,3,6,2,1,0],[(176,.i IntKind.i64)],[],[],[(6,103,22)],10⟩ (.c (.w ⟨[.l 22],[],[6],[(0,.t [])],[],[],[(6,103,22)],12⟩ (.l ⟨[.i,.l 13],[0,64,48],[6,13,12],[(96,.i IntKind.i64),(80,.h 14 65 13)],[],[],[],15⟩ (.c (.j ⟨[.l 13],[0,64,96,48],[6,13,12],[(80,.h 15 65 13)],[],[],[],16⟩ (.c .n .n) .n) .n)) .n) .n)) .n)) .n))) rfl (by kernel_rfl)
theorem hf82:HF 82 Tryz.f82:=hK (by kernel_rfl)
def ref06_End(F:Nat)(a0:Machine)(a1:Area2)(a2:State):Option (Int):=
 bnd (ref06_fronts F a0 a1 a2) (fun x=>loopC (fun(x_1:Int)=>fun x_2=>brk (decide (x_1<(↑(List.length x):Int))) (loopC (fun(x_3:Int)=>fun x_4=>chk (0≤x_1∧x_1<(↑(List.length x):Int)) (brk (decide (x_3<(↑(List.length (List.getD x (Int.toNat x_1) [])):Int))) (chk (0≤x_1∧x_1<(↑(List.length x):Int)) (chk (0≤x_3∧x_3<(↑(List.length (List.getD x (Int.toNat x_1) [])):Int)) (bnd (ref06_finished F a1 (List.getD (List.getD x (Int.toNat x_1) []) (Int.toNat x_3) (State.mk 0 0 0 0 0 0 (A3ofInt.mk 0 0 0)))) (fun x_5=>brk x_5 (chk (0≤x_1∧x_1<(↑(List.length x):Int)) (chk (0≤x_3∧x_3<(↑(List.length (List.getD x (Int.toNat x_1) [])):Int)) (some ((List.getD (List.getD x (Int.toNat x_1) []) (Int.toNat x_3) (State.mk 0 0 0 0 0 0 (A3ofInt.mk 0 0 0))).Hour)))) (chk (InR (x_3+1)) (x_4 (x_3+1))))))) (chk (InR (x_1+1)) (x_2 (x_1+1))))) F (0:Int)) (some (-1:Int))) F (0:Int))
def s82(F:Nat):CS E.G:=⟨82,[.v 7 true,.v 18 true,.v 13 true],[.v 0 false []],fun x=>ref06_End F x.1 x.2.1 x.2.2.1⟩
theorem c82(F:Nat):CSok E [] (s82 F):=mkC (cx:=⟨[s76 F,s83 F],[],F,[],[]⟩) hf82 (by kernel_rfl) rfl (allC (c76 F) (allC (c83 F) all0)) ⟨inl0,all0⟩ (.l ⟨[.i],[64,112],[4,6,2,1,0],[(128,.i IntKind.i64)],[],[],[],7⟩ (.c (.l ⟨[.i],[64,128,112],[4,6,2,1,0],[(144,.i IntKind.i64)],[],[],[],7⟩ (.c .n .n)) .n)) rfl (by kernel_rfl)
theorem hf41:HF 41 Tryz.f41:=hK (by kernel_rfl)
def ref06_Find(F:Nat)(a0:Machine)(a1:Area2)(a2:State):Option (Int×Int):=
 bnd (ref06_begun F a0 a1 a2) (fun x=>brk (x != 0) (some ((0:Int),x)) (bnd (ref06_End F a0 a1 a2) (fun x_1=>brk (decide (x_1<0)) (some ((0:Int),(4:Int))) (some (x_1,(0:Int))))))
def s41(F:Nat):CS E.G:=⟨41,[.v 7 true,.v 18 true,.v 13 true],[.v 0 false [],.v 0 false []],fun x=>ref06_Find F x.1 x.2.1 x.2.2.1⟩
theorem c41(F:Nat):CSok E [] (s41 F):=mkC (cx:=⟨[s73 F,s82 F],[],F,[],[]⟩) hf41 (by kernel_rfl) rfl (allC (c73 F) (allC (c82 F) all0)) ⟨inl0,all0⟩ (.c .n .n) rfl (by kernel_rfl)
theorem hf84:HF 84 Tryz.f84:=hK (by kernel_rfl)
def ref06_before(F:Nat)(a0:State)(a1:State):Option (Bool):=
 brk (a0.Fuel != a1.Fuel) (some (decide (a0.Fuel<a1.Fuel))) (brk (a0.Awake != a1.Awake) (some (decide (a0.Awake<a1.Awake))) (some (decide (a0.Worn<a1.Worn))))
def s84(F:Nat):CS E.G:=⟨84,[.v 13 true,.v 13 true],[.v 1 false []],fun x=>ref06_before F x.1 x.2.1⟩
theorem c84(F:Nat):CSok E [] (s84 F):=mkC (cx:=⟨[],[],F,[],[]⟩) hf84 (by kernel_rfl) rfl all0 ⟨inl0,all0⟩ (.c .n .n) rfl (by kernel_rfl)
theorem hf42:HF 42 Tryz.f42:=hK (by kernel_rfl)
def ref06_Front(F:Nat)(a0:Machine)(a1:Area2)(a2:State):Option ((List State)×Int):=
 bnd (ref06_begun F a0 a1 a2) (fun x=>brk (x != 0) (some ([],x)) (bnd (ref06_fronts F a0 a1 a2) (fun x_1=>loopC (fun(x_2:List State×Int)=>fun x_3=>brk (decide (x_2.2<(↑(List.length x_1):Int))) (chk (0≤x_2.2∧x_2.2<(↑(List.length x_1):Int)) (chk ((0:Nat)+List.length (List.getD x_1 (Int.toNat x_2.2) [])≤(20000000000:Nat)) (loopC (fun(x_4:Int×List State)=>fun x_5=>brk (decide (x_4.1<(↑(List.length x_4.2):Int))) (loopC (fun(x_6:Int×List State)=>fun x_7=>chk (decide (x_6.1>0)=true→0≤x_6.1∧x_6.1<(↑(List.length x_6.2):Int)) (chk (decide (x_6.1>0)=true→InR (x_6.1-1)) (chk (decide (x_6.1>0)=true→0≤x_6.1-1∧x_6.1-1<(↑(List.length x_6.2):Int)) (bnd (brk (decide (x_6.1>0)) (ref06_before F (List.getD x_6.2 (Int.toNat x_6.1) (State.mk 0 0 0 0 0 0 (A3ofInt.mk 0 0 0))) (List.getD x_6.2 (x_6.1-1).toNat (State.mk 0 0 0 0 0 0 (A3ofInt.mk 0 0 0)))) (some false)) (fun x_8=>brk (decide (x_6.1>0)&&x_8) (chk (InR (x_6.1-1)) (chk (InR (x_6.1-1)) (chk (0≤x_6.1-1∧x_6.1-1<(↑(List.length x_6.2):Int)) (chk (0≤x_6.1∧x_6.1<(↑(List.length x_6.2):Int)) (chk (0≤x_6.1∧x_6.1<(↑(List.length x_6.2):Int)) (chk (0≤x_6.1-1∧x_6.1-1<(↑(List.set x_6.2 (Int.toNat x_6.1) (List.getD x_6.2 (x_6.1-1).toNat (State.mk 0 0 0 0 0 0 (A3ofInt.mk 0 0 0)))).length:Int)) (chk (InR (x_6.1-1)) (x_7 ((x_6.1-1,(List.set x_6.2 (Int.toNat x_6.1) (List.getD x_6.2 (x_6.1-1).toNat (State.mk 0 0 0 0 0 0 (A3ofInt.mk 0 0 0)))).set (x_6.1-1).toNat (List.getD x_6.2 (Int.toNat x_6.1) (State.mk 0 0 0 0 0 0 (A3ofInt.mk 0 0 0))))))))))))) (chk (InR (x_4.1+1)) (x_5 ((x_4.1+1,x_6.2))))))))) F x_4) (chk (List.length x_2.1+List.length x_4.2≤(20000000000:Nat)) (chk (InR (x_2.2+1)) (x_3 ((x_2.1++x_4.2,x_2.2+1)))))) F (((0:Int),[]++List.getD x_1 (Int.toNat x_2.2) []))))) (brk (decide ((↑(List.length x_2.1):Int)>30000)) (some ([],(8:Int))) (some (x_2.1,(0:Int))))) F (([],(0:Int))))))
def s42(F:Nat):CS E.G:=⟨42,[.v 7 true,.v 18 true,.v 13 true],[.sl 13 65,.v 0 false []],fun x=>ref06_Front F x.1 x.2.1 x.2.2.1⟩
theorem c42(F:Nat):CSok E [] (s42 F):=mkC (cx:=⟨[s73 F,s83 F,s84 F],[],F,[],[]⟩) hf42 (by kernel_rfl) rfl (allC (c73 F) (allC (c83 F) (allC (c84 F) all0))) ⟨inl0,all0⟩ (.c .n (.l ⟨[.l 13,.i],[144],[6],[(160,.h 7 65 13),(176,.i IntKind.i64)],[],[],[],8⟩ (.c (.l ⟨[.i,.l 13],[192,160,144,176],[10,7,6],[(208,.i IntKind.i64)],[],[],[(10,65,13)],11⟩ (.c (.l ⟨[.i,.l 13],[192,160,144,208,176],[10,7,6],[(224,.i IntKind.i64)],[],[],[(10,65,13)],11⟩ .n) .n)) .n))) rfl (by kernel_rfl)
theorem hf43:HF 43 Tryz.f43:=hK (by kernel_rfl)
def slices_Equal_polynyaref06_State(F:Nat)(a0:List State)(a1:List State):Option (Bool):=
 brk ((↑a0.length:Int) != (↑a1.length:Int)) (some (false)) (loopC (fun(x:Int)=>fun x_1=>brk (decide (x<(↑a0.length:Int))) (chk (0≤x∧x<(↑a0.length:Int)) (chk (0≤x∧x<(↑a1.length:Int)) (brk (!((a0.getD (Int.toNat x) (State.mk 0 0 0 0 0 0 (A3ofInt.mk 0 0 0))).Hour==(a1.getD (Int.toNat x) (State.mk 0 0 0 0 0 0 (A3ofInt.mk 0 0 0))).Hour&&((a0.getD (Int.toNat x) (State.mk 0 0 0 0 0 0 (A3ofInt.mk 0 0 0))).Site==(a1.getD (Int.toNat x) (State.mk 0 0 0 0 0 0 (A3ofInt.mk 0 0 0))).Site&&((a0.getD (Int.toNat x) (State.mk 0 0 0 0 0 0 (A3ofInt.mk 0 0 0))).Fuel==(a1.getD (Int.toNat x) (State.mk 0 0 0 0 0 0 (A3ofInt.mk 0 0 0))).Fuel&&((a0.getD (Int.toNat x) (State.mk 0 0 0 0 0 0 (A3ofInt.mk 0 0 0))).Awake==(a1.getD (Int.toNat x) (State.mk 0 0 0 0 0 0 (A3ofInt.mk 0 0 0))).Awake&&((a0.getD (Int.toNat x) (State.mk 0 0 0 0 0 0 (A3ofInt.mk 0 0 0))).Worn==(a1.getD (Int.toNat x) (State.mk 0 0 0 0 0 0 (A3ofInt.mk 0 0 0))).Worn&&((a0.getD (Int.toNat x) (State.mk 0 0 0 0 0 0 (A3ofInt.mk 0 0 0))).Notch==(a1.getD (Int.toNat x) (State.mk 0 0 0 0 0 0 (A3ofInt.mk 0 0 0))).Notch&&((a0.getD (Int.toNat x) (State.mk 0 0 0 0 0 0 (A3ofInt.mk 0 0 0))).Cases.a0==(a1.getD (Int.toNat x) (State.mk 0 0 0 0 0 0 (A3ofInt.mk 0 0 0))).Cases.a0&&((a0.getD (Int.toNat x) (State.mk 0 0 0 0 0 0 (A3ofInt.mk 0 0 0))).Cases.a1==(a1.getD (Int.toNat x) (State.mk 0 0 0 0 0 0 (A3ofInt.mk 0 0 0))).Cases.a1&&((a0.getD (Int.toNat x) (State.mk 0 0 0 0 0 0 (A3ofInt.mk 0 0 0))).Cases.a2==(a1.getD (Int.toNat x) (State.mk 0 0 0 0 0 0 (A3ofInt.mk 0 0 0))).Cases.a2&&true))&&true)))))))) (some (false)) (chk (InR (x+1)) (x_1 (x+1)))))) (some (true))) F (0:Int))
def s43(F:Nat):CS E.G:=⟨43,[.sl 13,.sl 13],[.v 1 false []],fun x=>slices_Equal_polynyaref06_State F x.1 x.2.1⟩
theorem c43(F:Nat):CSok E [] (s43 F):=mkC (cx:=⟨[],[],F,[],[]⟩) hf43 (by kernel_rfl) rfl all0 ⟨inl0,all0⟩ (.c .n (.l ⟨[.i],[0,16,192],[0,1],[(208,.i IntKind.i64)],[],[],[],2⟩ (.c .n .n))) rfl (by kernel_rfl)
theorem hf44:HF 44 Tryz.f44:=hK (by kernel_rfl)
def law06_states(F:Nat)(a0:List State):Option ((List State)):=
 loopC (fun(x:Int×List State)=>fun x_1=>brk (decide (x.1<(↑a0.length:Int))) (chk (0≤x.1∧x.1<(↑a0.length:Int)) (chk (List.length x.2+[a0.getD (Int.toNat x.1) (State.mk 0 0 0 0 0 0 (A3ofInt.mk 0 0 0))].length≤(20000000000:Nat)) (chk (InR (x.1+1)) (x_1 ((x.1+1,x.2++[a0.getD (Int.toNat x.1) (State.mk 0 0 0 0 0 0 (A3ofInt.mk 0 0 0))])))))) (some x.2)) F (((0:Int),[]))
def s44(F:Nat):CS E.G:=⟨44,[.sl 13],[.sl 13 65],fun x=>law06_states F x.1⟩
theorem c44(F:Nat):CSok E [] (s44 F):=mkC (cx:=⟨[],[],F,[],[]⟩) hf44 (by kernel_rfl) rfl all0 ⟨inl0,all0⟩ (.l ⟨[.i,.l 13],[96,112],[0],[(128,.i IntKind.i64),(48,.h 1 65 13)],[],[],[],2⟩ .n) rfl (by kernel_rfl)
theorem hf87:HF 87 Tryz.f87:=hK (by kernel_rfl)
def ref06_covered(F:Nat)(a0:List (List State))(a1:State):Option (Bool):=
 bnd (ref06_at F a1) (fun x=>chk (0≤x∧x<(↑a0.length:Int)) (loopC (fun(x_1:Int)=>fun x_2=>brk (decide (x_1<(↑(List.length (a0.getD (Int.toNat x) [])):Int))) (chk (0≤x_1∧x_1<(↑(List.length (a0.getD (Int.toNat x) [])):Int)) (bnd (ref06_covers F (List.getD (a0.getD (Int.toNat x) []) (Int.toNat x_1) (State.mk 0 0 0 0 0 0 (A3ofInt.mk 0 0 0))) a1) (fun x_3=>brk x_3 (some (true)) (chk (InR (x_1+1)) (x_2 (x_1+1)))))) (some (false))) F (0:Int)))
def s87(F:Nat):CS E.G:=⟨87,[.sl 22,.v 13 true],[.v 1 false []],fun x=>ref06_covered F x.1 x.2.1⟩
theorem c87(F:Nat):CSok E [] (s87 F):=mkC (cx:=⟨[s77 F,s86 F],[],F,[],[]⟩) hf87 (by kernel_rfl) rfl (allC (c77 F) (allC (c86 F) all0)) ⟨inl0,all0⟩ (.l ⟨[.i],[48,80],[1,2],[(96,.i IntKind.i64)],[],[],[],3⟩ (.c .n .n)) rfl (by kernel_rfl)
theorem hf45:HF 45 Tryz.f45:=hK (by kernel_rfl)
def ref06_Proves(F:Nat)(a0:Machine)(a1:Area2)(a2:State)(a3:List State):Option (Bool×Int):=
 bnd (ref06_begun F a0 a1 a2) (fun x=>brk (x != 0) (some (false,x)) (brk (decide ((↑a3.length:Int)>30000)) (some (false,(8:Int))) (chk (0≤(15616:Int)∧(15616:Int)≤(15616:Int)∧(15616:Int)≤(100000:Int)) (loopC (fun(x_1:Int×List (List State))=>fun x_2=>brk (decide (x_1.1<(↑a3.length:Int))) (chk (0≤x_1.1∧x_1.1<(↑a3.length:Int)) (bnd (ref06_state F a0 a1 (a3.getD (Int.toNat x_1.1) (State.mk 0 0 0 0 0 0 (A3ofInt.mk 0 0 0)))) (fun x_3=>brk (!x_3) (some (false,(9:Int))) (chk (0≤x_1.1∧x_1.1<(↑a3.length:Int)) (bnd (ref06_at F (a3.getD (Int.toNat x_1.1) (State.mk 0 0 0 0 0 0 (A3ofInt.mk 0 0 0)))) (fun x_4=>chk (0≤x_1.1∧x_1.1<(↑a3.length:Int)) (bnd (ref06_at F (a3.getD (Int.toNat x_1.1) (State.mk 0 0 0 0 0 0 (A3ofInt.mk 0 0 0)))) (fun x_5=>chk (0≤x_5∧x_5<(↑(Int.toNat (15616:Int)):Int)) (chk (0≤x_1.1∧x_1.1<(↑a3.length:Int)) (chk (List.length (List.getD x_1.2 (Int.toNat x_5) [])+[a3.getD (Int.toNat x_1.1) (State.mk 0 0 0 0 0 0 (A3ofInt.mk 0 0 0))].length≤(20000000000:Nat)) (chk (0≤x_4∧x_4<(↑(Int.toNat (15616:Int)):Int)) (chk (x_4=x_5) (chk (InR (x_1.1+1)) (x_2 ((x_1.1+1,List.set x_1.2 (Int.toNat x_5) (List.getD x_1.2 (Int.toNat x_5) []++[a3.getD (Int.toNat x_1.1) (State.mk 0 0 0 0 0 0 (A3ofInt.mk 0 0 0))]))))))))))))))))) (loopC (fun(x_3:Int)=>fun x_4=>brk (decide (x_3<(↑a3.length:Int))) (chk (0≤x_3∧x_3<(↑a3.length:Int)) (bnd (ref06_finished F a1 (a3.getD (Int.toNat x_3) (State.mk 0 0 0 0 0 0 (A3ofInt.mk 0 0 0)))) (fun x_5=>brk x_5 (some (false,(0:Int))) (chk (InR (x_3+1)) (x_4 (x_3+1)))))) (bnd (ref06_covered F x_1.2 a2) (fun x_5=>brk (!x_5) (some (false,(0:Int))) (loopC (fun(x_6:Int)=>fun x_7=>brk (decide (x_6<(↑a3.length:Int))) (chk (0≤x_6∧x_6<(↑a3.length:Int)) (bnd (ref06_can F a0 a1 (a3.getD (Int.toNat x_6) (State.mk 0 0 0 0 0 0 (A3ofInt.mk 0 0 0)))) (fun x_8=>loopC (fun(x_9:Int)=>fun x_10=>brk (decide (x_9<(↑(List.length x_8):Int))) (chk (0≤x_6∧x_6<(↑a3.length:Int)) (chk (0≤x_9∧x_9<(↑(List.length x_8):Int)) (bnd (ref06_step F a0 a1 (a3.getD (Int.toNat x_6) (State.mk 0 0 0 0 0 0 (A3ofInt.mk 0 0 0))) (List.getD x_8 (Int.toNat x_9) (Action.mk 0 0))) (fun x_11=>bnd (ref06_covered F x_1.2 x_11.1) (fun x_12=>brk (!x_12) (some (false,(0:Int))) (chk (InR (x_9+1)) (x_10 (x_9+1)))))))) (chk (InR (x_6+1)) (x_7 (x_6+1)))) F (0:Int)))) (some (true,(0:Int)))) F (0:Int))))) F (0:Int))) F (((0:Int),List.replicate (Int.toNat (15616:Int)) []))))))
def s45(F:Nat):CS E.G:=⟨45,[.v 7 true,.v 18 true,.v 13 true,.sl 13],[.v 1 false [],.v 0 false []],fun x=>ref06_Proves F x.1 x.2.1 x.2.2.1 x.2.2.2.1⟩
theorem c45(F:Nat):CSok E [] (s45 F):=mkC (cx:=⟨[s73 F,s74 F,s75 F,s76 F,s85 F,s86 F,s87 F],[],F,[(6,0)],[]⟩) hf45 (by kernel_rfl) rfl (allC (c73 F) (allC (c74 F) (allC (c75 F) (allC (c76 F) (allC (c85 F) (allC (c86 F) (allC (c87 F) all0))))))) ⟨inl0,all0⟩ (.c .n (.c .n (.l ⟨[.i,.d 103 22 [some 65]],[64,96,48,80,176],[4,6,3,5,7,2,1,0],[(192,.i IntKind.i64)],[],[],[(7,9,0)],10⟩ (.c .n (.l ⟨[.i],[64,96,48,80,176],[4,6,3,5,7,2,1,0],[(208,.i IntKind.i64)],[],[],[],10⟩ (.c .n (.c .n (.l ⟨[.i],[64,48,80,176],[4,3,5,7,2,1,0],[(224,.i IntKind.i64)],[],[],[],10⟩ (.c (.l ⟨[.i],[64,224,48,80,176,240],[4,3,5,7,10,2,1,0],[(256,.i IntKind.i64)],[],[],[],11⟩ (.c .n .n)) .n))))))))) rfl (by kernel_rfl)
theorem hf46:HF 46 Tryz.f46:=hK (by kernel_rfl)
def slices_Equal_breaker_State(F:Nat)(a0:List State)(a1:List State):Option (Bool):=
 brk ((↑a0.length:Int) != (↑a1.length:Int)) (some (false)) (loopC (fun(x:Int)=>fun x_1=>brk (decide (x<(↑a0.length:Int))) (chk (0≤x∧x<(↑a0.length:Int)) (chk (0≤x∧x<(↑a1.length:Int)) (brk (!((a0.getD (Int.toNat x) (State.mk 0 0 0 0 0 0 (A3ofInt.mk 0 0 0))).Hour==(a1.getD (Int.toNat x) (State.mk 0 0 0 0 0 0 (A3ofInt.mk 0 0 0))).Hour&&((a0.getD (Int.toNat x) (State.mk 0 0 0 0 0 0 (A3ofInt.mk 0 0 0))).Site==(a1.getD (Int.toNat x) (State.mk 0 0 0 0 0 0 (A3ofInt.mk 0 0 0))).Site&&((a0.getD (Int.toNat x) (State.mk 0 0 0 0 0 0 (A3ofInt.mk 0 0 0))).Fuel==(a1.getD (Int.toNat x) (State.mk 0 0 0 0 0 0 (A3ofInt.mk 0 0 0))).Fuel&&((a0.getD (Int.toNat x) (State.mk 0 0 0 0 0 0 (A3ofInt.mk 0 0 0))).Awake==(a1.getD (Int.toNat x) (State.mk 0 0 0 0 0 0 (A3ofInt.mk 0 0 0))).Awake&&((a0.getD (Int.toNat x) (State.mk 0 0 0 0 0 0 (A3ofInt.mk 0 0 0))).Worn==(a1.getD (Int.toNat x) (State.mk 0 0 0 0 0 0 (A3ofInt.mk 0 0 0))).Worn&&((a0.getD (Int.toNat x) (State.mk 0 0 0 0 0 0 (A3ofInt.mk 0 0 0))).Notch==(a1.getD (Int.toNat x) (State.mk 0 0 0 0 0 0 (A3ofInt.mk 0 0 0))).Notch&&((a0.getD (Int.toNat x) (State.mk 0 0 0 0 0 0 (A3ofInt.mk 0 0 0))).Cases.a0==(a1.getD (Int.toNat x) (State.mk 0 0 0 0 0 0 (A3ofInt.mk 0 0 0))).Cases.a0&&((a0.getD (Int.toNat x) (State.mk 0 0 0 0 0 0 (A3ofInt.mk 0 0 0))).Cases.a1==(a1.getD (Int.toNat x) (State.mk 0 0 0 0 0 0 (A3ofInt.mk 0 0 0))).Cases.a1&&((a0.getD (Int.toNat x) (State.mk 0 0 0 0 0 0 (A3ofInt.mk 0 0 0))).Cases.a2==(a1.getD (Int.toNat x) (State.mk 0 0 0 0 0 0 (A3ofInt.mk 0 0 0))).Cases.a2&&true))&&true)))))))) (some (false)) (chk (InR (x+1)) (x_1 (x+1)))))) (some (true))) F (0:Int))
def s46(F:Nat):CS E.G:=⟨46,[.sl 13,.sl 13],[.v 1 false []],fun x=>slices_Equal_breaker_State F x.1 x.2.1⟩
theorem c46(F:Nat):CSok E [] (s46 F):=mkC (cx:=⟨[],[],F,[],[]⟩) hf46 (by kernel_rfl) rfl all0 ⟨inl0,all0⟩ (.c .n (.l ⟨[.i],[0,16,192],[0,1],[(208,.i IntKind.i64)],[],[],[],2⟩ (.c .n .n))) rfl (by kernel_rfl)
theorem hf6:HF 6 Tryz.f6:=hK (by kernel_rfl)
def law06_plans(F:Nat)(a0:Machine)(a1:Area)(a2:State)(a3:List State):Option (Bool):=
 bnd (law06_heavy F a1) (fun x=>brk (x||decide ((↑a3.length:Int)>400)) (some (true)) (bnd (law06_CopyArea F a1) (fun x_1=>bnd (slices_Clone_breaker_State F a3) (fun x_2=>bnd (law06_Area F a1) (fun x_3=>bnd (breaker_Find F a0 x_1 a2) (fun x_4=>bnd (ref06_Find F a0 x_3 a2) (fun x_5=>brk (x_4.2.1 != x_5.1||x_4.2.2 != x_5.2) (some (false)) (join F (fun(x_6:PUnit)=>bnd (breaker_Front F a0 x_1 a2) (fun x_7=>bnd (ref06_Front F a0 x_3 a2) (fun x_8=>brk (x_7.2 != x_8.2) (some (false)) (bnd (law06_states F x_7.1) (fun x_9=>bnd (slices_Equal_polynyaref06_State F x_9 x_8.1) (fun x_10=>brk (!x_10) (some (false)) (bnd (breaker_Proves F a0 x_1 a2 x_2) (fun x_11=>bnd (law06_states F a3) (fun x_12=>bnd (ref06_Proves F a0 x_3 a2 x_12) (fun x_13=>bnd (brk (x_11.1==x_13.1&&x_11.2==x_13.2) (law06_sameArea F a1 x_1) (some false)) (fun x_14=>bnd (brk (x_11.1==x_13.1&&x_11.2==x_13.2&&x_14) (slices_Equal_breaker_State F x_2 a3) (some false)) (fun x_15=>some (x_11.1==x_13.1&&x_11.2==x_13.2&&x_14&&x_15))))))))))))) (fun x_6=>brk (x_4.2.2==0) (bnd (law06_actions F x_4.1) (fun x_7=>bnd (ref06_Verify F a0 x_3 a2 x_7) (fun x_8=>brk (x_8.1 != x_4.2.1||x_8.2 != 0) (some (false)) (x_6 (()))))) (brk ((↑(List.length x_4.1):Int) != 0) (some (false)) (x_6 (()))))))))))))
def s6(F:Nat):CS E.G:=⟨6,[.v 7 true,.v 11 true,.v 13 true,.sl 13],[.v 1 false []],fun x=>law06_plans F x.1 x.2.1 x.2.2.1 x.2.2.2.1⟩
theorem c6(F:Nat):CSok E [] (s6 F):=mkC (cx:=⟨[s12 F,s13 F,s15 F,s16 F,s18 F,s25 F,s36 F,s37 F,s39 F,s40 F,s41 F,s42 F,s43 F,s44 F,s45 F,s46 F],[],F,[],[]⟩) hf6 (by kernel_rfl) rfl (allC (c12 F) (allC (c13 F) (allC (c15 F) (allC (c16 F) (allC (c18 F) (allC (c25 F) (allC (c36 F) (allC (c37 F) (allC (c39 F) (allC (c40 F) (allC (c41 F) (allC (c42 F) (allC (c43 F) (allC (c44 F) (allC (c45 F) (allC (c46 F) all0)))))))))))))))) ⟨inl0,all0⟩ (.c .n (.c .n (.j ⟨[],[64,192,96,160,48,80,144,208,176],[4,16,6,10,3,5,11,17,15,14,13,12,2,1,0,9,8,7],[],[],[],[],19⟩ (.c .n .n) (.s .n .n)))) rfl (by kernel_rfl)
theorem hf88:HF 88 Tryz.f88:=hK (by kernel_rfl)
def math_bits_Mul32(F:Nat)(a0:Int)(a1:Int):Option (Int×Int):=
 chk (0≤(32:Int)∧(32:Int)≤(↑IntKind.u64.bits:Int)) (some ((IntKind.u32.wrap ((IntKind.u64.wrap (IntKind.u64.wrap a0*IntKind.u64.wrap a1)).fdiv ((2:Int) ^ Int.toNat (32:Int))),IntKind.u32.wrap (IntKind.u64.wrap (IntKind.u64.wrap a0*IntKind.u64.wrap a1)))))
def s88(F:Nat):CS E.G:=⟨88,[.v 27 false,.v 27 false],[.v 27 false [],.v 27 false []],fun x=>math_bits_Mul32 F x.1 x.2.1⟩
theorem c88(F:Nat):CSok E [] (s88 F):=mkC (cx:=⟨[],[],F,[],[]⟩) hf88 (by kernel_rfl) rfl all0 ⟨inl0,all0⟩ .n rfl (by kernel_rfl)
theorem hf89:HF 89 Tryz.f89:=hK (by kernel_rfl)
def math_bits_Mul64(F:Nat)(a0:Int)(a1:Int):Option (Int×Int):=
 chk (0≤a0∧a0≤18446744073709551615) (chk (0≤(32:Int)∧(32:Int)≤(↑IntKind.u64.bits:Int)) (chk (0≤a1∧a1≤18446744073709551615) (chk (0≤(32:Int)∧(32:Int)≤(↑IntKind.u64.bits:Int)) (chk (0≤(32:Int)∧(32:Int)≤(↑IntKind.u64.bits:Int)) (chk ((0:Int)≤IntKind.u64.wrap (IntKind.u64.wrap (a0.fdiv ((2:Int) ^ Int.toNat (32:Int))*landI a1 (4294967295:Int))+(IntKind.u64.wrap (landI a0 (4294967295:Int)*landI a1 (4294967295:Int))).fdiv ((2:Int) ^ Int.toNat (32:Int)))∧IntKind.u64.wrap (IntKind.u64.wrap (a0.fdiv ((2:Int) ^ Int.toNat (32:Int))*landI a1 (4294967295:Int))+(IntKind.u64.wrap (landI a0 (4294967295:Int)*landI a1 (4294967295:Int))).fdiv ((2:Int) ^ Int.toNat (32:Int)))≤18446744073709551615) (chk (0≤(32:Int)∧(32:Int)≤(↑IntKind.u64.bits:Int)) (chk (0≤(32:Int)∧(32:Int)≤(↑IntKind.u64.bits:Int)) (some ((IntKind.u64.wrap (IntKind.u64.wrap (IntKind.u64.wrap (a0.fdiv ((2:Int) ^ Int.toNat (32:Int))*a1.fdiv ((2:Int) ^ Int.toNat (32:Int)))+(IntKind.u64.wrap (IntKind.u64.wrap (a0.fdiv ((2:Int) ^ Int.toNat (32:Int))*landI a1 (4294967295:Int))+(IntKind.u64.wrap (landI a0 (4294967295:Int)*landI a1 (4294967295:Int))).fdiv ((2:Int) ^ Int.toNat (32:Int)))).fdiv ((2:Int) ^ Int.toNat (32:Int)))+(IntKind.u64.wrap (landI (IntKind.u64.wrap (IntKind.u64.wrap (a0.fdiv ((2:Int) ^ Int.toNat (32:Int))*landI a1 (4294967295:Int))+(IntKind.u64.wrap (landI a0 (4294967295:Int)*landI a1 (4294967295:Int))).fdiv ((2:Int) ^ Int.toNat (32:Int)))) (4294967295:Int)+IntKind.u64.wrap (landI a0 (4294967295:Int)*a1.fdiv ((2:Int) ^ Int.toNat (32:Int))))).fdiv ((2:Int) ^ Int.toNat (32:Int))),IntKind.u64.wrap (a0*a1)))))))))))
def s89(F:Nat):CS E.G:=⟨89,[.v 4 false,.v 4 false],[.v 4 false [],.v 4 false []],fun x=>math_bits_Mul64 F x.1 x.2.1⟩
theorem c89(F:Nat):CSok E [] (s89 F):=mkC (cx:=⟨[],[],F,[],[]⟩) hf89 (by kernel_rfl) rfl all0 ⟨inl0,all0⟩ .n rfl (by kernel_rfl)
theorem hf47:HF 47 Tryz.f47:=hK (by kernel_rfl)
def math_bits_Mul(F:Nat)(a0:Int)(a1:Int):Option (Int×Int):=
 bnd (math_bits_Mul64 F a0 a1) (fun x=>some x)
def s47(F:Nat):CS E.G:=⟨47,[.v 4 false,.v 4 false],[.v 4 false [],.v 4 false []],fun x=>math_bits_Mul F x.1 x.2.1⟩
theorem c47(F:Nat):CSok E [] (s47 F):=mkC (cx:=⟨[s88 F,s89 F],[],F,[],[]⟩) hf47 (by kernel_rfl) rfl (allC (c88 F) (allC (c89 F) all0)) ⟨inl0,all0⟩ .n rfl (by kernel_rfl)
theorem hf7:HF 7 Tryz.f7:=hK (by kernel_rfl)
def slices_Repeat_int(F:Nat)(a0:List Int)(a1:Int):Option ((List Int)):=
 brk (decide (a1<0)) none (bnd (math_bits_Mul F (IntKind.u64.wrap (↑a0.length:Int)) (IntKind.u64.wrap a1)) (fun x=>brk (decide (x.1>0)||decide (x.2>9223372036854775807)) none (chk (InR x.2) (chk (0≤x.2∧x.2≤x.2∧x.2≤100000) (loopC (fun(x_1:Int×List Int)=>fun x_2=>brk (decide (x_1.1<(↑(List.length x_1.2):Int))) (chk (0≤x_1.1∧x_1.1≤(↑(List.length x_1.2):Int)∧(↑(List.length x_1.2):Int)≤(↑(List.length x_1.2):Int)) (chk (0≤(0:Int)∧0≤x_1.1∧x_1.1≤(↑(List.length x_1.2):Int)) (chk (InR (x_1.1+(↑(List.take ((↑(List.length x_1.2):Int)-x_1.1).toNat (List.take (x_1.1-0).toNat (List.drop (Int.toNat (0:Int)) x_1.2))).length:Int))) (x_2 ((x_1.1+(↑(List.take ((↑(List.length x_1.2):Int)-x_1.1).toNat (List.take (x_1.1-0).toNat (List.drop (Int.toNat (0:Int)) x_1.2))).length:Int),copyL x_1.2 (Int.toNat x_1.1) (List.take ((↑(List.length x_1.2):Int)-x_1.1).toNat (List.take (x_1.1-0).toNat (List.drop (Int.toNat (0:Int)) x_1.2))))))))) (some x_1.2)) F (((↑(List.take (↑(List.replicate (Int.toNat x.2) (0:Int)).length:Int).toNat a0).length:Int),copyL (List.replicate (Int.toNat x.2) (0:Int)) (Int.toNat (0:Int)) (List.take (↑(List.replicate (Int.toNat x.2) (0:Int)).length:Int).toNat a0))))))))
def s7(F:Nat):CS E.G:=⟨7,[.sl 0,.v 0 false],[.sl 0 3],fun x=>slices_Repeat_int F x.1 x.2.1⟩
theorem c7(F:Nat):CSok E [] (s7 F):=mkC (cx:=⟨[s47 F],[],F,[],[]⟩) hf7 (by kernel_rfl) rfl (allC (c47 F) all0) ⟨inl0,all0⟩ (.c .n (.c .n (.l ⟨[.i,.l 0],[112],[1],[(128,.i IntKind.i64)],[],[],[(1,3,0)],2⟩ .n))) rfl (by kernel_rfl)
theorem hf8:HF 8 Tryz.f8:=hK (by kernel_rfl)
def slices_Repeat_breaker_Case(F:Nat)(a0:List Case)(a1:Int):Option ((List Case)):=
 brk (decide (a1<0)) none (bnd (math_bits_Mul F (IntKind.u64.wrap (↑a0.length:Int)) (IntKind.u64.wrap a1)) (fun x=>brk (decide (x.1>0)||decide (x.2>9223372036854775807)) none (chk (InR x.2) (chk (0≤x.2∧x.2≤x.2∧x.2≤100000) (loopC (fun(x_1:Int×List Case)=>fun x_2=>brk (decide (x_1.1<(↑(List.length x_1.2):Int))) (chk (0≤x_1.1∧x_1.1≤(↑(List.length x_1.2):Int)∧(↑(List.length x_1.2):Int)≤(↑(List.length x_1.2):Int)) (chk (0≤(0:Int)∧0≤x_1.1∧x_1.1≤(↑(List.length x_1.2):Int)) (chk (InR (x_1.1+(↑(List.take ((↑(List.length x_1.2):Int)-x_1.1).toNat (List.take (x_1.1-0).toNat (List.drop (Int.toNat (0:Int)) x_1.2))).length:Int))) (x_2 ((x_1.1+(↑(List.take ((↑(List.length x_1.2):Int)-x_1.1).toNat (List.take (x_1.1-0).toNat (List.drop (Int.toNat (0:Int)) x_1.2))).length:Int),copyL x_1.2 (Int.toNat x_1.1) (List.take ((↑(List.length x_1.2):Int)-x_1.1).toNat (List.take (x_1.1-0).toNat (List.drop (Int.toNat (0:Int)) x_1.2))))))))) (some x_1.2)) F (((↑(List.take (↑(List.replicate (Int.toNat x.2) (Case.mk 0 0 0 0 false)).length:Int).toNat a0).length:Int),copyL (List.replicate (Int.toNat x.2) (Case.mk 0 0 0 0 false)) (Int.toNat (0:Int)) (List.take (↑(List.replicate (Int.toNat x.2) (Case.mk 0 0 0 0 false)).length:Int).toNat a0))))))))
def s8(F:Nat):CS E.G:=⟨8,[.sl 9,.v 0 false],[.sl 9 32],fun x=>slices_Repeat_breaker_Case F x.1 x.2.1⟩
theorem c8(F:Nat):CSok E [] (s8 F):=mkC (cx:=⟨[s47 F],[],F,[],[]⟩) hf8 (by kernel_rfl) rfl (allC (c47 F) all0) ⟨inl0,all0⟩ (.c .n (.c .n (.l ⟨[.i,.l 9],[112],[1],[(128,.i IntKind.i64)],[],[],[(1,32,9)],2⟩ .n))) rfl (by kernel_rfl)
theorem hf11:HF 11 Tryz.f11:=hK (by kernel_rfl)
def slices_Repeat_breaker_Action(F:Nat)(a0:List Action)(a1:Int):Option ((List Action)):=
 brk (decide (a1<0)) none (bnd (math_bits_Mul F (IntKind.u64.wrap (↑a0.length:Int)) (IntKind.u64.wrap a1)) (fun x=>brk (decide (x.1>0)||decide (x.2>9223372036854775807)) none (chk (InR x.2) (chk (0≤x.2∧x.2≤x.2∧x.2≤100000) (loopC (fun(x_1:Int×List Action)=>fun x_2=>brk (decide (x_1.1<(↑(List.length x_1.2):Int))) (chk (0≤x_1.1∧x_1.1≤(↑(List.length x_1.2):Int)∧(↑(List.length x_1.2):Int)≤(↑(List.length x_1.2):Int)) (chk (0≤(0:Int)∧0≤x_1.1∧x_1.1≤(↑(List.length x_1.2):Int)) (chk (InR (x_1.1+(↑(List.take ((↑(List.length x_1.2):Int)-x_1.1).toNat (List.take (x_1.1-0).toNat (List.drop (Int.toNat (0:Int)) x_1.2))).length:Int))) (x_2 ((x_1.1+(↑(List.take ((↑(List.length x_1.2):Int)-x_1.1).toNat (List.take (x_1.1-0).toNat (List.drop (Int.toNat (0:Int)) x_1.2))).length:Int),copyL x_1.2 (Int.toNat x_1.1) (List.take ((↑(List.length x_1.2):Int)-x_1.1).toNat (List.take (x_1.1-0).toNat (List.drop (Int.toNat (0:Int)) x_1.2))))))))) (some x_1.2)) F (((↑(List.take (↑(List.replicate (Int.toNat x.2) (Action.mk 0 0)).length:Int).toNat a0).length:Int),copyL (List.replicate (Int.toNat x.2) (Action.mk 0 0)) (Int.toNat (0:Int)) (List.take (↑(List.replicate (Int.toNat x.2) (Action.mk 0 0)).length:Int).toNat a0))))))))
def s11(F:Nat):CS E.G:=⟨11,[.sl 14,.v 0 false],[.sl 14 40],fun x=>slices_Repeat_breaker_Action F x.1 x.2.1⟩
theorem c11(F:Nat):CSok E [] (s11 F):=mkC (cx:=⟨[s47 F],[],F,[],[]⟩) hf11 (by kernel_rfl) rfl (allC (c47 F) all0) ⟨inl0,all0⟩ (.c .n (.c .n (.l ⟨[.i,.l 14],[112],[1],[(128,.i IntKind.i64)],[],[],[(1,40,14)],2⟩ .n))) rfl (by kernel_rfl)
theorem hf14:HF 14 Tryz.f14:=hK (by kernel_rfl)
def law06_awake(F:Nat):Option (Bool):=
 bnd (breaker_Begin F (Machine.mk 60 1 2 4 24 6 30 8) (Area.mk [[(0:Int),(3:Int)],[(3:Int),(0:Int)]] [(2:Int),(2:Int),(2:Int),(2:Int),(2:Int),(1:Int)] [Case.mk (1:Int) (0:Int) (4:Int) (1:Int) false] (40:Int))) (fun x=>bnd (breaker_Run F (Machine.mk 60 1 2 4 24 6 30 8) (Area.mk [[(0:Int),(3:Int)],[(3:Int),(0:Int)]] [(2:Int),(2:Int),(2:Int),(2:Int),(2:Int),(1:Int)] [Case.mk (1:Int) (0:Int) (4:Int) (1:Int) false] (40:Int)) x.1 [Action.mk (1:Int) (1:Int),Action.mk (5:Int) (0:Int),Action.mk (5:Int) (0:Int),Action.mk (2:Int) (0:Int),Action.mk (1:Int) (0:Int)]) (fun x_1=>bnd (breaker_Find F (Machine.mk 60 1 2 4 24 6 30 8) (Area.mk [[(0:Int),(3:Int)],[(3:Int),(0:Int)]] [(2:Int),(2:Int),(2:Int),(2:Int),(2:Int),(1:Int)] [Case.mk (1:Int) (0:Int) (4:Int) (1:Int) false] (40:Int)) x.1) (fun x_2=>brk (x.2 != 0||x_1.2.2 != 0||x_2.2.2 != 0||x_1.2.1 != 5||x_2.2.1 != 12||x_1.1.Fuel != 30||x_1.1.Hour != 12||x_1.1.Worn != 4) (some (false)) (bnd (breaker_Find F (Machine.mk 60 1 2 4 24 6 30 8) (Area.mk [[(0:Int),(3:Int)],[(3:Int),(0:Int)]] [(2:Int),(2:Int),(2:Int),(2:Int),(2:Int),(1:Int)] [Case.mk (1:Int) (0:Int) (4:Int) (1:Int) true] (40:Int)) x.1) (fun x_3=>bnd (breaker_Find F (Machine.mk 60 1 2 4 24 6 30 8) (Area.mk [[(0:Int),(3:Int)],[(3:Int),(0:Int)]] [(2:Int),(2:Int),(2:Int),(2:Int),(2:Int),(1:Int)] [Case.mk (1:Int) (0:Int) (4:Int) (1:Int) true] (16:Int)) x.1) (fun x_4=>bnd (breaker_Find F (Machine.mk 60 1 2 4 10 6 30 8) (Area.mk [[(0:Int),(3:Int)],[(3:Int),(0:Int)]] [(2:Int),(2:Int),(2:Int),(2:Int),(2:Int),(1:Int)] [Case.mk (1:Int) (0:Int) (4:Int) (1:Int) false] (40:Int)) x.1) (fun x_5=>some (x_3.2.2==0&&x_4.2.2==4&&x_5.2.2==0&&x_3.2.1==17&&x_5.2.1==16))))))))
def s14(F:Nat):CS E.G:=⟨14,[],[.v 1 false []],fun x=>law06_awake F⟩
theorem c14(F:Nat):CSok E [] (s14 F):=mkC (cx:=⟨[s9 F,s10 F,s40 F],[(4,Tryz.f4)],F,[],[]⟩) hf14 (by kernel_rfl) rfl (allC (c9 F) (allC (c10 F) (allC (c40 F) all0))) ⟨(inlC hf4 en4 inl0),all0⟩ (.p (.c .n (.p (.p .n)))) rfl (by kernel_rfl)
theorem hf3:HF 3 Tryz.f3:=hK (by kernel_rfl)
def sV:List Int:=[(-1:Int),0,1,2,3,4,5,6,9,10,12,13,16,17,24,25,40,41,48,49,60,61,100,101,200,201,9223372036854775807, -9223372036854775808]
def m0:Machine:=⟨60,1,2,4,24,6,30,8⟩
def h0:List (List Int):=[[0,3],[3,0]]
def p0:List Int:=[2,2,2,2,2,1]
def q0:List Int:=[0,1,59,60,61,62,2]
def s0:State:=⟨0,0,60,0,0, -1,⟨0,0,0⟩⟩
def sZ:State:=⟨0,0,0,0,0,0,⟨0,0,0⟩⟩
def s1:State:=⟨5,1,50,3,1, -1,⟨0,0,0⟩⟩
def a16:Area:=⟨h0,p0,[⟨1,0,4,1,true⟩],16⟩
def noC:Case:=⟨0,0,0,0,false⟩
def nW:Nat→Int|0=>0|n+1=>Go.IntKind.i64.wrap (nW n+1)
def kA(n:Nat):List Case:=[⟨1,0,4,1,Int.tmod (nW n) 2==0⟩]++[⟨0,1,2,3,false⟩]
def a0(n:Nat):Area:=⟨h0,p0,kA n,12⟩
def rd(F:Nat)(n:Nat)(M:Machine)(A:Area)(S:State)(K:Option Bool):Option Bool:=chk ([Case.mk 1 0 4 1 (Int.tmod (nW n) 2==0)].length+[Case.mk 0 1 2 3 false].length≤20000000000) (chk ((0:Int)≤0∧0<(([0,3]:List Int).length:Int)) (chk ((0:Int)≤1∧1<(([0,3]:List Int).length:Int)) (chk ((0:Int)≤3∧3<(p0.length:Int)) (chk ((0:Int)≤0∧0<((kA n).length:Int)) (chk ((0:Int)≤0∧0<((kA n).length:Int)) (chk ((0:Int)≤0∧0<((kA n).length:Int)) (chk ((0:Int)≤1∧1<((kA n).length:Int)) (bnd (law06_acts F M A S {S with Fuel:=Go.IntKind.i64.wrap (S.Fuel-1)} ⟨2,0⟩ [⟨2,0⟩,⟨1,0⟩,⟨2,1⟩]) fun b=>brk (!b) (some false) (bnd (law06_plans F M A S [{S with Fuel:=Go.IntKind.i64.wrap (S.Fuel-1)},S]) fun b=>brk (!b) (some false) K)))))))))
def rds(F:Nat):Nat→List (Machine×Area×State)→Option Bool→Option Bool|_,[],K=>K|n,(M,A,S)::l,K=>rd F n M A S (rds F (n+1) l K)
def rdl(v:Int):List (Machine×Area×State):=[({m0 with Tank:=v},a0 0,s1),({m0 with Idle:=v},a0 1,s1),({m0 with Steam:=v},a0 2,s1),({m0 with Work:=v},a0 3,s1),({m0 with Watch:=v},a0 4,s1),({m0 with Rest:=v},a0 5,s1),({m0 with Wear:=v},a0 6,s1),({m0 with Refit:=v},a0 7,s1),(m0,{a0 8 with Hours:=[[0,3].set 0 v,[3,0]]},s1),(m0,{a0 9 with Hours:=[[0,3].set 1 v,[3,0]]},s1),(m0,{a0 10 with Press:=p0.set 3 v},s1),(m0,{a0 11 with Cases:=(kA 11).set 0 {(kA 11).getD 0 noC with Site:=v}},s1),(m0,{a0 12 with Cases:=(kA 12).set 0 {(kA 12).getD 0 noC with To:=v}},s1),(m0,{a0 13 with Cases:=(kA 13).set 0 {(kA 13).getD 0 noC with Cut:=v}},s1),(m0,{a0 14 with Cases:=(kA 14).set 1 {(kA 14).getD 1 noC with Calm:=v}},s1),(m0,{a0 15 with Limit:=v},s1),(m0,a0 16,{s1 with Hour:=v}),(m0,a0 17,{s1 with Site:=v}),(m0,a0 18,{s1 with Fuel:=v}),(m0,a0 19,{s1 with Awake:=v}),(m0,a0 20,{s1 with Worn:=v}),(m0,a0 21,{s1 with Notch:=v}),(m0,a0 22,{s1 with Cases:=⟨v,0,0⟩}),(m0,a0 23,{s1 with Cases:=⟨0,0,v⟩})]
def s2(x y:Int):State:=(State.mk (x / (32:Int)*(4:Int)) (x%(2:Int)) ((9:Int)+x%(4:Int)) ((20:Int)-x%(9:Int)) ((28:Int)-x%(5:Int)) y (A3ofInt.mk (x%(4:Int)) (x / (4:Int)%(4:Int)) (0:Int)))
def a2(x:Int):Area:=(Area.mk h0 p0 ([Case.mk (1:Int) (0:Int) (4:Int) (1:Int) true]++[Case.mk (0:Int) (0:Int) (2:Int) (3:Int) (x / (16:Int)%(2:Int)==1)]) (13:Int))
def law06_BreakerSmall(F:Nat):Option (Bool):=
 loopC (fun(x:Int)=>fun x_1=>brk (decide (x<(↑sV.length:Int))) (chk (0≤x∧x<(↑sV.length:Int)) (rds F 0 (rdl (sV.getD (Int.toNat x) 0)) (chk (InR (x+1)) (x_1 (x+1))))) (loopC (fun(x_2:Int)=>fun x_3=>brk (decide (x_2<96)) (chk (0≤x_2∧x_2≤9223372036854775807) (chk (0≤x_2 / (16:Int)∧x_2 / (16:Int)≤(9223372036854775807:Int)) (chk ([Case.mk (1:Int) (0:Int) (4:Int) (1:Int) true].length+[Case.mk (0:Int) (0:Int) (2:Int) (3:Int) (x_2 / (16:Int)%(2:Int)==1)].length≤(20000000000:Nat)) (chk (0≤x_2∧x_2≤9223372036854775807) (chk (InR (x_2 / (32:Int)*(4:Int))) (chk (0≤x_2∧x_2≤9223372036854775807) (chk (0≤x_2∧x_2≤9223372036854775807) (chk (InR ((9:Int)+x_2%(4:Int))) (chk (0≤x_2∧x_2≤9223372036854775807) (chk (InR ((20:Int)-x_2%(9:Int))) (chk (0≤x_2∧x_2≤9223372036854775807) (chk (InR ((28:Int)-x_2%(5:Int))) (chk (0≤x_2∧x_2≤9223372036854775807) (chk (0≤x_2∧x_2≤9223372036854775807) (chk (0≤x_2 / (4:Int)∧x_2 / (4:Int)≤(9223372036854775807:Int)) (join F (fun(x_4:Int)=>loopC (fun(x_5:Int)=>fun x_6=>brk (decide (x_5<10)) (loopC (fun(x_7:Int)=>fun x_8=>brk (decide (x_7<3)) (bnd (law06_acts F m0 (a2 x_2) (s2 x_2 x_4) (s2 x_2 x_4) (Action.mk x_5 x_7) []) (fun x_9=>brk (!x_9) (some (false)) (chk (InR (x_7+1)) (x_8 (x_7+1))))) (chk (InR (x_5+1)) (x_6 (x_5+1)))) F (-1:Int)) (bnd (law06_plans F m0 (a2 x_2) (s2 x_2 x_4) [s2 x_2 x_4]) (fun x_7=>brk (!x_7) (some (false)) (chk (InR (x_2+1)) (x_3 (x_2+1)))))) F (0:Int)) (fun x_4=>brk (x_2%(4:Int)==2) (x_4 (0:Int)) (brk (x_2 / (4:Int)%(4:Int)==2) (x_4 (1:Int)) (x_4 (-1:Int)))))))))))))))))))) (loopC (fun(x_4:Int)=>fun x_5=>brk (decide (x_4<7)) (loopC (fun(x_6:Int×List (List Int))=>fun x_7=>brk (decide (x_6.1<x_4)) (bnd (slices_Repeat_int F [(2:Int)] x_4) (fun x_8=>chk (0≤x_6.1∧x_6.1<(↑(List.length x_8):Int)) (chk (List.length x_6.2+(1:Nat)≤(1000000:Nat)) (chk (InR (x_6.1+1)) (x_7 ((x_6.1+1,x_6.2++[List.set x_8 (Int.toNat x_6.1) (0:Int)]))))))) (chk (InR (x_4-1)) (bnd (law06_acts F m0 (Area.mk x_6.2 p0 [Case.mk (1:Int) (0:Int) (4:Int) (1:Int) false] (8:Int)) s0 s0 (Action.mk (1:Int) (x_4-1)) []) (fun x_8=>bnd (brk (!!x_8) (law06_plans F m0 (Area.mk x_6.2 p0 [Case.mk (1:Int) (0:Int) (4:Int) (1:Int) false] (8:Int)) s0 []) (some false)) (fun x_9=>brk (!x_8|| !x_9) (some (false)) (chk (0≤x_4∧x_4<(↑q0.length:Int)) (chk (0≤q0.getD (Int.toNat x_4) 0∧q0.getD (Int.toNat x_4) 0≤q0.getD (Int.toNat x_4) 0∧q0.getD (Int.toNat x_4) 0≤(100000:Int)) (bnd (slices_Repeat_breaker_Case F [Case.mk (1:Int) (0:Int) (4:Int) (1:Int) false] x_4) (fun x_10=>chk (InR ((98:Int)+x_4)) (chk (0≤(98:Int)+x_4∧(98:Int)+x_4≤(98:Int)+x_4∧(98:Int)+x_4≤100000) (bnd (law06_acts F m0 (Area.mk h0 (List.replicate (Int.toNat (q0.getD (Int.toNat x_4) 0)) (0:Int)) x_10 (8:Int)) s0 s0 (Action.mk 5 0) (List.replicate ((98:Int)+x_4).toNat (Action.mk 0 0))) (fun x_11=>bnd (brk (!!x_11) (law06_plans F m0 (Area.mk h0 (List.replicate (Int.toNat (q0.getD (Int.toNat x_4) 0)) (0:Int)) x_10 (8:Int)) s0 []) (some false)) (fun x_12=>brk (!x_11|| !x_12) (some (false)) (chk (InR (x_4+1)) (x_5 (x_4+1)))))))))))))))) F (((0:Int),[]))) (bnd (breaker_Begin F m0 a16) (fun x_6=>bnd (slices_Repeat_breaker_Action F [Action.mk (5:Int) (0:Int)] 101) (fun x_7=>bnd (breaker_Run F m0 a16 x_6.1 x_7) (fun x_8=>chk (0≤(30001:Int)∧(30001:Int)≤(30001:Int)∧(30001:Int)≤(100000:Int)) (bnd (breaker_Proves F m0 a16 x_6.1 (List.replicate (Int.toNat (30001:Int)) sZ)) (fun x_9=>bnd (breaker_Front F m0 a16 x_6.1) (fun x_10=>bnd (breaker_Proves F m0 a16 x_6.1 x_10.1) (fun x_11=>bnd (brk (x_6.2==0&&x_8.2.2==2&&x_9.2==8&&x_10.2==0&&x_11.2==0&&x_11.1) (law06_awake F) (some false)) (fun x_12=>some (x_6.2==0&&x_8.2.2==2&&x_9.2==8&&x_10.2==0&&x_11.2==0&&x_11.1&&x_12))))))))))) F (0:Int))) F (0:Int))) F (0:Int)
def s3(F:Nat):CS E.G:=⟨3,[],[.v 1 false []],fun x=>law06_BreakerSmall F⟩
theorem c3(F:Nat):CSok E [] (s3 F):=mkC (cx:=⟨[s5 F,s6 F,s7 F,s8 F,s9 F,s10 F,s11 F,s12 F,s13 F,s14 F],[(4,Tryz.f4)],F,[(2,2),(13,2),(48,3),(48,4)],[]⟩) hf3 (by kernel_rfl) rfl (allC (c5 F) (allC (c6 F) (allC (c7 F) (allC (c8 F) (allC (c9 F) (allC (c10 F) (allC (c11 F) (allC (c12 F) (allC (c13 F) (allC (c14 F) all0)))))))))) ⟨(inlC hf4 en4 inl0),all0⟩ (.l ⟨[.i],[544,560],[0],[(576,.i IntKind.i64)],[],[],[],1⟩ (.c (.u 25 (.p (.s .n (.c .n (.p (.s .n (.c .n (.p (.s .n (.c .n (.p (.s .n (.c .n (.p (.s .n (.c .n (.p (.s .n (.c .n (.p (.s .n (.c .n (.p (.s .n (.c .n (.p (.s .n (.c .n (.p (.s .n (.c .n (.p (.s .n (.c .n (.p (.s .n (.c .n (.p (.s .n (.c .n (.p (.s .n (.c .n (.p (.s .n (.c .n (.p (.s .n (.c .n (.p (.s .n (.c .n (.p (.s .n (.c .n (.p (.s .n (.c .n (.p (.s .n (.c .n (.p (.s .n (.c .n (.p (.s .n (.c .n (.p (.s .n (.c .n (.p (.s .n .n)))))))))))))))))))))))))))))))))))))))))))))))))))))))))))))))))))))))) (.l ⟨[.i],[],[],[(2240,.i IntKind.i64)],[],[],[],1⟩ (.c (.p (.k (.k (.k (.k (.k (.k (.j ⟨[.i],[192,2240,160,176],[14,10,11,13,7,6,5,4],[],[],[(14,5,.i IntKind.i64)],[],15⟩ (.c .n .n) (.l ⟨[.i],[192,2240,160,176],[14,10,11,13,7,6,5,4],[(208,.i IntKind.i64)],[],[],[],15⟩ (.c (.l ⟨[.i],[192,2240,160,208,176],[14,10,11,13,7,6,5,4],[(224,.i IntKind.i64)],[],[],[],15⟩ (.c .n .n)) .n)))))))))) (.l ⟨[.i],[],[],[(240,.i IntKind.i64)],[],[],[],1⟩ (.c (.p (.l ⟨[.i,.d 22 6 [some 3]],[256,3552,272,240],[10,11,8,7],[(3568,.i IntKind.i64)],[],[(11,0,.d 12 13 22 6 [some 3])],[],14⟩ (.c .n (.c .n (.p .n))))) (.p .n))))))) rfl (by kernel_rfl)
end
end Go.Proofs.Bm

namespace Go.KX
structure Bytes(l:List Int):Prop where
 b:∀x∈l,0≤x∧x≤255
 len:l.length≤9223372036854775807
section
variable{α:Type}{post:α→Prop}{l:List Int}{pos n:Int}
end
end Go.KX

namespace Go.Proofs.Bm
open Go Go.KX
def caseAt(c:A3ofInt)(i:Nat):Int:=[c.a0,c.a1,c.a2].getD i 0
def restS(a:Area)(c:A3ofInt)(notch:Int):Nat→Nat→Int→Bool
 |0,_,n=>decide (notch=n)
 |f+1,i,n=>shipS a i (caseAt c i)&& !(decide (caseAt c i=2)&&decide (n≥0))&&restS a c notch f (i+1) (if caseAt c i=2 then(i:Int)else n)
theorem rest_all{a:Area}{c:A3ofInt}{notch:Int}:restS a c notch 3 0 (-1)=(shipS a 0 c.a0&&shipS a 1 c.a1&&shipS a 2 c.a2&&oneS c&&decide (notch=notchS c)):=by
 simp only[restS,caseAt,List.getD_cons_zero,List.getD_cons_succ,oneS,notchS]
 by_cases h0:c.a0=2<;>by_cases h1:c.a1=2<;>by_cases h2:c.a2=2<;>simp[h0,h1,h2]
 all_goals
  cases shipS a 0 _<;>cases shipS a 1 _<;>cases shipS a 2 _<;>rfl
section
variable{F:Nat}{m:Machine}{a:Area}{s:State}
theorem ref_in{n x y:Int}:ref06_in F n x y=some (inS n x y):=rfl
theorem ref_state(hF:1000≤F)(hcn:a.Cases.length≤3)(hsn:a.Hours.length≤4):ref06_state F m (ofA a) s=some (stateS m a s):=by
 refine Ok.eq ?_
 unfold ref06_state
 simp only[ref_in,bnd_so,oH,oP,oC,oL]
 refine ok_chk (fun _=>⟨by omega,by omega⟩) ?_
 have e:stateS m a s=(inS s.Hour 0 a.Limit&&inS s.Site 0 (sitesS a-1)&&inS s.Fuel 0 m.Tank&&inS s.Awake 0 m.Watch&&inS s.Worn 0 m.Wear&&restS a s.Cases s.Notch 3 0 (-1)):=by rw[rest_all];rfl
 have es:((a.Hours.length:Int)-1)=sitesS a-1:=rfl
 rw[e,es]
 generalize inS s.Hour 0 a.Limit=b1
 generalize inS s.Site 0 (sitesS a-1)=b2
 generalize inS s.Fuel 0 m.Tank=b3
 generalize inS s.Awake 0 m.Watch=b4
 generalize inS s.Worn 0 m.Wear=b5
 cases b1 with
 |false=>exact ok_some rfl
 |true=>
 cases b2 with
 |false=>exact ok_some rfl
 |true=>
 cases b3 with
 |false=>exact ok_some rfl
 |true=>
 cases b4 with
 |false=>exact ok_some rfl
 |true=>
 cases b5 with
 |false=>exact ok_some rfl
 |true=>
 simp only[brk_false,brk_true,bnd_so,Bool.not_true,Bool.or_false,Bool.not_false,Bool.true_and]
 obtain⟨tgt,ht⟩:∃t,restS a s.Cases s.Notch 3 0 (-1)=t:=⟨_,rfl⟩
 rw[ht]
 refine ok_loop (fun x:Int×Int=>0≤x.1∧x.1≤3∧restS a s.Cases s.Notch (3-x.1.toNat) x.1.toNat x.2=tgt) (fun x=>3-x.1.toNat) ⟨by simp,by simp,ht⟩ (by simp;omega) ?_
 rintro⟨i,n⟩ next ⟨i1,i2,i3⟩ hn
 simp only at i1 i2 i3 hn⊢
 refine ok_brk (fun hc=>?_) (fun hc=>?_)
 ·have hc:i<3:=of_decide_eq_true hc
  have hstep:restS a s.Cases s.Notch (3-i.toNat) i.toNat n=(shipS a i.toNat (caseAt s.Cases i.toNat)&& !(decide (caseAt s.Cases i.toNat=2)&&decide (n≥0))&&restS a s.Cases s.Notch (3-(i+1).toNat) (i+1).toNat (if caseAt s.Cases i.toNat=2 then i else n)):=by
   rw[show 3-i.toNat=(3-(i+1).toNat)+1 by omega,restS,show i.toNat+1=(i+1).toNat by omega,show((i.toNat:Nat):Int)=i by omega]
  rw[hstep]at i3
  have ev:[s.Cases.a0,s.Cases.a1,s.Cases.a2].getD i.toNat 0=caseAt s.Cases i.toNat:=rfl
  simp only[ev]
  generalize caseAt s.Cases i.toNat=v at i3
  have bad:shipS a i.toNat v=false∨(decide (v=2)&&decide (n≥0))=true→false=tgt:=fun h=>by
   rw[←i3]
   rcases h with h|h<;>simp only[h,Bool.false_and,Bool.not_true,Bool.and_false]
  refine ok_join (by omega) (fun n':Int=>n'=(if v=2 then i else n)∧shipS a i.toNat v=true∧(decide (v=2)&&decide (n≥0))=false) (fun n' hn'=>?_) (fun k hk=>?_)
  ·obtain⟨rfl,h1,h2⟩:=hn'
   rw[h1,h2]at i3
   exact ok_chk ⟨by omega,by omega⟩ (hn _ ⟨by show 0≤i+1;omega,by show i+1≤3;omega,i3⟩ (by show 3-(i+1).toNat<3-i.toNat;omega))
  ·refine ok_brk (fun hl=>?_) (fun hl=>?_)
   ·have hl:(a.Cases.length:Int)≤i:=of_decide_eq_true hl
    refine ok_chk ⟨i1,hc⟩ (ok_brk (fun hv=>ok_some (bad (.inl ?_))) (fun hv=>hk _ ?_))
    ·have hv:v≠0:=by simpa using hv
     cases e:shipS a i.toNat v with
     |false=>rfl
     |true=>rw[shipS_iff]at e;omega
    ·have hv:v=0:=by simpa using hv
     subst hv
     exact⟨by simp,by rw[shipS_iff];exact .inl rfl,by simp⟩
   ·have hl:i<(a.Cases.length:Int):=by have:=of_decide_eq_false hl;omega
    have hnc:a.Cases.getD i.toNat (Case.mk 0 0 0 0 false)=a.Cases.getD i.toNat noCase:=rfl
    simp only[hnc]
    have iff:=shipS_iff (a:=a) (n:=i.toNat) (v:=v)
    refine ok_chk ⟨i1,hc⟩ (ok_brk (fun h1=>ok_some (bad (.inl ?_))) (fun h1=>?_))
    ·cases e:shipS a i.toNat v with
     |false=>rfl
     |true=>
      have h1:inS v 0 3=false:=by simpa using h1
      have:inS v 0 3=true:=inS_iff.2 (by rw[iff]at e;omega)
      rw[h1]at this;cases this
    ·have h1:inS v 0 3=true:=by simpa using h1
     rw[inS_iff]at h1
     refine ok_chk ⟨i1,hc⟩ (ok_chk (fun _=>⟨i1,hc⟩) (ok_chk (fun _=>⟨i1,hl⟩) (ok_brk (fun h2=>ok_some (bad (.inl ?_))) (fun h2=>ok_chk ⟨i1,hc⟩ ?_))))
     ·simp only[Bool.and_eq_true,Bool.or_eq_true,beq_iff_eq,Bool.not_eq_true']at h2
      cases e:shipS a i.toNat v with
      |false=>rfl
      |true=>
       rcases iff.1 e with e|⟨_,_,e|e⟩
       ·omega
       ·omega
       ·rw[h2.2]at e;cases e
     ·have hsh:shipS a i.toNat v=true:=by
       rw[iff]
       by_cases hz:v=0
       ·exact .inl hz
       ·refine .inr ⟨by omega,by omega,?_⟩
        by_cases h3:v=3
        ·exact .inl h3
        ·right
         cases e:(a.Cases.getD i.toNat noCase).Towed with
         |true=>rfl
         |false=>
          exfalso
          rw[e]at h2
          have:v=1∨v=2:=by omega
          rcases this with rfl|rfl<;>simp at h2
      refine ok_brk (fun h3=>?_) (fun h3=>?_)
      ·have h3:v=2:=by simpa using h3
       subst h3
       refine ok_brk (fun h4=>ok_some (bad (.inr ?_))) (fun h4=>hk _ ⟨by simp,hsh,?_⟩)
       ·simp only[decide_true,Bool.true_and];exact h4
       ·simp only[decide_true,Bool.true_and];exact h4
      ·have h3:v≠2:=by simpa using h3
       exact hk _ ⟨by rw[if_neg h3],hsh,by simp[h3]⟩
 ·have:i=3:=by have:=of_decide_eq_false hc;omega
  subst this
  refine ok_some ?_
  rw[←i3]
  rfl
end
end Go.Proofs.Bm

namespace Go.Proofs.Bm
open Go Go.KX
section
variable{F:Nat}{m:Machine}{a:Area}{s:State}
theorem press_bd(hok:Fit m a){i:Int}(h0:0≤i):0≤pressS a i∧pressS a i≤3:=by
 unfold pressS
 refine hok.press _ (getD_mem ?_)
 have:=hok.pressN
 omega
theorem pressS_lt{i:Int}(h:i<(a.Press.length:Int)):a.Press.getD i.toNat 0=pressS a i:=by
 unfold pressS
 rw[show min i ((a.Press.length:Int)-1)=i by omega]
theorem pressS_ge{i:Int}(h:(a.Press.length:Int)≤i):a.Press.getD ((a.Press.length:Int)-1).toNat 0=pressS a i:=by
 unfold pressS
 rw[show min i ((a.Press.length:Int)-1)=(a.Press.length:Int)-1 by omega]
theorem ref_press(hF:1000≤F)(hok:Fit m a){h n:Int}(h0:0≤h∧h≤1000)(hn:0≤n∧n≤100):Go.KX.Ok (fun p=>0≤p∧p≤3∧∀c:Int,0≤c→(p≤c↔calmS a h n c=true)) (ref06_press F (ofA a) h n):=by
 unfold ref06_press
 simp only[oH,oP,oC,oL]
 have hpn:=hok.pressN
 refine ok_loop (fun x:Int×Int=>h≤x.1∧x.1≤h+n∧0≤x.2∧x.2≤3∧∀c:Int,0≤c→(x.2≤c↔∀i:Int,h≤i→i<x.1→pressS a i≤c)) (fun x=>(h+n-x.1).toNat) ⟨by simp,by simp;omega,by simp,by simp,fun c hc=>⟨fun _ i h1 h2=>by simp only at h2;omega,fun _=>hc⟩⟩ (by simp;omega) ?_
 rintro⟨i,p⟩ next ⟨i1,i2,i3,i4,i5⟩ hnx
 simp only at i1 i2 i3 i4 i5 hnx⊢
 refine ok_chk ⟨by omega,by omega⟩ (ok_brk (fun hc=>?_) (fun hc=>?_))
 ·have hc:i<h+n:=of_decide_eq_true hc
  have hb:=press_bd hok (i:=i) (by omega)
  refine ok_join (by omega) (fun p'=>p'=if pressS a i>p then pressS a i else p) (fun p' hp'=>?_) (fun k hk=>?_)
  ·refine ok_chk ⟨by omega,by omega⟩ (hnx _ ⟨by show h≤i+1;omega,by show i+1≤h+n;omega,?_,?_,fun c hc0=>?_⟩ (by show(h+n-(i+1)).toNat<(h+n-i).toNat;omega))
   ·show 0≤p';rw[hp'];split<;>omega
   ·show p'≤3;rw[hp'];split<;>omega
   ·show p'≤c↔∀j:Int,h≤j→j<i+1→pressS a j≤c
    have hq:=i5 c hc0
    constructor
    ·intro hle j hj1 hj2
     by_cases e:j=i
     ·subst e;rw[hp']at hle;split at hle<;>omega
     ·refine hq.1 ?_ j hj1 (by omega)
      rw[hp']at hle;split at hle<;>omega
    ·intro hall
     have h1:=hall i i1 (by omega)
     have h2:=hq.2 fun j hj1 hj2=>hall j hj1 (by omega)
     rw[hp'];split<;>omega
  ·refine ok_brk (fun hl=>?_) (fun hl=>?_)
   ·have hl:i<(a.Press.length:Int):=of_decide_eq_true hl
    refine ok_chk ⟨by omega,hl⟩ (hk _ ?_)
    simp only[pressS_lt hl]
   ·have hl:(a.Press.length:Int)≤i:=by have:=of_decide_eq_false hl;omega
    refine ok_chk ⟨by omega,by omega⟩ (ok_chk ⟨by omega,by omega⟩ (hk _ ?_))
    simp only[pressS_ge hl]
 ·have hc:i=h+n:=by have:=of_decide_eq_false hc;omega
  subst hc
  refine ok_some ⟨i3,i4,fun c hc0=>?_⟩
  rw[calmS_iff]
  exact i5 c hc0
structure Fin where
 burn:Int
 sleeps:Bool
 worn:Int
 hours:Int
 c2:Int
 c1:Int
 c0:Int
 notch:Int
 worn0:Int
 fuel:Int
 site:Int
def finS(m:Machine)(a:Area)(s:State)(t:Fin):State×Int:=
 if s.Hour+t.hours>a.Limit then(s,12)
 else if s.Fuel<t.hours*t.burn then(s,71)
 else if(!t.sleeps&&decide (s.Awake+t.hours>m.Watch)||decide (s.Worn+t.worn>m.Wear))=true then(s,6)
 else(⟨s.Hour+t.hours,t.site,t.fuel-t.hours*t.burn,if t.sleeps then 0 else s.Awake+t.hours,t.worn0+t.worn,t.notch,⟨t.c0,t.c1,t.c2⟩⟩,0)
def tailS(m:Machine)(a:Area)(s:State)(k n:Int):State×Int:=
 if(nextS m a s k n).Hour>a.Limit then(s,12)
 else if(nextS m a s k n).Fuel<0 then(s,71)
 else if(nextS m a s k n).Awake>m.Watch∨(nextS m a s k n).Worn>m.Wear then(s,6)
 else(thenS m a k n (nextS m a s k n),0)
theorem doS_tail{x:Action}(h1:inS x.Kind 1 8=true)(h2:numS a x.Kind x.N=true)(h3:emptyS x.Kind=true→s.Notch<0)(h4:needsS a s x.Kind x.N=true):doS m a s x=tailS m a s x.Kind x.N:=by
 unfold doS
 rw[if_neg (by simp[h1]),if_neg (by simp[h2]),if_neg]
 ·rfl
 ·simp only[Bool.or_eq_true,Bool.and_eq_true,decide_eq_true_eq,Bool.not_eq_true',h4]
  rintro(⟨h5,h6⟩|h5)
  ·have:=h3 h5;omega
  ·simp at h5
theorem fin_tail{k n:Int}(hok:Fit m a)(hs:StOk m a s){t:Fin}(hh:t.hours=hoursS m a s k n)(hb:t.burn=burnS m s k)(hl:t.sleeps=sleepsS k)(hw:t.worn=if worksS s k then t.hours else 0)
  (hst:(⟨s.Hour+t.hours,t.site,t.fuel-t.hours*t.burn,if t.sleeps then 0 else s.Awake+t.hours,t.worn0+t.worn,t.notch,⟨t.c0,t.c1,t.c2⟩⟩:State)=thenS m a k n (nextS m a s k n)):finS m a s t=tailS m a s k n:=by
 unfold finS tailS
 rw[hst]
 simp only[nextS,←hh,←hb,←hl]
 have hwatch:=hok.watch
 by_cases h1:s.Hour+t.hours>a.Limit
 ·rw[if_pos h1,if_pos h1]
 rw[if_neg h1,if_neg h1]
 by_cases h2:s.Fuel<t.hours*t.burn
 ·rw[if_pos h2,if_pos (show s.Fuel-t.hours*t.burn<0 by omega)]
 rw[if_neg h2,if_neg (show ¬s.Fuel-t.hours*t.burn<0 by omega)]
 have e:(!t.sleeps&&decide (s.Awake+t.hours>m.Watch)||decide (s.Worn+t.worn>m.Wear))=true↔((if t.sleeps then 0 else s.Awake+t.hours)>m.Watch∨(if worksS s k=true then s.Worn+t.hours else s.Worn)>m.Wear):=by
  rw[hw]
  cases t.sleeps<;>cases worksS s k<;>simp
  ·omega
  ·omega
 by_cases h3:(!t.sleeps&&decide (s.Awake+t.hours>m.Watch)||decide (s.Worn+t.worn>m.Wear))=true
 ·rw[if_pos h3,if_pos (e.1 h3)]
 ·rw[if_neg h3,if_neg (mt e.2 h3)]
end
end Go.Proofs.Bm

namespace Go.Proofs.Bm
open Go Go.KX
abbrev FinT:=Int×Bool×Int×Int×Int×Int×Int×Int×Int×Int×Int
def finT(x:FinT):Fin:=⟨x.1,x.2.1,x.2.2.1,x.2.2.2.1,x.2.2.2.2.1,x.2.2.2.2.2.1,x.2.2.2.2.2.2.1,x.2.2.2.2.2.2.2.1,x.2.2.2.2.2.2.2.2.1,x.2.2.2.2.2.2.2.2.2.1,x.2.2.2.2.2.2.2.2.2.2⟩
structure FinBd(t:Fin):Prop where
 burn:0≤t.burn∧t.burn≤9
 worn:0≤t.worn∧t.worn≤48
 hours:1≤t.hours∧t.hours≤48
 worn0:0≤t.worn0∧t.worn0≤100
 fuel:0≤t.fuel∧t.fuel≤200
section
variable{F:Nat}{m:Machine}{a:Area}{s:State}{x:Action}
theorem mul9{h b:Int}(hh:1≤h∧h≤48)(hb:0≤b∧b≤9):0≤h*b∧h*b≤432:=
 ⟨Int.mul_nonneg (by omega) hb.1,by
  have h1:h*b≤48*b:=Int.mul_le_mul_of_nonneg_right hh.2 hb.1
  omega⟩
theorem doS_70(h1:inS x.Kind 1 8=true)(h2:numS a x.Kind x.N=true)(h3:(emptyS x.Kind=true∧s.Notch≥0)∨needsS a s x.Kind x.N=false):doS m a s x=(s,70):=by
 unfold doS
 rw[if_neg (by simp[h1]),if_neg (by simp[h2]),if_pos]
 rcases h3 with⟨h3,h4⟩|h3
 ·simp[h3,h4]
 ·simp[h3]
theorem ref_step(hF:1000≤F)(hok:Fit m a)(hs:StOk m a s):ref06_step F m (ofA a) s x=some (doS m a s x):=by
 refine Go.KX.Ok.eq ?_
 obtain⟨k,n⟩:=x
 unfold ref06_step
 simp only[ref_in,bnd_so,oH,oP,oC,oL]
 have hsn:=hok.sites;have hcn:=hok.casesN
 have esn:((a.Hours.length:Int)-1)=sitesS a-1:=rfl
 unfold sitesS at hsn
 by_cases hk:inS k 1 8=false
 ·refine ok_brkT (by simpa using hk) (ok_some ?_)
  unfold doS
  rw[if_pos (by simpa using hk)]
 have hk:inS k 1 8=true:=by simpa using hk
 refine ok_brkF (by simp[hk]) (ok_chk (fun _=>⟨by omega,by omega⟩) ?_)
 have hkk:=inS_iff.1 hk
 refine ok_bnd (fun b=>(k=1→b=inS n 0 (sitesS a-1))∧(k≠1→b=false)) ?_ fun b1 hb1=>?_
 ·refine ok_brk (fun h=>ok_some ⟨fun _=>rfl,fun h'=>absurd (by simpa using h) h'⟩) (fun h=>ok_some ⟨fun h'=>?_,fun _=>rfl⟩)
  subst h';simp at h
 refine ok_chk (fun _=>⟨by omega,by omega⟩) (ok_bnd (fun b=>(k=2∨k=3→b=inS n 0 ((a.Cases.length:Int)-1))∧(k≠2∧k≠3→b=false)) ?_ fun b2 hb2=>?_)
 ·refine ok_brk (fun h=>ok_some ⟨fun _=>rfl,fun h'=>?_⟩) (fun h=>ok_some ⟨fun h'=>?_,fun _=>rfl⟩)
  ·simp[h'.1,h'.2]at h
  ·exfalso
   have:k≠1:=by omega
   rcases h' with rfl|rfl<;>simp at h
 have hnum:(k==1&& !b1||(k==2||k==3)&& !b2||decide (k>3)&&n != 0)=!numS a k n:=by
  unfold numS
  by_cases h1:k=1
  ·rw[if_pos h1,hb1.1 h1];subst h1;simp
  ·rw[if_neg h1]
   by_cases h2:k=2∨k=3
   ·rw[if_pos h2,hb2.1 h2]
    have:(k==1)=false:=by simpa using h1
    have h3:(k==2||k==3)=true:=by simpa using h2
    have h4:decide (k>3)=false:=by simp;omega
    rw[this,h3,h4];simp
   ·rw[if_neg h2]
    have:(k==1)=false:=by simpa using h1
    have h3:(k==2||k==3)=false:=by simpa using h2
    have h4:decide (k>3)=true:=by simp;omega
    rw[this,h3,h4];simp
    rfl
 rw[hnum]
 by_cases hnu:numS a k n=false
 ·refine ok_brkT (by simpa using hnu) (ok_some ?_)
  unfold doS
  rw[if_neg (by simp[hk]),if_pos (by simpa using hnu)]
 have hnu:numS a k n=true:=by simpa using hnu
 refine ok_brkF (by simp[hnu]) ?_
 have i1:=hs.hour;have i2:=hs.site;have i3:=hs.fuel;have i4:=hs.awake;have i5:=hs.worn
 have ht:=hok.tank;have hw:=hok.watch;have hwr:=hok.wear;have hlim:=hok.limit
 refine ok_join (by omega) (fun t:FinT=>FinBd (finT t)∧finS m a s (finT t)=doS m a s ⟨k,n⟩) (fun t ⟨hb,he⟩=>?_) (fun kk hkk'=>?_)
 ·obtain⟨burn,sleeps,worn,hours,c2,c1,c0,notch,worn0,fuel,site⟩:=t
  have b1:=hb.burn;have b2:=hb.worn;have b3:=hb.hours;have b4:=hb.worn0;have b5:=hb.fuel
  simp only[finT]at b1 b2 b3 b4 b5
  have hp:=mul9 b3 b1
  have he:(if s.Hour+hours>a.Limit then(s,12)else if s.Fuel<hours*burn then(s,71)else if(!sleeps&&decide (s.Awake+hours>m.Watch)||decide (s.Worn+worn>m.Wear))=true then(s,6)
   else((⟨s.Hour+hours,site,fuel-hours*burn,if sleeps then 0 else s.Awake+hours,worn0+worn,notch,⟨c0,c1,c2⟩⟩:State),(0:Int)))=doS m a s ⟨k,n⟩:=he
  simp only
  refine ok_chk ⟨by omega,by omega⟩ (ok_brk (fun h=>ok_some ?_) (fun h=>?_))
  ·rw[if_pos (of_decide_eq_true h)]at he;exact he
  rw[if_neg (of_decide_eq_false h)]at he
  refine ok_chk ⟨by omega,by omega⟩ (ok_brk (fun h=>ok_some ?_) (fun h=>?_))
  ·rw[if_pos (of_decide_eq_true h)]at he;exact he
  rw[if_neg (of_decide_eq_false h)]at he
  refine ok_chk (fun _=>⟨by omega,by omega⟩) (ok_chk (fun _=>⟨by omega,by omega⟩) (ok_brk (fun h=>ok_some ?_) (fun h=>?_)))
  ·rw[if_pos h]at he;exact he
  rw[if_neg (by simpa using h)]at he
  refine ok_chk ⟨by omega,by omega⟩ (ok_chk ⟨by omega,by omega⟩ (ok_chk ⟨by omega,by omega⟩ (ok_chk ⟨by omega,by omega⟩ (ok_join (by omega) (fun aw=>aw=if sleeps=true then 0 else s.Awake+hours) (fun aw haw=>ok_chk ⟨by omega,by omega⟩ (ok_some ?_)) (fun k2 hk2=>ok_brk (fun h2=>hk2 _ ?_) (fun h2=>hk2 _ ?_))))))
  ·rw[haw];exact he
  ·rw[h2];rfl
  ·rw[h2];rfl
 have give:∀t:FinT,FinBd (finT t)→(emptyS k=true→s.Notch<0)→needsS a s k n=true→(finT t).hours=hoursS m a s k n→(finT t).burn=burnS m s k→(finT t).sleeps=sleepsS k→(finT t).worn=(if worksS s k then(finT t).hours else 0)→
   ((⟨s.Hour+(finT t).hours,(finT t).site,(finT t).fuel-(finT t).hours*(finT t).burn,if(finT t).sleeps then 0 else s.Awake+(finT t).hours,(finT t).worn0+(finT t).worn,(finT t).notch,⟨(finT t).c0,(finT t).c1,(finT t).c2⟩⟩:State)=thenS m a k n (nextS m a s k n))→
   Go.KX.Ok (fun r=>r=doS m a s ⟨k,n⟩) (kk t):=fun t h1 h2 h3 h4 h5 h6 h7 h8=>hkk' t ⟨h1,by rw[doS_tail (x:=⟨k,n⟩) hk hnu h2 h3];exact fin_tail hok hs h4 h5 h6 h7 h8⟩
 have no:(emptyS k=true∧s.Notch≥0)∨needsS a s k n=false→(s,(70:Int))=doS m a s ⟨k,n⟩:=fun h=>(doS_70 (x:=⟨k,n⟩) hk hnu h).symm
 have hgetC:∀i:Int,[s.Cases.a0,s.Cases.a1,s.Cases.a2].getD i.toNat 0=getC s.Cases i:=fun _=>rfl
 have hcase:∀i:Int,a.Cases.getD i.toNat (Case.mk 0 0 0 0 false)=caseS a i:=fun _=>rfl
 have hhour:List.getD (a.Hours.getD s.Site.toNat []) n.toNat 0=hourS a s.Site n:=rfl
 simp only[hgetC,hcase,hhour]
 have hset:∀(i v:Int),(⟨if i=((0:Nat):Int)then v else s.Cases.a0,if i=((Nat.succ 0:Nat):Int)then v else s.Cases.a1,if i=((Nat.succ (Nat.succ 0):Nat):Int)then v else s.Cases.a2⟩:A3ofInt)=setC s.Cases i v:=fun _ _=>rfl
 have hk8:k=1∨k=2∨k=3∨k=4∨k=5∨k=6∨k=7∨k=8:=by omega
 have wk:=hok.work;have wi:=hok.idle;have wst:=hok.steam;have wrest:=hok.rest;have wrefit:=hok.refit
 rcases hk8 with rfl|rfl|rfl|rfl|rfl|rfl|rfl|rfl
 ·
  refine ok_brkT rfl ?_
  have hn:=num_site hnu
  have hnl:0≤n∧n<(a.Hours.length:Int):=by rw[←esn]at hn;omega
  have hsl:0≤s.Site∧s.Site<(a.Hours.length:Int):=by rw[←esn]at i2;omega
  refine ok_brk (fun h=>ok_some (no (.inr ?_))) (fun h=>?_)
  ·have h:n=s.Site:=by simpa using h
   unfold needsS
   rw[if_pos rfl]
   simp[h]
  have hne:n≠s.Site:=by simpa using h
  have hh:=hok.way i2 hn hne
  refine ok_chk hsl (ok_chk ⟨hnl.1,by rw[hok.rows s.Site.toNat (by omega)];exact hnl.2⟩ ?_)
  refine ok_join (by omega) (fun y:Int×Int×Int=>(s.Notch≥0→y=(m.Work,2*hourS a s.Site n,2*hourS a s.Site n)∧calmS a s.Hour (2*hourS a s.Site n) 2=true)∧(s.Notch<0→y=(m.Steam,0,hourS a s.Site n))) (fun y hy=>?_) (fun k4 hk4=>?_)
  ·by_cases hno:s.Notch≥0
   ·obtain⟨rfl,hc⟩:=hy.1 hno
    have hway:wayS a s n=2*hourS a s.Site n:=if_pos hno
    refine give _ ⟨by show 0≤m.Work∧m.Work≤9;omega,by show 0≤2*hourS a s.Site n∧2*hourS a s.Site n≤48;omega,by show 1≤2*hourS a s.Site n∧2*hourS a s.Site n≤48;omega,by show 0≤s.Worn∧s.Worn≤100;omega,by show 0≤s.Fuel∧s.Fuel≤200;omega⟩ (fun h=>by simp[emptyS]at h) ?_ ?_ ?_ rfl ?_ ?_
    ·unfold needsS
     rw[if_pos rfl,hway,hc]
     simp[hne]
    ·exact hway.symm
    ·show m.Work=(if s.Notch≥0 then m.Work else m.Steam)
     rw[if_pos hno]
    ·have:worksS s 1=true:=by rw[worksS_iff];omega
     rw[this];rfl
    ·have hw:worksS s 1=true:=by rw[worksS_iff];omega
     have hb:burnS m s 1=m.Work:=if_pos hno
     have hhs:hoursS m a s 1 n=2*hourS a s.Site n:=hway
     simp only[thenS,nextS,if_true,hw,hb,hhs]
     rfl
   ·obtain rfl:=hy.2 (by omega)
    have hway:wayS a s n=hourS a s.Site n:=if_neg hno
    refine give _ ⟨by show 0≤m.Steam∧m.Steam≤9;omega,by show(0:Int)≤0∧(0:Int)≤48;omega,by show 1≤hourS a s.Site n∧hourS a s.Site n≤48;omega,by show 0≤s.Worn∧s.Worn≤100;omega,by show 0≤s.Fuel∧s.Fuel≤200;omega⟩ (fun h=>by simp[emptyS]at h) ?_ ?_ ?_ rfl ?_ ?_
    ·unfold needsS
     rw[if_pos rfl]
     simp[hne];omega
    ·exact hway.symm
    ·show m.Steam=(if s.Notch≥0 then m.Work else m.Steam)
     rw[if_neg hno]
    ·have:¬worksS s 1=true:=by rw[worksS_iff];omega
     rw[if_neg this];rfl
    ·have hw:worksS s 1=false:=by
      have:¬worksS s 1=true:=by rw[worksS_iff];omega
      simpa using this
     have hb:burnS m s 1=m.Steam:=if_neg hno
     have hhs:hoursS m a s 1 n=hourS a s.Site n:=hway
     simp only[thenS,nextS,if_true,hw,hb,hhs,finT,Int.add_zero]
     rfl
  ·refine ok_brk (fun hno=>?_) (fun hno=>hk4 _ ⟨fun h=>by simp at hno;omega,fun _=>rfl⟩)
   have hno:s.Notch≥0:=of_decide_eq_true hno
   refine ok_chk ⟨by omega,by omega⟩ (ok_bnd _ (ref_press hF hok (h:=s.Hour) (n:=hourS a s.Site n+hourS a s.Site n) (by omega) (by omega)) fun p ⟨p0,p3,hp⟩=>ok_brk (fun h3=>ok_some (no (.inr ?_))) (fun h3=>?_))
   ·have h3:p=3:=by simpa using h3
    have hcf:calmS a s.Hour (wayS a s n) 2=false:=by
     have hway:wayS a s n=hourS a s.Site n+hourS a s.Site n:=by unfold wayS;rw[if_pos hno];omega
     rw[hway]
     cases e:calmS a s.Hour (hourS a s.Site n+hourS a s.Site n) 2 with
     |false=>rfl
     |true=>have:=(hp 2 (by omega)).2 e;omega
    unfold needsS
    rw[if_pos rfl,hcf]
    have:decide (s.Notch<0)=false:=by simp;omega
    rw[this];simp
   ·have h3:p≠3:=by simpa using h3
    have e2:hourS a s.Site n+hourS a s.Site n=2*hourS a s.Site n:=by omega
    rw[e2]at hp⊢
    exact hk4 _ ⟨fun _=>⟨rfl,(hp 2 (by omega)).1 (by omega)⟩,fun h=>by omega⟩
 ·
  refine ok_brkF rfl (ok_brkT rfl ?_)
  have hn:=num_case (.inl rfl) hnu
  have hc:=hok.case hn.1 hn.2
  have hcut:1≤(caseS a n).Cut∧(caseS a n).Cut≤24:=hc.2.2.1
  refine ok_chk hn (ok_chk (fun _=>⟨hn.1,by omega⟩) (ok_bnd (fun p=>(¬s.Notch≥0→getC s.Cases n=0→(caseS a n).Site=s.Site→0≤p∧p≤3∧∀c:Int,0≤c→(p≤c↔calmS a s.Hour (caseS a n).Cut c=true))) ?_ fun p hp=>?_))
  ·refine ok_brk (fun _=>(ref_press hF hok (by omega) (by omega)).mono fun p h _ _ _=>h) (fun h=>ok_some fun h1 h2 h3=>?_)
   have e1:decide (s.Notch≥0)=false:=decide_eq_false h1
   rw[e1]at h
   simp[h2,h3]at h
  ·refine ok_brk (fun h=>ok_some (no ?_)) (fun h=>?_)
   ·by_cases h1:s.Notch≥0
    ·exact .inl ⟨by decide,h1⟩
    right
    unfold needsS
    rw[if_neg (by omega),if_pos rfl]
    by_cases h2:getC s.Cases n=0
    ·by_cases h3:(caseS a n).Site=s.Site
     ·have hp:=hp h1 h2 h3
      have e1:decide (s.Notch≥0)=false:=decide_eq_false h1
      rw[e1]at h
      have h4:(caseS a n).Calm<p:=by simpa[h2,h3]using h
      cases e:calmS a s.Hour (caseS a n).Cut (caseS a n).Calm with
      |false=>simp
      |true=>have:=(hp.2.2 _ hc.2.2.2.1).2 e;omega
     ·simp[h3]
    ·simp[h2]
   ·simp only[Bool.or_eq_false_iff,decide_eq_false_iff_not,bne_eq_false_iff_eq]at h
    obtain⟨⟨⟨h1,h2⟩,h3⟩,h4⟩:=h
    have hp:=hp h1 h2 h3
    have hneeds:needsS a s 2 n=true:=by
     unfold needsS
     rw[if_neg (by omega),if_pos rfl,(hp.2.2 _ hc.2.2.2.1).1 (by omega)]
     simp[h2,h3]
    refine ok_chk ⟨hn.1,by omega⟩ ?_
    have go:∀v:Int,(if(caseS a n).Towed=true then(1:Int)else 3)=v→Go.KX.Ok (fun r=>r=doS m a s ⟨2,n⟩) (kk (m.Work,false,(caseS a n).Cut,(caseS a n).Cut,(setC s.Cases n v).a2,(setC s.Cases n v).a1,(setC s.Cases n v).a0,s.Notch,s.Worn,s.Fuel,s.Site)):=by
     intro v hv
     refine give _ ⟨by show 0≤m.Work∧m.Work≤9;omega,by show 0≤(caseS a n).Cut∧(caseS a n).Cut≤48;omega,by show 1≤(caseS a n).Cut∧(caseS a n).Cut≤48;omega,by show 0≤s.Worn∧s.Worn≤100;omega,by show 0≤s.Fuel∧s.Fuel≤200;omega⟩ (fun _=>by omega) hneeds rfl rfl rfl rfl ?_
     subst hv
     rfl
    refine ok_brk (fun ht=>ok_chk ⟨hn.1,by omega⟩ ?_) (fun ht=>?_)
    ·have e:=go 1 (by rw[ht];rfl)
     have ee:∀i:Int,(if n=i then(1:Int)else if n=i then 3 else 0)=(if n=i then 1 else 0):=fun i=>by split<;>rfl
     have e0:∀(i w:Int),(if n=i then(1:Int)else if n=i then 3 else w)=(if n=i then 1 else w):=fun i w=>by split<;>rfl
     simp only[e0]
     exact e
    ·exact go 3 (by rw[ht];rfl)
 ·
  refine ok_brkF rfl (ok_brkF rfl (ok_brkT rfl ?_))
  have hn:=num_case (.inr rfl) hnu
  have hc:=hok.case hn.1 hn.2
  refine ok_chk (fun _=>⟨hn.1,by omega⟩) (ok_chk (fun _=>hn) (ok_bnd (fun p=>(¬s.Notch≥0→getC s.Cases n=1→(caseS a n).Site=s.Site→0≤p∧p≤3∧∀c:Int,0≤c→(p≤c↔calmS a s.Hour 1 c=true))) ?_ fun p hp=>?_))
  ·refine ok_brk (fun _=>(ref_press hF hok (by omega) (by omega)).mono fun p h _ _ _=>h) (fun h=>ok_some fun h1 h2 h3=>?_)
   have e1:decide (s.Notch≥0)=false:=decide_eq_false h1
   rw[e1]at h
   simp[h2,h3]at h
  ·refine ok_brk (fun h=>ok_some (no ?_)) (fun h=>?_)
   ·by_cases h1:s.Notch≥0
    ·exact .inl ⟨by decide,h1⟩
    right
    unfold needsS
    rw[if_neg (by omega),if_neg (by omega),if_pos rfl]
    by_cases h2:getC s.Cases n=1
    ·by_cases h3:(caseS a n).Site=s.Site
     ·have hp:=hp h1 h2 h3
      have e1:decide (s.Notch≥0)=false:=decide_eq_false h1
      rw[e1]at h
      have h4:1<p:=by simpa[h2,h3]using h
      cases e:calmS a s.Hour 1 1 with
      |false=>simp
      |true=>have:=(hp.2.2 1 (by omega)).2 e;omega
     ·simp[h3]
    ·simp[h2]
   ·simp only[Bool.or_eq_false_iff,decide_eq_false_iff_not,bne_eq_false_iff_eq]at h
    obtain⟨⟨⟨h1,h2⟩,h3⟩,h4⟩:=h
    have hp:=hp h1 h2 h3
    have hneeds:needsS a s 3 n=true:=by
     unfold needsS
     rw[if_neg (by omega),if_neg (by omega),if_pos rfl,(hp.2.2 1 (by omega)).1 (by omega)]
     simp[h2,h3]
    refine ok_chk ⟨hn.1,by omega⟩ ?_
    refine give _ ⟨by show 0≤m.Work∧m.Work≤9;omega,by show(0:Int)≤1∧(1:Int)≤48;omega,by show(1:Int)≤1∧(1:Int)≤48;omega,by show 0≤s.Worn∧s.Worn≤100;omega,by show 0≤s.Fuel∧s.Fuel≤200;omega⟩ (fun _=>by omega) hneeds rfl rfl rfl rfl ?_
    rfl
 ·
  refine ok_brkF rfl (ok_brkF rfl (ok_brkF rfl (ok_brkT rfl ?_)))
  refine ok_chk (fun h=>?_) (ok_brk (fun h=>ok_some (no (.inr ?_))) (fun h=>?_))
  ·have h:s.Notch≥0:=by simpa using h
   have:=notch_at hs h
   omega
  ·unfold needsS
   rw[if_neg (by omega),if_neg (by omega),if_neg (by omega),if_pos rfl]
   simp only[Bool.or_eq_true,Bool.not_eq_true',decide_eq_false_iff_not,bne_iff_ne]at h
   rw[Bool.and_eq_false_iff,decide_eq_false_iff_not,decide_eq_false_iff_not]
   exact h
  ·simp only[Bool.or_eq_false_iff,Bool.not_eq_false',decide_eq_true_eq,bne_eq_false_iff_eq]at h
   obtain⟨h1,h2⟩:=h
   have hna:=notch_at hs h1
   have hneeds:needsS a s 4 n=true:=by
    unfold needsS
    rw[if_neg (by omega),if_neg (by omega),if_neg (by omega),if_pos rfl]
    simp[h1,h2]
   refine ok_chk ⟨by omega,by omega⟩ ?_
   refine give _ ⟨by show 0≤m.Idle∧m.Idle≤9;omega,by show(0:Int)≤0∧(0:Int)≤48;omega,by show(1:Int)≤1∧(1:Int)≤48;omega,by show 0≤s.Worn∧s.Worn≤100;omega,by show 0≤s.Fuel∧s.Fuel≤200;omega⟩ (fun h=>by simp[emptyS]at h) hneeds rfl rfl rfl rfl ?_
   simp only[finT,Int.add_zero]
   rfl
 ·
  refine ok_brkF rfl (ok_brkF rfl (ok_brkF rfl (ok_brkF rfl (ok_brkF rfl (ok_brkF rfl (ok_brkF rfl ?_))))))
  refine give _ ⟨by show 0≤m.Idle∧m.Idle≤9;omega,by show(0:Int)≤0∧(0:Int)≤48;omega,by show(1:Int)≤1∧(1:Int)≤48;omega,by show 0≤s.Worn∧s.Worn≤100;omega,by show 0≤s.Fuel∧s.Fuel≤200;omega⟩ (fun h=>by simp[emptyS]at h) rfl rfl rfl rfl rfl ?_
  simp only[finT,Int.add_zero]
  rfl
 ·
  refine ok_brkF rfl (ok_brkF rfl (ok_brkF rfl (ok_brkF rfl (ok_brkT rfl ?_))))
  refine ok_brk (fun h=>ok_some (no (.inl ⟨by decide,of_decide_eq_true h⟩))) (fun h=>?_)
  have h:=of_decide_eq_false h
  refine give _ ⟨by show 0≤m.Idle∧m.Idle≤9;omega,by show(0:Int)≤0∧(0:Int)≤48;omega,by show 1≤m.Rest∧m.Rest≤48;omega,by show 0≤s.Worn∧s.Worn≤100;omega,by show 0≤s.Fuel∧s.Fuel≤200;omega⟩ (fun _=>by omega) rfl rfl rfl rfl rfl ?_
  simp only[finT,Int.add_zero]
  rfl
 ·
  refine ok_brkF rfl (ok_brkF rfl (ok_brkF rfl (ok_brkF rfl (ok_brkF rfl (ok_brkT rfl ?_)))))
  have nd:needsS a s 7 n=decide (s.Site=0):=by
   unfold needsS
   rw[if_neg (by omega),if_neg (by omega),if_neg (by omega),if_neg (by omega),if_pos (by omega)]
  refine ok_brk (fun h=>ok_some (no ?_)) (fun h=>?_)
  ·simp only[Bool.or_eq_true,decide_eq_true_eq,bne_iff_ne]at h
   exact h.imp (fun h=>⟨by decide,h⟩) (fun h=>by rw[nd];exact decide_eq_false h)
  ·simp only[Bool.or_eq_false_iff,decide_eq_false_iff_not,bne_eq_false_iff_eq]at h
   refine give _ ⟨by show(0:Int)≤0∧(0:Int)≤9;omega,by show(0:Int)≤0∧(0:Int)≤48;omega,by show(1:Int)≤2∧(2:Int)≤48;omega,by show 0≤s.Worn∧s.Worn≤100;omega,by show 0≤m.Tank∧m.Tank≤200;omega⟩ (fun _=>by omega) (by rw[nd];exact decide_eq_true h.2) rfl rfl rfl rfl ?_
   simp only[finT,Int.add_zero,Int.mul_zero,Int.sub_zero]
   rfl
 ·
  refine ok_brkF rfl (ok_brkF rfl (ok_brkF rfl (ok_brkF rfl (ok_brkF rfl (ok_brkF rfl (ok_brkT rfl ?_))))))
  have nd:needsS a s 8 n=decide (s.Site=0):=by
   unfold needsS
   rw[if_neg (by omega),if_neg (by omega),if_neg (by omega),if_neg (by omega),if_pos (by omega)]
  refine ok_brk (fun h=>ok_some (no ?_)) (fun h=>?_)
  ·simp only[Bool.or_eq_true,decide_eq_true_eq,bne_iff_ne]at h
   exact h.imp (fun h=>⟨by decide,h⟩) (fun h=>by rw[nd];exact decide_eq_false h)
  ·simp only[Bool.or_eq_false_iff,decide_eq_false_iff_not,bne_eq_false_iff_eq]at h
   refine give _ ⟨by show(0:Int)≤0∧(0:Int)≤9;omega,by show(0:Int)≤0∧(0:Int)≤48;omega,by show 1≤m.Refit∧m.Refit≤48;omega,by show(0:Int)≤0∧(0:Int)≤100;omega,by show 0≤s.Fuel∧s.Fuel≤200;omega⟩ (fun _=>by omega) (by rw[nd];exact decide_eq_true h.2) rfl rfl rfl rfl ?_
   simp only[finT,Int.add_zero]
   rfl
end
end Go.Proofs.Bm

namespace Go.Proofs.Bm
open Go Go.KX
section
variable{α:Type}{post:α→Prop}
theorem ok_upto{F n:Nat}(P:Nat→Prop){body:Int→(Int→Option α)→Option α}(hF:n<F)(h:∀i:Nat,i<n→(∀j<i,P j)→∀next:Int→Option α,(P i→Go.KX.Ok post (next ((i:Int)+1)))→Go.KX.Ok post (body (i:Int) next))
  (he:(∀j<n,P j)→∀next:Int→Option α,Go.KX.Ok post (body (n:Int) next)):Go.KX.Ok post (loopC body F 0):=by
 refine ok_loop (fun x:Int=>0≤x∧x≤n∧∀j<x.toNat,P j) (fun x=>n-x.toNat) ⟨by omega,by omega,fun j hj=>by simp at hj⟩ (by simp;omega) ?_
 rintro x next ⟨h1,h2,h3⟩ hn
 obtain⟨i,rfl⟩:=Int.eq_ofNat_of_zero_le h1
 simp only[Int.toNat_natCast]at h3 hn
 by_cases e:i<n
 ·refine h i e h3 next fun hp=>hn _ ⟨by omega,by omega,fun j hj=>?_⟩ (by omega)
  by_cases e2:j<i
  ·exact h3 j e2
  ·have:j=i:=by omega
   subst this;exact hp
 ·have:i=n:=by omega
  subst this
  exact he h3 next
theorem brk_lt{i n:Nat}{x y:Option α}(h:i<n)(hx:Go.KX.Ok post x):Go.KX.Ok post (brk (decide ((i:Int)<(n:Int))) x y):=ok_brkT (decide_eq_true (by omega)) hx
theorem brk_nlt{n:Nat}{x y:Option α}(hy:Go.KX.Ok post y):Go.KX.Ok post (brk (decide ((n:Int)<(n:Int))) x y):=ok_brkF (decide_eq_false (by omega)) hy
theorem inR1{i:Nat}(h:i≤1000000):InR ((i:Int)+1):=⟨by omega,by omega⟩
end
theorem all_range{n:Nat}{p:Nat→Bool}:(List.range n).all p=true↔∀i<n,p i=true:=by simp
theorem all_list{β:Type}{l:List β}{d:β}{p:β→Bool}:l.all p=true↔∀i<l.length,p (l.getD i d)=true:=by
 rw[List.all_eq_true]
 constructor
 ·intro h i hi;exact h _ (getD_mem hi)
 ·intro h x hx
  obtain⟨i,hi,rfl⟩:=List.getElem_of_mem hx
  have:=h i hi
  rwa [getD_get hi]at this
theorem all_no{β:Type}{l:List β}{d:β}{p:β→Bool}{i:Nat}(hi:i<l.length)(h:p (l.getD i d)=false):l.all p=false:=by
 cases e:l.all p with
 |false=>rfl
 |true=>rw[(all_list (d:=d)).1 e i hi]at h;cases h
theorem range_no{n:Nat}{p:Nat→Bool}{i:Nat}(hi:i<n)(h:p i=false):(List.range n).all p=false:=by
 cases e:(List.range n).all p with
 |false=>rfl
 |true=>rw[all_range.1 e i hi]at h;cases h
section
variable{F:Nat}{m:Machine}{a:Area}{s:State}
def cellOK(a:Area)(i k:Nat):Bool:=if i=k then decide ((a.Hours.getD i []).getD k 0=0)else inS ((a.Hours.getD i []).getD k 0) 1 24
theorem rowS_iff{n i:Nat}:rowS n i (a.Hours.getD i [])=true↔(a.Hours.getD i []).length=n∧∀k<n,cellOK a i k=true:=by
 unfold rowS cellOK
 rw[Bool.and_eq_true,decide_eq_true_eq,all_range]
def restC(a:Area):Int:=if(tableS a&&inS a.Limit 0 60&&(a.Press.all fun p=>inS p 0 3)&&a.Cases.all (caseOK a))=true then 0 else 1
theorem checkS_eq:checkS m a=if rightS m=false then 70 else if sizesS a=false then 2 else restC a:=rfl
theorem rest1(h:tableS a=false∨inS a.Limit 0 60=false∨(a.Press.all fun p=>inS p 0 3)=false∨a.Cases.all (caseOK a)=false):(1:Int)=restC a:=by
 unfold restC
 rw[if_neg]
 rcases h with h|h|h|h<;>rw[h]<;>simp
theorem ref_Check(hF:1000≤F):ref06_Check F m (ofA a)=some (checkS m a):=by
 refine Go.KX.Ok.eq ?_
 unfold ref06_Check
 simp only[ref_in,bnd_so,oH,oP,oC,oL]
 rw[checkS_eq]
 by_cases hr:rightS m=false
 ·rw[if_pos hr]
  unfold rightS at hr
  revert hr
  generalize inS m.Tank 1 200=b1;generalize inS m.Idle 0 5=b2;generalize inS m.Steam 0 9=b3;generalize inS m.Work 0 9=b4
  generalize inS m.Watch 1 48=b5;generalize inS m.Rest 1 24=b6;generalize inS m.Wear 1 100=b7;generalize inS m.Refit 1 48=b8
  intro hr
  cases b1 with
  |false=>exact ok_some rfl
  |true=>
  cases b2 with
  |false=>exact ok_some rfl
  |true=>
  cases b3 with
  |false=>exact ok_some rfl
  |true=>
  cases b4 with
  |false=>exact ok_some rfl
  |true=>
  cases b5 with
  |false=>exact ok_some rfl
  |true=>
  cases b6 with
  |false=>exact ok_some rfl
  |true=>
  cases b7 with
  |false=>exact ok_some rfl
  |true=>
  cases b8 with
  |false=>exact ok_some rfl
  |true=>cases hr
 ·rw[if_neg hr]
  have hr:rightS m=true:=by simpa using hr
  unfold rightS at hr
  simp only[Bool.and_eq_true]at hr
  obtain⟨⟨⟨⟨⟨⟨⟨p1,p2⟩,p3⟩,p4⟩,p5⟩,p6⟩,p7⟩,p8⟩:=hr
  rw[p1,p2,p3,p4,p5,p6,p7,p8]
  simp only[brk_false,brk_true,bnd_so,Bool.not_true,Bool.or_false,Bool.not_false]
  by_cases hz:sizesS a=false
  ·rw[if_pos hz]
   unfold sizesS at hz
   have e1:inS (a.Hours.length:Int) 1 4=inS (sitesS a) 1 4:=rfl
   rw[e1]
   have e2:decide ((a.Cases.length:Int)>3)=!decide ((a.Cases.length:Int)≤3):=by
    by_cases q:(a.Cases.length:Int)≤3
    ·simp[q]
    ·simp[q];omega
   simp only[e2]
   revert hz
   generalize inS (sitesS a) 1 4=b1;generalize inS (a.Press.length:Int) 1 60=b2;generalize decide ((a.Cases.length:Int)≤3)=b3
   intro hz
   cases b1 with
   |false=>exact ok_some rfl
   |true=>
   cases b2 with
   |false=>exact ok_some rfl
   |true=>
   cases b3 with
   |false=>exact ok_some rfl
   |true=>cases hz
  ·rw[if_neg hz]
   have hz:sizesS a=true:=by simpa using hz
   unfold sizesS at hz
   simp only[Bool.and_eq_true,decide_eq_true_eq]at hz
   obtain⟨⟨q1,q2⟩,q3⟩:=hz
   have e1:inS (a.Hours.length:Int) 1 4=true:=q1
   have e2:decide ((a.Cases.length:Int)>3)=false:=decide_eq_false (by omega)
   rw[e1,q2];simp only[e2]
   simp only[brk_false,brk_true,bnd_so,Bool.not_true,Bool.or_false,Bool.not_false]
   rw[inS_iff]at q2 e1
   have hsn:a.Hours.length≤4:=by omega
   have hpn:a.Press.length≤60:=by omega
   refine ok_upto (n:=a.Hours.length) (fun i=>rowS a.Hours.length i (a.Hours.getD i [])=true) (by omega) (fun i hi hb next hn=>?_) (fun hall next=>brk_nlt ?_)
   ·refine brk_lt hi (ok_chk ⟨by omega,by omega⟩ (ok_brk (fun hl=>ok_some (rest1 (.inl (range_no hi ?_)))) (fun hl=>?_)))
    ·have hl:¬(a.Hours.getD i []).length=a.Hours.length:=fun e=>by
      rw[show Int.toNat (i:Int)=i from Int.toNat_natCast i,e]at hl;simp at hl
     unfold rowS
     rw[decide_eq_false hl];rfl
    ·have hl:(a.Hours.getD i []).length=a.Hours.length:=by
      rw[show Int.toNat (i:Int)=i from Int.toNat_natCast i]at hl
      have:=bne_eq_false_iff_eq.1 hl;omega
     have bad:∀k<a.Hours.length,cellOK a i k=false→(1:Int)=restC a:=fun k hk hc=>rest1 (.inl (range_no hi (by
      cases e:rowS a.Hours.length i (a.Hours.getD i [])with
      |false=>rfl
      |true=>rw[(rowS_iff.1 e).2 k hk]at hc;cases hc)))
     refine ok_upto (n:=a.Hours.length) (fun k=>cellOK a i k=true) (by omega) (fun k hk hkb next2 hn2=>?_) (fun hall next2=>brk_nlt ?_)
     ·have hin:(0:Int)≤(i:Int)∧(i:Int)<(a.Hours.length:Int):=⟨by omega,by omega⟩
      have hkn:(0:Int)≤(k:Int)∧(k:Int)<(List.length (a.Hours.getD (Int.toNat (i:Int)) []):Int):=⟨by omega,by rw[Int.toNat_natCast,hl];omega⟩
      refine brk_lt hk (ok_brk (fun he=>ok_chk hin (ok_chk hkn ?_)) (fun he=>?_))
      ·have he:i=k:=by have:=beq_iff_eq.1 he;omega
       subst he
       refine ok_brk (fun hv=>ok_some (bad i hk ?_)) (fun hv=>ok_brkF (by simp) (ok_chk (inR1 (by omega)) (hn2 ?_)))
       ·unfold cellOK
        rw[if_pos rfl,decide_eq_false_iff_not]
        simpa using hv
       ·unfold cellOK
        rw[if_pos rfl,decide_eq_true_eq]
        simpa using hv
      ·have he:i≠k:=fun e=>by subst e;simp at he
       refine ok_brkT (by simpa[bne_iff_ne]using(by omega:(i:Int)≠k)) (ok_chk hin (ok_chk hkn (ok_brk (fun hv=>ok_some (bad k hk ?_)) (fun hv=>ok_chk (inR1 (by omega)) (hn2 ?_)))))
       ·unfold cellOK
        rw[if_neg he]
        simpa using hv
       ·unfold cellOK
        rw[if_neg he]
        simpa using hv
     ·exact ok_chk (inR1 (by omega)) (hn (rowS_iff.2 ⟨hl,hall⟩))
   ·have htab:tableS a=true:=all_range.2 hall
    refine ok_upto (n:=a.Press.length) (fun i=>inS (a.Press.getD i 0) 0 3=true) (by omega) (fun i hi hb next hn=>?_) (fun hpr next=>brk_nlt ?_)
    ·refine brk_lt hi (ok_chk ⟨by omega,by omega⟩ (ok_brk (fun hv=>ok_some (rest1 (.inr (.inr (.inl (all_no (d:=0) hi (by simpa using hv))))))) (fun hv=>ok_chk (inR1 (by omega)) (hn (by simpa using hv)))))
    ·have hpress:(a.Press.all fun p=>inS p 0 3)=true:=(all_list (d:=0)).2 hpr
     refine ok_upto (n:=a.Cases.length) (fun i=>caseOK a (a.Cases.getD i noCase)=true) (by omega) (fun i hi hb next hn=>?_) (fun hcs next=>brk_nlt ?_)
     ·have hc:∀j:Nat,a.Cases.getD j (Case.mk 0 0 0 0 false)=a.Cases.getD j noCase:=fun _=>rfl
      have es:((a.Hours.length:Int)-1)=sitesS a-1:=rfl
      refine brk_lt hi (ok_chk ⟨by omega,by omega⟩ (ok_chk ⟨by omega,by omega⟩ (ok_chk (fun _=>⟨by omega,by omega⟩) ?_)))
      simp only[hc,es,Int.toNat_natCast]
      have key:caseOK a (a.Cases.getD i noCase)=(inS (a.Cases.getD i noCase).Site 0 (sitesS a-1)&&inS (a.Cases.getD i noCase).To 0 (sitesS a-1)&&inS (a.Cases.getD i noCase).Cut 1 24&&inS (a.Cases.getD i noCase).Calm 0 3):=rfl
      have bad:caseOK a (a.Cases.getD i noCase)=false→(1:Int)=restC a:=fun h=>rest1 (.inr (.inr (.inr (all_no (d:=noCase) hi h))))
      rw[key]at bad hn
      revert bad hn
      generalize inS (a.Cases.getD i noCase).Site 0 (sitesS a-1)=b1;generalize inS (a.Cases.getD i noCase).To 0 (sitesS a-1)=b2;generalize inS (a.Cases.getD i noCase).Cut 1 24=b3;generalize inS (a.Cases.getD i noCase).Calm 0 3=b4
      intro hn bad
      cases b1 with
      |false=>exact ok_some (bad rfl)
      |true=>
      cases b2 with
      |false=>exact ok_some (bad rfl)
      |true=>
      cases b3 with
      |false=>exact ok_some (bad rfl)
      |true=>
      cases b4 with
      |false=>exact ok_some (bad rfl)
      |true=>exact ok_chk (inR1 (by omega)) (hn rfl)
     ·have hcases:a.Cases.all (caseOK a)=true:=(all_list (d:=noCase)).2 hcs
      cases hl:inS a.Limit 0 60 with
      |false=>exact ok_some (rest1 (.inr (.inl hl)))
      |true=>
       refine ok_some ?_
       unfold restC
       rw[htab,hl,hpress,hcases];rfl
def begunS(m:Machine)(a:Area)(s:State):Int:=if checkS m a≠0 then checkS m a else if stateS m a s=false then 9 else 0
theorem begun_ok(h:begunS m a s=0):Fit m a∧StOk m a s:=by
 unfold begunS at h
 split at h
 ·contradiction
 split at h
 ·simp at h
 ·rename_i h1 h2
  exact⟨ok_of (by simpa using h1),stateS_iff.1 (by simpa using h2)⟩
theorem ref_begun(hF:1000≤F):ref06_begun F m (ofA a) s=some (begunS m a s):=by
 refine Go.KX.Ok.eq ?_
 unfold ref06_begun
 refine ok_bnde (ref_Check hF) ?_
 unfold begunS
 refine ok_brk (fun h=>ok_some ?_) (fun h=>?_)
 ·rw[if_pos (by simpa using h)]
 ·have h:checkS m a=0:=by simpa using h
  have hf:=ok_of h
  have h1:=hf.casesN;have h2:=hf.sites;unfold sitesS at h2
  refine ok_bnde (ref_state hF h1 (by omega)) ?_
  rw[if_neg (by simp[h])]
  cases e:stateS m a s with
  |false=>exact ok_some rfl
  |true=>exact ok_some rfl
end
end Go.Proofs.Bm

namespace Go.Proofs.Bm
open Go Go.KX
section
variable{F:Nat}{m:Machine}{a:Area}{s:State}
theorem p_in{n x y:Int}:breaker_within F n x y=some (inS n x y):=rfl
theorem p_right:breaker_Machine_right F m=some (rightS m):=by
 refine Go.KX.Ok.eq ?_
 unfold breaker_Machine_right rightS
 simp only[p_in,bnd_so]
 generalize inS m.Tank 1 200=b1;generalize inS m.Idle 0 5=b2;generalize inS m.Steam 0 9=b3;generalize inS m.Work 0 9=b4
 generalize inS m.Watch 1 48=b5;generalize inS m.Rest 1 24=b6;generalize inS m.Wear 1 100=b7;generalize inS m.Refit 1 48=b8
 cases b1<;>cases b2<;>cases b3<;>cases b4<;>cases b5<;>cases b6<;>cases b7<;>cases b8<;>exact ok_some rfl
theorem p_table(hF:1000≤F)(hsn:a.Hours.length≤4):breaker_Area_table F a=some (tableS a):=by
 refine Go.KX.Ok.eq ?_
 unfold breaker_Area_table
 refine ok_upto (n:=a.Hours.length) (fun i=>rowS a.Hours.length i (a.Hours.getD i [])=true) (by omega) (fun i hi hb next hn=>?_) (fun hall next=>brk_nlt (ok_some (all_range.2 hall).symm))
 have bad0:rowS a.Hours.length i (a.Hours.getD i [])=false→false=tableS a:=fun h=>(range_no hi h).symm
 refine brk_lt hi (ok_chk ⟨by omega,by omega⟩ (ok_brk (fun hl=>ok_some (bad0 ?_)) (fun hl=>?_)))
 ·have hl:¬(a.Hours.getD i []).length=a.Hours.length:=fun e=>by
   rw[show Int.toNat (i:Int)=i from Int.toNat_natCast i,e]at hl;simp at hl
  unfold rowS
  rw[decide_eq_false hl];rfl
 ·have hl:(a.Hours.getD i []).length=a.Hours.length:=by
   rw[show Int.toNat (i:Int)=i from Int.toNat_natCast i]at hl
   have:=bne_eq_false_iff_eq.1 hl;omega
  have bad:∀k<a.Hours.length,cellOK a i k=false→false=tableS a:=fun k hk hc=>bad0 (by
   cases e:rowS a.Hours.length i (a.Hours.getD i [])with
   |false=>rfl
   |true=>rw[(rowS_iff.1 e).2 k hk]at hc;cases hc)
  simp only[Int.toNat_natCast,hl]
  refine ok_upto (n:=a.Hours.length) (fun k=>cellOK a i k=true) (by omega) (fun k hk hkb next2 hn2=>?_) (fun hall next2=>brk_nlt ?_)
  ·refine brk_lt hk (ok_chk ⟨by omega,by omega⟩ ?_)
   simp only[Int.toNat_natCast]
   have hc:cellOK a i k=if i=k then decide ((a.Hours.getD i []).getD k 0=0)else inS ((a.Hours.getD i []).getD k 0) 1 24:=rfl
   by_cases he:i=k
   ·subst he
    rw[if_pos rfl]at hc
    have e1:((i:Int)==(i:Int))=true:=by simp
    have e2:((i:Int) != (i:Int))=false:=by simp
    rw[e1,e2]
    simp only[Bool.and_false,Bool.true_and,Bool.false_and,Bool.or_false,brk_false,bnd_so]
    refine ok_brk (fun hv=>ok_some (bad i hk ?_)) (fun hv=>ok_chk (inR1 (by omega)) (hn2 ?_))
    ·rw[hc,decide_eq_false_iff_not];simpa using hv
    ·rw[hc,decide_eq_true_eq];simpa using hv
   ·rw[if_neg he]at hc
    have e1:((i:Int)==(k:Int))=false:=by simp;omega
    have e2:((i:Int) != (k:Int))=true:=by simp;omega
    rw[e1,e2]
    simp only[Bool.false_and,Bool.not_false,Bool.true_and,Bool.false_or,brk_true,p_in,bnd_so]
    refine ok_brk (fun hv=>ok_some (bad k hk ?_)) (fun hv=>ok_chk (inR1 (by omega)) (hn2 ?_))
    ·rw[hc];simpa using hv
    ·rw[hc];simpa using hv
  ·exact ok_chk (inR1 (by omega)) (hn (rowS_iff.2 ⟨hl,hall⟩))
theorem p_Check(hF:1000≤F):breaker_Check F m a=some (checkS m a):=by
 refine Go.KX.Ok.eq ?_
 unfold breaker_Check
 rw[p_right]
 simp only[p_in,bnd_so]
 rw[checkS_eq]
 cases hr:rightS m with
 |false=>exact ok_some rfl
 |true=>
 rw[if_neg (by simp)]
 refine ok_brkF rfl ?_
 have e2:decide ((a.Cases.length:Int)>3)=!decide ((a.Cases.length:Int)≤3):=by
  by_cases q:(a.Cases.length:Int)≤3
  ·simp[q]
  ·simp[q];omega
 have e1:inS (a.Hours.length:Int) 1 4=inS (sitesS a) 1 4:=rfl
 rw[e1]
 simp only[e2]
 cases hz:sizesS a with
 |false=>
  rw[if_pos rfl]
  unfold sizesS at hz
  revert hz
  generalize inS (sitesS a) 1 4=b1;generalize inS (a.Press.length:Int) 1 60=b2;generalize decide ((a.Cases.length:Int)≤3)=b3
  intro hz
  cases b1 with
  |false=>exact ok_some rfl
  |true=>
  cases b2 with
  |false=>exact ok_some rfl
  |true=>
  cases b3 with
  |false=>exact ok_some rfl
  |true=>cases hz
 |true=>
  rw[if_neg (by simp)]
  unfold sizesS at hz
  simp only[Bool.and_eq_true,decide_eq_true_eq]at hz
  obtain⟨⟨q1,q2⟩,q3⟩:=hz
  rw[q1,q2,decide_eq_true q3]
  simp only[brk_false,brk_true,bnd_so,Bool.not_true,Bool.or_false,Bool.not_false]
  rw[inS_iff]at q1 q2
  have hsn:a.Hours.length≤4:=by unfold sitesS at q1;omega
  have hpn:a.Press.length≤60:=by omega
  rw[p_table hF hsn]
  simp only[bnd_so]
  cases htab:tableS a with
  |false=>exact ok_some (rest1 (.inl htab))
  |true=>
  cases hlim:inS a.Limit 0 60 with
  |false=>exact ok_some (rest1 (.inr (.inl hlim)))
  |true=>
  simp only[brk_false,brk_true,bnd_so,Bool.not_true,Bool.or_false,Bool.not_false]
  refine ok_upto (n:=a.Press.length) (fun i=>inS (a.Press.getD i 0) 0 3=true) (by omega) (fun i hi hb next hn=>?_) (fun hpr next=>brk_nlt ?_)
  ·refine brk_lt hi (ok_chk ⟨by omega,by omega⟩ (ok_brk (fun hv=>ok_some (rest1 (.inr (.inr (.inl (all_no (d:=0) hi (by simpa using hv))))))) (fun hv=>ok_chk (inR1 (by omega)) (hn (by simpa using hv)))))
  ·have hpress:(a.Press.all fun p=>inS p 0 3)=true:=(all_list (d:=0)).2 hpr
   refine ok_upto (n:=a.Cases.length) (fun i=>caseOK a (a.Cases.getD i noCase)=true) (by omega) (fun i hi hb next hn=>?_) (fun hcs next=>brk_nlt ?_)
   ·have hc:∀j:Nat,a.Cases.getD j (Case.mk 0 0 0 0 false)=a.Cases.getD j noCase:=fun _=>rfl
    have es:((a.Hours.length:Int)-1)=sitesS a-1:=rfl
    refine brk_lt hi (ok_chk ⟨by omega,by omega⟩ (ok_chk ⟨by omega,by omega⟩ (ok_chk (fun _=>⟨by omega,by omega⟩) ?_)))
    simp only[hc,es,Int.toNat_natCast]
    have key:caseOK a (a.Cases.getD i noCase)=(inS (a.Cases.getD i noCase).Site 0 (sitesS a-1)&&inS (a.Cases.getD i noCase).To 0 (sitesS a-1)&&inS (a.Cases.getD i noCase).Cut 1 24&&inS (a.Cases.getD i noCase).Calm 0 3):=rfl
    have bad:caseOK a (a.Cases.getD i noCase)=false→(1:Int)=restC a:=fun h=>rest1 (.inr (.inr (.inr (all_no (d:=noCase) hi h))))
    rw[key]at bad hn
    revert bad hn
    generalize inS (a.Cases.getD i noCase).Site 0 (sitesS a-1)=b1;generalize inS (a.Cases.getD i noCase).To 0 (sitesS a-1)=b2;generalize inS (a.Cases.getD i noCase).Cut 1 24=b3;generalize inS (a.Cases.getD i noCase).Calm 0 3=b4
    intro hn bad
    cases b1 with
    |false=>exact ok_some (bad rfl)
    |true=>
    cases b2 with
    |false=>exact ok_some (bad rfl)
    |true=>
    cases b3 with
    |false=>exact ok_some (bad rfl)
    |true=>
    cases b4 with
    |false=>exact ok_some (bad rfl)
    |true=>exact ok_chk (inR1 (by omega)) (hn rfl)
   ·have hcases:a.Cases.all (caseOK a)=true:=(all_list (d:=noCase)).2 hcs
    refine ok_some ?_
    unfold restC
    rw[htab,hlim,hpress,hcases];rfl
theorem p_state(hF:1000≤F)(hcn:a.Cases.length≤3)(hsn:a.Hours.length≤4):breaker_works_state F (m,a) s=some (stateS m a s):=by
 refine Go.KX.Ok.eq ?_
 unfold breaker_works_state
 simp only[p_in,bnd_so]
 have e:stateS m a s=(inS s.Hour 0 a.Limit&&inS s.Site 0 (sitesS a-1)&&inS s.Fuel 0 m.Tank&&inS s.Awake 0 m.Watch&&inS s.Worn 0 m.Wear&&restS a s.Cases s.Notch 3 0 (-1)):=by rw[rest_all];rfl
 have es:((a.Hours.length:Int)-1)=sitesS a-1:=rfl
 rw[e,es]
 have hIn:InR (sitesS a-1):=⟨by unfold sitesS;omega,by unfold sitesS;omega⟩
 cases b1:inS s.Hour 0 a.Limit with
 |false=>exact ok_some rfl
 |true=>
 refine ok_brkF rfl (ok_chk hIn ?_)
 cases b2:inS s.Site 0 (sitesS a-1)with
 |false=>exact ok_some rfl
 |true=>
 refine ok_brkF rfl ?_
 cases b3:inS s.Fuel 0 m.Tank with
 |false=>exact ok_some rfl
 |true=>
 refine ok_brkF rfl ?_
 cases b4:inS s.Awake 0 m.Watch with
 |false=>exact ok_some rfl
 |true=>
 refine ok_brkF rfl ?_
 cases b5:inS s.Worn 0 m.Wear with
 |false=>exact ok_some rfl
 |true=>
 refine ok_brkF rfl ?_
 simp only[Bool.true_and]
 obtain⟨tgt,ht⟩:∃t,restS a s.Cases s.Notch 3 0 (-1)=t:=⟨_,rfl⟩
 rw[ht]
 refine ok_loop (fun x:Int×Int=>0≤x.2∧x.2≤3∧restS a s.Cases s.Notch (3-x.2.toNat) x.2.toNat x.1=tgt) (fun x=>3-x.2.toNat) ⟨by simp,by simp,ht⟩ (by simp;omega) ?_
 rintro⟨n,i⟩ next ⟨i1,i2,i3⟩ hn
 simp only at i1 i2 i3 hn⊢
 refine ok_brk (fun hc=>?_) (fun hc=>?_)
 ·have hc:i<3:=of_decide_eq_true hc
  have hstep:restS a s.Cases s.Notch (3-i.toNat) i.toNat n=(shipS a i.toNat (caseAt s.Cases i.toNat)&& !(decide (caseAt s.Cases i.toNat=2)&&decide (n≥0))&&restS a s.Cases s.Notch (3-(i+1).toNat) (i+1).toNat (if caseAt s.Cases i.toNat=2 then i else n)):=by
   rw[show 3-i.toNat=(3-(i+1).toNat)+1 by omega,restS,show i.toNat+1=(i+1).toNat by omega,show((i.toNat:Nat):Int)=i by omega]
  rw[hstep]at i3
  have ev:[s.Cases.a0,s.Cases.a1,s.Cases.a2].getD i.toNat 0=caseAt s.Cases i.toNat:=rfl
  simp only[ev]
  generalize caseAt s.Cases i.toNat=v at i3
  have bad:shipS a i.toNat v=false∨(decide (v=2)&&decide (n≥0))=true→false=tgt:=fun h=>by
   rw[←i3]
   rcases h with h|h<;>simp only[h,Bool.false_and,Bool.not_true,Bool.and_false]
  have hnc:a.Cases.getD i.toNat (Case.mk 0 0 0 0 false)=a.Cases.getD i.toNat noCase:=rfl
  simp only[hnc]
  have iff:=shipS_iff (a:=a) (n:=i.toNat) (v:=v)
  refine ok_join (by omega) (fun n':Int=>n'=(if v=2 then i else n)∧shipS a i.toNat v=true∧(decide (v=2)&&decide (n≥0))=false) (fun n' hn'=>?_) (fun k hk=>?_)
  ·obtain⟨rfl,h1,h2⟩:=hn'
   rw[h1,h2]at i3
   exact ok_chk ⟨by omega,by omega⟩ (hn _ ⟨by show 0≤i+1;omega,by show i+1≤3;omega,i3⟩ (by show 3-(i+1).toNat<3-i.toNat;omega))
  ·have fin:shipS a i.toNat v=true→Go.KX.Ok (fun x=>x=tgt) (brk (v==2&&decide (n≥0)) (some false) (brk (v==2) (k i) (k n))):=fun hsh=>by
    refine ok_brk (fun h4=>ok_some (bad (.inr ?_))) (fun h4=>ok_brk (fun h5=>hk _ ⟨?_,hsh,?_⟩) (fun h5=>hk _ ⟨?_,hsh,?_⟩))
    ·exact h4
    ·have h5:v=2:=by simpa using h5
     rw[if_pos h5]
    ·exact h4
    ·have h5:v≠2:=by simpa using h5
     rw[if_neg h5]
    ·exact h4
   refine ok_chk ⟨i1,hc⟩ (ok_brk (fun hv=>hk _ ?_) (fun hv=>?_))
   ·have hv:v=0:=by simpa using hv
    subst hv
    exact⟨by simp,by rw[shipS_iff];exact .inl rfl,by simp⟩
   ·have hv:v≠0:=by simpa using hv
    refine ok_brk (fun hl=>ok_some (bad (.inl ?_))) (fun hl=>?_)
    ·have hl:(a.Cases.length:Int)≤i:=of_decide_eq_true hl
     cases e:shipS a i.toNat v with
     |false=>rfl
     |true=>rw[shipS_iff]at e;omega
    ·have hl:i<(a.Cases.length:Int):=by have:=of_decide_eq_false hl;omega
     refine ok_brk (fun h1=>ok_some (bad (.inl ?_))) (fun h1=>?_)
     ·cases e:shipS a i.toNat v with
      |false=>rfl
      |true=>
       have h1:inS v 1 3=false:=by simpa using h1
       have:inS v 1 3=true:=inS_iff.2 (by rw[iff]at e;omega)
       rw[h1]at this;cases this
     ·have h1:inS v 1 3=true:=by simpa using h1
      rw[inS_iff]at h1
      refine ok_brk (fun h2=>ok_chk ⟨i1,hl⟩ (ok_brk (fun h3=>ok_some (bad (.inl ?_))) (fun h3=>fin ?_))) (fun h2=>fin ?_)
      ·have h2:v≠3:=by simpa using h2
       have h3:(a.Cases.getD i.toNat noCase).Towed=false:=by simpa using h3
       cases e:shipS a i.toNat v with
       |false=>rfl
       |true=>
        rcases iff.1 e with e|⟨_,_,e|e⟩
        ·omega
        ·omega
        ·rw[h3]at e;cases e
      ·have h3:(a.Cases.getD i.toNat noCase).Towed=true:=by simpa using h3
       exact iff.2 (.inr ⟨by omega,by omega,.inr h3⟩)
      ·have h2:v=3:=by simpa using h2
       exact iff.2 (.inr ⟨by omega,by omega,.inl h2⟩)
 ·have:i=3:=by have:=of_decide_eq_false hc;omega
  subst this
  refine ok_some ?_
  rw[←i3]
  rfl
end
end Go.Proofs.Bm

namespace Go.Proofs.Bm
open Go Go.KX
section
variable{F:Nat}{m:Machine}{a:Area}{s:State}
theorem p_press(hok:Fit m a){h:Int}(h0:0≤h):breaker_works_press F (m,a) h=some (pressS a h):=by
 have hp:=hok.pressN
 refine Go.KX.Ok.eq ?_
 unfold breaker_works_press
 have e:(if(a.Press.length:Int)-1<h then(a.Press.length:Int)-1 else h)=min h ((a.Press.length:Int)-1):=by split<;>omega
 simp only[e]
 exact ok_chk ⟨by omega,by omega⟩ (ok_chk ⟨by omega,by omega⟩ (ok_some rfl))
theorem p_calm(hF:1000≤F)(hok:Fit m a){h n c:Int}(h0:0≤h∧h≤1000)(hn:0≤n∧n≤100):breaker_works_calm F (m,a) h n c=some (calmS a h n c):=by
 refine Go.KX.Ok.eq ?_
 unfold breaker_works_calm
 refine ok_loop (fun x:Int=>h≤x∧x≤h+n∧∀i:Int,h≤i→i<x→pressS a i≤c) (fun x=>(h+n-x).toNat) ⟨by omega,by omega,fun i h1 h2=>by omega⟩ (by omega) ?_
 rintro i next ⟨i1,i2,i3⟩ hnx
 refine ok_chk ⟨by omega,by omega⟩ (ok_brk (fun hc=>?_) (fun hc=>?_))
 ·have hc:i<h+n:=of_decide_eq_true hc
  refine ok_bnde (p_press hok (by omega)) (ok_brk (fun hp=>ok_some ?_) (fun hp=>ok_chk ⟨by omega,by omega⟩ (hnx _ ⟨by omega,by omega,fun j h1 h2=>?_⟩ (by omega))))
  ·have hp:pressS a i>c:=of_decide_eq_true hp
   cases e:calmS a h n c with
   |false=>rfl
   |true=>have:=calmS_iff.1 e i i1 hc;omega
  ·have hp:=of_decide_eq_false hp
   by_cases e:j=i
   ·subst e;omega
   ·exact i3 j h1 (by omega)
 ·have hc:i=h+n:=by have:=of_decide_eq_false hc;omega
  subst hc
  exact ok_some (calmS_iff.2 i3).symm
theorem p_way(hok:Fit m a)(hs:StOk m a s){n:Int}(hn:0≤n∧n≤sitesS a-1):breaker_works_way F (m,a) s n=some (wayS a s n):=by
 refine Go.KX.Ok.eq ?_
 unfold breaker_works_way
 have hsl:=hs.site
 unfold sitesS at hn hsl
 have hr:=hok.rows s.Site.toNat (by omega)
 have hb:0≤hourS a s.Site n∧hourS a s.Site n≤24:=by
  by_cases e:n=s.Site
  ·have:=hok.same s.Site.toNat (by omega)
   unfold hourS
   rw[e,this];omega
  ·have:=hok.way hs.site (by unfold sitesS;exact hn) e
   omega
 have hh:List.getD (a.Hours.getD s.Site.toNat []) n.toNat 0=hourS a s.Site n:=rfl
 simp only[hh,hr]
 unfold wayS
 refine ok_brk (fun h=>?_) (fun h=>?_)
 ·rw[if_pos (of_decide_eq_true h)]
  exact ok_chk ⟨by omega,by omega⟩ (ok_chk ⟨by omega,by omega⟩ (ok_chk ⟨by omega,by omega⟩ (ok_some rfl)))
 ·rw[if_neg (of_decide_eq_false h)]
  exact ok_chk ⟨by omega,by omega⟩ (ok_chk ⟨by omega,by omega⟩ (ok_some rfl))
theorem p_site(hok:Fit m a){n:Int}:breaker_works_site F (m,a) n=some (inS n 0 (sitesS a-1)):=by
 have:=hok.sites
 unfold sitesS at this
 unfold breaker_works_site
 rw[chk_pos (show InR _ from⟨by simp only;omega,by simp only;omega⟩)]
 rfl
theorem p_ship(hok:Fit m a){n:Int}:breaker_works_ship F (m,a) n=some (inS n 0 ((a.Cases.length:Int)-1)):=by
 have:=hok.casesN
 unfold breaker_works_ship
 rw[chk_pos (show InR _ from⟨by simp only;omega,by simp only;omega⟩)]
 rfl
theorem p_goes:breaker_works_goes F (m,a) s=some (if s.Notch≥0 then m.Work else m.Steam):=by
 unfold breaker_works_goes
 by_cases h:s.Notch≥0
 ·rw[if_pos h,decide_eq_true h];rfl
 ·rw[if_neg h,decide_eq_false h];rfl
theorem p_r4(hF:1000≤F)(hok:Fit m a)(hs:StOk m a s){n:Int}(hn:0≤n∧n≤sitesS a-1):breaker_rules_4 F (m,a) s n=some (needsS a s 1 n):=by
 refine Go.KX.Ok.eq ?_
 unfold breaker_rules_4
 have e0:needsS a s 1 n=(decide (n≠s.Site)&&(decide (s.Notch<0)||calmS a s.Hour (wayS a s n) 2)):=if_pos rfl
 have e1:(n != s.Site)=decide (n≠s.Site):=by by_cases h:n=s.Site<;>simp[h]
 rw[e0,e1]
 have hl:=hok.limit;have hh:=hs.hour
 by_cases h:n=s.Site
 ·rw[decide_eq_false (not_not_intro h)];exact ok_some rfl
 rw[decide_eq_true h]
 by_cases h2:s.Notch<0
 ·rw[decide_eq_true h2];exact ok_some rfl
 rw[decide_eq_false h2]
 have hw:0≤wayS a s n∧wayS a s n≤100:=by
  have:=hok.way hs.site hn h
  unfold wayS;split<;>omega
 simp only[Bool.not_false,Bool.and_true,Bool.true_and,brk_true,Bool.false_or]
 exact ok_bnde (p_way hok hs hn) (ok_bnde (p_calm hF hok (by omega) hw) (ok_some rfl))
theorem p_r6(hF:1000≤F)(hok:Fit m a)(hs:StOk m a s){n:Int}(hn:0≤n∧n<(a.Cases.length:Int)):breaker_rules_6 F (m,a) s n=some (needsS a s 2 n):=by
 refine Go.KX.Ok.eq ?_
 unfold breaker_rules_6
 have hcn:=hok.casesN;have hc:=hok.case hn.1 hn.2
 have hl:=hok.limit;have hh:=hs.hour
 have e0:needsS a s 2 n=(decide (getC s.Cases n=0)&&decide ((caseS a n).Site=s.Site)&&calmS a s.Hour (caseS a n).Cut (caseS a n).Calm):=rfl
 have g1:[s.Cases.a0,s.Cases.a1,s.Cases.a2].getD n.toNat 0=getC s.Cases n:=rfl
 have g2:a.Cases.getD n.toNat (Case.mk 0 0 0 0 false)=caseS a n:=rfl
 simp only[g1,g2]
 have e1:(getC s.Cases n==0)=decide (getC s.Cases n=0):=by by_cases h:getC s.Cases n=0<;>simp[h]
 have e2:((caseS a n).Site==s.Site)=decide ((caseS a n).Site=s.Site):=by by_cases h:(caseS a n).Site=s.Site<;>simp[h]
 rw[e0,e1,e2]
 refine ok_chk hn (ok_chk ⟨hn.1,by omega⟩ ?_)
 by_cases h:getC s.Cases n=0
 ·rw[decide_eq_true h]
  by_cases h2:(caseS a n).Site=s.Site
  ·rw[decide_eq_true h2]
   exact ok_bnde (b:=calmS a s.Hour (caseS a n).Cut (caseS a n).Calm) (p_calm hF hok (by omega) (by omega)) (ok_some rfl)
  ·rw[decide_eq_false h2];exact ok_some rfl
 ·rw[decide_eq_false h];exact ok_some rfl
theorem p_r9(hF:1000≤F)(hok:Fit m a)(hs:StOk m a s){n:Int}(hn:0≤n∧n<(a.Cases.length:Int)):breaker_rules_9 F (m,a) s n=some (needsS a s 3 n):=by
 refine Go.KX.Ok.eq ?_
 unfold breaker_rules_9
 have hcn:=hok.casesN
 have hl:=hok.limit;have hh:=hs.hour
 have e0:needsS a s 3 n=(decide (getC s.Cases n=1)&&decide ((caseS a n).Site=s.Site)&&calmS a s.Hour 1 1):=rfl
 have g1:[s.Cases.a0,s.Cases.a1,s.Cases.a2].getD n.toNat 0=getC s.Cases n:=rfl
 have g2:a.Cases.getD n.toNat (Case.mk 0 0 0 0 false)=caseS a n:=rfl
 simp only[g1,g2]
 have e1:(getC s.Cases n==1)=decide (getC s.Cases n=1):=by by_cases h:getC s.Cases n=1<;>simp[h]
 have e2:((caseS a n).Site==s.Site)=decide ((caseS a n).Site=s.Site):=by by_cases h:(caseS a n).Site=s.Site<;>simp[h]
 rw[e0,e1,e2]
 refine ok_chk ⟨hn.1,by omega⟩ ?_
 by_cases h:getC s.Cases n=1
 ·rw[decide_eq_true h]
  refine ok_brkT rfl (ok_chk hn ?_)
  by_cases h2:(caseS a n).Site=s.Site
  ·rw[decide_eq_true h2]
   exact ok_brkT rfl (ok_bnde (b:=calmS a s.Hour 1 1) (p_calm hF hok (by omega) (by omega)) (ok_some rfl))
  ·rw[decide_eq_false h2];exact ok_some rfl
 ·rw[decide_eq_false h];exact ok_some rfl
theorem p_r11(hs:StOk m a s){n:Int}:breaker_rules_11 F (m,a) s n=some (needsS a s 4 n):=by
 refine Go.KX.Ok.eq ?_
 unfold breaker_rules_11
 have e0:needsS a s 4 n=(decide (s.Notch≥0)&&decide ((caseS a s.Notch).To=s.Site)):=rfl
 have g2:a.Cases.getD s.Notch.toNat (Case.mk 0 0 0 0 false)=caseS a s.Notch:=rfl
 simp only[g2]
 have e2:((caseS a s.Notch).To==s.Site)=decide ((caseS a s.Notch).To=s.Site):=by by_cases h:(caseS a s.Notch).To=s.Site<;>simp[h]
 rw[e0,e2]
 by_cases h:s.Notch≥0
 ·rw[decide_eq_true h]
  have:=notch_at hs h
  exact ok_brkT rfl (ok_chk ⟨h,this.1⟩ (ok_some rfl))
 ·rw[decide_eq_false h];exact ok_some rfl
theorem hours_bd{k n:Int}(hok:Fit m a)(hs:StOk m a s)(hnum:numS a k n=true)(hneeds:needsS a s k n=true):1≤hoursS m a s k n∧hoursS m a s k n≤48:=by
 unfold hoursS
 split
 ·rename_i e
  subst e
  have hn:=num_site hnum
  unfold needsS at hneeds
  rw[if_pos rfl,Bool.and_eq_true,decide_eq_true_eq]at hneeds
  have:=hok.way hs.site hn hneeds.1
  unfold wayS
  split<;>omega
 split
 ·rename_i e
  have hn:=num_case (.inl e) hnum
  have:=(hok.case hn.1 hn.2).2.2.1
  omega
 split
 ·have:=hok.rest;omega
 split
 ·omega
 split
 ·have:=hok.refit;omega
 ·omega
theorem tail_ok{k n h hb aw w:Int}{R:Option (State×Int)}(e1:h=hoursS m a s k n)(e2:hb=hoursS m a s k n*burnS m s k)(e3:aw=if sleepsS k then 0 else s.Awake+hoursS m a s k n)
  (e4:w=if worksS s k then s.Worn+hoursS m a s k n else s.Worn) (hR:Go.KX.Ok (fun r=>r=(thenS m a k n (nextS m a s k n),(0:Int))) R):
  Go.KX.Ok (fun r=>r=tailS m a s k n) (brk (decide (s.Hour+h>a.Limit)) (some (s,12)) (brk (decide (s.Fuel-hb<0)) (some (s,71)) (brk (decide (aw>m.Watch)) (some (s,6)) (brk (decide (w>m.Wear)) (some (s,6)) R)))):=by
 unfold tailS
 have n1:(nextS m a s k n).Hour=s.Hour+h:=by rw[e1];rfl
 have n2:(nextS m a s k n).Fuel=s.Fuel-hb:=by rw[e2];rfl
 have n3:(nextS m a s k n).Awake=aw:=by rw[e3];rfl
 have n4:(nextS m a s k n).Worn=w:=by rw[e4];rfl
 rw[n1,n2,n3,n4]
 refine ok_brk (fun q=>ok_some ?_) (fun q=>?_)
 ·rw[if_pos (of_decide_eq_true q)]
 rw[if_neg (of_decide_eq_false q)]
 refine ok_brk (fun q=>ok_some ?_) (fun q=>?_)
 ·rw[if_pos (of_decide_eq_true q)]
 rw[if_neg (of_decide_eq_false q)]
 refine ok_brk (fun q=>ok_some ?_) (fun q=>?_)
 ·rw[if_pos (.inl (of_decide_eq_true q))]
 have q1:=of_decide_eq_false q
 refine ok_brk (fun q=>ok_some ?_) (fun q=>?_)
 ·rw[if_pos (.inr (of_decide_eq_true q))]
 have q2:=of_decide_eq_false q
 rw[if_neg (fun h=>h.elim q1 q2)]
 exact hR
theorem p_do(hF:1000≤F)(hok:Fit m a)(hs:StOk m a s){x:Action}:breaker_works_do F (m,a) s x=some (doS m a s x):=by
 refine Go.KX.Ok.eq ?_
 obtain⟨k,n⟩:=x
 unfold breaker_works_do
 simp only[p_site hok,p_ship hok,p_goes,bnd_so,breaker_works_zero,breaker_towing,breaker_always,breaker_never]
 have i1:=hs.hour;have i2:=hs.site;have i3:=hs.fuel;have i4:=hs.awake;have i5:=hs.worn
 have ht:=hok.tank;have hw:=hok.watch;have hwr:=hok.wear;have hlim:=hok.limit;have hcn:=hok.casesN
 have wk:=hok.work;have wi:=hok.idle;have wst:=hok.steam;have wrest:=hok.rest;have wrefit:=hok.refit
 have bad1:inS k 1 8=true→numS a k n=false→(s,(1:Int))=doS m a s ⟨k,n⟩:=fun h1 h2=>by
  unfold doS
  rw[if_neg (by simp[h1]),if_pos h2]
 have no:inS k 1 8=true→numS a k n=true→(emptyS k=true∧s.Notch≥0)∨needsS a s k n=false→(s,(70:Int))=doS m a s ⟨k,n⟩:=fun hk hnu h=>(doS_70 (x:=⟨k,n⟩) hk hnu h).symm
 have tl:inS k 1 8=true→numS a k n=true→(emptyS k=true→s.Notch<0)→needsS a s k n=true→doS m a s ⟨k,n⟩=tailS m a s k n:=fun h1 h2 h3 h4=>doS_tail (x:=⟨k,n⟩) h1 h2 h3 h4
 have bd:numS a k n=true→needsS a s k n=true→(1≤hoursS m a s k n∧hoursS m a s k n≤48)∧0≤hoursS m a s k n*burnS m s k∧hoursS m a s k n*burnS m s k≤432:=fun h1 h2=>⟨hours_bd hok hs h1 h2,mul9 (hours_bd hok hs h1 h2) (burn_pos hok)⟩
 have hset:∀(i v:Int),(⟨if i=((0:Nat):Int)then v else s.Cases.a0,if i=((Nat.succ 0:Nat):Int)then v else s.Cases.a1,if i=((Nat.succ (Nat.succ 0):Nat):Int)then v else s.Cases.a2⟩:A3ofInt)=setC s.Cases i v:=fun _ _=>rfl
 refine ok_brk (fun hk=>?_) (fun hk=>?_)
 ·have hk:k=1:=of_decide_eq_true hk
  subst hk
  have hnum:numS a 1 n=inS n 0 (sitesS a-1):=rfl
  rw[←hnum]
  refine ok_brk (fun h=>ok_some (bad1 rfl (by simpa using h))) (fun h=>?_)
  have hnu:numS a 1 n=true:=by simpa using h
  have hn:=num_site hnu
  refine ok_bnde (p_r4 hF hok hs hn) (ok_brk (fun h=>ok_some (no rfl hnu (.inr (by simpa using h)))) (fun h=>?_))
  have hneeds:needsS a s 1 n=true:=by simpa using h
  rw[tl rfl hnu (fun h=>by simp[emptyS]at h) hneeds]
  obtain⟨b1,b2⟩:=bd hnu hneeds
  have eh:hoursS m a s 1 n=wayS a s n:=rfl
  have eb:burnS m s 1=if s.Notch≥0 then m.Work else m.Steam:=rfl
  rw[eh,eb]at b2
  rw[eh]at b1
  refine ok_bnde (p_way hok hs hn) (ok_chk ⟨by omega,by omega⟩ (ok_chk ⟨by omega,by omega⟩ (ok_chk ⟨by omega,by omega⟩ (ok_chk ⟨by omega,by omega⟩ ?_))))
  refine ok_join (by omega) (fun w=>w=if worksS s 1 then s.Worn+hoursS m a s 1 n else s.Worn) (fun w hw=>tail_ok rfl rfl rfl hw (ok_some ?_)) (fun kk hkk=>ok_brk (fun h=>ok_chk ⟨by omega,by omega⟩ (hkk _ ?_)) (fun h=>hkk _ ?_))
  ·rw[hw];rfl
  ·have:worksS s 1=true:=h
   rw[this,eh];rfl
  ·have:worksS s 1=false:=h
   rw[this];rfl
 refine ok_brk (fun hk2=>?_) (fun hk2=>?_)
 ·have hk:k=2:=of_decide_eq_true hk2
  subst hk
  have hnum:numS a 2 n=inS n 0 ((a.Cases.length:Int)-1):=rfl
  rw[←hnum]
  refine ok_brk (fun h=>ok_some (bad1 rfl (by simpa using h))) (fun h=>?_)
  have hnu:numS a 2 n=true:=by simpa using h
  have hn:=num_case (.inl rfl) hnu
  have hc:=hok.case hn.1 hn.2
  refine ok_bnd (fun b=>s.Notch<0→b=needsS a s 2 n) ?_ fun b hb=>?_
  ·refine ok_brk (fun h=>?_) (fun h=>ok_some fun h'=>?_)
   ·rw[p_r6 hF hok hs hn];exact ok_some fun _=>rfl
   ·simp at h;omega
  refine ok_brk (fun h=>ok_some (no rfl hnu ?_)) (fun h=>?_)
  ·by_cases hno:s.Notch≥0
   ·exact .inl ⟨by decide,hno⟩
   ·right
    rw[←hb (by omega)]
    have:decide (s.Notch≥0)=false:=decide_eq_false hno
    rw[this]at h
    simpa using h
  simp only[Bool.or_eq_false_iff,decide_eq_false_iff_not,Bool.not_eq_false']at h
  obtain⟨hno,hb1⟩:=h
  have hneeds:needsS a s 2 n=true:=by rw[←hb (by omega)];exact hb1
  rw[tl rfl hnu (fun _=>by omega) hneeds]
  obtain⟨b1,b2⟩:=bd hnu hneeds
  have eh:hoursS m a s 2 n=(caseS a n).Cut:=rfl
  have eb:burnS m s 2=m.Work:=rfl
  rw[eh,eb]at b2
  rw[eh]at b1
  have hcs:a.Cases.getD n.toNat (Case.mk 0 0 0 0 false)=caseS a n:=rfl
  simp only[hcs]
  refine ok_chk hn (ok_chk ⟨by omega,by omega⟩ (ok_chk ⟨by omega,by omega⟩ (ok_chk ⟨by omega,by omega⟩ (ok_chk ⟨by omega,by omega⟩ ?_))))
  refine ok_join (by omega) (fun w=>w=if worksS s 2 then s.Worn+hoursS m a s 2 n else s.Worn) (fun w hw=>tail_ok rfl rfl rfl hw ?_) (fun kk hkk=>ok_brkT rfl (ok_chk ⟨by omega,by omega⟩ (hkk _ rfl)))
  refine ok_join (by omega) (fun t:Int×Int×Int=>(⟨t.2.2,t.2.1,t.1⟩:A3ofInt)=setC s.Cases n (if(caseS a n).Towed then 1 else 3)) (fun t ht=>ok_some ?_) (fun k2 hk2=>ok_chk ⟨hn.1,by omega⟩ (ok_chk hn (ok_brk (fun h=>ok_chk ⟨hn.1,by omega⟩ (hk2 _ ?_)) (fun h=>hk2 _ ?_))))
  ·rw[ht,hw];rfl
  ·rw[h]
   have e0:∀(i w:Int),(if n=i then(1:Int)else if n=i then 3 else w)=(if n=i then 1 else w):=fun i w=>by split<;>rfl
   simp only[e0]
   rfl
  ·rw[h];rfl
 refine ok_brk (fun hk3=>?_) (fun hk3=>?_)
 ·have hk:k=3:=of_decide_eq_true hk3
  subst hk
  have hnum:numS a 3 n=inS n 0 ((a.Cases.length:Int)-1):=rfl
  rw[←hnum]
  refine ok_brk (fun h=>ok_some (bad1 rfl (by simpa using h))) (fun h=>?_)
  have hnu:numS a 3 n=true:=by simpa using h
  have hn:=num_case (.inr rfl) hnu
  refine ok_bnd (fun b=>s.Notch<0→b=needsS a s 3 n) ?_ fun b hb=>?_
  ·refine ok_brk (fun h=>?_) (fun h=>ok_some fun h'=>?_)
   ·rw[p_r9 hF hok hs hn];exact ok_some fun _=>rfl
   ·simp at h;omega
  refine ok_brk (fun h=>ok_some (no rfl hnu ?_)) (fun h=>?_)
  ·by_cases hno:s.Notch≥0
   ·exact .inl ⟨by decide,hno⟩
   ·right
    rw[←hb (by omega)]
    have:decide (s.Notch≥0)=false:=decide_eq_false hno
    rw[this]at h
    simpa using h
  simp only[Bool.or_eq_false_iff,decide_eq_false_iff_not,Bool.not_eq_false']at h
  obtain⟨hno,hb1⟩:=h
  have hneeds:needsS a s 3 n=true:=by rw[←hb (by omega)];exact hb1
  rw[tl rfl hnu (fun _=>by omega) hneeds]
  refine ok_chk ⟨by omega,by omega⟩ (ok_chk ⟨by omega,by omega⟩ (ok_chk ⟨by omega,by omega⟩ (ok_chk ⟨by omega,by omega⟩ ?_)))
  exact ok_join (by omega) (fun w=>w=if worksS s 3 then s.Worn+hoursS m a s 3 n else s.Worn) (fun w hw=>tail_ok rfl rfl rfl hw (ok_chk ⟨hn.1,by omega⟩ (ok_some (by rw[hw];rfl)))) (fun kk hkk=>ok_brkT rfl (ok_chk ⟨by omega,by omega⟩ (hkk _ rfl)))
 refine ok_brk (fun hk4=>?_) (fun hk4=>?_)
 ·have hk:k=4:=of_decide_eq_true hk4
  subst hk
  have hnum:(n==0)=numS a 4 n:=by
   show(n==0)=decide (n=0)
   by_cases h:n=0<;>simp[h]
  rw[hnum]
  refine ok_brk (fun h=>ok_some (bad1 rfl (by simpa using h))) (fun h=>?_)
  have hnu:numS a 4 n=true:=by simpa using h
  refine ok_bnde (p_r11 hs) (ok_brk (fun h=>ok_some (no rfl hnu (.inr (by simpa using h)))) (fun h=>?_))
  have hneeds:needsS a s 4 n=true:=by simpa using h
  have hno:s.Notch≥0:=by
   have h':=hneeds
   unfold needsS at h'
   rw[if_neg (by omega),if_neg (by omega),if_neg (by omega),if_pos rfl]at h'
   simp only[Bool.and_eq_true,decide_eq_true_eq]at h'
   exact h'.1
  have hna:=notch_at hs hno
  rw[tl rfl hnu (fun h=>by simp[emptyS]at h) hneeds]
  refine ok_chk ⟨by omega,by omega⟩ (ok_chk ⟨by omega,by omega⟩ (ok_chk ⟨by omega,by omega⟩ (ok_chk ⟨by omega,by omega⟩ ?_)))
  exact ok_join (by omega) (fun w=>w=if worksS s 4 then s.Worn+hoursS m a s 4 n else s.Worn) (fun w hw=>tail_ok rfl rfl rfl hw (ok_chk ⟨by omega,by omega⟩ (ok_some (by rw[hw];rfl)))) (fun kk hkk=>ok_brkF rfl (hkk _ rfl))
 refine ok_brk (fun hk5=>?_) (fun hk5=>?_)
 ·have hk:k=5:=of_decide_eq_true hk5
  subst hk
  have hnum:(n==0)=numS a 5 n:=by
   show(n==0)=decide (n=0)
   by_cases h:n=0<;>simp[h]
  rw[hnum]
  refine ok_brk (fun h=>ok_some (bad1 rfl (by simpa using h))) (fun h=>?_)
  have hnu:numS a 5 n=true:=by simpa using h
  rw[tl rfl hnu (fun h=>by simp[emptyS]at h) rfl]
  refine ok_chk ⟨by omega,by omega⟩ (ok_chk ⟨by omega,by omega⟩ (ok_chk ⟨by omega,by omega⟩ (ok_chk ⟨by omega,by omega⟩ ?_)))
  exact ok_join (by omega) (fun w=>w=if worksS s 5 then s.Worn+hoursS m a s 5 n else s.Worn) (fun w hw=>tail_ok rfl rfl rfl hw (ok_some (by rw[hw];rfl))) (fun kk hkk=>ok_brkF rfl (hkk _ rfl))
 refine ok_brk (fun hk6=>?_) (fun hk6=>?_)
 ·have hk:k=6:=of_decide_eq_true hk6
  subst hk
  have hnum:(n==0)=numS a 6 n:=by
   show(n==0)=decide (n=0)
   by_cases h:n=0<;>simp[h]
  rw[hnum]
  refine ok_brk (fun h=>ok_some (bad1 rfl (by simpa using h))) (fun h=>?_)
  have hnu:numS a 6 n=true:=by simpa using h
  refine ok_brk (fun h=>ok_some (no rfl hnu (.inl ⟨by decide,of_decide_eq_true h⟩))) (fun h=>?_)
  have hno:=of_decide_eq_false h
  rw[tl rfl hnu (fun _=>by omega) rfl]
  obtain⟨b1,b2⟩:=bd hnu rfl
  have eh:hoursS m a s 6 n=m.Rest:=rfl
  have eb:burnS m s 6=m.Idle:=rfl
  rw[eh,eb]at b2
  refine ok_chk ⟨by omega,by omega⟩ (ok_chk ⟨by omega,by omega⟩ (ok_chk ⟨by omega,by omega⟩ (ok_chk ⟨by omega,by omega⟩ ?_)))
  exact ok_join (by omega) (fun w=>w=if worksS s 6 then s.Worn+hoursS m a s 6 n else s.Worn) (fun w hw=>tail_ok rfl rfl rfl hw (ok_some (by rw[hw];rfl))) (fun kk hkk=>ok_brkF rfl (hkk _ rfl))
 refine ok_brk (fun hk7=>?_) (fun hk7=>?_)
 ·have hk:k=7:=of_decide_eq_true hk7
  subst hk
  have hnum:(n==0)=numS a 7 n:=by
   show(n==0)=decide (n=0)
   by_cases h:n=0<;>simp[h]
  rw[hnum]
  refine ok_brk (fun h=>ok_some (bad1 rfl (by simpa using h))) (fun h=>?_)
  have hnu:numS a 7 n=true:=by simpa using h
  refine ok_brk (fun h=>ok_some (no rfl hnu (.inl ⟨by decide,of_decide_eq_true h⟩))) (fun h=>?_)
  have hno:=of_decide_eq_false h
  have nd:needsS a s 7 n=decide (s.Site=0):=rfl
  refine ok_brk (fun h=>ok_some (no rfl hnu (.inr ?_))) (fun h=>?_)
  ·rw[nd];simpa using h
  have hneeds:needsS a s 7 n=true:=by rw[nd];simpa using h
  rw[tl rfl hnu (fun _=>by omega) hneeds]
  have e0:IntKind.i64.wrap ((2:Int)*0)=0:=by decide
  rw[e0]
  refine ok_chk ⟨by omega,by omega⟩ (ok_chk ⟨by omega,by omega⟩ (ok_chk ⟨by omega,by omega⟩ ?_))
  exact ok_join (by omega) (fun w=>w=if worksS s 7 then s.Worn+hoursS m a s 7 n else s.Worn) (fun w hw=>tail_ok rfl rfl rfl hw (ok_some (by rw[hw];rfl))) (fun kk hkk=>ok_brkF rfl (hkk _ rfl))
 refine ok_brk (fun hk8=>?_) (fun hk8=>ok_some ?_)
 ·have hk:k=8:=of_decide_eq_true hk8
  subst hk
  have hnum:(n==0)=numS a 8 n:=by
   show(n==0)=decide (n=0)
   by_cases h:n=0<;>simp[h]
  rw[hnum]
  refine ok_brk (fun h=>ok_some (bad1 rfl (by simpa using h))) (fun h=>?_)
  have hnu:numS a 8 n=true:=by simpa using h
  refine ok_brk (fun h=>ok_some (no rfl hnu (.inl ⟨by decide,of_decide_eq_true h⟩))) (fun h=>?_)
  have hno:=of_decide_eq_false h
  have nd:needsS a s 8 n=decide (s.Site=0):=rfl
  refine ok_brk (fun h=>ok_some (no rfl hnu (.inr ?_))) (fun h=>?_)
  ·rw[nd];simpa using h
  have hneeds:needsS a s 8 n=true:=by rw[nd];simpa using h
  rw[tl rfl hnu (fun _=>by omega) hneeds]
  have e0:m.Refit*0=0:=Int.mul_zero _
  refine ok_chk ⟨by omega,by omega⟩ (ok_chk ⟨by omega,by omega⟩ (ok_chk ⟨by omega,by omega⟩ (ok_chk ⟨by omega,by omega⟩ ?_)))
  exact ok_join (by omega) (fun w=>w=if worksS s 8 then s.Worn+hoursS m a s 8 n else s.Worn) (fun w hw=>tail_ok rfl rfl rfl hw (ok_some rfl)) (fun kk hkk=>ok_brkF rfl (hkk _ rfl))
 ·have h1:=of_decide_eq_false hk;have h2:=of_decide_eq_false hk2;have h3:=of_decide_eq_false hk3;have h4:=of_decide_eq_false hk4
  have h5:=of_decide_eq_false hk5;have h6:=of_decide_eq_false hk6;have h7:=of_decide_eq_false hk7;have h8:=of_decide_eq_false hk8
  unfold doS
  have:inS k 1 8=false:=by
   cases e:inS k 1 8 with
   |false=>rfl
   |true=>rw[inS_iff]at e;omega
  rw[if_pos this]
end
end Go.Proofs.Bm

namespace Go.Proofs.Bm
open Go Go.KX
def zeroS:State:=⟨0,0,0,0,0,0,⟨0,0,0⟩⟩
def noAct:Action:=⟨0,0⟩
def beginS(m:Machine)(a:Area):State×Int:=if checkS m a≠0 then(zeroS,checkS m a)else(⟨0,0,m.Tank,0,0, -1,⟨0,0,0⟩⟩,0)
def DoS(m:Machine)(a:Area)(s:State)(x:Action):State×Int:=
 if begunS m a s≠0 then(zeroS,begunS m a s)else if(doS m a s x).2≠0 then(zeroS,(doS m a s x).2)else doS m a s x
def runL(m:Machine)(a:Area):State→List Action→Int→State×Int×Int
 |s,[],i=>(s,i,0)
 |s,x::l,i=>if(doS m a s x).2≠0 then(s,i,(doS m a s x).2)else runL m a (doS m a s x).1 l (i+1)
def RunS(m:Machine)(a:Area)(s:State)(l:List Action):State×Int×Int:=
 if begunS m a s≠0 then(zeroS,0,begunS m a s)else if(l.length:Int)>100 then(zeroS,0,2)else runL m a s l 0
section
variable{F:Nat}{m:Machine}{a:Area}{s:State}{α:Type}{post:α→Prop}
theorem start1(hF:1000≤F){err:Int→Option α}{rest:Option α}(he:∀e,e≠0→begunS m a s=e→Go.KX.Ok post (err e))(hr:begunS m a s=0→Fit m a→StOk m a s→Go.KX.Ok post rest):
  Go.KX.Ok post (bnd (breaker_Check F m a) fun x=>brk (x != 0) (brk (x != 0) (err x) none) (loopC (fun(x1:Int) (x2:Int→Option α)=>brk (decide (x1<(([s]:List State).length:Int))) (chk (0≤x1∧x1<(([s]:List State).length:Int)) (bnd (breaker_works_state F (m,a) (([s]:List State).getD x1.toNat zeroS)) fun x3=>brk (!x3) (err 9) (chk (InR (x1+1)) (x2 (x1+1))))) rest) F 0)):=by
 refine ok_bnde (p_Check hF) (ok_brk (fun h=>?_) (fun h=>?_))
 ·have h':checkS m a≠0:=by simpa using h
  exact ok_brkT h (he _ h' (by unfold begunS;rw[if_pos h']))
 ·have h':checkS m a=0:=by simpa using h
  have hf:=ok_of h'
  have h1:=hf.casesN;have h2:=hf.sites;unfold sitesS at h2
  refine ok_upto (n:=1) (fun i=>stateS m a s=true) (by omega) (fun i hi _ next hn=>?_) (fun hall next=>ok_brkF (by simp) (hr ?_ hf (stateS_iff.1 (hall 0 (by omega)))))
  ·obtain rfl:i=0:=by omega
   refine ok_brkT (by simp) (ok_chk (by simp) (ok_bnde (p_state hF h1 (by omega)) (ok_brk (fun hs=>he 9 (by omega) ?_) (fun hs=>ok_chk (by decide) (hn ?_)))))
   ·have hs:stateS m a s=false:=by simpa using hs
    unfold begunS
    rw[if_neg (by simp[h']),if_pos hs]
   ·simpa using hs
  ·have:=hall 0 (by omega)
   unfold begunS
   rw[if_neg (by simp[h']),if_neg (by simp[this])]
theorem p_Begin(hF:1000≤F):breaker_Begin F m a=some (beginS m a):=by
 refine Go.KX.Ok.eq ?_
 unfold breaker_Begin beginS
 refine ok_bnde (p_Check hF) (ok_brk (fun h=>?_) (fun h=>?_))
 ·have h':checkS m a≠0:=by simpa using h
  rw[if_pos h']
  exact ok_brkT h (ok_some rfl)
 ·have h':checkS m a=0:=by simpa using h
  rw[if_neg (by simp[h'])]
  exact ok_upto (n:=0) (fun _=>True) (by omega) (fun i hi=>by omega) (fun _ next=>ok_brkF (by simp) (ok_some rfl))
theorem p_Do(hF:1000≤F){x:Action}:breaker_Do F m a s x=some (DoS m a s x):=by
 refine Go.KX.Ok.eq ?_
 unfold breaker_Do DoS
 refine start1 (err:=fun e=>some (zeroS,e)) hF (fun e h1 h2=>ok_some ?_) (fun h0 hf hs=>?_)
 ·rw[if_pos (by rw[h2];exact h1),h2]
 ·rw[if_neg (by simp[h0])]
  refine ok_bnde (p_do hF hf hs) (ok_brk (fun h=>ok_some ?_) (fun h=>ok_some ?_))
  ·rw[if_pos (by simpa using h)];rfl
  ·have h:(doS m a s x).2=0:=by simpa using h
   rw[if_neg (by simp[h]),←h]
theorem do_fit{x:Action}(hf:Fit m a)(hs:StOk m a s)(h:(doS m a s x).2=0):StOk m a (doS m a s x).1:=(do_ok hf hs (t:=(doS m a s x).1) (x:=x) (by rw[←h])).1
abbrev StT:=Int×Int×Int×Int×Int×Int×Int×Int×Int
def stT(x:StT):State:=⟨x.2.2.2.2.2.2.2.2,x.2.2.2.2.2.2.2.1,x.2.2.2.2.2.2.1,x.2.2.2.2.2.1,x.2.2.2.2.1,x.2.2.2.1,⟨x.2.2.1,x.2.1,x.1⟩⟩
def ofS(s:State):StT:=(s.Cases.a2,s.Cases.a1,s.Cases.a0,s.Notch,s.Worn,s.Awake,s.Fuel,s.Site,s.Hour)
theorem run_loop(hF:1000≤F)(hf:Fit m a)(hs:StOk m a s){l:List Action}(hl:l.length≤100){step:State→Action→Option (State×Int)}(hst:∀s x,StOk m a s→step s x=some (doS m a s x)):
  Go.KX.Ok (fun r=>r=runL m a s l 0) (loopC (fun(x:Int×StT) (next:Int×StT→Option (State×Int×Int))=>brk (decide (x.1<(l.length:Int))) (chk (0≤x.1∧x.1<(l.length:Int)) (bnd (step (stT x.2) (l.getD x.1.toNat noAct)) fun r=>brk (r.2 != 0) (some (stT x.2,x.1,r.2)) (chk (InR (x.1+1)) (next (x.1+1,ofS r.1)))))
   (some (stT x.2,(l.length:Int),0))) F (0,ofS s)):=by
 obtain⟨tgt,ht⟩:∃t,runL m a s l 0=t:=⟨_,rfl⟩
 rw[ht]
 refine ok_rest (β:=Action) (l:=l) (d:=noAct) (fun x:Int×StT=>x.1) (fun x r=>StOk m a (stT x.2)∧runL m a (stT x.2) r x.1=tgt) (by omega) rfl ⟨hs,ht⟩ ?_ ?_
 ·rintro⟨i,y⟩ next h0 h1 ⟨q1,q2⟩ _ hn
  simp only at h0 h1 q1 q2 hn⊢
  refine ok_brkT (decide_eq_true h1) (ok_chk ⟨h0,h1⟩ (ok_bnde (hst _ _ q1) ?_))
  rw[runL]at q2
  refine ok_brk (fun h=>ok_some ?_) (fun h=>ok_chk ⟨by omega,by omega⟩ (hn _ rfl ⟨?_,?_⟩))
  ·rw[if_pos (by simpa using h)]at q2;exact q2
  ·have h:(doS m a (stT y) (l.getD i.toNat noAct)).2=0:=by simpa using h
   exact do_fit hf q1 h
  ·have h:(doS m a (stT y) (l.getD i.toNat noAct)).2=0:=by simpa using h
   rw[if_neg (fun q=>q h)]at q2
   exact q2
 ·rintro⟨i,y⟩ next h1 ⟨q1,q2⟩
  simp only at h1 q1 q2⊢
  refine ok_brkF (decide_eq_false (by omega)) (ok_some ?_)
  rw[runL]at q2
  rw[←h1];exact q2
theorem p_Run(hF:1000≤F){l:List Action}:breaker_Run F m a s l=some (RunS m a s l):=by
 refine Go.KX.Ok.eq ?_
 unfold breaker_Run RunS
 refine ok_bnde (p_Check hF) (ok_brk (fun h=>?_) (fun h=>?_))
 ·have h':checkS m a≠0:=by simpa using h
  have hb:begunS m a s=checkS m a:=by unfold begunS;rw[if_pos h']
  rw[if_pos (by rw[hb];exact h'),hb]
  have e:(checkS m a==0)=false:=by simpa using h'
  rw[e]
  exact ok_brkF rfl (ok_brkT h (ok_some rfl))
 ·have h':checkS m a=0:=by simpa using h
  have hf:=ok_of h'
  have h1:=hf.casesN;have h2:=hf.sites;unfold sitesS at h2
  refine ok_upto (n:=1) (fun i=>stateS m a s=true) (by omega) (fun i hi _ next hn=>?_) (fun hall next=>ok_brkF (by simp) ?_)
  ·obtain rfl:i=0:=by omega
   refine ok_brkT (by simp) (ok_chk (by simp) (ok_bnde (p_state hF h1 (by omega)) (ok_brk (fun hs=>ok_some ?_) (fun hs=>ok_chk (by decide) (hn ?_)))))
   ·have hs:stateS m a s=false:=by simpa using hs
    have hb:begunS m a s=9:=by
     unfold begunS
     rw[if_neg (by simp[h']),if_pos hs]
    rw[if_pos (by rw[hb];decide),hb];rfl
   ·simpa using hs
  ·have hst:=hall 0 (by omega)
   have hb:begunS m a s=0:=by
    unfold begunS
    rw[if_neg (by simp[h']),if_neg (by simp[hst])]
   rw[if_neg (by simp[hb])]
   have hs:=stateS_iff.1 hst
   refine ok_join (by omega) (fun e=>e=if(l.length:Int)>100 then 2 else 0) (fun e he=>?_) (fun k hk=>ok_brk (fun h=>hk _ ?_) (fun h=>hk _ ?_))
   ·by_cases hl:(l.length:Int)>100
    ·rw[if_pos hl]at he⊢
     subst he
     exact ok_brkT rfl (ok_some rfl)
    ·rw[if_neg hl]at he⊢
     subst he
     refine ok_brkF rfl ?_
     exact run_loop hF hf hs (by omega) (step:=fun s x=>breaker_works_do F (m,a) s x) (fun s x hs=>p_do hF hf hs)
   ·rw[if_pos (of_decide_eq_true h)]
   ·rw[if_neg (of_decide_eq_false h)]
theorem ref_Begin(hF:1000≤F):ref06_Begin F m (ofA a)=some (beginS m a):=by
 refine Go.KX.Ok.eq ?_
 unfold ref06_Begin beginS
 refine ok_bnde (ref_Check hF) (ok_brk (fun h=>ok_some ?_) (fun h=>ok_some ?_))
 ·rw[if_pos (by simpa using h)];rfl
 ·rw[if_neg (by simpa using h)]
theorem ref_Do(hF:1000≤F){x:Action}:ref06_Do F m (ofA a) s x=some (DoS m a s x):=by
 refine Go.KX.Ok.eq ?_
 unfold ref06_Do DoS
 refine ok_bnde (ref_begun hF) (ok_brk (fun h=>ok_some ?_) (fun h=>?_))
 ·rw[if_pos (by simpa using h)];rfl
 ·have h:begunS m a s=0:=by simpa using h
  obtain⟨hf,hs⟩:=begun_ok h
  rw[if_neg (by simp[h])]
  refine ok_bnde (ref_step hF hf hs) (ok_brk (fun h=>ok_some ?_) (fun h=>ok_some ?_))
  ·rw[if_pos (by simpa using h)];rfl
  ·have h:(doS m a s x).2=0:=by simpa using h
   rw[if_neg (by simp[h]),←h]
theorem ref_Run(hF:1000≤F){l:List Action}:ref06_Run F m (ofA a) s l=some (RunS m a s l):=by
 refine Go.KX.Ok.eq ?_
 unfold ref06_Run RunS
 refine ok_bnde (ref_begun hF) (ok_brk (fun h=>ok_some ?_) (fun h=>?_))
 ·rw[if_pos (by simpa using h)];rfl
 ·have h:begunS m a s=0:=by simpa using h
  obtain⟨hf,hs⟩:=begun_ok h
  rw[if_neg (by simp[h])]
  refine ok_brk (fun h=>ok_some ?_) (fun h=>?_)
  ·rw[if_pos (of_decide_eq_true h)];rfl
  ·have hl:=of_decide_eq_false h
   rw[if_neg hl]
   exact run_loop hF hf hs (by omega) (step:=fun s x=>ref06_step F m (ofA a) s x) (fun s x hs=>ref_step hF hf hs)
end
end Go.Proofs.Bm
