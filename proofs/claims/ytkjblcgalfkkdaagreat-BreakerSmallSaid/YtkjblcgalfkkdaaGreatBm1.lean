/- Texts KJ, KL, KM, KN, KO, KO2, KD, KPA, KDM, BmKey, KCP, KP: own work; each part says what it is. -/
import Derived.Test.YtkjblcgalfkkdaaGreatBm0
import Derived.Laws.MakeOwn
import Derived.Laws.Tables
import Derived.MapKept
import Derived.Laws.StructEq
import Derived.ChangeKeysEq
import Derived.Laws.Cover3
import Derived.KernelRfl
namespace Go.KX
open Go Go.RowKit
noncomputable section
def newL(a b:Nat):List Nat:=(List.range (b-a)).map fun i=>a+i
theorem mem_newL{a b L:Nat}:L∈newL a b↔a≤L∧L<b:=by
 simp only[newL,List.mem_map,List.mem_range]
 constructor
 ·rintro⟨i,h1,rfl⟩;omega
 ·rintro⟨h1,h2⟩;exact⟨L-a,by omega,by omega⟩
def HdL(G:Reg)(A:Nat→Prop)(w:World):List (CV G.car)→List Value→Prop
 |[],vs=>vs=[]
 |c::cs,vs=>∃u us,vs=u::us∧Hd G A w c u∧HdL G A w cs us
section
variable{G:Reg}{A A':Nat→Prop}{w w':World}
theorem HdL.length:∀{cs:List (CV G.car)} {vs:List Value},HdL G A w cs vs→vs.length=cs.length
 |[],vs,h=>by rw[show vs=[]from h];rfl
 |c::cs,vs,h=>by obtain⟨u,us,rfl,_,h2⟩:=h;simp[h2.length]
theorem HdL.get:∀{cs:List (CV G.car)} {vs:List Value},HdL G A w cs vs→∀(j:Nat) (cv:CV G.car),cs[j]?=some cv→∃u,vs[j]?=some u∧Hd G A w cv u
 |[],vs,_,j,cv,hj=>by simp at hj
 |c::cs,vs,h,j,cv,hj=>by
  obtain⟨u,us,rfl,h1,h2⟩:=h
  cases j with
  |zero=>simp at hj;subst hj;exact⟨u,rfl,h1⟩
  |succ j=>exact h2.get j cv (by simpa using hj)
theorem HdL.of(P:Nat→Value→Prop):∀{cs:List (CV G.car)},(∀(j:Nat) (cv:CV G.car),cs[j]?=some cv→∃u,P j u∧Hd G A w cv u)→∃vs:List Value,HdL G A w cs vs∧∀(j:Nat) (v:Value),vs[j]?=some v→P j v:=by
 intro cs
 induction cs generalizing P with
 |nil=>intro _;exact⟨[],rfl,fun j v h=>by simp at h⟩
 |cons c cs ih=>
  intro h
  obtain⟨u,h1,h2⟩:=h 0 c rfl
  obtain⟨vs,h3,h4⟩:=ih (fun j=>P (j+1)) (fun j cv hj=>h (j+1) cv (by simpa using hj))
  refine⟨u::vs,⟨u,vs,rfl,h2,h3⟩,fun j v hj=>?_⟩
  cases j with
  |zero=>simp at hj;subst hj;exact h1
  |succ j=>exact h4 j v (by simpa using hj)
theorem HdL.mono(hA:∀b,A b→A' b)(hw:∀b,A b→w'.heap[b]?=w.heap[b]?):∀{cs:List (CV G.car)} {vs:List Value},HdL G A w cs vs→HdL G A' w' cs vs
 |[],_,h=>h
 |c::cs,vs,h=>by
  obtain⟨u,us,rfl,h1,h2⟩:=h
  exact⟨u,us,rfl,h1.mono hA hw,h2.mono hA hw⟩
theorem HdL.one:∀{cs:List (CV G.car)} {vs:List Value},HdL G A w cs vs→cs.all CV.one=true→∀v∈vs,oneC v=true
 |[],vs,h,_,v,hv=>by rw[show vs=[]from h]at hv;cases hv
 |c::cs,vs,h,ho,v,hv=>by
  obtain⟨u,us,rfl,h1,h2⟩:=h
  simp only[List.all_cons,Bool.and_eq_true]at ho
  rcases List.mem_cons.1 hv with rfl|hv
  ·exact h1.one ho.1
  ·exact h2.one ho.2 v hv
end
section
variable{G:Reg}{A:Nat→Prop}{w:World}
theorem addr_add(b o n:Nat):(⟨b,o,none⟩:Addr).add n=⟨b,o+n,none⟩:=by
 unfold Addr.add
 split
 ·rename_i h;subst h;rfl
 ·rfl
theorem Hd.part{t:Nat}{l:List (G.car t)}{p:Option Addr}{n c i q:Nat}(h:Hd G A w (.sl t l) (.slice p n c))(hi:i+q≤n):
  Hd G A w (.sl t ((l.drop i).take q)) (.slice (if c=i then p else p.map (·.add (i*G.sz t))) q (c-i)):=by
 obtain⟨hn,hc⟩:=h.len
 have hlen:((l.drop i).take q).length=q:=by rw[List.length_take,List.length_drop];omega
 by_cases hq:q=0
 ·subst hq
  rw[List.take_zero]
  exact Hd.mk (b:=0) (o:=0) rfl (Nat.zero_le _) (fun h=>absurd rfl h) (fun j x hx=>by simp at hx)
 ·have hne:¬c=i:=by omega
  rw[if_neg hne]
  have hl:l≠[]:=fun e=>by subst e;simp at hn;omega
  have h0:∃x,l[0]?=some x:=by
   cases l with
   |nil=>exact absurd rfl hl
   |cons x r=>exact⟨x,rfl⟩
  obtain⟨x0,hx0⟩:=h0
  obtain⟨b,o,hp,hA,_⟩:=h.at hx0
  subst hp
  refine Hd.mk (b:=b) (o:=o+i*G.sz t) hlen.symm (by omega) (fun _=>⟨by simp[addr_add],hA⟩) (fun j x hx j' cv hcv=>?_)
  have hx':l[i+j]?=some x:=by
   rw[List.getElem?_take]at hx
   split at hx
   ·rwa [List.getElem?_drop]at hx
   ·cases hx
  obtain⟨b',o',hp',_,h2⟩:=h.at hx'
  cases hp'
  obtain⟨u,h3,h4⟩:=h2 j' cv hcv
  refine⟨u,?_,h4⟩
  rw[←h3,Nat.add_mul,←Nat.add_assoc]
end
section
variable{cx:Cx}{m:Nat→MV}{A:Nat→Prop}{g:CMap cx}{a:Act}{w:World}
theorem Rel.addExt{L t:Nat}{l:List (cx.G.car t)}{p:Option Addr}{n c:Nat}(h:Rel cx m A g a w)(hf:Free cx L g)(hd:Hd cx.G A w (.sl t l) (.slice p n c)):
  Rel cx (setL m L { b:=0,p:=p,n:=n,c:=c }) A (upd [(.x L,some (.ext t l))] g) a w:=by
 have hg:∀k,k≠ .x L→upd [(.x L,some (.ext t l))] g k=g k:=fun k hk=>by rw[upd_one,if_neg (Ne.symm hk)]
 refine h.fresh hf (fun k hk=>?_) (fun k v hk hv=>?_) (fun o v hv=>?_) (fun bb ho=>?_)
 ·simp only[touches,Bool.or_false]at hk
  exact .inr (.inl (Key.eqb_iff.1 hk).symm)
 ·rcases hk with rfl|rfl|⟨o,rfl⟩
  ·rw[hg _ (by simp)]at hv
   have:=hf.1 (.o L);rw[hv]at this;simp[mentions,keyHas]at this
  ·rw[upd_one,if_pos rfl]at hv
   cases hv
   show Hd _ _ _ _ _
   simp only[den,setL_self]
   exact hd
  ·rw[hg _ (by simp)]at hv
   have:=hf.1 (.c L o);rw[hv]at this;simp[mentions,keyHas]at this
 ·rw[hg _ (by simp)]at hv
  have:=hf.1 (.c L o);rw[hv]at this;simp[mentions,keyHas]at this
 ·rw[hg _ (by simp)]at ho
  cases e:g (.o L)with
  |none=>rw[e]at ho;exact ho.elim
  |some v=>have:=hf.1 (.o L);rw[e]at this;simp[mentions,keyHas]at this
theorem At.rowHd{T:Array Value}{L ety t:Nat}{l:List (cx.G.car t)}{A':Nat→Prop}(h:At cx m A T w (.o L) (.row ety t l))(hA:∀b,A b→A' b)(hb:(m L).c≠0→A' (m L).b):
  Hd cx.G A' w (.sl t l) (den m (.h L)):=by
 obtain⟨h1,h2⟩:=h
 show Hd _ _ _ _ (.slice (m L).p (m L).n (m L).c)
 rcases h2 with⟨hc,hl,b',hp⟩|⟨hc,hp,cur,hh,hsz,hle,hin⟩
 ·subst hl
  exact Hd.mk (b:=0) (o:=0) h1 (by rw[h1];simp) (fun h=>absurd rfl h) (fun i x hx=>by simp at hx)
 ·refine Hd.mk (b:=(m L).b) (o:=0) h1 (by rw[h1];exact hle) (fun _=>⟨hp,hb hc⟩) (fun i x hx j cv hcv=>?_)
  obtain⟨u,h3,h4⟩:=hin i x hx j cv hcv
  refine⟨u,?_,h4.mono hA (fun _ _=>rfl)⟩
  simp only[Nat.zero_add,World.cell?,hh,Option.isSome_none,Bool.false_eq_true,if_false]
  exact h3
theorem Rel.freeze{L ety t:Nat}{l:List (cx.G.car t)}(h:Rel cx m A g a w)(hL:g (.o L)=some (.row ety t l)):
  Rel cx m (fun b=>A b∨((m L).c≠0∧b=(m L).b)) (upd [(.o L,none),(.x L,some (.ext t l))] g) a w:=by
 have hrow:=h.ent _ _ hL
 have hg:∀k,upd [(.o L,none),(.x L,some (.ext t l))] g k=if k= .o L then none else if k= .x L then some (.ext t l)else g k:=fun k=>by
  rw[upd_cons,upd_one]
  by_cases e1:k= .o L
  ·subst e1;simp
  ·by_cases e2:k= .x L
   ·subst e2;simp
   ·rw[if_neg (Ne.symm e1),if_neg (Ne.symm e2),if_neg e1,if_neg e2]
 have how:∀l' b,Owns m l' (upd [(.o L,none),(.x L,some (.ext t l))] g (.o l')) b→l'≠L∧Owns m l' (g (.o l')) b:=fun l' b ho=>by
  rw[hg]at ho
  by_cases e:l'=L
  ·subst e;rw[if_pos rfl]at ho;exact ho.elim
  ·rw[if_neg (by simpa using e),if_neg (by simp)]at ho;exact⟨e,ho⟩
 refine⟨h.size,h.defers,fun k v hk=>?_,fun l' o v hv=>?_,fun l' b ho=>?_,fun l1 l2 b h1 h2=>?_,fun b hb=>?_,h.held,h.top,h.fix,h.ko,fun b hb=>hb.elim (h.frz0 b) fun⟨h1,h2⟩=>.inr (by rw[h2];exact(h.own L _ (by rw[hL];exact⟨h1,rfl⟩)).1),fun b hb=>.inl (h.frzA b hb),h.pins⟩
 ·rw[hg]at hk
  by_cases e1:k= .o L
  ·rw[if_pos e1]at hk;cases hk
  ·rw[if_neg e1]at hk
   by_cases e2:k= .x L
   ·rw[if_pos e2]at hk;cases hk;subst e2
    exact At.rowHd hrow (fun _ h=>.inl h) (fun hc=>.inr ⟨hc,rfl⟩)
   ·rw[if_neg e2]at hk
    exact(h.ent k v hk).change (fun _ _=>rfl) (fun _ h=>.inl h) (fun _ _=>rfl) (fun _ _=>rfl) (fun _ _ _ _=>rfl) (fun _ _ _=>rfl)
 ·rw[hg,if_neg (by simp),if_neg (by simp)]at hv
  obtain⟨ty,n,h1⟩:=h.cell l' o v hv
  refine⟨ty,n,?_⟩
  rw[hg]
  by_cases e:l'=L
  ·subst e;rw[hL]at h1;cases h1
  ·rw[if_neg (by simpa using e),if_neg (by simp)];exact h1
 ·obtain⟨h1,h2⟩:=how l' b ho
  obtain⟨h3,h4⟩:=h.own l' b h2
  refine⟨h3,fun h5=>h5.elim h4 fun⟨h6,h7⟩=>h1 (h.inj l' L b h2 (by rw[hL];exact⟨h6,h7⟩))⟩
 ·exact h.inj l1 l2 b (how l1 b h1).2 (how l2 b h2).2
 ·rcases hb with hb|⟨h1,rfl⟩
  ·exact h.frzc b hb
  ·exact h.blk (L:=L) (by rw[hL];exact⟨h1,rfl⟩)
end
section
variable{E:Env}{b:Base}{m:Nat→MV}{A:Nat→Prop}{g:Map E.G.car}{a:Act}{w:World}
theorem cvsK_sound'{R:Type}{r:R}:∀{cs:List (CV E.G.car)} {nl:Nat} {K:List SV→St E.G.car→Nat→Option R},cvsK nl cs K=some r→
  ∃ys us nl',K ys us nl'=some r∧nl≤nl'∧(∀x∈us,∃L,x.1= .x L∧nl≤L∧L<nl'∧∃t l,x.2=some (.ext t l))∧ltL nl' ys=true∧ys.length=cs.length∧
   ∀(b:Base) (m:Nat→MV) (A:Nat→Prop) (g:Map E.G.car) (a:Act) (w:World) (vs:List Value),Rel (cxOf E b) m A g a w→(∀L,nl≤L→L<nl'→Free (cxOf E b) L g)→HdL E.G A w cs vs→
    ∃m',Rel (cxOf E b) m' A (upd us g) a w∧denL m' ys=vs∧okL m' ys∧∀L,(L<nl∨nl'≤L)→m' L=m L:=by
 intro cs
 induction cs with
 |nil=>intro nl K h;exact⟨[],[],nl,h,Nat.le_refl _,(fun x hx=>nomatch hx),rfl,rfl,fun b m A g a w vs hrel _ hv=>⟨m,hrel,by rw[show vs=[]from hv];rfl,trivial,fun _ _=>rfl⟩⟩
 |cons c cs ih=>
  intro nl K h
  cases c with
  |v x=>
   have key:∀(y:SV) (_:∀n,y.lt n=true) (_:∀m,den m y=x∧y.ok m),cvsK nl cs (fun vs us nl=>K (y::vs) (us++[]) nl)=some r→
     ∃ys us nl',K ys us nl'=some r∧nl≤nl'∧(∀x∈us,∃L,x.1= .x L∧nl≤L∧L<nl'∧∃t l,x.2=some (.ext t l))∧ltL nl' ys=true∧ys.length=(CV.v x::cs).length∧
      ∀(b:Base) (m:Nat→MV) (A:Nat→Prop) (g:Map E.G.car) (a:Act) (w:World) (vs:List Value),Rel (cxOf E b) m A g a w→(∀L,nl≤L→L<nl'→Free (cxOf E b) L g)→HdL E.G A w (CV.v x::cs) vs→
       ∃m',Rel (cxOf E b) m' A (upd us g) a w∧denL m' ys=vs∧okL m' ys∧∀L,(L<nl∨nl'≤L)→m' L=m L:=by
    intro y hlt hy h
    obtain⟨ys,us,nl',h1,h2,h3,h4,h5,h6⟩:=ih h
    refine⟨y::ys,us++[],nl',h1,h2,by simpa using h3,by simp[ltL,hlt,h4],by simp[h5],fun b m A g a w vs hrel hfree hv=>?_⟩
    obtain⟨u,us',rfl,h7,h8⟩:=hv
    obtain⟨m',h9,h10,h11,h12⟩:=h6 b m A g a w us' hrel hfree h8
    refine⟨m',by rw[List.append_nil];exact h9,?_,⟨(hy m').2,h11⟩,h12⟩
    simp only[denL,h10,(hy m').1]
    cases h7;rfl
   cases x with
   |int k n=>exact key (.i k n) (fun _=>rfl) (fun _=>⟨rfl,trivial⟩) h
   |bool e=>exact key (.b e) (fun _=>rfl) (fun _=>⟨rfl,trivial⟩) h
   |_=>exact key (.v _) (fun _=>rfl) (fun _=>⟨rfl,trivial⟩) h
  |sl t l=>
   obtain⟨ys,us,nl',h1,h2,h3,h4,h5,h6⟩:=ih (nl:=Nat.succ nl) h
   have h2':nl+1≤nl':=h2
   refine⟨.h nl::ys,us++[(.x nl,some (.ext t l))],nl',h1,by omega,fun x hx=>?_,?_,by simp[h5],fun b m A g a w vs hrel hfree hv=>?_⟩
   ·rcases List.mem_append.1 hx with hx|hx
    ·obtain⟨L,e1,e2,e3⟩:=h3 x hx
     have e2':nl+1≤L:=e2
     exact⟨L,e1,by omega,e3⟩
    ·simp only[List.mem_singleton]at hx
     subst hx
     exact⟨nl,rfl,Nat.le_refl _,by omega,t,l,rfl⟩
   ·simp only[ltL,SV.lt,h4,Bool.and_true,Nat.blt_eq];omega
   ·obtain⟨u,us',rfl,h7,h8⟩:=hv
    obtain⟨p,n,c,rfl⟩:=h7.slice
    have hrel1:=hrel.addExt (hfree nl (Nat.le_refl _) (by omega)) h7
    obtain⟨m',h9,h10,h11,h12⟩:=h6 b _ A _ a w us' hrel1 (fun L hL1 hL2=>(hfree L (Nat.le_of_succ_le hL1) hL2).upd (by
     have hL1':nl+1≤L:=hL1
     simp[mentionsIn,mentions,valHas,keyHas,beq_ne (show nl≠L by omega)])) h8
    have e:m' nl={ b:=0,p:=p,n:=n,c:=c }:=by rw[h12 nl (.inl (Nat.lt_succ_self nl)),setL_self]
    refine⟨m',by rw[upd_append];exact h9,?_,⟨trivial,h11⟩,fun L hL=>?_⟩
    ·simp only[denL,den,e,h10]
    ·rw[h12 L (hL.imp_left fun h=>Nat.lt_succ_of_lt h),setL_ne]
     rcases hL with hL|hL<;>omega
theorem cvsK_sound{R:Type}{r:R}{cs:List (CV E.G.car)}{nl:Nat}{K:List SV→St E.G.car→Nat→Option R}(h:cvsK nl cs K=some r):
  ∃ys us nl',K ys us nl'=some r∧nl≤nl'∧(∀x∈us,∃L,x.1= .x L∧nl≤L∧L<nl')∧ltL nl' ys=true∧ys.length=cs.length∧
   ∀(b:Base) (m:Nat→MV) (A:Nat→Prop) (g:Map E.G.car) (a:Act) (w:World) (vs:List Value),Rel (cxOf E b) m A g a w→(∀L,nl≤L→L<nl'→Free (cxOf E b) L g)→HdL E.G A w cs vs→
    ∃m',Rel (cxOf E b) m' A (upd us g) a w∧denL m' ys=vs∧okL m' ys∧∀L,(L<nl∨nl'≤L)→m' L=m L:=by
 obtain⟨ys,us,nl',h1,h2,h3,h4⟩:=cvsK_sound' h
 exact⟨ys,us,nl',h1,h2,fun x hx=>by obtain⟨L,e1,e2,e3,_⟩:=h3 x hx;exact⟨L,e1,e2,e3⟩,h4⟩
inductive SvCase(M:Map E.G.car):SV→CV E.G.car→List Key→St E.G.car→Prop
 |plain {v:SV} {x:Value} (h:∀m,den m v=x) (ho:oneC x=true):SvCase M v (.v x) [] []
 |nil (t:Nat):SvCase M (.v (.slice none 0 0)) (.sl t []) [] []
 |ext {L t:Nat} {l:List (E.G.car t)} (h:M (.x L)=some (.ext t l)) (hno:∀ety t l,M (.o L)≠some (.row ety t l)):SvCase M (.h L) (.sl t l) [.x L] []
 |row {L ety t:Nat} {l:List (E.G.car t)} (h:M (.o L)=some (.row ety t l)):SvCase M (.h L) (.sl t l) [.o L] [(.o L,none),(.x L,some (.ext t l))]
 |part {L t k:Nat} {i n:Int} {l:List (E.G.car t)} (h:M (.x L)=some (.ext t l)) (hno:∀ety t l,M (.o L)≠some (.row ety t l)) (hk:k=E.G.sz t) (hb:0≤i∧0≤n∧i+n≤(l.length:Int)):SvCase M (.w L i n k) (.sl t ((l.drop i.toNat).take n.toNat)) [.x L] []
 |partR {L ety t k:Nat} {i n:Int} {l:List (E.G.car t)} (h:M (.o L)=some (.row ety t l)) (hk:k=E.G.sz t) (hb:0≤i∧0≤n∧i+n≤(l.length:Int)):SvCase M (.w L i n k) (.sl t ((l.drop i.toNat).take n.toNat)) [.o L] [(.o L,none),(.x L,some (.ext t l))]
theorem chk_so{p:Prop}[Decidable p]{α:Type}{x:Option α}{r:α}(h:chk p x=some r):p∧x=some r:=by
 unfold chk at h
 split at h
 ·rename_i hp;exact⟨hp,h⟩
 ·cases h
theorem Hd.partW{A:Nat→Prop}{w:World}{m:Nat→MV}{L t k:Nat}{i n:Int}{l:List (E.G.car t)}(h:Hd E.G A w (.sl t l) (den m (.h L)))(hk:k=E.G.sz t)(hb:0≤i∧0≤n∧i+n≤(l.length:Int)):Hd E.G A w (.sl t ((l.drop i.toNat).take n.toNat)) (den m (.w L i n k)):=by
 subst hk
 have hl:=Hd.len h
 exact Hd.part h (i:=i.toNat) (q:=n.toNat) (by omega)
theorem svCV_sound{R:Type}{r:R}{c:EC E}{M:Map E.G.car}(hS:Sees c M){v:SV}{slot:Option Nat}{K:CV E.G.car→List Key→St E.G.car→Option R}(h:svCV c.s slot v K=some r):
  ∃cv ks us,K cv ks us=some r∧SvCase M v cv ks us:=by
 cases v with
 |v x=>
  simp only[svCV]at h
  split at h
  ·rename_i t
   exact⟨_,_,_,h,.nil t⟩
  ·cases h
  ·obtain⟨h1,h2⟩:=bif_some h
   exact⟨.v x,[],[],h2,.plain (fun _=>rfl) h1⟩
 |i k n=>exact⟨_,_,_,h,.plain (fun _=>rfl) rfl⟩
 |b e=>exact⟨_,_,_,h,.plain (fun _=>rfl) rfl⟩
 |h L=>
  simp only[svCV]at h
  split at h
  ·rename_i ety t l e
   exact⟨_,_,_,h,.row (by rw[hS.o];exact e)⟩
  ·rename_i hno
   split at h
   ·rename_i t l e
    exact⟨_,_,_,h,.ext (by rw[hS.x];exact e) (fun ety t l e'=>hno ety t l (by rw[←hS.o];exact e'))⟩
   ·cases h
 |w L i n k=>
  simp only[svCV]at h
  split at h
  ·rename_i ety t l e
   obtain⟨h1,h2⟩:=bif_some h
   obtain⟨h3,h4⟩:=chk_so h2
   exact⟨_,_,_,h4,.partR (by rw[hS.o];exact e) (Nat.eq_of_beq_eq_true h1) h3⟩
  ·rename_i hno
   split at h
   ·rename_i t l e
    obtain⟨h1,h2⟩:=bif_some h
    obtain⟨h3,h4⟩:=chk_so h2
    exact⟨_,_,_,h4,.part (by rw[hS.x];exact e) (fun ety t l e'=>hno ety t l (by rw[←hS.o];exact e')) (Nat.eq_of_beq_eq_true h1) h3⟩
   ·cases h
 |_=>simp[svCV]at h
inductive SvCases(M:Map E.G.car):List SV→List (CV E.G.car)→List Key→St E.G.car→Prop
 |nil:SvCases M [] [] [] []
 |cons {v:SV} {vs:List SV} {cv:CV E.G.car} {cs:List (CV E.G.car)} {k ks:List Key} {u us:St E.G.car} (h:SvCase M v cv k u) (hs:SvCases M vs cs ks us):SvCases M (v::vs) (cv::cs) (k++ks) (us++u)
theorem svCVs_sound{R:Type}{r:R}{c:EC E}{M:Map E.G.car}(hS:Sees c M):∀{vs:List SV} {sl:List (Option Nat)} {K:List (CV E.G.car)→List Key→St E.G.car→Option R},svCVs c.s sl vs K=some r→
  ∃cs ks us,K cs ks us=some r∧SvCases M vs cs ks us:=by
 intro vs
 induction vs with
 |nil=>intro sl K h;exact⟨[],[],[],by simpa[svCVs]using h,.nil⟩
 |cons v vs ih=>
  intro sl K h
  simp only[svCVs]at h
  obtain⟨cv,k1,u1,h1,hc⟩:=svCV_sound hS h
  obtain⟨cs,ks,us,h2,hcs⟩:=ih h1
  exact⟨_,_,_,h2,.cons hc hcs⟩
section
variable{M:Map E.G.car}
theorem SvCase.one{v:SV}{cv:CV E.G.car}{ks:List Key}{us:St E.G.car}(h:SvCase M v cv ks us):cv.one=true∧svOne v=true:=by
 cases h with
 | @plain v x h ho=>
  refine⟨ho,?_⟩
  have:=h default
  cases v<;>simp only[svOne]<;>(try rfl)<;>simp only[den]at this<;>subst this<;>first|exact ho|simp[oneC]at ho
 |nil t=>exact⟨rfl,rfl⟩
 |ext=>exact⟨rfl,rfl⟩
 |row=>exact⟨rfl,rfl⟩
 |part=>exact⟨rfl,rfl⟩
 |partR=>exact⟨rfl,rfl⟩
theorem SvCases.one{vs:List SV}{cs:List (CV E.G.car)}{ks:List Key}{us:St E.G.car}(h:SvCases M vs cs ks us):cs.all CV.one=true∧cs.length=vs.length:=by
 induction h with
 |nil=>exact⟨rfl,rfl⟩
 |cons h hs ih=>exact⟨by simp[h.one.1,ih.1],by simp[ih.2]⟩
theorem SvCases.keys{vs:List SV}{cs:List (CV E.G.car)}{ks:List Key}{us:St E.G.car}(h:SvCases M vs cs ks us):
  (∀L,.x L∈ks→∀ety t l,M (.o L)≠some (.row ety t l))∧(∀k∈ks,(∃L,k= .x L)∨∃L ety t l,k= .o L∧M (.o L)=some (.row ety t l))∧
  ∀x∈us,∃L,(x=(.o L,none)∨∃t l,x=(.x L,some (.ext t l)))∧.o L∈ks:=by
 induction h with
 |nil=>exact⟨(fun L hL=>nomatch hL),(fun k hk=>nomatch hk),(fun x hx=>nomatch hx)⟩
 | @cons v vs cv cs k ks u us h hs ih=>
  obtain⟨i1,i2,i3⟩:=ih
  refine⟨fun L hL=>?_,fun k' hk=>?_,fun x hx=>?_⟩
  ·rcases List.mem_append.1 hL with hL|hL
   ·cases h with
    |plain=>cases hL
    |nil=>cases hL
    |ext h hno=>simp only[List.mem_singleton,Key.x.injEq]at hL;subst hL;exact hno
    |row h=>simp at hL
    |part h hno=>simp only[List.mem_singleton,Key.x.injEq]at hL;subst hL;exact hno
    |partR h=>simp at hL
   ·exact i1 L hL
  ·rcases List.mem_append.1 hk with hk|hk
   ·cases h with
    |plain=>cases hk
    |nil=>cases hk
    |ext h hno=>simp only[List.mem_singleton]at hk;exact .inl ⟨_,hk⟩
    |row h=>simp only[List.mem_singleton]at hk;exact .inr ⟨_,_,_,_,hk,h⟩
    |part h hno=>simp only[List.mem_singleton]at hk;exact .inl ⟨_,hk⟩
    |partR h=>simp only[List.mem_singleton]at hk;exact .inr ⟨_,_,_,_,hk,h⟩
   ·exact i2 k' hk
  ·rcases List.mem_append.1 hx with hx|hx
   ·obtain⟨L,e1,e2⟩:=i3 x hx
    exact⟨L,e1,by simp[e2]⟩
   ·cases h with
    |plain=>cases hx
    |nil=>cases hx
    |ext h hno=>cases hx
    | @row L ety t l h=>
     refine⟨L,?_,by simp⟩
     simp only[List.mem_cons,List.not_mem_nil,or_false]at hx
     rcases hx with rfl|rfl
     ·exact .inl rfl
     ·exact .inr ⟨t,l,rfl⟩
    |part=>cases hx
    | @partR L ety t _ _ _ l h=>
     refine⟨L,?_,by simp⟩
     simp only[List.mem_cons,List.not_mem_nil,or_false]at hx
     rcases hx with rfl|rfl
     ·exact .inl rfl
     ·exact .inr ⟨t,l,rfl⟩
theorem SvCases.read{vs:List SV}{cs:List (CV E.G.car)}{ks:List Key}{us:St E.G.car}(h:SvCases M vs cs ks us)(hrel:Rel (cxOf E b) m A g a w)(hk:∀k∈ks,g k=M k){A':Nat→Prop}(hA:∀b,A b→A' b)
  (hown:∀L b,.o L∈ks→Owns m L (g (.o L)) b→A' b):HdL E.G A' w cs (denL m vs):=by
 induction h with
 |nil=>rfl
 | @cons v vs cv cs k ks u us h hs ih=>
  refine⟨_,_,rfl,?_,ih (fun k' hk'=>hk k' (by simp[hk'])) (fun L b hL=>hown L b (by simp[hL]))⟩
  cases h with
  |plain h ho=>rw[h m];exact .v _
  |nil t=>exact Hd.mk (b:=0) (o:=0) rfl (Nat.le_refl _) (fun h=>absurd rfl h) (fun i x hx=>by simp at hx)
  | @ext L t l h hno=>exact Hd.mono (hrel.ent (.x L) (.ext t l) ((hk _ (by simp)).trans h)) hA (fun _ _=>rfl)
  | @row L ety t l h=>
   have e:=(hk _ (by simp)).trans h
   exact At.rowHd (hrel.ent _ _ e) hA (fun hc=>hown L _ (by simp) (by rw[e];exact⟨hc,rfl⟩))
  | @part L t _ _ _ l h hno hq hb=>exact Hd.partW (Hd.mono (hrel.ent (.x L) (.ext t l) ((hk _ (by simp)).trans h)) hA (fun _ _=>rfl)) hq hb
  | @partR L ety t _ _ _ l h hq hb=>
   have e:=(hk _ (by simp)).trans h
   exact Hd.partW (At.rowHd (hrel.ent _ _ e) hA (fun hc=>hown L _ (by simp) (by rw[e];exact⟨hc,rfl⟩))) hq hb
theorem upd_fz{L t:Nat}{l:List (E.G.car t)}(k:Key):upd [(.o L,none),(.x L,some (.ext t l))] g k=if k= .o L then none else if k= .x L then some (.ext t l)else g k:=by
 rw[upd_cons,upd_one]
 by_cases e1:k= .o L
 ·subst e1;simp
 ·by_cases e2:k= .x L
  ·subst e2;simp
  ·rw[if_neg (Ne.symm e1),if_neg (Ne.symm e2),if_neg e1,if_neg e2]
theorem SvCases.freeze{vs:List SV}{cs:List (CV E.G.car)}{ks:List Key}{us:St E.G.car}(h:SvCases M vs cs ks us):∀{A:Nat→Prop} {g:Map E.G.car},Rel (cxOf E b) m A g a w→
  (∀k∈ks,g k=M k∨∃L ety t l,k= .o L∧M (.o L)=some (.row ety t l)∧g (.o L)=none∧g (.x L)=some (.ext t l))→
  ∃A',(∀b,A b→A' b)∧Rel (cxOf E b) m A' (upd us g) a w∧HdL E.G A' w cs (denL m vs):=by
 induction h with
 |nil=>intro A g hrel _;exact⟨A,fun _ h=>h,hrel,rfl⟩
 | @cons v vs cv cs k ks u us h hs ih=>
  intro A g hrel hk
  have step:∃A1,(∀b,A b→A1 b)∧Rel (cxOf E b) m A1 (upd u g) a w∧Hd E.G A1 w cv (den m v)∧
    (∀k∈ks,upd u g k=M k∨∃L ety t l,k= .o L∧M (.o L)=some (.row ety t l)∧upd u g (.o L)=none∧upd u g (.x L)=some (.ext t l)):=by
   cases h with
   |plain h ho=>exact⟨A,fun _ h=>h,hrel,by rw[h m];exact .v _,fun k hk'=>hk k (by simp[hk'])⟩
   |nil t=>exact⟨A,fun _ h=>h,hrel,Hd.mk (b:=0) (o:=0) rfl (Nat.le_refl _) (fun h=>absurd rfl h) (fun i x hx=>by simp at hx),fun k hk'=>hk k (by simp[hk'])⟩
   | @ext L t l h hno=>
    refine⟨A,fun _ h=>h,hrel,?_,fun k hk'=>hk k (by simp[hk'])⟩
    rcases hk (.x L) (by simp)with e|⟨_,_,_,_,e,_⟩
    ·exact hrel.ent (.x L) (.ext t l) (e.trans h)
    ·cases e
   | @row L ety t l h=>
    have others:∀{A1:Nat→Prop},∀k∈ks,upd [(.o L,none),(.x L,some (.ext t l))] g k=M k∨∃L' ety t' l',k= .o L'∧M (.o L')=some (.row ety t' l')∧upd [(.o L,none),(.x L,some (.ext t l))] g (.o L')=none∧upd [(.o L,none),(.x L,some (.ext t l))] g (.x L')=some (.ext t' l'):=by
     intro _ k hk'
     by_cases ek:k= .o L
     ·subst ek
      exact .inr ⟨L,ety,t,l,rfl,h,by rw[upd_fz,if_pos rfl],by rw[upd_fz,if_neg (by simp),if_pos rfl]⟩
     ·have ek2:k≠ .x L:=fun e=>by subst e;exact hs.keys.1 L hk' ety t l h
      rcases hk k (by simp[hk'])with e4|⟨L',ety',t',l',e4,e5,e6,e7⟩
      ·exact .inl (by rw[upd_fz,if_neg ek,if_neg ek2];exact e4)
      ·subst e4
       have hne:L'≠L:=fun e=>ek (by rw[e])
       exact .inr ⟨L',ety',t',l',rfl,e5,by rw[upd_fz,if_neg ek,if_neg (by simp)];exact e6,by rw[upd_fz,if_neg (by simp),if_neg (by simpa using hne)];exact e7⟩
    rcases hk (.o L) (by simp)with e|⟨L',ety',t',l',e,e1,e2,e3⟩
    ·have hgo:g (.o L)=some (.row ety t l):=e.trans h
     have hfz:=hrel.freeze hgo
     exact⟨_,fun _ h=>.inl h,hfz,hfz.ent (.x L) (.ext t l) (by rw[upd_fz,if_neg (by simp),if_pos rfl]),others (A1:=A)⟩
    ·cases e
     rw[h]at e1
     cases e1
     have same:∀k,upd [(.o L,none),(.x L,some (.ext t l))] g k=g k:=fun k=>by
      rw[upd_fz]
      by_cases e4:k= .o L
      ·subst e4;rw[if_pos rfl,e2]
      ·rw[if_neg e4]
       by_cases e5:k= .x L
       ·subst e5;rw[if_pos rfl,e3]
       ·rw[if_neg e5]
     exact⟨A,fun _ h=>h,hrel.congr fun k=>(same k).symm,hrel.ent (.x L) (.ext t l) e3,others (A1:=A)⟩
   | @part L t _ _ _ l h hno hq hb=>
    refine⟨A,fun _ h=>h,hrel,?_,fun k hk'=>hk k (by simp[hk'])⟩
    rcases hk (.x L) (by simp)with e|⟨_,_,_,_,e,_⟩
    ·exact Hd.partW (hrel.ent (.x L) (.ext t l) (e.trans h)) hq hb
    ·cases e
   | @partR L ety t _ _ _ l h hq hb=>
    have others:∀{A1:Nat→Prop},∀k∈ks,upd [(.o L,none),(.x L,some (.ext t l))] g k=M k∨∃L' ety t' l',k= .o L'∧M (.o L')=some (.row ety t' l')∧upd [(.o L,none),(.x L,some (.ext t l))] g (.o L')=none∧upd [(.o L,none),(.x L,some (.ext t l))] g (.x L')=some (.ext t' l'):=by
     intro _ k hk'
     by_cases ek:k= .o L
     ·subst ek
      exact .inr ⟨L,ety,t,l,rfl,h,by rw[upd_fz,if_pos rfl],by rw[upd_fz,if_neg (by simp),if_pos rfl]⟩
     ·have ek2:k≠ .x L:=fun e=>by subst e;exact hs.keys.1 L hk' ety t l h
      rcases hk k (by simp[hk'])with e4|⟨L',ety',t',l',e4,e5,e6,e7⟩
      ·exact .inl (by rw[upd_fz,if_neg ek,if_neg ek2];exact e4)
      ·subst e4
       have hne:L'≠L:=fun e=>ek (by rw[e])
       exact .inr ⟨L',ety',t',l',rfl,e5,by rw[upd_fz,if_neg ek,if_neg (by simp)];exact e6,by rw[upd_fz,if_neg (by simp),if_neg (by simpa using hne)];exact e7⟩
    rcases hk (.o L) (by simp)with e|⟨L',ety',t',l',e,e1,e2,e3⟩
    ·have hgo:g (.o L)=some (.row ety t l):=e.trans h
     have hfz:=hrel.freeze hgo
     exact⟨_,fun _ h=>.inl h,hfz,Hd.partW (hfz.ent (.x L) (.ext t l) (by rw[upd_fz,if_neg (by simp),if_pos rfl])) hq hb,others (A1:=A)⟩
    ·cases e
     rw[h]at e1
     cases e1
     have same:∀k,upd [(.o L,none),(.x L,some (.ext t l))] g k=g k:=fun k=>by
      rw[upd_fz]
      by_cases e4:k= .o L
      ·subst e4;rw[if_pos rfl,e2]
      ·rw[if_neg e4]
       by_cases e5:k= .x L
       ·subst e5;rw[if_pos rfl,e3]
       ·rw[if_neg e5]
     exact⟨A,fun _ h=>h,hrel.congr fun k=>(same k).symm,Hd.partW (hrel.ent (.x L) (.ext t l) e3) hq hb,others (A1:=A)⟩
  obtain⟨A1,hA1,hrel1,hd1,hk1⟩:=step
  obtain⟨A2,hA2,hrel2,hd2⟩:=ih hrel1 hk1
  exact⟨A2,fun b h=>hA2 b (hA1 b h),by rw[upd_append];exact hrel2,_,_,rfl,hd1.mono hA2 (fun _ _=>rfl),hd2⟩
end
end
end
end Go.KX

namespace Go.KX
open Go Go.RowKit
noncomputable section
theorem run_load_one{P:Program}{ty:TypeId}{ad:Addr}{v:Value}{w:World}(hsh:shapeOf P ty=some none)(h:w.cell? ad=some v):(loadVar ty ad).run P w= .ok v w:=by
 unfold shapeOf at hsh
 split at hsh
 ·cases hi:P.info? ty<;>rw[hi]at hsh<;>cases hsh
 ·cases hi:P.info? ty<;>rw[hi]at hsh<;>cases hsh
 ·rename_i u h1 h2 hu
  have:(isAgg ty).run P w= .ok false w:=by
   simp only[isAgg,Sem.run_bind,run_underlying hu,Result.andThen_ok]
   cases u<;>first|rfl|exact absurd hu (h1 _)|exact absurd hu (h2 _ _)
  simp only[loadVar,Sem.run_bind,this,Result.andThen_ok]
  simp[load,Sem.run,h]
 ·cases hsh
theorem run_loadCells{P:Program}{b:Nat}{w:World}:∀(l:List Value) (o i:Nat) (acc:Array Value),(∀j v,l[j]?=some v→w.cell? ⟨b,o+(i+j),none⟩=some v)→
  (loadCellsFrom ⟨b,o,none⟩ i l.length acc).run P w= .ok (acc++l.toArray) w:=by
 intro l
 induction l with
 |nil=>intro o i acc _;simp[loadCellsFrom]
 |cons v l ih=>
  intro o i acc h
  have h0:w.cell? ⟨b,o+i,none⟩=some v:=by simpa using h 0 v rfl
  simp only[List.length_cons,loadCellsFrom,Sem.run_bind,load,addr_add,Sem.run,h0,Result.andThen_ok]
  rw[ih o (i+1) (acc.push v) (fun j u hj=>by rw[show i+1+j=i+(j+1) by omega];exact h (j+1) u (by simpa using hj))]
  simp
theorem run_load_agg{P:Program}{ty n:Nat}{b o:Nat}{l:List Value}{w:World}(hsh:shapeOf P ty=some (some n))(hl:l.length=n)
  (h:∀j v,l[j]?=some v→w.cell? ⟨b,o+j,none⟩=some v):(loadVar ty ⟨b,o,none⟩).run P w= .ok (.agg l.toArray) w:=by
 have key:∀inf,P.info? ty=some inf→inf.size=n→(isAgg ty).run P w= .ok true w→(loadVar ty ⟨b,o,none⟩).run P w= .ok (.agg l.toArray) w:=by
  intro inf hi hn ha
  have hlc:=run_loadCells (P:=P) (b:=b) (w:=w) l o 0 #[] (fun j v hj=>by simpa using h j v hj)
  simp only[loadVar,Sem.run_bind,ha,Result.andThen_ok,if_true,sizeOf,typeInfo,program,Sem.run,hi,Sem.run_pure,loadCells]
  rw[hn,←hl]
  rw[hlc]
  simp
 unfold shapeOf at hsh
 split at hsh
 ·rename_i fs hu
  cases hi:P.info? ty with
  |none=>rw[hi]at hsh;cases hsh
  |some inf=>
   rw[hi]at hsh
   simp only[Option.map_some,Option.some.injEq]at hsh
   exact key inf hi hsh (by simp[isAgg,run_underlying hu])
 ·rename_i n' e hu
  cases hi:P.info? ty with
  |none=>rw[hi]at hsh;cases hsh
  |some inf=>
   rw[hi]at hsh
   simp only[Option.map_some,Option.some.injEq]at hsh
   exact key inf hi hsh (by simp[isAgg,run_underlying hu])
 ·cases hsh
 ·cases hsh
section
variable{E:Env}{b:Base}{o:Oper}{s:Map E.G.car}
variable{d:Nat}{type:TypeId}{pos:String}{after:Array Edge}{guard:Option (Nat×Bool)}
theorem op_gen{x:SV}{rd:List Key}{us:St E.G.car}{nw:List Nat}(hd:o.dst=some d)(hN:d<b.N)(hdf:∀c,o.op≠ .defer c)
  (h:∀(m:Nat→MV) (A:Nat→Prop) (a:Act) (w:World) (g:Map E.G.car),(∀k∈rd,g k=s k)→(∀L∈nw,Free (cxOf E b) L g)→Rel (cxOf E b) m A g a w→
   ∃(m':Nat→MV) (A':Nat→Prop) (w':World),(execOp a.eval o).run E.P w= .ok (.value (den m' x)) w'∧x.ok m'∧Rel (cxOf E b) m' A' (upd us g) a w'):
  OpRun (cxOf E b) o s ⟨rd,(.t d,some (.x x))::us,nw⟩:=by
 intro m A a w g hr hf hrel K Q hK
 obtain⟨m',A',w',hrun,hk,hrel'⟩:=h m A a w g (fun k hk=>hr k (reads_mem hk)) hf hrel
 refine⟨fun _ _=>trivial,?_⟩
 rw[semAt_of _ _ hdf,hrun,Oper.uponIn_value,hd]
 refine hK m' A' _ w' ((hrel'.put hN rfl hk).congr fun k=>?_)
 rw[upd_one,upd_cons]
theorem valCells_spec{s:XS E.G.car}{L:Nat}:∀{n o:Nat} {ys:List SV},valCells s L o n=some ys→ys.length=n∧∀j y,ys[j]?=some y→s.lab L (o+j+2)=some (.x y):=by
 intro n
 induction n with
 |zero=>intro o ys h;simp only[valCells,Option.some.injEq]at h;subst h;exact⟨rfl,fun j y h=>by simp at h⟩
 |succ n ih=>
  intro o ys h
  simp only[valCells]at h
  split at h
  ·rename_i v e
   cases hv:valCells s L (o+1) n with
   |none=>rw[hv]at h;cases h
   |some zs=>
    rw[hv]at h
    simp only[Option.map_some,Option.some.injEq]at h
    subst h
    obtain⟨h1,h2⟩:=ih hv
    refine⟨by simp[h1],fun j y hj=>?_⟩
    cases j with
    |zero=>simp at hj;subst hj;exact e
    |succ j=>rw[show o+(j+1)+2=o+1+j+2 by omega];exact h2 j y (by simpa using hj)
  ·cases h
theorem mem_cellKeys{L:Nat}:∀{n o j:Nat},j<n→Key.c L (o+j)∈cellKeys L o n:=by
 intro n
 induction n with
 |zero=>intro o j h;omega
 |succ n ih=>
  intro o j h
  cases j with
  |zero=>simp[cellKeys]
  |succ j=>
   simp only[cellKeys,List.mem_cons]
   right
   rw[show o+(j+1)=o+1+j by omega]
   exact ih (by omega)
section
variable{m:Nat→MV}{A:Nat→Prop}{g:Map E.G.car}{a:Act}{w:World}
theorem Rel.cellAt(h:Rel (cxOf E b) m A g a w){L o:Nat}{y:SV}(hc:g (.c L o)=some (.x y)):w.cell? ⟨(m L).b,o,none⟩=some (den m y)∧y.ok m:=by
 obtain⟨⟨cur,ty,h1,h2⟩,h3⟩:=h.ent _ _ hc
 exact⟨by simp only[World.cell?,h1,Option.isSome_none,Bool.false_eq_true,if_false];exact h2,h3⟩
end
theorem newL_self(a:Nat):newL a a=[]:=by simp[newL]
inductive ListIs(M:Map E.G.car)(L:Nat):Key→(t:Nat)→List (E.G.car t)→Prop
 |row {ety t:Nat} {l:List (E.G.car t)} (h:M (.o L)=some (.row ety t l)):ListIs M L (.o L) t l
 |ext {t:Nat} {l:List (E.G.car t)} (h:M (.x L)=some (.ext t l)):ListIs M L (.x L) t l
theorem listK_sound{R:Type}{r:R}{c:EC E}{M:Map E.G.car}(hS:Sees c M){L:Nat}{K:Key→(t:Nat)→List (E.G.car t)→Option R}(h:listK c.s L K=some r):
  ∃k t l,K k t l=some r∧ListIs M L k t l:=by
 simp only[listK]at h
 split at h
 ·rename_i ety t l e;exact⟨_,_,_,h,.row (by rw[hS.o];exact e)⟩
 ·split at h
  ·rename_i t l e;exact⟨_,_,_,h,.ext (by rw[hS.x];exact e)⟩
  ·cases h
section
variable{m:Nat→MV}{A:Nat→Prop}{g M:Map E.G.car}{a:Act}{w:World}
theorem ListIs.len{L t:Nat}{k:Key}{l:List (E.G.car t)}(h:ListIs M L k t l)(hrel:Rel (cxOf E b) m A g a w)(hk:g k=M k):(m L).n=l.length:=by
 cases h with
 |row h=>exact(hrel.ent _ _ (hk.trans h)).1
 |ext h=>exact(Hd.len (hrel.ent (.x L) (.ext t l) (hk.trans h))).1
theorem ListIs.elem{L t:Nat}{k:Key}{l:List (E.G.car t)}(h:ListIs M L k t l)(hrel:Rel (cxOf E b) m A g a w)(hk:g k=M k){i:Nat}{x:E.G.car t}(hx:l[i]?=some x):
  ∃bb oo,(m L).p=some ⟨bb,oo,none⟩∧∀(j:Nat) (cv:CV E.G.car),(E.G.enc t x)[j]?=some cv→∃u,w.cell? ⟨bb,oo+i*E.G.sz t+j,none⟩=some u∧Hd E.G A w cv u:=by
 cases h with
 |row h=>
  obtain⟨_,h2⟩:=hrel.ent _ _ (hk.trans h)
  rcases h2 with⟨_,hl,_⟩|⟨hc,hp,cur,hh,hsz,hle,hin⟩
  ·subst hl;simp at hx
  ·refine⟨_,0,hp,fun j cv hcv=>?_⟩
   obtain⟨u,h3,h4⟩:=hin i x hx j cv hcv
   exact⟨u,by simp only[World.cell?,hh,Option.isSome_none,Bool.false_eq_true,if_false,Nat.zero_add];exact h3,h4⟩
 |ext h=>
  obtain⟨bb,oo,h1,_,h3⟩:=Hd.at (hrel.ent (.x L) (.ext t l) (hk.trans h)) hx
  exact⟨bb,oo,h1,h3⟩
theorem getD_some{α:Type}{l:List α}{d:α}{i:Int}(h0:0≤i)(h1:i<l.length):l[i.toNat]?=some (l.getD i.toNat d):=by
 have:i.toNat<l.length:=by omega
 simp[List.getD,this]
end
theorem op_loadCV{ty:TypeId}{x:Operand}{v:SV}{rd:List Key}{cs:List (CV E.G.car)}{ys:List SV}{us:St E.G.car}{nl nl':Nat}{y:SV}(hN:d<b.N)(hx:Ev E s x v)(hsh:(shapeOf E.P ty=some none∧ys=[y]∧cs.length=1)∨(shapeOf E.P ty=some (some cs.length)∧y= .g ys))
  (had:∀(m:Nat→MV) (A:Nat→Prop) (a:Act) (w:World) (g:Map E.G.car),(∀k∈rd,g k=s k)→Rel (cxOf E b) m A g a w→v.ok m→
   ∃bb oo,den m v= .pointer (some ⟨bb,oo,none⟩)∧∀(j:Nat) (cv:CV E.G.car),cs[j]?=some cv→∃u,w.cell? ⟨bb,oo+j,none⟩=some u∧Hd E.G A w cv u)
  (hcv:∀(b:Base) (m:Nat→MV) (A:Nat→Prop) (g:Map E.G.car) (a:Act) (w:World) (vs:List Value),Rel (cxOf E b) m A g a w→(∀L,nl≤L→L<nl'→Free (cxOf E b) L g)→HdL E.G A w cs vs→
    ∃m',Rel (cxOf E b) m' A (upd us g) a w∧denL m' ys=vs∧okL m' ys∧∀L,(L<nl∨nl'≤L)→m' L=m L):
  OpRun (cxOf E b) ⟨some d,.load ty x,type,pos,after,guard⟩ s ⟨rd++okeys x,(.t d,some (.x y))::us,newL nl nl'⟩:=
 op_gen rfl hN (fun _ h=>by cases h) fun m A a w g hr hf hrel=>by
  obtain⟨h1,hk⟩:=hx.eval hrel (fun k hk=>hr k (by simp[hk]))
  obtain⟨bb,oo,h2,h3⟩:=had m A a w g (fun k hk=>hr k (by simp[hk])) hrel hk
  obtain⟨vs,h4,h5⟩:=HdL.of (fun j u=>w.cell? ⟨bb,oo+j,none⟩=some u) h3
  obtain⟨m',h6,h7,h8,_⟩:=hcv b m A g a w vs hrel (fun L h1 h2=>hf L (mem_newL.2 ⟨h1,h2⟩)) h4
  refine⟨m',A,w,?_,?_,h6⟩
  ·rcases hsh with⟨hsh,rfl,hone⟩|⟨hsh,rfl⟩
   ·have hl:=h4.length
    rw[hone]at hl
    obtain⟨u,rfl⟩:∃u,vs=[u]:=by
     cases vs with
     |nil=>cases hl
     |cons u r=>cases r with|nil=>exact⟨u,rfl⟩|cons _ _=>simp at hl
    have h9:=run_load_one hsh (h5 0 u rfl)
    simp only[denL,List.cons.injEq,and_true]at h7
    simp only[Nat.add_zero]at h9
    simp[execOp,h1,h2,Instr.loadAt,Instr.sureAddr,h9,h7]
   ·have h9:=run_load_agg hsh h4.length (b:=bb) (o:=oo) (w:=w) h5
    simp[execOp,h1,h2,Instr.loadAt,Instr.sureAddr,h9,den,h7]
  ·rcases hsh with⟨_,rfl,_⟩|⟨_,rfl⟩
   ·exact h8.1
   ·exact h8
theorem cvSV_sound{cv:CV E.G.car}{nl:Nat}{y:SV}{us:St E.G.car}{nl':Nat}(h:cvSV nl cv=(y,us,nl')):
  nl≤nl'∧(∀x∈us,∃L,x.1= .x L∧nl≤L∧L<nl')∧y.lt nl'=true∧
   ∀(b:Base) (m:Nat→MV) (A:Nat→Prop) (g:Map E.G.car) (a:Act) (w:World) (vs:List Value),Rel (cxOf E b) m A g a w→(∀L,nl≤L→L<nl'→Free (cxOf E b) L g)→HdL E.G A w [cv] vs→
    ∃m',Rel (cxOf E b) m' A (upd us g) a w∧denL m' [y]=vs∧okL m' [y]∧∀L,(L<nl∨nl'≤L)→m' L=m L:=by
 have h0:cvsK (R:=List SV×St E.G.car×Nat) nl [cv] (fun ys us nl=>some (ys,us,nl))=some ([y],us,nl'):=by
  simp only[cvsK,h,List.nil_append]
 obtain⟨ys,us',nl2,h1,h2,h3,h4,h5,h6⟩:=cvsK_sound h0
 simp only[Option.some.injEq,Prod.mk.injEq]at h1
 obtain⟨rfl,rfl,rfl⟩:=h1
 exact⟨h2,h3,by simpa[ltL]using h4,h6⟩
theorem loadK_sound{R:Type}{r:R}{c:EC E}(hS:Sees c s){ty:TypeId}{v:SV}{K:List Key→SV→St E.G.car→Nat→Option R}(h:loadK c ty v K=some r):
  ∃ks y us nl,K ks y us nl=some r∧∀{b:Base} {x:Operand},d<b.N→Ev E s x v→OpRun (cxOf E b) ⟨some d,.load ty x,type,pos,after,guard⟩ s ⟨ks++okeys x,(.t d,some (.x y))::us,newL c.s.nl nl⟩:=by
 simp only[loadK]at h
 split at h
 ·cases h
 ·rename_i sh hsh
  split at h
  ·
   rename_i L o
   split at h
   ·rename_i ty' n' hb
    split at h
    ·split at h
     ·rename_i y hc
      refine⟨_,_,_,_,h,fun{b x} hN hx=>?_⟩
      rw[newL_self]
      have hc':s (.c L o)=some (.x y):=by rw[hS.c];exact hc
      refine op_pure rfl hN (fun _ h=>by cases h) fun m A a w g hr hrel=>?_
      have h1:=(hx.eval hrel (fun k hk=>hr k (by simp[hk]))).1
      obtain⟨h2,h3⟩:=hrel.cellAt ((hr (.c L o) (by simp)).trans hc')
      exact⟨h3,by simp[execOp,h1,den,Instr.loadAt,Instr.sureAddr,run_load_one hsh h2]⟩
     ·cases h
    ·rename_i n
     split at h
     ·rename_i ys hc
      refine⟨_,_,_,_,h,fun{b x} hN hx=>?_⟩
      rw[newL_self]
      obtain⟨hlen,hget⟩:=valCells_spec hc
      refine op_pure rfl hN (fun _ h=>by cases h) fun m A a w g hr hrel=>?_
      have h1:=(hx.eval hrel (fun k hk=>hr k (by simp[hk]))).1
      have hcell:∀j y,ys[j]?=some y→w.cell? ⟨(m L).b,o+j,none⟩=some (den m y)∧y.ok m:=fun j y hj=>by
       have hlt:j<n:=by rw[←hlen];exact(List.getElem?_eq_some_iff.1 hj).1
       refine hrel.cellAt ?_
       rw[hr _ (List.mem_append_left _ (mem_cellKeys hlt)),hS.c]
       exact hget j y hj
      have h2:∀j u,(denL m ys)[j]?=some u→w.cell? ⟨(m L).b,o+j,none⟩=some u:=fun j u hj=>by
       rw[denL_get]at hj
       cases hy:ys[j]? with
       |none=>rw[hy]at hj;cases hj
       |some y=>rw[hy]at hj;cases hj;exact(hcell j y hy).1
      refine⟨okL_iff.2 fun y hy=>?_,by simp[execOp,h1,den,Instr.loadAt,Instr.sureAddr,run_load_agg hsh (by rw[denL_length,hlen]) h2]⟩
      obtain⟨j,hj⟩:=List.getElem?_of_mem hy
      exact(hcell j y hj).2
     ·cases h
   ·split at h
    ·rename_i cs hb
     have hb':s (.x L)=some (.ro cs):=by rw[hS.x];exact hb
     have hro:∀(q:Nat) {b:Base} (m:Nat→MV) (A:Nat→Prop) (a:Act) (w:World) (g:Map E.G.car),(∀k∈[Key.x L],g k=s k)→Rel (cxOf E b) m A g a w→(SV.p L o).ok m→
       ∃bb oo,den m (.p L o)= .pointer (some ⟨bb,oo,none⟩)∧∀(j:Nat) (cv:CV E.G.car),((cs.drop o).take q)[j]?=some cv→∃u,w.cell? ⟨bb,oo+j,none⟩=some u∧Hd E.G A w cv u:=fun q b m A a w g hr hrel _=>by
      refine⟨_,_,rfl,fun j cv hcv=>?_⟩
      obtain⟨_,h2⟩:=hrel.ent _ _ ((hr _ (by simp)).trans hb')
      refine h2 (o+j) cv ?_
      rw[List.getElem?_take]at hcv
      split at hcv
      ·rw[List.getElem?_drop]at hcv;exact hcv
      ·cases hcv
     split at h
     ·split at h
      ·rename_i cv hcv
       have h1:(cs.drop o).take 1=[cv]:=by
        apply List.ext_getElem?
        intro j
        cases j with
        |zero=>simpa using hcv
        |succ j=>simp;omega
       obtain⟨h2,h3,h4,h5⟩:=cvSV_sound (cv:=cv) (nl:=c.s.nl) rfl
       refine⟨_,_,_,_,h,fun{b x} hN hx=>op_loadCV (cs:=[cv]) hN hx (.inl ⟨hsh,rfl,rfl⟩) (fun m A a w g hr hrel hk=>?_) h5⟩
       have:=hro 1 m A a w g hr hrel hk
       rw[h1]at this;exact this
      ·cases h
     ·rename_i n
      obtain⟨hl,h⟩:=bif_some h
      obtain⟨ys,us,nl',h1,h2,h3,h4,h5,h6⟩:=cvsK_sound h
      have hl':=Nat.eq_of_beq_eq_true hl
      refine⟨_,_,_,_,h1,fun{b x} hN hx=>op_loadCV hN hx (.inr ⟨by rw[hl'];exact hsh,rfl⟩) (fun m A a w g hr hrel hk=>hro n m A a w g hr hrel hk) h6⟩
    ·cases h
  ·
   rename_i L i k j
   obtain⟨key,t,l,h1,hl⟩:=listK_sound hS h
   clear h
   obtain⟨hk,h⟩:=bif_some h1
   clear h1
   have hk':=Nat.eq_of_beq_eq_true hk
   clear hk
   subst hk'
   have hel:∀(q:Nat) {b:Base} (m:Nat→MV) (A:Nat→Prop) (a:Act) (w:World) (g:Map E.G.car),(∀k∈[key],g k=s k)→Rel (cxOf E b) m A g a w→(SV.e L i (E.G.sz t) j).ok m→
     ∃bb oo,den m (.e L i (E.G.sz t) j)= .pointer (some ⟨bb,oo,none⟩)∧∀(j':Nat) (cv:CV E.G.car),(((E.G.enc t (l.getD i.toNat (E.G.dft t))).drop j).take q)[j']?=some cv→∃u,w.cell? ⟨bb,oo+j',none⟩=some u∧Hd E.G A w cv u:=fun q b m A a w g hr hrel hok=>by
    have hlen:=hl.len hrel (hr key (by simp))
    obtain⟨h0,h1⟩:=hok
    rw[hlen]at h1
    obtain⟨bb,oo,h2,h3⟩:=hl.elem hrel (hr key (by simp)) (getD_some (d:=E.G.dft t) h0 h1)
    refine⟨bb,oo+(i.toNat*E.G.sz t+j),by simp only[den,h2,elemAddr,Option.map_some],fun j' cv hcv=>?_⟩
    rw[List.getElem?_take]at hcv
    split at hcv
    ·rw[List.getElem?_drop]at hcv
     obtain⟨u,h4,h5⟩:=h3 (j+j') cv hcv
     exact⟨u,by rw[show oo+(i.toNat*E.G.sz t+j)+j'=oo+i.toNat*E.G.sz t+(j+j') by omega];exact h4,h5⟩
    ·cases hcv
   split at h
   ·split at h
    ·rename_i cv hcv
     have h1:((E.G.enc t (l.getD i.toNat (E.G.dft t))).drop j).take 1=[cv]:=by
      apply List.ext_getElem?
      intro q
      cases q with
      |zero=>simpa using hcv
      |succ q=>simp;omega
     obtain⟨h2,h3,h4,h5⟩:=cvSV_sound (cv:=cv) (nl:=c.s.nl) rfl
     refine⟨_,_,_,_,h,fun{b x} hN hx=>op_loadCV (cs:=[cv]) hN hx (.inl ⟨hsh,rfl,rfl⟩) (fun m A a w g hr hrel hk=>?_) h5⟩
     have:=hel 1 m A a w g hr hrel hk
     rw[h1]at this;exact this
    ·cases h
   ·rename_i n
    obtain⟨hl2,h⟩:=bif_some h
    obtain⟨ys,us,nl',h1,h2,h3,h4,h5,h6⟩:=cvsK_sound h
    have hl':=Nat.eq_of_beq_eq_true hl2
    refine⟨_,_,_,_,h1,fun{b x} hN hx=>op_loadCV hN hx (.inr ⟨by rw[hl'];exact hsh,rfl⟩) (fun m A a w g hr hrel hk=>hel n m A a w g hr hrel hk) h6⟩
  ·cases h
end
end
end Go.KX

namespace Go.KX
open Go Go.RowKit
noncomputable section
theorem putAt_length{α:Type}:∀(ys:List α) (o:Nat) (cs:List α),(putAt o ys cs).length=cs.length:=by
 intro ys
 induction ys with
 |nil=>intro o cs;rfl
 |cons y ys ih=>intro o cs;simp only[putAt];rw[ih];simp
theorem putAt_get{α:Type}:∀(ys:List α) (o:Nat) (cs:List α) (j:Nat),(putAt o ys cs)[j]?=if o≤j∧j<o+ys.length∧j<cs.length then ys[j-o]? else cs[j]?:=by
 intro ys
 induction ys with
 |nil=>intro o cs j;simp only[putAt,List.length_nil];rw[if_neg (by omega)]
 |cons y ys ih=>
  intro o cs j
  simp only[putAt]
  rw[ih]
  simp only[List.length_set,List.length_cons,List.getElem?_set]
  by_cases h1:o+1≤j∧j<o+1+ys.length∧j<cs.length
  ·rw[if_pos h1,if_pos (by omega),show j-o=j-(o+1)+1 by omega,List.getElem?_cons_succ]
  ·rw[if_neg h1]
   by_cases h2:o=j
   ·subst h2
    by_cases h3:o<cs.length
    ·simp[h3]
    ·rw[if_pos rfl,if_neg h3,if_neg (by omega)]
     rw[List.getElem?_eq_none (by omega)]
   ·rw[if_neg h2,if_neg (by omega)]
theorem svOne_den{m:Nat→MV}{v:SV}(h:svOne v=true):(den m v).cells= #[den m v]∧oneC (den m v)=true:=by
 cases v with
 |v x=>cases x<;>simp_all [svOne,den,Value.cells,oneC]
 |g _=>simp[svOne]at h
 |t _=>simp[svOne]at h
 |_=>simp[den,Value.cells,oneC]
theorem svCells_den{m:Nat→MV}{v:SV}(h:(svCells v).all svOne=true):(den m v).cells=(denL m (svCells v)).toArray∧∀u∈denL m (svCells v),oneC u=true:=by
 have hone:∀l:List SV,l.all svOne=true→∀u∈denL m l,oneC u=true:=by
  intro l
  induction l with
  |nil=>intro _ u hu;cases hu
  |cons x l ih=>
   intro h u hu
   simp only[List.all_cons,Bool.and_eq_true]at h
   rcases List.mem_cons.1 hu with rfl|hu
   ·exact(svOne_den h.1).2
   ·exact ih h.2 u hu
 refine⟨?_,hone _ h⟩
 have gen:svOne v=true→(den m v).cells=(denL m [v]).toArray:=fun h=>by rw[(svOne_den h).1];rfl
 cases v with
 |g cs=>rfl
 |_=>exact gen (by simpa[svCells]using h)
theorem okL_svCells{m:Nat→MV}{v:SV}(h:v.ok m):okL m (svCells v):=by
 cases v with
 |g cs=>exact h
 |_=>exact⟨h,trivial⟩
theorem run_store{P:Program}{ad:Addr}{v u:Value}{w:World}(hc:w.cell? ad=some u)(hf:w.frozen? ad=false)(hv:oneC v=true):(store ad v).run P w= .ok () (w.setCell ad v):=by
 cases v<;>simp_all [store,Sem.run,oneC]
theorem run_storeCellsW{P:Program}{bb:Nat}{ty:TypeId}{o:Nat}:∀(vs:List Value) (i:Nat) (w:World) (cur:Array Value),w.heap[bb]?=some (.cells cur ty (0,0))→(∀v∈vs,oneC v=true)→o+i+vs.length≤cur.size→
  ∃w' cur',(storeCells ⟨bb,o,none⟩ vs i).run P w= .ok () w'∧w'.heap[bb]?=some (.cells cur' ty (0,0))∧cur'.size=cur.size∧
   (∀j,cur'[j]?=if o+i≤j∧j<o+i+vs.length then vs[j-(o+i)]? else cur[j]?)∧w'.os=w.os∧w'.tape=w.tape∧Out w w'∧w'.heap.size=w.heap.size∧∀k,k≠bb→w'.heap[k]?=w.heap[k]?:=by
 intro vs
 induction vs with
 |nil=>
  intro i w cur hh _ _
  exact⟨w,cur,by simp[storeCells],hh,rfl,fun j=>by rw[if_neg (by simp)],rfl,rfl,.rfl,rfl,fun _ _=>rfl⟩
 |cons v vs ih=>
  intro i w cur hh hone hle
  simp only[List.length_cons]at hle
  have hcell:w.cell? ⟨bb,o+i,none⟩=some (cur[o+i]'(by omega)):=by simp[World.cell?,hh,show o+i<cur.size by omega]
  have hfz:w.frozen? ⟨bb,o+i,none⟩=false:=by simp[World.frozen?,hh]
  have hst:=run_store (P:=P) hcell hfz (hone v (by simp))
  have hh':(w.setCell ⟨bb,o+i,none⟩ v).heap[bb]?=some (.cells (cur.setIfInBounds (o+i) v) ty (0,0)):=setCell_heap hh
  obtain⟨w',cur',h1,h2,h3,h4,h5,h6,h7,h8,h9⟩:=ih (i+1) _ _ hh' (fun u hu=>hone u (by simp[hu])) (by simp;omega)
  refine⟨w',cur',?_,h2,by rw[h3];simp,fun j=>?_,h5,h6,h7,by rw[h8];simp[World.setCell],fun k hk=>(h9 k hk).trans (Below.heap_setCell _ _ _ _ hk)⟩
  ·simp only[storeCells,Sem.run_bind,addr_add,hst,Result.andThen_ok]
   exact h1
  ·rw[h4 j]
   simp only[List.length_cons]
   by_cases e1:o+(i+1)≤j∧j<o+(i+1)+vs.length
   ·rw[if_pos e1,if_pos (by omega),show j-(o+i)=j-(o+(i+1))+1 by omega,List.getElem?_cons_succ]
   ·rw[if_neg e1,Array.getElem?_setIfInBounds]
    by_cases e2:o+i=j
    ·rw[if_pos e2,if_pos (by omega),if_pos (by omega),show j-(o+i)=0 by omega,List.getElem?_cons_zero]
    ·rw[if_neg e2,if_neg (by omega)]
section
variable{cx:Cx}{m:Nat→MV}{A:Nat→Prop}{g:CMap cx}{a:Act}{w:World}
theorem Rel.storeBox{L o n:Nat}{ty:TypeId}{ys:List SV}(h:Rel cx m A g a w)(hk:okL m ys)(hone:∀u∈denL m ys,oneC u=true)(hb:g (.o L)=some (.sh ty n))(ho:o+ys.length≤n):
  ∃w',(storeCells ⟨(m L).b,o,none⟩ (denL m ys)).run cx.P w= .ok () w'∧Rel cx m A (upd (cellsUp L o ys) g) a w':=by
 obtain⟨cur,hsz,hh⟩:=h.ent _ _ hb
 have hL:Owns m L (g (.o L)) (m L).b:=by rw[hb];rfl
 obtain⟨w',cur',h1,h2,h3,h4,h5,h6,h7,h8,h9⟩:=run_storeCellsW (P:=cx.P) (o:=o) (denL m ys) 0 w cur hh hone (by rw[denL_length];omega)
 refine⟨w',h1,h.wrote hL h5 h6 h7 (by omega) (fun k _ hk=>h9 k hk) (fun _ _=>rfl) h.fix h.pins (fun k e1 e2=>?_) (fun _ _ _ _=>rfl) (fun v hv=>?_) (fun o' v hv=>⟨?_,ty,n,by rw[upd_cellsUp];exact hb⟩) (fun b hv=>by rw[upd_cellsUp]at hv;exact hv)⟩
 ·rw[upd_cellsUp]
  cases k with
  |c L' o'=>dsimp only;rw[if_neg (fun e=>e1 o' (by rw[e.1]))]
  |_=>rfl
 ·rw[upd_cellsUp]at hv
  dsimp only at hv
  rw[hb]at hv;cases hv
  exact⟨cur',by rw[h3,hsz],h2⟩
 ·rw[upd_cellsUp]at hv
  dsimp only at hv
  by_cases e:o≤o'∧o'<o+ys.length
  ·rw[if_pos ⟨rfl,e⟩]at hv
   have hlt:o'-o<ys.length:=by omega
   rw[List.getElem?_eq_getElem hlt]at hv
   cases hv
   refine⟨⟨cur',ty,h2,?_⟩,okL_iff.1 hk _ (List.getElem_mem hlt)⟩
   rw[h4,if_pos (by rw[denL_length];omega),Nat.add_zero,denL_get,List.getElem?_eq_getElem hlt];rfl
  ·rw[if_neg (fun e'=>e e'.2)]at hv
   have h10:=h.ent _ _ hv
   cases v with
   |x y=>
    obtain⟨⟨cur2,ty2,h11,h12⟩,h13⟩:=h10
    rw[hh]at h11;cases h11
    exact⟨⟨cur',ty,h2,by rw[h4,if_neg (by rw[denL_length];omega)];exact h12⟩,h13⟩
   |_=>exact h10.elim
theorem Rel.storeRow{L ety t q j:Nat}{l:List (cx.G.car t)}{x x':cx.G.car t}{cs:List (CV cx.G.car)}{vs:List Value}(h:Rel cx m A g a w)(hb:g (.o L)=some (.row ety t l))(hx:l[q]?=some x)(henc:cx.G.enc t x'=putAt j cs (cx.G.enc t x))
  (hd:HdL cx.G A w cs vs) (hone:∀u∈vs,oneC u=true) (hj:j+cs.length≤cx.G.sz t):
  ∃w',(m L).p=some ⟨(m L).b,0,none⟩∧(storeCells ⟨(m L).b,q*cx.G.sz t+j,none⟩ vs).run cx.P w= .ok () w'∧Rel cx m A (upd [(.o L,some (.row ety t (l.set q x')))] g) a w':=by
 obtain⟨hn,h2⟩:=h.ent _ _ hb
 rcases h2 with⟨_,hl,_⟩|⟨hc,hp,cur,hh,hsz,hle,hin⟩
 ·subst hl;simp at hx
 have hq:q<l.length:=(List.getElem?_eq_some_iff.1 hx).1
 have hL:Owns m L (g (.o L)) (m L).b:=by rw[hb];exact⟨hc,rfl⟩
 have hfit:q*cx.G.sz t+cx.G.sz t≤cur.size:=by
  rw[hsz]
  have:(q+1)*cx.G.sz t≤(m L).c*cx.G.sz t:=Nat.mul_le_mul_right _ (by omega)
  rw[Nat.add_mul,Nat.one_mul]at this
  exact this
 have hlen:=hd.length
 obtain⟨w',cur',h1,h2',h3,h4,h5,h6,h7,h8,h9⟩:=run_storeCellsW (P:=cx.P) (o:=q*cx.G.sz t+j) vs 0 w cur hh hone (by rw[hlen];omega)
 have hAw:∀b,A b→w'.heap[b]?=w.heap[b]?:=fun b hb'=>h9 b fun e=>(h.own L _ hL).2 (e▸hb')
 have hupd:∀k,upd [(.o L,some (.row ety t (l.set q x')))] g k=if .o L=k then some (.row ety t (l.set q x'))else g k:=fun k=>upd_one
 refine⟨w',hp,h1,h.wrote hL h5 h6 h7 (by omega) (fun k _ hk=>h9 k hk) (fun _ _=>rfl) h.fix h.pins (fun k e1 e2=>by rw[hupd,if_neg (Ne.symm e2)]) (fun _ _ _ _=>rfl) (fun v hv=>?_) (fun o' v hv=>?_) (fun b hv=>by rw[hupd,if_pos rfl]at hv;rw[hb];exact hv)⟩
 ·rw[hupd,if_pos rfl]at hv
  cases hv
  refine⟨by rw[hn,List.length_set],.inr ⟨hc,hp,cur',h2',by rw[h3,hsz],by rw[List.length_set];exact hle,fun i y hy j' cv hcv=>?_⟩⟩
  rw[List.getElem?_set]at hy
  have hj':j'<cx.G.sz t:=by rw[←cx.G.hsz t y];exact(List.getElem?_eq_some_iff.1 hcv).1
  have old:∀y',l[i]?=some y'→(cx.G.enc t y')[j']?=some cv→¬(q*cx.G.sz t+j≤i*cx.G.sz t+j'∧i*cx.G.sz t+j'<q*cx.G.sz t+j+vs.length)→∃u,cur'[i*cx.G.sz t+j']?=some u∧Hd cx.G A w' cv u:=fun y' hy' hcv' hout=>by
   obtain⟨u,h10,h11⟩:=hin i y' hy' j' cv hcv'
   exact⟨u,by rw[h4,Nat.add_zero,if_neg hout];exact h10,h11.mono (fun _ h=>h) hAw⟩
  by_cases e:q=i
  ·subst e
   rw[if_pos rfl]at hy
   simp only[hq,if_true,Option.some.injEq]at hy
   subst hy
   rw[henc,putAt_get]at hcv
   by_cases e2:j≤j'∧j'<j+cs.length∧j'<(cx.G.enc t x).length
   ·rw[if_pos e2]at hcv
    obtain⟨u,h10,h11⟩:=hd.get _ cv hcv
    refine⟨u,?_,h11.mono (fun _ h=>h) hAw⟩
    rw[h4,Nat.add_zero,if_pos (by rw[hlen];omega),show q*cx.G.sz t+j'-(q*cx.G.sz t+j)=j'-j by omega]
    exact h10
   ·rw[if_neg e2]at hcv
    have h12:j'<(cx.G.enc t x).length:=(List.getElem?_eq_some_iff.1 hcv).1
    exact old x hx hcv (by rw[hlen];omega)
  ·rw[if_neg e]at hy
   refine old y hy hcv ?_
   rw[hlen]
   rintro⟨e1,e2⟩
   rcases Nat.lt_or_gt_of_ne e with h10|h10
   ·have:(q+1)*cx.G.sz t≤i*cx.G.sz t:=Nat.mul_le_mul_right _ h10
    rw[Nat.add_mul,Nat.one_mul]at this
    omega
   ·have:(i+1)*cx.G.sz t≤q*cx.G.sz t:=Nat.mul_le_mul_right _ h10
    rw[Nat.add_mul,Nat.one_mul]at this
    omega
 ·rw[hupd,if_neg (by simp)]at hv
  obtain⟨ty,n,h10⟩:=h.cell L o' v hv
  rw[hb]at h10;cases h10
end
section
variable{E:Env}{b:Base}{o:Oper}{s:Map E.G.car}
variable{d:Nat}{type:TypeId}{pos:String}{after:Array Edge}{guard:Option (Nat×Bool)}
theorem op_storeG{ty sz:Nat}{x y:Operand}{v u:SV}{rd:List Key}{us:St E.G.car}(hsz:sizeIn E.P ty=some sz)(hx:Ev E s x v)(hy:Ev E s y u)(hlen:(svCells u).length=sz)(hone:(svCells u).all svOne=true)
  (h:∀(m:Nat→MV) (A:Nat→Prop) (a:Act) (w:World) (g:Map E.G.car),(∀k∈rd,g k=s k)→Rel (cxOf E b) m A g a w→v.ok m→okL m (svCells u)→(∀z∈denL m (svCells u),oneC z=true)→
   ∃(A':Nat→Prop) (w':World) (bb oo:Nat),den m v= .pointer (some ⟨bb,oo,none⟩)∧(storeCells ⟨bb,oo,none⟩ (denL m (svCells u))).run E.P w= .ok () w'∧Rel (cxOf E b) m A' (upd us g) a w'):
  OpRun (cxOf E b) ⟨none,.store ty x y,type,pos,after,guard⟩ s ⟨rd++(okeys x++okeys y),us,[]⟩:=by
 intro m A a w g hr hf hrel K Q hK
 obtain⟨h1,k1⟩:=hx.eval hrel (fun k hk=>hr k (reads_mem (by simp[hk])))
 obtain⟨h2,k2⟩:=hy.eval hrel (fun k hk=>hr k (reads_mem (by simp[hk])))
 obtain⟨hc,hone'⟩:=svCells_den (m:=m) hone
 obtain⟨A',w',bb,oo,h3,h4,h5⟩:=h m A a w g (fun k hk=>hr k (reads_mem (by simp[hk]))) hrel k1 (okL_svCells k2) hone'
 refine⟨fun _ _=>trivial,?_⟩
 rw[semAt_of _ _ (by simp)]
 have hrun:(execOp a.eval ⟨none,.store ty x y,type,pos,after,guard⟩).run E.P w= .ok .skip w':=by
  unfold sizeIn at hsz
  cases hi:E.P.info? ty with
  |none=>rw[hi]at hsz;cases hsz
  |some inf=>
   rw[hi]at hsz
   simp only[Option.map_some,Option.some.injEq]at hsz
   simp[execOp,h1,h2,h3,Instr.storeAt,Instr.sureAddr,storeVar,sizeOf,typeInfo,hi,hsz,hc,denL_length,hlen,h4]
 rw[hrun]
 exact hK m A' a w' h5
theorem storeK_sound{R:Type}{r:R}{c:EC E}(hS:Sees c s){ty:TypeId}{v u:SV}{K:List Key→St E.G.car→Option R}(h:storeK c ty v u K=some r):
  ∃ks us,K ks us=some r∧∀{b:Base} {x y:Operand},Ev E s x v→Ev E s y u→OpRun (cxOf E b) ⟨none,.store ty x y,type,pos,after,guard⟩ s ⟨ks++(okeys x++okeys y),us,[]⟩:=by
 simp only[storeK]at h
 split at h
 ·cases h
 ·rename_i sz hsz
  have hb0:=bif_some h
  clear h
  obtain⟨h0,h⟩:=hb0
  simp only[Bool.and_eq_true]at h0
  have hlen:=Nat.eq_of_beq_eq_true h0.1
  split at h
  ·rename_i L o
   split at h
   ·rename_i ty' n hb
    obtain⟨hle,h⟩:=bif_some h
    have hle':=Nat.le_of_ble_eq_true hle
    refine⟨_,_,h,fun{b x y} hx hy=>op_storeG hsz hx hy hlen h0.2 fun m A a w g hr hrel _ k2 hone=>?_⟩
    obtain⟨w',h1,h2⟩:=hrel.storeBox k2 hone ((hr _ (by simp)).trans ((hS.o L).trans hb)) (o:=o) (ys:=svCells u) (by rw[hlen];exact hle')
    exact⟨A,w',_,_,rfl,h1,h2⟩
   ·cases h
  ·rename_i L i k j
   split at h
   ·rename_i ety t l hb
    have hb1:=bif_some h
    clear h
    obtain⟨hk,h⟩:=hb1
    have hk':=Nat.eq_of_beq_eq_true hk
    obtain⟨cs,ks,us,h1,hcs⟩:=svCVs_sound hS h
    split at h1
    ·rename_i x' hx'
     obtain⟨h2,h3⟩:=bif_some h1
     simp only[Bool.and_eq_true,Bool.not_eq_true']at h2
     have hj:=Nat.le_of_ble_eq_true h2.1
     refine⟨_,_,h3,fun{b x y} hx hy=>op_storeG hsz hx hy hlen h0.2 fun m A a w g hr hrel k1 k2 hone=>?_⟩
     have hgL:g (.o L)=some (.row ety t l):=(hr _ (by simp)).trans ((hS.o L).trans hb)
     obtain⟨A',hA,hrel',hd⟩:=hcs.freeze hrel (fun k hk=>.inl (hr k (by simp[hk])))
     have hgL':upd us g (.o L)=some (.row ety t l):=by rw[upd_of_touches h2.2];exact hgL
     obtain⟨k3,k4⟩:=k1
     rw[(hrel.ent _ _ hgL).1]at k4
     have hlt:i.toNat<l.length:=by omega
     have hcl:cs.length=sz:=by rw[hcs.one.2];exact hlen
     obtain⟨w',h4,h5,h6⟩:=hrel'.storeRow hgL' (getD_some (d:=E.G.dft t) k3 k4) (E.G.hdec _ _ _ hx') hd hone (by rw[hcl];show _≤E.G.sz t;rw[←hk'];exact hj)
     refine⟨A',w',(m L).b,i.toNat*k+j,by simp only[den,h4,elemAddr,Option.map_some,Nat.zero_add],by rw[hk'];exact h5,?_⟩
     refine h6.congr fun k=>?_
     rw[upd_one,upd_cons]
    ·cases h1
   ·cases h
  ·cases h
theorem newL_one(a:Nat):newL a (Nat.succ a)=[a]:=by simp[newL]
theorem op_new{L ety:Nat}{cs:List SV}{rd:List Key}(hd:o.dst=some d)(hN:d<b.N)(hdf:∀c,o.op≠ .defer c)(hL:ltL L cs=true)
  (h:∀(m:Nat→MV) (A:Nat→Prop) (a:Act) (w:World) (g:Map E.G.car),(∀k∈rd,g k=s k)→Rel (cxOf E b) m A g a w→okL m cs∧∃cells:Array Value,cells=(denL m cs).toArray∧
   (execOp a.eval o).run E.P w= .ok (.value (.pointer (some ⟨w.heap.size,0,none⟩))) (w.alloc (.cells cells ety))):
  OpRun (cxOf E b) o s ⟨rd,(.t d,some (.x (.p L 0)))::(.o L,some (.sh ety cs.length))::cellsUp L 0 cs,newL L (Nat.succ L)⟩:=
 op_gen hd hN hdf fun m A a w g hr hf hrel=>by
  obtain⟨hk,cells,hc,hrun⟩:=h m A a w g hr hrel
  refine⟨setL m L (boxMV w.heap.size),A,_,?_,trivial,hrel.alloc hk (hf L (by rw[newL_one];simp)) (hasL_lt (Nat.le_refl _) _ hL) hc⟩
  rw[hrun];simp only[den,setL_self,boxMV]
theorem alloc_run{P:Program}{ty:TypeId}{cells:Array Value}{w:World}:(newRow ty cells).run P w= .ok ⟨w.heap.size,0,none⟩ (w.alloc (.cells cells ty)):=rfl
theorem ltL_vals(n:Nat)(vs:List Value):ltL n (vs.map SV.v)=true:=by
 induction vs with
 |nil=>rfl
 |cons v vs ih=>simp[ltL,SV.lt,ih]
theorem op_alloc{ty L:Nat}{vs:List Value}(hN:d<b.N)(hz:zeroL E.P ty=some vs):
  OpRun (cxOf E b) ⟨some d,.alloc ty,type,pos,after,guard⟩ s ⟨[],(.t d,some (.x (.p L 0)))::(.o L,some (.sh ty vs.length))::cellsUp L 0 (vs.map SV.v),newL L (Nat.succ L)⟩:=by
 have:=op_new (E:=E) (b:=b) (s:=s) (o:=⟨some d,.alloc ty,type,pos,after,guard⟩) (L:=L) (ety:=ty) (cs:=vs.map SV.v) (rd:=[]) rfl hN (by simp) (ltL_vals L vs) fun m A a w g hr hrel=>by
  refine⟨okL_vals m vs,vs.toArray,by rw[denL_vals],?_⟩
  unfold zeroL at hz
  cases hi:E.P.info? ty with
  |none=>rw[hi]at hz;cases hz
  |some inf=>
   rw[hi]at hz
   simp only[Option.bind_some]at hz
   cases hzz:inf.zero with
   |none=>rw[hzz]at hz;cases hz
   |some z=>
    rw[hzz]at hz
    simp only[Option.map_some,Option.some.injEq]at hz
    subst hz
    simp[execOp,Instr.alloc,zeroValue,typeInfo,hi,hzz,newVar,alloc_run]
 rwa [List.length_map]at this
theorem op_box{ty L:Nat}{x:Operand}{v:SV}(hN:d<b.N)(hx:Ev E s x v)(hone:(svCells v).all svOne=true)(hL:ltL L (svCells v)=true):
  OpRun (cxOf E b) ⟨some d,.box ty x,type,pos,after,guard⟩ s ⟨okeys x,(.t d,some (.x (.p L 0)))::(.o L,some (.sh ty (svCells v).length))::cellsUp L 0 (svCells v),newL L (Nat.succ L)⟩:=
 op_new rfl hN (fun _ h=>by cases h) hL fun m A a w g hr hrel=>by
  obtain⟨h1,hk⟩:=hx.eval hrel hr
  obtain⟨hc,_⟩:=svCells_den (m:=m) hone
  exact⟨okL_svCells hk,_,hc,by simp[execOp,h1,Instr.box,newVar,alloc_run]⟩
theorem run_fieldAt{P:Program}{ty f off b o:Nat}(h:fieldOff P ty f=some off)(w:World):
  (Instr.fieldAt ty (.pointer (some ⟨b,o,none⟩)) f).run P w= .ok (.pointer (some ⟨b,o+off,none⟩)) w:=by
 unfold fieldOff at h
 split at h
 ·rename_i fs hu
  split at h
  ·rename_i fl hfl
   split at h
   ·rename_i i hi
    split at h
    ·cases h
    ·rename_i hsz
     cases h
     simp[Instr.fieldAt,run_underlying hu,hfl,Instr.sureAddr,fieldPlace,sizeOf,typeInfo,hi,hsz,addr_add]
   ·cases h
  ·cases h
 ·cases h
theorem op_fieldAddrP{ty f off L o':Nat}{x:Operand}(hN:d<b.N)(hx:Ev E s x (.p L o'))(h:fieldOff E.P ty f=some off):
  OpRun (cxOf E b) ⟨some d,.fieldAddr ty x f,type,pos,after,guard⟩ s ⟨okeys x,[(.t d,some (.x (.p L (o'+off))))],[]⟩:=
 op_pure rfl hN (by simp) fun m A a w g hr hrel=>by
  have h1:=(hx.eval hrel hr).1
  exact⟨trivial,by simp[execOp,h1,den,run_fieldAt h]⟩
theorem ListIs.ptr{m:Nat→MV}{A:Nat→Prop}{g M:Map E.G.car}{a:Act}{w:World}{L t:Nat}{k:Key}{l:List (E.G.car t)}(h:ListIs M L k t l)(hrel:Rel (cxOf E b) m A g a w)(hk:g k=M k)(hl:l≠[]):
  ∃bb oo,(m L).p=some ⟨bb,oo,none⟩:=by
 cases l with
 |nil=>exact absurd rfl hl
 |cons x r=>obtain⟨bb,oo,h1,_⟩:=h.elem hrel hk (i:=0) rfl;exact⟨bb,oo,h1⟩
theorem op_fieldAddrE{ty f off L k j t:Nat}{i:Int}{x:Operand}{key:Key}{l:List (E.G.car t)}(hN:d<b.N)(hx:Ev E s x (.e L i k j))(hl:ListIs s L key t l)(h:fieldOff E.P ty f=some off):
  OpRun (cxOf E b) ⟨some d,.fieldAddr ty x f,type,pos,after,guard⟩ s ⟨key::okeys x,[(.t d,some (.x (.e L i k (j+off))))],[]⟩:=
 op_pure rfl hN (by simp) fun m A a w g hr hrel=>by
  obtain⟨h1,k1⟩:=hx.eval hrel (fun k hk=>hr k (by simp[hk]))
  obtain⟨k2,k3⟩:=k1
  have hlen:=hl.len hrel (hr key (by simp))
  obtain⟨bb,oo,hp⟩:=hl.ptr hrel (hr key (by simp)) (fun e=>by subst e;rw[hlen]at k3;simp at k3;omega)
  refine⟨⟨k2,k3⟩,?_⟩
  simp[execOp,h1,den,hp,elemAddr,run_fieldAt h,Nat.add_assoc]
theorem run_indexAt{P:Program}{ty b o sz len cap:Nat}{k:IntKind}{i:Int}(h:sliceSz P ty=some sz)(h0:0≤i)(h1:i<len)(w:World):
  (Instr.indexAt ty (.slice (some ⟨b,o,none⟩) len cap) (.int k i)).run P w= .ok (.pointer (some ⟨b,o+i.toNat*sz,none⟩)) w:=by
 unfold sliceSz at h
 split at h
 ·rename_i e hu
  cases hi:P.info? e with
  |none=>rw[hi]at h;cases h
  |some inf=>
   rw[hi]at h
   cases h
   simp[Instr.indexAt,run_underlying hu,asIntOf,h0,h1,sizeOf,typeInfo,hi,addr_add]
 ·cases h
theorem op_ixH{ty L sz t:Nat}{x y:Operand}{u:SV}{k:IntKind}{i:Int}{key:Key}{l:List (E.G.car t)}(hN:d<b.N)(hx:Ev E s x (.h L))(hy:Ev E s y u)(hu:∀m,den m u= .int k i)(hl:ListIs s L key t l)(h:sliceSz E.P ty=some sz)(h0:0≤i∧i<(l.length:Int)):
  OpRun (cxOf E b) ⟨some d,.indexAddr ty x y,type,pos,after,guard⟩ s ⟨key::(okeys x++okeys y),[(.t d,some (.x (.e L i sz 0)))],[]⟩:=
 op_pure rfl hN (by simp) fun m A a w g hr hrel=>by
  have e1:=(hx.eval hrel (fun k hk=>hr k (by simp[hk]))).1
  have e2:=(hy.eval hrel (fun k hk=>hr k (by simp[hk]))).1
  rw[hu]at e2
  have hlen:=hl.len hrel (hr key (by simp))
  obtain⟨bb,oo,hp⟩:=hl.ptr hrel (hr key (by simp)) (fun e=>by subst e;simp at h0;omega)
  have h1:i<((m L).n:Int):=by rw[hlen];exact h0.2
  refine⟨⟨h0.1,h1⟩,?_⟩
  simp[execOp,e1,e2,den,hp,run_indexAt h h0.1 h1,elemAddr]
theorem op_ixS{ty L o' sz len cap:Nat}{k:IntKind}{i:Int}{x y:Operand}{u:SV}(hN:d<b.N)(hx:Ev E s x (.s L o' len cap))(hy:Ev E s y u)(hu:∀m,den m u= .int k i)(h:sliceSz E.P ty=some sz)(h0:0≤i)(h1:i<(len:Int)):
  OpRun (cxOf E b) ⟨some d,.indexAddr ty x y,type,pos,after,guard⟩ s ⟨okeys x++okeys y,[(.t d,some (.x (.p L (o'+i.toNat*sz))))],[]⟩:=
 op_pure rfl hN (by simp) fun m A a w g hr hrel=>by
  have e1:=(hx.eval hrel (fun k hk=>hr k (by simp[hk]))).1
  have e2:=(hy.eval hrel (fun k hk=>hr k (by simp[hk]))).1
  rw[hu]at e2
  exact⟨trivial,by simp[execOp,e1,e2,den,run_indexAt h h0 h1]⟩
theorem run_indexArr{P:Program}{ty len sz b o':Nat}{k:IntKind}{i:Int}(h:arrSz P ty=some (len,sz))(h0:0≤i)(h1:i<len)(w:World):
  (Instr.indexAt ty (.pointer (some ⟨b,o',none⟩)) (.int k i)).run P w= .ok (.pointer (some ⟨b,o'+i.toNat*sz,none⟩)) w:=by
 unfold arrSz at h
 split at h
 ·rename_i n e hu
  cases hi:P.info? e with
  |none=>rw[hi]at h;cases h
  |some inf=>
   rw[hi]at h
   cases h
   simp[Instr.indexAt,run_underlying hu,asIntOf,h0,h1,sizeOf,typeInfo,hi,addr_add,Instr.sureAddr]
 ·cases h
theorem op_ixA{ty L o' len sz:Nat}{k:IntKind}{i:Int}{x y:Operand}{u:SV}(hN:d<b.N)(hx:Ev E s x (.p L o'))(hy:Ev E s y u)(hu:∀m,den m u= .int k i)(h:arrSz E.P ty=some (len,sz))(h0:0≤i)(h1:i<(len:Int)):
  OpRun (cxOf E b) ⟨some d,.indexAddr ty x y,type,pos,after,guard⟩ s ⟨okeys x++okeys y,[(.t d,some (.x (.p L (o'+i.toNat*sz))))],[]⟩:=
 op_pure rfl hN (by simp) fun m A a w g hr hrel=>by
  have e1:=(hx.eval hrel (fun k hk=>hr k (by simp[hk]))).1
  have e2:=(hy.eval hrel (fun k hk=>hr k (by simp[hk]))).1
  rw[hu]at e2
  exact⟨trivial,by simp[execOp,e1,e2,den,run_indexArr h h0 h1]⟩
theorem op_mkfn{fn:Fn}{fst cap:Array Operand}{fs xs:List SV}(hN:d<b.N)(hf:EvL E s fst.toList fs)(hx:EvL E s cap.toList xs):
  OpRun (cxOf E b) ⟨some d,.makeFunc fn fst cap,type,pos,after,guard⟩ s ⟨okeysL fst.toList++okeysL cap.toList,[(.t d,some (.x (.f fn fs xs)))],[]⟩:=
 op_pure rfl hN (fun _ h=>by cases h) fun m A a w g hr hrel=>by
  obtain⟨e1,k1⟩:=hx.eval hrel (fun k hk=>hr k (by simp[hk]))
  obtain⟨e2,k2⟩:=hf.eval hrel (fun k hk=>hr k (by simp[hk]))
  have h1:cap.map a.eval=(denL m xs).toArray:=by rw[←e1];exact Array.ext' (by rw[Array.toList_map])
  have h2:fst.map a.eval=(denL m fs).toArray:=by rw[←e2];exact Array.ext' (by rw[Array.toList_map])
  exact⟨⟨k2,k1⟩,by simp[execOp,Instr.makeFunc,den,h1,h2]⟩
theorem op_nilCheck{x:Operand}{v:SV}(hN:d<b.N)(hx:Ev E s x v)(hv:match v with| .p _ _=>True| .f (.func _) _ _=>True| .v (.func (.func _) _ _)=>True|_=>False):
  OpRun (cxOf E b) ⟨some d,.nilCheck x,type,pos,after,guard⟩ s ⟨okeys x,[(.t d,some (.x v))],[]⟩:=
 op_pure rfl hN (fun _ h=>by cases h) fun m A a w g hr hrel=>by
  obtain⟨h1,k1⟩:=hx.eval hrel hr
  refine⟨k1,?_⟩
  split at hv
  ·simp[execOp,h1,den]
  ·simp[execOp,h1,den]
  ·simp[execOp,h1,den]
  ·exact hv.elim
theorem op_lenG{ty sz:Nat}{x:Operand}{v y:SV}{rd:List Key}(hN:d<b.N)(hu:sliceSz E.P ty=some sz)(hx:Ev E s x v)
  (h:∀(m:Nat→MV) (A:Nat→Prop) (a:Act) (w:World) (g:Map E.G.car),(∀k∈rd,g k=s k)→Rel (cxOf E b) m A g a w→v.ok m→y.ok m∧∃p n c,den m v= .slice p n c∧den m y= .int .i64 n):
  OpRun (cxOf E b) ⟨some d,.call ⟨.builtin .len, #[x], #[ty]⟩,type,pos,after,guard⟩ s ⟨okeysL [x]++rd,[(.t d,some (.x y))],[]⟩:=
 op_pure rfl hN (fun _ h=>by cases h) fun m A a w g hr hrel=>by
  obtain⟨h1,k0⟩:=hx.eval hrel (fun k hk=>hr k (by simp[okeysL,hk]))
  obtain⟨k1,p,n,c,h2,h3⟩:=h m A a w g (fun k hk=>hr k (by simp[hk])) hrel k0
  refine⟨k1,?_⟩
  unfold sliceSz at hu
  split at hu
  ·rename_i e he
   simp[execOp,resolve,invoke,builtin,Builtin.len_,h1,h2,h3,run_underlying he,goInt]
  ·cases hu
theorem op_minmax{ts:Array TypeId}{x y:Operand}{v u x':SV}{k:IntKind}{n p:Int}{mx:Bool}(hN:d<b.N)(hx:Ev E s x v)(hy:Ev E s y u)(hv:∀m,den m v= .int k n)(hu:∀m,den m u= .int k p)
  (hr':∀m,den m x'= .int k (bif mx then(if p>n then p else n)else(if p<n then p else n))∧x'.ok m):
  OpRun (cxOf E b) ⟨some d,.call ⟨.builtin (bif mx then .max else .min), #[x,y],ts⟩,type,pos,after,guard⟩ s ⟨okeysL [x,y],[(.t d,some (.x x'))],[]⟩:=
 op_pure rfl hN (fun _ h=>by cases h) fun m A a w g hr hrel=>by
  have h1:=(hx.eval hrel (fun k hk=>hr k (by simp[okeysL,hk]))).1
  have h2:=(hy.eval hrel (fun k hk=>hr k (by simp[okeysL,hk]))).1
  rw[hv]at h1
  rw[hu]at h2
  refine⟨(hr' m).2,?_⟩
  rw[(hr' m).1]
  cases mx<;>simp[execOp,resolve,invoke,builtin,Builtin.min_,Builtin.min2,Builtin.max_,Builtin.max2,h1,h2]
end
end
end Go.KX

namespace Go.KX
open Go Go.RowKit
noncomputable section
theorem denL_map(m:Nat→MV):∀l:List SV,denL m l=l.map (den m)
 |[]=>rfl
 |x::l=>by simp[denL,denL_map m l]
theorem map_putAt{α β:Type}(f:α→β):∀(ys:List α) (o:Nat) (cs:List α),(putAt o ys cs).map f=putAt o (ys.map f) (cs.map f):=by
 intro ys
 induction ys with
 |nil=>intro o cs;rfl
 |cons y ys ih=>intro o cs;simp only[putAt,List.map_cons];rw[ih,List.map_set]
theorem foldl_putAt(off:Nat):∀(l:List Value) (n:Nat) (a:Array Value),(l.zipIdx n).foldl (fun cs (x:Value×Nat)=>cs.setIfInBounds (off+x.2) x.1) a=(putAt (off+n) l a.toList).toArray:=by
 intro l
 induction l with
 |nil=>intro n a;rfl
 |cons c l ih=>
  intro n a
  simp only[List.zipIdx_cons,List.foldl_cons,putAt]
  rw[ih,Array.toList_setIfInBounds]
  rfl
theorem fill_den{place:Nat→Option (Nat×Nat)}{pl:List (Nat×Nat)}(hp:∀i p,pl[i]?=some p→place i=some p)(m:Nat→MV):∀(parts:List (Nat×SV)) (cs cs':List SV),fillS pl parts cs=some cs'→
  Instr.fill place (denL m cs).toArray (parts.map fun p=>(p.1,den m p.2))=some (denL m cs').toArray∧((∀p∈parts,p.2.ok m)→okL m cs→okL m cs')∧cs'.length=cs.length:=by
 intro parts
 induction parts with
 |nil=>intro cs cs' h;simp only[fillS,Option.some.injEq]at h;subst h;exact⟨rfl,fun _ h=>h,rfl⟩
 |cons p r ih=>
  obtain⟨i,v⟩:=p
  intro cs cs' h
  simp only[fillS]at h
  split at h
  ·rename_i off sz hpl
   have hb:=bif_some h
   clear h
   obtain⟨h1,h⟩:=hb
   simp only[Bool.and_eq_true]at h1
   have hlen:=Nat.eq_of_beq_eq_true h1.1.1
   have hle:=Nat.le_of_ble_eq_true h1.2
   obtain⟨hc,_⟩:=svCells_den (m:=m) h1.1.2
   obtain⟨h2,h3,h4⟩:=ih _ _ h
   refine⟨?_,fun hok hcs=>h3 (fun p hp=>hok p (by simp[hp])) ?_,by rw[h4,putAt_length]⟩
   ·simp only[List.map_cons,Instr.fill,hp i _ hpl,hc]
    have e1:(denL m (svCells v)).toArray.size=sz:=by simp[denL_length,hlen]
    have e2:(denL m cs).toArray.size=cs.length:=by simp[denL_length]
    rw[if_neg (by simp only[e1,e2,ne_eq,not_true_eq_false,decide_false,Bool.false_or,decide_eq_true_eq];omega)]
    rw[←h2]
    congr 1
    rw[denL_map m (putAt off (svCells v) cs),map_putAt,←denL_map,←denL_map,←Array.foldl_toList,Array.toList_zipIdx]
    have:=foldl_putAt off (denL m (svCells v)) 0 (denL m cs).toArray
    simp only[Nat.add_zero]at this
    exact this
   ·refine okL_iff.2 fun y hy=>?_
    obtain⟨j,hj⟩:=List.getElem?_of_mem hy
    rw[putAt_get]at hj
    split at hj
    ·exact okL_iff.1 (okL_svCells (hok (i,v) (by simp))) y (List.mem_of_getElem? hj)
    ·exact okL_iff.1 hcs y (List.mem_of_getElem? hj)
  ·cases h
section
variable{E:Env}{b:Base}{o:Oper}{s:Map E.G.car}
variable{d:Nat}{type:TypeId}{pos:String}{after:Array Edge}{guard:Option (Nat×Bool)}
variable{m:Nat→MV}{A:Nat→Prop}{g:Map E.G.car}{a:Act}{w:World}
theorem zeroL_spec{P:Program}{ty:TypeId}{vs:List Value}(h:zeroL P ty=some vs):∃i z,P.info? ty=some i∧i.zero=some z∧z.cells=vs.toArray:=by
 unfold zeroL at h
 cases hi:P.info? ty with
 |none=>rw[hi]at h;cases h
 |some i=>
  rw[hi]at h
  cases hz:i.zero with
  |none=>simp only[Option.bind_some,hz]at h;cases h
  |some z=>
   simp only[Option.bind_some,hz,Option.map_some,Option.some.injEq]at h
   exact⟨i,z,rfl,hz,by rw[←h]⟩
theorem parts_eq(h:Rel (cxOf E b) m A g a w){parts:List (Nat×Operand)}{xs:List SV}(hx:EvL E s (parts.map (·.2)) xs)(hk:∀k∈okeysL (parts.map (·.2)),g k=s k):
  parts.map (fun p=>(p.1,a.eval p.2))=((parts.map (·.1)).zip xs).map (fun p=>(p.1,den m p.2))∧∀p∈(parts.map (·.1)).zip xs,p.2.ok m:=by
 obtain⟨h1,h2⟩:=hx.eval h hk
 clear hx hk
 induction parts generalizing xs with
 |nil=>exact⟨rfl,fun p hp=>by simp at hp⟩
 |cons p r ih=>
  cases xs with
  |nil=>simp[denL]at h1
  |cons x xs=>
   simp only[List.map_cons,denL,List.cons.injEq]at h1
   obtain⟨i1,i2⟩:=ih h1.2 h2.2
   refine⟨by simp only[List.map_cons,List.zip_cons_cons,i1,h1.1],fun q hq=>?_⟩
   simp only[List.map_cons,List.zip_cons_cons,List.mem_cons]at hq
   rcases hq with rfl|hq
   ·exact h2.1
   ·exact i2 q hq
theorem op_build{t:TypeId}{ps:Array (Nat×Operand)}{xs cs:List SV}{z:List Value}{pl:List (Nat×Nat)}(hN:d<b.N)(hx:EvL E s (ps.toList.map (·.2)) xs)(hz:zeroL E.P t=some z)(hpl:placesOf E.P t=some pl)
  (hf:fillS pl ((ps.toList.map (·.1)).zip xs) (z.map SV.v)=some cs):OpRun (cxOf E b) ⟨some d,.build t ps,type,pos,after,guard⟩ s ⟨okeysL (ps.toList.map (·.2)),[(.t d,some (.x (.g cs)))],[]⟩:=
 op_pure rfl hN (fun _ h=>by cases h) fun m A a w g hr hrel=>by
  obtain⟨h1,h2⟩:=parts_eq hrel hx hr
  obtain⟨i,zv,hi,hzz,hc⟩:=zeroL_spec hz
  have hpa:ps.map (fun p=>(p.1,a.eval p.2))=(((ps.toList.map (·.1)).zip xs).map (fun p=>(p.1,den m p.2))).toArray:=by
   rw[←h1];exact Array.ext' (by rw[Array.toList_map])
  have hzc:zv.cells=(denL m (z.map SV.v)).toArray:=by rw[hc,denL_vals]
  have hbuilt:∃place:Nat→Option (Nat×Nat),(∀i p,pl[i]?=some p→place i=some p)∧E.P.built t (((ps.toList.map (·.1)).zip xs).map (fun p=>(p.1,den m p.2)))=Instr.fill place zv.cells (((ps.toList.map (·.1)).zip xs).map (fun p=>(p.1,den m p.2))):=by
   unfold placesOf at hpl
   unfold Program.built
   split at hpl
   ·rename_i fs hu
    refine⟨(pl.toArray[·]?),fun i p hp=>by simpa using hp,?_⟩
    rw[hi,hu]
    simp only[hzz,hpl]
   ·rename_i n e hu
    cases hie:E.P.info? e with
    |none=>rw[hie]at hpl;cases hpl
    |some ie=>
     rw[hie]at hpl
     simp only[Option.map_some,Option.some.injEq]at hpl
     subst hpl
     refine⟨fun i=>some (i*ie.size,ie.size),fun i p hp=>?_,?_⟩
     ·rw[List.getElem?_map]at hp
      cases hr:(List.range n)[i]? with
      |none=>rw[hr]at hp;cases hp
      |some q=>
       rw[hr]at hp
       have:q=i:=by
        have:=List.getElem?_eq_some_iff.1 hr
        obtain⟨h3,h4⟩:=this
        simp at h4;exact h4.symm
       subst this
       exact hp
     ·rw[hi,hu]
      simp only[hzz,hie]
   ·cases hpl
  obtain⟨place,hp,hb⟩:=hbuilt
  obtain⟨h3,h4,_⟩:=fill_den hp m _ _ _ hf
  refine⟨h4 h2 (okL_vals m z),?_⟩
  have h5:=run_build (P:=E.P) w t (((ps.toList.map (·.1)).zip xs).map (fun p=>(p.1,den m p.2))).toArray (denL m cs).toArray (by rw[hb,hzc];exact h3)
  rw[←hpa]at h5
  simp[execOp,h5,den]
theorem Rel.addRow{cx:Cx}{m:Nat→MV}{A:Nat→Prop}{g:CMap cx}{a:Act}{w:World}{L ety t:Nat}{l:List (cx.G.car t)}{mv:MV}(h:Rel cx m A g a w)(hf:Free cx L g)(hat:At cx (setL m L mv) A a.tmps w (.o L) (.row ety t l))
  (hB:mv.c≠0→cx.mine mv.b∧¬A mv.b∧∀l,¬Owns m l (g (.o l)) mv.b):Rel cx (setL m L mv) A (upd [(.o L,some (.row ety t l))] g) a w:=by
 have hg:∀k,k≠ .o L→upd [(.o L,some (.row ety t l))] g k=g k:=fun k hk=>by rw[upd_one,if_neg (Ne.symm hk)]
 refine h.fresh hf (fun k hk=>?_) (fun k v hk hv=>?_) (fun o v hv=>?_) (fun bb ho=>?_)
 ·simp only[touches,Bool.or_false]at hk
  exact .inl (Key.eqb_iff.1 hk).symm
 ·rcases hk with rfl|rfl|⟨o,rfl⟩
  ·rw[upd_one,if_pos rfl]at hv
   cases hv
   exact hat
  ·rw[hg _ (by simp)]at hv
   have:=hf.1 (.x L);rw[hv]at this;simp[mentions,keyHas]at this
  ·rw[hg _ (by simp)]at hv
   have:=hf.1 (.c L o);rw[hv]at this;simp[mentions,keyHas]at this
 ·rw[hg _ (by simp)]at hv
  have:=hf.1 (.c L o);rw[hv]at this;simp[mentions,keyHas]at this
 ·rw[upd_one,if_pos rfl]at ho
  simp only[Owns,setL_self]at ho
  rw[ho.2]
  exact hB ho.1
theorem decL_spec{t:Nat}:∀{n:Nat} {cvs:List (CV E.G.car)} {l:List (E.G.car t)},decL t (E.G.sz t) n cvs=some l→l.length=n∧
  ∀(i:Nat) (x:E.G.car t),l[i]?=some x→∀(j:Nat) (cv:CV E.G.car),(E.G.enc t x)[j]?=some cv→cvs[i*E.G.sz t+j]?=some cv:=by
 intro n
 induction n with
 |zero=>intro cvs l h;simp only[decL,Option.some.injEq]at h;subst h;exact⟨rfl,fun i x hx=>by simp at hx⟩
 |succ n ih=>
  intro cvs l h
  simp only[decL]at h
  split at h
  ·rename_i x0 hx0
   cases hr:decL t (E.G.sz t) n (cvs.drop (E.G.sz t))with
   |none=>rw[hr]at h;cases h
   |some r=>
    rw[hr]at h
    simp only[Option.map_some,Option.some.injEq]at h
    subst h
    obtain⟨h1,h2⟩:=ih hr
    refine⟨by simp[h1],fun i x hx j cv hcv=>?_⟩
    have hj:j<E.G.sz t:=by rw[←E.G.hsz t x];exact(List.getElem?_eq_some_iff.1 hcv).1
    cases i with
    |zero=>
     simp at hx;subst hx
     rw[E.G.hdec _ _ _ hx0,List.getElem?_take,if_pos hj]at hcv
     simpa using hcv
    |succ i=>
     have:=h2 i x (by simpa using hx) j cv hcv
     rw[List.getElem?_drop]at this
     rw[Nat.add_mul,Nat.one_mul,show i*E.G.sz t+E.G.sz t+j=E.G.sz t+(i*E.G.sz t+j) by omega]
     exact this
  ·cases h
theorem Rel.newRow{L ety t c:Nat}{l:List (E.G.car t)}{cells:Array Value}(h:Rel (cxOf E b) m A g a w)(hf:Free (cxOf E b) L g)(hsz:cells.size=c*E.G.sz t)(hle:l.length≤c)(hin:RowIn E.G A w cells t l):
  Rel (cxOf E b) (setL m L { b:=w.heap.size,p:=some ⟨w.heap.size,0,none⟩,n:=l.length,c:=c }) A (upd [(.o L,some (.row ety t l))] g) a (w.alloc (.cells cells ety)):=by
 have hnew:(w.alloc (.cells cells ety)).heap[w.heap.size]?=some (.cells cells ety (0,0)):=by
  show(w.heap.push _)[w.heap.size]?=_
  simp
 have hbel:Bel w.heap.size w (w.alloc (.cells cells ety)):=⟨rfl,rfl,.rfl,by simp,fun k hk=>Below.heap_alloc _ _ _ hk⟩
 have hw:=h.world hbel
 refine hw.addRow hf ⟨by rw[setL_self],?_⟩ (fun _=>⟨.inl h.top,fun hA=>Nat.lt_irrefl _ (h.frz _ hA),fun l' hl=>Nat.lt_irrefl _ (h.blt hl)⟩)
 simp only[setL_self]
 rcases Nat.eq_zero_or_pos c with hc|hc
 ·subst hc
  exact .inl ⟨rfl,List.length_eq_zero_iff.1 (Nat.le_zero.1 hle),w.heap.size+1,rfl⟩
 ·exact .inr ⟨by omega,trivial,cells,hnew,hsz,hle,RowIn.change (cx:=cxOf E b) hin (fun _ h=>h) (fun b hb=>hbel.block b (h.frz b hb))⟩
theorem getElem?_madeCells{z:List Value}{n i:Nat}(hz:z≠[])(hi:i<n):(madeCells z.toArray n)[i]?=z[i%z.length]?:=by
 have hlt:i%z.length<z.length:=Nat.mod_lt _ (List.length_pos_iff.2 hz)
 simp[madeCells,hi,hlt]
theorem flatten_replicate{z:List Value}:∀(n i:Nat),z≠[]→i<n*z.length→((List.replicate n z).flatten)[i]?=z[i%z.length]?:=by
 intro n
 induction n with
 |zero=>intro i _ h;simp at h
 |succ n ih=>
  intro i hz h
  rw[List.replicate_succ,List.flatten_cons]
  rcases Nat.lt_or_ge i z.length with h1|h1
  ·rw[List.getElem?_append_left h1,Nat.mod_eq_of_lt h1]
  ·rw[List.getElem?_append_right h1,ih _ hz (by rw[Nat.add_mul]at h;omega)]
   rw[←Nat.mod_eq_sub_mod h1]
theorem length_flatten_replicate{α:Type}(n:Nat)(z:List α):((List.replicate n z).flatten).length=n*z.length:=by
 induction n with
 |zero=>simp
 |succ n ih=>rw[List.replicate_succ,List.flatten_cons,List.length_append,ih,Nat.add_mul];omega
theorem appFact_spec{P:Program}{t e k bytes:Nat}(h:appFact P t=some (e,k,bytes)):∃i z,P.underlying t=some (.slice e)∧P.info? e=some i∧i.zero=some z∧z.cells.size=k∧i.size=k∧0<k∧i.bytes=bytes:=by
 unfold appFact at h
 split at h
 ·rename_i e' ht
  split at h
  ·rename_i i hi
   split at h
   ·rename_i z hz
    split at h
    ·rename_i hsz
     simp only[Option.some.injEq,Prod.mk.injEq]at h
     obtain⟨rfl,rfl,rfl⟩:=h
     exact⟨i,z,ht,hi,hz,hsz.1,rfl,hsz.2,rfl⟩
    ·cases h
   ·cases h
  ·cases h
 ·cases h
theorem op_buildSlice{ty e sz bytes t n L:Nat}{ps:Array (Nat×Operand)}{xs cs:List SV}{z:List Value}{cvs:List (CV E.G.car)}{ks:List Key}{us:St E.G.car}{l:List (E.G.car t)}(hN:d<b.N)(hx:EvL E s (ps.toList.map (·.2)) xs)
  (ha:appFact E.P ty=some (e,sz,bytes)) (hz:zeroL E.P e=some z) (hf:fillS ((List.range n).map fun j=>(j*sz,sz)) ((ps.toList.map (·.1)).zip xs) ((List.replicate n (z.map SV.v)).flatten)=some cs)
  (hsz:sz=E.G.sz t) (hn:n*sz≤16777216) (hcs:SvCases s cs cvs ks us) (hl:decL t sz n cvs=some l) (hus:upBelow L us=true):
  OpRun (cxOf E b) ⟨some d,.buildSlice ty n ps,type,pos,after,guard⟩ s ⟨okeysL (ps.toList.map (·.2))++ks,(.t d,some (.x (.h L)))::(.o L,some (.row e t l))::us,newL L (Nat.succ L)⟩:=
 op_gen rfl hN (fun _ h=>by cases h) fun m A a w g hr hfree hrel=>by
  subst hsz
  obtain⟨h1,h2⟩:=parts_eq hrel hx (fun k hk=>hr k (by simp[hk]))
  obtain⟨i,zv,hu,hi,hzz,hzs,his,hpos,_⟩:=appFact_spec ha
  obtain⟨i',zv',hi',hzz',hc⟩:=zeroL_spec hz
  rw[hi]at hi';cases hi'
  rw[hzz]at hzz';cases hzz'
  have hzl:z.length=E.G.sz t:=by rw[←hzs,hc];simp
  have hzn:z≠[]:=fun e=>by subst e;simp at hzl;omega
  obtain⟨h3,h4,h5⟩:=fill_den (place:=fun i=>some (i*E.G.sz t,E.G.sz t)) (fun i p hp=>by
   rw[List.getElem?_map]at hp
   cases hr':(List.range n)[i]? with
   |none=>rw[hr']at hp;cases hp
   |some q=>
    rw[hr']at hp
    have:q=i:=by
     obtain⟨h6,h7⟩:=List.getElem?_eq_some_iff.1 hr'
     simp at h7;exact h7.symm
    subst this
    exact hp) m _ _ _ hf
  have hok:=h4 h2 (okL_iff.2 fun y hy=>by
   obtain⟨l',hl',hy'⟩:=List.mem_flatten.1 hy
   obtain⟨v,_,rfl⟩:=List.mem_map.1 ((List.eq_of_mem_replicate hl')▸hy')
   trivial)
  have hpa:ps.map (fun p=>(p.1,a.eval p.2))=(((ps.toList.map (·.1)).zip xs).map (fun p=>(p.1,den m p.2))).toArray:=by
   rw[←h1];exact Array.ext' (by rw[Array.toList_map])
  have hzero:(denL m ((List.replicate n (z.map SV.v)).flatten)).toArray=(Array.range (n*E.G.sz t)).map (fun q=>(if n*E.G.sz t=0 then #[]else zv.cells)[q%(if n*E.G.sz t=0 then #[]else zv.cells).size]!):=by
   rcases Nat.eq_zero_or_pos n with h0|h0
   ·subst h0;simp[denL]
   ·have hne:n*E.G.sz t≠0:=Nat.mul_ne_zero (by omega) (by omega)
    simp only[if_neg hne]
    have hd:denL m ((List.replicate n (z.map SV.v)).flatten)=(List.replicate n z).flatten:=by
     rw[denL_map,List.map_flatten,List.map_replicate,←denL_map,denL_vals]
    rw[hd]
    apply Array.ext_getElem?
    intro q
    rw[List.getElem?_toArray]
    rcases Nat.lt_or_ge q (n*E.G.sz t)with hq|hq
    ·rw[flatten_replicate n q hzn (by rw[hzl];exact hq)]
     have:=getElem?_madeCells (z:=z) (n:=n*E.G.sz t) hzn hq
     rw[←this,hc]
     rfl
    ·rw[List.getElem?_eq_none (by rw[length_flatten_replicate,hzl];exact hq),Array.getElem?_eq_none (by simpa using hq)]
  have hrun:(Instr.buildSlice ty n (ps.map (fun p=>(p.1,a.eval p.2)))).run E.P w= .ok (.slice (some ⟨w.heap.size,0,none⟩) n n) (w.alloc (.cells (denL m cs).toArray e)):=by
   rw[hpa]
   rw[hzero]at h3
   have hle:¬(2 ^ 24<n*E.G.sz t):=by omega
   unfold Instr.buildSlice
   by_cases hne:n*E.G.sz t=0
   ·simp[hne]at h3
    simp[run_underlying hu,sizeOf,typeInfo,hi,his,hne,h3,alloc_run]
   ·simp[hne]at h3
    simp[run_underlying hu,sizeOf,typeInfo,hi,his,hne,hle,h3,alloc_run,zeroValue,hzz]
  obtain⟨A',hA,hrel',hd⟩:=hcs.freeze hrel (fun k hk=>.inl (hr k (by simp[hk])))
  obtain⟨hll,hdec⟩:=decL_spec hl
  have hfree':Free (cxOf E b) L (upd us g):=(hfree L (by rw[newL_one];simp)).upd (by
   have:∀(u:St E.G.car),upBelow L u=true→mentionsIn L u=false:=by
    intro u
    induction u with
    |nil=>intro _;rfl
    |cons x r ih=>
     intro h
     have h6:=upBelow_ok h x (by simp)
     obtain⟨k,v⟩:=x
     simp only[upBelow,Bool.and_eq_true]at h
     simp only[mentionsIn,Bool.or_eq_false_iff]
     refine⟨?_,ih h.2⟩
     cases v with
     |none=>rfl
     |some v=>
      simp only[mentions,Bool.or_eq_false_iff]
      constructor
      ·exact valHas_lt (Nat.le_refl _) (h6.2 v rfl)
      ·cases hk:keyHas L k with
       |false=>rfl
       |true=>exact absurd (h6.1 L hk) (Nat.lt_irrefl L)
   exact this us hus)
  have hclen:(denL m cs).toArray.size=n*E.G.sz t:=by
   simp only[List.size_toArray,denL_length,h5,length_flatten_replicate,List.length_map,hzl]
  have hnew:=hrel'.newRow (L:=L) (ety:=e) (t:=t) (c:=n) (l:=l) (cells:=(denL m cs).toArray) hfree' hclen (by omega) (fun i x hx j cv hcv=>by
   obtain⟨u,h6,h7⟩:=hd.get _ cv (hdec i x hx j cv hcv)
   exact⟨u,by rw[List.getElem?_toArray];exact h6,h7⟩)
  refine⟨_,A',_,?_,trivial,hnew.congr fun k=>by rw[upd_one,upd_cons]⟩
  simp[execOp,hrun,den,setL_self,hll]
theorem op_buildSliceB{ty e sz bytes n L:Nat}{ps:Array (Nat×Operand)}{xs cs:List SV}{z:List Value}(hN:d<b.N)(hx:EvL E s (ps.toList.map (·.2)) xs)
  (ha:appFact E.P ty=some (e,sz,bytes)) (hz:zeroL E.P e=some z) (hf:fillS ((List.range n).map fun j=>(j*sz,sz)) ((ps.toList.map (·.1)).zip xs) ((List.replicate n (z.map SV.v)).flatten)=some cs)
  (h0:1≤n*sz) (hn:n*sz≤16777216) (hL:ltL L cs=true):
  OpRun (cxOf E b) ⟨some d,.buildSlice ty n ps,type,pos,after,guard⟩ s ⟨okeysL (ps.toList.map (·.2)),(.t d,some (.x (.s L 0 n n)))::(.o L,some (.sh e cs.length))::cellsUp L 0 cs,newL L (Nat.succ L)⟩:=
 op_gen rfl hN (fun _ h=>by cases h) fun m A a w g hr hfree hrel=>by
  obtain⟨h1,h2⟩:=parts_eq hrel hx (fun k hk=>hr k (by simp[hk]))
  obtain⟨i,zv,hu,hi,hzz,hzs,his,hpos,_⟩:=appFact_spec ha
  obtain⟨i',zv',hi',hzz',hc⟩:=zeroL_spec hz
  rw[hi]at hi';cases hi'
  rw[hzz]at hzz';cases hzz'
  have hzl:z.length=sz:=by rw[←hzs,hc];simp
  have hzn:z≠[]:=fun e=>by subst e;simp at hzl;omega
  obtain⟨h3,h4,h5⟩:=fill_den (place:=fun i=>some (i*sz,sz)) (fun i p hp=>by
   rw[List.getElem?_map]at hp
   cases hr':(List.range n)[i]? with
   |none=>rw[hr']at hp;cases hp
   |some q=>
    rw[hr']at hp
    have:q=i:=by
     obtain⟨h6,h7⟩:=List.getElem?_eq_some_iff.1 hr'
     simp at h7;exact h7.symm
    subst this
    exact hp) m _ _ _ hf
  have hok:=h4 h2 (okL_iff.2 fun y hy=>by
   obtain⟨l',hl',hy'⟩:=List.mem_flatten.1 hy
   obtain⟨v,_,rfl⟩:=List.mem_map.1 ((List.eq_of_mem_replicate hl')▸hy')
   trivial)
  have hpa:ps.map (fun p=>(p.1,a.eval p.2))=(((ps.toList.map (·.1)).zip xs).map (fun p=>(p.1,den m p.2))).toArray:=by
   rw[←h1];exact Array.ext' (by rw[Array.toList_map])
  have hne:n*sz≠0:=by omega
  have hzero:(denL m ((List.replicate n (z.map SV.v)).flatten)).toArray=(Array.range (n*sz)).map (fun q=>zv.cells[q%zv.cells.size]!):=by
   have hd:denL m ((List.replicate n (z.map SV.v)).flatten)=(List.replicate n z).flatten:=by
    rw[denL_map,List.map_flatten,List.map_replicate,←denL_map,denL_vals]
   rw[hd]
   apply Array.ext_getElem?
   intro q
   rw[List.getElem?_toArray]
   rcases Nat.lt_or_ge q (n*sz)with hq|hq
   ·rw[flatten_replicate n q hzn (by rw[hzl];exact hq)]
    have:=getElem?_madeCells (z:=z) (n:=n*sz) hzn hq
    rw[←this,hc]
    rfl
   ·rw[List.getElem?_eq_none (by rw[length_flatten_replicate,hzl];exact hq),Array.getElem?_eq_none (by simpa using hq)]
  have hrun:(Instr.buildSlice ty n (ps.map (fun p=>(p.1,a.eval p.2)))).run E.P w= .ok (.slice (some ⟨w.heap.size,0,none⟩) n n) (w.alloc (.cells (denL m cs).toArray e)):=by
   rw[hpa]
   rw[hzero]at h3
   have hle:¬(2 ^ 24<n*sz):=by omega
   unfold Instr.buildSlice
   simp[run_underlying hu,sizeOf,typeInfo,hi,his,hne,h3,hle,alloc_run,zeroValue,hzz]
  refine⟨setL m L (boxMV w.heap.size),A,_,?_,trivial,hrel.alloc hok (hfree L (by rw[newL_one];simp)) (hasL_lt (Nat.le_refl _) _ hL) rfl⟩
  simp[execOp,hrun,den,setL_self,boxMV]
end
end
end Go.KX

namespace Go.KX
open Go Go.RowKit
noncomputable section
def VecAt(b c ty k:Nat)(cs:List Value)(w:World):Prop:=
 (c=0∧cs=[])∨(c≠0∧∃cur:Array Value,w.heap[b]?=some (.cells cur ty (0,0))∧cur.size=c*k∧∀(i:Nat) (v:Value),cs[i]?=some v→cur[i]?=some v)
theorem append_core{P:Program}{w:World}{t ty e k bytes b c n q c2:Nat}{a:Addr}{cs vs:List Value}(hf:appFact P t=some (e,k,bytes))(hv:VecAt b c e k cs w)(hcs:cs.length=n*k)
  (hvs:vs.length=q*k) (hnews:∀j u,vs[j]?=some u→w.cell? (a.add j)=some u) (h1:∀u∈vs,u.oneCell'=true) (hq:1≤q) (hb:(n+q)*bytes≤140737488355328) (h63:n+q≤140737488355328):
  ∃b' c' w',(Builtin.append_ #[t,t] ty #[.slice (ptr0 b c) n c,.slice (some a) q c2]).run P w= .ok (.slice (some ⟨b',0,none⟩) (n+q) c') w'∧c'≠0∧VecAt b' c' e k (cs++vs) w'∧
   ((c≠0∧b'=b)∨w.heap.size≤b')∧w.heap.size≤w'.heap.size∧w'.os=w.os∧w'.tape=w.tape∧Out w w'∧∀l,l<w.heap.size→(c≠0→l≠b)→w'.heap[l]?=w.heap[l]?:=by
 unfold appFact at hf
 split at hf
 ·rename_i e' ht
  split at hf
  ·rename_i i hi
   split at hf
   ·rename_i z hz
    split at hf
    ·rename_i hsz
     obtain⟨hzs,hpos⟩:=hsz
     simp only[Option.some.injEq,Prod.mk.injEq]at hf
     obtain⟨rfl,rfl,rfl⟩:=hf
     have hlen:(cs++vs).length=(n+q)*i.size:=by rw[List.length_append,hcs,hvs,Nat.add_mul]
     have grown:∀old,old<n+q→VecAt w.heap.size (grownCap w (n+q) old e') e' i.size (cs++vs)
       (w.drew.alloc (.cells (cs.toArray++vs.toArray++Builtin.zeroCells z.cells (grownCap w (n+q) old e'-(n+q))) e')):=by
      intro old _
      have hge:=grownCap_ge w (n+q) old e'
      refine .inr ⟨by omega,cs.toArray++vs.toArray++Builtin.zeroCells z.cells (grownCap w (n+q) old e'-(n+q)),by show(w.heap.push _)[w.heap.size]?=_;simp,?_,fun j v hj=>?_⟩
      ·simp only[Array.size_append,List.size_toArray,size_zeroCells,hzs,hcs,hvs,←Nat.add_mul]
       congr 1;omega
      ·have hlt:j<(cs++vs).length:=(List.getElem?_eq_some_iff.1 hj).1
       have e1:cs.toArray++vs.toArray=(cs++vs).toArray:=by simp
       rw[e1,Array.getElem?_append_left (by simpa using hlt),List.getElem?_toArray]
       exact hj
     rcases hv with⟨rfl,rfl⟩|⟨hc,cur,hh,hcur,hpre⟩
     ·have hn:n=0:=by
       simp only[List.length_nil]at hcs
       rcases Nat.mul_eq_zero.1 hcs.symm with h|h<;>omega
      subst hn
      have hr:=run_append_nil (P:=P) w t ty e' i z ht hi hz a q c2 vs hvs hnews (by omega) (by omega) (by simp only[Nat.zero_add]at hb;omega)
      have hg:=grown 0 (by omega)
      simp only[Nat.zero_add,List.nil_append,Array.empty_append]at hg hr⊢
      have hge:=grownCap_ge w q 0 e'
      have hr2:(Builtin.append_ #[t,t] ty #[.slice (ptr0 b 0) 0 0,.slice (some a) q c2]).run P w= .ok (.slice (some ⟨w.heap.size,0,none⟩) q (grownCap w q 0 e')) (w.drew.alloc (.cells (vs.toArray++Builtin.zeroCells z.cells (grownCap w q 0 e'-q)) e')):=by
       rcases ptr0_cases b with h0|⟨b0,h0⟩
       ·rw[h0];exact hr
       ·rw[h0]
        have:=run_append_grow (P:=P) w t ty e' i z ht hi hz ⟨b0,0,none⟩ 0 0 [] (by simp) (by simp) a q c2 vs hvs hnews (by omega) (by omega) (growslice_fits (by omega) hb)
        simpa using this
      exact⟨_,_,_,hr2,by omega,hg,.inr (Nat.le_refl _),by show w.heap.size≤(w.heap.push _).size;simp,rfl,rfl,⟨rfl,Nat.le_succ _⟩,fun l hl _=>by show(w.heap.push _)[l]?=_;rw[Array.getElem?_push,if_neg (by omega)]⟩
     ·rw[ptr0_ne hc]
      have hnc:n≤c:=by
       have:cs.length≤cur.size:=by
        rcases Nat.lt_or_ge cur.size cs.length with h|h
        ·have hlast:=hpre cur.size cs[cur.size] (List.getElem?_eq_getElem h)
         simp at hlast
        ·exact h
       rw[hcs,hcur]at this
       exact Nat.le_of_mul_le_mul_right this hpos
      by_cases hroom:n+q≤c
      ·have hfit:n*i.size+vs.length≤cur.size:=by rw[hvs,hcur,←Nat.add_mul];exact Nat.mul_le_mul_right _ hroom
       have hr:=run_append_room (P:=P) w t ty e' i ht hi b n c cur hh a q c2 vs hvs hnews h1 hroom hfit
       have hblt:b<w.heap.size:=(Array.getElem?_eq_some_iff.1 hh).1
       refine⟨_,_,_,hr,hc,.inr ⟨hc,_,setRow_heap w b cur _ e' _ hh,?_,fun j v hj=>?_⟩,.inl ⟨hc,rfl⟩,by simp[World.setRow],rfl,rfl,.rfl,fun l _ hl=>setRow_other w b l _ (hl hc)⟩
       ·simp only[List.size_toArray,List.length_append,List.length_take,List.length_drop,Array.length_toList]
        omega
       ·have htake:cur.toList.take (n*i.size)=cs:=by
         apply List.ext_getElem?
         intro j
         rw[List.getElem?_take]
         by_cases hj':j<n*i.size
         ·rw[if_pos hj']
          have hjl:j<cs.length:=by omega
          have:=hpre j cs[j] (List.getElem?_eq_getElem hjl)
          rw[List.getElem?_eq_getElem hjl,←this]
          simp
         ·rw[if_neg hj',List.getElem?_eq_none (by omega)]
        rw[htake,List.getElem?_toArray,List.getElem?_append_left (List.getElem?_eq_some_iff.1 hj).1]
        exact hj
      ·have holds:∀j u,cs[j]?=some u→w.cell? ((⟨b,0,none⟩:Addr).add j)=some u:=by
        intro j u hj
        rw[addr_add]
        simp only[World.cell?,hh,Nat.zero_add]
        simpa using hpre j u hj
       have hr:=run_append_grow (P:=P) w t ty e' i z ht hi hz ⟨b,0,none⟩ n c cs hcs holds a q c2 vs hvs hnews (by omega) (by omega) (growslice_fits (by omega) hb)
       have hg:=grown c (by omega)
       have hge:=grownCap_ge w (n+q) c e'
       exact⟨_,_,_,hr,by omega,hg,.inr (Nat.le_refl _),by show w.heap.size≤(w.heap.push _).size;simp,rfl,rfl,⟨rfl,Nat.le_succ _⟩,fun l hl _=>by show(w.heap.push _)[l]?=_;rw[Array.getElem?_push,if_neg (by omega)]⟩
    ·cases hf
   ·cases hf
  ·cases hf
 ·cases hf
theorem append_none{P:Program}{w:World}{t ty e k bytes n c c2:Nat}{p p2:Option Addr}(hf:appFact P t=some (e,k,bytes))(hn:n≤c):
  (Builtin.append_ #[t,t] ty #[.slice p n c,.slice p2 0 c2]).run P w= .ok (.slice p n c) w:=by
 obtain⟨i,z,hu,hi,hz,_,his,_,_⟩:=appFact_spec hf
 have h1:(Builtin.firstCells k 0 (.slice p2 0 c2)).run P w= .ok #[] w:=by
  cases p2 with
  |none=>exact run_firstCells_none w k 0 0 c2
  |some a=>exact run_firstCells_some w k 0 a 0 c2 [] (by simp) (fun j v h=>by simp at h)
 have hsc:∀(a:Addr),(storeCells a ([]:List Value) 0).run P w= .ok () w:=fun a=>by simp[storeCells]
 unfold Builtin.append_
 cases p with
 |none=>simp[run_underlying hu,sizeOf,typeInfo,hi,his,Builtin.lenOf,h1,hn]
 |some a=>simp[run_underlying hu,sizeOf,typeInfo,hi,his,Builtin.lenOf,h1,hn,hsc]
theorem flat_get{α β:Type}{enc:α→List β}{k:Nat}(hk:∀x,(enc x).length=k):∀{l:List α} {i j:Nat} {x:α} {v:β},l[i]?=some x→(enc x)[j]?=some v→(l.flatMap enc)[i*k+j]?=some v:=by
 intro l
 induction l with
 |nil=>intro i j x v h;simp at h
 |cons y l ih=>
  intro i j x v h hv
  cases i with
  |zero=>
   simp at h;subst h
   rw[List.flatMap_cons,Nat.zero_mul,Nat.zero_add,List.getElem?_append_left (List.getElem?_eq_some_iff.1 hv).1]
   exact hv
  |succ i=>
   have:=ih (by simpa using h) hv
   rw[List.flatMap_cons,List.getElem?_append_right (by rw[hk,Nat.add_mul];omega),hk,Nat.add_mul,Nat.one_mul,show i*k+k+j-k=i*k+j by omega]
   exact this
theorem flat_inv{α β:Type}{enc:α→List β}{k:Nat}(hk:∀x,(enc x).length=k):∀{l:List α} {q:Nat} {v:β},(l.flatMap enc)[q]?=some v→∃i j x,q=i*k+j∧l[i]?=some x∧(enc x)[j]?=some v:=by
 intro l
 induction l with
 |nil=>intro q v h;simp at h
 |cons y l ih=>
  intro q v h
  rw[List.flatMap_cons]at h
  rcases Nat.lt_or_ge q (enc y).length with h1|h1
  ·rw[List.getElem?_append_left h1]at h
   exact⟨0,q,y,by simp,rfl,h⟩
  ·rw[List.getElem?_append_right h1]at h
   obtain⟨i,j,x,h2,h3,h4⟩:=ih h
   rw[hk]at h1 h2
   exact⟨i+1,j,x,by rw[Nat.add_mul,Nat.one_mul];omega,by simpa using h3,h4⟩
theorem flat_length{α β:Type}{enc:α→List β}{k:Nat}(hk:∀x,(enc x).length=k):∀(l:List α),(l.flatMap enc).length=l.length*k:=by
 intro l
 induction l with
 |nil=>simp
 |cons x l ih=>rw[List.flatMap_cons,List.length_append,ih,hk,List.length_cons,Nat.add_mul];omega
theorem oneC_eq{v:Value}(h:oneC v=true):v.oneCell'=true:=by cases v<;>simp_all [oneC,Value.oneCell']
section
variable{E:Env}{b:Base}{o:Oper}{s:Map E.G.car}
variable{d:Nat}{type:TypeId}{pos:String}{after:Array Edge}{guard:Option (Nat×Bool)}
variable{m:Nat→MV}{A:Nat→Prop}{g:Map E.G.car}{a:Act}{w:World}
inductive OldRow(g:Map E.G.car)(e t:Nat):SV→List (E.G.car t)→St E.G.car→Prop
 |nil:OldRow g e t (.v (.slice none 0 0)) [] []
 |row {L:Nat} {l:List (E.G.car t)} (h:g (.o L)=some (.row e t l)):OldRow g e t (.h L) l [(.o L,none)]
def AppOK(bytes n:Nat):Prop:=(bytes≤1∧n≤140737488355328)∨n≤20000000000
theorem AppOK.mul{bytes n:Nat}(h:AppOK bytes n)(hb:bytes≤5000):n*bytes≤140737488355328∧n≤140737488355328:=by
 rcases h with⟨h1,h2⟩|h
 ·have:n*bytes≤140737488355328*1:=Nat.mul_le_mul h2 h1
  omega
 ·have:n*bytes≤20000000000*5000:=Nat.mul_le_mul h hb
  omega
theorem appK_sound{α:Type}{ante:Option Bool}{bytes n:Nat}{x:Option α}{r:α}(h:appK ante bytes n x=some r):x=some r∧(AnteOK ante→AppOK bytes n):=by
 unfold appK at h
 cases hb:Nat.ble bytes 1 with
 |true=>
  rw[hb,cond_true]at h
  obtain⟨h1,h2⟩:=chkA_sound h
  exact⟨h1,fun ha=>.inl ⟨Nat.le_of_ble_eq_true hb,h2 ha⟩⟩
 |false=>
  rw[hb,cond_false]at h
  obtain⟨h1,h2⟩:=chkA_sound h
  exact⟨h1,fun ha=>.inr (h2 ha)⟩
theorem Rel.append{e t bytes ty tt L':Nat}{v:SV}{l l2:List (E.G.car t)}{dr:St E.G.car}{n2 c2:Nat}{p2:Option Addr}(h:Rel (cxOf E b) m A g a w)(hf:appFact E.P tt=some (e,E.G.sz t,bytes))(hby:bytes≤5000)(hold:OldRow g e t v l dr)
  (hn2:n2=l2.length) (hel:l2≠[]→∃bb oo,p2=some ⟨bb,oo,none⟩∧∀(i:Nat) (x:E.G.car t),l2[i]?=some x→∀(j:Nat) (cv:CV E.G.car),(E.G.enc t x)[j]?=some cv→∃u,w.cell? ⟨bb,oo+i*E.G.sz t+j,none⟩=some u∧Hd E.G A w cv u)
  (hfr:Free (cxOf E b) L' g) (hlen:AppOK bytes (l.length+l2.length)):
  ∃w' mv,(Builtin.append_ #[tt,tt] ty #[den m v,.slice p2 n2 c2]).run E.P w= .ok (.slice mv.p mv.n mv.c) w'∧Rel (cxOf E b) (setL m L' mv) A (upd ((.o L',some (.row e t (l++l2)))::dr) g) a w':=by
 have hpos:0<E.G.sz t:=by obtain⟨_,_,_,_,_,_,_,h7,_⟩:=appFact_spec hf;exact h7
 have hdr:∃g1:Map E.G.car,g1=upd dr g∧Rel (cxOf E b) m A g1 a w∧Free (cxOf E b) L' g1:=by
  refine⟨_,rfl,?_,?_⟩
  ·cases hold with
   |nil=>exact h
   | @row L l hL=>
    refine h.weaken (fun k=>?_) (fun L2 o2 hc=>?_)
    ·rw[upd_one]
     by_cases ek:Key.o L=k
     ·rw[if_pos ek];exact .inl rfl
     ·rw[if_neg ek];exact .inr rfl
    ·rw[upd_one,if_neg (by simp)]at hc
     rw[upd_one]
     by_cases ek:Key.o L= .o L2
     ·cases ek
      cases hv:g (.c L o2)with
      |none=>exact absurd hv hc
      |some v=>
       obtain⟨ty',n',h1⟩:=h.cell L o2 v hv
       rw[hL]at h1;cases h1
     ·rw[if_neg ek]
  ·cases hold with
   |nil=>exact hfr
   |row hL=>exact hfr.upd (by simp[mentionsIn,mentions])
 obtain⟨g1,hg1,hrel1,hfr1⟩:=hdr
 have hcong:∀(mm:Nat→MV) (w':World),Rel (cxOf E b) mm A (upd [(.o L',some (.row e t (l++l2)))] g1) a w'→Rel (cxOf E b) mm A (upd ((.o L',some (.row e t (l++l2)))::dr) g) a w':=fun mm w' hr=>hr.congr fun k=>by
  rw[upd_one,upd_cons,hg1]
 have hlies:∃b0 c cs,den m v= .slice (ptr0 b0 c) l.length c∧VecAt b0 c e (E.G.sz t) cs w∧cs.length=l.length*E.G.sz t∧l.length≤c∧(∀(i:Nat) (x:E.G.car t),l[i]?=some x→∀(j:Nat) (cv:CV E.G.car),(E.G.enc t x)[j]?=some cv→∃u,cs[i*E.G.sz t+j]?=some u∧Hd E.G A w cv u)∧
   (c≠0→(cxOf E b).mine b0∧¬A b0∧(∀l',¬Owns m l' (g1 (.o l')) b0)∧∃cur,w.heap[b0]?=some (.cells cur e (0,0))):=by
  cases hold with
  |nil=>exact⟨0,0,[],rfl,.inl ⟨rfl,rfl⟩,by simp,Nat.le_refl _,fun i x hx=>by simp at hx,fun h=>absurd rfl h⟩
  | @row L l hL=>
   obtain⟨hn,h2⟩:=h.ent _ _ hL
   rcases h2 with⟨hc,hl,b',hp⟩|⟨hc,hp,cur,hh,hsz,hle,hin⟩
   ·subst hl
    refine⟨b',0,[],?_,.inl ⟨rfl,rfl⟩,by simp,Nat.le_refl _,fun i x hx=>by simp at hx,fun h=>absurd rfl h⟩
    simp only[den,hc,hp,hn,List.length_nil]
   ·have hfit:l.length*E.G.sz t≤cur.size:=by rw[hsz];exact Nat.mul_le_mul_right _ hle
    refine⟨(m L).b,(m L).c,cur.toList.take (l.length*E.G.sz t),?_,.inr ⟨hc,cur,hh,hsz,fun i v hv=>?_⟩,?_,hle,fun i x hx j cv hcv=>?_,fun _=>?_⟩
    ·simp only[den,ptr0_ne hc,hp,hn]
    ·rw[List.getElem?_take]at hv
     split at hv
     ·simpa using hv
     ·cases hv
    ·have hcl:cur.toList.length=cur.size:=by simp
     rw[List.length_take,hcl];exact Nat.min_eq_left hfit
    ·obtain⟨u,h3,h4⟩:=hin i x hx j cv hcv
     refine⟨u,?_,h4⟩
     have hi:i<l.length:=(List.getElem?_eq_some_iff.1 hx).1
     have hj:j<E.G.sz t:=by rw[←E.G.hsz t x];exact(List.getElem?_eq_some_iff.1 hcv).1
     have:(i+1)*E.G.sz t≤l.length*E.G.sz t:=Nat.mul_le_mul_right _ hi
     rw[Nat.add_mul,Nat.one_mul]at this
     rw[List.getElem?_take,if_pos (show i*E.G.sz t+j<_ by have:=this;omega)]
     simpa using h3
    ·have hL':Owns m L (g (.o L)) (m L).b:=by rw[hL];exact⟨hc,rfl⟩
     obtain⟨h3,h4⟩:=h.own L _ hL'
     refine⟨h3,h4,fun l' ho=>?_,cur,hh⟩
     rw[hg1,upd_one]at ho
     by_cases ek:Key.o L= .o l'
     ·rw[if_pos ek]at ho;exact ho.elim
     ·rw[if_neg ek]at ho
      exact ek (by rw[h.inj l' L _ ho hL'])
 obtain⟨b0,c,cs,hden,hvec,hcsl,hle,hin,hown⟩:=hlies
 subst hn2
 by_cases hl2:l2=[]
 ·
  subst hl2
  rw[hden]
  refine⟨w,{ b:=b0,p:=ptr0 b0 c,n:=l.length,c:=c },append_none hf hle,hcong _ _ ?_⟩
  refine hrel1.addRow hfr1 ⟨by rw[setL_self];simp,?_⟩ (fun hc=>⟨(hown hc).1,(hown hc).2.1,(hown hc).2.2.1⟩)
  simp only[setL_self,List.append_nil]
  rcases hvec with⟨hc,hcs⟩|⟨hc,cur,hh,hsz,hpre⟩
  ·subst hc
   exact .inl ⟨rfl,List.length_eq_zero_iff.1 (Nat.le_zero.1 hle),b0,rfl⟩
  ·refine .inr ⟨hc,ptr0_ne hc,cur,hh,hsz,hle,fun i x hx j cv hcv=>?_⟩
   obtain⟨u,h3,h4⟩:=hin i x hx j cv hcv
   exact⟨u,hpre _ _ h3,h4⟩
 ·obtain⟨bb,oo,rfl,hel2⟩:=hel hl2
  have hhd:∀(q:Nat) (cv:CV E.G.car),(l2.flatMap (E.G.enc t))[q]?=some cv→∃u,w.cell? ⟨bb,oo+q,none⟩=some u∧Hd E.G A w cv u:=fun q cv hq=>by
   obtain⟨i,j,x,rfl,h3,h4⟩:=flat_inv (E.G.hsz t) hq
   obtain⟨u,h5,h6⟩:=hel2 i x h3 j cv h4
   exact⟨u,by rw[show oo+(i*E.G.sz t+j)=oo+i*E.G.sz t+j by omega];exact h5,h6⟩
  obtain⟨vs,hvs,hvc⟩:=HdL.of (fun q u=>w.cell? ⟨bb,oo+q,none⟩=some u) hhd
  have hvl:vs.length=l2.length*E.G.sz t:=by rw[hvs.length,flat_length (E.G.hsz t)]
  have hone:∀u∈vs,u.oneCell'=true:=fun u hu=>oneC_eq (hvs.one (by
   rw[List.all_eq_true]
   intro cv hcv
   obtain⟨x,_,hx⟩:=List.mem_flatMap.1 hcv
   exact List.all_eq_true.1 (E.G.one t x) cv hx) u hu)
  have hq:1≤l2.length:=List.length_pos_iff.2 hl2
  have hmul:=hlen.mul hby
  obtain⟨b',c',w',hrun,hc',hvec',hb',hsz',hos,htape,hout,hk⟩:=append_core (ty:=ty) (c2:=c2) hf hvec hcsl hvl (fun j u hj=>by rw[addr_add];exact hvc j u hj) hone hq hmul.1 hmul.2
  rw[←hden]at hrun
  have hcells:c≠0→∀ob:Obj,w.heap[b0]?=some ob→ob.isDat=true:=fun hc ob hob=>by
   obtain⟨_,_,_,cur,hh⟩:=hown hc
   rw[hh]at hob;cases hob;rfl
  have hrel2:Rel (cxOf E b) m A g1 a w':=by
   by_cases hc:c=0
   ·exact hrel1.world ⟨hos,htape,hout,hsz',fun k hk'=>hk k hk' (fun h=>absurd hc h)⟩
   ·exact hrel1.wild (hown hc).2.2.1 (hown hc).2.1 (hown hc).1 (hcells hc) hos htape hout hsz' (fun k h3 h4=>hk k h3 (fun _=>h4))
  have hAw:∀q,A q→w'.heap[q]?=w.heap[q]?:=fun q hq=>hk q (h.frz q hq) (fun hc e=>(hown hc).2.1 (e▸hq))
  rcases hvec' with⟨h3,_⟩|⟨_,cur',hh',hsz2,hpre'⟩
  ·exact absurd h3 hc'
  refine⟨w',{ b:=b',p:=some ⟨b',0,none⟩,n:=l.length+l2.length,c:=c' },hrun,hcong _ _ ?_⟩
  have hfit:(l.length+l2.length)*E.G.sz t≤c'*E.G.sz t:=by
   rcases Nat.eq_zero_or_pos ((l.length+l2.length)*E.G.sz t)with h3|h3
   ·omega
   ·have hlast:(cs++vs).length=(l.length+l2.length)*E.G.sz t:=by rw[List.length_append,hcsl,hvl,Nat.add_mul]
    have hidx:(l.length+l2.length)*E.G.sz t-1<(cs++vs).length:=by omega
    have:=hpre' _ _ (List.getElem?_eq_getElem hidx)
    have h9:=(Array.getElem?_eq_some_iff.1 this).1
    rw[hsz2]at h9
    omega
  refine hrel2.addRow hfr1 ⟨by rw[setL_self];simp,?_⟩ (fun _=>?_)
  ·simp only[setL_self]
   refine .inr ⟨hc',trivial,cur',hh',hsz2,?_,fun i x hx j cv hcv=>?_⟩
   ·rw[List.length_append];exact Nat.le_of_mul_le_mul_right hfit hpos
   ·have hj:j<E.G.sz t:=by rw[←E.G.hsz t x];exact(List.getElem?_eq_some_iff.1 hcv).1
    rcases Nat.lt_or_ge i l.length with hi|hi
    ·rw[List.getElem?_append_left hi]at hx
     obtain⟨u,h3,h4⟩:=hin i x hx j cv hcv
     refine⟨u,hpre' _ _ ?_,h4.mono (fun _ h=>h) hAw⟩
     rw[List.getElem?_append_left (List.getElem?_eq_some_iff.1 h3).1];exact h3
    ·rw[List.getElem?_append_right hi]at hx
     obtain⟨u,h3,h4⟩:=hvs.get _ cv (flat_get (E.G.hsz t) hx hcv)
     refine⟨u,hpre' _ _ ?_,h4.mono (fun _ h=>h) hAw⟩
     have hge:l.length*E.G.sz t≤i*E.G.sz t:=Nat.mul_le_mul_right _ hi
     have he:i*E.G.sz t=(i-l.length)*E.G.sz t+l.length*E.G.sz t:=by rw[←Nat.add_mul];congr 1;omega
     rw[List.getElem?_append_right (by rw[hcsl];omega),hcsl,he,show(i-l.length)*E.G.sz t+l.length*E.G.sz t+j-l.length*E.G.sz t=(i-l.length)*E.G.sz t+j by omega]
     exact h3
  ·rcases hb' with⟨hc,rfl⟩|hb'
   ·exact⟨(hown hc).1,(hown hc).2.1,(hown hc).2.2.1⟩
   ·exact⟨.inl (Nat.le_trans h.top hb'),fun hA=>Nat.lt_irrefl _ (Nat.lt_of_lt_of_le (h.frz _ hA) hb'),fun l' ho=>Nat.lt_irrefl _ (Nat.lt_of_lt_of_le (hrel1.blt ho) hb')⟩
theorem ListIs.lies{M:Map E.G.car}{L t:Nat}{k:Key}{l:List (E.G.car t)}(h:ListIs M L k t l)(hrel:Rel (cxOf E b) m A g a w)(hk:g k=M k):
  l≠[]→∃bb oo,(m L).p=some ⟨bb,oo,none⟩∧∀(i:Nat) (x:E.G.car t),l[i]?=some x→∀(j:Nat) (cv:CV E.G.car),(E.G.enc t x)[j]?=some cv→∃u,w.cell? ⟨bb,oo+i*E.G.sz t+j,none⟩=some u∧Hd E.G A w cv u:=by
 intro hl
 obtain⟨bb,oo,hp⟩:=h.ptr hrel hk hl
 refine⟨bb,oo,hp,fun i x hx=>?_⟩
 obtain⟨bb',oo',hp',h2⟩:=h.elem hrel hk hx
 rw[hp]at hp'
 cases hp'
 exact h2
theorem op_append{tt e t bytes L2 L':Nat}{x y:Operand}{v v2:SV}{l l2:List (E.G.car t)}{dr:St E.G.car}{key:Key}{rd:List Key}(hN:d<b.N)(hf:appFact E.P tt=some (e,E.G.sz t,bytes))(hby:bytes≤5000)(hx:Ev E s x v)(hy:Ev E s y v2)(hv2:∀m,den m v2= .slice (m L2).p (m L2).n (m L2).c)
  (hold:OldRow s e t v l dr) (hrd:∀L,v= .h L→.o L∈rd) (hl2:ListIs s L2 key t l2) (hlen:AppOK bytes (l.length+l2.length)):
  OpRun (cxOf E b) ⟨some d,.call ⟨.builtin .append, #[x,y], #[tt,tt]⟩,type,pos,after,guard⟩ s ⟨rd++(key::okeysL [x,y]),(.t d,some (.x (.h L')))::(.o L',some (.row e t (l++l2)))::dr,newL L' (Nat.succ L')⟩:=
 op_gen rfl hN (fun _ h=>by cases h) fun m A a w g hr hfree hrel=>by
  have h1:=(hx.eval hrel (fun k hk=>hr k (by simp[okeysL,hk]))).1
  have h2:=(hy.eval hrel (fun k hk=>hr k (by simp[okeysL,hk]))).1
  have hold':OldRow g e t v l dr:=by
   cases hold with
   |nil=>exact .nil
   | @row L l h=>exact .row ((hr _ (by simp[hrd L rfl])).trans h)
  have hkey:g key=s key:=hr key (by simp)
  obtain⟨w',mv,h3,h4⟩:=hrel.append (ty:=type) (p2:=(m L2).p) (n2:=(m L2).n) (c2:=(m L2).c) hf hby hold' (hl2.len hrel hkey) (hl2.lies hrel hkey) (hfree L' (by rw[newL_one];simp)) hlen
  refine⟨_,A,w',?_,trivial,h4⟩
  rw[hv2]at h2
  simp[execOp,resolve,invoke,builtin,h1,h2,h3,den,setL_self]
theorem op_makeSlice{ty e t bytes L:Nat}{x y:Operand}{v u:SV}{k k':IntKind}{n c:Int}{z:List Value}{cvs:List (CV E.G.car)}{ks:List Key}{us:St E.G.car}{x0:E.G.car t}(hN:d<b.N)(hx:Ev E s x v)(hy:Ev E s y u)(hv:∀m,den m v= .int k n)(hu:∀m,den m u= .int k' c)
  (ha:appFact E.P ty=some (e,E.G.sz t,bytes)) (hby:bytes≤1000000) (hz:zeroL E.P e=some z) (hcs:SvCases s (z.map SV.v) cvs ks us) (hdec:E.G.dec t cvs=some x0) (hn:0≤n∧n≤c∧c≤100000):
  OpRun (cxOf E b) ⟨some d,.makeSlice ty x y,type,pos,after,guard⟩ s ⟨okeys x++okeys y,(.t d,some (.x (.h L)))::[(.o L,some (.row e t (List.replicate n.toNat x0)))],newL L (Nat.succ L)⟩:=
 op_gen rfl hN (fun _ h=>by cases h) fun m A a w g hr hfree hrel=>by
  have h1:=(hx.eval hrel (fun k hk=>hr k (by simp[hk]))).1
  have h2:=(hy.eval hrel (fun k hk=>hr k (by simp[hk]))).1
  rw[hv]at h1
  rw[hu]at h2
  obtain⟨i,zv,hun,hi,hzz,hzs,his,hpos,hbe⟩:=appFact_spec ha
  obtain⟨i',zv',hi',hzz',hc⟩:=zeroL_spec hz
  rw[hi]at hi';cases hi'
  rw[hzz]at hzz';cases hzz'
  have hzl:z.length=E.G.sz t:=by rw[←hzs,hc];simp
  have hzn:z≠[]:=fun e=>by subst e;simp at hzl;omega
  have hbc:(i.bytes:Int)*c≤1000000*100000:=Int.mul_le_mul (by omega) hn.2.2 (by omega) (by omega)
  have hrun:=run_make (P:=E.P) w ty e i zv hun hi hzz k k' n c hn.1 hn.2.1 (by omega) (by omega)
  rw[his]at hrun
  have hks:ks=[]:=by
   have:∀(vs:List Value) (cvs:List (CV E.G.car)) (ks:List Key) (us:St E.G.car),SvCases s (vs.map SV.v) cvs ks us→ks=[]:=by
    intro vs
    induction vs with
    |nil=>intro cvs ks us h;cases h;rfl
    |cons v vs ih=>
     intro cvs ks us h
     cases h with
     |cons h hs=>
      rw[ih _ _ _ hs]
      cases h<;>rfl
   exact this z cvs ks us hcs
  subst hks
  have hd:HdL E.G A w cvs (denL m (z.map SV.v)):=hcs.read hrel (fun k hk=>by cases hk) (fun _ h=>h) (fun L b hL=>by cases hL)
  rw[denL_vals]at hd
  have hnew:=hrel.newRow (L:=L) (ety:=e) (t:=t) (c:=c.toNat) (l:=List.replicate n.toNat x0) (cells:=madeCells zv.cells (c.toNat*E.G.sz t)) (hfree L (by rw[newL_one];simp)) (by rw[size_madeCells]) (by rw[List.length_replicate];omega) (fun q y hy j cv hcv=>by
   have hq:q<n.toNat:=by have:=(List.getElem?_eq_some_iff.1 hy).1;simpa using this
   have hy':y=x0:=List.eq_of_mem_replicate (List.mem_of_getElem? hy)
   subst hy'
   have hj:j<E.G.sz t:=by rw[←E.G.hsz t y];exact(List.getElem?_eq_some_iff.1 hcv).1
   rw[E.G.hdec _ _ _ hdec]at hcv
   obtain⟨u,h3,h4⟩:=hd.get j cv hcv
   refine⟨u,?_,h4⟩
   have hlt:q*E.G.sz t+j<c.toNat*E.G.sz t:=by
    have:(q+1)*E.G.sz t≤c.toNat*E.G.sz t:=Nat.mul_le_mul_right _ (by omega)
    rw[Nat.add_mul,Nat.one_mul]at this
    omega
   rw[hc,getElem?_madeCells hzn hlt,hzl,Nat.mul_comm,Nat.mul_add_mod,Nat.mod_eq_of_lt hj]
   exact h3)
  refine⟨_,A,_,?_,trivial,hnew⟩
  simp[execOp,h1,h2,hrun,den,setL_self]
end
end
end Go.KX

namespace Go.KX
open Go Go.RowKit
noncomputable section
theorem find_map{P:TypeDesc}(hP:P= .int .i64){n:Int}:∀(es:List MapEntry) (l:List Int) (i0:Nat),es.map (fun e=>(e.key,e.val))=l.map (fun n=>(Value.int .i64 n,Value.bool true))→
  (hasI l n=true∧∃i e,Instr.findNow P (.int .i64 n) es i0=some (some (i0+i,.bool true))∧es[i]?=some e∧e.key= .int .i64 n∧e.val= .bool true)∨
  (hasI l n=false∧Instr.findNow P (.int .i64 n) es i0=some none):=by
 subst hP
 intro es
 induction es with
 |nil=>
  intro l i0 h
  cases l with
  |nil=>exact .inr ⟨rfl,rfl⟩
  |cons _ _=>simp at h
 |cons e es ih=>
  intro l i0 h
  cases l with
  |nil=>simp at h
  |cons x l=>
   simp only[List.map_cons,List.cons.injEq,Prod.mk.injEq]at h
   obtain⟨⟨h1,h2⟩,h3⟩:=h
   by_cases hx:n=x
   ·subst hx
    refine .inl ⟨by simp[hasI],0,e,?_,rfl,h1,h2⟩
    simp[Instr.findNow,h1,Instr.sameNow,h2]
   ·have hs:Instr.sameNow (.int .i64) (.int .i64 n) e.key=some false:=by rw[h1];simp[Instr.sameNow,hx]
    have hh:hasI (x::l) n=hasI l n:=by
     have:(x==n)=false:=by simp;omega
     simp[hasI,this]
    rw[hh]
    rcases ih l (i0+1) h3 with⟨h4,i,e',h5,h6,h7,h8⟩|⟨h4,h5⟩
    ·refine .inl ⟨h4,i+1,e',?_,by simpa using h6,h7,h8⟩
     simp only[Instr.findNow,hs,h5]
     rw[show i0+1+i=i0+(i+1) by omega]
    ·exact .inr ⟨h4,by simp only[Instr.findNow,hs,h5]⟩
theorem mapIB_spec{P:Program}{ty:TypeId}(h:mapIB P ty=true):∃k e,P.underlying ty=some (.map k e)∧P.underlying k=some (.int .i64)∧(P.info? e).bind (·.zero)=some (.bool false):=by
 unfold mapIB at h
 split at h
 ·rename_i k e hu
  split at h
  ·rename_i h1 h2;exact⟨k,e,hu,h1,h2⟩
  ·cases h
 ·cases h
theorem run_zeroB{P:Program}{e:TypeId}{w:World}(h:(P.info? e).bind (·.zero)=some (.bool false)):(zeroValue e).run P w= .ok (.bool false) w:=by
 cases hi:P.info? e with
 |none=>rw[hi]at h;cases h
 |some inf=>
  rw[hi]at h
  simp only[Option.bind_some]at h
  simp[zeroValue,typeInfo,hi,h]
theorem run_lookup{P:Program}{ty:TypeId}{w:World}{b cl:Nat}{es:Array MapEntry}{l:List Int}{n:Int}(h:mapIB P ty=true)(hb:w.heap[b]?=some (.map es cl))(hm:MapIs es l):
  (Instr.lookup ty (.map (some b)) (.int .i64 n) false).run P w= .ok (.bool (hasI l n)) w:=by
 obtain⟨k,e,h1,h2,h3⟩:=mapIB_spec h
 have hc:∀em,(Instr.checkKey em 10000 k (.int .i64 n)).run P w= .ok () w:=fun em=>MapKept.run_checkKey (d:= .int .i64) h2 (by simp[MapKept.IsKey]) em 9999
 rcases find_map (n:=n) rfl es.toList l 0 hm with⟨h4,i,e',h5,h6,h7,h8⟩|⟨h4,h5⟩
 ·simp[Instr.lookup,run_underlying h1,MapKept.run_getObj_map hb,hc,MapKept.run_findKey h2 h5,h4,Result.andThen]
 ·simp[Instr.lookup,run_underlying h1,MapKept.run_getObj_map hb,hc,MapKept.run_findKey h2 h5,h4,Result.andThen,run_zeroB h3]
theorem run_mapUpdate{P:Program}{ty:TypeId}{w:World}{b cl:Nat}{es:Array MapEntry}{l:List Int}{n:Int}(h:mapIB P ty=true)(hb:w.heap[b]?=some (.map es cl))(hm:MapIs es l):
  ∃(es':Array MapEntry) (cl':Nat),(Instr.mapUpdate ty (.map (some b)) (.int .i64 n) (.bool true)).run P w= .ok () { w with heap:=w.heap.setIfInBounds b (.map es' cl') }∧MapIs es' (insI l n):=by
 obtain⟨k,e,h1,h2,h3⟩:=mapIB_spec h
 have hc:∀em,(Instr.checkKey em 10000 k (.int .i64 n)).run P w= .ok () w:=fun em=>MapKept.run_checkKey (d:= .int .i64) h2 (by simp[MapKept.IsKey]) em 9999
 rcases find_map (n:=n) rfl es.toList l 0 hm with⟨h4,i,e',h5,h6,h7,h8⟩|⟨h4,h5⟩
 ·rw[Nat.zero_add]at h5
  have hes:es[i]?=some e':=by simpa using h6
  refine⟨es.modify i fun e=>{ e with key:= .int .i64 n,val:= .bool true },cl,?_,?_⟩
  ·have hk:((es[i]?).map (·.key)).getD (Value.int .i64 n)= .int .i64 n:=by rw[hes];exact h7
   have hs:Instr.sameBits 10000 (.int .i64 n) (.int .i64 n)=true:=by simp[Instr.sameBits]
   have hstay:(Instr.keyThatStays (((es[i]?).map (·.key)).getD (Value.int .i64 n)) (.int .i64 n)).run P w= .ok (.int .i64 n) w:=by
    rw[hk];simp[Instr.keyThatStays,hs]
   simp only[Instr.mapUpdate,run_underlying h1,MapKept.run_getObj_map hb,hc,MapKept.run_findKey h2 h5,Result.andThen,Sem.run_bind,hstay,MapKept.run_setObj_map _ hb]
  ·have:insI l n=l:=by simp[insI,h4]
   rw[this]
   unfold MapIs at hm⊢
   rw[←hm]
   apply List.ext_getElem?
   intro j
   simp only[List.getElem?_map,Array.getElem?_toList,Array.getElem?_modify]
   by_cases e:i=j
   ·subst e
    simp[hes,h7,h8]
   ·simp[e]
 ·refine⟨es.push { key:= .int .i64 n,val:= .bool true,born:=cl },cl+1,?_,?_⟩
  ·simp[Instr.mapUpdate,run_underlying h1,MapKept.run_getObj_map hb,hc,MapKept.run_findKey h2 h5,Result.andThen,MapKept.run_setObj_map _ hb]
  ·have:insI l n=l++[n]:=by simp[insI,h4]
   rw[this]
   unfold MapIs at hm⊢
   simp[hm]
theorem find_map2{P:TypeDesc}(hP:P= .int .i64){n:Int}:∀(es:List MapEntry) (l:List (Int×Int)) (i0:Nat),es.map (fun e=>(e.key,e.val))=l.map (fun p=>(Value.int .i64 p.1,Value.int .i64 p.2))→
  (∃i e,Instr.findNow P (.int .i64 n) es i0=some (some (i0+i,.int .i64 (getM l n)))∧es[i]?=some e∧e.key= .int .i64 n∧∀v,setM l n v=l.set i (n,v))∨
  (getM l n=0∧(∀v,setM l n v=l++[(n,v)])∧Instr.findNow P (.int .i64 n) es i0=some none):=by
 subst hP
 intro es
 induction es with
 |nil=>
  intro l i0 h
  cases l with
  |nil=>exact .inr ⟨rfl,fun _=>rfl,rfl⟩
  |cons _ _=>simp at h
 |cons e es ih=>
  intro l i0 h
  cases l with
  |nil=>simp at h
  |cons x l=>
   simp only[List.map_cons,List.cons.injEq,Prod.mk.injEq]at h
   obtain⟨⟨h1,h2⟩,h3⟩:=h
   by_cases hx:x.1=n
   ·refine .inl ⟨0,e,?_,rfl,by rw[h1,hx],fun v=>by simp[setM,hx]⟩
    simp[Instr.findNow,h1,Instr.sameNow,h2,getM,hx]
   ·have hs:Instr.sameNow (.int .i64) (.int .i64 n) e.key=some false:=by rw[h1];simp[Instr.sameNow,Ne.symm hx]
    rcases ih l (i0+1) h3 with⟨i,e',h5,h6,h7,h8⟩|⟨h4,h5,h6⟩
    ·refine .inl ⟨i+1,e',?_,by simpa using h6,h7,fun v=>by simp only[setM,if_neg hx,h8,List.set_cons_succ]⟩
     simp only[Instr.findNow,hs,h5,getM,if_neg hx]
     rw[show i0+1+i=i0+(i+1) by omega]
    ·refine .inr ⟨by simp only[getM,if_neg hx,h4],fun v=>by simp only[setM,if_neg hx,h5,List.cons_append],by simp only[Instr.findNow,hs,h6]⟩
theorem mapII_spec{P:Program}{ty:TypeId}(h:mapII P ty=true):∃k e,P.underlying ty=some (.map k e)∧P.underlying k=some (.int .i64)∧(P.info? e).bind (·.zero)=some (.int .i64 0):=by
 unfold mapII at h
 split at h
 ·rename_i k e hu
  split at h
  ·rename_i h1 h2;exact⟨k,e,hu,h1,h2⟩
  ·cases h
 ·cases h
theorem run_zeroI{P:Program}{e:TypeId}{w:World}(h:(P.info? e).bind (·.zero)=some (.int .i64 0)):(zeroValue e).run P w= .ok (.int .i64 0) w:=by
 cases hi:P.info? e with
 |none=>rw[hi]at h;cases h
 |some inf=>
  rw[hi]at h
  simp only[Option.bind_some]at h
  simp[zeroValue,typeInfo,hi,h]
theorem run_lookup2{P:Program}{ty:TypeId}{w:World}{b cl:Nat}{es:Array MapEntry}{l:List (Int×Int)}{n:Int}(h:mapII P ty=true)(hb:w.heap[b]?=some (.map es cl))(hm:MapIs2 es l):
  (Instr.lookup ty (.map (some b)) (.int .i64 n) false).run P w= .ok (.int .i64 (getM l n)) w:=by
 obtain⟨k,e,h1,h2,h3⟩:=mapII_spec h
 have hc:∀em,(Instr.checkKey em 10000 k (.int .i64 n)).run P w= .ok () w:=fun em=>MapKept.run_checkKey (d:= .int .i64) h2 (by simp[MapKept.IsKey]) em 9999
 rcases find_map2 (n:=n) rfl es.toList l 0 hm with⟨i,e',h5,h6,h7,h8⟩|⟨h4,_,h5⟩
 ·simp[Instr.lookup,run_underlying h1,MapKept.run_getObj_map hb,hc,MapKept.run_findKey h2 h5,Result.andThen]
 ·simp[Instr.lookup,run_underlying h1,MapKept.run_getObj_map hb,hc,MapKept.run_findKey h2 h5,h4,Result.andThen,run_zeroI h3]
theorem run_mapUpdate2{P:Program}{ty:TypeId}{w:World}{b cl:Nat}{es:Array MapEntry}{l:List (Int×Int)}{n v:Int}(h:mapII P ty=true)(hb:w.heap[b]?=some (.map es cl))(hm:MapIs2 es l):
  ∃(es':Array MapEntry) (cl':Nat),(Instr.mapUpdate ty (.map (some b)) (.int .i64 n) (.int .i64 v)).run P w= .ok () { w with heap:=w.heap.setIfInBounds b (.map es' cl') }∧MapIs2 es' (setM l n v):=by
 obtain⟨k,e,h1,h2,h3⟩:=mapII_spec h
 have hc:∀em,(Instr.checkKey em 10000 k (.int .i64 n)).run P w= .ok () w:=fun em=>MapKept.run_checkKey (d:= .int .i64) h2 (by simp[MapKept.IsKey]) em 9999
 rcases find_map2 (n:=n) rfl es.toList l 0 hm with⟨i,e',h5,h6,h7,h8⟩|⟨h4,h8,h5⟩
 ·rw[Nat.zero_add]at h5
  have hes:es[i]?=some e':=by simpa using h6
  refine⟨es.modify i fun e=>{ e with key:= .int .i64 n,val:= .int .i64 v },cl,?_,?_⟩
  ·have hk:((es[i]?).map (·.key)).getD (Value.int .i64 n)= .int .i64 n:=by rw[hes];exact h7
   have hs:Instr.sameBits 10000 (.int .i64 n) (.int .i64 n)=true:=by simp[Instr.sameBits]
   have hstay:(Instr.keyThatStays (((es[i]?).map (·.key)).getD (Value.int .i64 n)) (.int .i64 n)).run P w= .ok (.int .i64 n) w:=by
    rw[hk];simp[Instr.keyThatStays,hs]
   simp only[Instr.mapUpdate,run_underlying h1,MapKept.run_getObj_map hb,hc,MapKept.run_findKey h2 h5,Result.andThen,Sem.run_bind,hstay,MapKept.run_setObj_map _ hb]
  ·rw[h8]
   unfold MapIs2 at hm⊢
   have hi:i<es.toList.length:=by
    rcases Nat.lt_or_ge i es.toList.length with q|q
    ·exact q
    ·rw[List.getElem?_eq_none q]at h6;cases h6
   have hl:i<l.length:=by have:=congrArg List.length hm;simp at this;simp at hi;omega
   apply List.ext_getElem?
   intro j
   have hj:=congrArg (fun x=>x[j]?) hm
   simp only[List.getElem?_map,Array.getElem?_toList,Array.getElem?_modify,List.getElem?_set]at hj⊢
   by_cases e:i=j
   ·subst e
    simp[hes,hl]
   ·simp[e,hj]
 ·refine⟨es.push { key:= .int .i64 n,val:= .int .i64 v,born:=cl },cl+1,?_,?_⟩
  ·simp[Instr.mapUpdate,run_underlying h1,MapKept.run_getObj_map hb,hc,MapKept.run_findKey h2 h5,Result.andThen,MapKept.run_setObj_map _ hb]
  ·rw[h8]
   unfold MapIs2 at hm⊢
   simp[hm]
section
variable{cx:Cx}{m:Nat→MV}{A:Nat→Prop}{g:CMap cx}{a:Act}{w:World}
theorem Rel.setMap{L:Nat}{l l':List Int}{es':Array MapEntry}{cl':Nat}(h:Rel cx m A g a w)(hb:g (.o L)=some (.mp l))(hm:MapIs es' l'):
  Rel cx m A (upd [(.o L,some (.mp l'))] g) a { w with heap:=w.heap.setIfInBounds (m L).b (.map es' cl') }:=by
 have hL:Owns m L (g (.o L)) (m L).b:=by rw[hb];rfl
 obtain⟨es,cl,hh,_⟩:=h.ent _ _ hb
 obtain⟨h1,h2⟩:=MapKept.heap_set (o':= .map es' cl') hh
 refine h.wrote hL rfl rfl .rfl (by simp) (fun k _ hk=>h2 k hk) (fun _ _=>rfl) h.fix h.pins (fun k e1 e2=>by rw[upd_one,if_neg (Ne.symm e2)]) (fun _ _ _ _=>rfl) (fun v hv=>?_) (fun o v hv=>?_) (fun b hv=>by rw[upd_one,if_pos rfl]at hv;rw[hb];exact hv)
 ·rw[upd_one,if_pos rfl]at hv
  cases hv
  exact⟨es',cl',h1,hm⟩
 ·rw[upd_one,if_neg (by simp)]at hv
  obtain⟨ty,n,h3⟩:=h.cell L o v hv
  rw[hb]at h3;cases h3
theorem Rel.newMap{L:Nat}(h:Rel cx m A g a w)(hf:Free cx L g):
  Rel cx (setL m L (boxMV w.heap.size)) A (upd [(.o L,some (.mp []))] g) a (w.alloc (.map #[] 0)):=by
 have hnew:(w.alloc (.map #[] 0)).heap[w.heap.size]?=some (.map #[] 0):=by
  show(w.heap.push _)[w.heap.size]?=_
  simp
 have hko:upd [(.o L,some (.mp []))] g (.o L)=some (.mp []):=by rw[upd_one,if_pos rfl]
 have hw:=h.world (w':=w.alloc (.map #[] 0)) ⟨rfl,rfl,.rfl,by simp,fun k hk=>Below.heap_alloc _ _ _ hk⟩
 have hgk:∀k,keyHas L k=true→g k=none:=fun k hk=>by
  cases e:g k with
  |none=>rfl
  |some v=>have:=hf.1 k;rw[e]at this;simp[mentions,hk]at this
 refine hw.fresh hf (fun k hk=>?_) (fun k v hk hv=>?_) (fun o v hv=>?_) (fun bb hbb=>?_)
 ·simp only[touches,Bool.or_false]at hk
  exact .inl (Key.eqb_iff.1 hk).symm
 ·rcases hk with rfl|rfl|⟨o,rfl⟩
  ·rw[hko]at hv;cases hv
   exact⟨#[],0,by rw[setL_self];exact hnew,rfl⟩
  ·rw[upd_one,if_neg (by simp),hgk _ (by simp[keyHas])]at hv;cases hv
  ·rw[upd_one,if_neg (by simp),hgk _ (by simp[keyHas])]at hv;cases hv
 ·rw[upd_one,if_neg (by simp),hgk _ (by simp[keyHas])]at hv;cases hv
 ·rw[hko]at hbb
  have hbb:bb=w.heap.size:=by rw[show bb=(setL m L (boxMV w.heap.size) L).b from hbb,setL_self];rfl
  subst hbb
  exact⟨.inl h.top,fun hA=>Nat.lt_irrefl _ (h.frz _ hA),fun l hl=>Nat.lt_irrefl _ (h.blt hl)⟩
theorem Rel.setMap2{L:Nat}{l l':List (Int×Int)}{es':Array MapEntry}{cl':Nat}(h:Rel cx m A g a w)(hb:g (.o L)=some (.mi l))(hm:MapIs2 es' l'):
  Rel cx m A (upd [(.o L,some (.mi l'))] g) a { w with heap:=w.heap.setIfInBounds (m L).b (.map es' cl') }:=by
 have hL:Owns m L (g (.o L)) (m L).b:=by rw[hb];rfl
 obtain⟨es,cl,hh,_⟩:=h.ent _ _ hb
 obtain⟨h1,h2⟩:=MapKept.heap_set (o':= .map es' cl') hh
 refine h.wrote hL rfl rfl .rfl (by simp) (fun k _ hk=>h2 k hk) (fun _ _=>rfl) h.fix h.pins (fun k e1 e2=>by rw[upd_one,if_neg (Ne.symm e2)]) (fun _ _ _ _=>rfl) (fun v hv=>?_) (fun o v hv=>?_) (fun b hv=>by rw[upd_one,if_pos rfl]at hv;rw[hb];exact hv)
 ·rw[upd_one,if_pos rfl]at hv
  cases hv
  exact⟨es',cl',h1,hm⟩
 ·rw[upd_one,if_neg (by simp)]at hv
  obtain⟨ty,n,h3⟩:=h.cell L o v hv
  rw[hb]at h3;cases h3
theorem Rel.newMap2{L:Nat}(h:Rel cx m A g a w)(hf:Free cx L g):
  Rel cx (setL m L (boxMV w.heap.size)) A (upd [(.o L,some (.mi []))] g) a (w.alloc (.map #[] 0)):=by
 have hnew:(w.alloc (.map #[] 0)).heap[w.heap.size]?=some (.map #[] 0):=by
  show(w.heap.push _)[w.heap.size]?=_
  simp
 have hko:upd [(.o L,some (.mi []))] g (.o L)=some (.mi []):=by rw[upd_one,if_pos rfl]
 have hw:=h.world (w':=w.alloc (.map #[] 0)) ⟨rfl,rfl,.rfl,by simp,fun k hk=>Below.heap_alloc _ _ _ hk⟩
 have hgk:∀k,keyHas L k=true→g k=none:=fun k hk=>by
  cases e:g k with
  |none=>rfl
  |some v=>have:=hf.1 k;rw[e]at this;simp[mentions,hk]at this
 refine hw.fresh hf (fun k hk=>?_) (fun k v hk hv=>?_) (fun o v hv=>?_) (fun bb hbb=>?_)
 ·simp only[touches,Bool.or_false]at hk
  exact .inl (Key.eqb_iff.1 hk).symm
 ·rcases hk with rfl|rfl|⟨o,rfl⟩
  ·rw[hko]at hv;cases hv
   exact⟨#[],0,by rw[setL_self];exact hnew,rfl⟩
  ·rw[upd_one,if_neg (by simp),hgk _ (by simp[keyHas])]at hv;cases hv
  ·rw[upd_one,if_neg (by simp),hgk _ (by simp[keyHas])]at hv;cases hv
 ·rw[upd_one,if_neg (by simp),hgk _ (by simp[keyHas])]at hv;cases hv
 ·rw[hko]at hbb
  have hbb:bb=w.heap.size:=by rw[show bb=(setL m L (boxMV w.heap.size) L).b from hbb,setL_self];rfl
  subst hbb
  exact⟨.inl h.top,fun hA=>Nat.lt_irrefl _ (h.frz _ hA),fun l hl=>Nat.lt_irrefl _ (h.blt hl)⟩
end
section
variable{E:Env}{b:Base}{o:Oper}{s:Map E.G.car}
variable{d:Nat}{type:TypeId}{pos:String}{after:Array Edge}{guard:Option (Nat×Bool)}
theorem op_makeMap{ty L:Nat}(hN:d<b.N)(h:mapIB E.P ty=true):
  OpRun (cxOf E b) ⟨some d,.makeMap ty none,type,pos,after,guard⟩ s ⟨[],(.t d,some (.x (.m L)))::[(.o L,some (.mp []))],newL L (Nat.succ L)⟩:=
 op_gen rfl hN (fun _ h=>by cases h) fun m A a w g hr hf hrel=>by
  refine⟨setL m L (boxMV w.heap.size),A,_,?_,trivial,hrel.newMap (hf L (by rw[newL_one];simp))⟩
  simp only[den,setL_self,boxMV]
  simp[execOp,Instr.makeMap,newObj,Sem.run]
theorem op_lookup{ty L:Nat}{x y:Operand}{u:SV}{n:Int}{l:List Int}(hN:d<b.N)(h:mapIB E.P ty=true)(hL:s (.o L)=some (.mp l))(hx:Ev E s x (.m L))(hy:Ev E s y u)(hu:∀m,den m u= .int .i64 n):
  OpRun (cxOf E b) ⟨some d,.lookup ty x y false,type,pos,after,guard⟩ s ⟨[.o L]++(okeys x++okeys y),[(.t d,some (.x (.b (hasI l n))))],[]⟩:=
 op_pure rfl hN (fun _ h=>by cases h) fun m A a w g hr hrel=>by
  obtain⟨h1,_⟩:=hx.eval hrel (fun k hk=>hr k (by simp[hk]))
  obtain⟨h2,_⟩:=hy.eval hrel (fun k hk=>hr k (by simp[hk]))
  obtain⟨es,cl,h3,h4⟩:=hrel.ent _ _ ((hr (.o L) (by simp)).trans hL)
  refine⟨trivial,?_⟩
  simp[execOp,h1,h2,hu,den,run_lookup h h3 h4]
theorem op_mapUpdate{ty L:Nat}{x y z:Operand}{u:SV}{n:Int}{l:List Int}(h:mapIB E.P ty=true)(hL:s (.o L)=some (.mp l))(hx:Ev E s x (.m L))(hy:Ev E s y u)(hu:∀m,den m u= .int .i64 n)(hz:Ev E s z (.v (.bool true))):
  OpRun (cxOf E b) ⟨none,.mapUpdate ty x y z,type,pos,after,guard⟩ s ⟨[.o L]++(okeys x++(okeys y++okeys z)),[(.o L,some (.mp (insI l n)))],[]⟩:=by
 intro m A a w g hr hf hrel K Q hK
 obtain⟨h1,_⟩:=hx.eval hrel (fun k hk=>hr k (reads_mem (by simp[hk])))
 obtain⟨h2,_⟩:=hy.eval hrel (fun k hk=>hr k (reads_mem (by simp[hk])))
 obtain⟨h3,_⟩:=hz.eval hrel (fun k hk=>hr k (reads_mem (by simp[hk])))
 have hg:g (.o L)=some (.mp l):=(hr (.o L) (reads_mem (by simp))).trans hL
 obtain⟨es,cl,h4,h5⟩:=hrel.ent _ _ hg
 obtain⟨es',cl',h6,h7⟩:=run_mapUpdate (n:=n) h h4 h5
 refine⟨fun _ _=>trivial,?_⟩
 rw[semAt_of _ _ (by simp)]
 have hrun:(execOp a.eval ⟨none,.mapUpdate ty x y z,type,pos,after,guard⟩).run E.P w= .ok .skip { w with heap:=w.heap.setIfInBounds (m L).b (.map es' cl') }:=by
  simp[execOp,h1,h2,h3,hu,den,h6]
 rw[hrun]
 exact hK m A a _ (hrel.setMap hg h7)
theorem op_makeMap2{ty L:Nat}(hN:d<b.N)(h:mapII E.P ty=true):
  OpRun (cxOf E b) ⟨some d,.makeMap ty none,type,pos,after,guard⟩ s ⟨[],(.t d,some (.x (.m L)))::[(.o L,some (.mi []))],newL L (Nat.succ L)⟩:=
 op_gen rfl hN (fun _ h=>by cases h) fun m A a w g hr hf hrel=>by
  refine⟨setL m L (boxMV w.heap.size),A,_,?_,trivial,hrel.newMap2 (hf L (by rw[newL_one];simp))⟩
  simp only[den,setL_self,boxMV]
  simp[execOp,Instr.makeMap,newObj,Sem.run]
theorem op_lookup2{ty L:Nat}{x y:Operand}{u:SV}{n:Int}{l:List (Int×Int)}(hN:d<b.N)(h:mapII E.P ty=true)(hL:s (.o L)=some (.mi l))(hx:Ev E s x (.m L))(hy:Ev E s y u)(hu:∀m,den m u= .int .i64 n):
  OpRun (cxOf E b) ⟨some d,.lookup ty x y false,type,pos,after,guard⟩ s ⟨[.o L]++(okeys x++okeys y),[(.t d,some (.x (.i .i64 (getM l n))))],[]⟩:=
 op_pure rfl hN (fun _ h=>by cases h) fun m A a w g hr hrel=>by
  obtain⟨h1,_⟩:=hx.eval hrel (fun k hk=>hr k (by simp[hk]))
  obtain⟨h2,_⟩:=hy.eval hrel (fun k hk=>hr k (by simp[hk]))
  obtain⟨es,cl,h3,h4⟩:=hrel.ent _ _ ((hr (.o L) (by simp)).trans hL)
  refine⟨trivial,?_⟩
  simp[execOp,h1,h2,hu,den,run_lookup2 h h3 h4]
theorem op_mapUpdate2{ty L:Nat}{x y z:Operand}{u:SV}{n:Int}{l:List (Int×Int)}(h:mapII E.P ty=true)(hL:s (.o L)=some (.mi l))(hx:Ev E s x (.m L))(hy:Ev E s y u)(hu:∀m,den m u= .int .i64 n){u2:SV}{n2:Int}(hz:Ev E s z u2)(hu2:∀m,den m u2= .int .i64 n2):
  OpRun (cxOf E b) ⟨none,.mapUpdate ty x y z,type,pos,after,guard⟩ s ⟨[.o L]++(okeys x++(okeys y++okeys z)),[(.o L,some (.mi (setM l n n2)))],[]⟩:=by
 intro m A a w g hr hf hrel K Q hK
 obtain⟨h1,_⟩:=hx.eval hrel (fun k hk=>hr k (reads_mem (by simp[hk])))
 obtain⟨h2,_⟩:=hy.eval hrel (fun k hk=>hr k (reads_mem (by simp[hk])))
 obtain⟨h3,_⟩:=hz.eval hrel (fun k hk=>hr k (reads_mem (by simp[hk])))
 have hg:g (.o L)=some (.mi l):=(hr (.o L) (reads_mem (by simp))).trans hL
 obtain⟨es,cl,h4,h5⟩:=hrel.ent _ _ hg
 obtain⟨es',cl',h6,h7⟩:=run_mapUpdate2 (n:=n) (v:=n2) h h4 h5
 refine⟨fun _ _=>trivial,?_⟩
 rw[semAt_of _ _ (by simp)]
 have hrun:(execOp a.eval ⟨none,.mapUpdate ty x y z,type,pos,after,guard⟩).run E.P w= .ok .skip { w with heap:=w.heap.setIfInBounds (m L).b (.map es' cl') }:=by
  simp[execOp,h1,h2,h3,hu,hu2,den,h6]
 rw[hrun]
 exact hK m A a _ (hrel.setMap2 hg h7)
theorem mapSetK_sound{R:Type}{r:R}{c:EC E}(hS:Sees c s){ty:TypeId}{v k u:SV}{K:List Key→St E.G.car→Option R}(h:mapSetK c ty v k u K=some r):
  ∃ks us,K ks us=some r∧∀{b:Base} {x y z:Operand},Ev E s x v→Ev E s y k→Ev E s z u→OpRun (cxOf E b) ⟨none,.mapUpdate ty x y z,type,pos,after,guard⟩ s ⟨ks++(okeys x++(okeys y++okeys z)),us,[]⟩:=by
 unfold mapSetK at h
 split at h
 ·rename_i L
  split at h
  ·rename_i l hb
   split at h
   ·obtain⟨q,n,lit,h1,h2⟩:=intK_sound h
    obtain⟨h3,h4⟩:=bif_some h1
    simp only[Bool.and_eq_true]at h3
    have hq:q= .i64:=by cases q<;>simp[isI64]at h3;rfl
    subst hq
    exact⟨_,_,h4,fun hx hy hz=>op_mapUpdate h3.2 ((hS.o L).trans hb) hx hy h2 hz⟩
   ·cases h
  ·rename_i l hb
   obtain⟨q,n,lit,h1,h2⟩:=intK_sound h
   obtain⟨q',n',lit',h1',h2'⟩:=intK_sound h1
   obtain⟨h3,h4⟩:=bif_some h1'
   simp only[Bool.and_eq_true]at h3
   have hq:q= .i64:=by cases q<;>simp[isI64]at h3;rfl
   subst hq
   have hq':q'= .i64:=by cases q'<;>simp[isI64]at h3;rfl
   subst hq'
   exact⟨_,_,h4,fun hx hy hz=>op_mapUpdate2 h3.2 ((hS.o L).trans hb) hx hy h2 hz h2'⟩
  ·cases h
 ·cases h
theorem mapGetK_sound{R:Type}{r:R}{c:EC E}(hS:Sees c s){ty:TypeId}{v k:SV}{K:List Key→SV→Option R}(h:mapGetK c ty v k K=some r):
  ∃ks u,K ks u=some r∧∀{b:Base} {d:Nat} {x y:Operand},d<b.N→Ev E s x v→Ev E s y k→OpRun (cxOf E b) ⟨some d,.lookup ty x y false,type,pos,after,guard⟩ s ⟨ks++(okeys x++okeys y),[(.t d,some (.x u))],[]⟩:=by
 unfold mapGetK at h
 split at h
 ·rename_i L
  split at h
  ·rename_i l hb
   obtain⟨q,n,lit,h1,h2⟩:=intK_sound h
   obtain⟨h3,h4⟩:=bif_some h1
   simp only[Bool.and_eq_true]at h3
   have hq:q= .i64:=by cases q<;>simp[isI64]at h3;rfl
   subst hq
   exact⟨_,_,h4,fun hd hx hy=>op_lookup hd h3.2 ((hS.o L).trans hb) hx hy h2⟩
  ·rename_i l hb
   obtain⟨q,n,lit,h1,h2⟩:=intK_sound h
   obtain⟨h3,h4⟩:=bif_some h1
   simp only[Bool.and_eq_true]at h3
   have hq:q= .i64:=by cases q<;>simp[isI64]at h3;rfl
   subst hq
   exact⟨_,_,h4,fun hd hx hy=>op_lookup2 hd h3.2 ((hS.o L).trans hb) hx hy h2⟩
  ·cases h
 ·cases h
end
end
end Go.KX

namespace Go.KX
open Go Go.RowKit
section
variable{cx:Cx}{m m':Nat→MV}{A:Nat→Prop}{g g':CMap cx}{a:Act}{w:World}
theorem Rel.regive(h:Rel cx m A g a w){T:Nat→Prop}(hg:∀k,(∀l,T l→k≠ .o l)→g' k=g k)(hm:∀k,(∀l,T l→k≠ .o l)→∀l,mentions l k (g k)=true→m' l=m l)
  (hc:∀l o,T l→g (.c l o)=none) (ho:∀l v,T l→g' (.o l)=some v→At cx m' A a.tmps w (.o l) v)
  (hB:∀l b,T l→Owns m' l (g' (.o l)) b→∃l0,T l0∧Owns m l0 (g (.o l0)) b) (hI:∀l l' b,T l→T l'→Owns m' l (g' (.o l)) b→Owns m' l' (g' (.o l')) b→l=l')
  (hfix:∀p∈cx.glo,m' p.1=m p.1) (hpin:∀L,L<cx.pn→m' L=m L):Rel cx m' A g' a w:=by
 have hno:∀{l},¬T l→∀l0,T l0→Key.o l≠ .o l0:=fun{l} hl l0 hl0 e=>by cases e;exact hl hl0
 have how:∀{l b},¬T l→Owns m' l (g' (.o l)) b→Owns m l (g (.o l)) b:=fun{l b} hl ho=>by
  rw[hg _ (hno hl)]at ho
  exact(owns_congr fun l' hl'=>hm _ (hno hl) l' hl').1 ho
 have cross:∀{l l' b},T l→Owns m' l (g' (.o l)) b→¬T l'→Owns m' l' (g' (.o l')) b→False:=fun{l l' b} h1 h2 h3 h4=>by
  obtain⟨l0,h5,h6⟩:=hB l b h1 h2
  have:=h.inj l0 l' b h6 (how h3 h4)
  subst this
  exact h3 h5
 refine⟨h.size,h.defers,fun k v hk=>?_,fun l o v hv=>?_,fun l b hl=>?_,fun l l' b hl hl'=>?_,h.frzc,h.held,h.top,fun p hp=>by rw[hfix p hp];exact h.fix p hp,h.ko,h.frz0,h.frzA,fun L hL=>by rw[hpin L hL];exact h.pins L hL⟩
 ·by_cases e:∃l,T l∧k= .o l
  ·obtain⟨l,h1,rfl⟩:=e
   exact ho l v h1 hk
  ·have hn:∀l,T l→k≠ .o l:=fun l h1 h2=>e ⟨l,h1,h2⟩
   rw[hg k hn]at hk
   exact(h.ent k v hk).change (fun l hl=>hm k hn l (by rw[hk];exact hl)) (fun _ h=>h) (fun _ _=>rfl) (fun _ _=>rfl) (fun _ _ _ _=>rfl) (fun _ _ _=>rfl)
 ·rw[hg _ (fun l0 _ e=>by cases e)]at hv
  obtain⟨ty,n,h1⟩:=h.cell l o v hv
  by_cases hT:T l
  ·rw[hc l o hT]at hv;cases hv
  ·exact⟨ty,n,by rw[hg _ (hno hT)];exact h1⟩
 ·by_cases hT:T l
  ·obtain⟨l0,_,h1⟩:=hB l b hT hl
   exact h.own l0 b h1
  ·exact h.own l b (how hT hl)
 ·by_cases hT:T l<;>by_cases hT':T l'
  ·exact hI l l' b hT hT' hl hl'
  ·exact(cross hT hl hT' hl').elim
  ·exact(cross hT' hl' hT hl).elim
  ·exact h.inj l l' b (how hT hl) (how hT' hl')
end
def nilHV:HV:=⟨0,none,0,0⟩
def hvOf(mv:MV):HV:=⟨mv.b,mv.p,mv.n,mv.c⟩
def mvOfH(h:HV):MV:={ b:=h.b,p:=h.p,n:=h.n,c:=h.c }
def setSub(sub:Nat→HV)(k:Nat)(h:HV):Nat→HV:=fun k'=>if k'=k then h else sub k'
def subMV(sub:Nat→HV):MV:={ b:=0,p:=none,n:=0,c:=0,sub:=sub }
theorem setSub_self(sub:Nat→HV)(k:Nat)(h:HV):setSub sub k h k=h:=by simp[setSub]
theorem setSub_ne(sub:Nat→HV){k k':Nat}(h:HV)(e:k'≠k):setSub sub k h k'=sub k':=by simp[setSub,e]
theorem flat_ne{i j i' j' sz:Nat}(hj:j<sz)(hj':j'<sz)(h:¬(i=i'∧j=j')):i*sz+j≠i'*sz+j':=fun e=>by
 rcases Nat.lt_trichotomy i i' with h1|h1|h1
 ·have:(i+1)*sz≤i'*sz:=Nat.mul_le_mul_right _ h1
  rw[Nat.add_mul,Nat.one_mul]at this
  omega
 ·subst h1;exact h ⟨rfl,by omega⟩
 ·have:(i'+1)*sz≤i*sz:=Nat.mul_le_mul_right _ h1
  rw[Nat.add_mul,Nat.one_mul]at this
  omega
theorem SubsOK.out{w:World}{sub:Nat→HV}{b:Nat}{real:Nat→Prop}(h:SubsOK w sub b real)(k:Nat):SubsOK w (setSub sub k nilHV) b real:=by
 have key:∀{k'},(setSub sub k nilHV k').c≠0→k'≠k∧setSub sub k nilHV k'=sub k':=fun{k'} hc=>by
  by_cases e:k'=k
  ·subst e;rw[setSub_self]at hc;exact absurd rfl hc
  ·exact⟨e,setSub_ne _ _ e⟩
 refine⟨fun k1 k2 h1 h2 he=>?_,fun k1 h1=>?_,fun k1 h1=>?_,fun k1 h1=>?_⟩
 ·obtain⟨_,e1⟩:=key h1;obtain⟨_,e2⟩:=key h2
  rw[e1]at h1 he;rw[e2]at h2 he
  exact h.inj k1 k2 h1 h2 he
 ·obtain⟨_,e1⟩:=key h1;rw[e1]at h1⊢;exact h.ne k1 h1
 ·obtain⟨_,e1⟩:=key h1;rw[e1]at h1;exact h.real k1 h1
 ·obtain⟨_,e1⟩:=key h1;rw[e1]at h1⊢;exact h.dat k1 h1
theorem SubsOK.into{w:World}{sub:Nat→HV}{b k:Nat}{real:Nat→Prop}{h0:HV}(h:SubsOK w sub b real)(hr:real k)(hne:h0.c≠0→h0.b≠b)(hd:h0.c≠0→∃o:Obj,w.heap[h0.b]?=some o∧o.isDat=true)(hx:h0.c≠0→∀k',(sub k').c≠0→(sub k').b≠h0.b):
  SubsOK w (setSub sub k h0) b real:=by
 refine⟨fun k1 k2 h1 h2 he=>?_,fun k1 h1=>?_,fun k1 h1=>?_,fun k1 h1=>?_⟩
 ·by_cases e1:k1=k<;>by_cases e2:k2=k
  ·rw[e1,e2]
  ·subst e1
   rw[setSub_self]at h1 he;rw[setSub_ne _ _ e2]at h2 he
   exact absurd he.symm (hx h1 k2 h2)
  ·subst e2
   rw[setSub_self]at h2 he;rw[setSub_ne _ _ e1]at h1 he
   exact absurd he (hx h2 k1 h1)
  ·rw[setSub_ne _ _ e1]at h1 he;rw[setSub_ne _ _ e2]at h2 he
   exact h.inj k1 k2 h1 h2 he
 ·by_cases e1:k1=k
  ·subst e1;rw[setSub_self]at h1⊢;exact hne h1
  ·rw[setSub_ne _ _ e1]at h1⊢;exact h.ne k1 h1
 ·by_cases e1:k1=k
  ·subst e1;exact hr
  ·rw[setSub_ne _ _ e1]at h1;exact h.real k1 h1
 ·by_cases e1:k1=k
  ·subst e1;rw[setSub_self]at h1⊢;exact hd h1
  ·rw[setSub_ne _ _ e1]at h1⊢;exact h.dat k1 h1
section
variable{cx:Cx}{m:Nat→MV}{A:Nat→Prop}{g g':CMap cx}{a:Act}{w:World}
theorem free_ne{L:Nat}{k:Key}{v:Val cx.G.car}(hf:Free cx L g)(hk:g k=some v):∀l,mentions l k (some v)=true→l≠L:=fun l hl e=>by
 subst e
 have:=hf.1 k
 rw[hk,hl]at this;cases this
theorem free_none{L:Nat}{k:Key}(hf:Free cx L g)(hk:keyHas L k=true):g k=none:=by
 cases e:g k with
 |none=>rfl
 |some v=>have:=hf.1 k;rw[e]at this;simp[mentions,hk]at this
def openU{car:Nat→Type}(L N S' ety t e' t':Nat)(es:List (Option Nat))(l:List (car t))(hs:List (Int×Nat×Nat))(idx:Int)(j:Nat)(q:List (car t')):St car:=
 [(.o N,some (.row e' t' q)),(.o L,some (.dp ety t es l ((idx,j,N)::hs) S'))]
theorem Rel.openRow{L N S S' ety t e' t' j:Nat}{idx:Int}{es:List (Option Nat)}{l:List (cx.G.car t)}{hs:List (Int×Nat×Nat)}{x:cx.G.car t}{q:List (cx.G.car t')}(h:Rel cx m A g a w)(hL:g (.o L)=some (.dp ety t es l hs S))
  (hx:l[idx.toNat]?=some x) (h0:0≤idx) (hcv:(cx.G.enc t x)[j]?=some (.sl t' q)) (hno:∀p∈hs,¬(p.1.toNat=idx.toNat∧p.2.1=j)) (he:es.getD j none=some e') (hN:Free cx N g) (hS:Free cx S' g) (hNS:N≠S'):
  ∃m',Rel cx m' A (upd (openU L N S' ety t e' t' es l hs idx j q) g) a w∧(∀l,l≠N→l≠S'→m' l=m l)∧
   ∃cur:Array Value,w.heap[(m L).b]?=some (.cells cur ety (0,0))∧(m L).p=some ⟨(m L).b,0,none⟩∧cur[idx.toNat*cx.G.sz t+j]?=some (den m' (.h N)):=by
 have hLN:L≠N:=fun e=>by subst e;rw[free_none hN (by simp[keyHas])]at hL;cases hL
 have hLS:L≠S':=fun e=>by subst e;rw[free_none hS (by simp[keyHas])]at hL;cases hL
 have hi:idx.toNat<l.length:=(List.getElem?_eq_some_iff.1 hx).1
 have hj:j<cx.G.sz t:=by rw[←cx.G.hsz t x];exact(List.getElem?_eq_some_iff.1 hcv).1
 obtain⟨⟨h1,h2⟩,h3,h4⟩:=h.ent _ _ hL
 rcases h2 with⟨_,hl,_⟩|⟨hc,hp,cur,hh,hsz,hle,hin⟩
 ·subst hl;simp at hx
 have hhole:holeAt idx.toNat j hs=none:=by
  cases e:holeAt idx.toNat j hs with
  |none=>rfl
  |some a'=>obtain⟨p,h5,h6,h7,_⟩:=holeAt_mem e;exact absurd ⟨h6,h7⟩ (hno p h5)
 obtain⟨u,hu,hsub⟩:=hin _ x hx j _ hcv
 rw[hhole,he]at hsub
 obtain⟨e1,he1,hflat,hue,hrow⟩:=hsub
 cases he1
 generalize hk:idx.toNat*cx.G.sz t+j=k at*
 generalize hm':setL (setL m N (mvOfH ((m S).sub k))) S' (subMV (setSub (m S).sub k nilHV))=m'
 have eN:m' N=mvOfH ((m S).sub k):=by rw[←hm',setL_ne _ _ hNS,setL_self]
 have eS:m' S'=subMV (setSub (m S).sub k nilHV):=by rw[←hm',setL_self]
 have eo:∀l,l≠N→l≠S'→m' l=m l:=fun l h5 h6=>by rw[←hm',setL_ne _ _ h6,setL_ne _ _ h5]
 have hgk:∀k,upd (openU L N S' ety t e' t' es l hs idx j q) g k=if k= .o N then some (.row e' t' q)else if k= .o L then some (.dp ety t es l ((idx,j,N)::hs) S')else g k:=fun k=>by
  rw[openU,upd_cons,upd_one]
  by_cases e1:k= .o N
  ·subst e1;simp
  ·rw[if_neg (Ne.symm e1),if_neg e1]
   by_cases e2:k= .o L
   ·subst e2;simp
   ·rw[if_neg (Ne.symm e2),if_neg e2]
 have gN:upd (openU L N S' ety t e' t' es l hs idx j q) g (.o N)=some (.row e' t' q):=by rw[hgk,if_pos rfl]
 have gL:upd (openU L N S' ety t e' t' es l hs idx j q) g (.o L)=some (.dp ety t es l ((idx,j,N)::hs) S'):=by rw[hgk,if_neg (by simpa using hLN),if_pos rfl]
 have gN0:g (.o N)=none:=free_none hN (by simp[keyHas])
 have ownL:∀b,Owns m' L (some (.dp ety t es l ((idx,j,N)::hs) S':Val cx.G.car)) b→Owns m L (g (.o L)) b∧(((m S).sub k).c≠0→b≠((m S).sub k).b):=fun b hb=>by
  rw[hL]
  simp only[Owns,eo L hLN hLS,eS,subMV]at hb
  rcases hb with hb|⟨k',hk',rfl⟩
  ·refine⟨.inl hb,fun h5=>?_⟩
   rw[hb.2];exact(h3.ne k h5).symm
  ·by_cases e:k'=k
   ·subst e;rw[setSub_self]at hk';exact absurd rfl hk'
   ·rw[setSub_ne _ _ e]at hk'⊢
    exact⟨.inr ⟨k',hk',rfl⟩,fun h5 h6=>e (h3.inj _ _ hk' h5 h6)⟩
 have ownN:∀b,Owns m' N (some (.row e' t' q:Val cx.G.car)) b→((m S).sub k).c≠0∧b=((m S).sub k).b:=fun b hb=>by
  simp only[Owns,eN,mvOfH]at hb;exact hb
 have hment:∀k',(∀l',(l'=L∨l'=N)→k'≠ .o l')→∀l',mentions l' k' (g k')=true→m' l'=m l':=fun k' _ l' hl'=>by
  cases e:g k' with
  |none=>rw[e]at hl';cases hl'
  |some v=>rw[e]at hl';exact eo l' (free_ne hN e l' hl') (free_ne hS e l' hl')
 refine⟨m',h.regive (T:=fun l'=>l'=L∨l'=N) (fun k' hk'=>?_) hment (fun l' o hT=>?_) (fun l' v hT hv=>?_) (fun l' b hT hb=>?_) (fun l1 l2 b hT1 hT2 hb1 hb2=>?_) (fun p hp=>eo _ (hN.2.1 p hp) (hS.2.1 p hp)) (fun L' hL'=>eo _ (fun e=>?_) (fun e=>?_)),eo,cur,hh,hp,?_⟩
 ·rw[hgk,if_neg (fun e=>hk' N (.inr rfl) e),if_neg (fun e=>hk' L (.inl rfl) e)]
 ·rcases hT with rfl|rfl
  ·cases e:g (.c l' o)with
   |none=>rfl
   |some v=>obtain⟨ty,n,h5⟩:=h.cell _ _ _ e;rw[hL]at h5;cases h5
  ·exact free_none hN (by simp[keyHas])
 ·rcases hT with rfl|rfl
  ·rw[gL]at hv;cases hv
   show(_∧_)∧_
   rw[eo l' hLN hLS,eS]
   refine⟨⟨h1,.inr ⟨hc,hp,cur,hh,hsz,hle,fun i1 x1 hx1 j1 cv1 hcv1=>?_⟩⟩,h3.out k,fun p hp=>?_,?_⟩
   ·obtain⟨u1,hu1,hs1⟩:=hin i1 x1 hx1 j1 cv1 hcv1
    refine⟨u1,hu1,?_⟩
    have hj1:j1<cx.G.sz t:=by rw[←cx.G.hsz t x1];exact(List.getElem?_eq_some_iff.1 hcv1).1
    simp only[holeAt]
    by_cases e:idx.toNat=i1∧j=j1
    ·obtain⟨e1,e2⟩:=e
     subst e1;subst e2
     rw[if_pos ⟨rfl,rfl⟩]
     rw[hk]at hu1⊢
     rw[hu]at hu1;cases hu1
     rw[hx]at hx1;cases hx1
     rw[hcv]at hcv1;cases hcv1
     refine⟨?_,by show(setSub _ _ _ _).c=0;rw[setSub_self];rfl,_,_,rfl⟩
     rw[hue];simp only[den,eN,mvOfH]
    ·rw[if_neg e]
     have hne:i1*cx.G.sz t+j1≠k:=by rw[←hk];exact flat_ne hj1 hj (fun h=>e ⟨h.1.symm,h.2.symm⟩)
     rw[show(subMV (setSub (m S).sub k nilHV)).sub (i1*cx.G.sz t+j1)=(m S).sub (i1*cx.G.sz t+j1)from setSub_ne _ _ hne]
     refine hs1.step (fun _ h=>h) (fun _ _=>rfl) (fun a' ha'=>?_) (fun _=>rfl)
     obtain⟨p,h5,_,_,rfl⟩:=holeAt_mem ha'
     have hmm:mentions p.2.2 (.o l') (some (.dp ety t es l hs S:Val cx.G.car))=true:=by
      simp only[mentions,valHas,keyHas,Bool.or_eq_true,List.any_eq_true]
      exact .inl (.inr ⟨p,h5,by simp⟩)
     exact eo _ (free_ne hN hL _ hmm) (free_ne hS hL _ hmm)
   ·rcases List.mem_cons.1 hp with rfl|hp
    ·exact⟨h0,by omega⟩
    ·exact h4.lt p hp
   ·exact List.pairwise_cons.2 ⟨fun p hp h5=>hno p hp ⟨h5.1.symm,h5.2.symm⟩,h4.ne⟩
  ·rw[gN]at hv;cases hv
   show(m' l').n=_∧_
   rw[eN]
   exact hrow
 ·rcases hT with rfl|rfl
  ·rw[gL]at hb;exact⟨l',.inl rfl,(ownL b hb).1⟩
  ·rw[gN]at hb
   obtain⟨h5,rfl⟩:=ownN b hb
   exact⟨L,.inl rfl,by rw[hL];exact .inr ⟨k,h5,rfl⟩⟩
 ·rcases hT1 with rfl|rfl<;>rcases hT2 with rfl|rfl
  ·rfl
  ·rw[gL]at hb1;rw[gN]at hb2
   obtain⟨h5,rfl⟩:=ownN b hb2
   exact absurd rfl ((ownL _ hb1).2 h5)
  ·rw[gN]at hb1;rw[gL]at hb2
   obtain⟨h5,rfl⟩:=ownN b hb1
   exact absurd rfl ((ownL _ hb2).2 h5)
  ·rfl
 ·subst e;exact absurd hL' (Nat.not_lt.2 hN.2.2)
 ·subst e;exact absurd hL' (Nat.not_lt.2 hS.2.2)
 ·rw[hu,hue];simp only[den,eN,mvOfH]
end
section
variable{cx:Cx}{m:Nat→MV}{A:Nat→Prop}{g g':CMap cx}{a:Act}{w:World}
theorem holeAt_none{i j:Nat}:∀{hs:List (Int×Nat×Nat)},(∀p∈hs,¬(p.1.toNat=i∧p.2.1=j))→holeAt i j hs=none
 |[],_=>rfl
 |(i',j',a)::r,h=>by
  simp only[holeAt]
  rw[if_neg (h (i',j',a) List.mem_cons_self)]
  exact holeAt_none fun p hp=>h p (List.mem_cons_of_mem _ hp)
theorem holeAt_append{i j:Nat}:∀{h1 h2:List (Int×Nat×Nat)},holeAt i j (h1++h2)=match holeAt i j h1 with|some a=>some a|none=>holeAt i j h2
 |[],_=>rfl
 |(i',j',a)::r,h2=>by
  simp only[List.cons_append,holeAt]
  split
  ·rfl
  ·exact holeAt_append
theorem holeAt_mid{i j i0 j0 a:Nat}{idx:Int}{h1 h2:List (Int×Nat×Nat)}(hi:idx.toNat=i0)(hne:¬(i0=i∧j0=j)):holeAt i j (h1++(idx,j0,a)::h2)=holeAt i j (h1++h2):=by
 rw[holeAt_append,holeAt_append]
 simp only[holeAt,hi,if_neg hne]
theorem pairwise_mid{α:Type}{R:α→α→Prop}{h1 h2:List α}{p:α}(h:(h1++p::h2).Pairwise R):(h1++h2).Pairwise R∧(∀q∈h1,R q p)∧∀q∈h2,R p q:=by
 obtain⟨a1,a2,a3⟩:=List.pairwise_append.1 h
 obtain⟨b1,b2⟩:=List.pairwise_cons.1 a2
 exact⟨List.pairwise_append.2 ⟨a1,b2,fun x hx y hy=>a3 x hx y (List.mem_cons_of_mem _ hy)⟩,fun q hq=>a3 q hq p List.mem_cons_self,b1⟩
def closeU{car:Nat→Type}(L N S' ety t:Nat)(es:List (Option Nat))(l:List (car t))(hs:List (Int×Nat×Nat)):St car:=
 [(.o N,none),(.o L,some (.dp ety t es l hs S'))]
theorem putAt_one{α:Type}{j:Nat}{y:α}{l:List α}{i:Nat}:(putAt j [y] l)[i]?=if i=j∧j<l.length then some y else l[i]?:=by
 simp only[putAt,List.getElem?_set]
 by_cases e:j=i
 ·subst e
  by_cases e2:j<l.length
  ·simp[e2]
  ·simp[e2]
 ·simp[e,Ne.symm e]
theorem Rel.closeRow{L N S S' ety t e' t' j:Nat}{idx:Int}{es:List (Option Nat)}{l:List (cx.G.car t)}{h1 h2:List (Int×Nat×Nat)}{x x':cx.G.car t}{q:List (cx.G.car t')}(h:Rel cx m A g a w)
  (hL:g (.o L)=some (.dp ety t es l (h1++(idx,j,N)::h2) S)) (hgN:g (.o N)=some (.row e' t' q)) (hx:l[idx.toNat]?=some x) (hj:j<cx.G.sz t) (henc:cx.G.enc t x'=putAt j [.sl t' q] (cx.G.enc t x)) (he:es.getD j none=some e')
  (hfl:cx.G.flat t'=true) (hS:Free cx S' g):
  ∃m',Rel cx m' A (upd (closeU L N S' ety t es (l.set idx.toNat x') (h1++h2)) g) a w∧∀l,l≠S'→m' l=m l:=by
 have hLN:L≠N:=fun e=>by subst e;rw[hL]at hgN;cases hgN
 have hLS:L≠S':=fun e=>by subst e;rw[free_none hS (by simp[keyHas])]at hL;cases hL
 have hNS:N≠S':=fun e=>by subst e;rw[free_none hS (by simp[keyHas])]at hgN;cases hgN
 have hi:idx.toNat<l.length:=(List.getElem?_eq_some_iff.1 hx).1
 obtain⟨⟨h3,h4⟩,h5,h6⟩:=h.ent _ _ hL
 have hrow:RowAt cx.G A w (hvOf (m N)) e' t' q:=h.ent _ _ hgN
 rcases h4 with⟨_,hl,_⟩|⟨hc,hp,cur,hh,hsz,hle,hin⟩
 ·subst hl;simp at hx
 obtain⟨hpw,hpw1,hpw2⟩:=pairwise_mid h6.ne
 have hnone:holeAt idx.toNat j (h1++h2)=none:=holeAt_none fun p hp h7=>by
  rcases List.mem_append.1 hp with hp|hp
  ·exact hpw1 p hp h7
  ·exact hpw2 p hp ⟨h7.1.symm,h7.2.symm⟩
 have hsome:holeAt idx.toNat j (h1++(idx,j,N)::h2)=some N:=by
  rw[holeAt_append,show holeAt idx.toNat j h1=none from holeAt_none fun p hp h7=>hpw1 p hp h7]
  simp[holeAt]
 generalize hk:idx.toNat*cx.G.sz t+j=k at*
 generalize hm':setL m S' (subMV (setSub (m S).sub k (hvOf (m N))))=m'
 have eS:m' S'=subMV (setSub (m S).sub k (hvOf (m N))):=by rw[←hm',setL_self]
 have eo:∀l,l≠S'→m' l=m l:=fun l h5=>by rw[←hm',setL_ne _ _ h5]
 have hgk:∀k,upd (closeU L N S' ety t es (l.set idx.toNat x') (h1++h2)) g k=if k= .o N then none else if k= .o L then some (.dp ety t es (l.set idx.toNat x') (h1++h2) S')else g k:=fun k=>by
  rw[closeU,upd_cons,upd_one]
  by_cases e1:k= .o N
  ·subst e1;simp
  ·rw[if_neg (Ne.symm e1),if_neg e1]
   by_cases e2:k= .o L
   ·subst e2;simp
   ·rw[if_neg (Ne.symm e2),if_neg e2]
 have gN:upd (closeU L N S' ety t es (l.set idx.toNat x') (h1++h2)) g (.o N)=none:=by rw[hgk,if_pos rfl]
 have gL:upd (closeU L N S' ety t es (l.set idx.toNat x') (h1++h2)) g (.o L)=some (.dp ety t es (l.set idx.toNat x') (h1++h2) S'):=by rw[hgk,if_neg (by simpa using hLN),if_pos rfl]
 have ownN:(m N).c≠0→Owns m N (g (.o N)) (m N).b:=fun h7=>by rw[hgN];exact⟨h7,rfl⟩
 have hNb:(m N).c≠0→∀b,Owns m L (g (.o L)) b→b≠(m N).b:=fun h7 b h8 e=>by
  subst e;exact hLN (h.inj L N _ h8 (ownN h7))
 have hment:∀k',∀l',mentions l' k' (g k')=true→m' l'=m l':=fun k' l' hl'=>by
  cases e:g k' with
  |none=>rw[e]at hl';cases hl'
  |some v=>rw[e]at hl';exact eo l' (free_ne hS e l' hl')
 have hsub0:((m S).sub k).c=0:=by
  obtain⟨cv0,hcv0⟩:∃cv,(cx.G.enc t x)[j]?=some cv:=⟨_,List.getElem?_eq_getElem (by rw[cx.G.hsz];exact hj)⟩
  obtain⟨u,_,h7⟩:=hin _ x hx j _ hcv0
  rw[hsome,hk]at h7
  exact h7.2.1
 refine⟨m',h.regive (T:=fun l'=>l'=L∨l'=N) (fun k' hk'=>?_) (fun k' _=>hment k') (fun l' o hT=>?_) (fun l' v hT hv=>?_) (fun l' b hT hb=>?_) (fun l1 l2 b hT1 hT2 hb1 hb2=>?_) (fun p hp=>eo _ (hS.2.1 p hp)) (fun L' hL'=>eo _ (fun e=>?_)),eo⟩
 ·rw[hgk,if_neg (fun e=>hk' N (.inr rfl) e),if_neg (fun e=>hk' L (.inl rfl) e)]
 ·cases e:g (.c l' o)with
  |none=>rfl
  |some v=>
   obtain⟨ty,n,h7⟩:=h.cell _ _ _ e
   rcases hT with rfl|rfl
   ·rw[hL]at h7;cases h7
   ·rw[hgN]at h7;cases h7
 ·rcases hT with rfl|rfl
  ·rw[gL]at hv;cases hv
   show(_∧_)∧_
   rw[eo l' hLS,eS]
   refine⟨⟨by rw[List.length_set];exact h3,.inr ⟨hc,hp,cur,hh,hsz,by rw[List.length_set];exact hle,fun i1 x1 hx1 j1 cv1 hcv1=>?_⟩⟩,?_,fun p hp=>?_,hpw⟩
   ·have hj1:j1<cx.G.sz t:=by rw[←cx.G.hsz t x1];exact(List.getElem?_eq_some_iff.1 hcv1).1
    by_cases e:idx.toNat=i1∧j=j1
    ·obtain⟨e1,e2⟩:=e
     subst e1;subst e2
     rw[List.getElem?_set_self hi]at hx1
     cases hx1
     rw[henc,putAt_one,if_pos ⟨rfl,by rw[cx.G.hsz];exact hj⟩]at hcv1
     cases hcv1
     obtain⟨cv0,hcv0⟩:∃cv,(cx.G.enc t x)[j]?=some cv:=⟨_,List.getElem?_eq_getElem (by rw[cx.G.hsz];exact hj)⟩
     obtain⟨u,hu,h7⟩:=hin _ x hx j _ hcv0
     rw[hsome]at h7
     refine⟨u,hu,?_⟩
     rw[hnone,hk,show(subMV (setSub (m S).sub k (hvOf (m N)))).sub k=hvOf (m N)from setSub_self _ _ _]
     exact⟨e',he,hfl,by rw[h7.1];rfl,hrow⟩
    ·have hne:i1*cx.G.sz t+j1≠k:=by rw[←hk];exact flat_ne hj1 hj (fun h=>e ⟨h.1.symm,h.2.symm⟩)
     have old:∃x0,l[i1]?=some x0∧(cx.G.enc t x0)[j1]?=some cv1:=by
      by_cases e1:idx.toNat=i1
      ·subst e1
       rw[List.getElem?_set_self hi]at hx1
       cases hx1
       refine⟨x,hx,?_⟩
       rw[henc,putAt_one,if_neg (fun h7=>e ⟨rfl,h7.1.symm⟩)]at hcv1
       exact hcv1
      ·rw[List.getElem?_set_ne e1]at hx1;exact⟨x1,hx1,hcv1⟩
     obtain⟨x0,hx0,hcv0⟩:=old
     obtain⟨u1,hu1,hs1⟩:=hin i1 x0 hx0 j1 cv1 hcv0
     refine⟨u1,hu1,?_⟩
     rw[holeAt_mid rfl e]at hs1
     rw[show(subMV (setSub (m S).sub k (hvOf (m N)))).sub (i1*cx.G.sz t+j1)=(m S).sub (i1*cx.G.sz t+j1)from setSub_ne _ _ hne]
     refine hs1.step (fun _ h=>h) (fun _ _=>rfl) (fun a' ha'=>?_) (fun _=>rfl)
     obtain⟨p,h7,_,_,rfl⟩:=holeAt_mem ha'
     refine hment (.o l') _ ?_
     rw[hL]
     simp only[mentions,valHas,keyHas,Bool.or_eq_true,List.any_eq_true]
     exact .inl (.inr ⟨p,by rcases List.mem_append.1 h7 with h8|h8<;>simp[h8],by simp⟩)
   ·rw[List.length_set]
    refine h5.into ?_ (fun h7 e=>hNb h7 (m l').b (by rw[hL];exact .inl ⟨hc,rfl⟩) e.symm) (fun h7=>h.blk (ownN h7)) (fun h7 k' h8 e=>hNb h7 _ (by rw[hL];exact .inr ⟨k',h8,rfl⟩) e)
    show k<_
    have:(idx.toNat+1)*cx.G.sz t≤l.length*cx.G.sz t:=Nat.mul_le_mul_right _ hi
    rw[Nat.add_mul,Nat.one_mul]at this
    omega
   ·rw[List.length_set];exact h6.lt p (by rcases List.mem_append.1 hp with h8|h8<;>simp[h8])
  ·rw[gN]at hv;cases hv
 ·rcases hT with rfl|rfl
  ·rw[gL]at hb
   simp only[Owns,eo l' hLS,eS,subMV]at hb
   rcases hb with hb|⟨k',hk',rfl⟩
   ·exact⟨l',.inl rfl,by rw[hL];exact .inl hb⟩
   ·by_cases e:k'=k
    ·subst e
     rw[setSub_self]at hk'⊢
     exact⟨N,.inr rfl,ownN hk'⟩
    ·rw[setSub_ne _ _ e]at hk'⊢
     exact⟨l',.inl rfl,by rw[hL];exact .inr ⟨k',hk',rfl⟩⟩
  ·rw[gN]at hb;exact hb.elim
 ·rcases hT1 with rfl|rfl<;>rcases hT2 with rfl|rfl
  ·rfl
  ·rw[gN]at hb2;exact hb2.elim
  ·rw[gN]at hb1;exact hb1.elim
  ·rfl
 ·subst e;exact absurd hL' (Nat.not_lt.2 hS.2.2)
end
section
variable{cx:Cx}{m:Nat→MV}{A:Nat→Prop}{g g':CMap cx}{a:Act}{w:World}
theorem upd_two{car:Nat→Type}{L N:Nat}{v v':Option (Val car)}{g:Map car}(h:L≠N)(k:Key):upd [(.o N,v),(.o L,v')] g k=if k= .o N then v else if k= .o L then v' else g k:=by
 rw[upd_cons,upd_one]
 by_cases e1:k= .o N
 ·subst e1;simp
 ·rw[if_neg (Ne.symm e1),if_neg e1]
  by_cases e2:k= .o L
  ·subst e2;simp
  ·rw[if_neg (Ne.symm e2),if_neg e2]
theorem Rel.writeRow{L N N0 S ety t j:Nat}{idx:Int}{es:List (Option Nat)}{l:List (cx.G.car t)}{h1 h2:List (Int×Nat×Nat)}{x:cx.G.car t}(h:Rel cx m A g a w)
  (hL:g (.o L)=some (.dp ety t es l (h1++(idx,j,N0)::h2) S)) (hx:l[idx.toNat]?=some x) (hj:j<cx.G.sz t):
  ∃w',(m L).p=some ⟨(m L).b,0,none⟩∧(storeCells ⟨(m L).b,idx.toNat*cx.G.sz t+j,none⟩ [den m (.h N)]).run cx.P w= .ok () w'∧Rel cx m A (upd [(.o L,some (.dp ety t es l (h1++(idx,j,N)::h2) S))] g) a w':=by
 have hi:idx.toNat<l.length:=(List.getElem?_eq_some_iff.1 hx).1
 obtain⟨⟨h3,h4⟩,h5,h6⟩:=h.ent _ _ hL
 rcases h4 with⟨_,hl,_⟩|⟨hc,hp,cur,hh,hsz,hle,hin⟩
 ·subst hl;simp at hx
 have hfit:idx.toNat*cx.G.sz t+j<cur.size:=by
  rw[hsz]
  have:(idx.toNat+1)*cx.G.sz t≤(m L).c*cx.G.sz t:=Nat.mul_le_mul_right _ (by omega)
  rw[Nat.add_mul,Nat.one_mul]at this
  omega
 have hown:Owns m L (g (.o L)) (m L).b:=by rw[hL];exact .inl ⟨hc,rfl⟩
 obtain⟨w',cur',h7,h8,h9,h10,h11,h12,h13,h14,h15⟩:=run_storeCellsW (P:=cx.P) (o:=idx.toNat*cx.G.sz t+j) [den m (.h N)] 0 w cur hh (by intro v hv;rw[List.mem_singleton.1 hv];rfl) (by simp;omega)
 have hAw:∀b,A b→w'.heap[b]?=w.heap[b]?:=fun b hb=>h15 b fun e=>(h.own L _ hown).2 (e▸hb)
 obtain⟨hpw,hpw1,hpw2⟩:=pairwise_mid h6.ne
 have hsub:∀k,((m S).sub k).c≠0→w'.heap[((m S).sub k).b]?=w.heap[((m S).sub k).b]?:=fun k hk=>h15 _ (h5.ne k hk)
 refine⟨w',hp,h7,h.wrote hown h11 h12 h13 (by omega) (fun k _ hk=>h15 k hk) (fun _ _=>rfl) h.fix h.pins (fun k e1 e2=>by rw[upd_one,if_neg (Ne.symm e2)]) (fun _ _ _ _=>rfl) (fun v hv=>?_) (fun o' v hv=>?_) (fun b hv=>?_)⟩
 ·rw[upd_one,if_pos rfl]at hv
  cases hv
  refine⟨⟨h3,.inr ⟨hc,hp,cur',h8,by rw[h9,hsz],hle,fun i1 x1 hx1 j1 cv1 hcv1=>?_⟩⟩,h5.step hsub,fun p hp=>?_,?_⟩
  ·obtain⟨u1,hu1,hs1⟩:=hin i1 x1 hx1 j1 cv1 hcv1
   have hj1:j1<cx.G.sz t:=by rw[←cx.G.hsz t x1];exact(List.getElem?_eq_some_iff.1 hcv1).1
   by_cases e:idx.toNat=i1∧j=j1
   ·obtain⟨e1,e2⟩:=e
    subst e1;subst e2
    have hs0:∀a',holeAt idx.toNat j (h1++(idx,j,a')::h2)=some a':=fun a'=>by
     rw[holeAt_append,show holeAt idx.toNat j h1=none from holeAt_none fun p hp h16=>hpw1 p hp h16]
     simp[holeAt]
    rw[hs0]at hs1⊢
    exact⟨den m (.h N),by rw[h10,if_pos ⟨by omega,by simp⟩];simp,rfl,hs1.2⟩
   ·refine⟨u1,?_,?_⟩
    ·rw[h10,if_neg]
     ·exact hu1
     ·have:=flat_ne hj1 hj (fun h=>e ⟨h.1.symm,h.2.symm⟩)
      simp only[List.length_singleton]
      omega
    ·rw[holeAt_mid rfl e]at hs1⊢
     exact hs1.step (fun _ h=>h) hAw (fun _ _=>rfl) (hsub _)
  ·rcases List.mem_append.1 hp with hp|hp
   ·exact h6.lt p (by simp[hp])
   ·rcases List.mem_cons.1 hp with rfl|hp
    ·exact h6.lt (idx,j,N0) (by simp)
    ·exact h6.lt p (by simp[hp])
  ·obtain⟨a1,a2,a3⟩:=List.pairwise_append.1 h6.ne
   obtain⟨b1,b2⟩:=List.pairwise_cons.1 a2
   refine List.pairwise_append.2 ⟨a1,List.pairwise_cons.2 ⟨b1,b2⟩,fun p hp q hq=>?_⟩
   rcases List.mem_cons.1 hq with rfl|hq
   ·exact a3 p hp (idx,j,N0) (by simp)
   ·exact a3 p hp q (by simp[hq])
 ·rw[upd_one,if_neg (by simp)]at hv
  obtain⟨ty,n,h16⟩:=h.cell L o' v hv
  rw[hL]at h16;cases h16
 ·rw[upd_one,if_pos rfl]at hv
  rw[hL];exact hv
end
end Go.KX

namespace Go.KX
open Go Go.RowKit
noncomputable section
theorem run_partL{P:Program}{t:TypeId}{cs:List Value}{off:Nat}{v:Value}{w:World}(h:partL P t cs off=some v):(part t cs.toArray off).run P w= .ok v w:=by
 have he:∀i:TypeInfo,cs.toArray.extract off (off+i.size)=((cs.drop off).take i.size).toArray:=fun i=>by
  apply Array.ext'
  simp[List.take_drop]
 unfold partL at h
 split at h
 ·rename_i fs hu
  cases hi:P.info? t with
  |none=>rw[hi]at h;cases h
  |some i=>
   rw[hi]at h
   cases h
   simp only[part,isAgg,Sem.run_bind,run_underlying hu,Result.andThen_ok,Sem.run_pure,if_true]
   simp[sizeOf,typeInfo,hi,List.take_drop]
 ·rename_i n e hu
  cases hi:P.info? t with
  |none=>rw[hi]at h;cases h
  |some i=>
   rw[hi]at h
   cases h
   simp only[part,isAgg,Sem.run_bind,run_underlying hu,Result.andThen_ok,Sem.run_pure,if_true]
   simp[sizeOf,typeInfo,hi,List.take_drop]
 ·rename_i u h1 h2 hu
  have h3:(isAgg t).run P w= .ok false w:=by
   simp only[isAgg,Sem.run_bind,run_underlying hu,Result.andThen_ok]
   cases u<;>first|rfl|exact absurd hu (h1 _)|exact absurd hu (h2 _ _)
  simp[part,h3,h]
 ·cases h
theorem run_eqFs{P:Program}{d d':Nat}(ih:∀t x y b,eqB P d t x y=some b→∀w,(Op.equalIn d' t x y).run P w= .ok b w){xs ys:Array Value}:∀{fs:List Field} {b:Bool},eqFs P (eqB P d) xs.toList ys.toList fs=some b→
  ∀w,(Op.eqFields d' xs ys fs).run P w= .ok b w:=by
 intro fs
 induction fs with
 |nil=>intro b h w;simp only[eqFs,Option.some.injEq]at h;subst h;simp[Op.eqFields]
 |cons f fs ihf=>
  intro b h w
  unfold eqFs at h
  split at h
  ·cases h
  ·rename_i hn
   have hn:f.name≠"_":=of_decide_eq_false hn
   split at h
   ·rename_i a c ha hc
    split at h
    ·rename_i r r' hr hr'
     simp only[Option.some.injEq]at h
     subst h
     have h1:=run_partL (w:=w) ha
     have h2:=run_partL (w:=w) hc
     have h3:=ih _ _ _ _ hr w
     have h4:=ihf hr' w
     simp only[Op.eqFields,hn,ne_eq,not_false_eq_true,if_true,Sem.run_bind,h1,h2,h3,Result.andThen_ok]
     cases r with
     |false=>simp
     |true=>simpa using h4
    ·cases h
   ·cases h
theorem run_eqIts{P:Program}{d d' e sz:Nat}(ih:∀t x y b,eqB P d t x y=some b→∀w,(Op.equalIn d' t x y).run P w= .ok b w){xs ys:Array Value}:∀{is:List Nat} {b:Bool},eqIts P (eqB P d) e sz xs.toList ys.toList is=some b→
  ∀w,(Op.eqItems d' e sz xs ys is).run P w= .ok b w:=by
 intro is
 induction is with
 |nil=>intro b h w;simp only[eqIts,Option.some.injEq]at h;subst h;simp[Op.eqItems]
 |cons i is ihf=>
  intro b h w
  unfold eqIts at h
  split at h
  ·rename_i a c ha hc
   split at h
   ·rename_i r r' hr hr'
    simp only[Option.some.injEq]at h
    subst h
    have h1:=run_partL (w:=w) ha
    have h2:=run_partL (w:=w) hc
    have h3:=ih _ _ _ _ hr w
    have h4:=ihf hr' w
    simp only[Op.eqItems,Sem.run_bind,h1,h2,h3,Result.andThen_ok]
    cases r with
    |false=>simp
    |true=>simpa using h4
   ·cases h
  ·cases h
theorem run_eqB{P:Program}:∀(d d':Nat) (t:TypeId) (x y:Value) (b:Bool),eqB P d t x y=some b→∀w,(Op.equalIn (d+d') t x y).run P w= .ok b w:=by
 intro d
 induction d with
 |zero=>intro d' t x y b h;simp[eqB]at h
 |succ d ih=>
  intro d' t x y b h w
  rw[show d+1+d'=(d+d')+1 by omega]
  unfold eqB at h
  split at h
  ·rename_i hu
   split at h
   ·cases h;exact run_equalIn_bool' w _ _ _ _ hu
   ·cases h
  ·rename_i hu
   split at h
   ·rename_i k a k' c
    split at h
    ·rename_i hk
     have hk:k=k':=of_decide_eq_true hk
     subst hk
     cases h;exact run_equalIn_int w _ _ _ _ _ _ hu
    ·cases h
   ·cases h
  ·rename_i fs hu
   split at h
   ·split at h
    ·rename_i hp
     have hf:P.fieldsOf t=fs:=by simp[Program.fieldsOf,hu]
     rw[run_equalIn_struct w (d+d') t _ _ (by rw[hf];exact hu) hp,hf]
     exact run_eqFs (fun t x y b h w=>ih d' t x y b h w) h w
    ·cases h
   ·cases h
  ·rename_i n e hu
   split at h
   ·rename_i i hi
    rw[run_equalIn_array w (d+d') _ _ hu hi]
    exact run_eqIts (fun t x y b h w=>ih d' t x y b h w) h w
   ·cases h
  ·cases h
theorem plainL_den{m:Nat→MV}:∀{xs:List SV} {vs:List Value},plainL xs=some vs→denL m xs=vs:=by
 intro xs
 induction xs with
 |nil=>intro vs h;cases h;rfl
 |cons x xs ih=>
  intro vs h
  cases x with
  |i k n=>obtain⟨us,h1,rfl⟩:=Option.map_eq_some_iff.1 h;simp only[denL,den,ih h1]
  |b e=>obtain⟨us,h1,rfl⟩:=Option.map_eq_some_iff.1 h;simp only[denL,den,ih h1]
  |v y=>obtain⟨us,h1,rfl⟩:=Option.map_eq_some_iff.1 h;simp only[denL,den,ih h1]
  |_=>cases h
section
variable{E:Env}{b:Base}{s:Map E.G.car}{d:Nat}{type:TypeId}{pos:String}{after:Array Edge}{guard:Option (Nat×Bool)}
variable{R:Type}{r:R}
theorem aggEqK_sound{ty:TypeId}{op:BinOp}{xs ys:List SV}{K:Bool→Option R}(h:aggEqK E.P ty op xs ys K=some r):
  ∃e,K e=some r∧(op= .eql∨op= .neq)∧∀(X Y:Operand) (m:Nat→MV) (w:World),(binOp op ty (den m (.g xs)) (den m (.g ys))).run E.P w= .ok (.bool e) w∧(eqGuard op ty X Y (den m (.g xs)) (den m (.g ys))).run E.P w= .ok () w:=by
 unfold aggEqK at h
 split at h
 ·rename_i vs us hvs hus
  have fin:∀(q:Bool),eqB E.P 8 ty (.agg vs.toArray) (.agg us.toArray)=some q→E.P.eqGuardType E.P.depth ty=false→∀(X Y:Operand) (m:Nat→MV) (w:World),
    (binOp .eql ty (den m (.g xs)) (den m (.g ys))).run E.P w= .ok (.bool q) w∧(binOp .neq ty (den m (.g xs)) (den m (.g ys))).run E.P w= .ok (.bool (!q)) w∧∀op,(eqGuard op ty X Y (den m (.g xs)) (den m (.g ys))).run E.P w= .ok () w:=by
   intro q hq hg X Y m w
   have h1:=run_eqB 8 9992 ty _ _ q hq w
   simp only[den,plainL_den hvs,plainL_den hus]
   refine⟨?_,?_,fun op=>run_eqGuard_agg w _ _ _ _ _ _ hg⟩
   ·rw[run_eql_struct,h1];rfl
   ·rw[run_neq_struct,h1];rfl
  split at h
  ·rename_i q hg hq
   exact⟨q,h,.inl rfl,fun X Y m w=>⟨(fin q hq hg X Y m w).1,(fin q hq hg X Y m w).2.2 _⟩⟩
  ·rename_i q hg hq
   exact⟨!q,h,.inr rfl,fun X Y m w=>⟨(fin q hq hg X Y m w).2.1,(fin q hq hg X Y m w).2.2 _⟩⟩
  ·cases h
 ·cases h
theorem op_aggEq{ty ty':TypeId}{x y:Operand}{v u:SV}{e:Bool}{x':SV}{op:BinOp}(hN:d<b.N)(hx:Ev E s x v)(hy:Ev E s y u)
  (h:∀(X Y:Operand) (m:Nat→MV) (w:World),(v.ok m)→(binOp op ty (den m v) (den m u)).run E.P w= .ok (.bool e) w∧(eqGuard op ty X Y (den m v) (den m u)).run E.P w= .ok () w) (hx':x'= .b e∨x'= .v (.bool e)):
  OpRun (cxOf E b) ⟨some d,.binOp op ty x y ty',type,pos,after,guard⟩ s ⟨okeys x++okeys y,[(.t d,some (.x x'))],[]⟩:=
 op_pure rfl hN (by simp) fun m A a w g hr hrel=>by
  obtain⟨h1,k1⟩:=hx.eval hrel (fun k hk=>hr k (by simp[hk]))
  have h2:=(hy.eval hrel (fun k hk=>hr k (by simp[hk]))).1
  obtain⟨h3,h4⟩:=h x y m w k1
  refine⟨by rcases hx' with rfl|rfl<;>trivial,?_⟩
  have hd:den m x'= .bool e:=by rcases hx' with rfl|rfl<;>rfl
  rw[hd]
  simp[execOp,h1,h2,h3,h4]
theorem isNilV_eq{w:SV}(h:isNilV w=true):w= .v (.slice none 0 0):=by
 unfold isNilV at h
 split at h
 ·rfl
 ·cases h
theorem nilEqK_sound{ty:TypeId}{op:BinOp}{e:Bool}{u:SV}{K:Bool→Option R}(h:nilEqK E.P ty op e u K=some r):
  ∃e',K e'=some r∧∀(X Y:Operand) (m:Nat→MV) (w:World) (p:Option Addr) (n c:Nat),p.isNone=e→(binOp op ty (.slice p n c) (den m u)).run E.P w= .ok (.bool e') w∧(eqGuard op ty X Y (.slice p n c) (den m u)).run E.P w= .ok () w:=by
 unfold nilEqK at h
 split at h
 ·rename_i el hu hn
  rw[isNilV_eq hn]
  refine⟨e,h,fun X Y m w p n c hp=>?_⟩
  have h1:=run_equal_slice_nil (P:=E.P) w ty el p n c hu
  rw[hp]at h1
  simp[den,eqGuard,binOp,h1]
 ·rename_i el hu hn
  rw[isNilV_eq hn]
  refine⟨!e,h,fun X Y m w p n c hp=>?_⟩
  have h1:=run_equal_slice_nil (P:=E.P) w ty el p n c hu
  rw[hp]at h1
  simp[den,eqGuard,binOp,h1]
 ·cases h
theorem wrap_bit{k:IntKind}{a:Int}:k.wrap ((BitVec.ofInt k.bits a&&& BitVec.ofInt k.bits 1).toNat:Int)=a%2:=by
 have h1:(BitVec.ofInt k.bits a&&& BitVec.ofInt k.bits 1).toNat=(a%2).toNat:=by
  have e1:(BitVec.ofInt k.bits 1).toNat=1:=by cases k<;>rfl
  rw[BitVec.toNat_and,e1,Nat.and_one_is_mod,BitVec.toNat_ofInt]
  cases k<;>simp only[IntKind.bits]<;>omega
 rw[h1]
 have h2:((a%2).toNat:Int)=a%2:=by omega
 rw[h2]
 have h3:a%2=0∨a%2=1:=by omega
 rcases h3 with h3|h3<;>rw[h3]<;>cases k<;>rfl
theorem or_tab:((List.range 256).all fun n=>(n|||128)==128+n%128)=true:=by decide+kernel
theorem wrap_or{a:Int}:IntKind.u8.wrap ((BitVec.ofInt IntKind.u8.bits a|||BitVec.ofInt IntKind.u8.bits 128).toNat:Int)=128+a%128:=by
 have h1:(BitVec.ofInt IntKind.u8.bits a|||BitVec.ofInt IntKind.u8.bits 128).toNat=128+(a%256).toNat%128:=by
  rw[BitVec.toNat_or,BitVec.toNat_ofInt,BitVec.toNat_ofInt]
  have h:=List.all_eq_true.1 or_tab (a%256).toNat (List.mem_range.2 (by omega))
  exact eq_of_beq h
 rw[h1]
 show(((128+(a%256).toNat%128:Nat):Int))%256=_
 omega
theorem wrap_land{a b:Int}(ha:0≤a∧a≤9223372036854775807)(hb:0≤b∧b≤9223372036854775807):IntKind.i64.wrap ((BitVec.ofInt IntKind.i64.bits a&&& BitVec.ofInt IntKind.i64.bits b).toNat:Int)=landI a b:=by
 have h1:(BitVec.ofInt IntKind.i64.bits a&&& BitVec.ofInt IntKind.i64.bits b).toNat=a.toNat&&& b.toNat:=by
  rw[BitVec.toNat_and,BitVec.toNat_ofInt,BitVec.toNat_ofInt]
  have e1:(a%((2 ^ IntKind.i64.bits:Nat):Int)).toNat=a.toNat:=by
   show(a%18446744073709551616).toNat=_
   omega
  have e2:(b%((2 ^ IntKind.i64.bits:Nat):Int)).toNat=b.toNat:=by
   show(b%18446744073709551616).toNat=_
   omega
  rw[e1,e2]
 rw[h1]
 have h2:a.toNat&&& b.toNat≤a.toNat:=Nat.and_le_left
 exact wrap_of ⟨by omega,by omega⟩
theorem wrap_landU{a b:Int}(ha:0≤a∧a≤18446744073709551615)(hb:0≤b∧b≤18446744073709551615):IntKind.u64.wrap ((BitVec.ofInt IntKind.u64.bits a&&& BitVec.ofInt IntKind.u64.bits b).toNat:Int)=landI a b:=by
 have h1:(BitVec.ofInt IntKind.u64.bits a&&& BitVec.ofInt IntKind.u64.bits b).toNat=a.toNat&&& b.toNat:=by
  rw[BitVec.toNat_and,BitVec.toNat_ofInt,BitVec.toNat_ofInt]
  have e1:(a%((2 ^ IntKind.u64.bits:Nat):Int)).toNat=a.toNat:=by
   show(a%18446744073709551616).toNat=_
   omega
  have e2:(b%((2 ^ IntKind.u64.bits:Nat):Int)).toNat=b.toNat:=by
   show(b%18446744073709551616).toNat=_
   omega
  rw[e1,e2]
 rw[h1]
 have h2:a.toNat&&& b.toNat≤a.toNat:=Nat.and_le_left
 have h3:∀n:Int,IntKind.u64.wrap n=n%18446744073709551616:=fun n=>by simp[IntKind.wrap,IntKind.bits,IntKind.signed]
 rw[h3]
 unfold landI
 omega
theorem shK_sound{ante:Option Bool}{op:BinOp}{k:IntKind}{a p:Int}{lb:Bool}{K:SV→Option R}(h:shK ante op k a p lb K=some r):
  ∃x,K x=some r∧(∀m,x.ok m)∧(AnteOK ante→∀(X Y:Operand) (m:Nat→MV) (ty:TypeId) (k':IntKind) (w:World),(notAnd op=true∨k'=k)→(binOp op ty (.int k a) (.int k' p)).run E.P w= .ok (den m x) w∧(eqGuard op ty X Y (.int k a) (.int k' p)).run E.P w= .ok () w):=by
 unfold shK at h
 split at h
 ·split at h
  ·rename_i hk
   have hk:=isI64_eq hk
   subst hk
   obtain⟨h1,h2⟩:=chkA_sound h
   refine⟨_,h1,fun _=>trivial,fun ha X Y m ty k' w _=>?_⟩
   obtain⟨⟨h3,h4⟩,h5⟩:=h2 ha
   have h6:¬p<0:=by omega
   have h7:min p.toNat 64=p.toNat:=by omega
   simp only[binOp,Op.shift,h6,if_false,den,eqGuard]
   simp[IntKind.bits,h7,wrap_of h5]
  ·cases h
 ·obtain⟨h1,h2⟩:=chkA_sound h
  refine⟨_,h1,fun _=>trivial,fun ha X Y m ty k' w _=>?_⟩
  obtain⟨h3,h4⟩:=h2 ha
  have h6:¬p<0:=by omega
  have h7:min p.toNat k.bits=p.toNat:=by omega
  simp only[binOp,Op.shift,h6,if_false,den,eqGuard]
  simp[h7]
 ·split at h
  ·split at h
   ·rename_i hp
    have hp:p=1:=of_decide_eq_true hp
    subst hp
    refine⟨_,h,fun _=>trivial,fun ha X Y m ty k' w hk=>?_⟩
    have hk:k'=k:=hk.resolve_left (fun h=>nomatch (show false=true from h))
    subst hk
    simp only[binOp,Op.intBits,den,eqGuard]
    rw[←wrap_bit (k:=k') (a:=a)]
    simp
   ·split at h
    ·rename_i hb2
     have hb2:=of_decide_eq_true hb2
     obtain⟨h1,h2⟩:=chkA_sound h
     refine⟨_,h1,fun _=>trivial,fun ha X Y m ty k' w hk=>?_⟩
     have hk:k'= .u64:=hk.resolve_left (fun h=>nomatch (show false=true from h))
     subst hk
     simp only[binOp,Op.intBits,den,eqGuard]
     rw[←wrap_landU (h2 ha) hb2]
     simp
    ·cases h
  ·split at h
   ·rename_i hi
    have hi:=isI64_eq hi
    subst hi
    obtain⟨h1,h2⟩:=chkA_sound h
    refine⟨_,h1,fun _=>trivial,fun ha X Y m ty k' w hk=>?_⟩
    obtain⟨h3,h4⟩:=h2 ha
    have hk:k'= .i64:=hk.resolve_left (fun h=>nomatch (show false=true from h))
    subst hk
    simp only[binOp,Op.intBits,den,eqGuard]
    rw[←wrap_land h3 h4]
    simp
   ·cases h
 ·split at h
  ·rename_i hp
   have hp:p=128:=of_decide_eq_true hp
   subst hp
   refine⟨_,h,fun _=>trivial,fun ha X Y m ty k' w hk=>?_⟩
   have hk:k'= .u8:=hk.resolve_left (fun h=>nomatch (show false=true from h))
   subst hk
   simp only[binOp,Op.intBits,den,eqGuard]
   rw[←wrap_or (a:=a)]
   simp
  ·cases h
 ·cases h
theorem op_binSh{ty ty':TypeId}{x y:Operand}{v u x':SV}{k k':IntKind}{a p:Int}{op:BinOp}(hN:d<b.N)(hx:Ev E s x v)(hy:Ev E s y u)(hv:∀m,den m v= .int k a)(hu:∀m,den m u= .int k' p)(hok:∀m,x'.ok m)
  (h:∀(X Y:Operand) (m:Nat→MV) (w:World),(binOp op ty (.int k a) (.int k' p)).run E.P w= .ok (den m x') w∧(eqGuard op ty X Y (.int k a) (.int k' p)).run E.P w= .ok () w):
  OpRun (cxOf E b) ⟨some d,.binOp op ty x y ty',type,pos,after,guard⟩ s ⟨okeys x++okeys y,[(.t d,some (.x x'))],[]⟩:=
 op_pure rfl hN (by simp) fun m A a w g hr hrel=>by
  have h1:=(hx.eval hrel (fun k hk=>hr k (by simp[hk]))).1
  have h2:=(hy.eval hrel (fun k hk=>hr k (by simp[hk]))).1
  rw[hv]at h1
  rw[hu]at h2
  obtain⟨h3,h4⟩:=h x y m w
  exact⟨hok m,by simp[execOp,h1,h2,h3,h4]⟩
theorem hdrOf_den{v:SV}{L:Nat}(h:hdrOf v=some L)(m:Nat→MV):den m v= .slice (m L).p (m L).n (m L).c:=by
 cases v<;>first|(cases h;rfl)|cases h
theorem op_ixN{ty L sz t:Nat}{x y:Operand}{u:SV}{k:IntKind}{i:Int}{key:Key}{l:List (E.G.car t)}(hN:d<b.N)(hx:Ev E s x (.n L))(hy:Ev E s y u)(hu:∀m,den m u= .int k i)(hl:ListIs s L key t l)(h:sliceSz E.P ty=some sz)(h0:0≤i∧i<(l.length:Int)):
  OpRun (cxOf E b) ⟨some d,.indexAddr ty x y,type,pos,after,guard⟩ s ⟨key::(okeys x++okeys y),[(.t d,some (.x (.e L i sz 0)))],[]⟩:=
 op_pure rfl hN (by simp) fun m A a w g hr hrel=>by
  have e1:=(hx.eval hrel (fun k hk=>hr k (by simp[hk]))).1
  have e2:=(hy.eval hrel (fun k hk=>hr k (by simp[hk]))).1
  rw[hu]at e2
  have hlen:=hl.len hrel (hr key (by simp))
  obtain⟨bb,oo,hp⟩:=hl.ptr hrel (hr key (by simp)) (fun e=>by subst e;simp at h0;omega)
  have h1:i<((m L).n:Int):=by rw[hlen];exact h0.2
  refine⟨⟨h0.1,h1⟩,?_⟩
  simp[execOp,e1,e2,den,hp,run_indexAt h h0.1 h1,elemAddr]
theorem op_ixW{ty L sz t:Nat}{x y:Operand}{u:SV}{k:IntKind}{i lo n:Int}{key:Key}{l:List (E.G.car t)}(hN:d<b.N)(hx:Ev E s x (.w L lo n sz))(hy:Ev E s y u)(hu:∀m,den m u= .int k i)(hl:ListIs s L key t l)(h:sliceSz E.P ty=some sz)(h0:0≤i∧i<n):
  OpRun (cxOf E b) ⟨some d,.indexAddr ty x y,type,pos,after,guard⟩ s ⟨key::(okeys x++okeys y),[(.t d,some (.x (.e L (lo+i) sz 0)))],[]⟩:=
 op_pure rfl hN (by simp) fun m A a w g hr hrel=>by
  obtain⟨e1,k1⟩:=hx.eval hrel (fun k hk=>hr k (by simp[hk]))
  have e2:=(hy.eval hrel (fun k hk=>hr k (by simp[hk]))).1
  rw[hu]at e2
  obtain⟨q1,q2,q3⟩:=k1
  have hlen:=hl.len hrel (hr key (by simp))
  obtain⟨bb,oo,hp⟩:=hl.ptr hrel (hr key (by simp)) (fun e=>by subst e;simp at hlen;omega)
  have hcap:lo.toNat<(m L).c:=by
   have:(m L).n≤(m L).c:=by
    cases hl with
    |row h3=>
     have h4:=hrel.ent _ _ ((hr _ (by simp)).trans h3)
     obtain⟨h5,h6⟩:=h4
     rcases h6 with⟨_,h7,_⟩|⟨_,_,cur,_,_,h7,_⟩
     ·rw[h5,h7];exact Nat.zero_le _
     ·rw[h5];exact h7
    |ext h3=>
     have h4:Hd _ _ _ (.sl _ _) (.slice (m L).p (m L).n (m L).c):=hrel.ent (.x L) _ ((hr _ (by simp)).trans h3)
     exact h4.len.2
   omega
  have hne:¬(m L).c=lo.toNat:=by omega
  refine⟨⟨by omega,by omega⟩,?_⟩
  have h1:i<(n.toNat:Int):=by omega
  have hadd:(lo+i).toNat*sz=lo.toNat*sz+i.toNat*sz:=by
   have:(lo+i).toNat=lo.toNat+i.toNat:=by omega
   rw[this,Nat.add_mul]
  have hpa:(m L).p.map (fun x=>x.add (lo.toNat*sz))=some ⟨bb,oo+lo.toNat*sz,none⟩:=by rw[hp];simp[addr_add]
  have h2:=run_indexAt (P:=E.P) (b:=bb) (o:=oo+lo.toNat*sz) (cap:=(m L).c-lo.toNat) (k:=k) h h0.1 h1 w
  simp only[execOp,e1,e2,den,if_neg hne,hp,elemAddr,Option.map_some,hadd,addr_add]
  simp[h2,Nat.add_assoc]
theorem op_nilCheckE{L k j t:Nat}{i:Int}{x:Operand}{key:Key}{l:List (E.G.car t)}(hN:d<b.N)(hx:Ev E s x (.e L i k j))(hl:ListIs s L key t l):
  OpRun (cxOf E b) ⟨some d,.nilCheck x,type,pos,after,guard⟩ s ⟨key::okeys x,[(.t d,some (.x (.e L i k j)))],[]⟩:=
 op_pure rfl hN (fun _ h=>by cases h) fun m A a w g hr hrel=>by
  obtain⟨h1,k1⟩:=hx.eval hrel (fun k hk=>hr k (by simp[hk]))
  have hlen:=hl.len hrel (hr key (by simp))
  obtain⟨bb,oo,hp⟩:=hl.ptr hrel (hr key (by simp)) (fun e=>by subst e;obtain⟨h2,h3⟩:=k1;simp at hlen;omega)
  exact⟨k1,by simp[execOp,h1,den,hp,elemAddr]⟩
theorem run_slice2{P:Program}{ty sz n c a e:Nat}{p:Option Addr}{lo hi:Option Value}(h:sliceSz P ty=some sz)(hlo:(lo=none∧a=0)∨∃k,lo=some (.int k (a:Int)))(hhi:(hi=none∧e=n)∨∃k,hi=some (.int k (e:Int)))
  (hae:a≤e) (hen:e≤n) (hnc:n≤c) (w:World):(Instr.sliceAt ty (.slice p n c) lo hi none).run P w= .ok (.slice (if c=a then p else p.map (·.add (a*sz))) (e-a) (c-a)) w:=by
 unfold sliceSz at h
 split at h
 ·rename_i el he
  cases hi':P.info? el with
  |none=>rw[hi']at h;cases h
  |some inf=>
   rw[hi']at h
   cases h
   have h1:(a:Int)≤(e:Int):=by omega
   have h2:(a:Int)≤(n:Int):=by omega
   have h3:(e:Int)≤(c:Int):=by omega
   rcases hlo with⟨rfl,rfl⟩|⟨k,rfl⟩<;>rcases hhi with⟨rfl,rfl⟩|⟨k',rfl⟩<;>
    simp[Instr.sliceAt,Instr.slice,Instr.sliceBounds,Instr.sliceBound,run_underlying he,asIntOf,h1,h2,h3,sizeOf,typeInfo,hi',hae,hen,hnc,Nat.le_trans hen hnc]
 ·cases h
theorem run_slice2c{P:Program}{ty sz n c a e:Nat}{p:Option Addr}{lo hi:Option Value}(h:sliceSz P ty=some sz)(hlo:(lo=none∧a=0)∨∃k,lo=some (.int k (a:Int)))(hhi:(hi=none∧e=n)∨∃k,hi=some (.int k (e:Int)))
  (hae:a≤e) (hec:e≤c) (w:World):(Instr.sliceAt ty (.slice p n c) lo hi none).run P w= .ok (.slice (if c=a then p else p.map (·.add (a*sz))) (e-a) (c-a)) w:=by
 unfold sliceSz at h
 split at h
 ·rename_i el he
  cases hi':P.info? el with
  |none=>rw[hi']at h;cases h
  |some inf=>
   rw[hi']at h
   cases h
   have h1:(a:Int)≤(e:Int):=by omega
   have h3:(e:Int)≤(c:Int):=by omega
   rcases hlo with⟨rfl,rfl⟩|⟨k,rfl⟩<;>rcases hhi with⟨rfl,rfl⟩|⟨k',rfl⟩<;>
    simp[Instr.sliceAt,Instr.slice,Instr.sliceBounds,Instr.sliceBound,run_underlying he,asIntOf,h1,h3,sizeOf,typeInfo,hi',hae,hec]
 ·cases h
theorem run_slice3{P:Program}{ty sz n c a e f:Nat}{p:Option Addr}{lo:Option Value}{k' k2:IntKind}(h:sliceSz P ty=some sz)(hlo:(lo=none∧a=0)∨∃k,lo=some (.int k (a:Int)))
  (hae:a≤e) (hef:e≤f) (hfc:f≤c) (w:World):∃v,(Instr.sliceAt ty (.slice p n c) lo (some (.int k' (e:Int))) (some (.int k2 (f:Int)))).run P w= .ok v w:=by
 unfold sliceSz at h
 split at h
 ·rename_i el he
  cases hi':P.info? el with
  |none=>rw[hi']at h;cases h
  |some inf=>
   rw[hi']at h
   cases h
   have h1:(a:Int)≤(e:Int):=by omega
   have h2:(e:Int)≤(f:Int):=by omega
   have h3:(f:Int)≤(c:Int):=by omega
   rcases hlo with⟨rfl,rfl⟩|⟨k,rfl⟩<;>
    simp[Instr.sliceAt,Instr.slice,Instr.sliceBounds,Instr.sliceBound,run_underlying he,asIntOf,h1,h2,h3,sizeOf,typeInfo,hi',hae,hef,hfc]
 ·cases h
theorem run_sliceA{P:Program}{ty n sz:Nat}{a:Addr}(h:arrSz P ty=some (n,sz))(w:World):(Instr.sliceAt ty (.pointer (some a)) none none none).run P w= .ok (.slice (some a) n n) w:=by
 unfold arrSz at h
 split at h
 ·rename_i n' el he
  cases hi:P.info? el with
  |none=>rw[hi]at h;cases h
  |some inf=>
   rw[hi]at h
   cases h
   simp[Instr.sliceAt,Instr.sureAddr,Instr.sliceBounds,run_underlying he,sizeOf,typeInfo,hi]
   intro _
   rfl
 ·cases h
theorem op_sliceA{ty L o n sz:Nat}{x:Operand}(hN:d<b.N)(hx:Ev E s x (.p L o))(h:arrSz E.P ty=some (n,sz)):
  OpRun (cxOf E b) ⟨some d,.slice ty x none none none,type,pos,after,guard⟩ s ⟨okeys x,[(.t d,some (.x (.s L o n n)))],[]⟩:=
 op_pure rfl hN (by simp) fun m A a w g hr hrel=>by
  have e1:=(hx.eval hrel (fun k hk=>hr k hk)).1
  refine⟨trivial,?_⟩
  simp only[execOp,e1,den,Option.map_none]
  have:=run_sliceA (a:=⟨(m L).b,o,none⟩) h w
  simp[Sem.run_bind,this]
def EvO(E:Env)(s:Map E.G.car):Option Operand→Int→Int→Prop
 |none,dflt,a=>a=dflt
 |some x,_,a=>∃v k,Ev E s x v∧∀m,den m v= .int k a
theorem optK_sound{c:EC E}{M:Map E.G.car}(hS:Sees c M){x:Option Operand}{dflt:Int}{K:Int→Option R}(h:optK c x dflt K=some r):∃a,K a=some r∧EvO E M x dflt a:=by
 unfold optK at h
 split at h
 ·exact⟨dflt,h,rfl⟩
 ·rename_i x
  obtain⟨v,h1,hv⟩:=evK_sound hS h
  obtain⟨k,n,l,h2,h3⟩:=intK_sound h1
  exact⟨n,h2,v,k,hv,h3⟩
theorem op_sliceW{ty L sz t:Nat}{x:Operand}{lo hi:Option Operand}{a' e':Int}{key:Key}{l:List (E.G.car t)}(hN:d<b.N)(hx:Ev E s x (.h L))(hlo:EvO E s lo 0 a')(hhi:EvO E s hi (l.length:Int) e')(hl:ListIs s L key t l)(h:sliceSz E.P ty=some sz)
  (h0:0≤a'∧a'≤e'∧e'≤(l.length:Int)):
  OpRun (cxOf E b) ⟨some d,.slice ty x lo hi none,type,pos,after,guard⟩ s ⟨key::(okeys x++(optKeys lo++optKeys hi)),[(.t d,some (.x (.w L a' (e'-a') sz)))],[]⟩:=
 op_pure rfl hN (by simp) fun m A a w g hr hrel=>by
  have e1:=(hx.eval hrel (fun k hk=>hr k (by simp[hk]))).1
  have hlen:=hl.len hrel (hr key (by simp))
  have hcap:(m L).n≤(m L).c:=by
   cases hl with
   |row h3=>
    have h4:=hrel.ent _ _ ((hr _ (by simp)).trans h3)
    obtain⟨h5,h6⟩:=h4
    rcases h6 with⟨_,h7,_⟩|⟨_,_,cur,_,_,h7,_⟩
    ·rw[h5,h7];exact Nat.zero_le _
    ·rw[h5];exact h7
   |ext h3=>
    have h4:Hd _ _ _ (.sl _ _) (.slice (m L).p (m L).n (m L).c):=hrel.ent (.x L) _ ((hr _ (by simp)).trans h3)
    exact h4.len.2
  have hlo':(lo.map a.eval=none∧a'.toNat=0)∨∃k,lo.map a.eval=some (.int k (a'.toNat:Int)):=by
   cases lo with
   |none=>exact .inl ⟨rfl,by have:a'=0:=hlo;omega⟩
   |some y=>
    obtain⟨v,k,hv,hden⟩:=hlo
    have e2:=(hv.eval hrel (fun k hk=>hr k (by simp[optKeys,hk]))).1
    rw[hden]at e2
    exact .inr ⟨k,by rw[Option.map_some,e2];congr 2;omega⟩
  have hhi':(hi.map a.eval=none∧e'.toNat=(m L).n)∨∃k,hi.map a.eval=some (.int k (e'.toNat:Int)):=by
   cases hi with
   |none=>exact .inl ⟨rfl,by have:e'=(l.length:Int):=hhi;omega⟩
   |some y=>
    obtain⟨v,k,hv,hden⟩:=hhi
    have e2:=(hv.eval hrel (fun k hk=>hr k (by simp[optKeys,hk]))).1
    rw[hden]at e2
    exact .inr ⟨k,by rw[Option.map_some,e2];congr 2;omega⟩
  refine⟨⟨h0.1,by omega,by omega⟩,?_⟩
  have h2:=run_slice2 (P:=E.P) (p:=(m L).p) h hlo' hhi' (by omega) (by omega) hcap w
  have e3:(e'-a').toNat=e'.toNat-a'.toNat:=by omega
  simp only[execOp,e1,den,e3,h2]
  simp[h2]
theorem EvO.val{s:Map E.G.car}{x:Option Operand}{d0 a':Int}{m:Nat→MV}{A:Nat→Prop}{g:Map E.G.car}{ac:Act}{w:World}(h:EvO E s x d0 a')(h0:0≤a')(hrel:Rel (cxOf E b) m A g ac w)(hr:∀k∈optKeys x,g k=s k):
  (x.map ac.eval=none∧a'=d0)∨∃k,x.map ac.eval=some (.int k (a'.toNat:Int)):=by
 cases x with
 |none=>exact .inl ⟨rfl,h⟩
 |some y=>
  obtain⟨v,k,hv,hden⟩:=h
  have e2:=(hv.eval hrel (fun k hk=>hr k hk)).1
  rw[hden]at e2
  exact .inr ⟨k,by rw[Option.map_some,e2];congr 2;omega⟩
theorem op_sliceV{ty L sz t ety:Nat}{x:Operand}{lo hi:Option Operand}{a' e' i n:Int}{l:List (E.G.car t)}(hN:d<b.N)(hx:Ev E s x (.w L i n sz))(hlo:EvO E s lo 0 a')(hhi:EvO E s hi n e')(hl:s (.o L)=some (.row ety t l))(h:sliceSz E.P ty=some sz)
  (h0:i=0∧0≤a'∧a'≤e'∧e'≤(l.length:Int)):
  OpRun (cxOf E b) ⟨some d,.slice ty x lo hi none,type,pos,after,guard⟩ s ⟨.o L::(okeys x++(optKeys lo++optKeys hi)),[(.t d,some (.x (.w L a' (e'-a') sz)))],[]⟩:=
 op_pure rfl hN (by simp) fun m A a w g hr hrel=>by
  obtain⟨rfl,h1,h2,h3⟩:=h0
  obtain⟨e1,k1,k2,k3⟩:=hx.eval hrel (fun k hk=>hr k (by simp[hk]))
  obtain⟨h5,h6⟩:=hrel.ent _ _ ((hr _ (by simp)).trans hl)
  have hcap:l.length≤(m L).c:=by
   rcases h6 with⟨_,h7,_⟩|⟨_,_,cur,_,_,h7,_⟩
   ·rw[h7];exact Nat.zero_le _
   ·exact h7
  have hlo':=hlo.val h1 hrel (fun k hk=>hr k (by simp[hk]))
  have hhi':=hhi.val (by omega) hrel (fun k hk=>hr k (by simp[hk]))
  refine⟨⟨h1,by omega,by omega⟩,?_⟩
  have hb:(if(m L).c=(0:Int).toNat then(m L).p else(m L).p.map (·.add ((0:Int).toNat*sz)))=(m L).p:=by
   split
   ·rfl
   ·cases(m L).p with
    |none=>rfl
    |some ad=>simp[Addr.add]
  have h9:=run_slice2c (P:=E.P) (p:=(m L).p) (n:=n.toNat) (c:=(m L).c) (a:=a'.toNat) (e:=e'.toNat) (lo:=lo.map a.eval) (hi:=hi.map a.eval) h (hlo'.imp (fun q=>⟨q.1,by omega⟩) id) (hhi'.imp (fun q=>⟨q.1,by omega⟩) id) (by omega) (by omega) w
  have e3:(e'-a').toNat=e'.toNat-a'.toNat:=by omega
  have e4:den m (.w L 0 n sz)= .slice (m L).p n.toNat (m L).c:=by
   show Value.slice (if(m L).c=(0:Int).toNat then(m L).p else(m L).p.map (·.add ((0:Int).toNat*sz))) n.toNat ((m L).c-(0:Int).toNat)=_
   rw[hb];rfl
  rw[e4]at e1
  simp only[execOp,e1,den,e3]
  simp[h9]
theorem op_slice3{ty L sz t:Nat}{x y z:Operand}{lo:Option Operand}{a' e' f':Int}{key:Key}{l:List (E.G.car t)}(hN:d<b.N)(hx:Ev E s x (.h L))(hlo:EvO E s lo 0 a')(hhi:EvO E s (some z) 0 e')(hmx:EvO E s (some y) 0 f')(hl:ListIs s L key t l)(h:sliceSz E.P ty=some sz)
  (h0:0≤a'∧a'≤e'∧e'≤f'∧f'≤(l.length:Int)):
  OpRun (cxOf E b) ⟨some d,.slice ty x lo (some z) (some y),type,pos,after,guard⟩ s ⟨key::(okeys x++(optKeys lo++(okeys z++okeys y))),[(.t d,none)],[]⟩:=by
 intro m A a w g hr hf hrel K Q hK
 have hr:∀k∈key::(okeys x++(optKeys lo++(okeys z++okeys y))),g k=s k:=fun k hk=>hr k (reads_mem hk)
 have e1:=(hx.eval hrel (fun k hk=>hr k (by simp[hk]))).1
 have hlen:=hl.len hrel (hr key (by simp))
 have hcap:(m L).n≤(m L).c:=by
  cases hl with
  |row h3=>
   obtain⟨h5,h6⟩:=hrel.ent _ _ ((hr _ (by simp)).trans h3)
   rcases h6 with⟨_,h7,_⟩|⟨_,_,cur,_,_,h7,_⟩
   ·rw[h5,h7];exact Nat.zero_le _
   ·rw[h5];exact h7
  |ext h3=>
   have h4:Hd _ _ _ (.sl _ _) (.slice (m L).p (m L).n (m L).c):=hrel.ent (.x L) _ ((hr _ (by simp)).trans h3)
   exact h4.len.2
 have hlo':=hlo.val (by omega) hrel (fun k hk=>hr k (by simp[hk]))
 have hhi':=hhi.val (by omega) hrel (fun k hk=>hr k (by simp only[optKeys]at hk;simp[hk]))
 have hmx':=hmx.val (by omega) hrel (fun k hk=>hr k (by simp only[optKeys]at hk;simp[hk]))
 rcases hhi' with⟨h1,_⟩|⟨k1,h1⟩
 ·cases h1
 rcases hmx' with⟨h2,_⟩|⟨k2,h2⟩
 ·cases h2
 rw[Option.map_some,Option.some.injEq]at h1 h2
 obtain⟨v,h9⟩:=run_slice3 (P:=E.P) (p:=(m L).p) (n:=(m L).n) (c:=(m L).c) (a:=a'.toNat) (e:=e'.toNat) (f:=f'.toNat) (k':=k1) (k2:=k2) (lo:=lo.map a.eval) h (hlo'.imp (fun q=>⟨q.1,by omega⟩) id) (by omega) (by omega) (by omega) w
 have hrun:(execOp a.eval ⟨some d,.slice ty x lo (some z) (some y),type,pos,after,guard⟩).run E.P w= .ok (.value v) w:=by
  simp only[execOp,e1,den,Option.map_some,h1,h2,Sem.run_bind]
  rw[h9]
  rfl
 refine⟨fun _ _=>trivial,?_⟩
 rw[semAt_of _ _ (by simp),hrun,Oper.uponIn_value]
 exact hK m A _ w (hrel.putNone hN)
theorem denL_drop{m:Nat→MV}:∀(xs:List SV) (q:Nat),denL m (xs.drop q)=(denL m xs).drop q
 |[],q=>by simp[denL]
 |x::xs,0=>rfl
 |x::xs,q+1=>by simp only[List.drop_succ_cons,denL,denL_drop xs q]
theorem denL_take{m:Nat→MV}:∀(xs:List SV) (q:Nat),denL m (xs.take q)=(denL m xs).take q
 |[],q=>by simp[denL]
 |x::xs,0=>rfl
 |x::xs,q+1=>by simp only[List.take_succ_cons,denL,denL_take xs q]
theorem okL_part{m:Nat→MV}{xs:List SV}{p q:Nat}(h:okL m xs):okL m ((xs.drop p).take q):=
 okL_iff.2 fun x hx=>okL_iff.1 h x (List.mem_of_mem_drop (List.mem_of_mem_take hx))
theorem partK_sound{e sz q:Nat}{sh:Option Nat}{cs:List SV}{K:SV→Option R}(hsz:sizeIn E.P e=some sz)(hsh:shapeOf E.P e=some sh)(h:partK sh sz q cs K=some r):
  ∃y,K y=some r∧∀m,(okL m cs→y.ok m)∧partL E.P e (denL m cs) q=some (den m y):=by
 unfold partK at h
 split at h
 ·split at h
  ·rename_i y hy
   refine⟨y,h,fun m=>⟨fun hk=>okL_iff.1 hk y (List.mem_of_getElem? hy),?_⟩⟩
   have hg:(denL m cs)[q]?=some (den m y):=by rw[denL_get,hy];rfl
   unfold shapeOf at hsh
   unfold partL
   split at hsh
   ·cases hi:E.P.info? e with
    |none=>rw[hi]at hsh;cases hsh
    |some inf=>rw[hi]at hsh;cases hsh
   ·cases hi:E.P.info? e with
    |none=>rw[hi]at hsh;cases hsh
    |some inf=>rw[hi]at hsh;cases hsh
   ·exact hg
   ·cases hsh
  ·cases h
 ·obtain⟨h1,h2⟩:=bif_some h
  refine⟨_,h2,fun m=>⟨fun hk=>okL_part hk,?_⟩⟩
  unfold sizeIn at hsz
  cases hi:E.P.info? e with
  |none=>rw[hi]at hsz;cases hsz
  |some inf=>
   rw[hi]at hsz
   cases hsz
   have hv:((E.P.info? e).map fun i=>Value.agg (((denL m cs).drop q).take i.size).toArray)=some (den m (.g ((cs.drop q).take inf.size))):=by
    rw[hi];simp only[Option.map_some,den,denL_take,denL_drop]
   unfold shapeOf at hsh
   unfold partL
   split at hsh
   ·exact hv
   ·exact hv
   ·cases hsh
   ·cases hsh
theorem run_index{ty n e sz:Nat}{cs:List Value}{k:IntKind}{i:Int}{v:Value}(hu:E.P.underlying ty=some (.array n e))(hsz:sizeIn E.P e=some sz)(h0:0≤i∧i<(n:Int))(h:partL E.P e cs (i.toNat*sz)=some v)(w:World):
  (Instr.index ty (.agg cs.toArray) (.int k i)).run E.P w= .ok v w:=by
 unfold sizeIn at hsz
 cases hi:E.P.info? e with
 |none=>rw[hi]at hsz;cases hsz
 |some inf=>
  rw[hi]at hsz
  cases hsz
  have h2:=run_partL (w:=w) h
  simp[Instr.index,asIntOf,run_underlying hu,h0.1,h0.2,sizeOf,typeInfo,hi,h2]
theorem cvPlain_den{m:Nat→MV}{v:Value}:den m (cvPlain (car:=E.G.car) (.v v))=v∧(cvPlain (car:=E.G.car) (.v v)).ok m:=by
 cases v<;>exact⟨rfl,trivial⟩
theorem SvCases.at{M:Map E.G.car}:∀{vs:List SV} {cs:List (CV E.G.car)} {ks:List Key} {us:St E.G.car},SvCases M vs cs ks us→∀{q:Nat} {u:Value},cs[q]?=some (.v u)→∃v,vs[q]?=some v∧∀m,den m v=u:=by
 intro vs cs ks us h
 induction h with
 |nil=>intro q u hq;simp at hq
 |cons hc _ ih=>
  intro q u hq
  cases q with
  |zero=>
   simp only[List.getElem?_cons_zero,Option.some.injEq]at hq
   subst hq
   cases hc with
   |plain h1 _=>exact⟨_,rfl,h1⟩
  |succ q=>simpa using ih (q:=q) (u:=u) (by simpa using hq)
theorem elemK_sound{c:EC E}{M:Map E.G.car}(hS:Sees c M){ty:TypeId}{cs:List SV}{i:Int}{lit:Bool}{K:SV→Option R}(h:elemK c ty cs i lit K=some r):
  ∃y,K y=some r∧(AnteOK c.ante→∀(m:Nat→MV) (w:World) (k:IntKind),okL m cs→y.ok m∧(Instr.index ty (.agg (denL m cs).toArray) (.int k i)).run E.P w= .ok (den m y) w):=by
 unfold elemK at h
 split at h
 ·rename_i n e hu
  split at h
  ·rename_i sz sh hsz hsh
   split at h
   ·obtain⟨h0,h1⟩:=bif_some h
    have h0:=of_decide_eq_true h0
    obtain⟨y,h2,h3⟩:=partK_sound hsz hsh h1
    exact⟨y,h2,fun _ m w k hk=>⟨(h3 m).1 hk,run_index hu hsz h0 (h3 m).2 w⟩⟩
   ·split at h
    ·cases h
    ·rename_i t ht
     obtain⟨h0,h1⟩:=bif_some h
     simp only[Bool.and_eq_true]at h0
     have hst:=Nat.eq_of_beq_eq_true h0.1
     obtain⟨cvs,ks,us,h2,h3⟩:=svCVs_sound hS h1
     split at h2
     ·cases h2
     ·rename_i l hl
      obtain⟨h4,h5⟩:=chkA_sound h2
      obtain⟨y,h6,h7⟩:=partK_sound hsz hsh h4
      refine⟨y,h6,fun ha m w k hk=>?_⟩
      have hi:=h5 ha
      subst hst
      obtain⟨hlen,hget⟩:=decL_spec hl
      have hlt:i.toNat<l.length:=by omega
      have hx:l[i.toNat]?=some (l.getD i.toNat (E.G.dft t)):=by
       rw[List.getD_eq_getElem?_getD,List.getElem?_eq_getElem hlt];rfl
      have hcell:∀j,j<E.G.sz t→∃u,(E.G.enc t (l.getD i.toNat (E.G.dft t)))[j]?=some (.v u)∧(denL m cs)[i.toNat*E.G.sz t+j]?=some u:=fun j hj=>by
       have hj':j<(E.G.enc t (l.getD i.toNat (E.G.dft t))).length:=by rw[E.G.hsz];exact hj
       obtain⟨u,hu'⟩:=E.G.hflat t h0.2 _ _ (List.getElem_mem hj')
       have h8:(E.G.enc t (l.getD i.toNat (E.G.dft t)))[j]?=some (.v u):=by rw[List.getElem?_eq_getElem hj',hu']
       obtain⟨v,h9,h10⟩:=h3.at (hget _ _ hx j _ h8)
       exact⟨u,h8,by rw[denL_get,h9,Option.map_some,h10]⟩
      have hmap:∀j,(denL m ((E.G.enc t (l.getD i.toNat (E.G.dft t))).map cvPlain))[j]?=if j<E.G.sz t then(denL m cs)[i.toNat*E.G.sz t+j]? else none:=fun j=>by
       by_cases hj:j<E.G.sz t
       ·obtain⟨u,h8,h9⟩:=hcell j hj
        rw[if_pos hj,h9,denL_get,List.getElem?_map,h8]
        simp only[Option.map_some,(cvPlain_den (E:=E) (m:=m) (v:=u)).1]
       ·rw[if_neg hj,denL_get,List.getElem?_eq_none (by rw[List.length_map,E.G.hsz];omega)]
        rfl
      have hok:okL m ((E.G.enc t (l.getD i.toNat (E.G.dft t))).map cvPlain):=okL_iff.2 fun v hv=>by
       obtain⟨cv,hcv,rfl⟩:=List.mem_map.1 hv
       obtain⟨u,rfl⟩:=E.G.hflat t h0.2 _ _ hcv
       exact(cvPlain_den (E:=E)).2
      refine⟨(h7 m).1 hok,run_index hu hsz hi ?_ w⟩
      rw[←(h7 m).2]
      have hinf:∀inf,E.P.info? e=some inf→inf.size=E.G.sz t:=fun inf hinf=>by
       unfold sizeIn at hsz
       rw[hinf]at hsz
       simpa using hsz
      unfold partL
      have hagg:((E.P.info? e).map fun i'=>Value.agg (((denL m cs).drop (i.toNat*E.G.sz t)).take i'.size).toArray)=((E.P.info? e).map fun i'=>Value.agg (((denL m ((E.G.enc t (l.getD i.toNat (E.G.dft t))).map cvPlain)).drop 0).take i'.size).toArray):=by
       cases hi':E.P.info? e with
       |none=>rfl
       |some inf=>
        simp only[Option.map_some,hinf inf hi',Option.some.injEq,Value.agg.injEq]
        congr 1
        apply List.ext_getElem?
        intro j
        rw[List.getElem?_take,List.getElem?_take,List.getElem?_drop,List.drop_zero,hmap]
        by_cases hj:j<E.G.sz t
        ·simp[hj]
        ·simp[hj]
      split
      ·exact hagg
      ·exact hagg
      ·rename_i u3 hns hna hu3
       have h9:(denL m ((E.G.enc t (l.getD i.toNat (E.G.dft t))).map cvPlain))[0]?=some (den m y):=by
        have h10:=(h7 m).2
        unfold partL at h10
        rw[hu3]at h10
        cases u3<;>first|exact h10|exact(hns _ rfl).elim|exact(hna _ _ rfl).elim
       rw[hmap]
       have:0<E.G.sz t:=by
        rcases Nat.eq_zero_or_pos (E.G.sz t)with h8|h8
        ·rw[hmap,if_neg (by omega)]at h9;cases h9
        ·exact h8
       rw[if_pos this,Nat.add_zero]
      ·rfl
  ·cases h
 ·cases h
theorem partK_load{ty:TypeId}{sz q:Nat}{sh:Option Nat}{cs:List SV}{K:SV→Option R}(hsh:shapeOf E.P ty=some sh)(h:partK sh sz q cs K=some r):
  ∃y,K y=some r∧∀(m:Nat→MV) (w:World) (bb oo:Nat),okL m cs→(∀j v,(denL m cs)[j]?=some v→w.cell? ⟨bb,oo+j,none⟩=some v)→y.ok m∧(loadVar ty ⟨bb,oo+q,none⟩).run E.P w= .ok (den m y) w:=by
 unfold partK at h
 split at h
 ·split at h
  ·rename_i y hy
   refine⟨y,h,fun m w bb oo hk hw=>⟨okL_iff.1 hk y (List.mem_of_getElem? hy),run_load_one hsh (hw q _ (by rw[denL_get,hy];rfl))⟩⟩
  ·cases h
 ·rename_i n
  obtain⟨h1,h2⟩:=bif_some h
  simp only[Bool.and_eq_true]at h1
  have h3:=Nat.eq_of_beq_eq_true h1.1
  have h4:=Nat.eq_of_beq_eq_true h1.2
  subst h3
  refine⟨_,h2,fun m w bb oo hk hw=>⟨okL_part hk,?_⟩⟩
  have h5:=run_load_agg (P:=E.P) (b:=bb) (o:=oo+q) (w:=w) (l:=denL m ((cs.drop q).take n)) hsh (by rw[denL_length];exact h4) (fun j v hj=>by
   rw[denL_take,denL_drop,List.getElem?_take]at hj
   split at hj
   ·rw[List.getElem?_drop]at hj
    have:=hw _ _ hj
    rw[Nat.add_assoc];exact this
   ·cases hj)
  exact h5
theorem arrCK_sound{c:EC E}{M:Map E.G.car}(hS:Sees c M){L o n:Nat}{K:List Key→List (CV E.G.car)→Option R}(h:arrCK c L o n K=some r):
  ∃ks cvs,K ks cvs=some r∧∀(b:Base) (m:Nat→MV) (A:Nat→Prop) (g:Map E.G.car) (a:Act) (w:World),(∀k∈ks,g k=M k)→Rel (cxOf E b) m A g a w→∀q u,cvs[q]?=some (.v u)→w.cell? ⟨(m L).b,o+q,none⟩=some u:=by
 unfold arrCK at h
 split at h
 ·split at h
  ·rename_i ys hc
   obtain⟨cvs,ks,us,h1,h2⟩:=svCVs_sound hS h
   obtain⟨hlen,hget⟩:=valCells_spec hc
   refine⟨_,cvs,h1,fun b m A g a w hr hrel q u hq=>?_⟩
   obtain⟨v,h3,h4⟩:=h2.at hq
   have hlt:q<n:=by rw[←hlen];exact(List.getElem?_eq_some_iff.1 h3).1
   have h5:=hrel.cellAt (L:=L) (o:=o+q) (y:=v) (by
    rw[hr _ (mem_cellKeys hlt),hS.c]
    exact hget q v h3)
   rw[h4]at h5
   exact h5.1
  ·cases h
 ·split at h
  ·rename_i cs hb
   refine⟨_,_,h,fun b m A g a w hr hrel q u hq=>?_⟩
   have hb':M (.x L)=some (.ro cs):=by rw[hS.x];exact hb
   obtain⟨_,h2⟩:=hrel.ent _ _ ((hr _ (by simp)).trans hb')
   rw[List.getElem?_take]at hq
   split at hq
   ·rw[List.getElem?_drop]at hq
    obtain⟨u',h3,h4⟩:=h2 _ _ hq
    rw[h3,h4.plain]
   ·cases hq
  ·cases h
theorem loadAK_sound{c:EC E}(hS:Sees c s){ty:TypeId}{L o n k j t:Nat}{i:Int}{K:List Key→SV→Option R}(h:loadAK c ty L o i n k j t K=some r):
  ∃ks y,K ks y=some r∧∀{b:Base} {x:Operand},d<b.N→Ev E s x (.a L o i n k j t)→OpRun (cxOf E b) ⟨some d,.load ty x,type,pos,after,guard⟩ s ⟨ks++okeys x,[(.t d,some (.x y))],[]⟩:=by
 unfold loadAK at h
 split at h
 ·rename_i sh sz hsh hsz
  obtain⟨h0,h1⟩:=bif_some h
  simp only[Bool.and_eq_true]at h0
  have hst:=Nat.eq_of_beq_eq_true h0.1
  subst hst
  obtain⟨ks,cvs,h2,h3⟩:=arrCK_sound hS h1
  split at h2
  ·rename_i l hl
   obtain⟨y,h4,h5⟩:=partK_load hsh h2
   refine⟨ks,y,h4,fun{b x} hN hx=>op_pure rfl hN (by simp) fun m A a w g hr hrel=>?_⟩
   obtain⟨e1,k1⟩:=hx.eval hrel (fun k hk=>hr k (by simp[hk]))
   obtain⟨k2,k3⟩:=k1
   obtain⟨hlen,hget⟩:=decL_spec hl
   have hlt:i.toNat<l.length:=by omega
   have hx':l[i.toNat]?=some (l.getD i.toNat (E.G.dft t)):=by
    rw[List.getD_eq_getElem?_getD,List.getElem?_eq_getElem hlt];rfl
   have hok:okL m ((E.G.enc t (l.getD i.toNat (E.G.dft t))).map cvPlain):=okL_iff.2 fun v hv=>by
    obtain⟨cv,hcv,rfl⟩:=List.mem_map.1 hv
    obtain⟨u,rfl⟩:=E.G.hflat t h0.2 _ _ hcv
    exact(cvPlain_den (E:=E)).2
   obtain⟨h6,h7⟩:=h5 m w (m L).b (o+i.toNat*E.G.sz t) hok (fun q v hq=>by
    rw[denL_get,List.getElem?_map]at hq
    cases hcv:(E.G.enc t (l.getD i.toNat (E.G.dft t)))[q]? with
    |none=>rw[hcv]at hq;cases hq
    |some cv=>
     rw[hcv]at hq
     obtain⟨u,rfl⟩:=E.G.hflat t h0.2 _ _ (List.mem_of_getElem? hcv)
     simp only[Option.map_some,Option.some.injEq]at hq
     rw[(cvPlain_den (E:=E) (m:=m) (v:=u)).1]at hq
     subst hq
     have:=h3 b m A g a w (fun k hk=>hr k (by simp[hk])) hrel _ _ (hget _ _ hx' q _ hcv)
     rw[Nat.add_assoc];exact this)
   refine⟨h6,?_⟩
   simp[execOp,e1,den,Instr.loadAt,Instr.sureAddr,h7]
  ·cases h2
 ·cases h
theorem op_fieldAddrA{ty f off L o' n k j t:Nat}{i:Int}{x:Operand}(hN:d<b.N)(hx:Ev E s x (.a L o' i n k j t))(h:fieldOff E.P ty f=some off):
  OpRun (cxOf E b) ⟨some d,.fieldAddr ty x f,type,pos,after,guard⟩ s ⟨okeys x,[(.t d,some (.x (.a L o' i n k (j+off) t)))],[]⟩:=
 op_pure rfl hN (by simp) fun m A a w g hr hrel=>by
  obtain⟨h1,k1⟩:=hx.eval hrel hr
  refine⟨k1,?_⟩
  simp[execOp,h1,den,run_fieldAt h,Nat.add_assoc]
theorem op_nilCheckA{L o n k j t:Nat}{i:Int}{x:Operand}(hN:d<b.N)(hx:Ev E s x (.a L o i n k j t)):
  OpRun (cxOf E b) ⟨some d,.nilCheck x,type,pos,after,guard⟩ s ⟨okeys x,[(.t d,some (.x (.a L o i n k j t)))],[]⟩:=
 op_pure rfl hN (fun _ h=>by cases h) fun m A a w g hr hrel=>by
  obtain⟨h1,k1⟩:=hx.eval hrel hr
  exact⟨k1,by simp[execOp,h1,den]⟩
theorem op_ixAS{ty L o' len sz t:Nat}{k:IntKind}{i:Int}{x y:Operand}{u:SV}(hN:d<b.N)(hx:Ev E s x (.p L o'))(hy:Ev E s y u)(hu:∀m,den m u= .int k i)(h:arrSz E.P ty=some (len,sz))(h0:0≤i∧i<(len:Int)):
  OpRun (cxOf E b) ⟨some d,.indexAddr ty x y,type,pos,after,guard⟩ s ⟨okeys x++okeys y,[(.t d,some (.x (.a L o' i len sz 0 t)))],[]⟩:=
 op_pure rfl hN (by simp) fun m A a w g hr hrel=>by
  have e1:=(hx.eval hrel (fun k hk=>hr k (by simp[hk]))).1
  have e2:=(hy.eval hrel (fun k hk=>hr k (by simp[hk]))).1
  rw[hu]at e2
  exact⟨h0,by simp[execOp,e1,e2,den,run_indexArr h h0.1 h0.2]⟩
theorem op_index{ty:TypeId}{x y:Operand}{cs:List SV}{u y':SV}{k:IntKind}{i:Int}(hN:d<b.N)(hx:Ev E s x (.g cs))(hy:Ev E s y u)(hu:∀m,den m u= .int k i)
  (h:∀(m:Nat→MV) (w:World) (k:IntKind),okL m cs→y'.ok m∧(Instr.index ty (.agg (denL m cs).toArray) (.int k i)).run E.P w= .ok (den m y') w):
  OpRun (cxOf E b) ⟨some d,.index ty x y,type,pos,after,guard⟩ s ⟨okeys x++okeys y,[(.t d,some (.x y'))],[]⟩:=
 op_pure rfl hN (by simp) fun m A a w g hr hrel=>by
  obtain⟨e1,k1⟩:=hx.eval hrel (fun k hk=>hr k (by simp[hk]))
  have e2:=(hy.eval hrel (fun k hk=>hr k (by simp[hk]))).1
  rw[hu]at e2
  obtain⟨h1,h2⟩:=h m w k k1
  refine⟨h1,?_⟩
  simp only[execOp,e1,e2,den]
  simp[h2]
end
end
end Go.KX

namespace Go.KX
open Go Go.RowKit
noncomputable section
def keyFs(P:Program)(rec:TypeId→Value→Bool)(xs:List Value)(fs:List Field):Bool:=
 fs.all fun f=>!decide (f.name="_")&&(match partL P f.type xs f.offset with|some a=>rec f.type a|none=>false)
def keyIts(P:Program)(rec:TypeId→Value→Bool)(e sz:Nat)(xs:List Value)(is:List Nat):Bool:=
 is.all fun i=>match partL P e xs (i*sz)with|some a=>rec e a|none=>false
def keyB(P:Program):Nat→TypeId→Value→Bool
 |0,_,_=>false
 |d+1,t,v=>
  match P.underlying t,v with
  |some .bool,.bool _=>true
  |some (.int _),.int _ _=>true
  |some (.struct fs),.agg xs=>keyFs P (keyB P d) xs.toList fs.toList
  |some (.array n e),.agg xs=>match P.info? e with
   |some _=>keyIts P (keyB P d) e (P.cellsOf e) xs.toList (List.range n)
   |none=>false
  |_,_=>false
theorem run_keyB{P:Program}{em:Bool}{w:World}:∀(d d':Nat) (t:TypeId) (v:Value),keyB P d t v=true→(Instr.checkKey em (d+d') t v).run P w= .ok () w:=by
 intro d
 induction d with
 |zero=>intro d' t v h;cases h
 |succ d ih=>
  intro d' t v h
  rw[show d+1+d'=(d+d')+1 by omega,Instr.checkKey]
  unfold keyB at h
  split at h
  ·rename_i hu
   simp[run_underlying hu,Result.andThen]
  ·rename_i hu
   simp[run_underlying hu,Result.andThen]
  ·rename_i fs xs hu
   simp only[Sem.run_bind,run_underlying hu,Result.andThen_ok]
   rw[←Array.forIn_toList]
   unfold keyFs at h
   simp only[List.all_eq_true]at h
   generalize fs.toList=L at h
   induction L with
   |nil=>simp
   |cons f L ihL=>
    have h1:=h f (by simp)
    simp only[Bool.and_eq_true,Bool.not_eq_true',decide_eq_false_iff_not]at h1
    obtain⟨hn,h2⟩:=h1
    split at h2
    ·rename_i a ha
     have p1:=run_partL (w:=w) ha
     have p2:=ih d' _ _ h2
     simp only[List.forIn_cons,Sem.run_bind,hn,ne_eq,not_false_eq_true,if_true,Result.andThen_ok,p1,p2,Sem.run_pure]
     exact ihL (fun y hy=>h y (by simp[hy]))
    ·cases h2
  ·rename_i n e xs hu
   split at h
   ·rename_i i hi
    simp only[Sem.run_bind,run_underlying hu,Result.andThen_ok]
    simp only[Std.Legacy.Range.forIn_eq_forIn_range',Std.Legacy.Range.size,Nat.sub_zero,Nat.add_one_sub_one,Nat.div_one]
    unfold keyIts at h
    simp only[List.all_eq_true]at h
    rw[List.range_eq_range']at h
    have hsz:(sizeOf e).run P w= .ok (P.cellsOf e) w:=by simp[sizeOf,typeInfo,hi,Program.cellsOf]
    generalize List.range' 0 n=is at h
    induction is with
    |nil=>simp
    |cons j is ihL=>
     have h2:=h j (by simp)
     split at h2
     ·rename_i a ha
      have p1:=run_partL (w:=w) ha
      have p2:=ih d' _ _ h2
      simp only[List.forIn_cons,Sem.run_bind,hsz,Result.andThen_ok,p1,p2,Sem.run_pure]
      exact ihL (fun y hy=>h y (by simp[hy]))
     ·cases h2
   ·cases h
  ·cases h
section
variable{α β:Type}[DecidableEq α]
theorem getK_none{x:α}:∀{l:List (α×List β)},x∉l.map (·.1)→getK l x=[]
 |[],_=>rfl
 |p::l,h=>by
  simp only[List.map_cons,List.mem_cons,not_or]at h
  simp only[getK,if_neg (Ne.symm h.1),getK_none h.2]
theorem getK_at{x:α}:∀{l:List (α×List β)} {i:Nat} {p:α×List β},(l.map (·.1)).Nodup→l[i]?=some p→p.1=x→getK l x=p.2
 |[],i,p,_,h,_=>by simp at h
 |q::l,0,p,_,h,e=>by simp at h;subst h;simp[getK,e]
 |q::l,i+1,p,hn,h,e=>by
  simp only[List.map_cons,List.nodup_cons]at hn
  have h':l[i]?=some p:=by simpa using h
  have:q.1≠x:=fun e'=>hn.1 (List.mem_map.2 ⟨p,List.mem_of_getElem? h',by rw[e,e']⟩)
  simp only[getK,if_neg this]
  exact getK_at hn.2 h' e
theorem updK_none{x:α}{v:List β}:∀{l:List (α×List β)},x∉l.map (·.1)→updK l x v=l
 |[],_=>rfl
 |p::l,h=>by
  simp only[List.map_cons,List.mem_cons,not_or]at h
  simp only[updK,if_neg (Ne.symm h.1),updK_none h.2]
theorem updK_at{x:α}{v:List β}:∀{l:List (α×List β)} {i:Nat} {p:α×List β},(l.map (·.1)).Nodup→l[i]?=some p→p.1=x→updK l x v=l.set i (x,v)
 |[],i,p,_,h,_=>by simp at h
 |q::l,0,p,_,h,e=>by simp at h;subst h;simp[updK,e]
 |q::l,i+1,p,hn,h,e=>by
  simp only[List.map_cons,List.nodup_cons]at hn
  have h':l[i]?=some p:=by simpa using h
  have:q.1≠x:=fun e'=>hn.1 (List.mem_map.2 ⟨p,List.mem_of_getElem? h',by rw[e,e']⟩)
  simp only[updK,if_neg this,updK_at hn.2 h' e,List.set_cons_succ]
theorem setK_at{x:α}{v:List β}{l:List (α×List β)}{i:Nat}{p:α×List β}(hn:(l.map (·.1)).Nodup)(h:l[i]?=some p)(e:p.1=x):setK l x v=updK l x v:=by
 have hm:x∈l.map (·.1):=List.mem_map.2 ⟨p,List.mem_of_getElem? h,e⟩
 clear h e hn
 induction l with
 |nil=>cases hm
 |cons q l ih=>
  simp only[setK,updK]
  split
  ·rfl
  ·rename_i hne
   simp only[List.map_cons,List.mem_cons]at hm
   rw[ih (hm.resolve_left (Ne.symm hne))]
theorem updK_keys{x:α}{v:List β}:∀{l:List (α×List β)},(updK l x v).map (·.1)=l.map (·.1)
 |[]=>rfl
 |p::l=>by
  simp only[updK]
  split
  ·rfl
  ·simp only[List.map_cons,updK_keys]
end
def isKC:Value→Bool
 | .int _ _=>true
 | .bool _=>true
 |_=>false
structure KeyOK(P:Program)(G:Reg)(ty kt:Nat):Prop where
 ex:∃k e,P.underlying ty=some (.map k e)∧(match P.underlying k with|some (.array _ _)|some (.struct _)=>true|_=>false)=true∧∀x:G.car kt,∃vs:List Value,G.enc kt x=vs.map CV.v∧vs.all isKC=true∧keyB P 8 k (.agg vs.toArray)=true∧
  ∀(y:G.car kt) (us:List Value),G.enc kt y=us.map CV.v→eqB P 8 k (.agg vs.toArray) (.agg us.toArray)=some (match G.deq kt x y with|isTrue _=>true|isFalse _=>false)
section
variable{P:Program}{G:Reg}{w:World}{ty kt:Nat}
theorem mapV_inj{car:Nat→Type}{vs us:List Value}(h:vs.map (CV.v (car:=car))=us.map CV.v):vs=us:=by
 induction vs generalizing us with
 |nil=>cases us with
  |nil=>rfl
  |cons _ _=>cases h
 |cons v vs ih=>cases us with
  |nil=>cases h
  |cons u us=>simp only[List.map_cons,List.cons.injEq,CV.v.injEq]at h;rw[h.1,ih h.2]
theorem find_keys{k:TypeId}{x:G.car kt}{vx:Value}(heq:∀(y:G.car kt) (vy:Value),KeyIs G kt y vy→∀w,(Op.equal k vx vy).run P w= .ok (match G.deq kt x y with|isTrue _=>true|isFalse _=>false) w):
  ∀(es:List MapEntry) (ks:List (G.car kt)) (i0:Nat),es.length=ks.length→(∀(i:Nat) (y:G.car kt),ks[i]?=some y→∃en:MapEntry,es[i]?=some en∧KeyIs G kt y en.key)→
   (∃(i:Nat) (en:MapEntry),ks[i]?=some x∧es[i]?=some en∧(Instr.findAsking k vx es i0).run P w= .ok (some (i0+i,en.val)) w)∨(x∉ks∧(Instr.findAsking k vx es i0).run P w= .ok none w)
 |[],[],i0,_,_=>.inr ⟨by simp,by simp[Instr.findAsking]⟩
 |[],_::_,_,h,_=>by simp at h
 |_::_,[],_,h,_=>by simp at h
 |e::es,y::ks,i0,hl,h=>by
  obtain⟨en,h1,h2⟩:=h 0 y rfl
  have h1:e=en:=by simpa using h1
  subst h1
  have hr:=heq y e.key h2 w
  cases hd:G.deq kt x y with
  |isTrue hxy=>
   rw[hd]at hr
   subst hxy
   exact .inl ⟨0,e,rfl,rfl,by simp[Instr.findAsking,hr]⟩
  |isFalse hxy=>
   rw[hd]at hr
   rcases find_keys heq es ks (i0+1) (by simpa using hl) (fun i z hz=>h (i+1) z (by simpa using hz))with⟨i,en,h3,h4,h5⟩|⟨h3,h4⟩
   ·exact .inl ⟨i+1,en,by simpa using h3,by simpa using h4,by simp[Instr.findAsking,hr,h5,Nat.add_assoc,Nat.add_comm 1 i]⟩
   ·exact .inr ⟨by simp[hxy,h3],by simp[Instr.findAsking,hr,h4]⟩
theorem sameBits_keys:∀{vs:List Value},vs.all isKC=true→Instr.sameBits 10000 (.agg vs.toArray) (.agg vs.toArray)=true:=by
 intro vs h
 show Instr.sameBits (9999+1) _ _=true
 simp only[Instr.sameBits,beq_self_eq_true,Bool.true_and,List.all_eq_true]
 intro p hp
 have:p.1=p.2∧p.1∈vs:=by
  clear h
  induction vs with
  |nil=>simp at hp
  |cons v vs ih=>
   simp only[List.zip_cons_cons,List.mem_cons]at hp
   rcases hp with rfl|hp
   ·simp
   ·obtain⟨h1,h2⟩:=ih hp;exact⟨h1,by simp[h2]⟩
 obtain⟨h1,h2⟩:=this
 have:=List.all_eq_true.1 h p.1 h2
 obtain⟨a,b⟩:=p
 simp only at h1 this
 subst h1
 cases a<;>simp[isKC,Instr.sameBits]at this⊢
theorem KeyOK.find(h:KeyOK P G ty kt):∃k e,P.underlying ty=some (.map k e)∧∀(x:G.car kt) (vx:Value),KeyIs G kt x vx→(∀em w,(Instr.checkKey em 10000 k vx).run P w= .ok () w)∧(∀w,(Instr.keyThatStays vx vx).run P w= .ok vx w)∧
  ∀(w:World) (es:List MapEntry) (ks:List (G.car kt)),es.length=ks.length→(∀(i:Nat) (y:G.car kt),ks[i]?=some y→∃en:MapEntry,es[i]?=some en∧KeyIs G kt y en.key)→
   (∃(i:Nat) (en:MapEntry),ks[i]?=some x∧es[i]?=some en∧en.key=vx∧(Instr.findKey k vx es).run P w= .ok (some (i,en.val)) w)∨(x∉ks∧(Instr.findKey k vx es).run P w= .ok none w):=by
 obtain⟨k,e,h1,hwide,h2⟩:=h.ex
 refine⟨k,e,h1,fun x vx hx=>?_⟩
 obtain⟨vs,h3,h4,h5,h6⟩:=h2 x
 obtain⟨vs',h7,rfl⟩:=hx
 have:=mapV_inj (h3.symm.trans h7)
 subst this
 refine⟨fun em w=>run_keyB 8 9992 _ _ h5,fun w=>by simp[Instr.keyThatStays,sameBits_keys h4],fun w es ks hl hk=>?_⟩
 have hfk:(Instr.findKey k (.agg vs.toArray) es).run P w=(Instr.findAsking k (.agg vs.toArray) es).run P w:=by
  cases hu:P.underlying k with
  |none=>rw[hu]at hwide;cases hwide
  |some d=>
   have hnow:∀(es:List MapEntry) (i:Nat),es≠[]→Instr.findNow d (.agg vs.toArray) es i=none:=fun es i hne=>by
    cases es with
    |nil=>exact absurd rfl hne
    |cons e es=>cases d<;>simp[Instr.findNow,Instr.sameNow]
   cases es with
   |nil=>simp[Instr.findKey,run_underlying hu,Result.andThen,Instr.findNow,Instr.findAsking]
   |cons e es=>simp[Instr.findKey,run_underlying hu,Result.andThen,hnow (e::es) 0 (by simp)]
 rw[hfk]
 have hq:=find_keys (w:=w) (k:=k) (x:=x) (vx:= .agg vs.toArray) (fun y vy hy w=>by
  obtain⟨us,h8,rfl⟩:=hy
  exact run_eqB 8 9992 _ _ _ _ (h6 y us h8) w) es ks 0 hl hk
 rcases hq with⟨i,en,h8,h9,h10⟩|h8
 ·refine .inl ⟨i,en,h8,h9,?_,by simpa using h10⟩
  obtain⟨en',h11,us,h12,h13⟩:=hk i x h8
  rw[h9]at h11;cases h11
  have:=mapV_inj (h3.symm.trans h12)
  subst this
  exact h13
 ·exact .inr h8
end
section
variable{cx:Cx}{m:Nat→MV}{A:Nat→Prop}{g g':CMap cx}{a:Act}{w:World}
theorem nodup_idx{α:Type}{x:α}:∀{l:List α} {i j:Nat},l.Nodup→l[i]?=some x→l[j]?=some x→i=j
 |[],_,_,_,h,_=>by simp at h
 |y::l,0,0,_,_,_=>rfl
 |y::l,0,j+1,hn,hi,hj=>by
  simp only[List.nodup_cons]at hn
  simp at hi hj
  subst hi
  exact absurd (List.mem_of_getElem? hj) hn.1
 |y::l,i+1,0,hn,hi,hj=>by
  simp only[List.nodup_cons]at hn
  simp at hi hj
  subst hj
  exact absurd (List.mem_of_getElem? hi) hn.1
 |y::l,i+1,j+1,hn,hi,hj=>by
  simp only[List.nodup_cons]at hn
  have:=nodup_idx (i:=i) (j:=j) hn.2 (by simpa using hi) (by simpa using hj)
  rw[this]
theorem holeK_none{G:Reg}{kt:Nat}{x:G.car kt}:∀{hs:List (G.car kt×Nat)},(∀p∈hs,p.1≠x)→holeK x hs=none
 |[],_=>rfl
 |(y,a)::r,h=>by
  have h0:=h (y,a) List.mem_cons_self
  simp only[holeK]
  cases G.deq kt y x with
  |isTrue e=>exact absurd e h0
  |isFalse _=>exact holeK_none fun p hp=>h p (List.mem_cons_of_mem _ hp)
open Classical in
theorem holeK_cons{G:Reg}{kt a:Nat}{x y:G.car kt}{r:List (G.car kt×Nat)}:holeK x ((y,a)::r)=if y=x then some a else holeK x r:=by
 simp only[holeK]
 cases G.deq kt y x with
 |isTrue e=>simp[e]
 |isFalse e=>simp[e]
open Classical in
theorem holeK_append{G:Reg}{kt:Nat}{x:G.car kt}:∀{h1 h2:List (G.car kt×Nat)},holeK x (h1++h2)=match holeK x h1 with|some a=>some a|none=>holeK x h2
 |[],_=>rfl
 |(y,a)::r,h2=>by
  rw[List.cons_append,holeK_cons,holeK_cons]
  split
  ·rfl
  ·exact holeK_append
open Classical in
theorem holeK_mid{G:Reg}{kt a:Nat}{x y:G.car kt}{h1 h2:List (G.car kt×Nat)}(hne:y≠x):holeK x (h1++(y,a)::h2)=holeK x (h1++h2):=by
 rw[holeK_append,holeK_append,holeK_cons,if_neg hne]
theorem nodup_mid{α:Type}{h1 h2:List α}{p:α}(h:(h1++p::h2).Nodup):(h1++h2).Nodup∧p∉h1++h2:=by
 obtain⟨b,b1,b2⟩:=pairwise_mid h
 refine⟨b,fun hp=>?_⟩
 rcases List.mem_append.1 hp with h5|h5
 ·exact b1 p h5 rfl
 ·exact b2 p h5 rfl
def openMU{car:Nat→Type}(L N S' kt t e:Nat)(l:List (car kt×List (car t)))(hs zs:List (car kt×Nat))(x:car kt)(q:List (car t)):St car:=
 [(.o N,some (.row e t q)),(.o L,some (.dm kt t e l ((x,N)::hs) zs S'))]
open Classical in
theorem Rel.openMap{L N S S' kt t e:Nat}{l:List (cx.G.car kt×List (cx.G.car t))}{hs zs:List (cx.G.car kt×Nat)}{x:cx.G.car kt}(h:Rel cx m A g a w)(hL:g (.o L)=some (.dm kt t e l hs zs S))(hno:∀p∈hs,p.1≠x)
  (hN:Free cx N g) (hS:Free cx S' g) (hNS:N≠S'):
  ∃m',Rel cx m' A (upd (openMU L N S' kt t e l hs zs x (@getK _ _ (cx.G.deq kt) l x)) g) a w∧(∀l,l≠N→l≠S'→m' l=m l)∧
   ∃(es:Array MapEntry) (cl:Nat),w.heap[(m L).b]?=some (.map es cl)∧es.size=l.length∧(∀(i:Nat) (p:cx.G.car kt×List (cx.G.car t)),l[i]?=some p→∃en,es[i]?=some en∧KeyIs cx.G kt p.1 en.key∧(p.1=x→en.val=den m' (.h N)))∧
    (x∉l.map (·.1)→den m' (.h N)= .slice none 0 0):=by
 have hLN:L≠N:=fun e=>by subst e;rw[free_none hN (by simp[keyHas])]at hL;cases hL
 have hLS:L≠S':=fun e=>by subst e;rw[free_none hS (by simp[keyHas])]at hL;cases hL
 obtain⟨es,cl,hh,hdm,h3⟩:=h.ent _ _ hL
 have hhole:holeK x hs=none:=holeK_none hno
 have hk:∃(k:Option Nat) (hv:HV),RowAt cx.G A w hv e t (@getK _ _ (cx.G.deq kt) l x)∧(match k with|some k=>hv=(m S).sub k∧(∃p,l[k]?=some p∧p.1=x∧∃en,es[k]?=some en∧en.val= .slice hv.p hv.n hv.c)|none=>hv=nilHV∧x∉l.map (·.1)):=by
  by_cases hm:x∈l.map (·.1)
  ·obtain⟨p,hp,hpx⟩:=List.mem_map.1 hm
   obtain⟨k,hk⟩:=List.getElem?_of_mem hp
   obtain⟨en,h5,h6,h7⟩:=hdm.ent k p hk
   rw[hpx,hhole]at h7
   obtain⟨e',he',hfl,hval,hrow⟩:=h7
   cases he'
   refine⟨some k,(m S).sub k,?_,rfl,p,hk,hpx,en,h5,hval⟩
   rw[@getK_at _ _ (cx.G.deq kt) x l k p hdm.nodup hk hpx]
   exact hrow
  ·refine⟨none,nilHV,?_,rfl,hm⟩
   rw[@getK_none _ _ (cx.G.deq kt) x l hm]
   exact⟨rfl,.inl ⟨rfl,rfl,0,rfl⟩⟩
 obtain⟨k,hv,hrow,hkv⟩:=hk
 obtain⟨sub',hsub'⟩:∃sub':Nat→HV,sub'=match k with|some k=>setSub (m S).sub k nilHV|none=>(m S).sub:=⟨_,rfl⟩
 have sub_old:∀k',(sub' k').c≠0→sub' k'=(m S).sub k'∧k≠some k':=fun k' hc=>by
  subst hsub'
  cases k with
  |none=>exact⟨rfl,by simp⟩
  |some k0=>
   by_cases e:k'=k0
   ·subst e;simp only[setSub_self]at hc;exact absurd rfl hc
   ·exact⟨setSub_ne _ _ e,by simp[Ne.symm e]⟩
 have sub_ne:∀k',k≠some k'→sub' k'=(m S).sub k':=fun k' hne=>by
  subst hsub'
  cases k with
  |none=>rfl
  |some k0=>exact setSub_ne _ _ fun e=>hne (by rw[e])
 have hvb:hv.c≠0→∃k0,k=some k0∧hv=(m S).sub k0:=fun hc=>by
  cases k with
  |none=>rw[hkv.1]at hc;exact absurd rfl hc
  |some k0=>exact⟨k0,rfl,hkv.1⟩
 generalize hm':setL (setL m N (mvOfH hv)) S' (subMV sub')=m'
 have eN:m' N=mvOfH hv:=by rw[←hm',setL_ne _ _ hNS,setL_self]
 have eS:m' S'=subMV sub':=by rw[←hm',setL_self]
 have eo:∀l,l≠N→l≠S'→m' l=m l:=fun l h5 h6=>by rw[←hm',setL_ne _ _ h6,setL_ne _ _ h5]
 have denN:den m' (.h N)= .slice hv.p hv.n hv.c:=by simp only[den,eN,mvOfH]
 generalize hq:@getK _ _ (cx.G.deq kt) l x=q at*
 have hgk:∀k,upd (openMU L N S' kt t e l hs zs x q) g k=if k= .o N then some (.row e t q)else if k= .o L then some (.dm kt t e l ((x,N)::hs) zs S')else g k:=upd_two hLN
 have gN:upd (openMU L N S' kt t e l hs zs x q) g (.o N)=some (.row e t q):=by rw[hgk,if_pos rfl]
 have gL:upd (openMU L N S' kt t e l hs zs x q) g (.o L)=some (.dm kt t e l ((x,N)::hs) zs S'):=by rw[hgk,if_neg (by simpa using hLN),if_pos rfl]
 have ownL:∀b,Owns m' L (some (.dm kt t e l ((x,N)::hs) zs S':Val cx.G.car)) b→Owns m L (g (.o L)) b∧(hv.c≠0→b≠hv.b):=fun b hb=>by
  rw[hL]
  simp only[Owns,eo L hLN hLS,eS,subMV]at hb
  rcases hb with hb|⟨k',hk',rfl⟩
  ·refine⟨.inl hb,fun h5=>?_⟩
   obtain⟨k0,_,h6⟩:=hvb h5
   rw[hb,h6];rw[h6]at h5;exact(h3.ne k0 h5).symm
  ·obtain⟨h6,h7⟩:=sub_old k' hk'
   rw[h6]at hk'⊢
   refine⟨.inr ⟨k',hk',rfl⟩,fun h5 h8=>?_⟩
   obtain⟨k0,h9,h10⟩:=hvb h5
   rw[h10]at h5 h8
   exact h7 (by rw[h9,h3.inj _ _ hk' h5 h8])
 have ownN:∀b,Owns m' N (some (.row e t q:Val cx.G.car)) b→hv.c≠0∧b=hv.b:=fun b hb=>by
  simp only[Owns,eN,mvOfH]at hb;exact hb
 have hment:∀k' l',mentions l' k' (g k')=true→m' l'=m l':=fun k' l' hl'=>by
  cases e:g k' with
  |none=>rw[e]at hl';cases hl'
  |some v=>rw[e]at hl';exact eo l' (free_ne hN e l' hl') (free_ne hS e l' hl')
 have hholes:∀p∈hs,m' p.2=m p.2:=fun p hp=>hment (.o L) _ (by
  rw[hL]
  simp only[mentions,valHas,keyHas,Bool.or_eq_true,List.any_eq_true]
  exact .inl (.inl (.inr ⟨p,hp,by simp⟩)))
 have hzs:∀p∈zs,m' p.2=m p.2:=fun p hp=>hment (.o L) _ (by
  rw[hL]
  simp only[mentions,valHas,keyHas,Bool.or_eq_true,List.any_eq_true]
  exact .inl (.inr ⟨p,hp,by simp⟩))
 refine⟨m',h.regive (T:=fun l'=>l'=L∨l'=N) (fun k' hk'=>?_) (fun k' _=>hment k') (fun l' o hT=>?_) (fun l' v hT hv=>?_) (fun l' b hT hb=>?_) (fun l1 l2 b hT1 hT2 hb1 hb2=>?_) (fun p hp=>eo _ (hN.2.1 p hp) (hS.2.1 p hp)) (fun L' hL'=>eo _ (fun e=>?_) (fun e=>?_)),eo,es,cl,hh,hdm.size,fun i p hp=>?_,fun hm=>?_⟩
 ·rw[hgk,if_neg (fun e=>hk' N (.inr rfl) e),if_neg (fun e=>hk' L (.inl rfl) e)]
 ·rcases hT with rfl|rfl
  ·cases e:g (.c l' o)with
   |none=>rfl
   |some v=>obtain⟨ty,n,h5⟩:=h.cell _ _ _ e;rw[hL]at h5;cases h5
  ·exact free_none hN (by simp[keyHas])
 ·rcases hT with rfl|rfl
  ·rw[gL]at hv;cases hv
   show ∃es cl,w.heap[(m' l').b]?=some (.map es cl)∧_
   rw[eo l' hLN hLS]
   refine⟨es,cl,hh,?_,?_⟩
   ·rw[eS]
    refine⟨hdm.size,hdm.nodup,fun i p hp=>?_,fun p hp hn=>?_,List.nodup_cons.2 ⟨fun h5=>?_,hdm.holes⟩,hdm.born,hdm.clock,fun q hq=>by rw[hzs q hq];exact hdm.stamp q hq⟩
    ·obtain⟨en,h5,h6,h7⟩:=hdm.ent i p hp
     refine⟨en,h5,h6,?_⟩
     rw[holeK_cons]
     by_cases e0:x=p.1
     ·rw[if_pos e0]
      cases k with
      |none=>exact absurd (List.mem_map.2 ⟨p,List.mem_of_getElem? hp,e0.symm⟩) hkv.2
      |some k0=>
       obtain⟨hkv1,p0,h8,h9,en0,h10,h11⟩:=hkv
       have hik:i=k0:=by
        have h12:(l.map (·.1))[i]?=some x:=by rw[List.getElem?_map,hp];simp[e0]
        have h13:(l.map (·.1))[k0]?=some x:=by rw[List.getElem?_map,h8];simp[h9]
        exact nodup_idx hdm.nodup h12 h13
       subst hik
       rw[h10]at h5;cases h5
       refine⟨by rw[denN,h11],?_,_,_,rfl⟩
       show(sub' i).c=0
       subst hsub'
       simp only[setSub_self];rfl
     ·rw[if_neg e0]
      have hne:k≠some i:=fun e1=>by
       subst e1
       obtain⟨_,p0,h8,h9,_⟩:=hkv
       rw[hp]at h8;cases h8
       exact e0 h9.symm
      show SubIs _ _ _ _ (sub' i) _ _ _ _
      rw[sub_ne i hne]
      exact h7.step (fun _ h=>h) (fun _ _=>rfl) (fun a' ha'=>hholes _ (holeK_mem ha')) (fun _=>rfl)
    ·rcases List.mem_cons.1 hp with rfl|hp
     ·rw[denN]
      cases k with
      |none=>rw[hkv.1];rfl
      |some k0=>
       obtain⟨_,p0,h8,h9,_⟩:=hkv
       exact absurd (List.mem_map.2 ⟨p0,List.mem_of_getElem? h8,h9⟩) hn
     ·simp only[den,hholes p hp];exact hdm.nil p hp hn
    ·obtain⟨p,hp,h6⟩:=List.mem_map.1 h5
     exact hno p hp h6
   ·rw[eS]
    show SubsOK w sub' _ _
    subst hsub'
    cases k with
    |none=>exact h3
    |some k0=>exact h3.out k0
  ·rw[gN]at hv;cases hv
   show(m' l').n=_∧_
   rw[eN]
   exact hrow
 ·rcases hT with rfl|rfl
  ·rw[gL]at hb;exact⟨l',.inl rfl,(ownL b hb).1⟩
  ·rw[gN]at hb
   obtain⟨h5,rfl⟩:=ownN b hb
   obtain⟨k0,_,h6⟩:=hvb h5
   rw[h6]at h5⊢
   exact⟨L,.inl rfl,by rw[hL];exact .inr ⟨k0,h5,rfl⟩⟩
 ·rcases hT1 with rfl|rfl<;>rcases hT2 with rfl|rfl
  ·rfl
  ·rw[gL]at hb1;rw[gN]at hb2
   obtain⟨h5,rfl⟩:=ownN b hb2
   exact absurd rfl ((ownL _ hb1).2 h5)
  ·rw[gN]at hb1;rw[gL]at hb2
   obtain⟨h5,rfl⟩:=ownN b hb1
   exact absurd rfl ((ownL _ hb2).2 h5)
  ·rfl
 ·subst e;exact absurd hL' (Nat.not_lt.2 hN.2.2)
 ·subst e;exact absurd hL' (Nat.not_lt.2 hS.2.2)
 ·obtain⟨en,h5,h6,h7⟩:=hdm.ent i p hp
  refine⟨en,h5,h6,fun hpx=>?_⟩
  rw[hpx,hhole]at h7
  obtain⟨e',_,_,hval,_⟩:=h7
  rw[hval,denN]
  cases k with
  |none=>exact absurd (List.mem_map.2 ⟨p,List.mem_of_getElem? hp,hpx⟩) hkv.2
  |some k0=>
   obtain⟨hkv1,p0,h8,h9,_⟩:=hkv
   have hik:i=k0:=by
    have h12:(l.map (·.1))[i]?=some x:=by rw[List.getElem?_map,hp];simp[hpx]
    have h13:(l.map (·.1))[k0]?=some x:=by rw[List.getElem?_map,h8];simp[h9]
    exact nodup_idx hdm.nodup h12 h13
   subst hik
   rw[hkv1]
 ·rw[denN]
  cases k with
  |none=>rw[hkv.1];rfl
  |some k0=>
   obtain⟨_,p0,h8,h9,_⟩:=hkv
   exact absurd (List.mem_map.2 ⟨p0,List.mem_of_getElem? h8,h9⟩) hm
end
section
variable{α β:Type}[DecidableEq α]
theorem insK_mem{x:α}:∀{l:List (α×List β)},x∈l.map (·.1)→insK l x=l
 |[],h=>by cases h
 |p::l,h=>by
  simp only[insK]
  split
  ·rfl
  ·rename_i hne
   simp only[List.map_cons,List.mem_cons]at h
   rw[insK_mem (h.resolve_left (Ne.symm hne))]
theorem insK_none{x:α}:∀{l:List (α×List β)},x∉l.map (·.1)→insK l x=l++[(x,[])]
 |[],_=>rfl
 |p::l,h=>by
  simp only[List.map_cons,List.mem_cons,not_or]at h
  simp only[insK,if_neg (Ne.symm h.1),insK_none h.2,List.cons_append]
theorem updK_insK{x:α}{v:List β}:∀{l:List (α×List β)},updK (insK l x) x v=setK l x v
 |[]=>by simp[insK,updK,setK]
 |p::l=>by
  simp only[insK,setK]
  split
  ·rename_i e;simp[updK,e]
  ·rename_i e;simp[updK,e,updK_insK]
end
section
variable{cx:Cx}{m:Nat→MV}{A:Nat→Prop}{g g':CMap cx}{a:Act}{w:World}
theorem Rel.mapWrote{m':Nat→MV}{L N N0 S kt t e cl cl':Nat}{l l':List (cx.G.car kt×List (cx.G.car t))}{h1 h2 zs zs':List (cx.G.car kt×Nat)}{x:cx.G.car kt}{es es':Array MapEntry}(h:Rel cx m A g a w)
  (hL:g (.o L)=some (.dm kt t e l (h1++(x,N0)::h2) zs S)) (hh:w.heap[(m L).b]?=some (.map es cl)) (hdm:DmIn cx.G A w m (m S).sub es kt t e l (h1++(x,N0)::h2) zs cl) (h3:SubsOK w (m S).sub (m L).b (fun k=>k<l.length))
  (hZ:∃Z,(∀l,l≠Z→m' l=m l)∧(Free cx Z g∨m'=m))
  (hsz:es'.size=l'.length) (hnd':(l'.map (·.1)).Nodup) (hold:∀y,y∈l.map (·.1)→y∈l'.map (·.1)) (hxl:x∈l'.map (·.1)) (hle:l.length≤l'.length)
  (hbn:(es'.toList.map (·.born)).Nodup) (hck:∀en∈es'.toList,en.born<cl') (hst:∀q∈zs',∃(k:Nat) (p:cx.G.car kt×List (cx.G.car t)) (en:MapEntry),l'[k]?=some p∧p.1=q.1∧es'[k]?=some en∧en.born=(m' q.2).n)
  (hN:den m' (.h N)=den m (.h N))
  (hent:∀(k:Nat) (p:cx.G.car kt×List (cx.G.car t)),l'[k]?=some p→∃en:MapEntry,es'[k]?=some en∧KeyIs cx.G kt p.1 en.key∧((p.1=x→en.val=den m (.h N)∧((m S).sub k).c=0)∧(p.1≠x→l[k]?=some p∧∃en0,es[k]?=some en0∧en.val=en0.val))):
  Rel cx m' A (upd [(.o L,some (.dm kt t e l' (h1++(x,N)::h2) zs' S))] g) a { w with heap:=w.heap.setIfInBounds (m L).b (.map es' cl') }:=by
 have hown:Owns m L (g (.o L)) (m L).b:=by rw[hL];exact .inl rfl
 obtain⟨Z,hZ1,hZ2⟩:=hZ
 have hment:∀k' l',mentions l' k' (g k')=true→m' l'=m l':=fun k' l' hl'=>by
  rcases hZ2 with hf|rfl
  ·cases e:g k' with
   |none=>rw[e]at hl';cases hl'
   |some v=>rw[e]at hl';exact hZ1 l' (free_ne hf e l' hl')
  ·rfl
 have mL:m' L=m L:=hment (.o L) L (by rw[hL];simp[mentions,keyHas])
 have mS:m' S=m S:=hment (.o L) S (by rw[hL];simp[mentions,valHas])
 have hho:∀p∈h1++(x,N0)::h2,m' p.2=m p.2:=fun p hp=>hment (.o L) _ (by
  rw[hL]
  simp only[mentions,valHas,keyHas,Bool.or_eq_true,List.any_eq_true]
  exact .inl (.inl (.inr ⟨p,hp,by simp⟩)))
 obtain⟨hnd,hnot⟩:=nodup_mid (by have:=hdm.holes;rw[List.map_append,List.map_cons]at this;exact this)
 have hh1:holeK x h1=none:=holeK_none fun p hp e=>hnot (by simp only[List.mem_append,List.mem_map];exact .inl ⟨p,hp,e⟩)
 have hhole:∀N,holeK x (h1++(x,N)::h2)=some N:=fun N=>by rw[holeK_append,hh1,holeK_cons,if_pos rfl]
 have hsubs:∀k,((m S).sub k).c≠0→(m L).b≠((m S).sub k).b:=fun k hk=>(h3.ne k hk).symm
 have hlt:(m L).b<w.heap.size:=(Array.getElem?_eq_some_iff.1 hh).1
 have hoth:∀k,k≠(m L).b→(w.heap.setIfInBounds (m L).b (.map es' cl'))[k]?=w.heap[k]?:=fun k hk=>by simp[Ne.symm hk]
 have hglo:∀p∈cx.glo,(m' p.1).b=p.2:=fun p hp=>by
  rcases hZ2 with hf|rfl
  ·rw[hZ1 _ (hf.2.1 p hp)];exact h.fix p hp
  ·exact h.fix p hp
 have hpin:∀L,L<cx.pn→m' L=cx.pm L:=fun L' hL'=>by
  rcases hZ2 with hf|rfl
  ·rw[hZ1 _ (fun e=>by subst e;exact absurd hL' (Nat.not_lt.2 hf.2.2))];exact h.pins L' hL'
  ·exact h.pins L' hL'
 have hr:Rel cx m' A g a w:=by
  refine h.regive (T:=fun _=>False) (fun _ _=>rfl) (fun k' _=>hment k') (fun _ _ h=>h.elim) (fun _ _ h=>h.elim) (fun _ _ h=>h.elim) (fun _ _ _ h=>h.elim) (fun p hp=>?_) (fun L' hL'=>?_)
  ·rcases hZ2 with hf|rfl
   ·exact hZ1 _ (hf.2.1 p hp)
   ·rfl
  ·rcases hZ2 with hf|rfl
   ·exact hZ1 _ (fun e=>by subst e;exact absurd hL' (Nat.not_lt.2 hf.2.2))
   ·rfl
 have hown':Owns m' L (g (.o L)) (m' L).b:=by rw[hL];exact .inl rfl
 refine hr.wrote hown' rfl rfl .rfl (by simp) (fun k _ hk=>hoth k (by rw[←mL];exact hk)) (fun _ _=>rfl) hglo hpin (fun k e1 e2=>by rw[upd_one,if_neg (Ne.symm e2)]) (fun _ _ _ _=>rfl) (fun v hv=>?_) (fun o v hv=>?_) (fun b hv=>?_)
 ·rw[upd_one,if_pos rfl]at hv
  cases hv
  show ∃es cl,_∧DmIn _ _ _ _ (m' S).sub _ _ _ _ _ _ _ _∧SubsOK _ (m' S).sub (m' L).b _
  rw[mL,mS]
  refine⟨es',cl',by simp[hlt],⟨hsz,hnd',fun k p hp=>?_,fun q hq hn=>?_,?_,hbn,hck,hst⟩,?_⟩
  ·obtain⟨en,h5,h6,h7,h7'⟩:=hent k p hp
   refine⟨en,h5,h6,?_⟩
   by_cases e0:p.1=x
   ·obtain⟨h8,h9⟩:=h7 e0
    rw[e0,hhole]
    exact⟨h8.trans hN.symm,h9,_,_,rfl⟩
   ·obtain⟨h8,en0,h9,h10⟩:=h7' e0
    obtain⟨en1,h11,_,h12⟩:=hdm.ent k p h8
    rw[h9]at h11;cases h11
    rw[holeK_mid (Ne.symm e0)]at h12⊢
    rw[h10]
    refine h12.step (fun _ h=>h) (fun b hb=>hoth b fun e=>(h.own L _ hown).2 (e▸hb)) (fun a' ha'=>?_) (fun hc=>hoth _ (hsubs k hc).symm)
    have:=holeK_mem ha'
    exact hho (p.1,a') (by rcases List.mem_append.1 this with h13|h13<;>simp[h13])
  ·have hq':q.1≠x→q∈h1++(x,N0)::h2:=fun hne=>by
    rcases List.mem_append.1 hq with h5|h5
    ·exact List.mem_append.2 (.inl h5)
    ·rcases List.mem_cons.1 h5 with rfl|h5
     ·exact absurd rfl hne
     ·exact List.mem_append.2 (.inr (List.mem_cons_of_mem _ h5))
   by_cases e0:q.1=x
   ·rw[e0]at hn;exact absurd hxl hn
   ·simp only[den,hho q (hq' e0)]
    exact hdm.nil q (hq' e0) fun h5=>hn (hold _ h5)
  ·have:=hdm.holes
   simp only[List.map_append,List.map_cons]at this⊢
   exact this
  ·exact⟨h3.inj,h3.ne,fun k hk=>Nat.lt_of_lt_of_le (h3.real k hk) hle,fun k hk=>by
    show ∃o,(w.heap.setIfInBounds (m L).b (.map es' cl'))[((m S).sub k).b]?=some o∧_
    rw[hoth _ (hsubs k hk).symm];exact h3.dat k hk⟩
 ·rw[upd_one,if_neg (by simp)]at hv
  obtain⟨ty,n,h5⟩:=h.cell L o v hv
  rw[hL]at h5;cases h5
 ·rw[upd_one,if_pos rfl]at hv
  rw[hL];exact hv
theorem dm_find{S ty kt t e cl:Nat}{l:List (cx.G.car kt×List (cx.G.car t))}{hs zs:List (cx.G.car kt×Nat)}{x:cx.G.car kt}{vx:Value}{es:Array MapEntry}(hk:KeyOK cx.P cx.G ty kt)(hdm:DmIn cx.G A w m (m S).sub es kt t e l hs zs cl)(hx:KeyIs cx.G kt x vx):
  ∃k el,cx.P.underlying ty=some (.map k el)∧(∀em w,(Instr.checkKey em 10000 k vx).run cx.P w= .ok () w)∧
   ((∃(i:Nat) (p:cx.G.car kt×List (cx.G.car t)) (en:MapEntry),l[i]?=some p∧p.1=x∧es[i]?=some en∧en.key=vx∧(Instr.findKey k vx es.toList).run cx.P w= .ok (some (i,en.val)) w∧(∀w,(Instr.keyThatStays (((es[i]?).map (·.key)).getD vx) vx).run cx.P w= .ok vx w))∨
    (x∉l.map (·.1)∧(Instr.findKey k vx es.toList).run cx.P w= .ok none w)):=by
 obtain⟨k,el,hty,hfind⟩:=hk.find
 obtain⟨hcheck,hstay,hfk⟩:=hfind x vx hx
 have hkeys:∀(i:Nat) (y:cx.G.car kt),(l.map (·.1))[i]?=some y→∃en:MapEntry,es.toList[i]?=some en∧KeyIs cx.G kt y en.key:=fun i y hy=>by
  rw[List.getElem?_map]at hy
  obtain⟨p,hp,rfl⟩:=Option.map_eq_some_iff.1 hy
  obtain⟨en,h5,h6,_⟩:=hdm.ent i p hp
  exact⟨en,by simpa using h5,h6⟩
 refine⟨k,el,hty,hcheck,?_⟩
 rcases hfk w es.toList (l.map (·.1)) (by simpa using hdm.size) hkeys with⟨i,en,h5,h6,h7,h8⟩|h5
 ·rw[List.getElem?_map]at h5
  obtain⟨p,hp,hpx⟩:=Option.map_eq_some_iff.1 h5
  have hes:es[i]?=some en:=by simpa using h6
  exact .inl ⟨i,p,en,hp,hpx,hes,h7,h8,fun w=>by rw[hes];show(Instr.keyThatStays en.key vx).run _ _=_;rw[h7];exact hstay w⟩
 ·exact .inr h5
theorem born_modify{es:Array MapEntry}{i:Nat}{f:MapEntry→MapEntry}(hf:∀e,(f e).born=e.born):(es.modify i f).toList.map (·.born)=es.toList.map (·.born):=by
 apply List.ext_getElem?
 intro j
 simp only[List.getElem?_map,Array.getElem?_toList,Array.getElem?_modify]
 by_cases e:i=j
 ·subst e
  cases es[i]? with
  |none=>simp
  |some en=>simp[hf]
 ·simp[e]
theorem clock_modify{es:Array MapEntry}{i cl:Nat}{f:MapEntry→MapEntry}(hf:∀e,(f e).born=e.born)(h:∀en∈es.toList,en.born<cl):∀en∈(es.modify i f).toList,en.born<cl:=by
 intro en hen
 have:en.born∈(es.modify i f).toList.map (·.born):=List.mem_map.2 ⟨en,hen,rfl⟩
 rw[born_modify hf]at this
 obtain⟨en',h1,h2⟩:=List.mem_map.1 this
 rw[←h2];exact h en' h1
open Classical in
theorem dm_put{kt t e cl S L N N0:Nat}{l:List (cx.G.car kt×List (cx.G.car t))}{h1 h2 zs:List (cx.G.car kt×Nat)}{x:cx.G.car kt}{vx:Value}{es:Array MapEntry}(hdm:DmIn cx.G A w m (m S).sub es kt t e l (h1++(x,N0)::h2) zs cl)(h3:SubsOK w (m S).sub (m L).b (fun k=>k<l.length))
  (hx:KeyIs cx.G kt x vx) {i:Nat} {p:cx.G.car kt×List (cx.G.car t)} {en:MapEntry} (hp:l[i]?=some p) (hpx:p.1=x) (hes:es[i]?=some en):
  ∀(k:Nat) (p:cx.G.car kt×List (cx.G.car t)),l[k]?=some p→∃en:MapEntry,(es.modify i fun e=>{ e with key:=vx,val:=den m (.h N) })[k]?=some en∧KeyIs cx.G kt p.1 en.key∧((p.1=x→en.val=den m (.h N)∧((m S).sub k).c=0)∧(p.1≠x→l[k]?=some p∧∃en0,es[k]?=some en0∧en.val=en0.val)):=by
 intro k' p' hp'
 obtain⟨en1,h9,h10,h11⟩:=hdm.ent k' p' hp'
 obtain⟨hnd,hnot⟩:=nodup_mid (by have:=hdm.holes;rw[List.map_append,List.map_cons]at this;exact this)
 have hh1:holeK x h1=none:=holeK_none fun p hp e=>hnot (by simp only[List.mem_append,List.mem_map];exact .inl ⟨p,hp,e⟩)
 have hhole:∀N,holeK x (h1++(x,N)::h2)=some N:=fun N=>by rw[holeK_append,hh1,holeK_cons,if_pos rfl]
 by_cases e0:p'.1=x
 ·have hki:k'=i:=nodup_idx hdm.nodup (x:=x) (by rw[List.getElem?_map,hp'];simp[e0]) (by rw[List.getElem?_map,hp];simp[hpx])
  subst hki
  refine⟨{ en with key:=vx,val:=den m (.h N) },by simp[Array.getElem?_modify,hes],by rw[e0];exact hx,fun _=>⟨rfl,?_⟩,fun h=>absurd e0 h⟩
  rw[e0,hhole]at h11
  exact h11.2.1
 ·have hki:i≠k':=fun e=>by
   subst e
   rw[hp]at hp';cases hp'
   exact e0 hpx
  exact⟨en1,by simp[Array.getElem?_modify,hki,h9],h10,fun h=>absurd h e0,fun _=>⟨hp',en1,h9,rfl⟩⟩
theorem dm_push{kt t e cl S L N N0:Nat}{l:List (cx.G.car kt×List (cx.G.car t))}{h1 h2 zs:List (cx.G.car kt×Nat)}{x:cx.G.car kt}{vx:Value}{es:Array MapEntry}(hdm:DmIn cx.G A w m (m S).sub es kt t e l (h1++(x,N0)::h2) zs cl)(h3:SubsOK w (m S).sub (m L).b (fun k=>k<l.length))
  (hx:KeyIs cx.G kt x vx) (h5:x∉l.map (·.1)) {q:List (cx.G.car t)}:
  ∀(k:Nat) (p:cx.G.car kt×List (cx.G.car t)),(l++[(x,q)])[k]?=some p→∃en:MapEntry,(es.push { key:=vx,val:=den m (.h N),born:=cl })[k]?=some en∧KeyIs cx.G kt p.1 en.key∧((p.1=x→en.val=den m (.h N)∧((m S).sub k).c=0)∧(p.1≠x→l[k]?=some p∧∃en0,es[k]?=some en0∧en.val=en0.val)):=by
 intro k' p hp
 rcases Nat.lt_or_ge k' l.length with hlt|hge
 ·rw[List.getElem?_append_left hlt]at hp
  obtain⟨en1,h9,h10,h11⟩:=hdm.ent k' p hp
  have hlt':k'<es.size:=by rw[hdm.size];exact hlt
  have e0:p.1≠x:=fun e=>h5 (List.mem_map.2 ⟨p,List.mem_of_getElem? hp,e⟩)
  exact⟨en1,by rw[Array.getElem?_push_lt hlt'];rw[Array.getElem?_eq_getElem hlt']at h9;exact h9,h10,fun h=>absurd h e0,fun _=>⟨hp,en1,h9,rfl⟩⟩
 ·have hk':k'=l.length:=by
   have:=(List.getElem?_eq_some_iff.1 hp).1
   simp at this;omega
  subst hk'
  simp at hp
  subst hp
  refine⟨⟨vx,den m (.h N),cl⟩,by rw[←hdm.size];simp,hx,fun _=>⟨rfl,?_⟩,fun h=>absurd rfl h⟩
  apply Classical.byContradiction
  intro hc
  exact Nat.lt_irrefl _ (h3.real _ hc)
theorem stamp_put{kt t:Nat}{l l':List (cx.G.car kt×List (cx.G.car t))}{es es':Array MapEntry}{zs:List (cx.G.car kt×Nat)}(h:∀q∈zs,∃(k:Nat) (p:cx.G.car kt×List (cx.G.car t)) (en:MapEntry),l[k]?=some p∧p.1=q.1∧es[k]?=some en∧en.born=(m q.2).n)
  (hl:∀(k:Nat) (p:cx.G.car kt×List (cx.G.car t)),l[k]?=some p→∃p',l'[k]?=some p'∧p'.1=p.1) (hes:∀(k:Nat) (en:MapEntry),es[k]?=some en→∃en':MapEntry,es'[k]?=some en'∧en'.born=en.born):
  ∀q∈zs,∃(k:Nat) (p:cx.G.car kt×List (cx.G.car t)) (en:MapEntry),l'[k]?=some p∧p.1=q.1∧es'[k]?=some en∧en.born=(m q.2).n:=by
 intro q hq
 obtain⟨k,p,en,h1,h2,h3,h4⟩:=h q hq
 obtain⟨p',h5,h6⟩:=hl k p h1
 obtain⟨en',h7,h8⟩:=hes k en h3
 exact⟨k,p',en',h5,h6.trans h2,h7,h8.trans h4⟩
theorem modify_born{es:Array MapEntry}{i:Nat}{f:MapEntry→MapEntry}(hf:∀e,(f e).born=e.born)(k:Nat)(en:MapEntry)(h:es[k]?=some en):∃en':MapEntry,(es.modify i f)[k]?=some en'∧en'.born=en.born:=by
 rw[Array.getElem?_modify]
 by_cases e:i=k
 ·subst e;rw[h];exact⟨f en,by simp,hf en⟩
 ·rw[if_neg e];exact⟨en,h,rfl⟩
theorem push_born{es:Array MapEntry}{x:MapEntry}(k:Nat)(en:MapEntry)(h:es[k]?=some en):∃en':MapEntry,(es.push x)[k]?=some en'∧en'.born=en.born:=by
 have hlt:=(Array.getElem?_eq_some_iff.1 h).1
 exact⟨en,by rw[Array.getElem?_push_lt hlt];rw[Array.getElem?_eq_getElem hlt]at h;exact h,rfl⟩
theorem nodup_push{es:Array MapEntry}{cl:Nat}{k v:Value}(hn:(es.toList.map (·.born)).Nodup)(hc:∀en∈es.toList,en.born<cl):((es.push ⟨k,v,cl⟩).toList.map (·.born)).Nodup∧∀en∈(es.push ⟨k,v,cl⟩).toList,en.born<cl+1:=by
 constructor
 ·simp only[Array.toList_push,List.map_append,List.map_cons,List.map_nil]
  refine List.nodup_append.2 ⟨hn,by simp,fun y hy z hz=>?_⟩
  simp only[List.mem_singleton]at hz
  subst hz
  obtain⟨en,h1,rfl⟩:=List.mem_map.1 hy
  exact Nat.ne_of_lt (hc en h1)
 ·intro en hen
  simp only[Array.toList_push,List.mem_append,List.mem_singleton]at hen
  rcases hen with hen|rfl
  ·exact Nat.lt_succ_of_lt (hc en hen)
  ·exact Nat.lt_succ_self _
theorem snoc_keys{kt t:Nat}{l:List (cx.G.car kt×List (cx.G.car t))}{x:cx.G.car kt}{q:List (cx.G.car t)}(hn:(l.map (·.1)).Nodup)(h:x∉l.map (·.1)):((l++[(x,q)]).map (·.1)).Nodup:=by
 rw[List.map_append]
 refine List.nodup_append.2 ⟨hn,by simp,fun y hy z hz=>?_⟩
 simp only[List.map_cons,List.map_nil,List.mem_singleton]at hz
 subst hz
 exact fun e=>h (e▸hy)
open Classical in
theorem Rel.writeMap{L N N0 S ty kt t e:Nat}{l:List (cx.G.car kt×List (cx.G.car t))}{h1 h2 zs:List (cx.G.car kt×Nat)}{x:cx.G.car kt}{vx:Value}(h:Rel cx m A g a w)(hk:KeyOK cx.P cx.G ty kt)
  (hL:g (.o L)=some (.dm kt t e l (h1++(x,N0)::h2) zs S)) (hx:KeyIs cx.G kt x vx):
  ∃w',(Instr.mapUpdate ty (.map (some (m L).b)) vx (den m (.h N))).run cx.P w= .ok () w'∧Rel cx m A (upd [(.o L,some (.dm kt t e (@insK _ _ (cx.G.deq kt) l x) (h1++(x,N)::h2) zs S))] g) a w':=by
 obtain⟨es,cl,hh,hdm,h3⟩:=h.ent _ _ hL
 obtain⟨k,el,hty,hcheck,hf⟩:=dm_find (w:=w) hk hdm hx
 rcases hf with⟨i,p,en,hp,hpx,hes,h7,h8,hkst⟩|⟨h5,h6⟩
 ·have hmem:x∈l.map (·.1):=List.mem_map.2 ⟨p,List.mem_of_getElem? hp,hpx⟩
  rw[@insK_mem _ _ (cx.G.deq kt) x l hmem]
  refine⟨{ w with heap:=w.heap.setIfInBounds (m L).b (.map (es.modify i fun e=>{ e with key:=vx,val:=den m (.h N) }) cl) },?_,
   h.mapWrote hL hh hdm h3 ⟨0,fun _ _=>rfl,.inr rfl⟩ (by simpa using hdm.size) hdm.nodup (fun _ h=>h) hmem (Nat.le_refl _) (by rw[born_modify (f:=fun e=>({ e with key:=vx,val:=den m (.h N) }:MapEntry)) (fun _=>rfl)];exact hdm.born) (clock_modify (fun _=>rfl) hdm.clock) (stamp_put hdm.stamp (fun k p hp=>⟨p,hp,rfl⟩) (modify_born fun _=>rfl)) rfl (dm_put hdm h3 hx hp hpx hes)⟩
  simp only[Instr.mapUpdate,run_underlying hty,MapKept.run_getObj_map hh,hcheck,h8,Result.andThen,Sem.run_bind,hkst,MapKept.run_setObj_map _ hh]
 ·rw[@insK_none _ _ (cx.G.deq kt) x l h5]
  obtain⟨hb1,hb2⟩:=nodup_push (k:=vx) (v:=den m (.h N)) hdm.born hdm.clock
  refine⟨{ w with heap:=w.heap.setIfInBounds (m L).b (.map (es.push { key:=vx,val:=den m (.h N),born:=cl }) (cl+1)) },?_,
   h.mapWrote hL hh hdm h3 ⟨0,fun _ _=>rfl,.inr rfl⟩ (by simp[hdm.size]) (snoc_keys hdm.nodup h5) (fun y hy=>by simp only[List.map_append,List.mem_append];exact .inl hy) (by simp) (by simp) hb1 hb2 (stamp_put hdm.stamp (fun k p hp=>⟨p,by rw[List.getElem?_append_left (List.getElem?_eq_some_iff.1 hp).1];exact hp,rfl⟩) push_born) rfl (dm_push hdm h3 hx h5)⟩
  simp[Instr.mapUpdate,run_underlying hty,MapKept.run_getObj_map hh,hcheck,h6,Result.andThen,MapKept.run_setObj_map _ hh]
end
def subAt(sub:Nat→HV)(k:Option Nat)(h:HV):Nat→HV:=match k with
 |some k=>setSub sub k h
 |none=>sub
section
variable{cx:Cx}{m:Nat→MV}{A:Nat→Prop}{g g':CMap cx}{a:Act}{w:World}
def closeMU{car:Nat→Type}(L N S' kt t e:Nat)(l:List (car kt×List (car t)))(hs zs:List (car kt×Nat)):St car:=
 [(.o N,none),(.o L,some (.dm kt t e l hs zs S'))]
open Classical in
theorem Rel.closeMap{L N S S' kt t e:Nat}{l:List (cx.G.car kt×List (cx.G.car t))}{h1 h2 zs:List (cx.G.car kt×Nat)}{x:cx.G.car kt}{q:List (cx.G.car t)}(h:Rel cx m A g a w)
  (hL:g (.o L)=some (.dm kt t e l (h1++(x,N)::h2) zs S)) (hgN:g (.o N)=some (.row e t q)) (hfl:cx.G.flat t=true) (hS:Free cx S' g):
  ∃m',Rel cx m' A (upd (closeMU L N S' kt t e (@updK _ _ (cx.G.deq kt) l x q) (h1++h2) zs) g) a w∧∀l,l≠S'→m' l=m l:=by
 have hLN:L≠N:=fun e=>by subst e;rw[hL]at hgN;cases hgN
 have hLS:L≠S':=fun e=>by subst e;rw[free_none hS (by simp[keyHas])]at hL;cases hL
 have hNS:N≠S':=fun e=>by subst e;rw[free_none hS (by simp[keyHas])]at hgN;cases hgN
 obtain⟨es,cl,hh,hdm,h3⟩:=h.ent _ _ hL
 have hrow:RowAt cx.G A w (hvOf (m N)) e t q:=h.ent _ _ hgN
 have hholes:=hdm.holes
 rw[List.map_append,List.map_cons]at hholes
 obtain⟨hnd,hnot⟩:=nodup_mid hholes
 have hno:∀p∈h1++h2,p.1≠x:=fun p hp e=>hnot (by rw[←List.map_append];exact List.mem_map.2 ⟨p,hp,e⟩)
 have hnone:holeK x (h1++h2)=none:=holeK_none hno
 have hsome:holeK x (h1++(x,N)::h2)=some N:=by
  rw[holeK_append,show holeK x h1=none from holeK_none fun p hp=>hno p (List.mem_append.2 (.inl hp)),holeK_cons,if_pos rfl]
 obtain⟨k,hk⟩:∃k:Option Nat,match k with|some k=>∃p,l[k]?=some p∧p.1=x|none=>x∉l.map (·.1):=by
  by_cases hm:x∈l.map (·.1)
  ·obtain⟨p,hp,hpx⟩:=List.mem_map.1 hm
   obtain⟨k,hk⟩:=List.getElem?_of_mem hp
   exact⟨some k,p,hk,hpx⟩
  ·exact⟨none,hm⟩
 obtain⟨sub',hsub'⟩:∃sub':Nat→HV,sub'=subAt (m S).sub k (hvOf (m N)):=⟨_,rfl⟩
 have sub_ne:∀k',k≠some k'→sub' k'=(m S).sub k':=fun k' hne=>by
  subst hsub'
  cases k with
  |none=>rfl
  |some k0=>exact setSub_ne _ _ fun e=>hne (by rw[e])
 generalize hm':setL m S' (subMV sub')=m'
 have eS:m' S'=subMV sub':=by rw[←hm',setL_self]
 have eo:∀l,l≠S'→m' l=m l:=fun l h5=>by rw[←hm',setL_ne _ _ h5]
 have hl':(∃k0,k=some k0∧k0<l.length∧@updK _ _ (cx.G.deq kt) l x q=l.set k0 (x,q))∨(k=none∧@updK _ _ (cx.G.deq kt) l x q=l):=by
  cases k with
  |some k0=>
   obtain⟨p,hp,hpx⟩:=hk
   exact .inl ⟨k0,rfl,(List.getElem?_eq_some_iff.1 hp).1,@updK_at _ _ (cx.G.deq kt) x q l k0 p hdm.nodup hp hpx⟩
  |none=>exact .inr ⟨rfl,@updK_none _ _ (cx.G.deq kt) x q l hk⟩
 have hkeys:(@updK _ _ (cx.G.deq kt) l x q).map (·.1)=l.map (·.1):=@updK_keys _ _ (cx.G.deq kt) x q l
 have hlen:(@updK _ _ (cx.G.deq kt) l x q).length=l.length:=by have:=congrArg List.length hkeys;simpa using this
 generalize hq':@updK _ _ (cx.G.deq kt) l x q=l' at*
 have hgk:∀k,upd (closeMU L N S' kt t e l' (h1++h2) zs) g k=if k= .o N then none else if k= .o L then some (.dm kt t e l' (h1++h2) zs S')else g k:=upd_two hLN
 have gN:upd (closeMU L N S' kt t e l' (h1++h2) zs) g (.o N)=none:=by rw[hgk,if_pos rfl]
 have gL:upd (closeMU L N S' kt t e l' (h1++h2) zs) g (.o L)=some (.dm kt t e l' (h1++h2) zs S'):=by rw[hgk,if_neg (by simpa using hLN),if_pos rfl]
 have ownN:(m N).c≠0→Owns m N (g (.o N)) (m N).b:=fun h7=>by rw[hgN];exact⟨h7,rfl⟩
 have hNb:(m N).c≠0→∀b,Owns m L (g (.o L)) b→b≠(m N).b:=fun h7 b h8 e=>by
  subst e;exact hLN (h.inj L N _ h8 (ownN h7))
 have hment:∀k' l',mentions l' k' (g k')=true→m' l'=m l':=fun k' l' hl'=>by
  cases e:g k' with
  |none=>rw[e]at hl';cases hl'
  |some v=>rw[e]at hl';exact eo l' (free_ne hS e l' hl')
 have hho:∀p∈h1++h2,m' p.2=m p.2:=fun p hp=>hment (.o L) _ (by
  rw[hL]
  simp only[mentions,valHas,keyHas,Bool.or_eq_true,List.any_eq_true]
  exact .inl (.inl (.inr ⟨p,by rcases List.mem_append.1 hp with h8|h8<;>simp[h8],by simp⟩)))
 have hzs:∀p∈zs,m' p.2=m p.2:=fun p hp=>hment (.o L) _ (by
  rw[hL]
  simp only[mentions,valHas,keyHas,Bool.or_eq_true,List.any_eq_true]
  exact .inl (.inr ⟨p,hp,by simp⟩))
 refine⟨m',h.regive (T:=fun l'=>l'=L∨l'=N) (fun k' hk'=>?_) (fun k' _=>hment k') (fun l' o hT=>?_) (fun l0 v hT hv=>?_) (fun l0 b hT hb=>?_) (fun l1 l2 b hT1 hT2 hb1 hb2=>?_) (fun p hp=>eo _ (hS.2.1 p hp)) (fun L' hL'=>eo _ (fun e=>?_)),eo⟩
 ·rw[hgk,if_neg (fun e=>hk' N (.inr rfl) e),if_neg (fun e=>hk' L (.inl rfl) e)]
 ·cases e:g (.c l' o)with
  |none=>rfl
  |some v=>
   obtain⟨ty,n,h7⟩:=h.cell _ _ _ e
   rcases hT with rfl|rfl
   ·rw[hL]at h7;cases h7
   ·rw[hgN]at h7;cases h7
 ·rcases hT with rfl|rfl
  ·rw[gL]at hv;cases hv
   show ∃es cl,w.heap[(m' l0).b]?=some (.map es cl)∧_
   rw[eo l0 hLS]
   refine⟨es,cl,hh,?_,?_⟩
   ·rw[eS]
    refine⟨hdm.size.trans hlen.symm,by rw[hkeys];exact hdm.nodup,fun i p hp=>?_,fun p hp hn=>?_,by rw[List.map_append];exact hnd,hdm.born,hdm.clock,fun q hq=>by
     obtain⟨k,p,en,g1,g2,g3,g4⟩:=hdm.stamp q hq
     have:(l'.map (·.1))[k]?=some q.1:=by rw[hkeys,List.getElem?_map,g1];simp[g2]
     rw[List.getElem?_map]at this
     obtain⟨p',g5,g6⟩:=Option.map_eq_some_iff.1 this
     exact⟨k,p',en,g5,g6,g3,by rw[hzs q hq];exact g4⟩⟩
    ·show ∃en,es[i]?=some en∧_∧SubIs _ _ _ _ (sub' i) _ _ _ _
     by_cases ei:k=some i
     ·rcases hl' with⟨k0,h5,h6,h7⟩|⟨h5,_⟩
      ·rw[ei]at h5;cases h5
       rw[h7,List.getElem?_set_self h6]at hp
       cases hp
       rw[ei]at hk
       obtain⟨p0,hp0,hpx⟩:=hk
       obtain⟨en,h8,h9,h10⟩:=hdm.ent i p0 hp0
       rw[hpx,hsome]at h10
       refine⟨en,h8,by rw[hpx]at h9;exact h9,?_⟩
       rw[hnone,hsub',ei]
       show SubIs _ _ _ _ (setSub _ _ _ _) _ _ _ _
       rw[setSub_self]
       exact⟨e,rfl,hfl,by rw[h10.1];rfl,hrow⟩
      ·rw[ei]at h5;cases h5
     ·have hp0:l[i]?=some p:=by
       rcases hl' with⟨k0,h5,h6,h7⟩|⟨_,h6⟩
       ·rw[h7,List.getElem?_set_ne (fun e=>ei (by rw[h5,e]))]at hp;exact hp
       ·rw[h6]at hp;exact hp
      obtain⟨en,h8,h9,h10⟩:=hdm.ent i p hp0
      refine⟨en,h8,h9,?_⟩
      have e0:p.1≠x:=fun e0=>by
       cases k with
       |none=>exact hk (List.mem_map.2 ⟨p,List.mem_of_getElem? hp0,e0⟩)
       |some k0=>
        obtain⟨p0,hp1,hpx⟩:=hk
        exact ei (by rw[nodup_idx (x:=x) hdm.nodup (i:=k0) (j:=i) (by rw[List.getElem?_map,hp1];simp[hpx]) (by rw[List.getElem?_map,hp0];simp[e0])])
      rw[sub_ne i ei]
      rw[holeK_mid (Ne.symm e0)]at h10
      exact h10.step (fun _ h=>h) (fun _ _=>rfl) (fun a' ha'=>hho _ (holeK_mem ha')) (fun _=>rfl)
    ·simp only[den,hho p hp]
     exact hdm.nil p (by rcases List.mem_append.1 hp with h8|h8<;>simp[h8]) (by rw[←hkeys];exact hn)
   ·rw[eS]
    show SubsOK w sub' _ _
    rw[hlen]
    subst hsub'
    cases k with
    |none=>exact h3
    |some k0=>
     obtain⟨p0,hp0,_⟩:=hk
     exact h3.into (List.getElem?_eq_some_iff.1 hp0).1 (fun h7 e=>hNb h7 (m l0).b (by rw[hL];exact .inl rfl) e.symm) (fun h7=>h.blk (ownN h7)) (fun h7 k' h8 e=>hNb h7 _ (by rw[hL];exact .inr ⟨k',h8,rfl⟩) e)
  ·rw[gN]at hv;cases hv
 ·rcases hT with rfl|rfl
  ·rw[gL]at hb
   simp only[Owns,eo l0 hLS,eS,subMV]at hb
   rcases hb with hb|⟨k',hk',rfl⟩
   ·exact⟨l0,.inl rfl,by rw[hL];exact .inl hb⟩
   ·by_cases e:k=some k'
    ·subst hsub'
     subst e
     simp only[subAt,setSub_self]at hk'⊢
     exact⟨N,.inr rfl,ownN hk'⟩
    ·rw[sub_ne _ e]at hk'⊢
     exact⟨l0,.inl rfl,by rw[hL];exact .inr ⟨k',hk',rfl⟩⟩
  ·rw[gN]at hb;exact hb.elim
 ·rcases hT1 with rfl|rfl<;>rcases hT2 with rfl|rfl
  ·rfl
  ·rw[gN]at hb2;exact hb2.elim
  ·rw[gN]at hb1;exact hb1.elim
  ·rfl
 ·subst e;exact absurd hL' (Nat.not_lt.2 hS.2.2)
end
section
variable{cx:Cx}{m:Nat→MV}{A:Nat→Prop}{g g':CMap cx}{a:Act}{w:World}
def stampMV(n:Nat):MV:={ b:=0,p:=none,n:=n,c:=0 }
open Classical in
theorem Rel.entryMap{L N Z S ty kt t e:Nat}{l:List (cx.G.car kt×List (cx.G.car t))}{h1 h2 zs:List (cx.G.car kt×Nat)}{x:cx.G.car kt}{vx:Value}(h:Rel cx m A g a w)(hk:KeyOK cx.P cx.G ty kt)
  (hL:g (.o L)=some (.dm kt t e l (h1++(x,N)::h2) zs S)) (hx:KeyIs cx.G kt x vx) (hZ:Free cx Z g) (hNZ:N≠Z) (hzero:∀k el,cx.P.underlying ty=some (.map k el)→∀w,(zeroValue el).run cx.P w= .ok (.slice none 0 0) w):
  ∃w' m',(Instr.mapEntry ty (.map (some (m L).b)) vx).run cx.P w= .ok (.tuple #[den m (.h N),.int .i64 ((m' Z).n:Int)]) w'∧Rel cx m' A (upd [(.o L,some (.dm kt t e (@insK _ _ (cx.G.deq kt) l x) (h1++(x,N)::h2) ((x,Z)::zs) S))] g) a w'∧∀l,l≠Z→m' l=m l:=by
 obtain⟨es,cl,hh,hdm,h3⟩:=h.ent _ _ hL
 obtain⟨k,el,hty,hcheck,hf⟩:=dm_find (w:=w) hk hdm hx
 have hz0:=hzero k el hty
 obtain⟨hnd,hnot⟩:=nodup_mid (by have:=hdm.holes;rw[List.map_append,List.map_cons]at this;exact this)
 have hhole:holeK x (h1++(x,N)::h2)=some N:=by
  rw[holeK_append,show holeK x h1=none from holeK_none fun p hp e=>hnot (by simp only[List.mem_append,List.mem_map];exact .inl ⟨p,hp,e⟩),holeK_cons,if_pos rfl]
 have hzs:∀n,∀q∈zs,(setL m Z (stampMV n)) q.2=m q.2:=fun n q hq=>setL_ne _ _ (free_ne hZ hL q.2 (by
  simp only[mentions,valHas,keyHas,Bool.or_eq_true,List.any_eq_true]
  exact .inl (.inr ⟨q,hq,by simp⟩)))
 have hst:∀n,(∃(k:Nat) (p:cx.G.car kt×List (cx.G.car t)) (en:MapEntry),l[k]?=some p∧p.1=x∧es[k]?=some en∧en.born=n)→∀q∈(x,Z)::zs,∃(k:Nat) (p:cx.G.car kt×List (cx.G.car t)) (en:MapEntry),l[k]?=some p∧p.1=q.1∧es[k]?=some en∧en.born=((setL m Z (stampMV n)) q.2).n:=fun n hn q hq=>by
  rcases List.mem_cons.1 hq with rfl|hq
  ·obtain⟨k,p,en,g1,g2,g3,g4⟩:=hn
   exact⟨k,p,en,g1,g2,g3,by rw[setL_self];exact g4⟩
  ·rw[hzs n q hq];exact hdm.stamp q hq
 have hdN:∀n,den (setL m Z (stampMV n)) (.h N)=den m (.h N):=fun n=>by simp only[den,setL_ne _ _ hNZ]
 rcases hf with⟨i,p,en,hp,hpx,hes,h7,h8,hkst⟩|⟨h5,h6⟩
 ·have hmem:x∈l.map (·.1):=List.mem_map.2 ⟨p,List.mem_of_getElem? hp,hpx⟩
  have hval:en.val=den m (.h N):=by
   obtain⟨en1,g1,_,g2⟩:=hdm.ent i p hp
   rw[hes]at g1;cases g1
   rw[hpx,hhole]at g2
   exact g2.1
  have hmod:(es.modify i fun e=>{ e with key:=vx })=es.modify i fun e=>{ e with key:=vx,val:=den m (.h N) }:=by
   apply Array.ext'
   apply List.ext_getElem?
   intro j
   simp only[Array.getElem?_toList,Array.getElem?_modify]
   by_cases ej:i=j
   ·subst ej;simp[hes,hval]
   ·simp[ej]
  rw[@insK_mem _ _ (cx.G.deq kt) x l hmem]
  refine⟨{ w with heap:=w.heap.setIfInBounds (m L).b (.map (es.modify i fun e=>{ e with key:=vx,val:=den m (.h N) }) cl) },setL m Z (stampMV en.born),?_,
   h.mapWrote (N:=N) hL hh hdm h3 ⟨Z,fun l hl=>setL_ne _ _ hl,.inl hZ⟩ (by simpa using hdm.size) hdm.nodup (fun _ h=>h) hmem (Nat.le_refl _) (by rw[born_modify (f:=fun e=>({ e with key:=vx,val:=den m (.h N) }:MapEntry)) (fun _=>rfl)];exact hdm.born) (clock_modify (fun _=>rfl) hdm.clock)
    (stamp_put (m:=setL m Z (stampMV en.born)) (hst en.born ⟨i,p,en,hp,hpx,hes,rfl⟩) (fun k p hp=>⟨p,hp,rfl⟩) (modify_born fun _=>rfl)) (hdN _) (dm_put hdm h3 hx hp hpx hes),fun l hl=>setL_ne _ _ hl⟩
  rw[←hmod]
  have hkst':=hkst w
  rw[hes]at hkst'
  simp only[Option.map_some,Option.getD_some]at hkst'
  simp[Instr.mapEntry,run_underlying hty,MapKept.run_getObj_map hh,hcheck,h8,Result.andThen,Sem.run_bind,hkst',MapKept.run_setObj_map _ hh,setL_self,stampMV,hval,hes,goInt]
 ·have hval:den m (.h N)= .slice none 0 0:=hdm.nil (x,N) (by simp) h5
  rw[@insK_none _ _ (cx.G.deq kt) x l h5]
  obtain⟨hb1,hb2⟩:=nodup_push (k:=vx) (v:=den m (.h N)) hdm.born hdm.clock
  refine⟨{ w with heap:=w.heap.setIfInBounds (m L).b (.map (es.push { key:=vx,val:=den m (.h N),born:=cl }) (cl+1)) },setL m Z (stampMV cl),?_,
   h.mapWrote (N:=N) hL hh hdm h3 ⟨Z,fun l hl=>setL_ne _ _ hl,.inl hZ⟩ (by simp[hdm.size]) (snoc_keys hdm.nodup h5) (fun y hy=>by simp only[List.map_append,List.mem_append];exact .inl hy) (by simp) (by simp) hb1 hb2 (fun q hq=>?_) (hdN _) (dm_push hdm h3 hx h5),fun l hl=>setL_ne _ _ hl⟩
  ·rw[hval]
   simp[Instr.mapEntry,run_underlying hty,MapKept.run_getObj_map hh,hcheck,h6,Result.andThen,MapKept.run_setObj_map _ hh,hz0,setL_self,stampMV,goInt]
  ·rcases List.mem_cons.1 hq with rfl|hq
   ·exact⟨l.length,(x,[]),_,by simp,rfl,by rw[←hdm.size];exact Array.getElem?_push_size,by rw[setL_self];rfl⟩
   ·obtain⟨k,p,en,g1,g2,g3,g4⟩:=hdm.stamp q hq
    obtain⟨en',g5,g6⟩:=push_born (x:={ key:=vx,val:=den m (.h N),born:=cl }) k en g3
    exact⟨k,p,en',by rw[List.getElem?_append_left (List.getElem?_eq_some_iff.1 g1).1];exact g1,g2,g5,by rw[hzs _ q hq];exact g6.trans g4⟩
open Classical in
theorem Rel.storeEntry{L N N0 Z S ty kt t e:Nat}{l:List (cx.G.car kt×List (cx.G.car t))}{h1 h2 zs:List (cx.G.car kt×Nat)}{x:cx.G.car kt}(h:Rel cx m A g a w)
  (hL:g (.o L)=some (.dm kt t e l (h1++(x,N0)::h2) zs S)) (hZ:(x,Z)∈zs):
  ∃w',(Instr.entryStore ty (.map (some (m L).b)) (.int .i64 ((m Z).n:Int)) (den m (.h N))).run cx.P w= .ok () w'∧Rel cx m A (upd [(.o L,some (.dm kt t e l (h1++(x,N)::h2) zs S))] g) a w':=by
 obtain⟨es,cl,hh,hdm,h3⟩:=h.ent _ _ hL
 obtain⟨i,p,en,hp,hpx,hes,hborn⟩:=hdm.stamp _ hZ
 have hborn:en.born=(m Z).n:=hborn
 obtain⟨en1,g1,hkey,_⟩:=hdm.ent i p hp
 rw[hes]at g1;cases g1
 rw[hpx]at hkey
 have hmem:x∈l.map (·.1):=List.mem_map.2 ⟨p,List.mem_of_getElem? hp,hpx⟩
 have hfi:es.findIdx? (fun e=>(e.born:Int)==((m Z).n:Int))=some i:=by
  rw[Array.findIdx?_eq_some_iff_getElem]
  obtain⟨hi,hi2⟩:=Array.getElem?_eq_some_iff.1 hes
  refine⟨hi,by rw[hi2,hborn];simp,fun j hj=>?_⟩
  have hjlt:j<es.size:=Nat.lt_trans hj hi
  intro e
  have e:(es[j]'hjlt).born=(m Z).n:=by
   have e2:(((es[j]'hjlt).born:Nat):Int)=((m Z).n:Int):=by simpa using e
   omega
  have h8:(es.toList.map (·.born))[j]?=some (m Z).n:=by rw[List.getElem?_map,Array.getElem?_toList,Array.getElem?_eq_getElem hjlt];simp[e]
  have h9:(es.toList.map (·.born))[i]?=some (m Z).n:=by rw[List.getElem?_map,Array.getElem?_toList,hes];simp[hborn]
  have:=nodup_idx hdm.born h8 h9
  omega
 have hmod:(es.modify i fun e=>{ e with val:=den m (.h N) })=es.modify i fun e=>{ e with key:=en.key,val:=den m (.h N) }:=by
  apply Array.ext'
  apply List.ext_getElem?
  intro j
  simp only[Array.getElem?_toList,Array.getElem?_modify]
  by_cases ej:i=j
  ·subst ej;simp[hes]
  ·simp[ej]
 refine⟨{ w with heap:=w.heap.setIfInBounds (m L).b (.map (es.modify i fun e=>{ e with key:=en.key,val:=den m (.h N) }) cl) },?_,
  h.mapWrote hL hh hdm h3 ⟨0,fun _ _=>rfl,.inr rfl⟩ (by simpa using hdm.size) hdm.nodup (fun _ h=>h) hmem (Nat.le_refl _) (by rw[born_modify (f:=fun e=>({ e with key:=en.key,val:=den m (.h N) }:MapEntry)) (fun _=>rfl)];exact hdm.born) (clock_modify (fun _=>rfl) hdm.clock) (stamp_put hdm.stamp (fun k p hp=>⟨p,hp,rfl⟩) (modify_born fun _=>rfl)) rfl (dm_put hdm h3 hkey hp hpx hes)⟩
 rw[←hmod]
 simp[Instr.entryStore,MapKept.run_getObj_map hh,asInt,asIntOf,hfi,Result.andThen,MapKept.run_setObj_map _ hh]
end
end
end Go.KX

namespace Go.Proofs.Bm
open Go Go.KX Go.RowKit
set_option maxRecDepth 100000
def keyVs(x:Key):List Value:=[.int .i64 x.f_hour,.int .i64 x.f_site,.int .i64 x.f_notch,.int .i64 x.f_cases.a0,.int .i64 x.f_cases.a1,.int .i64 x.f_cases.a2]
theorem key_eqB(x y:Key):eqB E.P 8 125 (.agg (keyVs x).toArray) (.agg (keyVs y).toArray)=
  some ((x.f_hour==y.f_hour)&&((x.f_site==y.f_site)&&((x.f_notch==y.f_notch)&&(((x.f_cases.a0==y.f_cases.a0)&&((x.f_cases.a1==y.f_cases.a1)&&((x.f_cases.a2==y.f_cases.a2)&&true)))&&true)))):=by kernel_rfl
theorem key_keyB(x:Key):keyB E.P 8 125 (.agg (keyVs x).toArray)=true:=by kernel_rfl
theorem key_bool(x y:Key):((x.f_hour==y.f_hour)&&((x.f_site==y.f_site)&&((x.f_notch==y.f_notch)&&(((x.f_cases.a0==y.f_cases.a0)&&((x.f_cases.a1==y.f_cases.a1)&&((x.f_cases.a2==y.f_cases.a2)&&true)))&&true))))=decide (x=y):=by
 obtain⟨a,b,c,d,e,f⟩:=x
 obtain⟨a',b',c',d',e',f'⟩:=y
 rw[Bool.eq_iff_iff]
 simp only[Bool.and_eq_true,beq_iff_eq,decide_eq_true_eq,Key.mk.injEq,A3ofInt.mk.injEq,and_true]
theorem keyOK:KeyOK E.P E.G 180 23:=⟨⟨125,22,by kernel_rfl,by kernel_rfl,fun(x:Key)=>⟨keyVs x,rfl,rfl,key_keyB x,fun(y:Key) us h=>by
 have hu:keyVs y=us:=mapV_inj (car:=E.G.car) (show(keyVs y).map CV.v=us.map CV.v from h)
 subst hu
 rw[key_eqB,key_bool]
 congr 1
 split
 ·rename_i e _;exact decide_eq_true e
 ·rename_i e _;exact decide_eq_false e⟩⟩⟩
theorem keyOK2:KeyOK E.P E.G 122 23:=⟨⟨125,43,by kernel_rfl,by kernel_rfl,fun(x:Key)=>⟨keyVs x,rfl,rfl,key_keyB x,fun(y:Key) us h=>by
 have hu:keyVs y=us:=mapV_inj (car:=E.G.car) (show(keyVs y).map CV.v=us.map CV.v from h)
 subst hu
 rw[key_eqB,key_bool]
 congr 1
 split
 ·rename_i e _;exact decide_eq_true e
 ·rename_i e _;exact decide_eq_false e⟩⟩⟩
theorem keys0:∀p∈E.keys,KeyOK E.P E.G p.1 p.2:=by
 intro p hp
 have hp:p∈[(180,23),(122,23)]:=hp
 rcases List.mem_cons.1 hp with h|h
 ·subst h;exact keyOK
 ·rw[List.mem_singleton.1 h];exact keyOK2
end Go.Proofs.Bm

namespace Go.KX
open Go Go.RowKit
noncomputable section
theorem copyL_length{α:Type}{l q:List α}{i:Nat}(h:i+q.length≤l.length):(copyL l i q).length=l.length:=by
 simp only[copyL,List.length_append,List.length_take,List.length_drop]
 omega
theorem copyL_get{α:Type}{l q:List α}{i:Nat}(h:i+q.length≤l.length)(k:Nat):(copyL l i q)[k]?=if i≤k∧k<i+q.length then q[k-i]? else l[k]?:=by
 have hl:(l.take i).length=i:=by rw[List.length_take];omega
 unfold copyL
 rcases Nat.lt_or_ge k i with h1|h1
 ·rw[if_neg (by omega),List.getElem?_append_left (by omega),List.getElem?_take,if_pos h1]
 ·rw[List.getElem?_append_right (by omega),hl]
  rcases Nat.lt_or_ge k (i+q.length)with h2|h2
  ·rw[if_pos ⟨h1,h2⟩,List.getElem?_append_left (by omega)]
  ·rw[if_neg (by omega),List.getElem?_append_right (by omega),List.getElem?_drop]
   congr 1
   omega
theorem copyL_nil{α:Type}(l:List α)(i:Nat):copyL l i []=l:=by simp[copyL]
section
variable{cx:Cx}{m:Nat→MV}{A:Nat→Prop}{g:CMap cx}{a:Act}{w:World}
theorem Rel.copyRow{L ety t i:Nat}{l q:List (cx.G.car t)}{vs:List Value}(h:Rel cx m A g a w)(hb:g (.o L)=some (.row ety t l))(hi:i+q.length≤l.length)(hq0:q≠[])
  (hd:HdL cx.G A w (q.flatMap (cx.G.enc t)) vs) (hone:∀u∈vs,oneC u=true):
  ∃w',(m L).p=some ⟨(m L).b,0,none⟩∧(storeCells ⟨(m L).b,i*cx.G.sz t,none⟩ vs).run cx.P w= .ok () w'∧Rel cx m A (upd [(.o L,some (.row ety t (copyL l i q)))] g) a w':=by
 have hq1:0<q.length:=List.length_pos_iff.2 hq0
 obtain⟨hn,h2⟩:=h.ent _ _ hb
 rcases h2 with⟨_,hl,_⟩|⟨hc,hp,cur,hh,hsz,hle,hin⟩
 ·subst hl;rw[List.length_nil]at hi;omega
 have hL:Owns m L (g (.o L)) (m L).b:=by rw[hb];exact⟨hc,rfl⟩
 have hvl:vs.length=q.length*cx.G.sz t:=by rw[hd.length,flat_length (cx.G.hsz t)]
 have hfit:i*cx.G.sz t+vs.length≤cur.size:=by
  rw[hsz,hvl,←Nat.add_mul]
  exact Nat.mul_le_mul_right _ (by omega)
 obtain⟨w',cur',h1,h2',h3,h4,h5,h6,h7,h8,h9⟩:=run_storeCellsW (P:=cx.P) (o:=i*cx.G.sz t) vs 0 w cur hh hone (by omega)
 have hAw:∀b,A b→w'.heap[b]?=w.heap[b]?:=fun b hb'=>h9 b fun e=>(h.own L _ hL).2 (e▸hb')
 have hupd:∀k,upd [(.o L,some (.row ety t (copyL l i q)))] g k=if .o L=k then some (.row ety t (copyL l i q))else g k:=fun k=>upd_one
 refine⟨w',hp,h1,h.wrote hL h5 h6 h7 (by omega) (fun k _ hk=>h9 k hk) (fun _ _=>rfl) h.fix h.pins (fun k e1 e2=>by rw[hupd,if_neg (Ne.symm e2)]) (fun _ _ _ _=>rfl) (fun v hv=>?_) (fun o' v hv=>?_) (fun b hv=>by rw[hupd,if_pos rfl]at hv;rw[hb];exact hv)⟩
 ·rw[hupd,if_pos rfl]at hv
  cases hv
  refine⟨by rw[hn,copyL_length hi],.inr ⟨hc,hp,cur',h2',by rw[h3,hsz],by rw[copyL_length hi];exact hle,fun k y hy j cv hcv=>?_⟩⟩
  rw[copyL_get hi]at hy
  have hj:j<cx.G.sz t:=by rw[←cx.G.hsz t y];exact(List.getElem?_eq_some_iff.1 hcv).1
  by_cases e:i≤k∧k<i+q.length
  ·rw[if_pos e]at hy
   have hk:k*cx.G.sz t=i*cx.G.sz t+(k-i)*cx.G.sz t:=by rw[←Nat.add_mul];congr 1;omega
   have hlt:(k-i)*cx.G.sz t+j<vs.length:=by
    have:(k-i+1)*cx.G.sz t≤q.length*cx.G.sz t:=Nat.mul_le_mul_right _ (by omega)
    rw[Nat.add_mul,Nat.one_mul]at this
    omega
   obtain⟨u,h10,h11⟩:=hd.get _ cv (flat_get (cx.G.hsz t) hy hcv)
   refine⟨u,?_,h11.mono (fun _ h=>h) hAw⟩
   rw[h4,Nat.add_zero,if_pos (by omega),show k*cx.G.sz t+j-i*cx.G.sz t=(k-i)*cx.G.sz t+j by omega]
   exact h10
  ·rw[if_neg e]at hy
   obtain⟨u,h10,h11⟩:=hin k y hy j cv hcv
   refine⟨u,?_,h11.mono (fun _ h=>h) hAw⟩
   rw[h4,Nat.add_zero,if_neg,h10]
   rintro⟨e1,e2⟩
   rw[hvl,←Nat.add_mul]at e2
   rcases Nat.lt_or_ge k i with h12|h12
   ·have:(k+1)*cx.G.sz t≤i*cx.G.sz t:=Nat.mul_le_mul_right _ h12
    rw[Nat.add_mul,Nat.one_mul]at this
    omega
   ·have:(i+q.length)*cx.G.sz t≤k*cx.G.sz t:=Nat.mul_le_mul_right _ (by omega)
    omega
 ·rw[hupd,if_neg (by simp)]at hv
  obtain⟨ty,n,h10⟩:=h.cell L o' v hv
  rw[hb]at h10;cases h10
end
variable{E:Env}{b:Base}{o:Oper}{s:Map E.G.car}
variable{d:Nat}{type:TypeId}{pos:String}{after:Array Edge}{guard:Option (Nat×Bool)}
variable{m:Nat→MV}{A:Nat→Prop}{g:Map E.G.car}{a:Act}{w:World}
inductive CpSrc(M:Map E.G.car):SV→Key→(t:Nat)→List (E.G.car t)→Prop
 |h {L t:Nat} {key:Key} {l:List (E.G.car t)} (hl:ListIs M L key t l):CpSrc M (.h L) key t l
 |n {L t:Nat} {key:Key} {l:List (E.G.car t)} (hl:ListIs M L key t l):CpSrc M (.n L) key t l
 |w {L t:Nat} {i n:Int} {key:Key} {l:List (E.G.car t)} (hl:ListIs M L key t l):CpSrc M (.w L i n (E.G.sz t)) key t ((l.drop i.toNat).take n.toNat)
theorem cpSrc_sound{R:Type}{r:R}{c:EC E}{M:Map E.G.car}(hS:Sees c M){v:SV}{K:Key→(t:Nat)→List (E.G.car t)→Option R}(h:cpSrc c.s v K=some r):
  ∃key t q,K key t q=some r∧CpSrc M v key t q:=by
 unfold cpSrc at h
 split at h
 ·obtain⟨k,t,l,h1,h2⟩:=listK_sound hS h
  exact⟨_,_,_,h1,.h h2⟩
 ·obtain⟨k,t,l,h1,h2⟩:=listK_sound hS h
  exact⟨_,_,_,h1,.n h2⟩
 ·obtain⟨k,t,l,h1,h2⟩:=listK_sound hS h
  obtain⟨h3,h4⟩:=bif_some h1
  have hk:=Nat.eq_of_beq_eq_true h3
  subst hk
  exact⟨_,_,_,h4,.w h2⟩
 ·cases h
theorem ListIs.cap{M:Map E.G.car}{L t:Nat}{k:Key}{l:List (E.G.car t)}(h:ListIs M L k t l)(hrel:Rel (cxOf E b) m A g a w)(hk:g k=M k):(m L).n≤(m L).c:=by
 cases h with
 |row h=>
  obtain⟨h1,h2⟩:=hrel.ent _ _ (hk.trans h)
  rcases h2 with⟨h3,h4,_⟩|⟨_,_,_,_,_,h3,_⟩
  ·rw[h1,h4];simp
  ·rw[h1];exact h3
 |ext h=>
  have h1:=hrel.ent _ _ (hk.trans h)
  exact(Hd.len h1).2
theorem CpSrc.lies{M:Map E.G.car}{v:SV}{key:Key}{t:Nat}{q:List (E.G.car t)}(h:CpSrc M v key t q)(hrel:Rel (cxOf E b) m A g a w)(hk:g key=M key)(hok:v.ok m):
  ∃p n c,den m v= .slice p n c∧n=q.length∧(q≠[]→∃bb oo,p=some ⟨bb,oo,none⟩∧
   ∀(i:Nat) (x:E.G.car t),q[i]?=some x→∀(j:Nat) (cv:CV E.G.car),(E.G.enc t x)[j]?=some cv→∃u,w.cell? ⟨bb,oo+i*E.G.sz t+j,none⟩=some u∧Hd E.G A w cv u):=by
 cases h with
 |h hl=>exact⟨_,_,_,rfl,hl.len hrel hk,hl.lies hrel hk⟩
 |n hl=>exact⟨_,_,_,rfl,hl.len hrel hk,hl.lies hrel hk⟩
 | @w L t i n key l hl=>
  obtain⟨h1,h2,h3⟩:=hok
  have hlen:=hl.len hrel hk
  have hcap:=hl.cap hrel hk
  have hql:((l.drop i.toNat).take n.toNat).length=n.toNat:=by
   rw[List.length_take,List.length_drop];omega
  refine⟨_,_,_,rfl,hql.symm,fun hne=>?_⟩
  have hn:n.toNat≠0:=fun e=>hne (List.length_eq_zero_iff.1 (hql.trans e))
  have hl0:l≠[]:=fun e=>by subst e;rw[hlen]at h3;simp at h3;omega
  obtain⟨bb,oo,hp,h4⟩:=hl.lies hrel hk hl0
  refine⟨bb,oo+i.toNat*E.G.sz t,?_,fun k x hx j cv hcv=>?_⟩
  ·rw[if_neg (by omega),hp]
   simp[addr_add]
  ·have hx':l[i.toNat+k]?=some x:=by
    rw[List.getElem?_take]at hx
    split at hx
    ·rwa [List.getElem?_drop]at hx
    ·cases hx
   obtain⟨u,h5,h6⟩:=h4 _ _ hx' j cv hcv
   refine⟨u,?_,h6⟩
   rw[←h5,Nat.add_mul,Nat.add_assoc oo]
inductive CpDst(M:Map E.G.car):SV→(L ety t:Nat)→List (E.G.car t)→Int→Int→Prop
 |h {L ety t:Nat} {l:List (E.G.car t)} (hl:M (.o L)=some (.row ety t l)):CpDst M (.h L) L ety t l 0 (l.length:Int)
 |w {L ety t:Nat} {i n:Int} {l:List (E.G.car t)} (hl:M (.o L)=some (.row ety t l)):CpDst M (.w L i n (E.G.sz t)) L ety t l i n
theorem cpDst_sound{R:Type}{r:R}{c:EC E}{M:Map E.G.car}(hS:Sees c M){v:SV}{K:(L ety t:Nat)→List (E.G.car t)→Int→Int→Option R}(h:cpDst c.s v K=some r):
  ∃L ety t l i n,K L ety t l i n=some r∧M (.o L)=some (.row ety t l)∧CpDst M v L ety t l i n:=by
 unfold cpDst at h
 split at h
 ·rename_i L
  split at h
  ·rename_i ety t l hb
   exact⟨_,_,_,_,_,_,h,(hS.o L).trans hb,.h ((hS.o L).trans hb)⟩
  ·cases h
 ·rename_i L i n k
  split at h
  ·rename_i ety t l hb
   obtain⟨h3,h4⟩:=bif_some h
   have hk:=Nat.eq_of_beq_eq_true h3
   subst hk
   exact⟨_,_,_,_,_,_,h4,(hS.o L).trans hb,.w ((hS.o L).trans hb)⟩
  ·cases h
 ·cases h
theorem CpDst.lies{M:Map E.G.car}{v:SV}{L ety t:Nat}{l:List (E.G.car t)}{i n:Int}(h:CpDst M v L ety t l i n)(hrel:Rel (cxOf E b) m A g a w)(hg:g (.o L)=some (.row ety t l))(hok:v.ok m):
  (0≤i∧0≤n∧i+n≤(l.length:Int))∧∃p c,den m v= .slice p n.toNat c∧(n.toNat≠0→p=some ⟨(m L).b,i.toNat*E.G.sz t,none⟩)∧(p=none→n.toNat=0):=by
 obtain⟨h1,h2⟩:=hrel.ent _ _ hg
 cases h with
 |h hl=>
  refine⟨by omega,(m L).p,(m L).c,by simp[den,h1],fun hn=>?_,fun hp=>?_⟩
  ·rcases h2 with⟨_,h3,_⟩|⟨_,h3,_⟩
   ·subst h3;simp at hn
   ·rw[h3];simp
  ·rcases h2 with⟨_,h3,_⟩|⟨_,h3,_⟩
   ·subst h3;simp
   ·rw[h3]at hp;cases hp
 |w hl=>
  obtain⟨k1,k2,k3⟩:=hok
  have hin:i+n≤(l.length:Int):=by rw[←h1];exact k3
  rcases h2 with⟨h4,h3,_⟩|⟨_,h3,_,_,_,h5,_⟩
  ·subst h3
   simp only[List.length_nil,Int.natCast_zero]at hin
   have hn:n.toNat=0:=by omega
   refine⟨⟨k1,k2,by simpa using hin⟩,_,_,rfl,fun hn'=>absurd hn hn',fun _=>hn⟩
  ·refine⟨⟨k1,k2,hin⟩,_,_,rfl,fun hn=>?_,fun hp=>?_⟩
   ·rw[if_neg (by omega),h3];simp[addr_add]
   ·by_cases e:(m L).c=i.toNat
    ·omega
    ·rw[if_neg e,h3]at hp;cases hp
theorem copy_run{P:Program}{w w':World}{dT sT ty:TypeId}{sz dLen dCap sLen sCap:Nat}{p p2:Option Addr}{vs:List Value}(hu:sliceSz P dT=some sz)
  (hc:(Builtin.firstCells sz (Nat.min sLen dLen) (.slice p2 sLen sCap)).run P w= .ok vs.toArray w) (hst:∀ad,p=some ad→(storeCells ad vs).run P w= .ok () w') (hno:p=none→w'=w):
  (Builtin.copy_ #[dT,sT] ty #[.slice p dLen dCap,.slice p2 sLen sCap]).run P w= .ok (goInt (Nat.min sLen dLen)) w':=by
 unfold sliceSz at hu
 split at hu
 ·rename_i e he
  cases hi:P.info? e with
  |none=>rw[hi]at hu;cases hu
  |some inf=>
   rw[hi]at hu
   simp only[Option.map_some,Option.some.injEq]at hu
   subst hu
   cases p with
   |none=>rw[hno rfl];simp[Builtin.copy_,run_underlying he,Builtin.lenOf,sizeOf,typeInfo,hi,hc]
   |some ad=>simp[Builtin.copy_,run_underlying he,Builtin.lenOf,sizeOf,typeInfo,hi,hc,hst ad rfl]
 ·cases hu
theorem op_copy{tt tt' L ety t:Nat}{x y:Operand}{v u:SV}{l q:List (E.G.car t)}{i n:Int}{key:Key}(hN:d<b.N)(hsz:sliceSz E.P tt=some (E.G.sz t))(hx:Ev E s x v)(hy:Ev E s y u)
  (hL:s (.o L)=some (.row ety t l)) (hv:CpDst s v L ety t l i n) (hu:CpSrc s u key t q):
  OpRun (cxOf E b) ⟨some d,.call ⟨.builtin .copy, #[x,y], #[tt,tt']⟩,type,pos,after,guard⟩ s
   ⟨.o L::key::okeysL [x,y],(.t d,some (.x (.i .i64 (((List.take n.toNat q).length:Nat):Int))))::[(.o L,some (.row ety t (copyL l i.toNat (List.take n.toNat q))))],[]⟩:=
 op_gen rfl hN (fun _ h=>by cases h) fun m A a w g hr hfree hrel=>by
  obtain⟨h1,k1⟩:=hx.eval hrel (fun k hk=>hr k (by simp[okeysL,hk]))
  obtain⟨h2,k2⟩:=hy.eval hrel (fun k hk=>hr k (by simp[okeysL,hk]))
  have hgL:g (.o L)=some (.row ety t l):=(hr _ (by simp)).trans hL
  have hkey:g key=s key:=hr key (by simp)
  obtain⟨⟨hi0,hn0,hin⟩,p,c,hdv,hp1,hp2⟩:=hv.lies hrel hgL k1
  obtain⟨p2,n2,c2,hdu,hn2,hel⟩:=hu.lies hrel hkey k2
  subst hn2
  have hmin:Nat.min q.length n.toNat=(List.take n.toNat q).length:=by rw[List.length_take];exact Nat.min_comm _ _
  have hexec:∀w',(Builtin.copy_ #[tt,tt'] type #[.slice p n.toNat c,.slice p2 q.length c2]).run E.P w= .ok (goInt (Nat.min q.length n.toNat)) w'→
    (execOp a.eval ⟨some d,.call ⟨.builtin .copy, #[x,y], #[tt,tt']⟩,type,pos,after,guard⟩).run E.P w= .ok (.value (den m (.i .i64 (((List.take n.toNat q).length:Nat):Int)))) w':=fun w' hr=>by
   rw[hdv]at h1
   rw[hdu]at h2
   simp[execOp,resolve,invoke,builtin,h1,h2,hr,den,goInt,hmin]
  by_cases hq0:List.take n.toNat q=[]
  ·
   have hz:Nat.min q.length n.toNat=0:=by rw[hmin,hq0];rfl
   refine⟨m,A,w,hexec w (copy_run (vs:=[]) hsz ?_ (fun ad _=>by simp[storeCells]) (fun _=>rfl)),trivial,hrel.congr fun k=>?_⟩
   ·rw[hz]
    cases p2 with
    |none=>exact run_firstCells_none w _ 0 _ c2
    |some ad=>exact run_firstCells_some w _ 0 ad _ c2 [] (by simp) (fun j v h=>by simp at h)
   ·rw[hq0,copyL_nil,upd_one]
    by_cases e:Key.o L=k
    ·subst e;rw[if_pos rfl];exact hgL
    ·rw[if_neg e]
  ·have hqne:q≠[]:=fun e=>by subst e;simp at hq0
   obtain⟨bb,oo,rfl,hel2⟩:=hel hqne
   have hhd:∀(z:Nat) (cv:CV E.G.car),((List.take n.toNat q).flatMap (E.G.enc t))[z]?=some cv→∃u,w.cell? ⟨bb,oo+z,none⟩=some u∧Hd E.G A w cv u:=fun z cv hz=>by
    obtain⟨i',j,x',rfl,h3,h4⟩:=flat_inv (E.G.hsz t) hz
    have h3':q[i']?=some x':=by
     rw[List.getElem?_take]at h3
     split at h3
     ·exact h3
     ·cases h3
    obtain⟨u',h5,h6⟩:=hel2 i' x' h3' j cv h4
    exact⟨u',by rw[show oo+(i'*E.G.sz t+j)=oo+i'*E.G.sz t+j by omega];exact h5,h6⟩
   obtain⟨vs,hvs,hvc⟩:=HdL.of (fun z u=>w.cell? ⟨bb,oo+z,none⟩=some u) hhd
   have hvl:vs.length=(List.take n.toNat q).length*E.G.sz t:=by rw[hvs.length,flat_length (E.G.hsz t)]
   have hone:∀u∈vs,oneC u=true:=fun u hu=>hvs.one (by
    rw[List.all_eq_true]
    intro cv hcv
    obtain⟨x',_,hx'⟩:=List.mem_flatMap.1 hcv
    exact List.all_eq_true.1 (E.G.one t x') cv hx') u hu
   have hlq:(List.take n.toNat q).length≤n.toNat:=by rw[List.length_take];omega
   obtain⟨w',h3,h4,h5⟩:=hrel.copyRow hgL (i:=i.toNat) (q:=List.take n.toNat q) (by omega) hq0 hvs hone
   have hn1:n.toNat≠0:=fun e=>hq0 (by rw[e];rfl)
   refine⟨m,A,w',hexec w' (copy_run (vs:=vs) hsz ?_ (fun ad had=>?_) (fun hp=>absurd (hp2 hp) hn1)),trivial,h5⟩
   ·refine run_firstCells_some w _ _ _ _ c2 vs ?_ (fun j v hj=>by rw[addr_add];exact hvc j v hj)
    rw[hvl,hmin]
   ·rw[hp1 hn1]at had
    cases had
    exact h4
theorem appW_run{P:Program}{w w':World}{tt ty e k bytes n c q c2:Nat}{ad:Addr}{p2:Option Addr}{vs:List Value}(hf:appFact P tt=some (e,k,bytes))(hn:n+q≤c)
  (h1:(Builtin.firstCells k q (.slice p2 q c2)).run P w= .ok vs.toArray w) (hst:(storeCells (ad.add (n*k)) vs).run P w= .ok () w'):
  (Builtin.append_ #[tt,tt] ty #[.slice (some ad) n c,.slice p2 q c2]).run P w= .ok (.slice (some ad) (n+q) c) w':=by
 obtain⟨i,z,hu,hi,hz,_,his,_,_⟩:=appFact_spec hf
 unfold Builtin.append_
 simp[run_underlying hu,sizeOf,typeInfo,hi,his,Builtin.lenOf,h1,hn,hst]
theorem op_appendW{tt L ety e t bytes:Nat}{x y:Operand}{u:SV}{l q:List (E.G.car t)}{i n:Int}{key:Key}(hN:d<b.N)(hf:appFact E.P tt=some (e,E.G.sz t,bytes))(hx:Ev E s x (.w L i n (E.G.sz t)))(hy:Ev E s y u)
  (hL:s (.o L)=some (.row ety t l)) (hu:CpSrc s u key t q) (hle:i+n+(q.length:Int)≤(l.length:Int)):
  OpRun (cxOf E b) ⟨some d,.call ⟨.builtin .append, #[x,y], #[tt,tt]⟩,type,pos,after,guard⟩ s
   ⟨.o L::key::okeysL [x,y],(.t d,some (.x (.w L i (n+(q.length:Int)) (E.G.sz t))))::[(.o L,some (.row ety t (copyL l (i+n).toNat q)))],[]⟩:=
 op_gen rfl hN (fun _ h=>by cases h) fun m A a w g hr hfree hrel=>by
  obtain⟨h1,k1⟩:=hx.eval hrel (fun k hk=>hr k (by simp[okeysL,hk]))
  obtain⟨h2,k2⟩:=hy.eval hrel (fun k hk=>hr k (by simp[okeysL,hk]))
  have hgL:g (.o L)=some (.row ety t l):=(hr _ (by simp)).trans hL
  have hkey:g key=s key:=hr key (by simp)
  obtain⟨hi0,hn0,hin⟩:=k1
  obtain⟨p2,n2,c2,hdu,hn2,hel⟩:=hu.lies hrel hkey k2
  subst hn2
  obtain⟨g1,g2⟩:=hrel.ent _ _ hgL
  have hok:(SV.w L i (n+(q.length:Int)) (E.G.sz t)).ok m:=⟨hi0,by omega,by omega⟩
  have hexec:∀w' z,(Builtin.append_ #[tt,tt] type #[den m (.w L i n (E.G.sz t)),.slice p2 q.length c2]).run E.P w= .ok z w'→
    (execOp a.eval ⟨some d,.call ⟨.builtin .append, #[x,y], #[tt,tt]⟩,type,pos,after,guard⟩).run E.P w= .ok (.value z) w':=fun w' z hr=>by
   rw[hdu]at h2
   simp[execOp,resolve,invoke,builtin,h1,h2,hr]
  by_cases hq0:q=[]
  ·subst hq0
   have hden:den m (.w L i (n+(([]:List (E.G.car t)).length:Int)) (E.G.sz t))=den m (.w L i n (E.G.sz t)):=by
    rw[List.length_nil,Int.natCast_zero,Int.add_zero]
   have hnc:n.toNat≤(m L).c-i.toNat:=by
    rcases g2 with⟨h3,h4,_⟩|⟨_,_,_,_,_,h5,_⟩
    ·subst h4;simp at hle;omega
    ·simp at hle;omega
   refine⟨m,A,w,?_,hok,hrel.congr fun k=>?_⟩
   ·rw[hden]
    exact hexec w _ (append_none hf hnc)
   ·rw[copyL_nil,upd_one]
    by_cases e:Key.o L=k
    ·subst e;rw[if_pos rfl];exact hgL
    ·rw[if_neg e]
  ·have hq1:0<q.length:=List.length_pos_iff.2 hq0
   obtain⟨bb,oo,rfl,hel2⟩:=hel hq0
   have hhd:∀(z:Nat) (cv:CV E.G.car),(q.flatMap (E.G.enc t))[z]?=some cv→∃u,w.cell? ⟨bb,oo+z,none⟩=some u∧Hd E.G A w cv u:=fun z cv hz=>by
    obtain⟨i',j,x',rfl,h3,h4⟩:=flat_inv (E.G.hsz t) hz
    obtain⟨u',h5,h6⟩:=hel2 i' x' h3 j cv h4
    exact⟨u',by rw[show oo+(i'*E.G.sz t+j)=oo+i'*E.G.sz t+j by omega];exact h5,h6⟩
   obtain⟨vs,hvs,hvc⟩:=HdL.of (fun z u=>w.cell? ⟨bb,oo+z,none⟩=some u) hhd
   have hvl:vs.length=q.length*E.G.sz t:=by rw[hvs.length,flat_length (E.G.hsz t)]
   have hone:∀u∈vs,oneC u=true:=fun u hu=>hvs.one (by
    rw[List.all_eq_true]
    intro cv hcv
    obtain⟨x',_,hx'⟩:=List.mem_flatMap.1 hcv
    exact List.all_eq_true.1 (E.G.one t x') cv hx') u hu
   obtain⟨w',h3,h4,h5⟩:=hrel.copyRow hgL (i:=(i+n).toNat) (q:=q) (by omega) hq0 hvs hone
   have hlc:l.length≤(m L).c:=by
    rcases g2 with⟨_,h6,_⟩|⟨_,_,_,_,_,h6,_⟩
    ·subst h6;simp
    ·exact h6
   have hb:∀z:Int,den m (.w L i z (E.G.sz t))= .slice (some ⟨(m L).b,i.toNat*E.G.sz t,none⟩) z.toNat ((m L).c-i.toNat):=fun z=>by
    show Value.slice (if(m L).c=i.toNat then(m L).p else(m L).p.map (·.add (i.toNat*E.G.sz t))) z.toNat _=_
    rw[if_neg (by omega),h3]
    simp[addr_add]
   refine⟨m,A,w',?_,hok,h5⟩
   rw[hb]
   refine hexec w' _ ?_
   rw[hb,show(n+(q.length:Int)).toNat=n.toNat+q.length by omega]
   refine appW_run hf (by omega) (vs:=vs) ?_ ?_
   ·exact run_firstCells_some w _ _ _ _ c2 vs hvl (fun j v hj=>by rw[addr_add];exact hvc j v hj)
   ·rw[addr_add,←Nat.add_mul,show i.toNat+n.toNat=(i+n).toNat by omega]
    exact h4
end
end Go.KX

namespace Go.KX
open Go Go.RowKit
noncomputable section
section
variable{E:Env}{R:Type}{r:R}{c:EC E}{M:Map E.G.car}
theorem EvL.one{s:Map E.G.car}{xs:List Operand}{v:SV}(h:EvL E s xs [v]):∃x,xs=[x]∧Ev E s x v:=by
 cases xs with
 |nil=>exact absurd (show[v]=[]from h) (by simp)
 |cons x xs=>
  obtain⟨v',vs',h1,h2,h3⟩:=h
  cases h1
  cases xs with
  |nil=>exact⟨x,rfl,h2⟩
  |cons y ys=>obtain⟨_,_,h4,_⟩:=h3;cases h4
theorem EvL.two{s:Map E.G.car}{xs:List Operand}{v w:SV}(h:EvL E s xs [v,w]):∃x y,xs=[x,y]∧Ev E s x v∧Ev E s y w:=by
 cases xs with
 |nil=>exact absurd (show[v,w]=[]from h) (by simp)
 |cons x xs=>
  obtain⟨v',vs',h1,h2,h3⟩:=h
  cases h1
  obtain⟨y,rfl,h4⟩:=h3.one
  exact⟨x,y,rfl,h2,h4⟩
def ResOK(c:EC E)(M:Map E.G.car)(o:Oper)(res:OpRes E.G.car):Prop:=
 AnteOK c.ante→∀b:Base,(∀d,o.dst=some d→d<b.N)→OpRun (cxOf E b) o M ⟨res.rd,res.up,newL c.s.nl res.nl⟩
theorem lenK_sound(hS:Sees c M){v:SV}{K:List Key→SV→Option R}(h:lenK c.s v K=some r):
  ∃ks y,K ks y=some r∧∀(b:Base) (m:Nat→MV) (A:Nat→Prop) (a:Act) (w:World) (g:Map E.G.car),(∀k∈ks,g k=M k)→Rel (cxOf E b) m A g a w→v.ok m→y.ok m∧∃p n c,den m v= .slice p n c∧den m y= .int .i64 n:=by
 cases v with
 |h L=>
  simp only[lenK]at h
  obtain⟨k,t,l,h1,h2⟩:=listK_sound hS h
  refine⟨_,_,h1,fun b m A a w g hk hrel _=>⟨trivial,_,_,_,rfl,?_⟩⟩
  simp only[den,h2.len hrel (hk k (by simp))]
 |n L=>
  simp only[lenK]at h
  obtain⟨k,t,l,h1,h2⟩:=listK_sound hS h
  refine⟨_,_,h1,fun b m A a w g hk hrel _=>⟨trivial,_,_,_,rfl,?_⟩⟩
  simp only[den,h2.len hrel (hk k (by simp))]
 |w L i n k=>
  refine⟨_,_,h,fun b m A a w g hk hrel hok=>⟨trivial,_,_,_,rfl,?_⟩⟩
  have:(n.toNat:Int)=n:=by obtain⟨_,h2,_⟩:=hok;omega
  simp only[den,this]
 |v x=>
  cases x with
  |slice p n c=>exact⟨_,_,h,fun b m A a w g hk hrel _=>⟨trivial,_,_,_,rfl,rfl⟩⟩
  |_=>simp[lenK]at h
 |s L o n c=>exact⟨_,_,h,fun b m A a w g hk hrel _=>⟨trivial,_,_,_,rfl,rfl⟩⟩
 |_=>simp[lenK]at h
set_option maxHeartbeats 1000000 in
theorem opK_sound(hS:Sees c M){wr:Bool}{o:Oper}{K:OpRes E.G.car→Option R}(h:opK c wr o K=some r):∃res,K res=some r∧ResOK c M o res:=by
 obtain⟨dst,op,type,pos,after,guard⟩:=o
 have pure1:∀{d:Nat} {rd:List Key} {x:SV},K ⟨rd,putsOne d x,c.s.nl⟩=some r→(AnteOK c.ante→∀b:Base,d<b.N→OpRun (cxOf E b) ⟨some d,op,type,pos,after,guard⟩ M ⟨rd,[(.t d,some (.x x))],[]⟩)→
   ∃res,K res=some r∧ResOK c M ⟨some d,op,type,pos,after,guard⟩ res:=fun{d rd x} h1 h2=>
  ⟨_,h1,fun ha b hd=>by rw[newL_self];exact h2 ha b (hd d rfl)⟩
 cases dst with
 |none=>
  cases op with
  |store ty x y=>
   obtain⟨v,h1,hv⟩:=evK_sound hS h
   obtain⟨u,h2,hu⟩:=evK_sound hS h1
   obtain⟨ks,us,h3,h4⟩:=storeK_sound hS h2
   exact⟨_,h3,fun _ b _=>by rw[newL_self];exact h4 hv hu⟩
  |mapUpdate ty x y z=>
   obtain⟨v,h1,hv⟩:=evK_sound hS h
   obtain⟨k,h2,hk⟩:=evK_sound hS h1
   obtain⟨u,h3,hu⟩:=evK_sound hS h2
   obtain⟨ks,us,h4,h5⟩:=mapSetK_sound hS h3
   exact⟨_,h4,fun _ b _=>by rw[newL_self];exact h5 hv hk hu⟩
  |_=>simp[opK]at h
 |some d=>
  cases op with
  |move x=>
   obtain⟨v,h1,hv⟩:=evK_sound hS h
   exact pure1 h1 fun _ b hd=>op_move hd hv
  |assign x=>
   obtain⟨v,h1,hv⟩:=evK_sound hS h
   exact pure1 h1 fun _ b hd=>op_assign hd hv
  |binOp op ty x y ty'=>
   obtain⟨v,h1,hv⟩:=evK_sound hS h
   obtain⟨u,h2,hu⟩:=evK_sound hS h1
   clear h h1
   split at h2
   ·rename_i p _
    obtain⟨q,l,h3,h4⟩:=boolK_sound h2
    clear h2
    split at h3
    ·rename_i hun
     exact pure1 h3 fun _ b hd=>op_boolEq (op:= .eql) hd hun (.inl rfl) hv hu (fun _=>rfl) h4
    ·rename_i hun
     exact pure1 h3 fun _ b hd=>op_boolEq (op:= .neq) hd hun (.inr rfl) hv hu (fun _=>rfl) h4
    ·cases h3
   ·obtain⟨e,h3,hop,h4⟩:=aggEqK_sound h2
    exact pure1 h3 fun _ b hd=>op_aggEq hd hv hu (fun X Y m w _=>h4 X Y m w) (.inl rfl)
   ·obtain⟨e,h3,h4⟩:=nilEqK_sound h2
    refine pure1 h3 fun _ b hd=>op_aggEq hd hv hu (fun X Y m w hok=>h4 X Y m w _ _ _ ?_) (.inr rfl)
    have hok:(m _).p.isSome=true:=hok
    simpa using hok
   ·obtain⟨e,h3,h4⟩:=nilEqK_sound h2
    exact pure1 h3 fun _ b hd=>op_aggEq hd hv hu (fun X Y m w hok=>h4 X Y m w _ _ _ rfl) (.inr rfl)
   ·obtain⟨k,n,la,h3,h4⟩:=intK_sound h2
    obtain⟨k',p,lb,h5,h6⟩:=intK_sound h3
    cases hsh:(isSh op&&(notAnd op||decide (k=k')))with
    |true=>
     rw[hsh,cond_true]at h5
     obtain⟨x',h7,h8,h9⟩:=shK_sound h5
     refine pure1 h7 fun ha b hd=>op_binSh hd hv hu h4 h6 h8 fun X Y m w=>h9 ha X Y m ty k' w ?_
     simp only[Bool.and_eq_true,Bool.or_eq_true,decide_eq_true_eq]at hsh
     rcases hsh.2 with h10|h10
     ·exact .inl h10
     ·exact .inr h10.symm
    |false=>
    rw[hsh,cond_false]at h5
    obtain⟨h7,h8⟩:=bif_some h5
    have hk:k=k':=of_decide_eq_true h7
    subst hk
    obtain⟨x',h9,h10⟩:=binK_sound h8
    refine pure1 h9 fun ha b hd=>?_
    obtain⟨rv,h11,h12⟩:=h10 ha
    exact op_bin hd hv hu h4 h6 h11 h12
  |unOp op ty x=>
   obtain⟨v,h1,hv⟩:=evK_sound hS h
   clear h
   cases op with
   |not=>
    obtain⟨e,l,h2,h3⟩:=boolK_sound h1
    exact pure1 h2 fun _ b hd=>op_not hd hv h3 fun m=>mkB_den m _ _
   |neg=>
    obtain⟨k,n,l,h2,h3⟩:=intK_sound h1
    obtain⟨h4,h5⟩:=bif_some h2
    have hk:=isI64_eq h4
    subst hk
    obtain⟨x',h6,h7⟩:=arK_sound h5
    refine pure1 h6 fun ha b hd=>op_neg hd hv h3 fun m=>?_
    have h8:=h7 ha m
    cases l with
    |true=>exact h8
    |false=>rw[Int.zero_sub];exact h8
   |_=>simp at h1
  |extract x i=>
   obtain⟨v,h1,hv⟩:=evK_sound hS h
   clear h
   split at h1
   ·split at h1
    ·rename_i l _ y hy
     exact pure1 h1 fun _ b hd=>op_extract hd hv hy
    ·cases h1
   ·cases h1
  |fieldAddr ty x f=>
   obtain⟨v,h1,hv⟩:=evK_sound hS h
   clear h
   split at h1
   ·rename_i off hoff
    split at h1
    ·exact pure1 h1 fun _ b hd=>op_fieldAddrP hd hv hoff
    ·obtain⟨k,t,l,h2,h3⟩:=listK_sound hS h1
     exact pure1 h2 fun _ b hd=>op_fieldAddrE hd hv h3 hoff
    ·exact pure1 h1 fun _ b hd=>op_fieldAddrA hd hv hoff
    ·cases h1
   ·cases h1
  |indexAddr ty x y=>
   obtain⟨v,h1,hv⟩:=evK_sound hS h
   obtain⟨u,h2,hu⟩:=evK_sound hS h1
   obtain⟨k,i,li,h3,h4⟩:=intK_sound h2
   clear h h1 h2
   split at h3
   ·split at h3
    ·rename_i sz hsz
     obtain⟨key,t,l,h5,h6⟩:=listK_sound hS h3
     obtain⟨h7,h8⟩:=chkA_sound h5
     exact pure1 h7 fun ha b hd=>op_ixH hd hv hu h4 h6 hsz (h8 ha)
    ·cases h3
   ·split at h3
    ·rename_i sz hsz
     obtain⟨key,t,l,h5,h6⟩:=listK_sound hS h3
     obtain⟨h7,h8⟩:=chkA_sound h5
     exact pure1 h7 fun ha b hd=>op_ixN hd hv hu h4 h6 hsz (h8 ha)
    ·cases h3
   ·split at h3
    ·rename_i sz hsz
     obtain⟨hk,h3⟩:=bif_some h3
     have hk:=Nat.eq_of_beq_eq_true hk
     subst hk
     obtain⟨key,t,l,h5,h6⟩:=listK_sound hS h3
     obtain⟨h7,h8⟩:=chkA_sound h5
     exact pure1 h7 fun ha b hd=>op_ixW hd hv hu h4 h6 hsz (h8 ha)
    ·cases h3
   ·split at h3
    ·rename_i sz hsz
     obtain⟨h5,h6⟩:=bif_some h3
     have h7:=of_decide_eq_true h5
     exact pure1 h6 fun _ b hd=>op_ixS hd hv hu h4 hsz h7.1 h7.2
    ·cases h3
   ·split at h3
    ·rename_i len sz hsz
     obtain⟨h5,h6⟩:=bif_some h3
     have h7:=of_decide_eq_true h5
     exact pure1 h6 fun _ b hd=>op_ixA hd hv hu h4 hsz h7.1 h7.2
    ·rename_i len sz hsz
     split at h3
     ·split at h3
      ·obtain⟨h7,h8⟩:=chkA_sound h3
       exact pure1 h7 fun ha b hd=>op_ixAS hd hv hu h4 hsz (h8 ha)
      ·cases h3
     ·cases h3
    ·cases h3
   ·cases h3
  |load ty x=>
   obtain⟨v,h1,hv⟩:=evK_sound hS h
   clear h
   split at h1
   ·obtain⟨ks,y,h2,h3⟩:=loadAK_sound (d:=d) (type:=type) (pos:=pos) (after:=after) (guard:=guard) hS h1
    exact pure1 h2 fun _ b hd=>h3 hd hv
   ·obtain⟨ks,y,us,nl,h2,h3⟩:=loadK_sound (d:=d) (type:=type) (pos:=pos) (after:=after) (guard:=guard) hS h1
    exact⟨_,h2,fun _ b hd=>h3 (hd d rfl) hv⟩
  |alloc ty=>
   simp only[opK]at h
   split at h
   ·rename_i vs hz
    exact⟨_,h,fun _ b hd=>op_alloc (hd d rfl) hz⟩
   ·cases h
  |box ty x=>
   obtain⟨v,h1,hv⟩:=evK_sound hS h
   obtain⟨h2,h3⟩:=bif_some h1
   simp only[Bool.and_eq_true]at h2
   exact⟨_,h3,fun _ b hd=>op_box (hd d rfl) hv h2.1 h2.2⟩
  |build ty ps=>
   obtain⟨vs,h1,hv⟩:=evL_sound hS h
   clear h
   split at h1
   ·rename_i z pl hz hpl
    split at h1
    ·rename_i cs hcs
     exact pure1 h1 fun _ b hd=>op_build hd hv hz hpl hcs
    ·cases h1
   ·cases h1
  |buildSlice ty n ps=>
   obtain⟨vs,h1,hv⟩:=evL_sound hS h
   clear h
   split at h1
   ·rename_i ety hety
    split at h1
    ·rename_i e' sz bytes t z ha ht hz
     split at h1
     ·rename_i cs hcs
      obtain⟨h2,h3⟩:=bif_some h1
      simp only[Bool.and_eq_true]at h2
      obtain⟨cvs,ks,us,h4,h5⟩:=svCVs_sound hS h3
      split at h4
      ·rename_i l hl
       obtain⟨h6,h7⟩:=bif_some' h4
       have he:e'=ety:=by
        obtain⟨_,_,h8,_⟩:=appFact_spec ha
        unfold sliceEl at hety
        rw[h8]at hety
        simpa using hety
       subst he
       exact⟨_,h7,fun _ b hd=>op_buildSlice (hd d rfl) hv ha hz hcs (Nat.eq_of_beq_eq_true h2.1) (Nat.le_of_ble_eq_true h2.2) h5 hl (by simpa using h6)⟩
      ·cases h4
     ·cases h1
    ·rename_i e' sz bytes z ha ht hz
     split at h1
     ·rename_i cs hcs
      obtain⟨h2,h3⟩:=bif_some h1
      simp only[Bool.and_eq_true]at h2
      have he:e'=ety:=by
       obtain⟨_,_,h8,_⟩:=appFact_spec ha
       unfold sliceEl at hety
       rw[h8]at hety
       simpa using hety
      subst he
      exact⟨_,h3,fun _ b hd=>op_buildSliceB (hd d rfl) hv ha hz hcs (Nat.le_of_ble_eq_true h2.1.1) (Nat.le_of_ble_eq_true h2.1.2) h2.2⟩
     ·cases h1
    ·cases h1
   ·cases h1
  |makeFunc fn fs cs=>
   obtain⟨vs,h1,hv⟩:=evL_sound hS h
   obtain⟨ws,h2,hw⟩:=evL_sound hS h1
   exact pure1 h2 fun _ b hd=>op_mkfn hd hv hw
  |nilCheck x=>
   obtain⟨v,h1,hv⟩:=evK_sound hS h
   clear h
   split at h1
   ·exact pure1 h1 fun _ b hd=>op_nilCheck hd hv trivial
   ·obtain⟨key,t,l,h5,h6⟩:=listK_sound hS h1
    exact pure1 h5 fun _ b hd=>op_nilCheckE hd hv h6
   ·exact pure1 h1 fun _ b hd=>op_nilCheckA hd hv
   ·exact pure1 h1 fun _ b hd=>op_nilCheck hd hv trivial
   ·exact pure1 h1 fun _ b hd=>op_nilCheck hd hv trivial
   ·cases h1
  |convert src dst x=>
   obtain⟨v,h1,hv⟩:=evK_sound hS h
   clear h
   split at h1
   ·rename_i ds k' hs hu
    obtain⟨k,n,l,h2,h3⟩:=intK_sound h1
    obtain⟨x',h4,h5⟩:=arK_sound h2
    exact pure1 h4 fun ha b hd=>op_convInt hd hs hu hv h3 (h5 ha)
   ·cases h1
  |call cc=>
   obtain⟨callee,ags,ts⟩:=cc
   cases callee with
   |builtin bi=>
    obtain⟨vs,h1,hv⟩:=evL_sound hS h
    clear h
    split at h1
    ·
     split at h1
     ·rename_i v ty hts
      split at h1
      ·rename_i sz hsz
       obtain⟨ks,y,h2,h3⟩:=lenK_sound hS h1
       obtain⟨x,h4,h5⟩:=hv.one
       have e1:ags= #[x]:=Array.ext' h4
       have e2:ts= #[ty]:=Array.ext' hts
       subst e1;subst e2
       exact pure1 h2 fun _ b hd=>op_lenG hd hsz h5 (h3 b)
      ·cases h1
     ·cases h1
    ·
     obtain⟨k,n,la,h2,h3⟩:=intK_sound h1
     obtain⟨k',p,lb,h4,h5⟩:=intK_sound h2
     obtain⟨h6,h7⟩:=bif_some h4
     have hk:k=k':=of_decide_eq_true h6
     subst hk
     obtain⟨x,y,h8,h9,h10⟩:=hv.two
     have e1:ags= #[x,y]:=Array.ext' h8
     subst e1
     exact pure1 h7 fun _ b hd=>op_minmax (mx:=false) hd h9 h10 h3 h5 fun m=>mkI_den m _ _ _
    ·
     obtain⟨k,n,la,h2,h3⟩:=intK_sound h1
     obtain⟨k',p,lb,h4,h5⟩:=intK_sound h2
     obtain⟨h6,h7⟩:=bif_some h4
     have hk:k=k':=of_decide_eq_true h6
     subst hk
     obtain⟨x,y,h8,h9,h10⟩:=hv.two
     have e1:ags= #[x,y]:=Array.ext' h8
     subst e1
     exact pure1 h7 fun _ b hd=>op_minmax (mx:=true) hd h9 h10 h3 h5 fun m=>mkI_den m _ _ _
    ·
     rename_i v u
     split at h1
     ·rename_i ty ty' hts
      split at h1
      ·rename_i sz hsz
       obtain⟨L,ety,t,l,i,n,h2,hL,h3⟩:=cpDst_sound hS h1
       obtain⟨key,t2,q,h4,h5⟩:=cpSrc_sound hS h2
       split at h4
       ·rename_i heq
        subst heq
        obtain⟨h6,h7⟩:=bif_some h4
        have hsz':=Nat.eq_of_beq_eq_true h6
        subst hsz'
        obtain⟨x,y,h8,h9,h10⟩:=hv.two
        have e1:ags= #[x,y]:=Array.ext' h8
        have e2:ts= #[ty,ty']:=Array.ext' hts
        subst e1;subst e2
        exact⟨_,h7,fun _ b hd=>by rw[newL_self];exact op_copy (hd d rfl) hsz h9 h10 hL h3 h5⟩
       ·cases h4
      ·cases h1
     ·cases h1
    ·
     rename_i v u
     split at h1
     ·rename_i ty ty' hts
      obtain⟨h2,h3⟩:=bif_some h1
      clear h1
      have htt:=Nat.eq_of_beq_eq_true h2
      subst htt
      split at h3
      ·rename_i ety sz bytes ha
       obtain⟨hby,h4⟩:=bif_some' h3
       clear h3
       have hby':bytes≤5000:=Nat.le_of_ble_eq_true (by simpa using hby)
       obtain⟨x,y,h8,h9,h10⟩:=hv.two
       have e1:ags= #[x,y]:=Array.ext' h8
       have e2:ts= #[ty,ty]:=Array.ext' hts
       subst e1;subst e2
       split at h4
       ·rename_i L2 hL2
        obtain⟨k2,t2,l2,h5,h6⟩:=listK_sound hS h4
        clear h4
        split at h5
        ·obtain⟨h7,h11⟩:=bif_some h5
         obtain⟨h12,h13⟩:=appK_sound h11
         have hsz:=Nat.eq_of_beq_eq_true h7
         subst hsz
         exact⟨_,h12,fun ha' b hd=>op_append (rd:=[]) (hd d rfl) ha hby' h9 h10 (hdrOf_den hL2) .nil (fun L e=>by cases e) h6 (by simpa using h13 ha')⟩
        ·rename_i L
         split at h5
         ·rename_i ety' t l hb
          split at h5
          ·rename_i heq
           subst heq
           obtain⟨h7,h11⟩:=bif_some h5
           simp only[Bool.and_eq_true]at h7
           have hsz:=Nat.eq_of_beq_eq_true h7.1.1
           have hety:=Nat.eq_of_beq_eq_true h7.1.2
           subst hsz;subst hety
           obtain⟨h12,h13⟩:=appK_sound h11
           exact⟨_,h12,fun ha' b hd=>op_append (rd:=[.o L]) (hd d rfl) ha hby' h9 h10 (hdrOf_den hL2) (.row ((hS.o L).trans hb)) (fun L' e=>by cases e;simp) h6 (h13 ha')⟩
          ·cases h5
         ·cases h5
        ·cases h5
       ·split at h4
        ·rename_i L i n k hante
         split at h4
         ·rename_i ety' t l hb
          obtain⟨key,t2,q,h5,h6⟩:=cpSrc_sound hS h4
          split at h5
          ·rename_i heq
           subst heq
           obtain⟨h7,h11⟩:=bif_some h5
           rw[Bool.and_eq_true]at h7
           have hsz:=Nat.eq_of_beq_eq_true h7.1
           have hk:=Nat.eq_of_beq_eq_true h7.2
           subst hsz;subst hk
           obtain⟨h12,h13⟩:=chk_so h11
           exact⟨_,h13,fun _ b hd=>by rw[newL_self];exact op_appendW (hd d rfl) ha h9 h10 ((hS.o L).trans hb) h6 h12⟩
          ·cases h5
         ·cases h4
        ·cases h4
      ·cases h3
     ·cases h1
    ·cases h1
   |_=>simp[opK]at h
  |makeMap ty q=>
   cases q with
   |some _=>simp[opK]at h
   |none=>
    simp only[opK]at h
    split at h
    ·rename_i h1
     exact⟨_,h,fun _ b hd=>op_makeMap (hd d rfl) h1⟩
    ·rename_i h1
     exact⟨_,h,fun _ b hd=>op_makeMap2 (hd d rfl) h1⟩
    ·cases h
  |lookup ty x y ok=>
   obtain⟨v,h1,hv⟩:=evK_sound hS h
   obtain⟨k,h2,hk⟩:=evK_sound hS h1
   cases ok with
   |true=>cases h2
   |false=>
    obtain⟨ks,u,h3,h4⟩:=mapGetK_sound hS h2
    exact pure1 h3 fun _ b hd=>h4 hd hv hk
  |makeSlice ty x y=>
   obtain⟨v,h1,hv⟩:=evK_sound hS h
   obtain⟨u,h2,hu⟩:=evK_sound hS h1
   obtain⟨k,n,la,h3,h4⟩:=intK_sound h2
   obtain⟨k',p,lb,h5,h6⟩:=intK_sound h3
   clear h h1 h2 h3
   split at h5
   ·rename_i ety hety
    split at h5
    ·rename_i e' sz bytes t z ha ht hz
     obtain⟨h7,h8⟩:=bif_some h5
     clear h5
     simp only[Bool.and_eq_true]at h7
     obtain⟨cvs,ks,us,h9,h10⟩:=svCVs_sound hS h8
     split at h9
     ·rename_i x0 hx0
      obtain⟨h11,h12⟩:=chkA_sound h9
      have hsz:=Nat.eq_of_beq_eq_true h7.1
      subst hsz
      have he:e'=ety:=by
       obtain⟨_,_,h8,_⟩:=appFact_spec ha
       unfold sliceEl at hety
       rw[h8]at hety
       simpa using hety
      subst he
      exact⟨_,h11,fun ha' b hd=>op_makeSlice (hd d rfl) hv hu h4 h6 ha (Nat.le_of_ble_eq_true h7.2) hz h10 hx0 (h12 ha')⟩
     ·cases h9
    ·cases h5
   ·cases h5
  |index ty x y=>
   obtain⟨v,h1,hv⟩:=evK_sound hS h
   obtain⟨u,h2,hu⟩:=evK_sound hS h1
   obtain⟨k,i,li,h3,h4⟩:=intK_sound h2
   clear h h1 h2
   split at h3
   ·obtain⟨y',h5,h6⟩:=elemK_sound hS h3
    exact pure1 h5 fun ha b hd=>op_index hd hv hu h4 (h6 ha)
   ·cases h3
  |slice ty x lo hi mx=>
   simp only[opK]at h
   split at h
   ·rename_i sz hsz
    obtain⟨v,h1,hv⟩:=evK_sound hS h
    clear h
    split at h1
    ·obtain⟨key,t,l,h2,h3⟩:=listK_sound hS h1
     obtain⟨h4,h5⟩:=bif_some h2
     obtain⟨a',h6,h7⟩:=optK_sound hS h5
     obtain⟨e',h8,h9⟩:=optK_sound hS h6
     obtain⟨h10,h11⟩:=chkA_sound h8
     exact pure1 h10 fun ha b hd=>op_sliceW hd hv h7 h9 h3 hsz (h11 ha)
    ·rename_i L i n k
     split at h1
     ·rename_i ety t l hb
      obtain⟨h4,h5⟩:=bif_some h1
      have hk:=Nat.eq_of_beq_eq_true h4
      subst hk
      obtain⟨a',h6,h7⟩:=optK_sound hS h5
      obtain⟨e',h8,h9⟩:=optK_sound hS h6
      obtain⟨h10,h11⟩:=chkA_sound h8
      exact pure1 h10 fun ha b hd=>op_sliceV hd hv h7 h9 ((hS.o L).trans hb) hsz (h11 ha)
     ·cases h1
    ·cases h1
   ·split at h
    ·rename_i harr
     obtain⟨v,h1,hv⟩:=evK_sound hS h
     clear h
     split at h1
     ·exact pure1 h1 fun _ b hd=>op_sliceA hd hv harr
     ·cases h1
    ·cases h
   ·rename_i y sz hsz
    split at h
    ·obtain⟨v,h1,hv⟩:=evK_sound hS h
     clear h
     split at h1
     ·obtain⟨key,t,l,h2,h3⟩:=listK_sound hS h1
      obtain⟨a',h6,h7⟩:=optK_sound hS h2
      obtain⟨e',h8,h9⟩:=optK_sound hS h6
      obtain⟨f',h10,h11⟩:=optK_sound hS h8
      obtain⟨h12,h13⟩:=chk_so h10
      exact⟨_,h13,fun _ b hd=>by rw[newL_self];exact op_slice3 (hd d rfl) hv h7 h9 h11 h3 hsz h12⟩
     ·cases h1
    ·cases h
   ·cases h
  |_=>simp[opK]at h
end
end
end Go.KX
