/- Texts KDR, KQ, KQ2, KU, KV, KW, KYA, KQ3, KDS, KDC, KQ4, KQ5, KQ6, KR: own work; each part says what it is. -/
import Derived.Test.YtkjblcgalfkkdaaGreatBm1
import Derived.LoopNIn
import Derived.RangeFuncRecord
import Derived.RangeFuncIn
namespace Go.KX
open Go Go.RowKit
noncomputable section
theorem getR_not{l:List (Int×List Value)}{n:Int}(h:l.all (fun p=>!decide (p.1=n))=true):getR l n=none:=by
 induction l with
 |nil=>rfl
 |cons p l ih=>
  simp only[List.all_cons,Bool.and_eq_true,Bool.not_eq_true',decide_eq_false_iff_not]at h
  simp only[getR,if_neg h.1,ih h.2]
theorem find_mapR{P:TypeDesc}(hP:P= .int .i64){n:Int}:∀(es:List MapEntry) (l:List (Int×List Value)) (i0:Nat),es.map (fun e=>(e.key,e.val))=l.map (fun p=>(Value.int .i64 p.1,Value.agg p.2.toArray))→
  (∃i us,Instr.findNow P (.int .i64 n) es i0=some (some (i0+i,.agg us.toArray))∧getR l n=some us)∨(getR l n=none∧Instr.findNow P (.int .i64 n) es i0=some none):=by
 subst hP
 intro es
 induction es with
 |nil=>
  intro l i0 h
  cases l with
  |nil=>exact .inr ⟨rfl,rfl⟩
  |cons _ _=>simp at h
 |cons e es ih=>
  intro l i0 h
  cases l with
  |nil=>simp at h
  |cons x l=>
   simp only[List.map_cons,List.cons.injEq,Prod.mk.injEq]at h
   obtain⟨⟨h1,h2⟩,h3⟩:=h
   by_cases hx:x.1=n
   ·refine .inl ⟨0,x.2,?_,by simp[getR,hx]⟩
    simp[Instr.findNow,h1,Instr.sameNow,h2,hx]
   ·have hs:Instr.sameNow (.int .i64) (.int .i64 n) e.key=some false:=by rw[h1];simp[Instr.sameNow,Ne.symm hx]
    rcases ih l (i0+1) h3 with⟨i,us,h5,h6⟩|⟨h4,h6⟩
    ·refine .inl ⟨i+1,us,?_,by simp only[getR,if_neg hx,h6]⟩
     simp only[Instr.findNow,hs,h5]
     rw[show i0+1+i=i0+(i+1) by omega]
    ·exact .inr ⟨by simp only[getR,if_neg hx,h4],by simp only[Instr.findNow,hs,h6]⟩
theorem mapIR_spec{P:Program}{ty:TypeId}{z:List Value}(h:mapIR P ty=some z):∃k e,P.underlying ty=some (.map k e)∧P.underlying k=some (.int .i64)∧∀w,(zeroValue e).run P w= .ok (.agg z.toArray) w:=by
 unfold mapIR at h
 split at h
 ·rename_i k e hu
  split at h
  ·rename_i z' h1 h2
   cases h
   refine⟨k,e,hu,h1,fun w=>?_⟩
   cases hi:P.info? e with
   |none=>rw[hi]at h2;cases h2
   |some inf=>
    rw[hi]at h2
    simp only[Option.bind_some]at h2
    simp[zeroValue,typeInfo,hi,h2]
  ·cases h
 ·cases h
theorem run_lookupR{P:Program}{ty:TypeId}{w:World}{b cl:Nat}{es:Array MapEntry}{l:List (Int×List Value)}{z:List Value}{n:Int}(h:mapIR P ty=some z)(hb:w.heap[b]?=some (.map es cl))(hm:MapIsR es l):
  (Instr.lookup ty (.map (some b)) (.int .i64 n) true).run P w= .ok (match getR l n with|some us=>.tuple #[.agg us.toArray,.bool true]|none=>.tuple #[.agg z.toArray,.bool false]) w:=by
 obtain⟨k,e,h1,h2,h3⟩:=mapIR_spec h
 have hc:∀em,(Instr.checkKey em 10000 k (.int .i64 n)).run P w= .ok () w:=fun em=>MapKept.run_checkKey (d:= .int .i64) h2 (by simp[MapKept.IsKey]) em 9999
 rcases find_mapR (n:=n) rfl es.toList l 0 hm with⟨i,us,h5,h6⟩|⟨h4,h5⟩
 ·rw[h6]
  simp[Instr.lookup,run_underlying h1,MapKept.run_getObj_map hb,hc,MapKept.run_findKey h2 h5,Result.andThen]
 ·rw[h4]
  simp[Instr.lookup,run_underlying h1,MapKept.run_getObj_map hb,hc,MapKept.run_findKey h2 h5,Result.andThen,h3]
theorem run_insertR{P:Program}{ty:TypeId}{w:World}{b cl:Nat}{es:Array MapEntry}{l:List (Int×List Value)}{z us:List Value}{n:Int}(h:mapIR P ty=some z)(hb:w.heap[b]?=some (.map es cl))(hm:MapIsR es l)(hno:getR l n=none):
  ∃(es':Array MapEntry) (cl':Nat),(Instr.mapUpdate ty (.map (some b)) (.int .i64 n) (.agg us.toArray)).run P w= .ok () { w with heap:=w.heap.setIfInBounds b (.map es' cl') }∧MapIsR es' (l++[(n,us)]):=by
 obtain⟨k,e,h1,h2,h3⟩:=mapIR_spec h
 have hc:∀em,(Instr.checkKey em 10000 k (.int .i64 n)).run P w= .ok () w:=fun em=>MapKept.run_checkKey (d:= .int .i64) h2 (by simp[MapKept.IsKey]) em 9999
 rcases find_mapR (n:=n) rfl es.toList l 0 hm with⟨i,us',h5,h6⟩|⟨h4,h5⟩
 ·rw[hno]at h6;cases h6
 ·refine⟨es.push { key:= .int .i64 n,val:= .agg us.toArray,born:=cl },cl+1,?_,?_⟩
  ·simp[Instr.mapUpdate,run_underlying h1,MapKept.run_getObj_map hb,hc,MapKept.run_findKey h2 h5,Result.andThen,MapKept.run_setObj_map _ hb]
  ·unfold MapIsR at hm⊢
   simp[hm]
section
variable{cx:Cx}{m:Nat→MV}{A:Nat→Prop}{g:CMap cx}{a:Act}{w:World}
theorem Rel.setMapR{L:Nat}{l l':List (Int×List Value)}{es':Array MapEntry}{cl':Nat}(h:Rel cx m A g a w)(hb:g (.o L)=some (.mr l))(hm:MapIsR es' l'):
  Rel cx m A (upd [(.o L,some (.mr l'))] g) a { w with heap:=w.heap.setIfInBounds (m L).b (.map es' cl') }:=by
 have hL:Owns m L (g (.o L)) (m L).b:=by rw[hb];rfl
 obtain⟨es,cl,hh,_⟩:=h.ent _ _ hb
 obtain⟨h1,h2⟩:=MapKept.heap_set (o':= .map es' cl') hh
 refine h.wrote hL rfl rfl .rfl (by simp) (fun k _ hk=>h2 k hk) (fun _ _=>rfl) h.fix h.pins (fun k e1 e2=>by rw[upd_one,if_neg (Ne.symm e2)]) (fun _ _ _ _=>rfl) (fun v hv=>?_) (fun o v hv=>?_) (fun b hv=>by rw[upd_one,if_pos rfl]at hv;rw[hb];exact hv)
 ·rw[upd_one,if_pos rfl]at hv
  cases hv
  exact⟨es',cl',h1,hm⟩
 ·rw[upd_one,if_neg (by simp)]at hv
  obtain⟨ty,n,h3⟩:=h.cell L o v hv
  rw[hb]at h3;cases h3
theorem Rel.newMapR{L:Nat}(h:Rel cx m A g a w)(hf:Free cx L g):
  Rel cx (setL m L (boxMV w.heap.size)) A (upd [(.o L,some (.mr []))] g) a (w.alloc (.map #[] 0)):=by
 have hnew:(w.alloc (.map #[] 0)).heap[w.heap.size]?=some (.map #[] 0):=by
  show(w.heap.push _)[w.heap.size]?=_
  simp
 have hko:upd [(.o L,some (.mr []))] g (.o L)=some (.mr []):=by rw[upd_one,if_pos rfl]
 have hw:=h.world (w':=w.alloc (.map #[] 0)) ⟨rfl,rfl,.rfl,by simp,fun k hk=>Below.heap_alloc _ _ _ hk⟩
 have hgk:∀k,keyHas L k=true→g k=none:=fun k hk=>by
  cases e:g k with
  |none=>rfl
  |some v=>have:=hf.1 k;rw[e]at this;simp[mentions,hk]at this
 refine hw.fresh hf (fun k hk=>?_) (fun k v hk hv=>?_) (fun o v hv=>?_) (fun bb hbb=>?_)
 ·simp only[touches,Bool.or_false]at hk
  exact .inl (Key.eqb_iff.1 hk).symm
 ·rcases hk with rfl|rfl|⟨o,rfl⟩
  ·rw[hko]at hv;cases hv
   exact⟨#[],0,by rw[setL_self];exact hnew,rfl⟩
  ·rw[upd_one,if_neg (by simp),hgk _ (by simp[keyHas])]at hv;cases hv
  ·rw[upd_one,if_neg (by simp),hgk _ (by simp[keyHas])]at hv;cases hv
 ·rw[upd_one,if_neg (by simp),hgk _ (by simp[keyHas])]at hv;cases hv
 ·rw[hko]at hbb
  have hbb:bb=w.heap.size:=by rw[show bb=(setL m L (boxMV w.heap.size) L).b from hbb,setL_self];rfl
  subst hbb
  exact⟨.inl h.top,fun hA=>Nat.lt_irrefl _ (h.frz _ hA),fun l hl=>Nat.lt_irrefl _ (h.blt hl)⟩
end
section
variable{E:Env}{R:Type}{r:R}{b:Base}{o:Oper}{s:Map E.G.car}
variable{d:Nat}{type:TypeId}{pos:String}{after:Array Edge}{guard:Option (Nat×Bool)}
theorem op_mrMake{ty L:Nat}(hN:d<b.N):
  OpRun (cxOf E b) ⟨some d,.makeMap ty none,type,pos,after,guard⟩ s ⟨[],(.t d,some (.x (.m L)))::[(.o L,some (.mr []))],newL L (Nat.succ L)⟩:=
 op_gen rfl hN (fun _ h=>by cases h) fun m A a w g hr hf hrel=>by
  refine⟨setL m L (boxMV w.heap.size),A,_,?_,trivial,hrel.newMapR (hf L (by rw[newL_one];simp))⟩
  simp only[den,setL_self,boxMV]
  simp[execOp,Instr.makeMap,newObj,Sem.run]
def MrAt(s:Map E.G.car)(L:Nat)(key:Key)(l:List (Int×List Value)):Prop:=(key= .o L∨key= .x L)∧s key=some (.mr l)
theorem mrOf_sound{c:EC E}{M:Map E.G.car}(hS:Sees c M){L:Nat}{key:Key}{l:List (Int×List Value)}(h:mrOf c.s L=some (key,l)):MrAt M L key l:=by
 unfold mrOf at h
 split at h
 ·rename_i l' hb
  cases h
  exact⟨.inl rfl,(hS.o L).trans hb⟩
 ·split at h
  ·rename_i l' hb
   cases h
   exact⟨.inr rfl,(hS.x L).trans hb⟩
  ·cases h
theorem op_mrLookup{ty L:Nat}{x y:Operand}{u res:SV}{n:Int}{key:Key}{l:List (Int×List Value)}{z:List Value}(hN:d<b.N)(h:mapIR E.P ty=some z)(hL:MrAt s L key l)(hx:Ev E s x (.m L))(hy:Ev E s y u)(hu:∀m,den m u= .int .i64 n)
  (hres:(∃us,getR l n=some us∧res= .t [.g (us.map SV.v),.v (.bool true)])∨(getR l n=none∧res= .t [.g (z.map SV.v),.v (.bool false)])):
  OpRun (cxOf E b) ⟨some d,.lookup ty x y true,type,pos,after,guard⟩ s ⟨key::(okeys x++okeys y),[(.t d,some (.x res))],[]⟩:=
 op_pure rfl hN (fun _ h=>by cases h) fun m A a w g hr hrel=>by
  obtain⟨h1,_⟩:=hx.eval hrel (fun k hk=>hr k (by simp[hk]))
  obtain⟨h2,_⟩:=hy.eval hrel (fun k hk=>hr k (by simp[hk]))
  obtain⟨es,cl,h3,h4⟩:∃(es:Array MapEntry) (cl:Nat),w.heap[(m L).b]?=some (.map es cl)∧MapIsR es l:=by
   have hg:=(hr key (by simp)).trans hL.2
   rcases hL.1 with rfl|rfl
   ·exact hrel.ent _ _ hg
   ·exact(hrel.ent _ _ hg).2
  have h5:=run_lookupR (n:=n) h h3 h4
  rcases hres with⟨us,h6,rfl⟩|⟨h6,rfl⟩
  ·rw[h6]at h5
   refine⟨⟨okL_vals m us,trivial,trivial⟩,?_⟩
   simp[execOp,h1,h2,hu,den,denL,denL_vals,h5]
  ·rw[h6]at h5
   refine⟨⟨okL_vals m z,trivial,trivial⟩,?_⟩
   simp[execOp,h1,h2,hu,den,denL,denL_vals,h5]
theorem mrSplit_sound{n:Int}{lit:Bool}{z:List Value}{K:SV→Hint→Option R}:∀{l:List (Int×List Value)} {h:Hint},mrSplit n lit z K l h=some r→
  ∃res h',K res h'=some r∧((∃us,getR l n=some us∧res= .t [.g (us.map SV.v),.v (.bool true)])∨(getR l n=none∧res= .t [.g (z.map SV.v),.v (.bool false)])):=by
 intro l
 induction l with
 |nil=>intro h hk;exact⟨_,_,hk,.inr ⟨rfl,rfl⟩⟩
 |cons p l ih=>
  intro h hk
  obtain⟨k,us⟩:=p
  have no:k≠n→∀h',mrSplit n lit z K l h'=some r→∃res h',K res h'=some r∧((∃us',getR ((k,us)::l) n=some us'∧res= .t [.g (us'.map SV.v),.v (.bool true)])∨(getR ((k,us)::l) n=none∧res= .t [.g (z.map SV.v),.v (.bool false)])):=fun hne h' hk=>by
   obtain⟨res,h2,h3,h4⟩:=ih hk
   refine⟨res,h2,h3,?_⟩
   simp only[getR,if_neg hne]
   exact h4
  unfold mrSplit at hk
  cases lit with
  |true=>
   simp only at hk
   by_cases e:k=n
   ·rw[show decide (k=n)=true from decide_eq_true e,cond_true]at hk
    exact⟨_,_,hk,.inl ⟨us,by simp[getR,e],rfl⟩⟩
   ·rw[show decide (k=n)=false from decide_eq_false e,cond_false]at hk
    exact no e _ hk
  |false=>
   simp only at hk
   by_cases e:n=k
   ·rw[show decide (n=k)=true from decide_eq_true e]at hk
    exact⟨_,_,hk,.inl ⟨us,by simp[getR,e],rfl⟩⟩
   ·rw[show decide (n=k)=false from decide_eq_false e]at hk
    exact no (Ne.symm e) _ hk
theorem op_mrInsert{ty L:Nat}{x y z:Operand}{u:SV}{vs:List SV}{us zs:List Value}{n:Int}{l:List (Int×List Value)}(h:mapIR E.P ty=some zs)(hL:s (.o L)=some (.mr l))(hx:Ev E s x (.m L))(hy:Ev E s y u)(hu:∀m,den m u= .int .i64 n)(hz:Ev E s z (.g vs))(hvs:plainL vs=some us)(hno:getR l n=none):
  OpRun (cxOf E b) ⟨none,.insert ty x y z,type,pos,after,guard⟩ s ⟨.o L::(okeys x++(okeys y++okeys z)),[(.o L,some (.mr (l++[(n,us)])))],[]⟩:=by
 intro m A a w g hr hf hrel K Q hK
 obtain⟨h1,_⟩:=hx.eval hrel (fun k hk=>hr k (reads_mem (by simp[hk])))
 obtain⟨h2,_⟩:=hy.eval hrel (fun k hk=>hr k (reads_mem (by simp[hk])))
 obtain⟨h3,_⟩:=hz.eval hrel (fun k hk=>hr k (reads_mem (by simp[hk])))
 have hg:g (.o L)=some (.mr l):=(hr (.o L) (reads_mem (by simp))).trans hL
 obtain⟨es,cl,h4,h5⟩:=hrel.ent _ _ hg
 obtain⟨es',cl',h6,h7⟩:=run_insertR (us:=us) h h4 h5 hno
 refine⟨fun _ _=>trivial,?_⟩
 rw[semAt_of _ _ (by simp)]
 have hrun:(execOp a.eval ⟨none,.insert ty x y z,type,pos,after,guard⟩).run E.P w= .ok .skip { w with heap:=w.heap.setIfInBounds (m L).b (.map es' cl') }:=by
  simp[execOp,h1,h2,h3,hu,den,plainL_den hvs,h6]
 rw[hrun]
 exact hK m A a _ (hrel.setMapR hg h7)
end
end
end Go.KX

namespace Go.KX
open Go Go.RowKit
noncomputable section
def ExtAt(G:Reg)(A:Nat→Prop)(w:World)(mv:MV):Val G.car→Prop
 | .ext t l=>Hd G A w (.sl t l) (.slice mv.p mv.n mv.c)
 | .ro cs=>A mv.b∧∀(j:Nat) (cv:CV G.car),cs[j]?=some cv→∃u,w.cell? ⟨mv.b,j,none⟩=some u∧Hd G A w cv u
 | .ln n=>mv.n=n∧(n≠0→mv.p=some ⟨mv.b,0,none⟩)
 | .mr l=>A mv.b∧∃(es:Array MapEntry) (cl:Nat),w.heap[mv.b]?=some (.map es cl)∧MapIsR es l
 |_=>False
theorem ExtAt.at{cx:Cx}{m:Nat→MV}{A:Nat→Prop}{T:Array Value}{w:World}{L:Nat}{v:Val cx.G.car}(h:ExtAt cx.G A w (m L) v):At cx m A T w (.x L) v:=by
 cases v<;>first|exact h|exact h.elim
theorem ExtAt.mono{G:Reg}{A A':Nat→Prop}{w w':World}{mv:MV}{v:Val G.car}(h:ExtAt G A w mv v)(hA:∀b,A b→A' b)(hw:∀b,A b→w'.heap[b]?=w.heap[b]?):ExtAt G A' w' mv v:=by
 cases v with
 |ext t l=>exact Hd.mono h hA hw
 |ro cs=>
  refine⟨hA _ h.1,fun j cv hcv=>?_⟩
  obtain⟨u,h1,h2⟩:=h.2 j cv hcv
  exact⟨u,by rw[←h1];simp only[World.cell?,hw _ h.1],h2.mono hA hw⟩
 |ln n=>exact h
 |mr l=>
  obtain⟨h1,es,cl,h2,h3⟩:=h
  exact⟨hA _ h1,es,cl,by rw[hw _ h1];exact h2,h3⟩
 |_=>exact h.elim
def GW(E:Env)(gl:List (Nat×Val E.G.car))(A:Nat→Prop)(w:World):Prop:=
 ∃mg:Nat→MV,(∀p∈E.glo,(mg p.1).b=p.2)∧∀q∈gl,ExtAt E.G A w (mg q.1) q.2
theorem GW.mono{E:Env}{gl:List (Nat×Val E.G.car)}{A A':Nat→Prop}{w w':World}(h:GW E gl A w)(hA:∀b,A b→A' b)(hw:∀b,A b→w'.heap[b]?=w.heap[b]?):GW E gl A' w':=by
 obtain⟨mg,h1,h2⟩:=h
 exact⟨mg,h1,fun q hq=>(h2 q hq).mono hA hw⟩
section
variable(E:Env)(A:Nat→Prop)(w:World)
def PtrIs(t:Nat)(x:E.G.car t)(v:Value):Prop:=
 ∃blk,v= .pointer (some ⟨blk,0,none⟩)∧A blk∧∀(j:Nat) (cv:CV E.G.car),(E.G.enc t x)[j]?=some cv→∃u,w.cell? ⟨blk,j,none⟩=some u∧Hd E.G A w cv u
def ArgIs:(p:PK)→p.T E.G.car→Value→Prop
 | .v t agg,x,v=>∃us,HdL E.G A w (E.G.enc t x) us∧(if agg then v= .agg us.toArray else us=[v])
 | .sl t,x,v=>Hd E.G A w (.sl t x) v
 | .ptr t,x,v=>PtrIs E A w t x v
 | .gp t,x,v=>∃u,v= .agg #[u]∧PtrIs E A w t x u
 | .nl,x,v=>v= .slice none 0 x
 | .sn t,x,v=>Hd E.G A w (.sl t x) v∧∃p n c,v= .slice (some p) n c
 | .ow _ _,_,_=>False
 | .fv f,_,v=>v= .func (.func f) #[] #[]
 | .wk tM tA r,x,v=>∃blk pM pA bR,v= .pointer (some ⟨blk,0,none⟩)∧A blk∧w.cell? ⟨blk,0,none⟩=some pM∧w.cell? ⟨blk,1,none⟩=some pA∧w.cell? ⟨blk,2,none⟩=some (.map (some bR))∧
   PtrIs E A w tM x.1 pM∧PtrIs E A w tA x.2 pA∧A bR∧∃(es:Array MapEntry) (cl:Nat),w.heap[bR]?=some (.map es cl)∧MapIsR es r
def ArgsAre:(ps:List PK)→AT E.G.car ps→List Value→Prop
 |[],_,vs=>vs=[]
 |p::ps,x,vs=>∃v us,vs=v::us∧ArgIs E A w p x.1 v∧ArgsAre ps x.2 us
end
def NewRowAt(G:Reg)(A:Nat→Prop)(sz:Nat)(w:World)(mv:MV)(e t:Nat)(l:List (G.car t)):Prop:=
 mv.n=l.length∧((mv.c=0∧l=[]∧∃b',mv.p=ptr0 b' 0)∨(mv.c≠0∧mv.p=some ⟨mv.b,0,none⟩∧sz≤mv.b∧¬A mv.b∧
  ∃cur:Array Value,w.heap[mv.b]?=some (.cells cur e (0,0))∧cur.size=mv.c*G.sz t∧l.length≤mv.c∧RowIn G A w cur t l))
section
variable(G:Reg)(A:Nat→Prop)(sz:Nat)(w:World)
def ResCells:List (CV G.car)→List Nat→List Value→List MV→Prop
 |[],_,vs,ms=>vs=[]∧ms=[]
 | .v x::cs,es,vs,ms=>∃us,vs=x::us∧ResCells cs es us ms
 | .sl t l::cs,e::es,vs,ms=>∃mv us ms',vs= .slice mv.p mv.n mv.c::us∧ms=mv::ms'∧NewRowAt G A sz w mv e t l∧ResCells cs es us ms'
 | .sl _ _::_,[],_,_=>False
def ResIs:(k:RK)→k.T G.car→Value→List MV→Prop
 | .v t agg es,x,v,ms=>∃us,ResCells G A sz w (G.enc t x) es us ms∧(if agg then v= .agg us.toArray else us=[v])
 | .sl t e,x,v,ms=>∃mv,ms=[mv]∧v= .slice mv.p mv.n mv.c∧NewRowAt G A sz w mv e t x
 | .r t agg,x,v,ms=>ms=[]∧∃us,HdL G A w (G.enc t x) us∧(if agg then v= .agg us.toArray else us=[v])
def ResAre:(ks:List RK)→RT G.car ks→List Value→List MV→Prop
 |[],_,vs,ms=>vs=[]∧ms=[]
 |[k],x,vs,ms=>∃v,vs=[v]∧ResIs G A sz w k x v ms
 |k::k'::ks,x,vs,ms=>∃v us m1 m2,vs=v::us∧ms=m1++m2∧ResIs G A sz w k x.1 v m1∧ResAre (k'::ks) x.2 us m2
end
def Apart:List MV→Prop
 |[]=>True
 |mv::r=>(∀mv'∈r,mv.c≠0→mv'.c≠0→mv.b≠mv'.b)∧Apart r
def resV:List Value→Value
 |[v]=>v
 |vs=>.tuple vs.toArray
def Contract(E:Env)(gl:List (Nat×Val E.G.car))(c:CS E.G):Prop:=
 ∀(A:Nat→Prop) (w:World) (vs:List Value) (xs:AT E.G.car c.ps),GW E gl A w→(∀b,A b→IsCells w b)→ArgsAre E A w c.ps xs vs→∀r,c.f xs=some r→
  Calls E.P c.k vs.toArray w fun e w'=>∃us ms A',e= .returned (resV us)∧Bel w.heap.size w w'∧(∀b,A b→A' b)∧(∀b,A' b→IsCells w' b)∧(∀b,A' b→A b∨w.heap.size≤b)∧
   ResAre E.G A' w.heap.size w' c.rs r us ms∧Apart ms
structure CSok(E:Env)(gl:List (Nat×Val E.G.car))(c:CS E.G):Prop where
 enters:Proofs.Enters E.P c.k
 ok:Contract E gl c
structure YI where
 L:Nat
 N:Nat
 ps:Array Tmp
 assign:Code
 body:Code
 t:PT (Nat×Option SV)
structure Fix where
 pn:Nat
 ys:List YI
def tmpOf(t:PT (Nat×Option SV))(i:Nat):Option SV:=
 match t.get (tk 0 i)with
 |some (_,v)=>v
 |none=>none
def recOf(fn:FuncId)(aT:Array Value)(ps:Array Tmp)(assign body:Code)(D:Nat)(st:LoopState):Loop:=
 { state:=st,pending:=none,fn,tmps:=aT,params:=ps,assign,body,defers:=D }
structure YIs(b:Base)(y:YI)(fn:FuncId)(aT:Array Value)(D:Nat):Prop where
 L:y.L<b.pn
 mem:((b.pm y.L).b,Obj.loop (recOf fn aT y.ps y.assign y.body D .ready))∈b.kob
 size:aT.size=y.N
 tmp:∀i v,tmpOf y.t i=some v→aT[i]?=some (den b.pm v)∧v.ok b.pm∧v.lt b.pn=true
def YGood(b:Base)(y:YI):Prop:=∃fn aT D,YIs b y fn aT D
structure Good(E:Env)(gl:List (Nat×Val E.G.car))(fx:Fix)(b:Base):Prop where
 gw:GW E gl b.A0 b.w0
 a0:∀x,b.A0 x→x<b.B
 nb:∀x,b.A0 x→¬b.bor x
 kb:∀p∈b.kob,p.1<b.w0.heap.size
 pn:b.pn≤fx.pn
 ys:∀y∈fx.ys,YGood b y
 r0:fx.ys≠[]→b.r=none
section
variable{E:Env}{R:Type}{r:R}{c:EC E}{M:Map E.G.car}{b:Base}{m:Nat→MV}{A:Nat→Prop}{g:Map E.G.car}{a:Act}{w:World}
theorem Rel.gw{fx:Fix}{gl:List (Nat×Val E.G.car)}(h:Rel (cxOf E b) m A g a w)(hg:Good E gl fx b){A':Nat→Prop}(hA:∀x,A x→A' x):GW E gl A' w:=
 hg.gw.mono (fun x hx=>hA x (h.frzA x hx)) (fun x hx=>h.held.block x (hg.a0 x hx) (hg.nb x hx))
def ArgRead(M:Map E.G.car)(ks:List Key)(P:(Nat→Prop)→World→(Nat→MV)→Prop):Prop:=
 ∀(b:Base) (m:Nat→MV) (A:Nat→Prop) (g:Map E.G.car) (a:Act) (w:World),Rel (cxOf E b) m A g a w→(∀k∈ks,g k=M k)→∀A1:Nat→Prop,(∀x,A x→A1 x)→(∀L b,.o L∈ks→Owns m L (g (.o L)) b→A1 b)→P A1 w m
theorem ptrK_sound(hS:Sees c M){t:Nat}{v:SV}{K:E.G.car t→List Key→Option R}(h:argK.ptrK c.s t v K=some r):
  ∃x ks,K x ks=some r∧ArgRead M ks fun A1 w m=>PtrIs E A1 w t x (den m v):=by
 unfold argK.ptrK at h
 split at h
 ·rename_i L
  split at h
  ·rename_i ty n hb
   split at h
   ·rename_i vs hvs
    obtain⟨cs,ks,us,h1,h2⟩:=svCVs_sound hS h
    split at h1
    ·rename_i x hx
     refine⟨_,_,h1,fun b m A g a w hrel hk A1 hA hown=>?_⟩
     obtain⟨hlen,hget⟩:=valCells_spec hvs
     have hbo:g (.o L)=some (.sh ty n):=(hk _ (by simp)).trans ((hS.o L).trans hb)
     have hd:=h2.read hrel (fun k hk'=>hk k (by simp[hk'])) hA (fun L' x hL'=>hown L' x (by simp[hL']))
     refine⟨_,rfl,hown L _ (by simp) (by rw[hbo];rfl),fun j cv hcv=>?_⟩
     rw[E.G.hdec _ _ _ hx]at hcv
     obtain⟨u,h3,h4⟩:=hd.get j cv hcv
     refine⟨u,?_,h4⟩
     rw[denL_get]at h3
     cases hy:vs[j]? with
     |none=>rw[hy]at h3;cases h3
     |some y=>
      rw[hy]at h3
      cases h3
      have hlt:j<n:=by rw[←hlen];exact(List.getElem?_eq_some_iff.1 hy).1
      have h5:=hget j y hy
      rw[Nat.zero_add]at h5
      refine(hrel.cellAt (o:=j) ((hk _ ?_).trans ((hS.c L j).trans h5))).1
      have:=mem_cellKeys (L:=L) (o:=0) hlt
      rw[Nat.zero_add]at this
      simp[this]
    ·cases h1
   ·cases h
  ·split at h
   ·rename_i cs hb
    split at h
    ·rename_i x hx
     refine⟨_,_,h,fun b m A g a w hrel hk A1 hA hown=>?_⟩
     obtain⟨h1,h2⟩:=hrel.ent (.x L) (.ro cs) ((hk _ (by simp)).trans ((hS.x L).trans hb))
     refine⟨_,rfl,hA _ h1,fun j cv hcv=>?_⟩
     rw[E.G.hdec _ _ _ hx]at hcv
     obtain⟨u,h3,h4⟩:=h2 j cv hcv
     exact⟨u,h3,h4.mono hA (fun _ _=>rfl)⟩
    ·cases h
   ·cases h
 ·cases h
theorem boxOf_sound(hS:Sees c M){L:Nat}{vs:List SV}{ks:List Key}(h:boxOf c.s L=some (vs,ks)):
  ArgRead M ks fun A1 w m=>A1 (m L).b∧∀(j:Nat) (y:SV),vs[j]?=some y→w.cell? ⟨(m L).b,j,none⟩=some (den m y):=by
 unfold boxOf at h
 split at h
 ·rename_i ty n hb
  split at h
  ·rename_i vs' hvs
   cases h
   intro b m A g a w hrel hk A1 hA hown
   obtain⟨hlen,hget⟩:=valCells_spec hvs
   have hbo:g (.o L)=some (.sh ty n):=(hk _ (by simp)).trans ((hS.o L).trans hb)
   refine⟨hown L _ (by simp) (by rw[hbo];rfl),fun j y hy=>?_⟩
   have hlt:j<n:=by rw[←hlen];exact(List.getElem?_eq_some_iff.1 hy).1
   have h5:=hget j y hy
   rw[Nat.zero_add]at h5
   refine(hrel.cellAt (o:=j) ((hk _ ?_).trans ((hS.c L j).trans h5))).1
   have:=mem_cellKeys (L:=L) (o:=0) hlt
   rw[Nat.zero_add]at this
   simp[this]
  ·cases h
 ·split at h
  ·rename_i cs hb
   cases h
   intro b m A g a w hrel hk A1 hA hown
   obtain⟨h1,_,h2⟩:=hrel.ent (.x L) (.rb vs) ((hk _ (by simp)).trans ((hS.x L).trans hb))
   exact⟨hA _ h1,h2⟩
  ·cases h
theorem mrRead(hS:Sees c M){L:Nat}{key:Key}{l:List (Int×List Value)}(h:mrOf c.s L=some (key,l)):
  ArgRead M [key] fun A1 w m=>A1 (m L).b∧∃(es:Array MapEntry) (cl:Nat),w.heap[(m L).b]?=some (.map es cl)∧MapIsR es l:=by
 obtain⟨h1,h2⟩:=mrOf_sound hS h
 intro b m A g a w hrel hk A1 hA hown
 have h3:=(hk key (by simp)).trans h2
 rcases h1 with rfl|rfl
 ·obtain⟨es,cl,h4,h5⟩:=hrel.ent _ _ h3
  exact⟨hown L _ (by simp) (by rw[h3];rfl),es,cl,h4,h5⟩
 ·obtain⟨h6,es,cl,h4,h5⟩:=hrel.ent _ _ h3
  exact⟨hA _ h6,es,cl,h4,h5⟩
theorem ArgRead.mono{M:Map E.G.car}{ks ks':List Key}{P:(Nat→Prop)→World→(Nat→MV)→Prop}(h:ArgRead M ks P)(hs:∀k∈ks,k∈ks'):ArgRead M ks' P:=
 fun b m A g a w hrel hk A1 hA hown=>h b m A g a w hrel (fun k hq=>hk k (hs k hq)) A1 hA (fun L x hL=>hown L x (hs _ hL))
theorem sArg_sound(hS:Sees c M){t L o n cp:Nat}{K:CV E.G.car→List Key→Option R}(h:sArg c.s t L o n cp K=some r):
  ∃cv ks,K cv ks=some r∧ArgRead M ks fun A1 w m=>Hd E.G A1 w cv (den m (.s L o n cp)):=by
 unfold sArg at h
 split at h
 ·rename_i ty N hb
  split at h
  ·rename_i vs hvs
   obtain⟨hcp,h0⟩:=bif_some h
   clear h
   obtain⟨cs,ks,us,h1,h2⟩:=svCVs_sound hS h0
   split at h1
   ·rename_i l hl
    refine⟨_,_,h1,fun b m A g a w hrel hk A1 hA hown=>?_⟩
    obtain⟨hlen,hget⟩:=valCells_spec hvs
    have hbo:g (.o L)=some (.sh ty N):=(hk _ (by simp)).trans ((hS.o L).trans hb)
    have hd:=h2.read hrel (fun k hk'=>hk k (by simp[hk'])) hA (fun L' x hL'=>hown L' x (by simp[hL']))
    obtain⟨hl1,hl2⟩:=decL_spec hl
    refine Hd.mk (b:=(m L).b) (o:=o) hl1.symm (Nat.le_of_ble_eq_true hcp) (fun _=>⟨rfl,hown L _ (by simp) (by rw[hbo];rfl)⟩) fun i x hx j cv hcv=>?_
    have hq:=hl2 i x hx j cv hcv
    obtain⟨u,h3,h4⟩:=hd.get _ cv hq
    refine⟨u,?_,h4⟩
    rw[denL_get]at h3
    cases hy:vs[i*E.G.sz t+j]? with
    |none=>rw[hy]at h3;cases h3
    |some y=>
     rw[hy]at h3
     cases h3
     have hlt:i*E.G.sz t+j<Nat.mul n (E.G.sz t):=by rw[←hlen];exact(List.getElem?_eq_some_iff.1 hy).1
     have h5:=hget _ y hy
     have hk6:Key.c L (o+(i*E.G.sz t+j))∈cellKeys L o (Nat.mul n (E.G.sz t)):=mem_cellKeys hlt
     have h6:=(hrel.cellAt (L:=L) (o:=o+(i*E.G.sz t+j)) ((hk _ (List.mem_cons_of_mem _ (List.mem_append_left _ hk6))).trans ((hS.c L _).trans h5))).1
     rw[Nat.add_assoc];exact h6
   ·cases h1
  ·cases h
 ·cases h
theorem svCV_read(hS:Sees c M){v:SV}{slot:Option Nat}{K:CV E.G.car→List Key→Option R}(h:(svCV c.s slot v fun cv k _=>K cv k)=some r):
  ∃cv ks,K cv ks=some r∧ArgRead M ks fun A1 w m=>Hd E.G A1 w cv (den m v):=by
 obtain⟨cv,ks,us,h1,h2⟩:=svCV_sound hS h
 refine⟨cv,ks,h1,fun b m A g a w hrel hk A1 hA hown=>?_⟩
 have h3:=SvCases.cons h2 .nil
 obtain⟨u,us',e,h5,_⟩:=h3.read hrel (fun k hk'=>hk k (by simpa using hk')) hA (fun L x hL=>hown L x (by simpa using hL))
 cases e;exact h5
theorem argCVs_sound(hS:Sees c M):∀{vs:List SV} {sl:List (Option Nat)} {K:List (CV E.G.car)→List Key→Option R},argCVs c.s sl vs K=some r→
  ∃cs ks,K cs ks=some r∧ArgRead M ks fun A1 w m=>HdL E.G A1 w cs (denL m vs)
 |[],sl,K,h=>⟨[],[],h,fun b m A g a w hrel hk A1 hA hown=>rfl⟩
 |v::vs,sl,K,h=>by
  have fin:∀{sl':List (Option Nat)} {cv:CV E.G.car} {k:List Key},(argCVs c.s sl' vs fun cs ks=>K (cv::cs) (k++ks))=some r→(ArgRead M k fun A1 w m=>Hd E.G A1 w cv (den m v))→∃cs ks,K cs ks=some r∧ArgRead M ks fun A1 w m=>HdL E.G A1 w cs (denL m (v::vs)):=fun h1 h2=>by
   obtain⟨cs,ks,h3,h4⟩:=argCVs_sound hS h1
   refine⟨_,_,h3,fun b m A g a w hrel hk A1 hA hown=>⟨_,_,rfl,?_,?_⟩⟩
   ·exact h2.mono (fun k hk=>List.mem_append_left _ hk) b m A g a w hrel hk A1 hA hown
   ·exact h4.mono (fun k hk=>List.mem_append_right _ hk) b m A g a w hrel hk A1 hA hown
  unfold argCVs at h
  split at h
  ·obtain⟨cv,k,h1,h2⟩:=sArg_sound hS h
   exact fin h1 h2
  ·obtain⟨cv,k,h1,h2⟩:=svCV_read hS h
   exact fin h1 h2
  ·obtain⟨cv,k,h1,h2⟩:=svCV_read hS h
   exact fin h1 h2
theorem argK_sound(hS:Sees c M){p:PK}{v:SV}{K:p.T E.G.car→List Key→Option R}(h:argK c.s p v K=some r):
  ∃x ks,K x ks=some r∧ArgRead M ks fun A1 w m=>v.ok m→ArgIs E A1 w p x (den m v):=by
 cases p with
 |v t agg=>
  simp only[argK]at h
  cases agg with
  |true=>
   simp only[]at h
   split at h
   ·rename_i vs
    obtain⟨cs,ks,h1,h2⟩:=argCVs_sound hS h
    split at h1
    ·rename_i x hx
     refine⟨_,_,h1,fun b m A g a w hrel hk A1 hA hown _=>⟨_,?_,rfl⟩⟩
     rw[E.G.hdec _ _ _ hx]
     exact h2 b m A g a w hrel hk A1 hA hown
    ·cases h1
   ·cases h
  |false=>
   simp only[]at h
   obtain⟨cv,ks,us,h1,h2⟩:=svCV_sound hS h
   split at h1
   ·rename_i x hx
    refine⟨_,_,h1,fun b m A g a w hrel hk A1 hA hown _=>⟨[den m v],?_,rfl⟩⟩
    rw[E.G.hdec _ _ _ hx]
    have h3:SvCases M [v] [cv] (ks++[]) ([]++us):= .cons h2 .nil
    have:=h3.read hrel (fun k hk'=>hk k (by simpa using hk')) hA (fun L x hL=>hown L x (by simpa using hL))
    exact this
   ·cases h1
 |sl t=>
  simp only[argK]at h
  split at h
  ·exact⟨_,_,h,fun b m A g a w hrel hk A1 hA hown _=>Hd.mk (b:=0) (o:=0) rfl (Nat.le_refl _) (fun h=>absurd rfl h) (fun i x hx=>by simp at hx)⟩
  ·rename_i L
   obtain⟨k,t',l,h1,h2⟩:=listK_sound hS h
   split at h1
   ·rename_i heq
    subst heq
    refine⟨_,_,h1,fun b m A g a w hrel hk A1 hA hown _=>?_⟩
    cases h2 with
    |row h3=>
     have e:=(hk _ (by simp)).trans h3
     exact At.rowHd (hrel.ent _ _ e) hA (fun hc=>hown L _ (by simp) (by rw[e];exact⟨hc,rfl⟩))
    |ext h3=>exact Hd.mono (hrel.ent (.x L) (.ext t' l) ((hk _ (by simp)).trans h3)) hA (fun _ _=>rfl)
   ·cases h1
  ·rename_i L
   obtain⟨k,t',l,h1,h2⟩:=listK_sound hS h
   split at h1
   ·rename_i heq
    subst heq
    refine⟨_,_,h1,fun b m A g a w hrel hk A1 hA hown _=>?_⟩
    cases h2 with
    |row h3=>
     have e:=(hk _ (by simp)).trans h3
     exact At.rowHd (hrel.ent _ _ e) hA (fun hc=>hown L _ (by simp) (by rw[e];exact⟨hc,rfl⟩))
    |ext h3=>exact Hd.mono (hrel.ent (.x L) (.ext t' l) ((hk _ (by simp)).trans h3)) hA (fun _ _=>rfl)
   ·cases h1
  ·rename_i L i n k
   obtain⟨key,t',l,h1,h2⟩:=listK_sound hS h
   split at h1
   ·rename_i heq
    subst heq
    obtain⟨hk0,hk1⟩:=bif_some h1
    have hk2:=Nat.eq_of_beq_eq_true hk0
    subst hk2
    refine⟨_,_,hk1,fun b m A g a w hrel hk A1 hA hown hok=>?_⟩
    obtain⟨q1,q2,q3⟩:=hok
    have hw:Hd E.G A1 w (.sl t' l) (.slice (m L).p (m L).n (m L).c):=by
     cases h2 with
     |row h3=>
      have e:=(hk _ (by simp)).trans h3
      exact At.rowHd (hrel.ent _ _ e) hA (fun hc=>hown L _ (by simp) (by rw[e];exact⟨hc,rfl⟩))
     |ext h3=>exact Hd.mono (hrel.ent (.x L) (.ext t' l) ((hk _ (by simp)).trans h3)) hA (fun _ _=>rfl)
    exact hw.part (by omega)
   ·cases h1
  ·rename_i L o n cp
   split at h
   ·rename_i ty N hb
    split at h
    ·rename_i vs hvs
     obtain⟨hcp,h0⟩:=bif_some h
     clear h
     obtain⟨cs,ks,us,h1,h2⟩:=svCVs_sound hS h0
     split at h1
     ·rename_i l hl
      refine⟨_,_,h1,fun b m A g a w hrel hk A1 hA hown _=>?_⟩
      obtain⟨hlen,hget⟩:=valCells_spec hvs
      have hbo:g (.o L)=some (.sh ty N):=(hk _ (by simp)).trans ((hS.o L).trans hb)
      have hd:=h2.read hrel (fun k hk'=>hk k (by simp[hk'])) hA (fun L' x hL'=>hown L' x (by simp[hL']))
      obtain⟨hl1,hl2⟩:=decL_spec hl
      refine Hd.mk (b:=(m L).b) (o:=o) hl1.symm (Nat.le_of_ble_eq_true hcp) (fun _=>⟨rfl,hown L _ (by simp) (by rw[hbo];rfl)⟩) fun i x hx j cv hcv=>?_
      have hq:=hl2 i x hx j cv hcv
      obtain⟨u,h3,h4⟩:=hd.get _ cv hq
      refine⟨u,?_,h4⟩
      rw[denL_get]at h3
      cases hy:vs[i*E.G.sz t+j]? with
      |none=>rw[hy]at h3;cases h3
      |some y=>
       rw[hy]at h3
       cases h3
       have hlt:i*E.G.sz t+j<Nat.mul n (E.G.sz t):=by rw[←hlen];exact(List.getElem?_eq_some_iff.1 hy).1
       have h5:=hget _ y hy
       have hk6:Key.c L (o+(i*E.G.sz t+j))∈cellKeys L o (Nat.mul n (E.G.sz t)):=mem_cellKeys hlt
       have h6:=(hrel.cellAt (L:=L) (o:=o+(i*E.G.sz t+j)) ((hk _ (List.mem_cons_of_mem _ (List.mem_append_left _ hk6))).trans ((hS.c L _).trans h5))).1
       rw[Nat.add_assoc];exact h6
     ·cases h1
    ·cases h
   ·cases h
  ·cases h
 |nl=>
  simp only[argK]at h
  split at h
  ·exact⟨_,_,h,fun b m A g a w hrel hk A1 hA hown _=>rfl⟩
  ·cases h
 |sn t=>cases h
 |ow e t=>cases h
 |fv f=>
  simp only[argK]at h
  split at h
  ·rename_i g a b
   split at h
   ·rename_i ha hb
    have ha':a= #[]:=by cases a;simp_all
    have hb':b= #[]:=by cases b;simp_all
    subst ha' hb'
    obtain⟨h1,h2⟩:=bif_some h
    have h1:=Nat.eq_of_beq_eq_true h1
    subst h1
    exact⟨_,_,h2,fun b m A g a w hrel hk A1 hA hown _=>rfl⟩
   ·cases h
  ·cases h
 |ptr t=>
  obtain⟨x,ks,h1,h2⟩:=ptrK_sound hS h
  exact⟨x,ks,h1,fun b m A g a w hrel hk A1 hA hown _=>h2 b m A g a w hrel hk A1 hA hown⟩
 |gp t=>
  simp only[argK]at h
  split at h
  ·rename_i v
   obtain⟨x,ks,h1,h2⟩:=ptrK_sound hS h
   exact⟨x,ks,h1,fun b m A g a w hrel hk A1 hA hown _=>⟨_,rfl,h2 b m A g a w hrel hk A1 hA hown⟩⟩
  ·cases h
 |wk tM tA rr=>
  simp only[argK]at h
  split at h
  ·rename_i L
   split at h
   ·rename_i LM LA LR ks0 hb
    obtain⟨x,k1,h1,h2⟩:=ptrK_sound hS h
    obtain⟨y,k2,h3,h4⟩:=ptrK_sound hS h1
    split at h3
    ·rename_i key l hm
     obtain⟨h5,h6⟩:=bif_some h3
     have h5:=eqR_eq h5
     subst h5
     refine⟨_,_,h6,fun b m A g a w hrel hk A1 hA hown _=>?_⟩
     obtain⟨g1,g2⟩:=boxOf_sound hS hb b m A g a w hrel (fun k hk'=>hk k (by simp[hk'])) A1 hA (fun L' x hL'=>hown L' x (by simp[hL']))
     obtain⟨g3,g4⟩:=mrRead hS hm b m A g a w hrel (fun k hk'=>hk k (by simp at hk';simp[hk'])) A1 hA (fun L' x hL'=>hown L' x (by simp at hL';simp[hL']))
     exact⟨_,_,_,_,rfl,g1,g2 0 _ rfl,g2 1 _ rfl,g2 2 _ rfl,
      h2 b m A g a w hrel (fun k hk'=>hk k (by simp[hk'])) A1 hA (fun L' x hL'=>hown L' x (by simp[hL'])),
      h4 b m A g a w hrel (fun k hk'=>hk k (by simp[hk'])) A1 hA (fun L' x hL'=>hown L' x (by simp[hL'])),g3,g4⟩
    ·cases h3
   ·cases h
  ·cases h
theorem argsK_sound(hS:Sees c M):∀{ps:List PK} {vs:List SV} {K:AT E.G.car ps→List Key→Option R},argsK c.s ps vs K=some r→
  ∃x ks,K x ks=some r∧ArgRead M ks fun A1 w m=>okL m vs→ArgsAre E A1 w ps x (denL m vs):=by
 intro ps
 induction ps with
 |nil=>
  intro vs K h
  cases vs with
  |nil=>exact⟨_,_,h,fun b m A g a w hrel hk A1 hA hown _=>rfl⟩
  |cons _ _=>simp[argsK]at h
 |cons p ps ih=>
  intro vs K h
  cases vs with
  |nil=>simp[argsK]at h
  |cons v vs=>
   obtain⟨x,ks,h1,h2⟩:=argK_sound hS h
   obtain⟨y,ls,h3,h4⟩:=ih h1
   exact⟨_,_,h3,fun b m A g a w hrel hk A1 hA hown hok=>⟨_,_,rfl,h2 b m A g a w hrel (fun k hk'=>hk k (by simp[hk'])) A1 hA (fun L b hL=>hown L b (by simp[hL])) hok.1,
    h4 b m A g a w hrel (fun k hk'=>hk k (by simp[hk'])) A1 hA (fun L b hL=>hown L b (by simp[hL])) hok.2⟩⟩
theorem Rel.grow{A':Nat→Prop}(h:Rel (cxOf E b) m A g a w)(hA:∀x,A x→A' x)(hlt:∀x,A' x→IsCells w x)(hnew:∀x,A' x→A x∨((cxOf E b).mine x∧∀L,¬Owns m L (g (.o L)) x)):Rel (cxOf E b) m A' g a w:=
 ⟨h.size,h.defers,fun k v hk=>(h.ent k v hk).change (fun _ _=>rfl) hA (fun _ _=>rfl) (fun _ _=>rfl) (fun _ _ _ _=>rfl) (fun _ _ _=>rfl),h.cell,fun L x hL=>⟨(h.own L x hL).1,fun hA'=>(hnew _ hA').elim (h.own L x hL).2 fun h'=>h'.2 L hL⟩,
  h.inj,hlt,h.held,h.top,h.fix,h.ko,fun x hx=>(hnew x hx).elim (h.frz0 x) fun h'=>.inr h'.1,fun x hx=>hA x (h.frzA x hx),h.pins⟩
theorem NewRowAt.flat{A A':Nat→Prop}{sz:Nat}{mv:MV}{e t:Nat}{l:List (E.G.car t)}(h:NewRowAt E.G A' sz w mv e t l)(hA:∀x,A x→A' x)(hf:E.G.flat t=true):NewRowAt E.G A sz w mv e t l:=by
 refine⟨h.1,h.2.imp_right fun⟨h1,h2,h3,h4,cur,h5,h6,h7,h8⟩=>⟨h1,h2,h3,fun h9=>h4 (hA _ h9),cur,h5,h6,h7,fun i x hx j cv hcv=>?_⟩⟩
 obtain⟨u,h9,h10⟩:=h8 i x hx j cv hcv
 obtain⟨v,rfl⟩:=E.G.hflat t hf x cv (List.mem_of_getElem? hcv)
 exact⟨u,h9,by rw[h10.plain];exact .v _⟩
def ResTaken(E:Env)(nest:Bool)(nl nl':Nat)(ws:List SV)(us:St E.G.car)(P:(Nat→Prop)→Nat→World→List Value→List MV→Prop):Prop:=
 nl≤nl'∧(∀x∈us,∃L,nl≤L∧L<nl'∧((x.1= .o L∧∃e t l,x.2=some (.row e t l))∨(x.1= .x L∧∃t l,x.2=some (.ext t l))))∧ltL nl' ws=true∧
 ∀(b:Base) (m:Nat→MV) (A A':Nat→Prop) (g:Map E.G.car) (a:Act) (w:World) (sz:Nat) (vs:List Value) (ms:List MV),Rel (cxOf E b) m A g a w→(∀x,A x→A' x)→(nest=true→∀x,A' x→A x)→b.B≤sz→(∀L,nl≤L→L<nl'→Free (cxOf E b) L g)→
  (∀mv∈ms,mv.c≠0→∀L,¬Owns m L (g (.o L)) mv.b)→Apart ms→P A' sz w vs ms→
  ∃m',Rel (cxOf E b) m' A (upd us g) a w∧denL m' ws=vs∧okL m' ws∧(∀L,(L<nl∨nl'≤L)→m' L=m L)∧∀L x,Owns m' L (upd us g (.o L)) x→Owns m L (g (.o L)) x∨∃mv∈ms,mv.c≠0∧x=mv.b
theorem NewRowAt.both{nest:Bool}{A A':Nat→Prop}{sz:Nat}{mv:MV}{e t:Nat}{l:List (E.G.car t)}(h:NewRowAt E.G A' sz w mv e t l)(hA:∀x,A x→A' x)(hn:nest=true→∀x,A' x→A x)(hf:(E.G.flat t||nest)=true):NewRowAt E.G A sz w mv e t l:=by
 cases hfl:E.G.flat t with
 |true=>exact h.flat hA hfl
 |false=>
  rw[hfl,Bool.false_or]at hf
  have:A=A':=funext fun x=>propext ⟨hA x,hn hf x⟩
  rw[this];exact h
theorem Rel.takeRow{L e t sz:Nat}{l:List (E.G.car t)}{mv:MV}(h:Rel (cxOf E b) m A g a w)(hf:Free (cxOf E b) L g)(hB:b.B≤sz)(hr:NewRowAt E.G A sz w mv e t l)(hown:mv.c≠0→∀L,¬Owns m L (g (.o L)) mv.b):
  Rel (cxOf E b) (setL m L mv) A (upd [(.o L,some (.row e t l))] g) a w:=by
 refine h.addRow hf ⟨by rw[setL_self];exact hr.1,?_⟩ (fun hc=>?_)
 ·simp only[setL_self]
  rcases hr.2 with h1|⟨h1,h2,h3,h4,cur,h5,h6,h7,h8⟩
  ·exact .inl h1
  ·exact .inr ⟨h1,h2,cur,h5,h6,h7,h8⟩
 ·rcases hr.2 with⟨h1,_⟩|⟨h1,h2,h3,h4,_⟩
  ·exact absurd h1 hc
  ·exact⟨.inl (Nat.le_trans hB h3),h4,hown hc⟩
theorem owns_row{L e t x:Nat}{l:List (E.G.car t)}{mv:MV}{L':Nat}(hf:Free (cxOf E b) L g)(ho:Owns (setL m L mv) L' (upd [(.o L,some (.row e t l))] g (.o L')) x):Owns m L' (g (.o L')) x∨(L'=L∧mv.c≠0∧x=mv.b):=by
 rw[upd_one]at ho
 by_cases e1:Key.o L= .o L'
 ·cases e1
  rw[if_pos rfl]at ho
  simp only[Owns,setL_self]at ho
  exact .inr ⟨rfl,ho⟩
 ·rw[if_neg e1]at ho
  refine .inl ((owns_congr fun l' hl'=>setL_ne m mv fun e=>?_).1 ho)
  subst e
  rw[hf.1]at hl';cases hl'
theorem resCells_sound{nest:Bool}:∀{cs:List (CV E.G.car)} {es:List Nat} {nl:Nat} {K:List SV→St E.G.car→Nat→Option R},resCells nest nl cs es K=some r→
  ∃ws us nl',K ws us nl'=some r∧ResTaken E nest nl nl' ws us fun A sz w vs ms=>ResCells E.G A sz w cs es vs ms:=by
 intro cs
 induction cs with
 |nil=>
  intro es nl K h
  refine⟨[],[],nl,by simpa[resCells]using h,Nat.le_refl _,(fun x hx=>nomatch hx),rfl,fun b m A A' g a w sz vs ms hrel _ _ _ _ _ _ hP=>?_⟩
  obtain⟨rfl,rfl⟩:=hP
  exact⟨m,hrel,rfl,trivial,fun _ _=>rfl,fun L x hL=>.inl hL⟩
 |cons cv cs ih=>
  intro es nl K h
  cases cv with
  |v x=>
   have key:∀(y:SV) (_:∀n,y.lt n=true) (_:∀m,den m y=x∧y.ok m),resCells nest nl cs es (fun vs us nl=>K (y::vs) us nl)=some r→
     ∃ws us nl',K ws us nl'=some r∧ResTaken E nest nl nl' ws us fun A sz w vs ms=>ResCells E.G A sz w (CV.v x::cs) es vs ms:=by
    intro y hlt hy h
    obtain⟨ws,us,nl',h1,h2,h3,h4,h5⟩:=ih h
    refine⟨_,_,_,h1,h2,h3,by simp[ltL,hlt,h4],fun b m A A' g a w sz vs ms hrel hA hn hB hfree hown hap hP=>?_⟩
    obtain⟨us',rfl,h6⟩:=hP
    obtain⟨m',h7,h8,h9,h10,h11⟩:=h5 b m A A' g a w sz us' ms hrel hA hn hB hfree hown hap h6
    exact⟨m',h7,by simp only[denL,h8,(hy m').1],⟨(hy m').2,h9⟩,h10,h11⟩
   cases x with
   |int k n=>exact key (.i k n) (fun _=>rfl) (fun _=>⟨rfl,trivial⟩) (by simpa[resCells]using h)
   |bool e=>exact key (.b e) (fun _=>rfl) (fun _=>⟨rfl,trivial⟩) (by simpa[resCells]using h)
   |_=>exact key (.v _) (fun _=>rfl) (fun _=>⟨rfl,trivial⟩) (by simpa[resCells]using h)
  |sl t l=>
   cases es with
   |nil=>simp[resCells]at h
   |cons e es=>
    simp only[resCells]at h
    obtain⟨hf,h0⟩:=bif_some h
    clear h
    obtain⟨ws,us,nl',h1,h2,h3,h4,h5⟩:=ih h0
    have h2':nl+1≤nl':=h2
    refine⟨_,_,_,h1,by omega,fun x hx=>?_,?_,fun b m A A' g a w sz vs ms hrel hA hn hB hfree hown hap hP=>?_⟩
    ·rcases List.mem_append.1 hx with hx|hx
     ·obtain⟨L,e2,e3,e4⟩:=h3 x hx
      have e2':nl+1≤L:=e2
      exact⟨L,by omega,e3,e4⟩
     ·simp only[List.mem_singleton]at hx
      subst hx
      exact⟨nl,Nat.le_refl _,by omega,.inl ⟨rfl,e,t,l,rfl⟩⟩
    ·simp only[ltL,SV.lt,h4,Bool.and_true,Nat.blt_eq];omega
    ·obtain⟨mv,us',ms',rfl,rfl,h6,h7⟩:=hP
     obtain⟨hap1,hap2⟩:=hap
     have hrel1:=hrel.takeRow (hfree nl (Nat.le_refl _) (by omega)) hB (h6.both hA hn hf) (hown mv (by simp))
     obtain⟨m',h8,h9,h10,h11,h12⟩:=h5 b _ A A' _ a w sz us' ms' hrel1 hA hn hB (fun L hL1 hL2=>(hfree L (Nat.le_of_succ_le hL1) hL2).upd (by
      have hL1':nl+1≤L:=hL1
      simp[mentionsIn,mentions,valHas,keyHas,beq_ne (show nl≠L by omega)])) (fun mv' hmv' hc' L hL=>by
       rcases owns_row (hfree nl (Nat.le_refl _) (by omega)) hL with h13|⟨rfl,h13,h14⟩
       ·exact hown mv' (by simp[hmv']) hc' L h13
       ·exact hap1 mv' hmv' h13 hc' h14.symm) hap2 h7
     have e0:m' nl=mv:=by rw[h11 nl (.inl (Nat.lt_succ_self nl)),setL_self]
     refine⟨m',by rw[upd_append];exact h8,by simp only[denL,den,e0,h9],⟨trivial,h10⟩,fun L hL=>?_,fun L x hL=>?_⟩
     ·rw[h11 L (hL.imp_left fun h=>Nat.lt_succ_of_lt h),setL_ne]
      rcases hL with hL|hL<;>omega
     ·rw[upd_append]at hL
      rcases h12 L x hL with h13|⟨mv',h13,h14,h15⟩
      ·rcases owns_row (hfree nl (Nat.le_refl _) (by omega)) h13 with h15|⟨rfl,h15,h16⟩
       ·exact .inl h15
       ·exact .inr ⟨mv,by simp,h15,h16⟩
      ·exact .inr ⟨mv',by simp[h13],h14,h15⟩
theorem resK_sound{nest:Bool}{nl:Nat}{k:RK}{x:k.T E.G.car}{K:SV→St E.G.car→Nat→Option R}(h:resK nest nl k x K=some r):
  ∃wv us nl',K wv us nl'=some r∧ResTaken E nest nl nl' [wv] us fun A sz w vs ms=>∃v,vs=[v]∧ResIs E.G A sz w k x v ms:=by
 cases k with
 |v t agg es=>
  simp only[resK]at h
  obtain⟨ws,us,nl',h1,h2,h3,h4,h5⟩:=resCells_sound h
  cases agg with
  |true=>
   refine⟨_,_,_,h1,h2,h3,by simpa[ltL,SV.lt]using h4,fun b m A A' g a w sz vs ms hrel hA hn hB hfree hown hap hP=>?_⟩
   obtain⟨v,rfl,us',h6,h7⟩:=hP
   simp only[if_true]at h7
   obtain⟨m',h8,h9,h10,h11,h12⟩:=h5 b m A A' g a w sz us' ms hrel hA hn hB hfree hown hap h6
   exact⟨m',h8,by simp only[denL,den,h9,h7],⟨h10,trivial⟩,h11,h12⟩
  |false=>
   simp only[]at h1
   split at h1
   ·rename_i v
    refine⟨_,_,_,h1,h2,h3,h4,fun b m A A' g a w sz vs ms hrel hA hn hB hfree hown hap hP=>?_⟩
    obtain⟨v,rfl,us',h6,h7⟩:=hP
    simp only[Bool.false_eq_true,if_false]at h7
    subst h7
    exact h5 b m A A' g a w sz _ ms hrel hA hn hB hfree hown hap h6
   ·cases h1
 |sl t e=>
  simp only[resK]at h
  obtain⟨hf,h1⟩:=bif_some h
  refine⟨_,_,_,h1,Nat.le_succ _,fun x hx=>?_,?_,fun b m A A' g a w sz vs ms hrel hA hn hB hfree hown hap hP=>?_⟩
  ·simp only[List.mem_singleton]at hx
   subst hx
   exact⟨nl,Nat.le_refl _,Nat.lt_succ_self _,.inl ⟨rfl,e,t,x,rfl⟩⟩
  ·simp[ltL,SV.lt]
  ·obtain⟨v,rfl,mv,rfl,rfl,h6⟩:=hP
   refine⟨_,hrel.takeRow (hfree nl (Nat.le_refl _) (Nat.lt_succ_self _)) hB (h6.both hA hn hf) (hown mv (by simp)),by simp only[denL,den,setL_self],⟨trivial,trivial⟩,fun L hL=>setL_ne _ _ (by rcases hL with h|h<;>omega),fun L x hL=>?_⟩
   rcases owns_row (hfree nl (Nat.le_refl _) (Nat.lt_succ_self _)) hL with h7|⟨rfl,h7,h8⟩
   ·exact .inl h7
   ·exact .inr ⟨mv,by simp,h7,h8⟩
 |r t agg=>
  simp only[resK]at h
  obtain⟨hnest,h0⟩:=bif_some h
  subst hnest
  obtain⟨ws,us,nl',h1,h2,h3,h4,_,h5⟩:=cvsK_sound' h0
  have hus:∀x∈us,∃L,nl≤L∧L<nl'∧((x.1= .o L∧∃e t l,x.2=some (.row e t l))∨(x.1= .x L∧∃t l,x.2=some (.ext t l))):=fun x hx=>by
   obtain⟨L,e1,e2,e3,e4⟩:=h3 x hx
   exact⟨L,e2,e3,.inr ⟨e1,e4⟩⟩
  have hno:∀(g:Map E.G.car) L,upd us g (.o L)=g (.o L):=fun g L=>upd_of_touches (by
   cases e:touches (.o L) us with
   |false=>rfl
   |true=>
    obtain⟨x,hx,e1⟩:=touches_iff.1 e
    obtain⟨L',e2,_⟩:=h3 x hx
    rw[e1]at e2;cases e2) g
  have core:∀(b:Base) (m:Nat→MV) (A A':Nat→Prop) (g:Map E.G.car) (a:Act) (w:World) (vs:List Value),Rel (cxOf E b) m A g a w→(∀x,A x→A' x)→(∀x,A' x→A x)→(∀L,nl≤L→L<nl'→Free (cxOf E b) L g)→HdL E.G A' w (E.G.enc t x) vs→
    ∃m',Rel (cxOf E b) m' A (upd us g) a w∧denL m' ws=vs∧okL m' ws∧(∀L,(L<nl∨nl'≤L)→m' L=m L)∧∀L x,Owns m' L (upd us g (.o L)) x→Owns m L (g (.o L)) x:=by
   intro b m A A' g a w vs hrel hA hA2 hfree hd
   obtain rfl:A=A':=funext fun x=>propext ⟨hA x,hA2 x⟩
   obtain⟨m',g1,g2,g3,g4⟩:=h5 b m A g a w vs hrel hfree hd
   refine⟨m',g1,g2,g3,g4,fun L x hL=>?_⟩
   rw[hno]at hL
   have hlt:L<nl∨nl'≤L:=by
    apply Classical.byContradiction
    intro hn
    have hf:=(hfree L (by omega) (by omega)).1 (.o L)
    cases e:g (.o L)with
    |none=>rw[e]at hL;exact hL
    |some v=>rw[e]at hf;simp[mentions,keyHas]at hf
   refine(owns_congr fun l' hl'=>g4 l' ?_).1 hL
   apply Classical.byContradiction
   intro hn
   have hf:=(hfree l' (by omega) (by omega)).1 (.o L)
   rw[hl']at hf;cases hf
  cases agg with
  |true=>
   refine⟨_,_,_,h1,h2,hus,by simpa[ltL,SV.lt]using h4,fun b m A A' g a w sz vs ms hrel hA hn hB hfree hown hap hP=>?_⟩
   obtain⟨v,rfl,rfl,us',h6,h7⟩:=hP
   simp only[if_true]at h7
   obtain⟨m',g1,g2,g3,g4,g5⟩:=core b m A A' g a w us' hrel hA (hn rfl) hfree h6
   exact⟨m',g1,by simp only[denL,den,g2,h7],⟨g3,trivial⟩,g4,fun L x hL=>.inl (g5 L x hL)⟩
  |false=>
   simp only[]at h1
   split at h1
   ·rename_i v
    refine⟨_,_,_,h1,h2,hus,h4,fun b m A A' g a w sz vs ms hrel hA hn hB hfree hown hap hP=>?_⟩
    obtain⟨v,rfl,rfl,us',h6,h7⟩:=hP
    simp only[Bool.false_eq_true,if_false]at h7
    subst h7
    obtain⟨m',g1,g2,g3,g4,g5⟩:=core b m A A' g a w _ hrel hA (hn rfl) hfree h6
    exact⟨m',g1,g2,g3,g4,fun L x hL=>.inl (g5 L x hL)⟩
   ·cases h1
theorem apart_append{l l':List MV}(h:Apart (l++l')):Apart l∧Apart l'∧∀x∈l,∀y∈l',x.c≠0→y.c≠0→x.b≠y.b:=by
 induction l with
 |nil=>exact⟨trivial,h,fun x hx=>nomatch hx⟩
 |cons z l ih=>
  obtain⟨h1,h2⟩:=h
  obtain⟨h3,h4,h5⟩:=ih h2
  refine⟨⟨fun y hy=>h1 y (by simp[hy]),h3⟩,h4,fun x hx y hy=>?_⟩
  rcases List.mem_cons.1 hx with rfl|hx
  ·exact h1 y (by simp[hy])
  ·exact h5 x hx y hy
theorem ressK_sound{nest:Bool}:∀{ks:List RK} {nl:Nat} {x:RT E.G.car ks} {K:List SV→St E.G.car→Nat→Option R},ressK nest nl ks x K=some r→
  ∃ws us nl',K ws us nl'=some r∧ws.length=ks.length∧ResTaken E nest nl nl' ws us fun A sz w vs ms=>ResAre E.G A sz w ks x vs ms:=by
 intro ks
 induction ks with
 |nil=>
  intro nl x K h
  refine⟨[],[],nl,by simpa[ressK]using h,rfl,Nat.le_refl _,(fun x hx=>nomatch hx),rfl,fun b m A A' g a w sz vs ms hrel _ _ _ _ _ _ hP=>?_⟩
  obtain⟨rfl,rfl⟩:=hP
  exact⟨m,hrel,rfl,trivial,fun _ _=>rfl,fun L x hL=>.inl hL⟩
 |cons k ks ih=>
  cases ks with
  |nil=>
   intro nl x K h
   obtain⟨wv,us,nl',h1,h2⟩:=resK_sound h
   exact⟨_,_,_,h1,rfl,h2⟩
  |cons k' ks=>
   intro nl x K h
   obtain⟨wv,us,nl1,h1,h2,h3,h4,h5⟩:=resK_sound (x:=x.1) h
   obtain⟨ws,us',nl',h6,hlen,h7,h8,h9,h10⟩:=ih h1
   refine⟨_,_,_,h6,by simp[hlen],Nat.le_trans h2 h7,fun x hx=>?_,?_,fun b m A A' g a w sz vs ms hrel hA hn hB hfree hown hap hP=>?_⟩
   ·rcases List.mem_append.1 hx with hx|hx
    ·obtain⟨L,e2,e3,e4⟩:=h8 x hx;exact⟨L,by omega,e3,e4⟩
    ·obtain⟨L,e2,e3,e4⟩:=h3 x hx;exact⟨L,e2,by omega,e4⟩
   ·have h4':wv.lt nl1=true:=by simpa[ltL]using h4
    simp only[ltL,lt_mono h7 h4',h9,Bool.and_self]
   ·obtain⟨v,vs',m1,m2,rfl,rfl,h11,h12⟩:=hP
    obtain⟨hap1,hap2,hap3⟩:=apart_append hap
    obtain⟨m',h13,h14,h15,h16,h17⟩:=h5 b m A A' g a w sz [v] m1 hrel hA hn hB (fun L e1 e2=>hfree L e1 (by omega)) (fun mv hmv=>hown mv (by simp[hmv])) hap1 ⟨v,rfl,h11⟩
    have hmen:∀L,nl1≤L→mentionsIn L us=false:=by
     intro L hL
     have:∀(u:St E.G.car),(∀x∈u,∃L,nl≤L∧L<nl1∧((x.1= .o L∧∃e t l,x.2=some (.row e t l))∨(x.1= .x L∧∃t l,x.2=some (.ext t l))))→mentionsIn L u=false:=by
      intro u
      induction u with
      |nil=>intro _;rfl
      |cons y u ihu=>
       intro hu
       obtain⟨yk,yv⟩:=y
       obtain⟨L',e2,e3,e4⟩:=hu (yk,yv) (by simp)
       rcases e4 with⟨e1,e,t,l,e4⟩|⟨e1,t,l,e4⟩
       ·simp only at e1 e4
        subst e1;subst e4
        simp only[mentionsIn,mentions,valHas,keyHas,Bool.false_or,Bool.or_eq_false_iff]
        exact⟨beq_ne (by omega),ihu fun z hz=>hu z (by simp[hz])⟩
       ·simp only at e1 e4
        subst e1;subst e4
        simp only[mentionsIn,mentions,valHas,keyHas,Bool.false_or,Bool.or_eq_false_iff]
        exact⟨beq_ne (by omega),ihu fun z hz=>hu z (by simp[hz])⟩
     exact this us h3
    obtain⟨m'',h18,h19,h20,h21,h22⟩:=h10 b m' A A' _ a w sz vs' m2 h13 hA hn hB (fun L e1 e2=>(hfree L (by omega) e2).upd (hmen L e1)) (fun mv hmv hc L hL=>by
     rcases h17 L _ hL with e1|⟨mv',e1,e2,e3⟩
     ·exact hown mv (by simp[hmv]) hc L e1
     ·exact hap3 mv' e1 mv hmv e2 hc e3.symm) hap2 h12
    have hsame:∀L,wv.has L=true→m'' L=m' L:=fun L hL=>h21 L (.inl (by
     have h4':wv.lt nl1=true:=by simpa[ltL]using h4
     rcases Nat.lt_or_ge L nl1 with h|h
     ·exact h
     ·rw[has_lt h wv h4']at hL;cases hL))
    have e5:den m'' wv=v:=by
     have h14':den m' wv=v:=by simpa[denL]using h14
     rw[←h14'];exact den_congr wv hsame
    refine⟨m'',by rw[upd_append];exact h18,by simp only[denL,e5,h19],⟨ok_congr wv hsame h15.1,h20⟩,fun L hL=>?_,fun L x hL=>?_⟩
    ·rw[h21 L (by omega),h16 L (by omega)]
    ·rw[upd_append]at hL
     rcases h22 L x hL with e1|⟨mv,e1,e2,e3⟩
     ·rcases h17 L x e1 with e3|⟨mv,e3,e4,e6⟩
      ·exact .inl e3
      ·exact .inr ⟨mv,by simp[e3],e4,e6⟩
     ·exact .inr ⟨mv,by simp[e1],e2,e3⟩
theorem calls_in{cx:Cx}{f n:Nat}{args:Array Value}{w:World}{R:Ending→World→Prop}(h:Calls cx.P f args w R):CallsIn cx.F n cx.P f args w R:=by
 have h':CallsIn Fence.wide n cx.P f args w R:=callsIn_wide.2 h
 cases hr:cx.r with
 |none=>simpa[Cx.F,hr,Fence.wide]using h'
 |some l=>
  have:=CallsIn.inRound l h'
  simpa[Cx.F,hr,Fence.wide,Fence.inRound]using this
theorem findCS_mem{k:Nat}:∀{l:List (CS E.G)} {c:CS E.G},findCS k l=some c→c∈l∧c.k=k:=by
 intro l
 induction l with
 |nil=>intro c h;cases h
 |cons x l ih=>
  intro c h
  simp only[findCS]at h
  cases e:Nat.beq x.k k with
  |true=>rw[e,cond_true]at h;cases h;exact⟨by simp,Nat.eq_of_beq_eq_true e⟩
  |false=>rw[e,cond_false]at h;obtain⟨h1,h2⟩:=ih h;exact⟨by simp[h1],h2⟩
variable{d:Option Nat}{type:TypeId}{pos:String}{after:Array Edge}{guard:Option (Nat×Bool)}
theorem op_callC{fx:Fix}{gl:List (Nat×Val E.G.car)}{cs:CS E.G}{fo:Operand}{fv:SV}{fs caps xs:List SV}{ags:Array Operand}{ts:Array TypeId}{ks:List Key}{args:AT E.G.car cs.ps}{rr:RT E.G.car cs.rs}{ws:List SV}{us:St E.G.car}{nl nl':Nat}
  (hok:CSok E gl cs) (hg:Good E gl fx b) (hf:Ev E M fo fv) (hk:(fv= .v (.func (.func cs.k) #[] #[])∧fs=[]∧caps=[])∨fv= .f (.func cs.k) fs caps) (hx:EvL E M ags.toList xs)
  (hargs:ArgRead M ks fun A1 w m=>okL m (fs++(xs++caps))→ArgsAre E A1 w cs.ps args (denL m (fs++(xs++caps)))) (hr:cs.f args=some rr)
  (hres:ResTaken E (!ks.any isO) nl nl' ws us fun A sz w vs ms=>ResAre E.G A sz w cs.rs rr vs ms) (hwl:ws.length=cs.rs.length) (hd:∀d',d=some d'→d'<b.N):
  OpRun (cxOf E b) ⟨d,.call ⟨.value fo,ags,ts⟩,type,pos,after,guard⟩ M ⟨okeys fo++okeysL ags.toList++ks,dstUp d ws++us,newL nl nl'⟩:=by
 intro m A a w g hrd hfree hrel K Q hK
 obtain⟨h1,k1⟩:=hf.eval hrel (fun k hk=>hrd k (reads_mem (by simp[hk])))
 obtain⟨h2,k2⟩:=hx.eval hrel (fun k hk=>hrd k (reads_mem (by simp[hk])))
 have h2':ags.map a.eval=(denL m xs).toArray:=by rw[←h2];exact Array.ext' (by rw[Array.toList_map])
 have hfn:den m fv= .func (.func cs.k) (denL m fs).toArray (denL m caps).toArray:=by
  rcases hk with⟨rfl,rfl,rfl⟩|rfl
  ·rfl
  ·rfl
 refine⟨fun _ _=>trivial,?_⟩
 rw[semAt_of _ _ (fun _ h=>by cases h)]
 have hrun:(execOp a.eval ⟨d,.call ⟨.value fo,ags,ts⟩,type,pos,after,guard⟩).run E.P w= .ok (.enter cs.k ((denL m (fs++(xs++caps))).toArray)) w:=by
  have he:=hok.enters ((denL m fs).toArray++(denL m xs).toArray++(denL m caps).toArray) w
  rw[denL_append,denL_append]
  have e:(denL m fs).toArray++(denL m xs).toArray++(denL m caps).toArray=(denL m fs++(denL m xs++denL m caps)).toArray:=by simp
  rw[e]at he
  simp only[execOp,resolve,h1,h2',hfn,Deferred.ofValue,Sem.run_bind,Sem.run_pure,Result.andThen_ok,invoke,e]
  exact he
 rw[hrun,Oper.uponIn_enter]
 refine⟨fun h=>by simp[Cx.F]at h,?_⟩
 let A1:Nat→Prop:=fun x=>A x∨∃L,.o L∈ks∧Owns m L (g (.o L)) x
 have hA1:∀x,A x→A1 x:=fun x hx=>.inl hx
 have hA1lt:∀x,A1 x→IsCells w x:=fun x hx=>hx.elim (hrel.frzc x) fun⟨L,_,h3⟩=>hrel.blk h3
 have hokxs:okL m (fs++(xs++caps)):=by
  have app:∀{l l':List SV},okL m l→okL m l'→okL m (l++l'):=fun h h'=>okL_iff.2 fun x hx=>(List.mem_append.1 hx).elim (okL_iff.1 h x) (okL_iff.1 h' x)
  rcases hk with⟨rfl,rfl,rfl⟩|rfl
  ·exact app trivial (app k2 trivial)
  ·exact app k1.1 (app k2 k1.2)
 have hcall:=hok.ok A1 w _ args (hrel.gw hg hA1) hA1lt (hargs b m A g a w hrel (fun k hk=>hrd k (reads_mem (by simp[hk]))) A1 hA1 (fun L x h3 h4=>.inr ⟨L,h3,h4⟩) hokxs) rr hr
 refine(calls_in (cx:=cxOf E b) hcall).mono fun e w' ⟨vs,ms,A',he,hbel,hA',hlt',hnew',hra,hap⟩=>?_
 subst he
 have hw:=hrel.world hbel
 obtain⟨h3,h4,h5,h6⟩:=hres
 have hrowsNew:∀mv∈ms,mv.c≠0→w.heap.size≤mv.b:=by
  have hc:∀(cvs:List (CV E.G.car)) (es:List Nat) (vs:List Value) (ms:List MV),ResCells E.G A' w.heap.size w' cvs es vs ms→∀mv∈ms,mv.c≠0→w.heap.size≤mv.b:=by
   intro cvs
   induction cvs with
   |nil=>intro es vs ms h mv hmv;obtain⟨_,rfl⟩:=h;cases hmv
   |cons cv cvs ih=>
    intro es vs ms h mv hmv hc
    cases cv with
    |v x=>obtain⟨_,_,h7⟩:=h;exact ih _ _ _ h7 mv hmv hc
    |sl t l=>
     cases es with
     |nil=>exact h.elim
     |cons e es=>
      obtain⟨mv',us',ms',_,rfl,h7,h8⟩:=h
      rcases List.mem_cons.1 hmv with rfl|hmv
      ·rcases h7.2 with⟨h9,_⟩|⟨_,_,h9,_⟩
       ·exact absurd h9 hc
       ·exact h9
      ·exact ih _ _ _ h8 mv hmv hc
  have hri:∀(k:RK) (x:k.T E.G.car) (v:Value) (ms:List MV),ResIs E.G A' w.heap.size w' k x v ms→∀mv∈ms,mv.c≠0→w.heap.size≤mv.b:=by
   intro k x v ms h mv hmv hc'
   cases k with
   |v t agg es=>obtain⟨us',h7,_⟩:=h;exact hc _ _ _ _ h7 mv hmv hc'
   |sl t e=>
    obtain⟨mv',rfl,_,h7⟩:=h
    simp only[List.mem_singleton]at hmv
    subst hmv
    rcases h7.2 with⟨h9,_⟩|⟨_,_,h9,_⟩
    ·exact absurd h9 hc'
    ·exact h9
   |r t agg=>obtain⟨rfl,_⟩:=h;cases hmv
  have hrs:∀(ks:List RK) (x:RT E.G.car ks) (vs:List Value) (ms:List MV),ResAre E.G A' w.heap.size w' ks x vs ms→∀mv∈ms,mv.c≠0→w.heap.size≤mv.b:=by
   intro ks
   induction ks with
   |nil=>intro x vs ms h mv hmv;obtain⟨_,rfl⟩:=h;cases hmv
   |cons k ks ih=>
    cases ks with
    |nil=>intro x vs ms h;obtain⟨v,_,h7⟩:=h;exact hri _ _ _ _ h7
    |cons k' ks=>
     intro x vs ms h mv hmv hc'
     obtain⟨v,us',m1,m2,_,rfl,h7,h8⟩:=h
     rcases List.mem_append.1 hmv with hmv|hmv
     ·exact hri _ _ _ _ h7 mv hmv hc'
     ·exact ih _ _ _ h8 mv hmv hc'
  exact hrs _ _ _ _ hra
 have hlen:∀(ks:List RK) (x:RT E.G.car ks) (vs:List Value) (ms:List MV),ResAre E.G A' w.heap.size w' ks x vs ms→vs.length=ks.length:=by
  intro ks
  induction ks with
  |nil=>intro x vs ms h;obtain⟨rfl,_⟩:=h;rfl
  |cons k ks ih=>
   cases ks with
   |nil=>intro x vs ms h;obtain⟨v,rfl,_⟩:=h;rfl
   |cons k' ks=>intro x vs ms h;obtain⟨v,us',m1,m2,rfl,_,_,h8⟩:=h;simp[ih _ _ _ h8]
 have hown2:∀mv∈ms,mv.c≠0→∀L,¬Owns m L (g (.o L)) mv.b:=fun mv hmv hc L hL=>Nat.lt_irrefl _ (Nat.lt_of_lt_of_le (hrel.blt hL) (hrowsNew mv hmv hc))
 have fin:∀(A2:Nat→Prop),Rel (cxOf E b) m A2 g a w'→(∀x,A2 x→A' x)→((!ks.any isO)=true→∀x,A' x→A2 x)→K (a.put d (resV vs)) w':=by
  intro A2 hrel2 hA2 hn
  obtain⟨m',h7,h8,h9,_,_⟩:=h6 b m A2 A' g a w' w.heap.size vs ms hrel2 hA2 hn hrel.top (fun L e1 e2=>hfree L (mem_newL.2 ⟨e1,e2⟩)) hown2 hap hra
  have hrv:resV vs=den m' (resVal ws)∧(resVal ws).ok m':=by
   rw[←h8]
   cases ws with
   |nil=>exact⟨rfl,trivial⟩
   |cons y ws=>
    cases ws with
    |nil=>exact⟨rfl,h9.1⟩
    |cons z ws=>exact⟨rfl,h9⟩
  cases d with
  |none=>exact hK m' A2 _ w' h7
  |some d'=>
   refine hK m' A2 _ w' ((h7.put (hd d' rfl) hrv.1 hrv.2).congr fun k=>?_)
   rw[upd_one]
   exact(upd_cons _ k).symm
 by_cases hno:ks.any isO=true
 ·exact fin A hw (fun x hx=>hA' x (hA1 x hx)) (fun h=>by rw[hno]at h;cases h)
 ·have hno':ks.any isO=false:=by simpa using hno
  have hsame:∀x,A1 x→A x:=fun x hx=>hx.elim id fun⟨L,h7,_⟩=>by
   have:=List.any_eq_false.1 hno' _ h7
   simp[isO]at this
  refine fin A' (hw.grow (fun x hx=>hA' x (hA1 x hx)) hlt' fun x hx=>?_) (fun _ h=>h) (fun _ _ h=>h)
  rcases hnew' x hx with h7|h7
  ·exact .inl (hsame x h7)
  ·exact .inr ⟨.inl (Nat.le_trans hrel.top h7),fun L hL=>Nat.lt_irrefl _ (Nat.lt_of_lt_of_le (hrel.blt hL) h7)⟩
end
end
end Go.KX

namespace Go.KX
open Go Go.RowKit
noncomputable section
def Key.lab:Key→Option Nat
 | .c L _=>some L
 | .o L=>some L
 | .x L=>some L
 |_=>none
def inBase{car:Nat→Type}(b:Base)(n:Nat)(m:Nat→MV)(A:Nat→Prop)(g0:Map car)(w:World):Base:=
 { r:=none,B:=w.heap.size,w0:=w,N:=0,ds:=false,sus:=fun _=> #[],kob:=b.kob,A0:=A,bor:=fun x=>∃L,Owns m L (g0 (.o L)) x,pn:=n,pm:=m }
section
variable{E:Env}{b:Base}{m m':Nat→MV}{A A':Nat→Prop}{g g0 g' gf:Map E.G.car}{a:Act}{w w':World}
theorem at_lab{b b':Base}{T T':Array Value}{k:Key}{v:Val E.G.car}{L:Nat}(hk:k.lab=some L)(h:At (cxOf E b) m A T w k v)(hko:∀x q,Owns m L (match k with| .o _=>some v|_=>none) x→(x,q)∈b'.kob→(x,q)∈b.kob):At (cxOf E b') m A T' w k v:=by
 cases k<;>first|(cases hk;done)|skip
 case o L'=>
  cases hk
  cases v<;>first|exact h|skip
  obtain⟨r,h1,h2⟩:=h
  exact⟨r,h1,fun q hq=>h2 q (hko _ q rfl hq)⟩
 all_goals (cases v<;>exact h)
theorem Rel.sub{n:Nat}(h:Rel (cxOf E b) m A g a w)(hs:∀k v,g0 k=some v→g k=some v∧∃L,k.lab=some L)(hc:∀L o v,g0 (.c L o)=some v→∃v',g0 (.o L)=some v'):
  Rel (cxOf E (inBase b n m A g0 w)) m A g0 ⟨#[],[]⟩ w:=by
 have how:∀{L x},Owns m L (g0 (.o L)) x→Owns m L (g (.o L)) x:=fun{L x} ho=>by
  cases e:g0 (.o L)with
  |none=>rw[e]at ho;exact ho.elim
  |some v=>rw[(hs _ _ e).1,←e];exact ho
 refine⟨rfl,marks_nil,fun k v hk=>?_,fun L o v hv=>?_,fun L x ho=>⟨.inr ⟨L,ho⟩,(h.own L x (how ho)).2⟩,fun L L' x h1 h2=>h.inj L L' x (how h1) (how h2),h.frzc,⟨rfl,rfl,.rfl,Nat.le_refl _,fun _ _ _=>rfl⟩,Nat.le_refl _,h.fix,h.ko,fun b hb=>.inl hb,fun b hb=>hb,fun _ _=>rfl⟩
 ·obtain⟨h1,L,hL⟩:=hs k v hk
  exact at_lab hL (h.ent k v h1) fun _ _ _ h=>h
 ·obtain⟨v',hv'⟩:=hc L o v hv
  obtain⟨ty,n,h1⟩:=h.cell L o v (hs _ _ hv).1
  rw[(hs _ _ hv').1]at h1
  exact⟨ty,n,hv'.trans h1⟩
def Mine(S:Nat→Prop)(n n' L:Nat):Prop:=S L∨(n≤L∧L<n')
theorem Rel.back{n n':Nat}{S:Nat→Prop}(h:Rel (cxOf E b) m A g a w)(h':Rel (cxOf E (inBase b n m A g0 w)) m' A' g' ⟨#[],[]⟩ w')
  (hS:∀L v,g0 (.o L)=some v→S L) (hO:∀L v,g0 (.o L)=some v→g (.o L)=some v) (hSn:∀L,S L→L<n) (hSo:∀L,S L→g (.o L)=g0 (.o L)) (hnn:n≤n')
  (hf1:∀k L,k.lab=some L→Mine S n n' L→gf k=g' k) (hf2:∀k L,k.lab=some L→¬Mine S n n' L→gf k=g k) (hf3:∀k,k.lab=none→gf k=g k)
  (hnew:∀L,n≤L→L<n'→Free (cxOf E b) L g) (hmen:∀k v L L',g' k=some v→k.lab=some L→Mine S n n' L→mentions L' k (some v)=true→L'<n'):
  ∃m'',(∀L,L<n'→m'' L=m' L)∧(∀L,¬(n≤L∧L<n')→m'' L=m L)∧Rel (cxOf E b) m'' A' gf a w':=by
 classical
 have hpin:∀L,L<n→m' L=m L:=fun L hL=>h'.pins L hL
 obtain⟨m'',hm''⟩:∃m'':Nat→MV,m''=fun L=>if n≤L∧L<n' then m' L else m L:=⟨_,rfl⟩
 have e1:∀L,L<n'→m'' L=m' L:=fun L hL=>by
  rw[hm'']
  by_cases e:n≤L
  ·simp[e,hL]
  ·simp[e,hpin L (by omega)]
 have e2:∀L,¬(n≤L∧L<n')→m'' L=m L:=fun L hL=>by rw[hm''];simp only[if_neg hL]
 have hMlt:∀{L},Mine S n n' L→L<n':=fun{L} hL=>hL.elim (fun h=>Nat.lt_of_lt_of_le (hSn L h) hnn) (fun h=>h.2)
 let bor:Nat→Prop:=fun x=>∃L,Owns m L (g0 (.o L)) x
 have hbor:∀{L x},Owns m L (g0 (.o L)) x→S L∧Owns m L (g (.o L)) x:=fun{L x} ho=>by
  cases e:g0 (.o L)with
  |none=>rw[e]at ho;exact ho.elim
  |some v=>exact⟨hS L v e,by rw[hO L v e,←e];exact ho⟩
 have hold:∀k,k<w.heap.size→¬bor k→w'.heap[k]?=w.heap[k]?:=fun k hk hn=>h'.held.block k hk hn
 have hnb:∀{L x},¬S L→Owns m L (g (.o L)) x→¬bor x:=fun{L x} hL ho ⟨L1,h1⟩=>by
  obtain⟨h3,h4⟩:=hbor h1
  have:=h.inj L1 L x h4 ho
  subst this
  exact hL h3
 have hnc:∀{k:Nat} {o:Obj},w.heap[k]?=some o→o.isDat=false→w'.heap[k]?=some o:=fun{k o} h1 h2=>by
  rw[hold k (Array.getElem?_eq_some_iff.1 h1).1 fun⟨L1,h3⟩=>?_]
  ·exact h1
  ·obtain⟨ob,h5,h6⟩:=h.blk (hbor h3).2
   rw[h1]at h5;cases h5;rw[h6]at h2;cases h2
 have hA:∀x,A x→A' x:=h'.frzA
 have hAw:∀x,A x→w'.heap[x]?=w.heap[x]?:=fun x hx=>hold x (h.frz x hx) fun⟨L1,h3⟩=>(h.own L1 x (hbor h3).2).2 hx
 have hmineS:∀{x},(cxOf E (inBase b n m A g0 w)).mine x→(cxOf E b).mine x:=fun{x} hx=>hx.elim (fun h1=>.inl (Nat.le_trans h.top h1)) fun⟨L1,h3⟩=>(h.own L1 x (hbor h3).2).1
 have hA':∀{L x},¬S L→Owns m L (g (.o L)) x→¬A' x:=fun{L x} hL ho ha=>by
  rcases h'.frz0 _ ha with h1|h1|h1
  ·exact(h.own L x ho).2 h1
  ·exact absurd (h.blt ho) (Nat.not_lt.2 h1)
  ·exact hnb hL ho h1
 have hnl:∀{L},¬Mine S n n' L→¬(n≤L∧L<n'):=fun hL h1=>hL (.inr h1)
 have how:∀{L x},Owns m'' L (gf (.o L)) x→(Mine S n n' L∧Owns m' L (g' (.o L)) x)∨(¬Mine S n n' L∧Owns m L (g (.o L)) x):=fun{L x} ho=>by
  by_cases hL:Mine S n n' L
  ·refine .inl ⟨hL,?_⟩
   rw[hf1 (.o L) L rfl hL]at ho
   exact(owns_congr fun l' hl'=>by
    cases e:g' (.o L)with
    |none=>rw[e]at hl';cases hl'
    |some v=>rw[e]at hl';exact e1 l' (hmen (.o L) v L l' e rfl hL hl')).1 ho
  ·refine .inr ⟨hL,?_⟩
   rw[hf2 (.o L) L rfl hL]at ho
   exact(owns_congr fun l' hl'=>e2 l' fun hn=>by rw[(hnew l' hn.1 hn.2).1]at hl';cases hl').1 ho
 refine⟨m'',e1,e2,h.size,h.defers.step (fun k o h1 h2=>hnc h1 h2),fun k v hk=>?_,fun L o v hv=>?_,fun L x ho=>?_,fun L L' x h1 h2=>?_,h'.frzc,?_,Nat.le_trans h.top h'.held.size,fun p hp=>?_,trivial,fun x hx=>?_,fun x hx=>hA x (h.frzA x hx),fun L hL=>?_⟩
 ·have other:gf k=g k→(∀L,k.lab=some L→¬Mine S n n' L)→At (cxOf E b) m'' A' a.tmps w' k v:=fun hgk hL=>by
   rw[hgk]at hk
   refine(h.ent k v hk).change (fun L' hm=>?_) hA hAw (fun _ _=>rfl) (fun L x e ho=>?_) (fun L o e=>?_)
   ·refine e2 L' fun hn=>?_
    have:=(hnew L' hn.1 hn.2).1 k
    rw[hk,hm]at this;cases this
   ·subst e
    rw[←hk]at ho
    exact hold _ (h.blt ho) (hnb (fun hs=>hL L rfl (.inl hs)) ho)
   ·subst e
    have ho:=h.cOwn hk
    exact hold _ (h.blt ho) (hnb (fun hs=>hL L rfl (.inl hs)) ho)
  cases hl:k.lab with
  |none=>exact other (hf3 k hl) (fun L h1=>by rw[hl]at h1;cases h1)
  |some L=>
   by_cases hL:Mine S n n' L
   ·have hk':=hk
    rw[hf1 k L hl hL]at hk'
    refine at_lab (b:=inBase b n m A g0 w) (T:= #[]) hl ?_ fun _ _ _ h=>h
    exact(h'.ent k v hk').change (fun L' hm=>e1 L' (hmen k v L L' hk' hl hL hm)) (fun _ h=>h) (fun _ _=>rfl) (fun _ _=>rfl) (fun _ _ _ _=>rfl) (fun _ _ _=>rfl)
   ·exact other (hf2 k L hl hL) (fun L' h1=>by rw[hl]at h1;cases h1;exact hL)
 ·by_cases hL:Mine S n n' L
  ·rw[hf1 (.c L o) L rfl hL]at hv
   obtain⟨ty,k,h1⟩:=h'.cell L o v hv
   exact⟨ty,k,by rw[hf1 (.o L) L rfl hL];exact h1⟩
  ·rw[hf2 (.c L o) L rfl hL]at hv
   obtain⟨ty,k,h1⟩:=h.cell L o v hv
   exact⟨ty,k,by rw[hf2 (.o L) L rfl hL];exact h1⟩
 ·rcases how ho with⟨h1,h3⟩|⟨h1,h3⟩
  ·obtain⟨h4,h5⟩:=h'.own L x h3
   exact⟨hmineS h4,h5⟩
  ·exact⟨(h.own L x h3).1,hA' (fun hs=>h1 (.inl hs)) h3⟩
 ·have cross:∀{L L'},Mine S n n' L→Owns m' L (g' (.o L)) x→¬Mine S n n' L'→Owns m L' (g (.o L')) x→False:=fun{L L'} h1 h2 h3 h4=>by
   rcases(h'.own L x h2).1 with h5|h5
   ·exact absurd (h.blt h4) (Nat.not_lt.2 h5)
   ·exact hnb (fun hs=>h3 (.inl hs)) h4 h5
  rcases how h1 with⟨h3,h5⟩|⟨h3,h5⟩<;>rcases how h2 with⟨h6,h8⟩|⟨h6,h8⟩
  ·exact h'.inj L L' x h5 h8
  ·exact(cross h3 h5 h6 h8).elim
  ·exact(cross h6 h8 h3 h5).elim
  ·exact h.inj L L' x h5 h8
 ·refine h.held.step h'.held.os h'.held.tape h'.held.output h'.held.size fun k hk hn=>hold k (Nat.lt_of_lt_of_le hk h.top) fun⟨L1,h3⟩=>?_
  exact not_mine hk hn (h.own L1 k (hbor h3).2).1 rfl
 ·rw[e2 p.1 fun hn=>(hnew p.1 hn.1 hn.2).2.1 p hp rfl]
  exact h.fix p hp
 ·rcases h'.frz0 x hx with h1|h1
  ·exact h.frz0 x h1
  ·exact .inr (hmineS h1)
 ·rw[e2 L fun hn=>absurd hL (Nat.not_lt.2 (hnew L hn.1 hn.2).2.2)]
  exact h.pins L hL
end
end
end Go.KX

namespace Go.KX
open Go Go.RowKit
noncomputable section
def nilMV:MV:={ b:=0,p:=none,n:=0,c:=0 }
def sig(ρ:Rho)(L:Nat):Option Nat:=
 match rhoFind L ρ with
 |some (o,_)=>o
 |none=>some L
def trM(ρ:Rho)(m:Nat→MV)(L:Nat):MV:=
 match sig ρ L with
 |some L1=>m L1
 |none=>nilMV
def SameV(ρ:Rho)(n:Nat)(x v:SV):Prop:=x.lt n=true∧∀m,den (trM ρ m) x=den m v∧(v.ok m→x.ok (trM ρ m))
def OwnL(kl:List Nat)(ρ:Rho)(L L1:Nat):Prop:=(L∈kl∧L1=L∧rhoFind L ρ=none)∨rhoFind L ρ=some (some L1,1)
theorem OwnL.sig{kl:List Nat}{ρ:Rho}{L L1:Nat}(h:OwnL kl ρ L L1):sig ρ L=some L1:=by
 rcases h with⟨_,h1,h2⟩|h1
 ·simp only[KX.sig,h2,h1]
 ·simp only[KX.sig,h1]
def sig0(ρ:Rho)(a:Nat):Nat:=(sig ρ a).getD 0
def Val.deep{car:Nat→Type}:Val car→Bool
 | .dp .. =>true
 | .dm .. =>true
 |_=>false
inductive SameO{car:Nat→Type}(ρ:Rho):Val car→Val car→Prop
 |same {v}:v.deep=false→SameO ρ v v
 |dp {ety t es l hs S S'}:sig ρ S'=some S→(∀q∈hs,∃a,sig ρ q.2.2=some a)→SameO ρ (.dp ety t es l hs S') (.dp ety t es l (hs.map fun q=>(q.1,q.2.1,sig0 ρ q.2.2)) S)
 |dm {kt t e l hs zs S S'}:sig ρ S'=some S→(∀q∈hs,∃a,sig ρ q.2=some a)→(∀q∈zs,∃a,sig ρ q.2=some a)→SameO ρ (.dm kt t e l hs zs S') (.dm kt t e l (hs.map fun q=>(q.1,sig0 ρ q.2)) (zs.map fun q=>(q.1,sig0 ρ q.2)) S)
theorem holeAt_map{f:Nat→Nat}{i j:Nat}:∀{hs:List (Int×Nat×Nat)},holeAt i j (hs.map fun q=>(q.1,q.2.1,f q.2.2))=(holeAt i j hs).map f
 |[]=>rfl
 |(i',j',a)::r=>by
  simp only[List.map_cons,holeAt]
  split
  ·rfl
  ·exact holeAt_map
theorem holeK_map{G:Reg}{f:Nat→Nat}{kt:Nat}{x:G.car kt}:∀{hs:List (G.car kt×Nat)},holeK x (hs.map fun q=>(q.1,f q.2))=(holeK x hs).map f
 |[]=>rfl
 |(y,a)::r=>by
  simp only[List.map_cons,holeK]
  split
  ·rfl
  ·exact holeK_map
inductive SrcO{car:Nat→Type}(kl:List Nat)(ρ:Rho)(n:Nat)(g:Map car)(L:Nat):Nat→Val car→Prop
 |own {L1 v v'}:OwnL kl ρ L L1→g (.o L1)=some v→SameO ρ v' v→SrcO kl ρ n g L 0 v'
 |none {ety t}:sig ρ L=none→SrcO kl ρ n g L 0 (.row ety t [])
 |noneD {ety t es S}:sig ρ L=none→sig ρ S=none→SrcO kl ρ n g L 0 (.dp ety t es [] [] S)
 |ext {L1 v}:sig ρ L=some L1→g (.x L1)=some v→(∀cs,v= .rb cs→∀l,hasL l cs=true→sig ρ l=some l)→SrcO kl ρ n g L 1 v
 |frz {L1 ety t l}:rhoFind L ρ=some (some L1,2)→g (.o L1)=some (.row ety t l)→SrcO kl ρ n g L 1 (.ext t l)
 |nil {t}:sig ρ L=none→SrcO kl ρ n g L 1 (.ext t [])
 |cell {L1 q x v}:OwnL kl ρ L L1→g (.c L1 q)=some (.x v)→SameV ρ n x v→SrcO kl ρ n g L (q+2) (.x x)
 |raw {L1 q v}:OwnL kl ρ L L1→g (.c L1 q)=some v→(∀x,v≠ .x x)→SrcO kl ρ n g L (q+2) v
structure Comes{car:Nat→Type}(kl:List Nat)(ρ:Rho)(n:Nat)(g g':Map car):Prop where
 t:∀i v,g' (.t i)=some v→∃x y,v= .x x∧g (.t i)=some (.x y)∧SameV ρ n x y
 u:∀l i v,g' (.u l i)=some v→∃x y,v= .x x∧g (.u l i)=some (.x y)∧SameV ρ n x y
 o:∀L v,g' (.o L)=some v→SrcO kl ρ n g L 0 v
 x:∀L v,g' (.x L)=some v→SrcO kl ρ n g L 1 v
 c:∀L q v,g' (.c L q)=some v→SrcO kl ρ n g L (q+2) v
 a:g' .a=none
structure RhoIs(kl:List Nat)(ρ:Rho):Prop where
 one:∀L L' L1 k k',rhoFind L ρ=some (some L1,k)→rhoFind L' ρ=some (some L1,k')→k≠0→k'≠0→L=L'
 kl:∀L L1 k,rhoFind L ρ=some (some L1,k)→k≠0→L1∉kl
theorem OwnL.one{kl:List Nat}{ρ:Rho}(hρ:RhoIs kl ρ){L L' L1:Nat}(h:OwnL kl ρ L L1)(h':OwnL kl ρ L' L1):L=L':=by
 rcases h with⟨h1,rfl,h3⟩|h1<;>rcases h' with⟨h4,h5,h6⟩|h4
 ·exact h5
 ·exact absurd h1 (hρ.kl _ _ _ h4 (by simp))
 ·subst h5;exact absurd h4 (hρ.kl _ _ _ h1 (by simp))
 ·exact hρ.one _ _ _ _ _ h1 h4 (by simp) (by simp)
section
variable{cx:Cx}{m:Nat→MV}{A:Nat→Prop}{g g':CMap cx}{a:Act}{w:World}
theorem Rel.rebuild{kl:List Nat}{ρ:Rho}{n:Nat}(h:Rel cx m A g a w)(hρ:RhoIs kl ρ)(hglo:∀p∈cx.glo,rhoFind p.1 ρ=none)(hpn:∀L,L<cx.pn→rhoFind L ρ=none)(hc:Comes kl ρ n g g')
  (hcell:∀L q v,g' (.c L q)=some v→∃v,g' (.o L)=some v):∃m' A',Rel cx m' A' g' a w:=by
 have hA0:∀b,A b→(A b∨∃L L1,rhoFind L ρ=some (some L1,2)∧Owns m L1 (g (.o L1)) b):=fun b hb=>.inl hb
 refine⟨trM ρ m,fun b=>A b∨∃L L1,rhoFind L ρ=some (some L1,2)∧Owns m L1 (g (.o L1)) b,?_⟩
 have hm:∀{L L1},sig ρ L=some L1→trM ρ m L=m L1:=fun{L L1} e=>by simp only[trM,e]
 have hn:∀{L},sig ρ L=none→trM ρ m L=nilMV:=fun{L} e=>by simp only[trM,e]
 have how:∀L x,Owns (trM ρ m) L (g' (.o L)) x→∃L1,OwnL kl ρ L L1∧Owns m L1 (g (.o L1)) x:=by
  intro L x ho
  cases hv:g' (.o L)with
  |none=>rw[hv]at ho;exact ho.elim
  |some v=>
   rw[hv]at ho
   cases hc.o L v hv with
   |own h1 h2 h3=>
    rename_i L1 v1
    refine⟨L1,h1,?_⟩
    rw[h2]
    cases h3 with
    |same h3=>cases v<;>first|exact ho|(simp only[Owns,hm h1.sig]at ho⊢;exact ho)|(cases h3)
    |dp h3 h4=>simp only[Owns,hm h1.sig,hm h3]at ho⊢;exact ho
    |dm h3 h4 h5=>simp only[Owns,hm h1.sig,hm h3]at ho⊢;exact ho
   |none h1=>exact absurd (by rw[hn h1];rfl) ho.1
   |noneD h1 h2=>
    rcases ho with⟨ho,_⟩|⟨k,ho,_⟩
    ·exact absurd (by rw[hn h1];rfl) ho
    ·exact absurd (by rw[hn h2];rfl) ho
 refine⟨h.size,h.defers,fun k v hk=>?_,fun L q v hv=>?_,fun L x ho=>?_,fun L L' x ho ho'=>?_,fun b hb=>?_,h.held,h.top,fun p hp=>?_,h.ko,fun b hb=>?_,fun b hb=>.inl (h.frzA b hb),fun L hL=>?_⟩
 ·cases k with
  |t i=>
   obtain⟨x,y,rfl,h1,h2,h3⟩:=hc.t i v hk
   obtain⟨h4,h5⟩:=h.ent _ _ h1
   exact⟨by rw[h4,(h3 m).1],(h3 m).2 h5⟩
  |u l i=>
   obtain⟨x,y,rfl,h1,h2,h3⟩:=hc.u l i v hk
   obtain⟨h4,h5⟩:=h.ent _ _ h1
   exact⟨by rw[h4,(h3 m).1],(h3 m).2 h5⟩
  |c L q=>
   cases hc.c L q v hk with
   |cell h1 h2 h3=>
    obtain⟨⟨cur,ty,h4,h5⟩,h6⟩:=h.ent _ _ h2
    exact⟨⟨cur,ty,by rw[hm h1.sig];exact h4,by rw[h5,(h3.2 m).1]⟩,(h3.2 m).2 h6⟩
   |raw h1 h2 h3=>
    have h4:=h.ent _ _ h2
    cases v with
    |x y=>exact absurd rfl (h3 y)
    |_=>exact h4
  |o L=>
   cases hc.o L v hk with
   |own h1 h2 h0=>
    have h3:=h.ent _ _ h2
    cases h0 with
    |dp h4 h5=>
     obtain⟨⟨h6,h7⟩,h8,h20⟩:=h3
     refine⟨⟨by rw[hm h1.sig];exact h6,?_⟩,by rw[hm h1.sig,hm h4];exact h8,fun q hq=>h20.lt (q.1,q.2.1,sig0 ρ q.2.2) (List.mem_map.2 ⟨q,hq,rfl⟩),by have:=h20.ne;rw[List.pairwise_map]at this;exact this⟩
     rw[hm h1.sig,hm h4]
     refine h7.imp_right fun⟨h9,h10,cur,h11,h12,h13,h14⟩=>⟨h9,h10,cur,h11,h12,h13,fun i x hx j cv hcv=>?_⟩
     obtain⟨u,h15,h16⟩:=h14 i x hx j cv hcv
     refine⟨u,h15,?_⟩
     rw[holeAt_map]at h16
     cases e:holeAt i j _ with
     |none=>
      rw[e]at h16
      exact h16.step (fun b hb=>.inl hb) (fun _ _=>rfl) (fun a ha=>nomatch ha) (fun _=>rfl)
     |some a=>
      rw[e]at h16
      obtain⟨q,hq,_,_,rfl⟩:=holeAt_mem e
      obtain⟨a',ha'⟩:=h5 q hq
      obtain⟨h17,h18,h19⟩:=h16
      refine⟨?_,h18,h19⟩
      rw[h17]
      simp only[sig0,ha',den,hm ha',Option.getD_some]
    |dm h4 h5 h50=>
     obtain⟨es,cl,h6,h7,h8⟩:=h3
     refine⟨es,cl,by rw[hm h1.sig];exact h6,?_,by rw[hm h1.sig,hm h4];exact h8⟩
     rw[hm h4]
     refine⟨h7.size,h7.nodup,fun k p hp=>?_,fun q hq hn=>?_,?_,h7.born,h7.clock,fun q hq=>?_⟩
     ·obtain⟨en,h9,h10,h11⟩:=h7.ent k p hp
      refine⟨en,h9,h10,?_⟩
      rw[holeK_map]at h11
      cases e:holeK p.1 _ with
      |none=>
       rw[e]at h11
       exact h11.step (fun b hb=>.inl hb) (fun _ _=>rfl) (fun a ha=>nomatch ha) (fun _=>rfl)
      |some a=>
       rw[e]at h11
       have hq:=holeK_mem e
       obtain⟨a',ha'⟩:=h5 _ hq
       obtain⟨h17,h18,h19⟩:=h11
       refine⟨?_,h18,h19⟩
       rw[h17]
       simp only[sig0,ha',den,hm ha',Option.getD_some]
     ·obtain⟨a',ha'⟩:=h5 q hq
      have h9:=h7.nil (q.1,sig0 ρ q.2) (List.mem_map.2 ⟨q,hq,rfl⟩) hn
      rw[←h9]
      simp only[sig0,ha',den,hm ha',Option.getD_some]
     ·have:=h7.holes;rw[List.map_map]at this;exact this
     ·obtain⟨a',ha'⟩:=h50 q hq
      obtain⟨k,p,en,g1,g2,g3,g4⟩:=h7.stamp (q.1,sig0 ρ q.2) (List.mem_map.2 ⟨q,hq,rfl⟩)
      refine⟨k,p,en,g1,g2,g3,?_⟩
      rw[g4]
      simp only[sig0,ha',hm ha',Option.getD_some]
    |same h0=>
     cases v with
     |dp ety t es l hs S=>cases h0
     |dm kt t e l hs zs S=>cases h0
     |mr l=>simpa only[At,hm h1.sig]using h3
     |lp st=>simpa only[At,hm h1.sig]using h3
     |sh ty k=>simpa only[At,hm h1.sig]using h3
     |mp l=>simpa only[At,hm h1.sig]using h3
     |mi l=>simpa only[At,hm h1.sig]using h3
     |row ety t l=>
      obtain⟨h4,h5⟩:=h3
      refine⟨by rw[hm h1.sig];exact h4,?_⟩
      rw[hm h1.sig]
      rcases h5 with h5|⟨h5,h6,cur,h7,h8,h9,h10⟩
      ·exact .inl h5
      ·exact .inr ⟨h5,h6,cur,h7,h8,h9,h10.change (fun b hb=>.inl hb) (fun _ _=>rfl)⟩
     |_=>exact h3
   |none h1=>exact⟨by rw[hn h1];rfl,.inl ⟨by rw[hn h1];rfl,rfl,0,by rw[hn h1];rfl⟩⟩
   |noneD h1 h2=>
    have hz:∀k,¬((trM ρ m _).sub k).c≠0:=fun k hk=>hk (by rw[hn h2];rfl)
    exact⟨⟨by rw[hn h1];rfl,.inl ⟨by rw[hn h1];rfl,rfl,0,by rw[hn h1];rfl⟩⟩,⟨fun k _ hk=>absurd hk (hz k),fun k hk=>absurd hk (hz k),fun k hk=>absurd hk (hz k),fun k hk=>absurd hk (hz k)⟩,⟨fun q hq=>(nomatch hq),List.Pairwise.nil⟩⟩
  |x L=>
   cases hc.x L v hk with
   |ext h1 h2 h0=>
    have h3:=h.ent _ _ h2
    cases v with
    |ext t l=>
     have h4:Hd cx.G A w (.sl t l) (den m (.h _)):=h3
     show Hd cx.G _ w (.sl t l) (den (trM ρ m) (.h L))
     simp only[den,hm h1]at h4⊢
     exact h4.mono hA0 (fun _ _=>rfl)
    |ro cs=>
     obtain⟨h4,h5⟩:=h3
     refine⟨by rw[hm h1];exact .inl h4,fun j cv hj=>?_⟩
     obtain⟨u,h6,h7⟩:=h5 j cv hj
     exact⟨u,by rw[hm h1];exact h6,h7.mono hA0 (fun _ _=>rfl)⟩
    |ln n=>show(trM ρ m L).n=n∧(n≠0→(trM ρ m L).p=some ⟨(trM ρ m L).b,0,none⟩);rw[hm h1];exact h3
    |rb cs=>
     obtain⟨h4,h5,h6⟩:=h3
     have hcs:∀l,hasL l cs=true→trM ρ m l=m l:=fun l hl=>hm (h0 cs rfl l hl)
     refine⟨by rw[hm h1];exact .inl h4,okL_congr cs hcs h5,fun j y hy=>?_⟩
     rw[hm h1,h6 j y hy]
     exact congrArg some (den_congr y fun l hl=>(hcs l (by
      cases e:hasL l cs with
      |true=>rfl
      |false=>rw[hasL_mem' e y (List.mem_of_getElem? hy)]at hl;cases hl)).symm)
    |mr l=>
     obtain⟨h4,h5⟩:=h3
     exact⟨by rw[hm h1];exact .inl h4,by rw[hm h1];exact h5⟩
    |_=>exact h3
   |frz h1 h2=>
    rename_i L1 ety t l
    have h3:=h.ent _ _ h2
    have h4:=h3.rowHd (A':=fun b=>A b∨∃L L1,rhoFind L ρ=some (some L1,2)∧Owns m L1 (g (.o L1)) b) hA0 (fun hne=>.inr ⟨L,L1,h1,by rw[h2];exact⟨hne,rfl⟩⟩)
    have h5:sig ρ L=some L1:=by simp only[sig,h1]
    show Hd cx.G _ w (.sl t l) (den (trM ρ m) (.h L))
    simp only[den,hm h5]at h4⊢
    exact h4
   |nil h1=>
    show Hd cx.G _ w (.sl _ []) (den (trM ρ m) (.h L))
    simp only[den,hn h1,nilMV]
    exact Hd.mk (b:=0) (o:=0) rfl (Nat.le_refl _) (fun h=>absurd rfl h) (fun i x hx=>by simp at hx)
  |a=>rw[hc.a]at hk;cases hk
 ·obtain⟨v',hv'⟩:=hcell L q v hv
  have hsrc:∃L1 v1,OwnL kl ρ L L1∧g (.c L1 q)=some v1:=by
   cases hc.c L q v hv with
   |cell h1 h2 h3=>exact⟨_,_,h1,h2⟩
   |raw h1 h2 h3=>exact⟨_,_,h1,h2⟩
  ·obtain⟨L1,v1,h1,h2⟩:=hsrc
   obtain⟨ty,k,h4⟩:=h.cell _ _ _ h2
   refine⟨ty,k,?_⟩
   rw[hv']
   cases hc.o L v' hv' with
   |own h5 h6 h7=>
    have e:=h5.sig.symm.trans h1.sig
    cases e
    rw[h4]at h6
    cases h6
    cases h7
    rfl
   |none h5=>rw[h1.sig]at h5;cases h5
   |noneD h5 _=>rw[h1.sig]at h5;cases h5
 ·obtain⟨L1,h1,h2⟩:=how L x ho
  obtain⟨h3,h4⟩:=h.own L1 x h2
  refine⟨h3,fun hb=>hb.elim h4 fun⟨L',L2,h5,h6⟩=>?_⟩
  have:=h.inj L1 L2 x h2 h6
  subst this
  rcases h1 with⟨h8,rfl,_⟩|h8
  ·exact hρ.kl _ _ _ h5 (by simp) h8
  ·have:=hρ.one _ _ _ _ _ h8 h5 (by simp) (by simp)
   subst this
   rw[h8]at h5;cases h5
 ·obtain⟨L1,h1,h2⟩:=how L x ho
  obtain⟨L2,h3,h4⟩:=how L' x ho'
  have:=h.inj L1 L2 x h2 h4
  subst this
  exact h1.one hρ h3
 ·rcases hb with hb|⟨L,L1,h1,h2⟩
  ·exact h.frzc b hb
  ·exact h.blk h2
 ·have:sig ρ p.1=some p.1:=by simp only[sig,hglo p hp]
  rw[hm this]
  exact h.fix p hp
 ·rcases hb with hb|⟨L,L1,h1,h2⟩
  ·exact h.frz0 b hb
  ·exact .inr (h.own L1 b h2).1
 ·have:sig ρ L=some L:=by simp only[sig,hpn L hL]
  rw[hm this]
  exact h.pins L hL
end
end
end Go.KX

namespace Go.KX
open Go Go.RowKit
noncomputable section
section
variable{car:Nat→Type}{R:Type}{r:R}
theorem rhoFind_cons(L:Nat)(x:Nat×Option Nat×Nat)(ρ:Rho):rhoFind L (x::ρ)=bif Nat.beq x.1 L then some x.2 else rhoFind L ρ:=rfl
theorem rhoFind_mem{L:Nat}{x:Option Nat×Nat}:∀{ρ:Rho},rhoFind L ρ=some x→(L,x)∈ρ:=by
 intro ρ
 induction ρ with
 |nil=>intro h;cases h
 |cons y ρ ih=>
  intro h
  rw[rhoFind_cons]at h
  cases e:Nat.beq y.1 L with
  |true=>rw[e,cond_true]at h;cases h;rw[←Nat.eq_of_beq_eq_true e];simp
  |false=>rw[e,cond_false]at h;simp[ih h]
theorem nodupN_cons{x:Nat}{l:List Nat}(h:nodupN (x::l)=true):x∉l∧nodupN l=true:=by
 simp only[nodupN,Bool.and_eq_true,Bool.not_eq_true']at h
 refine⟨fun hx=>?_,h.2⟩
 have:=List.any_eq_false.1 h.1 x hx
 simp at this
theorem memN_iff{l:List Nat}{L:Nat}:memN l L=true↔L∈l:=by
 simp only[memN,List.any_eq_true,Nat.beq_eq]
 exact⟨fun⟨x,h,e⟩=>e▸h,fun h=>⟨L,h,rfl⟩⟩
theorem rhoFind_of:∀{ρ:Rho},nodupN (ρ.map (·.1))=true→∀{L:Nat} {x:Option Nat×Nat},(L,x)∈ρ→rhoFind L ρ=some x:=by
 intro ρ
 induction ρ with
 |nil=>intro _ L x h;cases h
 |cons y ρ ih=>
  intro hn L x h
  obtain⟨h1,h2⟩:=nodupN_cons hn
  rw[rhoFind_cons]
  rcases List.mem_cons.1 h with rfl|h
  ·simp
  ·have:y.1≠L:=fun e=>h1 (List.mem_map.2 ⟨_,h,e.symm⟩)
   rw[beq_ne this,cond_false]
   exact ih h2 h
theorem ownsOf_mem{L L1 k:Nat}:∀{ρ:Rho},(L,some L1,k)∈ρ→k≠0→L1∈ownsOf ρ:=by
 intro ρ
 induction ρ with
 |nil=>intro h;cases h
 |cons y ρ ih=>
  intro h hk
  obtain⟨a,o,n⟩:=y
  rcases List.mem_cons.1 h with e|h9
  ·cases e
   simp only[ownsOf,beq_ne hk,cond_false]
   simp
  ·cases o with
   |none=>simp only[ownsOf];exact ih h9 hk
   |some L2=>
    simp only[ownsOf]
    cases Nat.beq n 0 with
    |true=>exact ih h9 hk
    |false=>exact List.mem_cons_of_mem _ (ih h9 hk)
theorem ownsOf_one:∀{ρ:Rho},nodupN (ρ.map (·.1))=true→nodupN (ownsOf ρ)=true→∀{L L' L1 k k':Nat},(L,some L1,k)∈ρ→(L',some L1,k')∈ρ→k≠0→k'≠0→L=L':=by
 intro ρ
 induction ρ with
 |nil=>intro _ _ L L' L1 k k' h;cases h
 |cons y ρ ih=>
  intro hn ho L L' L1 k k' h h' hk hk'
  obtain⟨hn1,hn2⟩:=nodupN_cons hn
  obtain⟨a,o,n⟩:=y
  have tail:nodupN (ownsOf ρ)=true:=by
   cases o with
   |none=>exact ho
   |some L2=>
    simp only[ownsOf]at ho
    cases e:Nat.beq n 0 with
    |true=>rw[e,cond_true]at ho;exact ho
    |false=>rw[e,cond_false]at ho;exact(nodupN_cons ho).2
  have head:∀{L2:Nat},o=some L2→n≠0→L2∉ownsOf ρ:=fun{L2} e hne=>by
   subst e
   simp only[ownsOf,beq_ne hne,cond_false]at ho
   exact(nodupN_cons ho).1
  rcases List.mem_cons.1 h with e|h8<;>rcases List.mem_cons.1 h' with e'|h9
  ·cases e;cases e';rfl
  ·cases e
   exact absurd (ownsOf_mem h9 hk') (head rfl hk)
  ·cases e'
   exact absurd (ownsOf_mem h8 hk) (head rfl hk')
  ·exact ih hn2 tail h8 h9 hk hk'
structure Final(T:Tpl)(nl0:Nat)(ρ:Rho):Prop where
 find:∀{L:Nat} {x:Option Nat×Nat},(L,x)∈ρ→rhoFind L ρ=some x
 lt:∀{L:Nat} {x:Option Nat×Nat},(L,x)∈ρ→nl0≤L∧L<T.nl
 is:RhoIs T.kl ρ
 kl:∀{L:Nat},L∈T.kl→L<nl0
 nl:nl0≤T.nl
 tm:∀q∈T.tm,q.1∉T.kt
 cl:∀q∈T.cl,q.1∈T.kl
 rw:∀q∈T.rw,q.1∈T.kl
theorem Final.mk'{T:Tpl}{nl0:Nat}{ρ:Rho}(h1:tplOK T nl0=true)(h2:rhoOK T nl0 ρ=true):Final T nl0 ρ:=by
 simp only[tplOK,Bool.and_eq_true,List.all_eq_true,Nat.ble_eq,Nat.blt_eq,Bool.not_eq_true']at h1
 simp only[rhoOK,Bool.and_eq_true,List.all_eq_true,Nat.ble_eq,Nat.blt_eq,Bool.not_eq_true']at h2
 obtain⟨⟨⟨⟨a1,a2⟩,a3⟩,a4⟩,a5⟩:=h1
 obtain⟨⟨⟨b1,b2⟩,b3⟩,b4⟩:=h2
 refine⟨fun h=>rhoFind_of b1 h,fun h=>b4 _ h,⟨fun L L' L1 k k' e e' hk hk'=>ownsOf_one b1 b2 (rhoFind_mem e) (rhoFind_mem e') hk hk',fun L L1 k e hk hmem=>?_⟩,fun h=>a2 _ h,a1,fun q hq hm=>?_,fun q hq=>memN_iff.1 (a4 q hq),fun q hq=>memN_iff.1 (a5 q hq)⟩
 ·have:=b3 _ (ownsOf_mem (rhoFind_mem e) hk)
  rw[memN_iff.2 hmem]at this;cases this
 ·have:=a3 q hq
  rw[memN_iff.2 hm]at this;cases this
theorem Final.old{T:Tpl}{nl0:Nat}{ρ:Rho}(h:Final T nl0 ρ){L:Nat}(hL:L<nl0):rhoFind L ρ=none:=by
 cases e:rhoFind L ρ with
 |none=>rfl
 |some x=>have:=(h.lt (rhoFind_mem e)).1;omega
def Named(T:Tpl)(L q:Nat):Prop:=(∃c∈T.cl,c.1=L∧c.2.1+2=q)∨(q=0∧∃c∈T.rw,c.1=L)
structure StOK(T:Tpl)(d:Nat)(s s2:XS car)(ρ:Rho)(P:Nat→Nat→Prop)(s':XS car):Prop where
 t:∀k e,s'.t.get k=some e→(e.1<d→s.t.get k=some e)∧∀x,e.2=some x→∃a v,s2.t.get k=some (a,some v)∧SameV ρ T.nl x v
 o:∀L q e,s'.rec? L q=some e→L<T.nl∧(e.at_<d→s.rec? L q=some e)∧(∀v,e.v=some v→v.lt T.nl=true)∧∀v,e.v=some v→¬P L q→SrcO T.kl ρ T.nl (s2.map 0) L q v
 nl:s'.nl=T.nl
 kt:∀k∈T.kt,s'.t.get k=s.t.get k
 kl:∀L∈T.kl,∀q,¬Named T L q→s'.rec? L q=s.rec? L q
 hd:∀L q v,s'.lab L (q+2)=some v→∃v,s'.lab L 0=some v
def Heads(s s':XS car):Prop:=∀L v,s.lab L 0=some v→∃v,s'.lab L 0=some v
theorem Heads.refl(s:XS car):Heads s s:=fun _ v h=>⟨v,h⟩
theorem Heads.trans{s s' s'':XS car}(h:Heads s s')(h':Heads s' s''):Heads s s'':=fun L v hv=>by
 obtain⟨v',h1⟩:=h L v hv
 exact h' L v' h1
variable{T:Tpl}{d nl0:Nat}{s s2 s':XS car}{ρ:Rho}{P:Nat→Nat→Prop}
theorem StOK.mono{P':Nat→Nat→Prop}(h:StOK T d s s2 ρ P s')(hP:∀L q,P L q→P' L q):StOK T d s s2 ρ P' s':=
 ⟨h.t,fun L q e he=>(h.o L q e he).imp id (And.imp id (And.imp id fun h6 v hv hn=>h6 v hv (fun hp=>hn (hP L q hp)))),h.nl,h.kt,h.kl,h.hd⟩
theorem StOK.lab'(h:StOK T d s s2 ρ P s'){L q:Nat}{v:Val car}(hL:L<T.nl)(hk:L∈T.kl→Named T L q)(hx:v.lt T.nl=true)
  (hsrc:SrcO T.kl ρ T.nl (s2.map 0) L q v) (hhd:2≤q→∃v,s'.lab L 0=some v):StOK T d s s2 ρ (fun L' q'=>P L' q'∧¬(L=L'∧q=q')) (s'.labF d L q (some v))∧Heads s' (s'.labF d L q (some v))∧(s'.labF d L q (some v)).lab L q=some v:=by
 obtain⟨e1,e2⟩:=XS.labF_t d s' L q (some v)
 have heads:Heads s' (s'.labF d L q (some v)):=fun L' v' hv'=>by
  rw[XS.lab_labF]
  split
  ·exact⟨v,rfl⟩
  ·exact⟨v',hv'⟩
 refine⟨⟨fun k e he=>h.t k e (by rw[←e1];exact he),fun L' q' e he=>?_,e2.trans h.nl,fun k hk'=>by rw[e1];exact h.kt k hk',fun L' hL' q' hn=>?_,fun L' q' v' hv'=>?_⟩,heads,by rw[XS.lab_labF,if_pos ⟨rfl,rfl⟩]⟩
 ·rw[XS.rec_labF]at he
  split at he
  ·rename_i hc
   obtain⟨rfl,rfl⟩:=hc
   cases he
   exact⟨hL,fun hlt=>absurd hlt (Nat.lt_irrefl d),fun v' hv'=>by cases hv';exact hx,fun v' hv' _=>by cases hv';exact hsrc⟩
  ·rename_i hne
   obtain⟨h1,h2,h3,h5⟩:=h.o L' q' e he
   exact⟨h1,h2,h3,fun v hv hn=>h5 v hv (fun hp=>hn ⟨hp,hne⟩)⟩
 ·rw[XS.rec_labF,if_neg]
  ·exact h.kl L' hL' q' hn
  ·rintro⟨rfl,rfl⟩
   exact hn (hk hL')
 ·rw[XS.lab_labF]at hv'
  split at hv'
  ·rename_i hc
   obtain⟨rfl,rfl⟩:=hc
   obtain⟨v1,h1⟩:=hhd (by omega)
   exact heads L v1 h1
  ·obtain⟨v1,h1⟩:=h.hd L' q' v' hv'
   exact heads L' v1 h1
theorem StOK.lab(h:StOK T d s s2 ρ P s'){L q:Nat}{v:Val car}(hL:L<T.nl)(hk:L∈T.kl→Named T L q)(hx:v.lt T.nl=true)
  (hsrc:SrcO T.kl ρ T.nl (s2.map 0) L q v) (hhd:2≤q→∃v,s'.lab L 0=some v):StOK T d s s2 ρ P (s'.labF d L q (some v))∧Heads s' (s'.labF d L q (some v))∧(s'.labF d L q (some v)).lab L q=some v:=
 (h.lab' hL hk hx hsrc hhd).imp (fun h=>h.mono fun _ _ h=>h.1) id
theorem StOK.tmp(h:StOK T d s s2 ρ P s'){k a:Nat}{x v:SV}(hk:k∉T.kt)(hv:s2.t.get k=some (a,some v))(hs:SameV ρ T.nl x v):StOK T d s s2 ρ P ⟨s'.t.set k (d,some x),s'.o,s'.nl⟩:=by
 refine⟨fun k' e he=>?_,h.o,h.nl,fun k' hk'=>?_,h.kl,h.hd⟩
 ·simp only[PT.get_set]at he
  split at he
  ·rename_i hc
   subst hc
   cases he
   exact⟨fun hlt=>absurd hlt (Nat.lt_irrefl d),fun y hy=>by cases hy;exact⟨a,v,hv,hs⟩⟩
  ·exact h.t k' e he
 ·simp only[PT.get_set]
  rw[if_neg (fun e=>hk (by rw[e];exact hk'))]
  exact h.kt k' hk'
def InstOK(T:Tpl)(d:Nat)(s s2:XS car)(R:Type)(ρ:Rho)(p:Pat)(v:SV)(xs:List (VV car)):Prop:=
 ∀(P:Nat→Nat→Prop) (vs:List (VV car)) (s':XS car) (r:R) (K:SV→List (VV car)→XS car→Option R),StOK T d s s2 ρ P s'→instP d p (xs++vs) s' K=some r→
  ∃x s'',K x vs s''=some r∧StOK T d s s2 ρ P s''∧Heads s' s''∧SameV ρ T.nl x v
def InstsOK(T:Tpl)(d:Nat)(s s2:XS car)(R:Type)(ρ:Rho)(p:List Pat)(v:List SV)(xs:List (VV car)):Prop:=
 ∀(P:Nat→Nat→Prop) (vs:List (VV car)) (s':XS car) (r:R) (K:List SV→List (VV car)→XS car→Option R),StOK T d s s2 ρ P s'→instP.instPs d p (xs++vs) s' K=some r→
  ∃x s'',K x vs s''=some r∧StOK T d s s2 ρ P s''∧Heads s' s''∧ltL T.nl x=true∧∀m,denL (trM ρ m) x=denL m v∧(okL m v→okL (trM ρ m) x)
theorem sameV_h{L L1 k:Nat}(hf:rhoFind L ρ=some (some L1,k))(hn:L<T.nl):SameV ρ T.nl (.h L) (.h L1):=by
 refine⟨by simpa[SV.lt]using hn,fun m=>⟨?_,fun _=>trivial⟩⟩
 simp only[den,trM,sig,hf]
theorem sameV_nil{L k:Nat}(hf:rhoFind L ρ=some (none,k))(hn:L<T.nl):SameV ρ T.nl (.h L) (.v (.slice none 0 0)):=by
 refine⟨by simpa[SV.lt]using hn,fun m=>⟨?_,fun _=>trivial⟩⟩
 simp only[den,trM,sig,hf,nilMV]
def MatIs(T:Tpl)(nl0:Nat)(R:Type)(r:R)(ρ0:Rho)(K:List (VV car)→Rho→Option R)(I:Rho→List (VV car)→Prop):Prop:=
 ∃xs ρ1,K xs ρ1=some r∧(∀q∈ρ0,q∈ρ1)∧∀ρ,Final T nl0 ρ→(∀q∈ρ1,q∈ρ)→I ρ xs
theorem instH{L ety t:Nat}{l:List (car t)}{v:SV}(hL:L<T.nl)(hk:L∉T.kl)(hsrc:SrcO T.kl ρ T.nl (s2.map 0) L 0 (.row ety t l))(hs:SameV ρ T.nl (.h L) v):InstOK T d s s2 R ρ (.h L ety t) v [.l t l]:=by
 intro P vs s' r K hst hi
 simp only[List.cons_append,List.nil_append,instP,dite_true,XS.setLab_eq]at hi
 obtain⟨h1,h2,_⟩:=hst.lab (q:=0) hL (fun h=>absurd h hk) rfl hsrc (fun h=>by omega)
 exact⟨_,_,hi,h1,h2,hs⟩
theorem instX{L t:Nat}{l:List (car t)}{v:SV}(hL:L<T.nl)(hk:L∉T.kl)(hsrc:SrcO T.kl ρ T.nl (s2.map 0) L 1 (.ext t l))(hs:SameV ρ T.nl (.h L) v):InstOK T d s s2 R ρ (.x L t) v [.l t l]:=by
 intro P vs s' r K hst hi
 simp only[List.cons_append,List.nil_append,instP,dite_true,XS.setLab_eq]at hi
 obtain⟨h1,h2,_⟩:=hst.lab (q:=1) hL (fun h=>absurd h hk) rfl hsrc (fun h=>by omega)
 exact⟨_,_,hi,h1,h2,hs⟩
theorem instD{L S ety t ety' t':Nat}{es es':List (Option Nat)}{l:List (car t')}{v:SV}(hL:L<T.nl)(hS:S<T.nl)(hk:L∉T.kl)(hsrc:SrcO T.kl ρ T.nl (s2.map 0) L 0 (.dp ety' t' es' l [] S))(hs:SameV ρ T.nl (.h L) v):InstOK T d s s2 R ρ (.d L S ety t es) v [.d ety' t' es' l]:=by
 intro P vs s' r K hst hi
 simp only[List.cons_append,List.nil_append,instP,XS.setLab_eq]at hi
 obtain⟨h1,h2,_⟩:=hst.lab (q:=0) hL (fun h=>absurd h hk) (by simp[Val.lt,hS]) hsrc (fun h=>by omega)
 exact⟨_,_,hi,h1,h2,hs⟩
theorem Final.notkl(h:Final T nl0 ρ){L:Nat}{x:Option Nat×Nat}(hx:(L,x)∈ρ):L∉T.kl:=fun hk=>by
 have:=h.kl hk
 have:=(h.lt hx).1
 omega
theorem instH_any{L ety t t':Nat}{l:List (car t')}{v:SV}(h:∀e:t'=t,InstOK T d s s2 R ρ (.h L ety t) v [.l t (e▸l)]):InstOK T d s s2 R ρ (.h L ety t) v [.l t' l]:=by
 by_cases e:t'=t
 ·subst e;exact h rfl
 ·intro P vs s' r K hst hi
  simp only[List.cons_append,List.nil_append,instP,e,dite_false]at hi
  cases hi
theorem instX_any{L t t':Nat}{l:List (car t')}{v:SV}(h:∀e:t'=t,InstOK T d s s2 R ρ (.x L t) v [.l t (e▸l)]):InstOK T d s s2 R ρ (.x L t) v [.l t' l]:=by
 by_cases e:t'=t
 ·subst e;exact h rfl
 ·intro P vs s' r K hst hi
  simp only[List.cons_append,List.nil_append,instP,e,dite_false]at hi
  cases hi
theorem lab0{s2:XS car}{L:Nat}{v:Option (Val car)}(h:s2.lab L 0=v):s2.map 0 (.o L)=v:=h
theorem lab1{s2:XS car}{L:Nat}{v:Option (Val car)}(h:s2.lab L 1=v):s2.map 0 (.x L)=v:=h
mutual
theorem matP_sound:∀(p:Pat) {v:SV} {ρ0:Rho} {K:List (VV car)→Rho→Option R},matP s2 nl0 p v ρ0 K=some r→MatIs T nl0 R r ρ0 K (fun ρ xs=>InstOK T d s s2 R ρ p v xs)
 | .i k,v,ρ0,K,h=>by
  unfold matP at h
  obtain⟨k',n,l,h1,h2⟩:=intK_sound h
  obtain⟨h3,h4⟩:=bif_some h1
  have h3:=of_decide_eq_true h3
  subst h3
  refine⟨_,_,h4,fun _ h=>h,fun ρ hF _ P vs s' r K hst hi=>⟨_,_,hi,hst,Heads.refl _,rfl,fun m=>⟨(h2 m).symm,fun _=>trivial⟩⟩⟩
 | .b,v,ρ0,K,h=>by
  unfold matP at h
  obtain⟨e,l,h1,h2⟩:=boolK_sound h
  refine⟨_,_,h1,fun _ h=>h,fun ρ hF _ P vs s' r K hst hi=>⟨_,_,hi,hst,Heads.refl _,rfl,fun m=>⟨(h2 m).symm,fun _=>trivial⟩⟩⟩
 | .h L ety t,v,ρ0,K,h=>by
  unfold matP at h
  split at h
  ·rename_i L1
   split at h
   ·rename_i ety' t' l hl
    obtain⟨h1,h2⟩:=bif_some h
    have h1:=Nat.eq_of_beq_eq_true h1
    subst h1
    refine⟨_,_,h2,fun _ h=>by simp[h],fun ρ hF hsub=>instH_any fun e=>?_⟩
    subst e
    have hm:=hsub (L,some L1,1) (by simp)
    exact instH (hF.lt hm).2 (hF.notkl hm) (.own (.inr (hF.find hm)) (lab0 hl) (.same rfl)) (sameV_h (hF.find hm) (hF.lt hm).2)
   ·cases h
  ·refine⟨_,_,h,fun _ h=>by simp[h],fun ρ hF hsub=>?_⟩
   have hm:=hsub (L,none,0) (by simp)
   exact instH (hF.lt hm).2 (hF.notkl hm) (.none (by simp only[sig,hF.find hm])) (sameV_nil (hF.find hm) (hF.lt hm).2)
  ·cases h
 | .x L t,v,ρ0,K,h=>by
  unfold matP at h
  split at h
  ·rename_i L1
   split at h
   ·rename_i t' l hl
    refine⟨_,_,h,fun _ h=>by simp[h],fun ρ hF hsub=>instX_any fun e=>?_⟩
    subst e
    have hm:=hsub (L,some L1,0) (by simp)
    exact instX (hF.lt hm).2 (hF.notkl hm) (.ext (by simp only[sig,hF.find hm]) (lab1 hl) (fun cs e=>nomatch e)) (sameV_h (hF.find hm) (hF.lt hm).2)
   ·split at h
    ·rename_i ety t' l hl
     refine⟨_,_,h,fun _ h=>by simp[h],fun ρ hF hsub=>instX_any fun e=>?_⟩
     subst e
     have hm:=hsub (L,some L1,2) (by simp)
     exact instX (hF.lt hm).2 (hF.notkl hm) (.frz (hF.find hm) (lab0 hl)) (sameV_h (hF.find hm) (hF.lt hm).2)
    ·cases h
  ·refine⟨_,_,h,fun _ h=>by simp[h],fun ρ hF hsub=>?_⟩
   have hm:=hsub (L,none,0) (by simp)
   exact instX (hF.lt hm).2 (hF.notkl hm) (.nil (by simp only[sig,hF.find hm])) (sameV_nil (hF.find hm) (hF.lt hm).2)
  ·cases h
 | .p L off,v,ρ0,K,h=>by
  unfold matP at h
  split at h
  ·rename_i L1 off'
   obtain⟨h1,h2⟩:=bif_some h
   have h1:=Nat.eq_of_beq_eq_true h1
   subst h1
   have fin:∀{ρ1:Rho} (ρ:Rho),K [] ρ1=some r→(L<T.nl)→sig ρ L=some L1→InstOK T d s s2 R ρ (.p L off) (.p L1 off) []:=fun ρ h3 h4 h5 P vs s' r K hst hi=>
    ⟨_,_,hi,hst,Heads.refl _,by simpa[SV.lt]using h4,fun m=>⟨by simp only[den,trM,h5],fun _=>trivial⟩⟩
   cases e1:Nat.blt L nl0 with
   |true=>
    rw[e1,cond_true]at h2
    obtain⟨h3,h4⟩:=bif_some h2
    have h3:=Nat.eq_of_beq_eq_true h3
    rw[Nat.blt_eq]at e1
    refine⟨_,_,h4,fun _ h=>h,fun ρ hF _=>fin ρ h4 (Nat.lt_of_lt_of_le e1 hF.nl) ?_⟩
    rw[←h3]
    simp only[sig,hF.old e1]
   |false=>
    rw[e1,cond_false]at h2
    split at h2
    ·rename_i L2 k hf
     obtain⟨h3,h4⟩:=bif_some h2
     have h3:=Nat.eq_of_beq_eq_true h3
     refine⟨_,_,h4,fun _ h=>h,fun ρ hF hsub=>?_⟩
     have hm:=hsub _ (rhoFind_mem hf)
     exact fin ρ h4 (hF.lt hm).2 (by simp only[sig,hF.find hm,h3])
    ·cases h2
    ·refine⟨_,_,h2,fun _ h=>by simp[h],fun ρ hF hsub=>?_⟩
     have hm:=hsub (L,some L1,1) (by simp)
     exact fin ρ h2 (hF.lt hm).2 (by simp only[sig,hF.find hm])
  ·cases h
 | .r L,v,ρ0,K,h=>by
  unfold matP at h
  split at h
  ·rename_i L1 L2 k hf
   obtain⟨h3,h4⟩:=bif_some h
   have h3:=Nat.eq_of_beq_eq_true h3
   subst h3
   refine⟨_,_,h4,fun _ h=>h,fun ρ hF hsub P vs s' r K hst hi=>?_⟩
   have hm:=hsub _ (rhoFind_mem hf)
   exact⟨_,_,hi,hst,Heads.refl _,sameV_h (hF.find hm) (hF.lt hm).2⟩
  ·rename_i k hf
   refine⟨_,_,h,fun _ h=>h,fun ρ hF hsub P vs s' r K hst hi=>?_⟩
   have hm:=hsub _ (rhoFind_mem hf)
   exact⟨_,_,hi,hst,Heads.refl _,sameV_nil (hF.find hm) (hF.lt hm).2⟩
  ·cases h
 | .d L S ety t es,v,ρ0,K,h=>by
  unfold matP at h
  split at h
  ·rename_i L1
   split at h
   ·rename_i ety' t' es' l S1 hl
    refine⟨_,_,h,fun _ h=>by simp[h],fun ρ hF hsub=>?_⟩
    have hm:=hsub (L,some L1,1) (by simp)
    have hm2:=hsub (S,some S1,0) (by simp)
    exact instD (hF.lt hm).2 (hF.lt hm2).2 (hF.notkl hm) (.own (.inr (hF.find hm)) (lab0 hl) (.dp (hs:=[]) (by simp only[sig,hF.find hm2]) (fun q hq=>nomatch hq))) (sameV_h (hF.find hm) (hF.lt hm).2)
   ·cases h
  ·refine⟨_,_,h,fun _ h=>by simp[h],fun ρ hF hsub=>?_⟩
   have hm:=hsub (L,none,0) (by simp)
   have hm2:=hsub (S,none,0) (by simp)
   exact instD (hF.lt hm).2 (hF.lt hm2).2 (hF.notkl hm) (.noneD (by simp only[sig,hF.find hm]) (by simp only[sig,hF.find hm2])) (sameV_nil (hF.find hm) (hF.lt hm).2)
  ·cases h
 | .v x,v,ρ0,K,h=>by
  unfold matP at h
  split at h
  ·obtain⟨h1,h2⟩:=bif_some h
   have h1:=litEq_eq h1
   subst h1
   exact⟨_,_,h2,fun _ h=>h,fun ρ hF _ P vs s' r K hst hi=>⟨_,_,hi,hst,Heads.refl _,rfl,fun m=>⟨rfl,fun _=>trivial⟩⟩⟩
  ·cases h
 | .g ps,v,ρ0,K,h=>by
  unfold matP at h
  split at h
  ·obtain⟨xs,ρ1,h1,h2,h3⟩:=matPs_sound ps h
   refine⟨xs,ρ1,h1,h2,fun ρ hF hsub P vs s' r K hst hi=>?_⟩
   obtain⟨x,s'',h4,h5,h6,h7,h8⟩:=h3 ρ hF hsub P vs s' r (fun xs vs s=>K (.g xs) vs s) hst hi
   exact⟨_,_,h4,h5,h6,h7,fun m=>⟨by simp only[den,(h8 m).1],(h8 m).2⟩⟩
  ·cases h
 | .t ps,v,ρ0,K,h=>by
  unfold matP at h
  split at h
  ·obtain⟨xs,ρ1,h1,h2,h3⟩:=matPs_sound ps h
   refine⟨xs,ρ1,h1,h2,fun ρ hF hsub P vs s' r K hst hi=>?_⟩
   obtain⟨x,s'',h4,h5,h6,h7,h8⟩:=h3 ρ hF hsub P vs s' r (fun xs vs s=>K (.t xs) vs s) hst hi
   exact⟨_,_,h4,h5,h6,h7,fun m=>⟨by simp only[den,(h8 m).1],(h8 m).2⟩⟩
  ·cases h
theorem matPs_sound:∀(ps:List Pat) {vs:List SV} {ρ0:Rho} {K:List (VV car)→Rho→Option R},matP.matPs s2 nl0 ps vs ρ0 K=some r→MatIs T nl0 R r ρ0 K (fun ρ xs=>InstsOK T d s s2 R ρ ps vs xs)
 |[],[],ρ0,K,h=>⟨_,_,h,fun _ h=>h,fun ρ hF _ P vs s' r K hst hi=>⟨_,_,hi,hst,Heads.refl _,rfl,fun m=>⟨rfl,fun _=>trivial⟩⟩⟩
 |p::ps,v::vs,ρ0,K,h=>by
  unfold matP.matPs at h
  obtain⟨xs,ρ1,h1,h2,h3⟩:=matP_sound p h
  obtain⟨ys,ρ2,h4,h5,h6⟩:=matPs_sound ps h1
  refine⟨_,_,h4,fun q hq=>h5 q (h2 q hq),fun ρ hF hsub P us s' r K hst hi=>?_⟩
  unfold instP.instPs at hi
  rw[List.append_assoc]at hi
  obtain⟨x,s1,g1,g2,g3,g4⟩:=h3 ρ hF (fun q hq=>hsub q (h5 q hq)) P (ys++us) s' r _ hst hi
  obtain⟨x',s2',g5,g6,g7,g8,g9⟩:=h6 ρ hF hsub P us s1 r _ g2 g1
  refine⟨_,_,g5,g6,g3.trans g7,?_,fun m=>⟨?_,fun ho=>?_⟩⟩
  ·simp only[ltL,Bool.and_eq_true];exact⟨g4.1,g8⟩
  ·simp only[denL,(g4.2 m).1,(g9 m).1]
  ·exact⟨(g4.2 m).2 ho.1,(g9 m).2 ho.2⟩
 |[],_::_,ρ0,K,h=>by cases h
 |_::_,[],ρ0,K,h=>by cases h
end
end
end
end Go.KX

namespace Go.KX
open Go Go.RowKit
noncomputable section
section
variable{car:Nat→Type}{R:Type}{r:R}{T:Tpl}{d nl0:Nat}{s s2 s':XS car}{ρ:Rho}{P:Nat→Nat→Prop}
def PartOK(T:Tpl)(d:Nat)(s s2:XS car)(R:Type)(ρ:Rho)(P P':Nat→Nat→Prop)(pre post:XS car→Prop)(xs:List (VV car))(f:List (VV car)→XS car→(List (VV car)→XS car→Option R)→Option R):Prop:=
 ∀(vs:List (VV car)) (s':XS car) (r:R) (K:List (VV car)→XS car→Option R),StOK T d s s2 ρ P s'→pre s'→f (xs++vs) s' K=some r→∃s'',K vs s''=some r∧StOK T d s s2 ρ P' s''∧Heads s' s''∧post s''
theorem matTm_sound:∀(l:List (Nat×Pat)) {ρ0:Rho} {K:List (VV car)→Rho→Option R},matTm s2 nl0 l ρ0 K=some r→(∀q∈l,q∈T.tm)→
  MatIs T nl0 R r ρ0 K (fun ρ xs=>∀P,PartOK T d s s2 R ρ P P (fun _=>True) (fun _=>True) xs (instTm d l)):=by
 intro l
 induction l with
 |nil=>
  intro ρ0 K h hl
  exact⟨_,_,h,fun _ h=>h,fun ρ hF _ P vs s' r K hst _ hi=>⟨_,hi,hst,Heads.refl _,trivial⟩⟩
 |cons x l ih=>
  intro ρ0 K h hl
  obtain⟨k,p⟩:=x
  unfold matTm at h
  split at h
  ·rename_i a v hv
   obtain⟨xs,ρ1,h1,h2,h3⟩:=matP_sound (T:=T) (d:=d) (s:=s) p h
   obtain⟨ys,ρ2,h4,h5,h6⟩:=ih h1 (fun q hq=>hl q (List.mem_cons_of_mem _ hq))
   refine⟨_,_,h4,fun q hq=>h5 q (h2 q hq),fun ρ hF hsub P us s' r K hst _ hi=>?_⟩
   unfold instTm at hi
   rw[List.append_assoc]at hi
   obtain⟨x,s1,g1,g2,g3,g4⟩:=h3 ρ hF (fun q hq=>hsub q (h5 q hq)) P (ys++us) s' r _ hst hi
   simp only[PT.setK_set]at g1
   have hk:k∉T.kt:=hF.tm _ (hl (k,p) (by simp))
   obtain⟨s'',g5,g6,g7,g8⟩:=h6 ρ hF hsub P us _ r K (g2.tmp hk hv g4) trivial g1
   exact⟨s'',g5,g6,g3.trans (Heads.trans (Heads.refl _) g7),trivial⟩
  ·cases h
theorem matCells_sound{L L1:Nat}:∀(ps:List Pat) (q:Nat) {ρ0:Rho} {K:List (VV car)→Rho→Option R},matCells s2 nl0 L1 q ps ρ0 K=some r→
  MatIs T nl0 R r ρ0 K (fun ρ xs=>rhoFind L ρ=some (some L1,1)→∀P,PartOK T d s s2 R ρ P P (fun s'=>∃v,s'.lab L 0=some v) (fun _=>True) xs (instCells d L q ps)):=by
 intro ps
 induction ps with
 |nil=>
  intro q ρ0 K h
  exact⟨_,_,h,fun _ h=>h,fun ρ hF _ _ P vs s' r K hst _ hi=>⟨_,hi,hst,Heads.refl _,trivial⟩⟩
 |cons p ps ih=>
  intro q ρ0 K h
  unfold matCells at h
  split at h
  ·rename_i v hv
   obtain⟨xs,ρ1,h1,h2,h3⟩:=matP_sound (T:=T) (d:=d) (s:=s) p h
   obtain⟨ys,ρ2,h4,h5,h6⟩:=ih (q+1) h1
   refine⟨_,_,h4,fun q hq=>h5 q (h2 q hq),fun ρ hF hsub hL P us s' r K hst hhd hi=>?_⟩
   unfold instCells at hi
   rw[List.append_assoc]at hi
   obtain⟨x,s1,g1,g2,g3,g4⟩:=h3 ρ hF (fun q hq=>hsub q (h5 q hq)) P (ys++us) s' r _ hst hi
   simp only[XS.setLab_eq]at g1
   have hm:=rhoFind_mem hL
   obtain⟨v0,hv0⟩:=hhd
   obtain⟨a1,a2,a3⟩:=g2.lab (L:=L) (q:=q+2) (v:= .x x) (hF.lt hm).2 (fun h=>absurd h (hF.notkl hm)) g4.1 (.cell (.inr hL) (by exact hv) g4) (fun _=>g3 L v0 hv0)
   obtain⟨s'',g5,g6,g7,g8⟩:=h6 ρ hF hsub hL P us _ r K a1 (by obtain⟨v1,hv1⟩:=g3 L v0 hv0;exact a2 L v1 hv1) g1
   exact⟨s'',g5,g6,(g3.trans a2).trans g7,trivial⟩
  ·cases h
theorem matBx_sound:∀(l:List (Nat×Nat×List Pat)) {ρ0:Rho} {K:List (VV car)→Rho→Option R},matBx s2 nl0 l ρ0 K=some r→
  MatIs T nl0 R r ρ0 K (fun ρ xs=>∀P,PartOK T d s s2 R ρ P P (fun _=>True) (fun _=>True) xs (instBx d l)):=by
 intro l
 induction l with
 |nil=>
  intro ρ0 K h
  exact⟨_,_,h,fun _ h=>h,fun ρ hF _ P vs s' r K hst _ hi=>⟨_,hi,hst,Heads.refl _,trivial⟩⟩
 |cons x l ih=>
  intro ρ0 K h
  obtain⟨L,ty,ps⟩:=x
  unfold matBx at h
  split at h
  ·rename_i L1 hL
   split at h
   ·rename_i ty' n hv
    obtain⟨h0,h⟩:=bif_some h
    simp only[Bool.and_eq_true,Nat.beq_eq]at h0
    obtain⟨e1,e2⟩:=h0
    obtain⟨xs,ρ1,h1,h2,h3⟩:=matCells_sound (T:=T) (d:=d) (s:=s) (L:=L) ps 0 h
    obtain⟨ys,ρ2,h4,h5,h6⟩:=ih h1
    refine⟨_,_,h4,fun q hq=>h5 q (h2 q hq),fun ρ hF hsub P us s' r K hst _ hi=>?_⟩
    have hm:=hsub _ (h5 _ (h2 _ (rhoFind_mem hL)))
    have hf:=hF.find hm
    unfold instBx at hi
    simp only[XS.setLab_eq]at hi
    obtain⟨a1,a2,a3⟩:=hst.lab (L:=L) (q:=0) (v:= .sh ty ps.length) (hF.lt hm).2 (fun h=>absurd h (hF.notkl hm)) rfl (.own (.inr hf) (show s2.map 0 (.o L1)=some (.sh ty ps.length) by rw[e1,←e2];exact hv) (.same rfl)) (fun h=>by omega)
    rw[List.append_assoc]at hi
    obtain⟨s1,g1,g2,g3,_⟩:=h3 ρ hF (fun q hq=>hsub q (h5 q hq)) hf P (ys++us) _ r _ a1 ⟨_,a3⟩ hi
    obtain⟨s'',g5,g6,g7,g8⟩:=h6 ρ hF hsub P us _ r K g2 trivial g1
    exact⟨s'',g5,g6,(a2.trans g3).trans g7,trivial⟩
   ·cases h
  ·cases h
theorem matCl_sound:∀(l:List (Nat×Nat×Pat)) {ρ0:Rho} {K:List (VV car)→Rho→Option R},matCl s2 nl0 l ρ0 K=some r→(∀q∈l,q∈T.cl)→
  MatIs T nl0 R r ρ0 K (fun ρ xs=>∀P,PartOK T d s s2 R ρ P (fun L q=>P L q∧∀c∈l,¬(c.1=L∧c.2.1+2=q)) (fun s'=>∀c∈T.cl,∃v,s'.lab c.1 0=some v) (fun _=>True) xs (instCl d l)):=by
 intro l
 induction l with
 |nil=>
  intro ρ0 K h hl
  exact⟨_,_,h,fun _ h=>h,fun ρ hF _ P vs s' r K hst _ hi=>⟨_,hi,hst.mono (fun _ _ hp=>⟨hp,fun c hc=>by cases hc⟩),Heads.refl _,trivial⟩⟩
 |cons x l ih=>
  intro ρ0 K h hl
  obtain⟨L,q,p⟩:=x
  unfold matCl at h
  split at h
  ·rename_i v hv
   obtain⟨xs,ρ1,h1,h2,h3⟩:=matP_sound (T:=T) (d:=d) (s:=s) p h
   obtain⟨ys,ρ2,h4,h5,h6⟩:=ih h1 (fun q hq=>hl q (List.mem_cons_of_mem _ hq))
   refine⟨_,_,h4,fun q hq=>h5 q (h2 q hq),fun ρ hF hsub P us s' r K hst hhd hi=>?_⟩
   unfold instCl at hi
   rw[List.append_assoc]at hi
   obtain⟨x,s1,g1,g2,g3,g4⟩:=h3 ρ hF (fun q hq=>hsub q (h5 q hq)) P (ys++us) s' r _ hst hi
   simp only[XS.setLab_eq]at g1
   have hc:(L,q,p)∈T.cl:=hl _ (by simp)
   have hk:=hF.cl _ hc
   have hlt:=hF.kl hk
   obtain⟨a1,a2,a3⟩:=g2.lab' (L:=L) (q:=q+2) (v:= .x x) (Nat.lt_of_lt_of_le hlt hF.nl) (fun _=>.inl ⟨_,hc,rfl,rfl⟩) g4.1 (.cell (.inl ⟨hk,rfl,hF.old hlt⟩) (by exact hv) g4) (fun _=>by obtain⟨v0,hv0⟩:=hhd _ hc;exact g3 L v0 hv0)
   obtain⟨s'',g5,g6,g7,g8⟩:=h6 ρ hF hsub _ us _ r K a1 (fun c hc=>by obtain⟨v0,hv0⟩:=hhd c hc;exact(g3.trans a2) c.1 v0 hv0) g1
   refine⟨s'',g5,g6.mono (fun L' q' hp=>⟨hp.1.1,fun c hc=>?_⟩),(g3.trans a2).trans g7,trivial⟩
   rcases List.mem_cons.1 hc with rfl|hc
   ·exact hp.1.2
   ·exact hp.2 c hc
  ·cases h
theorem matRw_sound:∀(l:List (Nat×Nat×Nat)) {ρ0:Rho} {K:List (VV car)→Rho→Option R},matRw s2 nl0 l ρ0 K=some r→(∀q∈l,q∈T.rw)→
  ∃xs ρ1,K xs ρ1=some r∧(∀q∈ρ0,q∈ρ1)∧∀ρ,Final T nl0 ρ→(∀q∈ρ1,q∈ρ)→∀P,∀(s':XS car) (r:R) (K:XS car→Option R),StOK T d s s2 ρ P s'→instRw d l xs s' K=some r→
   ∃s'',K s''=some r∧StOK T d s s2 ρ (fun L q=>P L q∧¬(q=0∧∃c∈l,c.1=L)) s''∧Heads s' s''∧∀c∈l,∃v,s''.lab c.1 0=some v:=by
 intro l
 induction l with
 |nil=>
  intro ρ0 K h hl
  exact⟨_,ρ0,h,fun _ h=>h,fun ρ hF _ P s' r K hst hi=>⟨_,hi,hst.mono (fun _ _ hp=>⟨hp,fun⟨_,c,hc,_⟩=>by cases hc⟩),Heads.refl _,fun c hc=>by cases hc⟩⟩
 |cons x l ih=>
  intro ρ0 K h hl
  obtain⟨L,ety,t⟩:=x
  have one:∀{v v':Val car} {ρ0':Rho} {K':List (VV car)→Rho→Option R} {y:VV car},matRw s2 nl0 l ρ0' K'=some r→(∀q∈ρ0,q∈ρ0')→s2.lab L 0=some v→(K'=fun xs ρ=>K (y::xs) ρ)→
    (∀ρ,Final T nl0 ρ→(∀q∈ρ0',q∈ρ)→v'.lt T.nl=true∧SameO ρ v' v)→(∀(xs:List (VV car)) (s':XS car) {r:R} {K:XS car→Option R},instRw d ((L,ety,t)::l) (y::xs) s' K=some r→instRw d l xs (s'.labF d L 0 (some v')) K=some r)→
    ∃xs ρ1,K xs ρ1=some r∧(∀q∈ρ0,q∈ρ1)∧∀ρ,Final T nl0 ρ→(∀q∈ρ1,q∈ρ)→∀P,∀(s':XS car) (r:R) (K:XS car→Option R),StOK T d s s2 ρ P s'→instRw d ((L,ety,t)::l) xs s' K=some r→
     ∃s'',K s''=some r∧StOK T d s s2 ρ (fun L' q=>P L' q∧¬(q=0∧∃c∈(L,ety,t)::l,c.1=L')) s''∧Heads s' s''∧∀c∈(L,ety,t)::l,∃v,s''.lab c.1 0=some v:=by
   intro v v' ρ0' K' y h9 hρ hv hK' hso hin
   subst hK'
   obtain⟨xs,ρ1,h1,hρ1,h2⟩:=ih h9 (fun q hq=>hl q (List.mem_cons_of_mem _ hq))
   refine⟨_,ρ1,h1,fun q hq=>hρ1 q (hρ q hq),fun ρ hF hsub P s' r K hst hi=>?_⟩
   have hi:=hin _ _ hi
   have hc:=hl (L,ety,t) (by simp)
   have hk:=hF.rw _ hc
   have hlt:=hF.kl hk
   obtain⟨hso1,hso2⟩:=hso ρ hF (fun q hq=>hsub q (hρ1 q hq))
   obtain⟨a1,a2,a3⟩:=hst.lab' (L:=L) (q:=0) (v:=v') (Nat.lt_of_lt_of_le hlt hF.nl) (fun _=>.inr ⟨rfl,_,hc,rfl⟩) hso1 (.own (.inl ⟨hk,rfl,hF.old hlt⟩) hv hso2) (fun h=>by omega)
   obtain⟨s'',g5,g6,g7,g8⟩:=h2 ρ hF hsub _ _ r K a1 hi
   refine⟨s'',g5,g6.mono (fun L' q' hp=>⟨hp.1.1,?_⟩),a2.trans g7,fun c hc=>?_⟩
   ·rintro⟨rfl,c,hc,rfl⟩
    rcases List.mem_cons.1 hc with rfl|hc
    ·exact hp.1.2 ⟨rfl,rfl⟩
    ·exact hp.2 ⟨rfl,c,hc,rfl⟩
   ·rcases List.mem_cons.1 hc with rfl|hc
    ·exact g7 L _ a3
    ·exact g8 c hc
  unfold matRw at h
  split at h
  ·rename_i ety' t' q hv
   obtain⟨h0,h9⟩:=bif_some h
   simp only[Bool.and_eq_true,Nat.beq_eq]at h0
   obtain⟨e1,e2⟩:=h0
   subst e1;subst e2
   exact one (v':= .row ety t q) h9 (fun _ h=>h) hv rfl (fun ρ hF _=>⟨rfl,.same rfl⟩) (fun xs s' r K hi=>by simpa only[instRw,dite_true,XS.setLab_eq]using hi)
  ·rename_i q hv
   exact one (v':= .mp q) h (fun _ h=>h) hv rfl (fun ρ hF _=>⟨rfl,.same rfl⟩) (fun xs s' r K hi=>by simpa only[instRw,XS.setLab_eq]using hi)
  ·rename_i q hv
   exact one (v':= .mi q) h (fun _ h=>h) hv rfl (fun ρ hF _=>⟨rfl,.same rfl⟩) (fun xs s' r K hi=>by simpa only[instRw,XS.setLab_eq]using hi)
  ·rename_i ety' t' es q S hv
   refine one (v':= .dp ety' t' es q [] ety) h (fun q hq=>List.mem_cons_of_mem _ hq) hv rfl (fun ρ hF hsub=>?_) (fun xs s' r K hi=>by simpa only[instRw,XS.setLab_eq]using hi)
   have hmem:=hsub (ety,some S,0) (by simp)
   have hlt:=(hF.lt hmem).2
   refine⟨by simp[Val.lt,hlt],?_⟩
   exact .dp (hs:=[]) (by simp only[sig,hF.find hmem]) (fun q hq=>nomatch hq)
  ·rename_i ety' t' es q i j a S hv
   obtain⟨h0,h9⟩:=bif_some h
   rw[Nat.blt_eq]at h0
   refine one (v':= .dp ety' t' es q [(i,j,a)] ety) h9 (fun q hq=>List.mem_cons_of_mem _ hq) hv rfl (fun ρ hF hsub=>?_) (fun xs s' r K hi=>by simpa only[instRw,XS.setLab_eq]using hi)
   have hmem:=hsub (ety,some S,0) (by simp)
   have hlt:=(hF.lt hmem).2
   have ha:sig ρ a=some a:=by simp only[sig,hF.old h0]
   have hanl:=Nat.lt_of_lt_of_le h0 hF.nl
   refine⟨by simp[Val.lt,hlt,hanl],?_⟩
   have:=SameO.dp (car:=car) (ρ:=ρ) (ety:=ety') (t:=t') (es:=es) (l:=q) (hs:=[(i,j,a)]) (S:=S) (S':=ety) (by simp only[sig,hF.find hmem]) (fun q hq=>by
    simp only[List.mem_singleton]at hq
    subst hq
    exact⟨a,ha⟩)
   simpa[sig0,ha]using this
  ·rename_i kt t' e q S hv
   refine one (v':= .dm kt t' e q [] [] ety) h (fun q hq=>List.mem_cons_of_mem _ hq) hv rfl (fun ρ hF hsub=>?_) (fun xs s' r K hi=>by simpa only[instRw,XS.setLab_eq]using hi)
   have hmem:=hsub (ety,some S,0) (by simp)
   have hlt:=(hF.lt hmem).2
   refine⟨by simp[Val.lt,hlt],?_⟩
   exact .dm (hs:=[]) (zs:=[]) (by simp only[sig,hF.find hmem]) (fun q hq=>nomatch hq) (fun q hq=>nomatch hq)
  ·cases h
theorem VK.get_inj{k:VK}{v:VV car}{x:k.T car}(h:k.get v=some x):k.inj x=v:=by
 cases k with
 |i=>cases v with
  |i n=>cases h;rfl
  |_=>cases h
 |b=>cases v with
  |b n=>cases h;rfl
  |_=>cases h
 |l t=>
  cases v with
  |l t' q=>
   simp only[VK.get]at h
   split at h
   ·rename_i e;subst e;cases h;rfl
   ·cases h
  |_=>simp[VK.get]at h
 |m=>cases v with
  |m q=>cases h;rfl
  |_=>cases h
 |im=>cases v with
  |im q=>cases h;rfl
  |_=>cases h
 |d ety t es=>
  cases v with
  |d ety' t' es' q=>
   simp only[VK.get]at h
   split at h
   ·rename_i e
    subst e
    obtain⟨h1,h2⟩:=bif_some h
    simp only[Bool.and_eq_true]at h1
    cases h2
    rw[←Nat.eq_of_beq_eq_true h1.1,←eqEs_eq h1.2]
    rfl
   ·cases h
  |_=>simp[VK.get]at h
 |dh ety t es a j=>
  cases v with
  |dh ety' t' es' a' j' q i=>
   simp only[VK.get]at h
   split at h
   ·rename_i e
    subst e
    obtain⟨h1,h2⟩:=bif_some h
    simp only[Bool.and_eq_true]at h1
    cases h2
    rw[←Nat.eq_of_beq_eq_true h1.1.1.1,←eqEs_eq h1.1.1.2,←Nat.eq_of_beq_eq_true h1.1.2,←Nat.eq_of_beq_eq_true h1.2]
    rfl
   ·cases h
  |_=>simp[VK.get]at h
 |dm kt t e=>
  cases v with
  |dm kt' t' e' q=>
   simp only[VK.get]at h
   split at h
   ·rename_i e
    obtain⟨e1,e2⟩:=e
    subst e1;subst e2
    obtain⟨h1,h2⟩:=bif_some h
    cases h2
    rw[←Nat.eq_of_beq_eq_true h1]
    rfl
   ·cases h
  |_=>simp[VK.get]at h
theorem mkK_sound:∀(ks:List VK) (vs:List (VV car)) {K:VT car ks→Option R},VT.mkK ks vs K=some r→∃y,K y=some r∧VT.vals ks y=vs
 |[],[],K,h=>⟨(),h,rfl⟩
 |[],_::_,K,h=>by cases h
 |[k],[v],K,h=>by
  unfold VT.mkK at h
  split at h
  ·rename_i x hx
   exact⟨x,h,by simp only[VT.vals,VK.get_inj hx]⟩
  ·cases h
 |[k],[],K,h=>by cases h
 |[k],_::_::_,K,h=>by cases h
 |k::k'::ks,[],K,h=>by cases h
 |k::k'::ks,v::vs,K,h=>by
  unfold VT.mkK at h
  split at h
  ·rename_i x hx
   obtain⟨y,h1,h2⟩:=mkK_sound (k'::ks) vs h
   exact⟨(x,y),h1,by simp only[VT.vals,VK.get_inj hx,h2]⟩
  ·cases h
theorem keepT_sound:∀(l:List Nat) (t:PT (Nat×Option SV)) {K:PT (Nat×Option SV)→Option R},keepT s l t K=some r→∃t',K t'=some r∧∀k,t'.get k=if k∈l then s.t.get k else t.get k:=by
 intro l
 induction l with
 |nil=>intro t K h;exact⟨t,h,fun k=>by simp⟩
 |cons k0 l ih=>
  intro t K h
  unfold keepT at h
  split at h
  ·rename_i x hx
   simp only[PT.setK_set]at h
   obtain⟨t',h1,h2⟩:=ih _ h
   refine⟨t',h1,fun k=>?_⟩
   rw[h2,PT.get_set]
   by_cases e:k0=k
   ·subst e;simp[hx]
   ·simp[e,Ne.symm e]
  ·cases h
theorem keepL_sound:∀(l:List Nat) (t:PT (List (LE car))) {K:PT (List (LE car))→Option R},keepL s l t K=some r→∃t',K t'=some r∧∀k,t'.get k=if k∈l then s.o.get k else t.get k:=by
 intro l
 induction l with
 |nil=>intro t K h;exact⟨t,h,fun k=>by simp⟩
 |cons k0 l ih=>
  intro t K h
  unfold keepL at h
  split at h
  ·rename_i x hx
   simp only[PT.setK_set]at h
   obtain⟨t',h1,h2⟩:=ih _ h
   refine⟨t',h1,fun k=>?_⟩
   rw[h2,PT.get_set]
   by_cases e:k0=k
   ·subst e;simp[hx]
   ·simp[e,Ne.symm e]
  ·cases h
theorem leFind_mem{q:Nat}:∀{l:List (LE car)} {e:LE car},leFind q l=some e→e∈l∧e.sub=q:=by
 intro l
 induction l with
 |nil=>intro e h;cases h
 |cons x l ih=>
  intro e h
  rw[leFind_cons]at h
  cases c:Nat.beq x.sub q with
  |true=>rw[c,cond_true]at h;cases h;exact⟨by simp,Nat.eq_of_beq_eq_true c⟩
  |false=>rw[c,cond_false]at h;exact⟨List.mem_cons_of_mem _ (ih h).1,(ih h).2⟩
theorem namedB_iff{T:Tpl}{L q:Nat}:namedB T.cl T.rw L q=true↔Named T L q:=by
 simp only[namedB,Named,Bool.or_eq_true,Bool.and_eq_true,List.any_eq_true,Nat.beq_eq]
structure OldS(T:Tpl)(d:Nat)(s s2:XS car):Prop where
 t:∀k∈T.kt,∀e,s2.t.get k=some e→e.1≤d→s.t.get k=some e
 o:∀L∈T.kl,∀q e,¬Named T L q→s2.rec? L q=some e→e.at_≤d→s.rec? L q=some e
def Arr(T:Tpl)(d:Nat)(s s2:XS car)(R:Type)(y:VT car T.ks):Prop:=
 ∀(r:R) (K:XS car→Option R),stK T d s y K=some r→∃s' ρ,K s'=some r∧Final T s.nl ρ∧StOK T d s s2 ρ (fun _ _=>False) s'
theorem sameV_old{ρ:Rho}(hF:Final T s.nl ρ){x:SV}(h:x.lt s.nl=true):SameV ρ T.nl x x:=by
 have hm:∀(m:Nat→MV) L,x.has L=true→trM ρ m L=m L:=fun m L hL=>by
  have hlt:L<s.nl:=by
   rcases Nat.lt_or_ge L s.nl with h1|h1
   ·exact h1
   ·rw[has_lt h1 x h]at hL;cases hL
  simp only[trM,sig,hF.old hlt]
 exact⟨lt_mono hF.nl h,fun m=>⟨den_congr x (fun L hL=>hm m L hL),ok_congr x (fun L hL=>hm m L hL)⟩⟩
theorem sameO_old{ρ:Rho}(hF:Final T s.nl ρ){v:Val car}(h:v.lt s.nl=true):SameO ρ v v:=by
 have hs:∀L,L<s.nl→sig ρ L=some L:=fun L hL=>by simp only[sig,hF.old hL]
 cases v with
 |dp ety t es l hs' S=>
  simp only[Val.lt,Bool.and_eq_true,Nat.blt_eq,List.all_eq_true]at h
  have e:(hs'.map fun q=>(q.1,q.2.1,sig0 ρ q.2.2))=hs':=by
   rw[List.map_congr_left (g:=id) fun q hq=>by simp only[sig0,hs _ (h.2 q hq),Option.getD_some,id],List.map_id]
  have:=SameO.dp (car:=car) (ety:=ety) (t:=t) (es:=es) (l:=l) (hs:=hs') (hs S h.1) (fun q hq=>⟨_,hs _ (h.2 q hq)⟩)
  rw[e]at this;exact this
 |dm kt t en l hs' zs S=>
  simp only[Val.lt,Bool.and_eq_true,Nat.blt_eq,List.all_eq_true]at h
  have e:(hs'.map fun q=>(q.1,sig0 ρ q.2))=hs':=by
   rw[List.map_congr_left (g:=id) fun q hq=>by simp only[sig0,hs _ (h.1.2 q hq),Option.getD_some,id],List.map_id]
  have e2:(zs.map fun q=>(q.1,sig0 ρ q.2))=zs:=by
   rw[List.map_congr_left (g:=id) fun q hq=>by simp only[sig0,hs _ (h.2 q hq),Option.getD_some,id],List.map_id]
  have:=SameO.dm (car:=car) (kt:=kt) (t:=t) (e:=en) (l:=l) (hs:=hs') (zs:=zs) (hs S h.1.1) (fun q hq=>⟨_,hs _ (h.1.2 q hq)⟩) (fun q hq=>⟨_,hs _ (h.2 q hq)⟩)
  rw[e,e2]at this;exact this
 |_=>exact .same rfl
theorem arr_sound{T:Tpl}{d d':Nat}{s s2:XS car}(hs:Inv s)(hold:OldS T d' s s2){K:VT car T.ks→Option R}(h:arrK T d' s s2 K=some r):∃y,K y=some r∧Arr T d s s2 R y:=by
 unfold arrK at h
 obtain⟨h0,h⟩:=bif_some h
 simp only[Bool.and_eq_true,List.all_eq_true]at h0
 obtain⟨⟨hkt,hkl⟩,htpl⟩:=h0
 obtain⟨xs,ρ1,h1,_,i1⟩:=matTm_sound (T:=T) (d:=d) (s:=s) T.tm h (fun _ h=>h)
 obtain⟨ys,ρ2,h2,s2',i2⟩:=matBx_sound (T:=T) (d:=d) (s:=s) T.bx h1
 obtain⟨zs,ρ3,h3,s3',i3⟩:=matCl_sound (T:=T) (d:=d) (s:=s) T.cl h2 (fun _ h=>h)
 obtain⟨ws,ρ4,h4,s4',i4⟩:=matRw_sound (T:=T) (d:=d) (s:=s) (nl0:=s.nl) T.rw h3 (fun _ h=>h)
 obtain⟨hrho,h5⟩:=bif_some h4
 obtain⟨y,h6,h7⟩:=mkK_sound _ _ h5
 have hF:=Final.mk' htpl hrho
 refine⟨y,h6,fun r' K' hk=>?_⟩
 unfold stK at hk
 obtain⟨t,hk,ht⟩:=keepT_sound _ _ hk
 obtain⟨o,hk,ho⟩:=keepL_sound _ _ hk
 rw[h7]at hk
 have kt:∀k∈T.kt,∃e,s2.t.get k=some e∧s.t.get k=some e:=fun k hk'=>by
  have:=hkt k hk'
  unfold oldT at this
  split at this
  ·rename_i a v hv
   exact⟨_,hv,hold.t k hk' _ hv (by simpa using this)⟩
  ·cases this
 have recE:∀L q,XS.rec? (⟨t,o,T.nl⟩:XS car) L q=if L∈T.kl then s.rec? L q else none:=fun L q=>by
  simp only[XS.rec?,ho]
  by_cases e:L∈T.kl
  ·rw[if_pos e,if_pos e]
  ·rw[if_neg e,if_neg e];rfl
 have kl:∀L∈T.kl,∃l0,s.o.get L=some l0∧headOK T.cl L l0=true∧∀q e,s.rec? L q=some e→¬Named T L q→s2.rec? L q=some e:=fun L hL=>by
  have:=hkl L hL
  unfold oldL at this
  split at this
  ·rename_i l0 l e0 e1
   simp only[Bool.and_eq_true,List.all_eq_true,Bool.or_eq_true]at this
   obtain⟨a1,a2⟩:=this
   refine⟨l0,e0,a1,fun q e he hn=>?_⟩
   have he0:=he
   simp only[XS.rec?,e0]at he
   obtain⟨b1,b2⟩:=leFind_mem he
   rcases a2 e b1 with b3|b3
   ·rw[b2]at b3;exact absurd (namedB_iff.1 b3) hn
   ·rw[b2]at b3
    split at b3
    ·rename_i e2 he2
     have c1:s2.rec? L q=some e2:=by simp only[XS.rec?,e1];exact he2
     have c2:=hold.o L hL q e2 hn c1 (by simpa using b3)
     rw[he0]at c2
     cases c2
     exact c1
    ·cases b3
  ·cases this
 have head:∀L∈T.kl,(∃v,s.lab L 0=some v)∨((∀q v,s.lab L (q+2)=some v→False)∧∀c∈T.cl,c.1≠L):=fun L hL=>by
  obtain⟨l0,e0,a1,_⟩:=kl L hL
  unfold headOK at a1
  split at a1
  ·rename_i q a v hv
   exact .inl ⟨v,by simp only[XS.lab,XS.rec?,e0,hv]⟩
  ·simp only[Bool.and_eq_true,List.all_eq_true,Bool.not_eq_true',List.any_eq_false,Nat.beq_eq,Nat.blt_eq]at a1
   refine .inr ⟨fun q v hv=>?_,a1.2⟩
   simp only[XS.lab,XS.rec?,e0]at hv
   split at hv
   ·rename_i e he
    obtain⟨b1,b2⟩:=leFind_mem he
    have:=a1.1 e b1
    omega
   ·cases hv
 have start:StOK T d s s2 ρ4 (Named T) (⟨t,o,T.nl⟩:XS car):=by
  refine⟨fun k e he=>?_,fun L q e he=>?_,rfl,fun k hk'=>by rw[ht,if_pos hk'],fun L hL q _=>by rw[recE,if_pos hL],fun L q v hv=>?_⟩
  ·simp only[ht]at he
   split at he
   ·rename_i hk'
    refine⟨fun _=>he,fun x hx=>?_⟩
    obtain⟨e2,g1,g2⟩:=kt k hk'
    rw[he]at g2
    cases g2
    obtain⟨a,v⟩:=e
    cases hx
    exact⟨a,x,g1,sameV_old hF (hs.t _ _ _ he)⟩
   ·cases he
  ·rw[recE]at he
   split at he
   ·rename_i hL
    obtain⟨b1,b2⟩:=hs.o L q e he
    refine⟨Nat.lt_of_lt_of_le b1 hF.nl,fun _=>he,fun x hx=>Val.lt_mono hF.nl (b2 x hx),fun v hv hn=>?_⟩
    obtain⟨l0,_,_,g⟩:=kl L hL
    have g1:=g q e he hn
    have g2:s2.lab L q=some v:=by simp only[XS.lab,g1,hv]
    have hown:OwnL T.kl ρ4 L L:= .inl ⟨hL,rfl,hF.old b1⟩
    have hrb:∀cs,v= .rb cs→∀l,hasL l cs=true→sig ρ4 l=some l:=by
     intro cs hcs l hl
     subst hcs
     have hlt:l<s.nl:=Nat.lt_of_not_le fun h=>by have:=hasL_lt h cs (b2 _ hv);rw[hl]at this;cases this
     simp only[sig,hF.old hlt]
    match q,g2 with
    |0,g2=>exact .own hown g2 (sameO_old hF (b2 v hv))
    |1,g2=>exact .ext hown.sig g2 hrb
    |q+2,g2=>
     cases v with
     |x y=>exact .cell hown g2 (sameV_old hF (b2 _ hv))
     |_=>exact .raw hown g2 (fun x e=>by cases e)
   ·cases he
  ·have hv':=hv
   simp only[XS.lab,recE]at hv
   split at hv
   ·rename_i e he
    split at he
    ·rename_i hL
     rcases head L hL with⟨v1,g1⟩|⟨g1,_⟩
     ·refine⟨v1,?_⟩
      simp only[XS.lab,recE,if_pos hL]
      exact g1
     ·exact(g1 q v (by simp only[XS.lab,he,hv])).elim
    ·cases he
   ·cases hv
 obtain⟨s3,hk,g1,g2,_⟩:=i1 ρ4 hF (fun q hq=>s4' q (s3' q (s2' q hq))) _ _ _ r' _ start trivial hk
 obtain⟨s4,hk,g3,g4,_⟩:=i2 ρ4 hF (fun q hq=>s4' q (s3' q hq)) _ _ _ r' _ g1 trivial hk
 obtain⟨s5,hk,g5,g6,_⟩:=i3 ρ4 hF s4' _ _ _ r' _ g3 (fun c hc=>by
  have hL:=hF.cl c hc
  rcases head c.1 hL with⟨v1,e1⟩|⟨_,e1⟩
  ·exact(g2.trans g4) c.1 v1 (by simp only[XS.lab,recE,if_pos hL];exact e1)
  ·exact absurd rfl (e1 c hc)) hk
 obtain⟨s6,hk,g7,g8,_⟩:=i4 ρ4 hF (fun _ h=>h) _ _ r' _ g5 hk
 refine⟨s6,ρ4,hk,hF,g7.mono ?_⟩
 rintro L q ⟨⟨hn,n1⟩,n2⟩
 rcases hn with⟨c,hc,e1,e2⟩|⟨rfl,hr⟩
 ·exact n1 c hc ⟨e1,e2⟩
 ·exact n2 ⟨rfl,hr⟩
end
end
end Go.KX

namespace Go.KX
open Go Go.RowKit
noncomputable section
section
variable{E:Env}{R:Type}{r:R}{gl:List (Nat×Val E.G.car)}{fx:Fix}
structure OKS(E:Env)(fx:Fix)(s:XS E.G.car):Prop where
 inv:Inv s
 glo:∀p∈E.glo,p.1<s.nl
 pn:fx.pn≤s.nl
section
variable{T:Tpl}{d:Nat}{s s2 s':XS E.G.car}{ρ:Rho}
theorem StOK.oks(hs:OKS E fx s)(hF:Final T s.nl ρ)(h:StOK T d s s2 ρ (fun _ _=>False) s'):OKS E fx s':=by
 refine⟨⟨fun k a v hv=>?_,fun L q e he=>?_⟩,fun p hp=>?_,by rw[h.nl];exact Nat.le_trans hs.pn hF.nl⟩
 ·obtain⟨_,h1⟩:=h.t k _ hv
  obtain⟨_,_,_,h2⟩:=h1 v rfl
  rw[h.nl];exact h2.1
 ·obtain⟨h1,_,h2,_⟩:=h.o L q e he
  rw[h.nl];exact⟨h1,h2⟩
 ·rw[h.nl];exact Nat.lt_of_lt_of_le (hs.glo p hp) hF.nl
theorem StOK.ext(hF:Final T s.nl ρ)(h:StOK T d s s2 ρ (fun _ _=>False) s'):Ext d s s':=
 ⟨fun k x hx hd=>(h.t k x hx).1 hd,fun L q e he hd=>(h.o L q e he).2.1 hd,by rw[h.nl];exact hF.nl⟩
theorem OldS.of_ext{s3:XS E.G.car}(h:Ext (Nat.succ d) s s3):OldS T d s s3:=
 ⟨fun k _ e he hd=>h.t k e he (Nat.lt_succ_of_le hd),fun L _ q e _ he hd=>h.o L q e he (Nat.lt_succ_of_le hd)⟩
theorem StOK.old{s3:XS E.G.car}(h:StOK T d s s2 ρ (fun _ _=>False) s')(he:Ext (Nat.succ d) s' s3):OldS T d s s3:=
 ⟨fun k hk e h1 hd=>by rw[←h.kt k hk];exact he.t k e h1 (Nat.lt_succ_of_le hd),fun L hL q e hn h1 hd=>by rw[←h.kl L hL q hn];exact he.o L q e h1 (Nat.lt_succ_of_le hd)⟩
theorem SrcO.congr{car:Nat→Type}{kl:List Nat}{n L q:Nat}{g g':Map car}{v:Val car}(h:SrcO kl ρ n g L q v)(ho:∀L,g' (.o L)=g (.o L))(hx:∀L,g' (.x L)=g (.x L))(hc:∀L q,g' (.c L q)=g (.c L q)):SrcO kl ρ n g' L q v:=by
 cases h with
 |own h1 h2 h3=>exact .own h1 (by rw[ho];exact h2) h3
 |none h1=>exact .none h1
 |noneD h1 h2=>exact .noneD h1 h2
 |ext h1 h2 h3=>exact .ext h1 (by rw[hx];exact h2) h3
 |frz h1 h2=>exact .frz h1 (by rw[ho];exact h2)
 |nil h1=>exact .nil h1
 |cell h1 h2 h3=>exact .cell h1 (by rw[hc];exact h2) h3
 |raw h1 h2 h3=>exact .raw h1 (by rw[hc];exact h2) h3
theorem StOK.rel(hs:OKS E fx s)(hF:Final T s.nl ρ)(h:StOK T d s s2 ρ (fun _ _=>False) s'){b:Base}{f:Nat}{m:Nat→MV}{A:Nat→Prop}{a:Act}{w:World}(hb:b.pn≤fx.pn)(hr:Rel (cxOf E b) m A (s2.map f) a w):
  ∃m' A',Rel (cxOf E b) m' A' (s'.map f) a w:=by
 have src:∀L q v,s'.lab L q=some v→SrcO T.kl ρ T.nl (s2.map f) L q v:=fun L q v hv=>by
  simp only[XS.lab]at hv
  split at hv
  ·rename_i e he
   exact((h.o L q e he).2.2.2 v hv (fun h=>h)).congr (fun _=>rfl) (fun _=>rfl) (fun _ _=>rfl)
  ·cases hv
 have tmp:∀l i v,s'.tmp l i=some v→∃y,s2.tmp l i=some y∧SameV ρ T.nl v y:=fun l i v hv=>by
  simp only[XS.tmp]at hv
  split at hv
  ·rename_i a v' he
   subst hv
   obtain⟨a',y,h1,h2⟩:=(h.t _ _ he).2 v rfl
   exact⟨y,by simp only[XS.tmp,h1],h2⟩
  ·cases hv
 refine hr.rebuild hF.is (fun p hp=>hF.old (hs.glo p hp)) (fun L hL=>hF.old (Nat.lt_of_lt_of_le hL (Nat.le_trans hb hs.pn))) ⟨fun i v hv=>?_,fun l i v hv=>?_,fun L v hv=>src L 0 v hv,fun L v hv=>src L 1 v hv,fun L q v hv=>src L (q+2) v hv,rfl⟩ (fun L q v hv=>h.hd L q v hv)
 ·obtain⟨x,h1,rfl⟩:=Option.map_eq_some_iff.1 (show(s'.tmp f i).map Val.x=some v from hv)
  obtain⟨y,h2,h3⟩:=tmp f i x h1
  exact⟨x,y,rfl,by simp only[XS.map,h2,Option.map_some],h3⟩
 ·cases hv
end
theorem restT_sound{d:Nat}:∀(l:List Nat) (s:XS E.G.car) {K:XS E.G.car→Option R},OKS E fx s→restT d l s K=some r→∃s',K s'=some r∧OKS E fx s'∧Ext d s s'∧∀f,s'.map f=s.map f:=by
 intro l
 induction l with
 |nil=>intro s K hs h;exact⟨s,h,hs,Ext.refl _ _,fun _=>rfl⟩
 |cons k l ih=>
  intro s K hs h
  unfold restT at h
  split at h
  ·rename_i a v hv
   cases e:Nat.ble a d with
   |true=>rw[e,cond_true]at h;exact ih s hs h
   |false=>
    rw[e,cond_false]at h
    simp only[PT.setK_set]at h
    have get:∀k',(s.t.set k (d,v)).get k'=if k=k' then some (d,v)else s.t.get k':=fun k'=>PT.get_set _ _ _ _
    have tm:∀l i,XS.tmp (⟨s.t.set k (d,v),s.o,s.nl⟩:XS E.G.car) l i=s.tmp l i:=fun l i=>by
     simp only[XS.tmp,get]
     by_cases e1:k=tk l i
     ·rw[if_pos e1,←e1,hv]
     ·rw[if_neg e1]
    have hok:OKS E fx (⟨s.t.set k (d,v),s.o,s.nl⟩:XS E.G.car):=by
     refine⟨⟨fun k' a' v' hv'=>?_,hs.inv.o⟩,hs.glo,hs.pn⟩
     have hv':(s.t.set k (d,v)).get k'=some (a',some v'):=hv'
     rw[get]at hv'
     split at hv'
     ·cases hv';exact hs.inv.t k a v' hv
     ·exact hs.inv.t _ _ _ hv'
    have hex:Ext d s (⟨s.t.set k (d,v),s.o,s.nl⟩:XS E.G.car):=by
     refine⟨fun k' x hx hd=>?_,fun _ _ _ h _=>h,Nat.le_refl _⟩
     have hx:(s.t.set k (d,v)).get k'=some x:=hx
     rw[get]at hx
     split at hx
     ·cases hx;exact absurd hd (Nat.lt_irrefl d)
     ·exact hx
    obtain⟨s',h1,h2,h3,h4⟩:=ih _ hok h
    refine⟨s',h1,h2,hex.trans h3,fun f=>(h4 f).trans ?_⟩
    funext k'
    cases k' with
    |t i=>simp only[XS.map,tm]
    |u l i=>simp only[XS.map,tm]
    |_=>rfl
  ·cases h
theorem leFind_map{car:Nat→Type}{d q:Nat}:∀(l:List (LE car)),leFind q (l.map fun x=>⟨x.sub,d,x.v⟩)=(leFind q l).map fun x=>⟨x.sub,d,x.v⟩:=by
 intro l
 induction l with
 |nil=>rfl
 |cons x l ih=>
  rw[List.map_cons,leFind_cons,leFind_cons,ih]
  cases Nat.beq x.sub q<;>rfl
theorem restL_sound'{d:Nat}:∀(l:List Nat) (s:XS E.G.car) {K:XS E.G.car→Option R},OKS E fx s→restL d l s K=some r→∃s',K s'=some r∧OKS E fx s'∧Ext d s s'∧(∀f,s'.map f=s.map f)∧s'.t=s.t∧s'.nl=s.nl:=by
 intro l
 induction l with
 |nil=>intro s K hs h;exact⟨s,h,hs,Ext.refl _ _,fun _=>rfl,rfl,rfl⟩
 |cons L l ih=>
  intro s K hs h
  unfold restL at h
  split at h
  ·rename_i l0 hv
   cases e:(l0.all fun x=>Nat.ble x.at_ d)with
   |true=>rw[e,cond_true]at h;exact ih s hs h
   |false=>
    rw[e,cond_false]at h
    simp only[PT.setK_set]at h
    have rc:∀L' q,XS.rec? (⟨s.t,s.o.set L (l0.map fun x=>⟨x.sub,d,x.v⟩),s.nl⟩:XS E.G.car) L' q=if L=L' then(s.rec? L' q).map (fun x=>⟨x.sub,d,x.v⟩)else s.rec? L' q:=fun L' q=>by
     simp only[XS.rec?,PT.get_set]
     by_cases e1:L=L'
     ·subst e1
      rw[if_pos rfl,if_pos rfl,hv]
      exact leFind_map l0
     ·rw[if_neg e1,if_neg e1]
    have hok:OKS E fx (⟨s.t,s.o.set L (l0.map fun x=>⟨x.sub,d,x.v⟩),s.nl⟩:XS E.G.car):=by
     refine⟨⟨hs.inv.t,fun L' q e he=>?_⟩,hs.glo,hs.pn⟩
     rw[rc]at he
     split at he
     ·obtain⟨e2,he2,rfl⟩:=Option.map_eq_some_iff.1 he
      exact hs.inv.o L' q e2 he2
     ·exact hs.inv.o L' q e he
    have hex:Ext d s (⟨s.t,s.o.set L (l0.map fun x=>⟨x.sub,d,x.v⟩),s.nl⟩:XS E.G.car):=by
     refine⟨fun _ _ h _=>h,fun L' q e he hd=>?_,Nat.le_refl _⟩
     rw[rc]at he
     split at he
     ·obtain⟨e2,_,rfl⟩:=Option.map_eq_some_iff.1 he
      exact absurd hd (Nat.lt_irrefl d)
     ·exact he
    have lb:∀L' q,XS.lab (⟨s.t,s.o.set L (l0.map fun x=>⟨x.sub,d,x.v⟩),s.nl⟩:XS E.G.car) L' q=s.lab L' q:=fun L' q=>by
     simp only[XS.lab,rc]
     by_cases e1:L=L'
     ·rw[if_pos e1];cases s.rec? L' q<;>rfl
     ·rw[if_neg e1]
    obtain⟨s',h1,h2,h3,h4,h5,h6⟩:=ih _ hok h
    refine⟨s',h1,h2,hex.trans h3,fun f=>(h4 f).trans ?_,h5,h6⟩
    funext k'
    cases k' with
    |o L=>exact lb L 0
    |x L=>exact lb L 1
    |c L q=>exact lb L (q+2)
    |_=>rfl
  ·cases h
theorem restL_sound{d:Nat}(l:List Nat)(s:XS E.G.car){K:XS E.G.car→Option R}(hs:OKS E fx s)(h:restL d l s K=some r):∃s',K s'=some r∧OKS E fx s'∧Ext d s s'∧∀f,s'.map f=s.map f:=by
 obtain⟨s',h1,h2,h3,h4,_⟩:=restL_sound' l s hs h
 exact⟨s',h1,h2,h3,h4⟩
end
end
end Go.KX

namespace Go.KX
open Go Go.RowKit
noncomputable section
section
variable{car:Nat→Type}
theorem map_rec{s:XS car}{k:Key}{L:Nat}(hk:k.lab=some L):s.map 0 k=match recK s k with|some e=>e.v|none=>none:=by
 cases k<;>first|(cases hk;done)|rfl
def diffV(d:Nat)(s0 s':XS car)(k:Key)(v:Option (Val car)):Option (Val car):=
 match recK s' k with
 |some e=>if e.at_≤d then v else e.v
 |none=>match recK s0 k with
  |some _=>none
  |none=>v
def newV(s':XS car)(k:Key)(v:Option (Val car)):Option (Val car):=
 match recK s' k with
 |some e=>e.v
 |none=>v
theorem diffK_get{d:Nat}{s0 s':XS car}{g:Map car}{k:Key}:∀{ks:List Key},upd (diffK d s0 s' ks) g k=
  if k∈ks then diffV d s0 s' k (g k)else g k:=by
 intro ks
 induction ks with
 |nil=>rfl
 |cons x r ih=>
  by_cases hx:x=k
  ·subst hx
   rw[if_pos List.mem_cons_self]
   simp only[diffK,diffV]
   simp only[diffV]at ih
   cases he:recK s' x with
   |some e=>
    simp only[he]at ih⊢
    cases hd:Nat.ble e.at_ d with
    |true=>
     have hd':e.at_≤d:=Nat.le_of_ble_eq_true hd
     simp only[cond_true,ih,if_pos hd',ite_self]
    |false=>
     have hd':¬e.at_≤d:=fun h=>by rw[Nat.ble_eq_true_of_le h]at hd;cases hd
     simp only[cond_false,upd_cons,if_true,if_neg hd']
   |none=>
    simp only[he]at ih⊢
    cases h0:recK s0 x with
    |some e=>simp only[upd_cons,if_true]
    |none=>simp only[h0]at ih⊢;rw[ih,ite_self]
  ·have hm:(k∈x::r)=(k∈r):=by simp[Ne.symm hx]
   simp only[hm]
   rw[←ih]
   simp only[diffK]
   split
   ·cases hd:Nat.ble _ d with
    |true=>rfl
    |false=>simp only[cond_false,upd_cons,if_neg hx]
   ·split
    ·simp only[upd_cons,if_neg hx]
    ·rfl
theorem newK_get{s':XS car}{g:Map car}{k:Key}:∀{ks:List Key},upd (newK s' ks) g k=if k∈ks then newV s' k (g k)else g k:=by
 intro ks
 induction ks with
 |nil=>rfl
 |cons x r ih=>
  by_cases hx:x=k
  ·subst hx
   rw[if_pos List.mem_cons_self]
   simp only[newK,newV]
   simp only[newV]at ih
   cases he:recK s' x with
   |some e=>simp only[upd_cons,if_true]
   |none=>simp only[he]at ih⊢;rw[ih,ite_self]
  ·have hm:(k∈x::r)=(k∈r):=by simp[Ne.symm hx]
   simp only[hm]
   rw[←ih]
   simp only[newK]
   split
   ·simp only[upd_cons,if_neg hx]
   ·rfl
theorem mem_cellKeys'{L:Nat}{k:Key}:∀{n o:Nat},k∈cellKeys L o n↔∃q,o≤q∧q<o+n∧k= .c L q:=by
 intro n
 induction n with
 |zero=>intro o;simp[cellKeys];intros;omega
 |succ n ih=>
  intro o
  simp only[cellKeys,List.mem_cons,ih]
  constructor
  ·rintro(rfl|⟨q,h1,h2,rfl⟩)
   ·exact⟨o,by omega,by omega,rfl⟩
   ·exact⟨q,by omega,by omega,rfl⟩
  ·rintro⟨q,h1,h2,rfl⟩
   by_cases e:q=o
   ·subst e;exact .inl rfl
   ·exact .inr ⟨q,by omega,by omega,rfl⟩
theorem mem_keysN{L n:Nat}{k:Key}:k∈keysN L n↔k= .o L∨k= .x L∨∃q,q<n∧k= .c L q:=by
 simp only[keysN,List.mem_cons,mem_cellKeys']
 constructor
 ·rintro(h|h|⟨q,_,h2,h3⟩)
  ·exact .inl h
  ·exact .inr (.inl h)
  ·exact .inr (.inr ⟨q,by omega,h3⟩)
 ·rintro(h|h|⟨q,h2,h3⟩)
  ·exact .inl h
  ·exact .inr (.inl h)
  ·exact .inr (.inr ⟨q,by omega,by omega,h3⟩)
theorem keysN_lab{L n:Nat}{k:Key}(h:k∈keysN L n):k.lab=some L:=by
 rcases mem_keysN.1 h with rfl|rfl|⟨q,_,rfl⟩<;>rfl
theorem le_maxN{a b:Nat}:a≤maxN a b∧b≤maxN a b:=by
 unfold maxN
 cases e:Nat.ble a b with
 |true=>exact⟨Nat.le_of_ble_eq_true e,Nat.le_refl _⟩
 |false=>
  refine⟨Nat.le_refl _,?_⟩
  rcases Nat.le_total a b with h|h
  ·rw[Nat.ble_eq_true_of_le h]at e;cases e
  ·exact h
theorem mem_rangeN{L:Nat}:∀{k n:Nat},L∈rangeN n k↔n≤L∧L<n+k:=by
 intro k
 induction k with
 |zero=>intro n;simp[rangeN]
 |succ k ih=>intro n;simp only[rangeN,List.mem_cons,ih];omega
theorem mem_keysA{s0 s':XS car}{ls:List Nat}{k:Key}:k∈keysA s0 s' ls↔∃L∈ls,k∈keysN L (maxN (szL s0 L) (szL s' L)):=by
 simp[keysA,List.mem_flatMap]
theorem mem_keysW{s':XS car}{n j:Nat}{k:Key}:k∈keysW s' n j↔∃L,(n≤L∧L<n+j)∧k∈keysN L (szL s' L):=by
 simp[keysW,List.mem_flatMap,mem_rangeN]
end
section
variable{E:Env}{b:Base}{m m':Nat→MV}{A A':Nat→Prop}{g:Map E.G.car}{a:Act}{w w':World}{s0 s':XS E.G.car}{ls:List Nat}
theorem Rel.cellLt(h:Rel (cxOf E b) m A g a w){L q:Nat}{v:Val E.G.car}(hv:g (.c L q)=some v):∃ty n,g (.o L)=some (.sh ty n)∧q<n:=by
 obtain⟨ty,n,h1⟩:=h.cell L q v hv
 refine⟨ty,n,h1,?_⟩
 have h2:=h.ent _ _ hv
 obtain⟨cur,h3,h4⟩:=h.ent _ _ h1
 cases v with
 |x y=>
  obtain⟨⟨cur',ty',h5,h6⟩,_⟩:=h2
  rw[h4]at h5;cases h5
  rw[←h3];exact(Array.getElem?_eq_some_iff.1 h6).1
 |_=>exact h2.elim
structure PartOf(M:Map E.G.car)(n:Nat)(ls:List Nat)(s0:XS E.G.car):Prop where
 t:s0.t= .e
 nl:s0.nl=n
 o:∀k L,k.lab=some L→L∈ls→s0.map 0 k=M k
 out:∀k L,k.lab=some L→L∉ls→s0.map 0 k=none
 ok:okLabs s0 ls=true
theorem PartOf.lt{M:Map E.G.car}{n:Nat}(hp:PartOf M n ls s0)(hi:Inv s0){L q:Nat}{v:Val E.G.car}(hv:s0.lab L q=some v):L<n:=by
 simp only[XS.lab]at hv
 split at hv
 ·rename_i e he
  have:=(hi.o L q e he).1
  rw[hp.nl]at this;exact this
 ·cases hv
theorem PartOf.cell{M:Map E.G.car}{n:Nat}(hp:PartOf M n ls s0){L q:Nat}{v:Val E.G.car}(hv:s0.map 0 (.c L q)=some v):L∈ls∧∃ty k,s0.map 0 (.o L)=some (.sh ty k)∧q<k∧szL s0 L=k:=by
 have hL:L∈ls:=by
  apply Classical.byContradiction
  intro h
  rw[hp.out _ L rfl h]at hv;cases hv
 refine⟨hL,?_⟩
 have h1:=List.all_eq_true.1 hp.ok L hL
 have hv':s0.lab L (q+2)=some v:=hv
 simp only[XS.lab,XS.rec?]at hv'
 cases hg:s0.o.get L with
 |none=>rw[hg]at hv';cases hv'
 |some l=>
  rw[hg]at hv' h1
  simp only at hv' h1
  cases he:leFind (q+2) l with
  |none=>rw[he]at hv';cases hv'
  |some e=>
   obtain⟨h2,h3⟩:=leFind_mem he
   have h4:=List.all_eq_true.1 h1 e h2
   rw[h3]at h4
   have h5:q+2<2+szL s0 L:=by
    simp only[Nat.blt_eq]at h4
    exact h4
   have h6:q<szL s0 L:=by omega
   have h7:s0.map 0 (.o L)=s0.lab L 0:=rfl
   rw[h7]
   cases h8:s0.lab L 0 with
   |none=>simp only[szL,h8]at h6;omega
   |some u=>
    cases u with
    |sh ty k=>exact⟨ty,k,rfl,by simpa only[szL,h8]using h6,by simp only[szL,h8]⟩
    |_=>simp only[szL,h8]at h6;omega
theorem PartOf.key{M:Map E.G.car}{n:Nat}(hp:PartOf M n ls s0){k:Key}{v:Val E.G.car}(hv:s0.map 0 k=some v):∃L,k.lab=some L∧L∈ls∧∀s':XS E.G.car,k∈keysA s0 s' ls:=by
 have hk:∃L,k.lab=some L:=by
  cases k with
  |t i=>simp only[XS.map,XS.tmp,hp.t]at hv;cases hv
  |u l i=>cases hv
  |a=>cases hv
  |c L q=>exact⟨L,rfl⟩
  |o L=>exact⟨L,rfl⟩
  |x L=>exact⟨L,rfl⟩
 obtain⟨L,hL⟩:=hk
 have hm:L∈ls:=by
  apply Classical.byContradiction
  intro h
  rw[hp.out _ L hL h]at hv;cases hv
 refine⟨L,hL,hm,fun s'=>mem_keysA.2 ⟨L,hm,mem_keysN.2 ?_⟩⟩
 cases k with
 |o L'=>cases hL;exact .inl rfl
 |x L'=>cases hL;exact .inr (.inl rfl)
 |c L' q=>
  cases hL
  obtain⟨_,ty,k,_,h2,h3⟩:=hp.cell hv
  exact .inr (.inr ⟨q,Nat.lt_of_lt_of_le (by rw[h3];exact h2) le_maxN.1,rfl⟩)
 |_=>cases hL
theorem PartOf.enter{M:Map E.G.car}{n:Nat}(hp:PartOf M n ls s0)(h:Rel (cxOf E b) m A g a w)(hr:∀k∈keysA s0 s' ls,g k=M k):
  Rel (cxOf E (inBase b n m A (s0.map 0) w)) m A (s0.map 0) ⟨#[],[]⟩ w:=by
 refine h.sub (fun k v hv=>?_) (fun L o v hv=>?_)
 ·obtain⟨L,h1,h2,h3⟩:=hp.key hv
  exact⟨by rw[hr k (h3 s'),←hp.o k L h1 h2];exact hv,L,h1⟩
 ·obtain⟨_,ty,k,h1,_⟩:=hp.cell hv
  exact⟨_,h1⟩
theorem PartOf.leave{M:Map E.G.car}{n d:Nat}(hp:PartOf M n ls s0)(hi0:Inv s0)(hi:Inv s')(hx:Ext (Nat.succ d) s0 s')(hls:∀L∈ls,L<n)(h:Rel (cxOf E b) m A g a w)
  (h':Rel (cxOf E (inBase b n m A (s0.map 0) w)) m' A' (s'.map 0) ⟨#[],[]⟩ w') (hr:∀k∈keysA s0 s' ls,g k=M k) (hnew:∀L,n≤L→L<s'.nl→Free (cxOf E b) L g):
  ∃m'',(∀L,L<s'.nl→m'' L=m' L)∧(∀L,¬(n≤L∧L<s'.nl)→m'' L=m L)∧Rel (cxOf E b) m'' A' (upd (diffK d s0 s' (keysA s0 s' ls)++newK s' (keysW s' s0.nl (s'.nl-s0.nl))) g) a w':=by
 have hnn:n≤s'.nl:=by rw[←hp.nl];exact hx.nl
 have hg0:∀k L,k.lab=some L→L∈ls→k∈keysA s0 s' ls→g k=s0.map 0 k:=fun k L h1 h2 h3=>by rw[hr k h3,hp.o k L h1 h2]
 have hup:∀k,upd (diffK d s0 s' (keysA s0 s' ls)++newK s' (keysW s' s0.nl (s'.nl-s0.nl))) g k=
   if k∈keysA s0 s' ls then diffV d s0 s' k (upd (newK s' (keysW s' s0.nl (s'.nl-s0.nl))) g k)else upd (newK s' (keysW s' s0.nl (s'.nl-s0.nl))) g k:=fun k=>by
  rw[upd_append,diffK_get]
 have hW:∀{k L},k.lab=some L→k∈keysW s' s0.nl (s'.nl-s0.nl)→n≤L∧L<s'.nl:=fun{k L} h1 h2=>by
  obtain⟨L',h3,h4⟩:=mem_keysW.1 h2
  rw[keysN_lab h4]at h1;cases h1
  rw[hp.nl]at h3
  omega
 have hAk:∀{k L},k.lab=some L→k∈keysA s0 s' ls→L∈ls:=fun{k L} h1 h2=>by
  obtain⟨L',h3,h4⟩:=mem_keysA.1 h2
  rw[keysN_lab h4]at h1;cases h1
  exact h3
 have hgc:∀{L q},L∈ls→szL s0 L≤q→g (.c L q)=none:=fun{L q} h1 h2=>by
  cases e:g (.c L q)with
  |none=>rfl
  |some v=>
   obtain⟨ty,k,h3,h4⟩:=h.cellLt e
   have h5:Key.o L∈keysA s0 s' ls:=mem_keysA.2 ⟨L,h1,mem_keysN.2 (.inl rfl)⟩
   rw[hg0 _ L rfl h1 h5]at h3
   have h6:s0.lab L 0=some (.sh ty k):=h3
   simp only[szL,h6]at h2
   omega
 have hsc:∀{L q},szL s' L≤q→s'.map 0 (.c L q)=none:=fun{L q} h2=>by
  cases e:s'.map 0 (.c L q)with
  |none=>rfl
  |some v=>
   obtain⟨ty,k,h3,h4⟩:=h'.cellLt e
   have h6:s'.lab L 0=some (.sh ty k):=h3
   simp only[szL,h6]at h2
   omega
 have hgn:∀{k L},k.lab=some L→n≤L→L<s'.nl→g k=none:=fun{k L} h1 h2 h3=>by
  cases e:g k with
  |none=>rfl
  |some v=>
   have:=(hnew L h2 h3).1 k
   rw[e]at this
   cases k<;>first|(cases h1;done)|(cases h1;simp[mentions,keyHas]at this)
 refine h.back h' (S:=fun L=>L∈ls) (n':=s'.nl) (fun L v hv=>?_) (fun L v hv=>?_) hls (fun L hL=>?_) hnn (fun k L hk hM=>?_) (fun k L hk hM=>?_) (fun k hk=>?_) hnew (fun k v L L' hv hk _ hm=>?_)
 ·apply Classical.byContradiction
  intro hn
  rw[hp.out _ L rfl hn]at hv;cases hv
 ·obtain⟨L',h1,h2,h3⟩:=hp.key hv
  cases h1
  rw[hg0 _ L rfl h2 (h3 s')];exact hv
 ·exact hg0 _ L rfl hL (mem_keysA.2 ⟨L,hL,mem_keysN.2 (.inl rfl)⟩)
 ·rw[hup]
  rcases hM with hM|⟨h1,h2⟩
  ·have hnW:k∉keysW s' s0.nl (s'.nl-s0.nl):=fun h3=>by
    have:=(hW hk h3).1
    have:=hls L hM
    omega
   rw[newK_get,if_neg hnW]
   by_cases hA:k∈keysA s0 s' ls
   ·rw[if_pos hA,hg0 k L hk hM hA,map_rec hk,map_rec hk,diffV]
    cases he:recK s' k with
    |some e=>
     simp only
     by_cases hd:e.at_≤d
     ·rw[if_pos hd]
      have:recK s0 k=some e:=by
       cases k with
       |o L'=>exact hx.o L' 0 e he (by omega)
       |x L'=>exact hx.o L' 1 e he (by omega)
       |c L' q=>exact hx.o L' (q+2) e he (by omega)
       |_=>cases hk
      rw[this]
     ·rw[if_neg hd]
    |none=>
     simp only
     cases h0:recK s0 k with
     |some e=>rfl
     |none=>rfl
   ·rw[if_neg hA]
    have:∃q,k= .c L q∧maxN (szL s0 L) (szL s' L)≤q:=by
     cases k with
     |o L'=>cases hk;exact absurd (mem_keysA.2 ⟨L,hM,mem_keysN.2 (.inl rfl)⟩) hA
     |x L'=>cases hk;exact absurd (mem_keysA.2 ⟨L,hM,mem_keysN.2 (.inr (.inl rfl))⟩) hA
     |c L' q=>
      cases hk
      refine⟨q,rfl,?_⟩
      rcases Nat.lt_or_ge q (maxN (szL s0 L) (szL s' L))with h3|h3
      ·exact absurd (mem_keysA.2 ⟨L,hM,mem_keysN.2 (.inr (.inr ⟨q,h3,rfl⟩))⟩) hA
      ·exact h3
     |_=>cases hk
    obtain⟨q,rfl,h3⟩:=this
    have:=le_maxN (a:=szL s0 L) (b:=szL s' L)
    rw[hgc hM (by omega),hsc (by omega)]
  ·have hnA:k∉keysA s0 s' ls:=fun h3=>by
    have:=hls L (hAk hk h3)
    omega
   rw[if_neg hnA,newK_get]
   by_cases hw:k∈keysW s' s0.nl (s'.nl-s0.nl)
   ·rw[if_pos hw,map_rec hk,newV]
    cases he:recK s' k with
    |some e=>rfl
    |none=>exact hgn hk h1 h2
   ·rw[if_neg hw,hgn hk h1 h2]
    have hr':s0.nl≤L∧L<s0.nl+(s'.nl-s0.nl):=by rw[hp.nl];omega
    cases k with
    |o L'=>cases hk;exact absurd (mem_keysW.2 ⟨L,hr',mem_keysN.2 (.inl rfl)⟩) hw
    |x L'=>cases hk;exact absurd (mem_keysW.2 ⟨L,hr',mem_keysN.2 (.inr (.inl rfl))⟩) hw
    |c L' q=>
     cases hk
     refine(hsc ?_).symm
     rcases Nat.lt_or_ge q (szL s' L)with h3|h3
     ·exact absurd (mem_keysW.2 ⟨L,hr',mem_keysN.2 (.inr (.inr ⟨q,h3,rfl⟩))⟩) hw
     ·exact h3
    |_=>cases hk
 ·rw[hup,newK_get,if_neg (fun h3=>hM (.inl (hAk hk h3))),if_neg (fun h3=>hM (.inr (hW hk h3)))]
 ·have h1:k∉keysA s0 s' ls:=fun h3=>by
   obtain⟨L',_,h4⟩:=mem_keysA.1 h3
   rw[keysN_lab h4]at hk;cases hk
  have h2:k∉keysW s' s0.nl (s'.nl-s0.nl):=fun h3=>by
   obtain⟨L',_,h4⟩:=mem_keysW.1 h3
   rw[keysN_lab h4]at hk;cases hk
  rw[hup,newK_get,if_neg h1,if_neg h2]
 ·rcases Nat.lt_or_ge L' s'.nl with h1|h1
  ·exact h1
  ·have:=hi.free (f:=0) h1 k
   rw[hv,hm]at this;cases this
end
end
end Go.KX

namespace Go.KX
open Go Go.RowKit
noncomputable section
section
variable{E:Env}{R:Type}{r:R}{b:Base}{o:Oper}{s:Map E.G.car}
variable{d:Nat}{type:TypeId}{pos:String}{after:Array Edge}{guard:Option (Nat×Bool)}
theorem nthH_spec{α:Type}:∀{n:Nat} {l:List α} {a c:List α} {y:α},nthH n l=some (a,y,c)→l=a++y::c:=by
 intro n
 induction n with
 |zero=>
  intro l a c y h
  cases l with
  |nil=>simp[nthH]at h
  |cons x l=>simp only[nthH,Option.some.injEq,Prod.mk.injEq]at h;obtain⟨rfl,rfl,rfl⟩:=h;rfl
 |succ n ih=>
  intro l a c y h
  cases l with
  |nil=>simp[nthH]at h
  |cons x l=>
   simp only[nthH]at h
   split at h
   ·rename_i a' y' b' e
    simp only[Option.some.injEq,Prod.mk.injEq]at h
    obtain⟨rfl,rfl,rfl⟩:=h
    rw[ih e];rfl
   ·cases h
theorem apartK_so{i:Int}{j:Nat}:∀{hs:List (Int×Nat×Nat)} {x:Option R},0≤i→apartK i j hs x=some r→x=some r∧∀p∈hs,¬(p.1.toNat=i.toNat∧p.2.1=j):=by
 intro hs
 induction hs with
 |nil=>intro x _ h;exact⟨h,fun p hp=>nomatch hp⟩
 |cons q hs ih=>
  intro x h0 h
  obtain⟨i',j',a⟩:=q
  simp only[apartK]at h
  cases e:Nat.beq j' j with
  |true=>
   rw[e]at h
   obtain⟨h1,h2⟩:=chk_so h
   obtain⟨h3,h4⟩:=ih h0 h2
   refine⟨h3,fun p hp=>?_⟩
   rcases List.mem_cons.1 hp with rfl|hp
   ·rintro⟨h5,_⟩;exact h1.2 (by have:=h1.1;simp only at h5;omega)
   ·exact h4 p hp
  |false=>
   rw[e]at h
   obtain⟨h3,h4⟩:=ih h0 h
   refine⟨h3,fun p hp=>?_⟩
   rcases List.mem_cons.1 hp with rfl|hp
   ·rintro⟨_,h5⟩;simp only at h5;subst h5;rw[Nat.beq_refl]at e;cases e
   ·exact h4 p hp
theorem holeAt_here{i j a:Nat}{idx:Int}{h1 h2:List (Int×Nat×Nat)}{n:Nat}(h:HolesOK n (h1++(idx,j,a)::h2))(hi:idx.toNat=i):holeAt i j (h1++(idx,j,a)::h2)=some a:=by
 obtain⟨_,hp,_⟩:=pairwise_mid h.ne
 rw[holeAt_append,holeAt_none (fun p hp'=>by have:=hp p hp';rw[←hi];exact this)]
 simp[holeAt,hi]
theorem op_dpIx{ty L sz n:Nat}{x y:Operand}{u:SV}{k:IntKind}{i:Int}(hN:d<b.N)(hx:Ev E s x (.h L))(hy:Ev E s y u)(hu:∀m,den m u= .int k i)
  (hn:s (.x L)=some (.ln n)) (h:sliceSz E.P ty=some sz) (h0:0≤i∧i<(n:Int)):
  OpRun (cxOf E b) ⟨some d,.indexAddr ty x y,type,pos,after,guard⟩ s ⟨.x L::(okeys x++okeys y),[(.t d,some (.x (.e L i sz 0)))],[]⟩:=
 op_pure rfl hN (by simp) fun m A a w g hr hrel=>by
  have e1:=(hx.eval hrel (fun k hk=>hr k (by simp[hk]))).1
  have e2:=(hy.eval hrel (fun k hk=>hr k (by simp[hk]))).1
  rw[hu]at e2
  have hat:(m L).n=n∧(n≠0→(m L).p=some ⟨(m L).b,0,none⟩):=hrel.ent _ _ ((hr (.x L) (by simp)).trans hn)
  have hp:=hat.2 (by omega)
  have h1:i<((m L).n:Int):=by rw[hat.1];exact h0.2
  refine⟨⟨h0.1,h1⟩,?_⟩
  simp[execOp,e1,e2,den,hp,run_indexAt h h0.1 h1,elemAddr]
theorem op_dpIx2{ty L sz ety t S:Nat}{es:List (Option Nat)}{l:List (E.G.car t)}{hs:List (Int×Nat×Nat)}{x y:Operand}{u:SV}{k:IntKind}{i:Int}(hN:d<b.N)(hx:Ev E s x (.h L))(hy:Ev E s y u)(hu:∀m,den m u= .int k i)
  (hn:s (.o L)=some (.dp ety t es l hs S)) (h:sliceSz E.P ty=some sz) (h0:0≤i∧i<(l.length:Int)):
  OpRun (cxOf E b) ⟨some d,.indexAddr ty x y,type,pos,after,guard⟩ s ⟨.o L::(okeys x++okeys y),[(.t d,some (.x (.e L i sz 0)))],[]⟩:=
 op_pure rfl hN (by simp) fun m A a w g hr hrel=>by
  have e1:=(hx.eval hrel (fun k hk=>hr k (by simp[hk]))).1
  have e2:=(hy.eval hrel (fun k hk=>hr k (by simp[hk]))).1
  rw[hu]at e2
  obtain⟨⟨hn1,hn2⟩,_⟩:=hrel.ent _ _ ((hr (.o L) (by simp)).trans hn)
  have hp:(m L).p=some ⟨(m L).b,0,none⟩:=by
   rcases hn2 with⟨_,hl,_⟩|⟨_,hp,_⟩
   ·subst hl;simp at h0;omega
   ·exact hp
  have h1:i<((m L).n:Int):=by rw[hn1];exact h0.2
  refine⟨⟨h0.1,h1⟩,?_⟩
  simp[execOp,e1,e2,den,hp,run_indexAt h h0.1 h1,elemAddr]
theorem op_dpHole{ty L t ety S j a:Nat}{x:Operand}{i i0:Int}{es:List (Option Nat)}{l:List (E.G.car t)}{hs h1 h2:List (Int×Nat×Nat)}(hN:d<b.N)(hx:Ev E s x (.e L i (E.G.sz t) j))
  (hL:s (.o L)=some (.dp ety t es l hs S)) (hsh:shapeOf E.P ty=some none) (hh:hs=h1++(i0,j,a)::h2) (hi:i=i0) (hj:j<E.G.sz t):
  OpRun (cxOf E b) ⟨some d,.load ty x,type,pos,after,guard⟩ s ⟨.o L::okeys x,[(.t d,some (.x (.h a)))],[]⟩:=
 op_pure rfl hN (by simp) fun m A ac w g hr hrel=>by
  obtain⟨e1,k1⟩:=hx.eval hrel (fun k hk=>hr k (by simp[hk]))
  obtain⟨⟨hlen,hrow⟩,_,hho⟩:=hrel.ent _ _ ((hr (.o L) (by simp)).trans hL)
  obtain⟨k2,k3⟩:=k1
  rw[hlen]at k3
  subst hi
  rcases hrow with⟨_,hl,_⟩|⟨_,hp,cur,hc,hsz,hle,hin⟩
  ·subst hl;simp at k3;omega
  ·have hx1:l[i.toNat]?=some (l.getD i.toNat (E.G.dft t)):=getD_some k2 k3
   obtain⟨cv,hcv⟩:∃cv,(E.G.enc t (l.getD i.toNat (E.G.dft t)))[j]?=some cv:=⟨_,List.getElem?_eq_getElem (by rw[E.G.hsz];exact hj)⟩
   obtain⟨u,hu,hsub⟩:=hin _ _ hx1 j cv hcv
   rw[hh]at hsub hho
   rw[holeAt_here hho rfl]at hsub
   obtain⟨h3,_⟩:=hsub
   subst h3
   refine⟨trivial,?_⟩
   have hcell:w.cell? ⟨(m L).b,i.toNat*E.G.sz t+j,none⟩=some (den m (.h a)):=by
    simp only[World.cell?,hc]
    simpa using hu
   have h9:=run_load_one hsh hcell
   simp only[den]at h9
   simp[execOp,e1,den,hp,elemAddr,Instr.loadAt,Instr.sureAddr,h9]
theorem op_rbLoad{ty L o':Nat}{x:Operand}{cs:List SV}{y:SV}(hN:d<b.N)(hx:Ev E s x (.p L o'))(hL:s (.x L)=some (.rb cs))(hsh:shapeOf E.P ty=some none)(hy:cs[o']?=some y):
  OpRun (cxOf E b) ⟨some d,.load ty x,type,pos,after,guard⟩ s ⟨.x L::okeys x,[(.t d,some (.x y))],[]⟩:=
 op_pure rfl hN (by simp) fun m A ac w g hr hrel=>by
  obtain⟨e1,_⟩:=hx.eval hrel (fun k hk=>hr k (by simp[hk]))
  obtain⟨_,h2,h3⟩:=hrel.ent _ _ ((hr (.x L) (by simp)).trans hL)
  refine⟨okL_iff.1 h2 y (List.mem_of_getElem? hy),?_⟩
  have h9:=run_load_one hsh (h3 o' y hy)
  simp[execOp,e1,den,Instr.loadAt,Instr.sureAddr,h9]
theorem op_dpOpen{ty L t ety S j N S' e' t':Nat}{x:Operand}{i:Int}{es:List (Option Nat)}{l:List (E.G.car t)}{hs:List (Int×Nat×Nat)}{q:List (E.G.car t')}{nw:List Nat}(hN:d<b.N)(hx:Ev E s x (.e L i (E.G.sz t) j))
  (hL:s (.o L)=some (.dp ety t es l hs S)) (hsh:shapeOf E.P ty=some none) (hcv:(E.G.enc t (l.getD i.toNat (E.G.dft t)))[j]?=some (.sl t' q)) (he:es.getD j none=some e') (hno:0≤i→∀p∈hs,¬(p.1.toNat=i.toNat∧p.2.1=j)) (hnN:N∈nw) (hnS:S'∈nw) (hNS:N≠S'):
  OpRun (cxOf E b) ⟨some d,.load ty x,type,pos,after,guard⟩ s ⟨.o L::okeys x,(.t d,some (.x (.h N)))::[(.o N,some (.row e' t' q)),(.o L,some (.dp ety t es l ((i,j,N)::hs) S'))],nw⟩:=
 op_gen rfl hN (fun _ h=>by cases h) fun m A ac w g hr hf hrel=>by
  obtain⟨e1,k1⟩:=hx.eval hrel (fun k hk=>hr k (by simp[hk]))
  have hgL:=(hr (.o L) (by simp)).trans hL
  obtain⟨⟨hlen,hrow⟩,_,hho⟩:=hrel.ent _ _ hgL
  obtain⟨k2,k3⟩:=k1
  rw[hlen]at k3
  have hx1:l[i.toNat]?=some (l.getD i.toNat (E.G.dft t)):=getD_some k2 k3
  obtain⟨m',h1,h2,cur,h3,h4,h5⟩:=hrel.openRow hgL hx1 k2 hcv (hno k2) he (hf N hnN) (hf S' hnS) hNS
  refine⟨m',A,w,?_,trivial,h1⟩
  have hcell:w.cell? ⟨(m L).b,i.toNat*E.G.sz t+j,none⟩=some (den m' (.h N)):=by
   simp only[World.cell?,h3]
   simpa using h5
  have h9:=run_load_one hsh hcell
  simp only[den]at h9
  simp[execOp,e1,den,h4,elemAddr,Instr.loadAt,Instr.sureAddr,h9]
theorem op_dpStore{ty L t ety S j a N S' e' t':Nat}{x y:Operand}{i i0:Int}{es:List (Option Nat)}{l:List (E.G.car t)}{hs h1 h2:List (Int×Nat×Nat)}{x':E.G.car t}{q:List (E.G.car t')}{nw:List Nat}(hx:Ev E s x (.e L i (E.G.sz t) j))(hy:Ev E s y (.h N))
  (hL:s (.o L)=some (.dp ety t es l hs S)) (hgN:s (.o N)=some (.row e' t' q)) (hsz:sizeIn E.P ty=some 1) (hh:hs=h1++(i0,j,a)::h2) (hi:i=i0) (hj:j<E.G.sz t) (he:es.getD j none=some e') (hfl:E.G.flat t'=true)
  (hdec:E.G.dec t (putAt j [CV.sl t' q] (E.G.enc t (l.getD i0.toNat (E.G.dft t))))=some x') (hnS:S'∈nw):
  OpRun (cxOf E b) ⟨none,.store ty x y,type,pos,after,guard⟩ s ⟨.o L:: .o N::(okeys x++okeys y),[(.o N,none),(.o L,some (.dp ety t es (l.set i0.toNat x') (h1++h2) S'))],nw⟩:=by
 intro m A ac w g hr hf hrel K Q hK
 obtain⟨e1,k1⟩:=hx.eval hrel (fun k hk=>hr k (reads_mem (by simp[hk])))
 obtain⟨e2,_⟩:=hy.eval hrel (fun k hk=>hr k (reads_mem (by simp[hk])))
 have hgL:g (.o L)=some (.dp ety t es l hs S):=(hr (.o L) (reads_mem (by simp))).trans hL
 have hgN':g (.o N)=some (.row e' t' q):=(hr (.o N) (reads_mem (by simp))).trans hgN
 have hS:Free (cxOf E b) S' g:=hf S' hnS
 have hNS:N≠S':=fun e=>by subst e;rw[free_none hS (by simp[keyHas])]at hgN';cases hgN'
 obtain⟨⟨hlen,_⟩,_,hho⟩:=hrel.ent _ _ hgL
 obtain⟨k2,k3⟩:=k1
 rw[hlen]at k3
 subst hi
 have hx1:l[i.toNat]?=some (l.getD i.toNat (E.G.dft t)):=getD_some k2 k3
 rw[hh]at hgL
 obtain⟨w',hp,hrun,hrel'⟩:=hrel.writeRow (N:=N) hgL hx1 hj
 have hLN:L≠N:=fun e=>by subst e;rw[hgL]at hgN';cases hgN'
 have hm0:∀l',mentions l' (.o L) (some (Val.dp ety t es l (h1++(i,j,a)::h2) S))=true→l'≠S':=free_ne hS hgL
 have hS':Free (cxOf E b) S' (upd [(.o L,some (.dp ety t es l (h1++(i,j,N)::h2) S))] g):=hS.upd (by
  cases e:mentionsIn S' [((.o L:Key),some (Val.dp (car:=E.G.car) ety t es l (h1++(i,j,N)::h2) S))]with
  |false=>rfl
  |true=>
   simp only[mentionsIn,mentions,valHas,keyHas,Bool.or_false,Bool.or_eq_true,List.any_eq_true]at e
   rcases e with(e|⟨p,hp',e⟩)|e
   rotate_left 2
   ·exact absurd (Nat.eq_of_beq_eq_true e) (hm0 L (by simp[mentions,keyHas]))
   ·exact absurd (Nat.eq_of_beq_eq_true e) (hm0 S (by simp[mentions,valHas]))
   ·have e:=Nat.eq_of_beq_eq_true e
    rcases List.mem_append.1 hp' with hp'|hp'
    ·exact absurd e (hm0 p.2.2 (by simp only[mentions,valHas,Bool.or_eq_true,List.any_eq_true];exact .inl (.inr ⟨p,List.mem_append.2 (.inl hp'),by simp⟩)))
    ·rcases List.mem_cons.1 hp' with rfl|hp'
     ·exact absurd e hNS
     ·exact absurd e (hm0 p.2.2 (by simp only[mentions,valHas,Bool.or_eq_true,List.any_eq_true];exact .inl (.inr ⟨p,List.mem_append.2 (.inr (List.mem_cons_of_mem _ hp')),by simp⟩))))
 obtain⟨m',hrel2,_⟩:=hrel'.closeRow (S':=S') (x':=x') (q:=q) (by rw[upd_one,if_pos rfl]) (by rw[upd_one,if_neg (by simp[hLN]),hgN']) hx1 hj (E.G.hdec _ _ _ hdec) he hfl hS'
 refine⟨fun _ _=>trivial,?_⟩
 rw[semAt_of _ _ (by simp)]
 have hrun':(execOp ac.eval ⟨none,.store ty x y,type,pos,after,guard⟩).run E.P w= .ok .skip w':=by
  unfold sizeIn at hsz
  cases hi:E.P.info? ty with
  |none=>rw[hi]at hsz;cases hsz
  |some inf=>
   rw[hi]at hsz
   simp only[Option.map_some,Option.some.injEq]at hsz
   simp only[den]at hrun
   simp[execOp,e1,e2,den,hp,elemAddr,Instr.storeAt,Instr.sureAddr,storeVar,sizeOf,typeInfo,hi,hsz,Value.cells,hrun]
 rw[hrun']
 refine hK m' A ac w' (hrel2.congr fun k=>?_)
 simp only[closeU]
 rw[upd_two hLN,upd_two hLN,upd_one]
 by_cases e3:k= .o N
 ·simp[e3]
 ·by_cases e4:k= .o L
  ·simp[e4]
  ·simp[e3,e4,Ne.symm e4]
theorem mapSL_spec{P:Program}{ty el:TypeId}(h:mapSL P ty=some el):∀k e,P.underlying ty=some (.map k e)→∀w,(zeroValue e).run P w= .ok (.slice none 0 0) w:=by
 intro k e hu w
 unfold mapSL at h
 rw[hu]at h
 simp only at h
 split at h
 ·rename_i h1 h2
  cases hi:P.info? e with
  |none=>rw[hi]at h2;cases h2
  |some inf=>
   rw[hi]at h2
   simp only[Option.bind_some]at h2
   simp[zeroValue,typeInfo,hi,h2]
 ·cases h
theorem keyK_sound{c:EC E}{ty:TypeId}{kt:Nat}{v:SV}{K:E.G.car kt→Option R}(h:keyK c ty kt v K=some r):∃x,K x=some r∧(ty,kt)∈E.keys∧∀m,KeyIs E.G kt x (den m v):=by
 unfold keyK at h
 split at h
 ·rename_i vs
  obtain⟨h1,h2⟩:=bif_some h
  clear h
  split at h2
  ·rename_i us hus
   split at h2
   ·rename_i x hx
    refine⟨x,h2,?_,fun m=>⟨us,E.G.hdec _ _ _ hx,by simp only[den,plainL_den hus]⟩⟩
    obtain⟨q,hq,hq2⟩:=List.any_eq_true.1 h1
    simp only[Bool.and_eq_true]at hq2
    have e1:=Nat.eq_of_beq_eq_true hq2.1
    have e2:=Nat.eq_of_beq_eq_true hq2.2
    rw[←e1,←e2]
    exact hq
   ·cases h2
  ·cases h2
 ·cases h
theorem free_swap{cx:Cx}{g:CMap cx}{S' L N:Nat}{v0 v1:Val cx.G.car}(hf:Free cx S' g)(hg:g (.o L)=some v0)(hN:N≠S')(hv:∀l,valHas l v1=true→valHas l v0=true∨l=N):Free cx S' (upd [(.o L,some v1)] g):=
 hf.upd (by
  have hm0:=free_ne hf hg
  simp only[mentionsIn,mentions,Bool.or_false,Bool.or_eq_false_iff]
  constructor
  ·cases e:valHas S' v1 with
   |false=>rfl
   |true=>
    rcases hv S' e with e|e
    ·exact absurd rfl (hm0 S' (by simp[mentions,e]))
    ·exact absurd e.symm hN
  ·cases e:keyHas S' (.o L)with
   |false=>rfl
   |true=>exact absurd rfl (hm0 S' (by simp[mentions,e])))
theorem swap_dm{car:Nat→Type}{kt t e S N N0:Nat}{l l':List (car kt×List (car t))}{h1 h2 zs:List (car kt×Nat)}{x y:car kt}:∀z,valHas z (Val.dm kt t e l' (h1++(x,N)::h2) zs S)=true→valHas z (Val.dm kt t e l (h1++(y,N0)::h2) zs S)=true∨z=N:=by
 intro z h
 simp only[valHas,Bool.or_eq_true,List.any_eq_true]at h⊢
 rcases h with(h|⟨p,hp,h⟩)|h
 ·exact .inl (.inl (.inl h))
 ·rcases List.mem_append.1 hp with hp|hp
  ·exact .inl (.inl (.inr ⟨p,List.mem_append.2 (.inl hp),h⟩))
  ·rcases List.mem_cons.1 hp with rfl|hp
   ·exact .inr (Nat.eq_of_beq_eq_true h).symm
   ·exact .inl (.inl (.inr ⟨p,List.mem_append.2 (.inr (List.mem_cons_of_mem _ hp)),h⟩))
 ·exact .inl (.inr h)
theorem dm_lookup{cx:Cx}{m:Nat→MV}{A:Nat→Prop}{g:CMap cx}{a:Act}{w:World}{L ty kt t e S:Nat}{l:List (cx.G.car kt×List (cx.G.car t))}{hs zs:List (cx.G.car kt×Nat)}{x:cx.G.car kt}{vx:Value}(h:Rel cx m A g a w)(hk:KeyOK cx.P cx.G ty kt)
  (hL:g (.o L)=some (.dm kt t e l hs zs S)) (hx:KeyIs cx.G kt x vx) (hzero:∀k el,cx.P.underlying ty=some (.map k el)→∀w,(zeroValue el).run cx.P w= .ok (.slice none 0 0) w):
  ∃(es:Array MapEntry) (cl:Nat),w.heap[(m L).b]?=some (.map es cl)∧DmIn cx.G A w m (m S).sub es kt t e l hs zs cl∧((∃(i:Nat) (p:cx.G.car kt×List (cx.G.car t)) (en:MapEntry),l[i]?=some p∧p.1=x∧es[i]?=some en∧(Instr.lookup ty (.map (some (m L).b)) vx false).run cx.P w= .ok en.val w)∨
   (x∉l.map (·.1)∧(Instr.lookup ty (.map (some (m L).b)) vx false).run cx.P w= .ok (.slice none 0 0) w)):=by
 obtain⟨es,cl,hh,hdm,h3⟩:=h.ent _ _ hL
 obtain⟨k,el,hty,hcheck,hf⟩:=dm_find (w:=w) hk hdm hx
 refine⟨es,cl,hh,hdm,?_⟩
 rcases hf with⟨i,p,en,hp,hpx,hes,h7,h8,hkst⟩|⟨h5,h6⟩
 ·refine .inl ⟨i,p,en,hp,hpx,hes,?_⟩
  simp[Instr.lookup,run_underlying hty,MapKept.run_getObj_map hh,hcheck,h8,Result.andThen]
 ·refine .inr ⟨h5,?_⟩
  simp[Instr.lookup,run_underlying hty,MapKept.run_getObj_map hh,hcheck,h6,Result.andThen,hzero k el hty]
theorem holeK_here{G:Reg}{kt a:Nat}{x:G.car kt}{h1 h2:List (G.car kt×Nat)}(h:((h1++(x,a)::h2).map (·.1)).Nodup):holeK x (h1++(x,a)::h2)=some a:=by
 rw[List.map_append,List.map_cons]at h
 obtain⟨_,hnot⟩:=nodup_mid h
 rw[holeK_append,holeK_none (fun p hp e=>hnot (List.mem_append.2 (.inl (List.mem_map.2 ⟨p,hp,e⟩)))),holeK_cons,if_pos rfl]
theorem op_dmHole{ty L kt t e S a:Nat}{x y:Operand}{u:SV}{κ:E.G.car kt}{l:List (E.G.car kt×List (E.G.car t))}{hs h1 h2 zs:List (E.G.car kt×Nat)}(hN:d<b.N)(hk:KeyOK E.P E.G ty kt)(hz:∀k el,E.P.underlying ty=some (.map k el)→∀w,(zeroValue el).run E.P w= .ok (.slice none 0 0) w)(hx:Ev E s x (.m L))(hy:Ev E s y u)(hu:∀m,KeyIs E.G kt κ (den m u))
  (hL:s (.o L)=some (.dm kt t e l hs zs S)) (hh:hs=h1++(κ,a)::h2):
  OpRun (cxOf E b) ⟨some d,.lookup ty x y false,type,pos,after,guard⟩ s ⟨.o L::(okeys x++okeys y),[(.t d,some (.x (.h a)))],[]⟩:=
 op_pure rfl hN (by simp) fun m A ac w g hr hrel=>by
  have e1:=(hx.eval hrel (fun k hk=>hr k (by simp[hk]))).1
  have e2:=(hy.eval hrel (fun k hk=>hr k (by simp[hk]))).1
  have hgL:g (.o L)=some (.dm kt t e l hs zs S):=(hr (.o L) (by simp)).trans hL
  obtain⟨es,cl,h3,hdm,h4⟩:=dm_lookup hrel hk hgL (hu m) hz
  refine⟨trivial,?_⟩
  rw[hh]at hdm
  rcases h4 with⟨i,p,en,hp,hpx,hes,hrun⟩|⟨h5,hrun⟩
  ·obtain⟨en',h6,_,h7⟩:=hdm.ent i p hp
   rw[hes]at h6;cases h6
   rw[hpx,holeK_here hdm.holes]at h7
   have h8:en.val=den m (.h a):=h7.1
   rw[h8]at hrun
   simp only[den]at hrun
   simp[execOp,e1,e2,den,hrun]
  ·have h8:=hdm.nil (κ,a) (by simp) h5
   simp only[den]at h8
   simp[execOp,e1,e2,den,hrun,h8]
theorem op_dmOpen{ty L kt t e S N S':Nat}{x y:Operand}{u:SV}{κ:E.G.car kt}{l:List (E.G.car kt×List (E.G.car t))}{hs zs:List (E.G.car kt×Nat)}{nw:List Nat}(hN:d<b.N)(hk:KeyOK E.P E.G ty kt)(hz:∀k el,E.P.underlying ty=some (.map k el)→∀w,(zeroValue el).run E.P w= .ok (.slice none 0 0) w)(hx:Ev E s x (.m L))(hy:Ev E s y u)(hu:∀m,KeyIs E.G kt κ (den m u))
  (hL:s (.o L)=some (.dm kt t e l hs zs S)) (hno:∀p∈hs,p.1≠κ) (hnN:N∈nw) (hnS:S'∈nw) (hNS:N≠S'):
  OpRun (cxOf E b) ⟨some d,.lookup ty x y false,type,pos,after,guard⟩ s ⟨.o L::(okeys x++okeys y),(.t d,some (.x (.h N)))::[(.o N,some (.row e t (@getK _ _ (E.G.deq kt) l κ))),(.o L,some (.dm kt t e l ((κ,N)::hs) zs S'))],nw⟩:=
 op_gen rfl hN (fun _ h=>by cases h) fun m A ac w g hr hf hrel=>by
  have e1:=(hx.eval hrel (fun k hk=>hr k (by simp[hk]))).1
  have e2:=(hy.eval hrel (fun k hk=>hr k (by simp[hk]))).1
  have hgL:g (.o L)=some (.dm kt t e l hs zs S):=(hr (.o L) (by simp)).trans hL
  obtain⟨es,cl,h3,hdm,h4⟩:=dm_lookup hrel hk hgL (hu m) hz
  obtain⟨m',h5,h6,es',cl',h7,h8,h9,h10⟩:=hrel.openMap hgL hno (hf N hnN) (hf S' hnS) hNS
  rw[h3]at h7
  cases h7
  refine⟨m',A,w,?_,trivial,h5⟩
  rcases h4 with⟨i,p,en,hp,hpx,hes,hrun⟩|⟨h5,hrun⟩
  ·obtain⟨en',g6,_,g7⟩:=h9 i p hp
   rw[hes]at g6;cases g6
   have g8:en.val=den m' (.h N):=g7 hpx
   rw[g8]at hrun
   simp only[den]at hrun
   simp[execOp,e1,e2,den,hrun]
  ·have g8:=h10 h5
   simp only[den]at g8
   simp[execOp,e1,e2,den,hrun,g8]
theorem op_dmSet{ty L kt t e S a N S':Nat}{x y z:Operand}{u:SV}{κ:E.G.car kt}{l:List (E.G.car kt×List (E.G.car t))}{hs h1 h2 zs:List (E.G.car kt×Nat)}{q:List (E.G.car t)}{nw:List Nat}(hk:KeyOK E.P E.G ty kt)(hx:Ev E s x (.m L))(hy:Ev E s y u)(hu:∀m,KeyIs E.G kt κ (den m u))(hz:Ev E s z (.h N))
  (hL:s (.o L)=some (.dm kt t e l hs zs S)) (hgN:s (.o N)=some (.row e t q)) (hh:hs=h1++(κ,a)::h2) (hfl:E.G.flat t=true) (hnS:S'∈nw):
  OpRun (cxOf E b) ⟨none,.mapUpdate ty x y z,type,pos,after,guard⟩ s ⟨.o L:: .o N::(okeys x++(okeys y++okeys z)),[(.o N,none),(.o L,some (.dm kt t e (@setK _ _ (E.G.deq kt) l κ q) (h1++h2) zs S'))],nw⟩:=by
 intro m A ac w g hr hf hrel K Q hK
 have e1:=(hx.eval hrel (fun k hk=>hr k (reads_mem (by simp[hk])))).1
 have e2:=(hy.eval hrel (fun k hk=>hr k (reads_mem (by simp[hk])))).1
 have e3:=(hz.eval hrel (fun k hk=>hr k (reads_mem (by simp[hk])))).1
 have hgL:g (.o L)=some (.dm kt t e l hs zs S):=(hr (.o L) (reads_mem (by simp))).trans hL
 have hgN':g (.o N)=some (.row e t q):=(hr (.o N) (reads_mem (by simp))).trans hgN
 have hS:Free (cxOf E b) S' g:=hf S' hnS
 have hNS:N≠S':=fun e=>by subst e;rw[free_none hS (by simp[keyHas])]at hgN';cases hgN'
 have hLN:L≠N:=fun e=>by subst e;rw[hgL]at hgN';cases hgN'
 rw[hh]at hgL
 obtain⟨w',hrun,hrel'⟩:=hrel.writeMap (N:=N) hk hgL (hu m)
 have hS':=free_swap (N:=N) hS hgL hNS (swap_dm (l':=@insK _ _ (E.G.deq kt) l κ) (x:=κ))
 obtain⟨m',hrel2,_⟩:=hrel'.closeMap (S':=S') (q:=q) (by rw[upd_one,if_pos rfl]) (by rw[upd_one,if_neg (by simp[hLN]),hgN']) hfl hS'
 refine⟨fun _ _=>trivial,?_⟩
 rw[semAt_of _ _ (by simp)]
 have hrun':(execOp ac.eval ⟨none,.mapUpdate ty x y z,type,pos,after,guard⟩).run E.P w= .ok .skip w':=by
  simp only[den]at hrun
  simp[execOp,e1,e2,e3,den,hrun]
 rw[hrun']
 refine hK m' A ac w' (hrel2.congr fun k=>?_)
 simp only[closeMU,updK_insK]
 rw[upd_two hLN,upd_two hLN,upd_one]
 by_cases e3:k= .o N
 ·simp[e3]
 ·by_cases e4:k= .o L
  ·simp[e4]
  ·simp[e3,e4,Ne.symm e4]
theorem op_dmEntry{ty L kt t e S N S' Z:Nat}{x y:Operand}{u:SV}{κ:E.G.car kt}{l:List (E.G.car kt×List (E.G.car t))}{zs:List (E.G.car kt×Nat)}{nw:List Nat}(hN:d<b.N)(hk:KeyOK E.P E.G ty kt)(hz:∀k el,E.P.underlying ty=some (.map k el)→∀w,(zeroValue el).run E.P w= .ok (.slice none 0 0) w)(hx:Ev E s x (.m L))(hy:Ev E s y u)(hu:∀m,KeyIs E.G kt κ (den m u))
  (hL:s (.o L)=some (.dm kt t e l [] zs S)) (hnN:N∈nw) (hnS:S'∈nw) (hnZ:Z∈nw) (hNS:N≠S') (hNZ:N≠Z) (hSZ:S'≠Z):
  OpRun (cxOf E b) ⟨some d,.mapEntry ty x y,type,pos,after,guard⟩ s ⟨.o L::(okeys x++okeys y),(.t d,some (.x (.t [.h N,.z Z])))::[(.o N,some (.row e t (@getK _ _ (E.G.deq kt) l κ))),(.o L,some (.dm kt t e (@insK _ _ (E.G.deq kt) l κ) [(κ,N)] ((κ,Z)::zs) S'))],nw⟩:=
 op_gen rfl hN (fun _ h=>by cases h) fun m A ac w g hr hf hrel=>by
  have e1:=(hx.eval hrel (fun k hk=>hr k (by simp[hk]))).1
  have e2:=(hy.eval hrel (fun k hk=>hr k (by simp[hk]))).1
  have hgL:g (.o L)=some (.dm kt t e l [] zs S):=(hr (.o L) (by simp)).trans hL
  have hLN:L≠N:=fun e=>by subst e;rw[free_none (hf L hnN) (by simp[keyHas])]at hgL;cases hgL
  have hLZ:L≠Z:=fun e=>by subst e;rw[free_none (hf L hnZ) (by simp[keyHas])]at hgL;cases hgL
  obtain⟨m1,hrel1,hm1,_⟩:=hrel.openMap hgL (x:=κ) (fun p hp=>nomatch hp) (hf N hnN) (hf S' hnS) hNS
  have hgL1:upd (openMU L N S' kt t e l [] zs κ (@getK _ _ (E.G.deq kt) l κ)) g (.o L)=some (.dm kt t e l ([]++(κ,N)::[]) zs S'):=by
   simp only[openMU,List.nil_append]
   rw[upd_two hLN,if_neg (by simp[hLN]),if_pos rfl]
  have hZ0:=hf Z hnZ
  have hZm:=free_ne hZ0 hgL
  have hZ1:Free (cxOf E b) Z (upd (openMU L N S' kt t e l [] zs κ (@getK _ _ (E.G.deq kt) l κ)) g):=hZ0.upd (by
   cases e0:mentionsIn Z (openMU (car:=E.G.car) L N S' kt t e l [] zs κ (@getK _ _ (E.G.deq kt) l κ))with
   |false=>rfl
   |true=>
    simp only[openMU,mentionsIn,mentions,valHas,keyHas,Bool.or_false,Bool.false_or,Bool.or_eq_true,List.any_eq_true]at e0
    rcases e0 with e0|(((e0|⟨p,hp,e0⟩)|⟨p,hp,e0⟩)|e0)
    ·exact absurd (Nat.eq_of_beq_eq_true e0) hNZ
    ·exact absurd (Nat.eq_of_beq_eq_true e0) hSZ
    ·rw[List.mem_singleton.1 hp]at e0
     exact absurd (Nat.eq_of_beq_eq_true e0) hNZ
    ·exact absurd (Nat.eq_of_beq_eq_true e0) (hZm p.2 (by simp only[mentions,valHas,Bool.or_eq_true,List.any_eq_true];exact .inl (.inr ⟨p,hp,by simp⟩)))
    ·exact absurd (Nat.eq_of_beq_eq_true e0) hLZ)
  obtain⟨w',m',hrun,hrel2,hm2⟩:=hrel1.entryMap (Z:=Z) hk hgL1 (hu m1) hZ1 hNZ hz
  refine⟨m',A,w',?_,⟨trivial,trivial,trivial⟩,hrel2.congr fun k=>?_⟩
  ·have h1:den m1 u=den m u:=by
    obtain⟨us,_,h5⟩:=hu m1
    obtain⟨us',_,h6⟩:=hu m
    rename_i h7 h8
    rw[h5,h6]
    have:=mapV_inj (h7.symm.trans h8)
    rw[this]
   have h2:m1 L=m L:=hm1 L hLN (fun e=>by subst e;rw[free_none (hf L hnS) (by simp[keyHas])]at hgL;cases hgL)
   rw[h1,h2]at hrun
   have h3:m' N=m1 N:=hm2 N hNZ
   simp only[den]at hrun
   simp[execOp,e1,e2,den,denL,hrun,h3]
  ·simp only[openMU,List.nil_append]
   rw[upd_one,upd_two hLN,upd_two hLN]
   by_cases e3:k= .o L
   ·subst e3;simp[hLN]
   ·simp[e3,Ne.symm e3]
theorem Rel.dropStamps{cx:Cx}{m:Nat→MV}{A:Nat→Prop}{g:CMap cx}{a:Act}{w:World}{L kt t e S:Nat}{l:List (cx.G.car kt×List (cx.G.car t))}{hs zs:List (cx.G.car kt×Nat)}(h:Rel cx m A g a w)(hL:g (.o L)=some (.dm kt t e l hs zs S)):
  Rel cx m A (upd [(.o L,some (.dm kt t e l hs [] S))] g) a w:=by
 have hg:∀k,k≠ .o L→upd [(.o L,some (Val.dm kt t e l hs [] S))] g k=g k:=fun k hk=>by rw[upd_one,if_neg (Ne.symm hk)]
 have hgL:upd [(.o L,some (Val.dm kt t e l hs [] S))] g (.o L)=some (Val.dm kt t e l hs [] S):=by rw[upd_one,if_pos rfl]
 refine h.regive (T:=fun l=>l=L) (fun k hk=>hg k (hk L rfl)) (fun _ _ _ _=>rfl) (fun l0 o hl=>?_) (fun l0 v hl hv=>?_) (fun l0 bb hl ho=>?_) (fun l0 l' bb hl hl' _ _=>hl.trans hl'.symm) (fun _ _=>rfl) (fun _ _=>rfl)
 ·subst hl
  cases e:g (.c l0 o)with
  |none=>rfl
  |some v=>obtain⟨ty,n,h1⟩:=h.cell l0 o v e;rw[hL]at h1;cases h1
 ·subst hl
  rw[hgL]at hv
  cases hv
  obtain⟨es,cl,h1,h2,h3⟩:=h.ent _ _ hL
  exact⟨es,cl,h1,⟨h2.size,h2.nodup,h2.ent,h2.nil,h2.holes,h2.born,h2.clock,fun q hq=>nomatch hq⟩,h3⟩
 ·subst hl
  rw[hgL]at ho
  exact⟨l0,rfl,by rw[hL];exact ho⟩
theorem op_dmStore{ty L kt t e S a N S' Z:Nat}{x y z:Operand}{κ:E.G.car kt}{l:List (E.G.car kt×List (E.G.car t))}{zs:List (E.G.car kt×Nat)}{q:List (E.G.car t)}{nw:List Nat}(hx:Ev E s x (.m L))(hy:Ev E s y (.z Z))(hz:Ev E s z (.h N))
  (hL:s (.o L)=some (.dm kt t e l [(κ,a)] ((κ,Z)::zs) S)) (hgN:s (.o N)=some (.row e t q)) (hfl:E.G.flat t=true) (hnS:S'∈nw):
  OpRun (cxOf E b) ⟨none,.entryStore ty x y z,type,pos,after,guard⟩ s ⟨.o L:: .o N::(okeys x++(okeys y++okeys z)),[(.o N,none),(.o L,some (.dm kt t e (@setK _ _ (E.G.deq kt) l κ q) [] [] S'))],nw⟩:=by
 intro m A ac w g hr hf hrel K Q hK
 have e1:=(hx.eval hrel (fun k hk=>hr k (reads_mem (by simp[hk])))).1
 have e2:=(hy.eval hrel (fun k hk=>hr k (reads_mem (by simp[hk])))).1
 have e3:=(hz.eval hrel (fun k hk=>hr k (reads_mem (by simp[hk])))).1
 have hgL:g (.o L)=some (.dm kt t e l ([]++(κ,a)::[]) ((κ,Z)::zs) S):=(hr (.o L) (reads_mem (by simp))).trans hL
 have hgN':g (.o N)=some (.row e t q):=(hr (.o N) (reads_mem (by simp))).trans hgN
 have hS:Free (cxOf E b) S' g:=hf S' hnS
 have hNS:N≠S':=fun e=>by subst e;rw[free_none hS (by simp[keyHas])]at hgN';cases hgN'
 have hLN:L≠N:=fun e=>by subst e;rw[hgL]at hgN';cases hgN'
 have hset:@setK _ _ (E.G.deq kt) l κ q=@updK _ _ (E.G.deq kt) l κ q:=by
  obtain⟨es,cl,h1,h2,h3⟩:=hrel.ent _ _ hgL
  obtain⟨i,p,en,h4,h5,_⟩:=h2.stamp (κ,Z) (by simp)
  exact @setK_at _ _ (E.G.deq kt) _ _ _ _ _ h2.nodup h4 h5
 obtain⟨w',hrun,hrel'⟩:=hrel.storeEntry (ty:=ty) (N:=N) (Z:=Z) hgL (by simp)
 have hS':=free_swap (N:=N) hS hgL hNS (swap_dm (l':=l) (x:=κ))
 obtain⟨m',hrel2,_⟩:=hrel'.closeMap (S':=S') (q:=q) (by rw[upd_one,if_pos rfl]) (by rw[upd_one,if_neg (by simp[hLN]),hgN']) hfl hS'
 have hrel3:=hrel2.dropStamps (L:=L) (by simp only[closeMU];rw[upd_two hLN,if_neg (by simp[hLN]),if_pos rfl])
 refine⟨fun _ _=>trivial,?_⟩
 rw[semAt_of _ _ (by simp)]
 have hrun':(execOp ac.eval ⟨none,.entryStore ty x y z,type,pos,after,guard⟩).run E.P w= .ok .skip w':=by
  simp only[den]at hrun
  simp[execOp,e1,e2,e3,den,hrun]
 rw[hrun']
 refine hK m' A ac w' (hrel3.congr fun k=>?_)
 simp only[closeMU,hset]
 rw[upd_one,upd_two hLN,upd_two hLN,upd_one]
 by_cases e3:k= .o N
 ·subst e3;simp[hLN]
 ·by_cases e4:k= .o L
  ·subst e4;simp[hLN]
  ·simp[e3,e4,Ne.symm e4]
theorem Rel.newSub{cx:Cx}{m:Nat→MV}{A:Nat→Prop}{g:CMap cx}{a:Act}{w:World}{S:Nat}(h:Rel cx m A g a w)(hf:Free cx S g)(mv:MV):Rel cx (setL m S mv) A g a w:=
 h.fresh (u:=[]) hf (fun k hk=>by cases hk) (fun k v hk hv=>by
   have hv:g k=some v:=hv
   rw[free_none hf (by rcases hk with rfl|rfl|⟨o,rfl⟩<;>simp[keyHas])]at hv
   cases hv) (fun o v hv=>by
   have hv:g (.c S o)=some v:=hv
   rw[free_none hf (by simp[keyHas])]at hv
   cases hv) (fun bb hb=>by
   have hb:Owns (setL m S mv) S (g (.o S)) bb:=hb
   rw[free_none hf (by simp[keyHas])]at hb
   exact hb.elim)
theorem subs_nil{w:World}{bb:Nat}{real:Nat→Prop}:SubsOK w (fun _=>nilHV) bb real:=
 ⟨fun k k' h=>absurd rfl h,fun k h=>absurd rfl h,fun k h=>absurd rfl h,fun k h=>absurd rfl h⟩
theorem Rel.newMapD{cx:Cx}{m:Nat→MV}{A:Nat→Prop}{g:CMap cx}{a:Act}{w:World}{L S kt t e:Nat}(h:Rel cx m A g a w)(hL:Free cx L g)(hS:Free cx S g)(hLS:L≠S):
  ∃m',Rel cx m' A (upd [(.o L,some (.dm kt t e [] [] [] S))] g) a (w.alloc (.map #[] 0))∧(m' L).b=w.heap.size:=by
 have hnew:(w.alloc (.map #[] 0)).heap[w.heap.size]?=some (.map #[] 0):=by
  show(w.heap.push _)[w.heap.size]?=_
  simp
 have hko:upd [(.o L,some (Val.dm kt t e [] [] [] S))] g (.o L)=some (Val.dm kt t e [] [] [] S):=by rw[upd_one,if_pos rfl]
 have h1:=h.newSub hS (subMV fun _=>nilHV)
 have hw:=h1.world (w':=w.alloc (.map #[] 0)) ⟨rfl,rfl,.rfl,by simp,fun k hk=>Below.heap_alloc _ _ _ hk⟩
 have hS2:setL (setL m S (subMV fun _=>nilHV)) L (boxMV w.heap.size) S=subMV fun _=>nilHV:=by rw[setL_ne _ _ (Ne.symm hLS),setL_self]
 refine⟨setL (setL m S (subMV fun _=>nilHV)) L (boxMV w.heap.size),hw.fresh hL (fun k hk=>?_) (fun k v hk hv=>?_) (fun o v hv=>?_) (fun bb hbb=>?_),by rw[setL_self];rfl⟩
 ·simp only[touches,Bool.or_false]at hk
  exact .inl (Key.eqb_iff.1 hk).symm
 ·rcases hk with rfl|rfl|⟨o,rfl⟩
  ·rw[hko]at hv;cases hv
   refine⟨#[],0,by rw[setL_self];exact hnew,⟨rfl,List.nodup_nil,fun k p hp=>(by simp at hp),fun q hq=>(nomatch hq),List.nodup_nil,List.nodup_nil,fun e he=>(by simp at he),fun q hq=>(nomatch hq)⟩,?_⟩
   rw[hS2]
   exact subs_nil
  ·rw[upd_one,if_neg (by simp),free_none hL (by simp[keyHas])]at hv;cases hv
  ·rw[upd_one,if_neg (by simp),free_none hL (by simp[keyHas])]at hv;cases hv
 ·rw[upd_one,if_neg (by simp),free_none hL (by simp[keyHas])]at hv;cases hv
 ·rw[hko]at hbb
  have hbb:bb=w.heap.size:=by
   rcases hbb with hbb|⟨k,hk,_⟩
   ·rw[hbb,setL_self];rfl
   ·rw[hS2]at hk;exact absurd rfl hk
  subst hbb
  exact⟨.inl h.top,fun hA=>Nat.lt_irrefl _ (h.frz _ hA),fun l hl=>Nat.lt_irrefl _ (h1.blt hl)⟩
theorem op_dmMake{ty L S kt t e:Nat}{nw:List Nat}(hN:d<b.N)(hnL:L∈nw)(hnS:S∈nw)(hLS:L≠S):
  OpRun (cxOf E b) ⟨some d,.makeMap ty none,type,pos,after,guard⟩ s ⟨[],(.t d,some (.x (.m L)))::[(.o L,some (.dm kt t e [] [] [] S))],nw⟩:=
 op_gen rfl hN (fun _ h=>by cases h) fun m A a w g hr hf hrel=>by
  obtain⟨m',h1,h2⟩:=hrel.newMapD (kt:=kt) (t:=t) (e:=e) (hf L hnL) (hf S hnS) hLS
  refine⟨m',A,_,?_,trivial,h1⟩
  simp only[den,h2]
  simp[execOp,Instr.makeMap,newObj,Sem.run]
theorem Rel.newRowD{cx:Cx}{m:Nat→MV}{A:Nat→Prop}{g:CMap cx}{a:Act}{w:World}{L S ety t c:Nat}{es:List (Option Nat)}{l:List (cx.G.car t)}{cells:Array Value}(h:Rel cx m A g a w)(hL:Free cx L g)(hS:Free cx S g)(hLS:L≠S)(hsz:cells.size=c*cx.G.sz t)(hle:l.length≤c)
  (hin:∀m':Nat→MV,DeepIn cx.G A w m' (fun _=>nilHV) cells t es l []):
  ∃m',Rel cx m' A (upd [(.o L,some (.dp ety t es l [] S)),(.x L,some (.ln l.length))] g) a (w.alloc (.cells cells ety))∧m' L={ b:=w.heap.size,p:=some ⟨w.heap.size,0,none⟩,n:=l.length,c:=c }:=by
 have hnew:(w.alloc (.cells cells ety)).heap[w.heap.size]?=some (.cells cells ety (0,0)):=by
  show(w.heap.push _)[w.heap.size]?=_
  simp
 have hko:upd [(.o L,some (Val.dp ety t es l [] S)),(.x L,some (.ln l.length))] g (.o L)=some (.dp ety t es l [] S):=by rw[upd_cons,if_pos rfl]
 have hkx:upd [(.o L,some (Val.dp ety t es l [] S)),(.x L,some (.ln l.length))] g (.x L)=some (.ln l.length):=by rw[upd_cons,if_neg (by simp),upd_one,if_pos rfl]
 have hkc:∀o,upd [(.o L,some (Val.dp ety t es l [] S)),(.x L,some (.ln l.length))] g (.c L o)=none:=fun o=>by rw[upd_cons,if_neg (by simp),upd_one,if_neg (by simp),free_none hL (by simp[keyHas])]
 have h1:=h.newSub hS (subMV fun _=>nilHV)
 have hbel:Bel w.heap.size w (w.alloc (.cells cells ety)):=⟨rfl,rfl,.rfl,by simp,fun k hk=>Below.heap_alloc _ _ _ hk⟩
 have hw:=h1.world hbel
 have hS2:setL (setL m S (subMV fun _=>nilHV)) L { b:=w.heap.size,p:=some ⟨w.heap.size,0,none⟩,n:=l.length,c:=c } S=subMV fun _=>nilHV:=by rw[setL_ne _ _ (Ne.symm hLS),setL_self]
 refine⟨setL (setL m S (subMV fun _=>nilHV)) L { b:=w.heap.size,p:=some ⟨w.heap.size,0,none⟩,n:=l.length,c:=c },hw.fresh hL (fun k hk=>?_) (fun k v hk hv=>?_) (fun o v hv=>?_) (fun bb hbb=>?_),by rw[setL_self]⟩
 ·simp only[touches,Bool.or_false,Bool.or_eq_true]at hk
  rcases hk with hk|hk
  ·exact .inl (Key.eqb_iff.1 hk).symm
  ·exact .inr (.inl (Key.eqb_iff.1 hk).symm)
 ·rcases hk with rfl|rfl|⟨o,rfl⟩
  ·rw[hko]at hv;cases hv
   refine⟨⟨by rw[setL_self],?_⟩,by rw[hS2];exact subs_nil,⟨fun q hq=>(nomatch hq),List.Pairwise.nil⟩⟩
   rcases Nat.eq_zero_or_pos c with hc|hc
   ·subst hc
    rw[setL_self]
    exact .inl ⟨rfl,List.length_eq_zero_iff.1 (Nat.le_zero.1 hle),w.heap.size+1,rfl⟩
   ·refine .inr ⟨by rw[setL_self];exact Nat.ne_of_gt hc,by rw[setL_self],cells,by rw[setL_self];exact hnew,by rw[setL_self];exact hsz,by rw[setL_self];exact hle,?_⟩
    rw[hS2]
    intro i x hx j cv hcv
    obtain⟨u,hu,hs⟩:=hin _ i x hx j cv hcv
    exact⟨u,hu,hs.step (m:=m) (fun _ h=>h) (fun bb hb=>hbel.block bb (h.frz bb hb)) (fun _ h=>nomatch h) (fun h=>absurd rfl h)⟩
  ·rw[hkx]at hv;cases hv
   show(setL _ L _ L).n=_∧(_→(setL _ L _ L).p=some ⟨(setL _ L _ L).b,0,none⟩)
   rw[setL_self]
   exact⟨rfl,fun _=>rfl⟩
  ·rw[hkc]at hv;cases hv
 ·rw[hkc]at hv;cases hv
 ·rw[hko]at hbb
  have hbb:bb=w.heap.size:=by
   rcases hbb with⟨_,hbb⟩|⟨k,hk,_⟩
   ·rw[hbb,setL_self]
   ·rw[hS2]at hk;exact absurd rfl hk
  subst hbb
  exact⟨.inl h.top,fun hA=>Nat.lt_irrefl _ (h.frz _ hA),fun l hl=>Nat.lt_irrefl _ (h1.blt hl)⟩
theorem Rel.addDeep{cx:Cx}{m:Nat→MV}{A:Nat→Prop}{g:CMap cx}{a:Act}{w:World}{L S ety t:Nat}{es:List (Option Nat)}{l:List (cx.G.car t)}{mv:MV}{sub:Nat→HV}(h:Rel cx m A g a w)(hL:Free cx L g)(hS:Free cx S g)(hLS:L≠S)
  (hat:At cx (setL (setL m S (subMV sub)) L mv) A a.tmps w (.o L) (.dp ety t es l [] S))
  (hB:∀k,((mv.c≠0∧k=mv.b)∨∃i,(sub i).c≠0∧k=(sub i).b)→cx.mine k∧¬A k∧∀l,¬Owns m l (g (.o l)) k):
  Rel cx (setL (setL m S (subMV sub)) L mv) A (upd [(.o L,some (.dp ety t es l [] S))] g) a w:=by
 have hkx:upd [(.o L,some (Val.dp ety t es l [] S))] g (.x L)=none:=by rw[upd_one,if_neg (by simp),free_none hL (by simp[keyHas])]
 have hkc:∀o,upd [(.o L,some (Val.dp ety t es l [] S))] g (.c L o)=none:=fun o=>by rw[upd_one,if_neg (by simp),free_none hL (by simp[keyHas])]
 have hS2:setL (setL m S (subMV sub)) L mv S=subMV sub:=by rw[setL_ne _ _ (Ne.symm hLS),setL_self]
 refine(h.newSub hS (subMV sub)).fresh hL (fun k hk=>?_) (fun k v hk hv=>?_) (fun o v hv=>?_) (fun bb hbb=>?_)
 ·simp only[touches,Bool.or_false]at hk
  exact .inl (Key.eqb_iff.1 hk).symm
 ·rcases hk with rfl|rfl|⟨o,rfl⟩
  ·rw[upd_one,if_pos rfl]at hv;cases hv;exact hat
  ·rw[hkx]at hv;cases hv
  ·rw[hkc]at hv;cases hv
 ·rw[hkc]at hv;cases hv
 ·rw[upd_one,if_pos rfl]at hbb
  simp only[Owns,setL_self,hS2]at hbb
  simp only[subMV]at hbb
  obtain⟨h1,h2,h3⟩:=hB bb hbb
  refine⟨h1,h2,fun l ho=>h3 l ?_⟩
  refine(owns_congr fun l' hl'=>?_).1 ho
  cases hg:g (.o l)with
  |none=>rw[hg]at hl';cases hl'
  |some v=>rw[hg]at hl';exact setL_ne _ _ (free_ne hS hg l' hl')
inductive OldD(g:Map E.G.car)(ety t e':Nat):SV→List (E.G.car t)→St E.G.car→Prop
 |nil:OldD g ety t e' (.v (.slice none 0 0)) [] []
 |row {L S:Nat} {l:List (E.G.car t)} (h:g (.o L)=some (.dp ety t [some e'] l [] S)):OldD g ety t e' (.h L) l [(.o L,none)]
theorem Rel.appendD{m:Nat→MV}{A:Nat→Prop}{g:Map E.G.car}{a:Act}{w:World}{N S ety t bytes ty tt bl e' t' c2:Nat}{v:SV}{l:List (E.G.car t)}{q:List (E.G.car t')}{x':E.G.car t}{dr:St E.G.car}{ad:Addr}(h:Rel (cxOf E b) m A g a w)
  (hf:appFact E.P tt=some (ety,E.G.sz t,bytes)) (hsz:E.G.sz t=1) (hby:bytes≤100000) (hold:OldD g ety t e' v l dr) (hbl:g (.o bl)=some (.row e' t' q)) (hfl:E.G.flat t'=true) (henc:E.G.enc t x'=[CV.sl t' q])
  (hcell:w.cell? ad=some (den m (.h bl))) (hN:Free (cxOf E b) N g) (hS:Free (cxOf E b) S g) (hNS:N≠S) (hlen:l.length+1≤1000000):
  ∃w' m',(Builtin.append_ #[tt,tt] ty #[den m v,.slice (some ad) 1 c2]).run E.P w= .ok (.slice (m' N).p (m' N).n (m' N).c) w'∧
   Rel (cxOf E b) m' A (upd ((.o N,some (.dp ety t [some e'] (l++[x']) [] S))::(.o bl,none)::dr) g) a w':=by
 have hdr:∀k,upd ((.o bl,none)::dr) g k=none∨upd ((.o bl,none)::dr) g k=g k:=fun k=>by
  rw[upd_cons]
  by_cases e1:Key.o bl=k
  ·rw[if_pos e1];exact .inl rfl
  ·rw[if_neg e1]
   cases hold with
   |nil=>exact .inr rfl
   | @row L S0 l hL=>
    rw[upd_one]
    by_cases e2:Key.o L=k
    ·rw[if_pos e2];exact .inl rfl
    ·rw[if_neg e2];exact .inr rfl
 have hno:∀(L o:Nat),g (.o L)≠none→(∀ty n,g (.o L)≠some (.sh ty n))→g (.c L o)=none:=fun L o _ hs=>by
  cases hv:g (.c L o)with
  |none=>rfl
  |some v=>
   obtain⟨ty',n',h1⟩:=h.cell L o v hv
   exact absurd h1 (hs _ _)
 have hrel1:Rel (cxOf E b) m A (upd ((.o bl,none)::dr) g) a w:=by
  refine h.weaken hdr (fun L2 o2 hc=>?_)
  have hc2:g (.c L2 o2)≠none:=by
   rcases hdr (.c L2 o2)with h1|h1
   ·exact absurd h1 hc
   ·rw[←h1];exact hc
  rw[upd_cons]
  by_cases e1:Key.o bl= .o L2
  ·cases e1
   exact absurd (hno bl o2 (by rw[hbl];simp) (fun _ _=>by rw[hbl];simp)) hc2
  ·rw[if_neg e1]
   cases hold with
   |nil=>rfl
   | @row L S0 l hL=>
    rw[upd_one]
    by_cases e2:Key.o L= .o L2
    ·cases e2
     exact absurd (hno _ o2 (by rw[hL];simp) (fun _ _=>by rw[hL];simp)) hc2
    ·rw[if_neg e2]
 have hfr1:∀L,Free (cxOf E b) L g→Free (cxOf E b) L (upd ((.o bl,none)::dr) g):=fun L hf=>by
  cases hold with
  |nil=>exact hf.upd (by simp[mentionsIn,mentions])
  |row hL=>exact hf.upd (by simp[mentionsIn,mentions])
 have hrow:RowAt E.G A w (hvOf (m bl)) e' t' q:=h.ent _ _ hbl
 have hbo:(m bl).c≠0→Owns m bl (g (.o bl)) (m bl).b:=fun hc=>by rw[hbl];exact⟨hc,rfl⟩
 have hg1bl:upd ((.o bl,none)::dr) g (.o bl)=none:=by rw[upd_cons,if_pos rfl]
 have hnot1:∀{L0 k:Nat},Owns m L0 (g (.o L0)) k→upd ((.o bl,none)::dr) g (.o L0)=none→∀l',¬Owns m l' (upd ((.o bl,none)::dr) g (.o l')) k:=fun{L0 k} ho hn l' ho'=>by
  rcases hdr (.o l')with h1|h1
  ·rw[h1]at ho';exact ho'
  ·rw[h1]at ho'
   have:=h.inj l' L0 k ho' ho
   subst this
   rw[hn]at h1
   rw[←h1]at ho'
   exact ho'
 have hlies:∃(b0 c:Nat) (cs:List Value) (sub:Nat→HV),den m v= .slice (ptr0 b0 c) l.length c∧VecAt b0 c ety (E.G.sz t) cs w∧cs.length=l.length*E.G.sz t∧l.length≤c∧
   (∀(i:Nat) (x:E.G.car t),l[i]?=some x→∀(j:Nat) (cv:CV E.G.car),(E.G.enc t x)[j]?=some cv→∃u,cs[i*E.G.sz t+j]?=some u∧SubIs E.G A w m (sub (i*E.G.sz t+j)) (([some e']:List (Option Nat)).getD j none) none cv u)∧
   (c≠0→(cxOf E b).mine b0∧¬A b0∧(∀l',¬Owns m l' (upd ((.o bl,none)::dr) g (.o l')) b0)∧(∃cur,w.heap[b0]?=some (.cells cur ety (0,0)))∧((m bl).c≠0→(m bl).b≠b0))∧
   (∀k,(sub k).c≠0→k<l.length*E.G.sz t∧(cxOf E b).mine (sub k).b∧¬A (sub k).b∧(∀l',¬Owns m l' (upd ((.o bl,none)::dr) g (.o l')) (sub k).b)∧(c≠0→(sub k).b≠b0)∧((m bl).c≠0→(m bl).b≠(sub k).b)∧(∃o:Obj,w.heap[(sub k).b]?=some o∧o.isDat=true))∧
   (∀k k',(sub k).c≠0→(sub k').c≠0→(sub k).b=(sub k').b→k=k'):=by
  cases hold with
  |nil=>exact⟨0,0,[],fun _=>nilHV,rfl,.inl ⟨rfl,rfl⟩,by simp,Nat.le_refl _,fun i x hx=>by simp at hx,fun h=>absurd rfl h,fun k hk=>absurd rfl hk,fun k _ hk=>absurd rfl hk⟩
  | @row L S0 l hL=>
   obtain⟨⟨hn,h2⟩,h3,_⟩:=h.ent _ _ hL
   have hLb:L≠bl:=fun e=>by subst e;rw[hL]at hbl;cases hbl
   have hg1L:upd ((.o bl,none)::[(.o L,none)]) g (.o L)=none:=by rw[upd_cons,if_neg (by simpa using Ne.symm hLb),upd_one,if_pos rfl]
   have hsubo:∀k,((m S0).sub k).c≠0→Owns m L (g (.o L)) ((m S0).sub k).b:=fun k hk=>by rw[hL];exact .inr ⟨k,hk,rfl⟩
   have hsub:∀k,((m S0).sub k).c≠0→k<l.length*E.G.sz t∧(cxOf E b).mine ((m S0).sub k).b∧¬A ((m S0).sub k).b∧(∀l',¬Owns m l' (upd ((.o bl,none)::[(.o L,none)]) g (.o l')) ((m S0).sub k).b)∧((m L).c≠0→((m S0).sub k).b≠(m L).b)∧((m bl).c≠0→(m bl).b≠((m S0).sub k).b)∧(∃o:Obj,w.heap[((m S0).sub k).b]?=some o∧o.isDat=true):=fun k hk=>
    ⟨h3.real k hk,(h.own _ _ (hsubo k hk)).1,(h.own _ _ (hsubo k hk)).2,hnot1 (hsubo k hk) hg1L,fun _=>h3.ne k hk,fun hc e=>hLb (h.inj _ _ _ (hsubo k hk) (by rw[←e];exact hbo hc)),h3.dat k hk⟩
   rcases h2 with⟨hc,hl,b',hp⟩|⟨hc,hp,cur,hh,hsz2,hle,hin⟩
   ·subst hl
    refine⟨b',0,[],(m S0).sub,?_,.inl ⟨rfl,rfl⟩,by simp,Nat.le_refl _,fun i x hx=>by simp at hx,fun h=>absurd rfl h,fun k hk=>?_,h3.inj⟩
    ·simp only[den,hc,hp,hn,List.length_nil]
    ·have:=(hsub k hk).1
     simp at this
   ·have hfit:l.length*E.G.sz t≤cur.size:=by rw[hsz2];exact Nat.mul_le_mul_right _ hle
    refine⟨(m L).b,(m L).c,cur.toList.take (l.length*E.G.sz t),(m S0).sub,?_,.inr ⟨hc,cur,hh,hsz2,fun i v hv=>?_⟩,?_,hle,fun i x hx j cv hcv=>?_,fun _=>?_,fun k hk=>?_,h3.inj⟩
    ·simp only[den,ptr0_ne hc,hp,hn]
    ·rw[List.getElem?_take]at hv
     split at hv
     ·simpa using hv
     ·cases hv
    ·have hcl:cur.toList.length=cur.size:=by simp
     rw[List.length_take,hcl];exact Nat.min_eq_left hfit
    ·obtain⟨u,h4,h5⟩:=hin i x hx j cv hcv
     refine⟨u,?_,h5⟩
     have hi:i<l.length:=(List.getElem?_eq_some_iff.1 hx).1
     have hj:j<E.G.sz t:=by rw[←E.G.hsz t x];exact(List.getElem?_eq_some_iff.1 hcv).1
     have:(i+1)*E.G.sz t≤l.length*E.G.sz t:=Nat.mul_le_mul_right _ hi
     rw[Nat.add_mul,Nat.one_mul]at this
     rw[List.getElem?_take,if_pos (show i*E.G.sz t+j<_ by have:=this;omega)]
     simpa using h4
    ·have hL':Owns m L (g (.o L)) (m L).b:=by rw[hL];exact .inl ⟨hc,rfl⟩
     obtain⟨h4,h5⟩:=h.own L _ hL'
     exact⟨h4,h5,hnot1 hL' hg1L,⟨cur,hh⟩,fun hcb e=>hLb (h.inj _ _ _ hL' (by rw[←e];exact hbo hcb))⟩
    ·obtain⟨k1,k2,k3,k4,k5,k6,k7⟩:=hsub k hk
     exact⟨k1,k2,k3,k4,fun _=>k5 hc,k6,k7⟩
 obtain⟨b0,c,cs,sub,hden,hvec,hcsl,hle,hin,hown,hsub,hinj⟩:=hlies
 have hmul:(l.length+1)*bytes≤140737488355328:=by
  have:(l.length+1)*bytes≤1000000*100000:=Nat.mul_le_mul hlen hby
  omega
 obtain⟨b',c',w',hrun,hc',hvec',hb',hsz',hos,htape,hout,hk⟩:=append_core (ty:=ty) (c2:=c2) (vs:=[den m (.h bl)]) (q:=1) (a:=ad) hf hvec hcsl (by rw[hsz];rfl) (fun j u hj=>by
   cases j with
   |zero=>simp only[List.getElem?_cons_zero,Option.some.injEq]at hj;subst hj;rw[←hcell];congr 1
   |succ j=>simp at hj) (fun u hu=>by rw[List.mem_singleton.1 hu];rfl) (Nat.le_refl 1) hmul (by omega)
 rw[←hden]at hrun
 have hcells:c≠0→∀ob:Obj,w.heap[b0]?=some ob→ob.isDat=true:=fun hc ob hob=>by
  obtain⟨_,_,_,⟨cur,hh⟩,_⟩:=hown hc
  rw[hh]at hob;cases hob;rfl
 have hrel2:Rel (cxOf E b) m A (upd ((.o bl,none)::dr) g) a w':=by
  by_cases hc:c=0
  ·exact hrel1.world ⟨hos,htape,hout,hsz',fun k hk'=>hk k hk' (fun h=>absurd hc h)⟩
  ·exact hrel1.wild (hown hc).2.2.1 (hown hc).2.1 (hown hc).1 (hcells hc) hos htape hout hsz' (fun k h3 h4=>hk k h3 (fun _=>h4))
 have hAw:∀q,A q→w'.heap[q]?=w.heap[q]?:=fun q hq=>hk q (h.frz q hq) (fun hc e=>(hown hc).2.1 (e▸hq))
 rcases hvec' with⟨h3,_⟩|⟨_,cur',hh',hsz2,hpre'⟩
 ·exact absurd h3 hc'
 have hblw:(m bl).c≠0→w'.heap[(m bl).b]?=w.heap[(m bl).b]?:=fun hc=>hk _ (h.blt (hbo hc)) (fun hc0=>(hown hc0).2.2.2.2 hc)
 have hsubw:∀k,(sub k).c≠0→w'.heap[(sub k).b]?=w.heap[(sub k).b]?:=fun k hkc=>by
  obtain⟨_,_,_,_,k5,_,ob,k7,_⟩:=hsub k hkc
  exact hk _ (Array.getElem?_eq_some_iff.1 k7).1 k5
 have hblsz:(m bl).c≠0→(m bl).b<w.heap.size:=fun hc=>h.blt (hbo hc)
 have hlt':∀k,(sub k).c≠0→(sub k).b<w.heap.size:=fun k hkc=>by
  obtain⟨_,_,_,_,_,_,ob,k7,_⟩:=hsub k hkc
  exact(Array.getElem?_eq_some_iff.1 k7).1
 refine⟨w',setL (setL m S (subMV (setSub sub l.length (hvOf (m bl))))) N { b:=b',p:=some ⟨b',0,none⟩,n:=l.length+1,c:=c' },by rw[setL_self];exact hrun,?_⟩
 have hS2:setL (setL m S (subMV (setSub sub l.length (hvOf (m bl))))) N { b:=b',p:=some ⟨b',0,none⟩,n:=l.length+1,c:=c' } S=subMV (setSub sub l.length (hvOf (m bl))):=by rw[setL_ne _ _ (Ne.symm hNS),setL_self]
 have hdat:(m bl).c≠0→∃o:Obj,w'.heap[(m bl).b]?=some o∧o.isDat=true:=fun hc=>by
  obtain⟨_,h4⟩:=hrow
  rcases h4 with⟨h4,_⟩|⟨_,_,cur,h4,_⟩
  ·exact absurd h4 hc
  ·exact⟨_,(hblw hc).trans h4,rfl⟩
 have hne':∀blk,blk<w.heap.size→(c≠0→blk≠b0)→blk≠b':=fun blk h1 h2 e=>by
  rcases hb' with⟨hc,e2⟩|h3
  ·exact h2 hc (e.trans e2)
  ·omega
 have:=(hrel2.addDeep (ety:=ety) (t:=t) (es:=[some e']) (l:=l++[x']) (mv:={ b:=b',p:=some ⟨b',0,none⟩,n:=l.length+1,c:=c' }) (sub:=setSub sub l.length (hvOf (m bl))) (hfr1 N hN) (hfr1 S hS) hNS ⟨⟨by rw[setL_self];simp,?_⟩,?_,⟨fun q hq=>(nomatch hq),List.Pairwise.nil⟩⟩ (fun k hk'=>?_))
 ·refine this.congr fun k=>?_
  rw[upd_one]
  exact(upd_cons _ _).symm
 ·rw[setL_self,hS2]
  refine .inr ⟨hc',rfl,cur',hh',hsz2,?_,fun i x hx j cv hcv=>?_⟩
  ·have hlast:(cs++[den m (.h bl)]).length=l.length+1:=by rw[List.length_append,hcsl,hsz];simp
   have:=hpre' l.length _ (List.getElem?_eq_getElem (by omega))
   have h9:=(Array.getElem?_eq_some_iff.1 this).1
   rw[hsz2,hsz]at h9
   rw[List.length_append,List.length_singleton]
   show l.length+1≤c'
   omega
  ·have hj:j<E.G.sz t:=by rw[←E.G.hsz t x];exact(List.getElem?_eq_some_iff.1 hcv).1
   have hi1:i<(l++[x']).length:=(List.getElem?_eq_some_iff.1 hx).1
   rw[List.length_append,List.length_singleton]at hi1
   rcases Nat.lt_or_ge i l.length with hi|hi
   ·rw[List.getElem?_append_left hi]at hx
    obtain⟨u,h3,h4⟩:=hin i x hx j cv hcv
    refine⟨u,hpre' _ _ (by rw[List.getElem?_append_left (List.getElem?_eq_some_iff.1 h3).1];exact h3),?_⟩
    have e1:setSub sub l.length (hvOf (m bl)) (i*E.G.sz t+j)=sub (i*E.G.sz t+j):=setSub_ne _ _ (by rw[hsz]at hj⊢;omega)
    show SubIs E.G A w' _ (setSub sub l.length (hvOf (m bl)) (i*E.G.sz t+j)) _ none cv u
    rw[e1]
    exact h4.step (fun _ h=>h) hAw (fun a ha=>nomatch ha) (hsubw _)
   ·have hi2:i=l.length:=by omega
    subst hi2
    rw[List.getElem?_append_right (Nat.le_refl _),Nat.sub_self,List.getElem?_cons_zero]at hx
    cases hx
    have hj0:j=0:=by omega
    subst hj0
    rw[henc,List.getElem?_cons_zero]at hcv
    cases hcv
    refine⟨den m (.h bl),hpre' _ _ (by rw[Nat.add_zero,←hcsl];simp),?_⟩
    have e1:setSub sub l.length (hvOf (m bl)) (l.length*E.G.sz t+0)=hvOf (m bl):=by rw[hsz,Nat.mul_one,Nat.add_zero,setSub_self]
    show SubIs E.G A w' _ (setSub sub l.length (hvOf (m bl)) (l.length*E.G.sz t+0)) _ none _ _
    rw[e1]
    exact⟨e',rfl,hfl,rfl,hrow.step (fun _ h=>h) hAw hblw⟩
 ·rw[setL_self,hS2]
  have hnew:SubsOK w' sub b' (fun k=>k<(l++[x']).length*E.G.sz t):=⟨hinj,fun k hkc=>hne' _ (hlt' k hkc) ((hsub k hkc).2.2.2.2.1),fun k hkc=>by
    have:=(hsub k hkc).1
    rw[List.length_append,Nat.add_mul];omega,fun k hkc=>by rw[hsubw k hkc];exact(hsub k hkc).2.2.2.2.2.2⟩
  exact hnew.into (by rw[List.length_append,List.length_singleton,hsz];omega) (fun hc=>hne' _ (hblsz hc) (fun hc0=>(hown hc0).2.2.2.2 hc)) hdat (fun hc k hkc e=>(hsub k hkc).2.2.2.2.2.1 hc e.symm)
 ·rcases hk' with⟨_,e0⟩|⟨i,hi,rfl⟩
  ·rw[show k=b' from e0]
   rcases hb' with⟨hc,e⟩|h3
   ·rw[e]
    exact⟨(hown hc).1,(hown hc).2.1,(hown hc).2.2.1⟩
   ·exact⟨.inl (Nat.le_trans h.top h3),fun hA=>Nat.lt_irrefl _ (Nat.lt_of_lt_of_le (h.frz _ hA) h3),fun l' ho=>Nat.lt_irrefl _ (Nat.lt_of_lt_of_le (hrel1.blt ho) h3)⟩
  ·by_cases e:i=l.length
   ·subst e
    rw[setSub_self]at hi⊢
    have ho:=hbo hi
    exact⟨(h.own _ _ ho).1,(h.own _ _ ho).2,hnot1 ho hg1bl⟩
   ·rw[setSub_ne _ _ e]at hi⊢
    obtain⟨_,k2,k3,k4,_⟩:=hsub i hi
    exact⟨k2,k3,k4⟩
theorem op_dpMake{ty e ety t t' bytes L S:Nat}{x y:Operand}{v u:SV}{k k':IntKind}{n c:Int}{x0:E.G.car t}{nw:List Nat}{e':Nat}(hN:d<b.N)(hx:Ev E s x v)(hy:Ev E s y u)(hv:∀m,den m v= .int k n)(hu:∀m,den m u= .int k' c)
  (ha:appFact E.P ty=some (e,E.G.sz t,bytes)) (hel:sliceEl E.P ty=some ety) (hby:bytes≤1000000) (hz:zeroL E.P ety=some [.slice none 0 0]) (hsz:E.G.sz t=1) (hfl:E.G.flat t'=true) (hdec:E.G.dec t [CV.sl t' []]=some x0) (hn:0≤n∧n≤c∧c≤100000) (hnL:L∈nw) (hnS:S∈nw) (hLS:L≠S):
  OpRun (cxOf E b) ⟨some d,.makeSlice ty x y,type,pos,after,guard⟩ s ⟨okeys x++okeys y,(.t d,some (.x (.h L)))::[(.o L,some (.dp ety t [some e'] (List.replicate n.toNat x0) [] S)),(.x L,some (.ln n.toNat))],nw⟩:=
 op_gen rfl hN (fun _ h=>by cases h) fun m A a w g hr hfree hrel=>by
  have h1:=(hx.eval hrel (fun k hk=>hr k (by simp[hk]))).1
  have h2:=(hy.eval hrel (fun k hk=>hr k (by simp[hk]))).1
  rw[hv]at h1
  rw[hu]at h2
  obtain⟨i,zv,hun,hi,hzz,hzs,his,hpos,hbe⟩:=appFact_spec ha
  have he:e=ety:=by
   unfold sliceEl at hel
   rw[hun]at hel
   simpa using hel
  subst he
  obtain⟨i',zv',hi',hzz',hc⟩:=zeroL_spec hz
  rw[hi]at hi';cases hi'
  rw[hzz]at hzz';cases hzz'
  have hbc:(i.bytes:Int)*c≤1000000*100000:=Int.mul_le_mul (by omega) hn.2.2 (by omega) (by omega)
  have hrun:=run_make (P:=E.P) w ty e i zv hun hi hzz k k' n c hn.1 hn.2.1 (by omega) (by omega)
  rw[his]at hrun
  have hlr:(List.replicate n.toNat x0).length=n.toNat:=List.length_replicate
  obtain⟨m',h3,h4⟩:=hrel.newRowD (L:=L) (S:=S) (ety:=e) (t:=t) (c:=c.toNat) (es:=[some e']) (l:=List.replicate n.toNat x0) (cells:=madeCells zv.cells (c.toNat*E.G.sz t)) (hfree L hnL) (hfree S hnS) hLS (by rw[size_madeCells]) (by rw[hlr];omega) (fun m' q y hy j cv hcv=>by
   have hq:q<n.toNat:=by have:=(List.getElem?_eq_some_iff.1 hy).1;simpa using this
   have hy':y=x0:=List.eq_of_mem_replicate (List.mem_of_getElem? hy)
   subst hy'
   have hj:j<E.G.sz t:=by rw[←E.G.hsz t y];exact(List.getElem?_eq_some_iff.1 hcv).1
   rw[hsz]at hj
   obtain rfl:j=0:=by omega
   rw[E.G.hdec _ _ _ hdec]at hcv
   simp only[List.getElem?_cons_zero,Option.some.injEq]at hcv
   subst hcv
   refine⟨.slice none 0 0,?_,e',rfl,hfl,rfl,rfl,.inl ⟨rfl,rfl,0,rfl⟩⟩
   have hlt:q*1+0<c.toNat*1:=by omega
   rw[hc,hsz,getElem?_madeCells (by simp) hlt,show(q*1+0)%([Value.slice none 0 0]:List Value).length=0 from Nat.mod_one _]
   rfl)
  rw[hlr]at h3 h4
  refine⟨m',A,_,?_,trivial,h3⟩
  simp only[den,h4]
  simp[execOp,h1,h2,hrun]
theorem op_dpApp{tt ety t bytes LB cp bl N S' e' t':Nat}{x y:Operand}{v:SV}{l:List (E.G.car t)}{q:List (E.G.car t')}{x':E.G.car t}{dr:St E.G.car}{rd:List Key}{nw:List Nat}(hN:d<b.N)(hf:appFact E.P tt=some (ety,E.G.sz t,bytes))(hsz:E.G.sz t=1)(hby:bytes≤100000)
  (hx:Ev E s x v) (hy:Ev E s y (.s LB 0 1 cp)) (hc:s (.c LB 0)=some (.x (.h bl))) (hbl:s (.o bl)=some (.row e' t' q)) (hfl:E.G.flat t'=true) (henc:E.G.enc t x'=[CV.sl t' q])
  (hold:OldD s ety t e' v l dr) (hrd:∀L,v= .h L→.o L∈rd) (hlen:l.length+1≤1000000) (hnN:N∈nw) (hnS:S'∈nw) (hNS:N≠S'):
  OpRun (cxOf E b) ⟨some d,.call ⟨.builtin .append, #[x,y], #[tt,tt]⟩,type,pos,after,guard⟩ s ⟨rd++(.c LB 0:: .o bl::okeysL [x,y]),(.t d,some (.x (.h N)))::(.o N,some (.dp ety t [some e'] (l++[x']) [] S'))::(.o bl,none)::dr,nw⟩:=
 op_gen rfl hN (fun _ h=>by cases h) fun m A a w g hr hfree hrel=>by
  have h1:=(hx.eval hrel (fun k hk=>hr k (by simp[okeysL,hk]))).1
  have h2:=(hy.eval hrel (fun k hk=>hr k (by simp[okeysL,hk]))).1
  have hold':OldD g ety t e' v l dr:=by
   cases hold with
   |nil=>exact .nil
   | @row L S0 l h=>exact .row ((hr _ (by simp[hrd L rfl])).trans h)
  have hcell:w.cell? ⟨(m LB).b,0,none⟩=some (den m (.h bl)):=by
   obtain⟨⟨cur,ty,hh,hcur⟩,_⟩:=hrel.ent _ _ ((hr (.c LB 0) (by simp)).trans hc)
   simp only[World.cell?,hh]
   exact hcur
  obtain⟨w',m',h3,h4⟩:=hrel.appendD (ty:=type) (c2:=cp) hf hsz hby hold' ((hr (.o bl) (by simp)).trans hbl) hfl henc hcell (hfree N hnN) (hfree S' hnS) hNS hlen
  refine⟨m',A,w',?_,trivial,h4⟩
  simp only[den]at h2
  simp[execOp,resolve,invoke,builtin,h1,h2,h3,den]
theorem clearL_get{α:Type}{l:List α}{i n:Nat}{x0:α}(h:i+n≤l.length)(q:Nat):(clearL l i n x0)[q]?=if i≤q∧q<i+n then some x0 else l[q]?:=by
 unfold clearL
 rw[List.getElem?_append,List.length_take,Nat.min_eq_left (by omega)]
 by_cases h1:q<i
 ·rw[if_pos h1,if_neg (by omega),List.getElem?_take,if_pos h1]
 ·rw[if_neg h1,List.getElem?_append,List.length_replicate]
  by_cases h2:q-i<n
  ·rw[if_pos h2,if_pos (by omega),List.getElem?_replicate,if_pos h2]
  ·rw[if_neg h2,if_neg (by omega),List.getElem?_drop]
   congr 1
   omega
theorem clearL_length{α:Type}{l:List α}{i n:Nat}{x0:α}(h:i+n≤l.length):(clearL l i n x0).length=l.length:=by
 simp only[clearL,List.length_append,List.length_take,List.length_replicate,List.length_drop]
 omega
theorem Rel.clearRow{cx:Cx}{m:Nat→MV}{A:Nat→Prop}{g:CMap cx}{a:Act}{w:World}{L ety t i n:Nat}{l:List (cx.G.car t)}{x0:cx.G.car t}{z:Value}(h:Rel cx m A g a w)(hb:g (.o L)=some (.row ety t l))(hsz1:cx.G.sz t=1)(henc:cx.G.enc t x0=[CV.v z])(hone:oneC z=true)
  (hle0:i+n≤l.length) (hn0:0<n):
  ∃w',(m L).p=some ⟨(m L).b,0,none⟩∧(storeCells ⟨(m L).b,i,none⟩ (List.replicate n z)).run cx.P w= .ok () w'∧Rel cx m A (upd [(.o L,some (.row ety t (clearL l i n x0)))] g) a w':=by
 obtain⟨hn,h2⟩:=h.ent _ _ hb
 rcases h2 with⟨_,hl,_⟩|⟨hc,hp,cur,hh,hsz,hle,hin⟩
 ·subst hl;simp at hle0;omega
 have hL:Owns m L (g (.o L)) (m L).b:=by rw[hb];exact⟨hc,rfl⟩
 rw[hsz1,Nat.mul_one]at hsz
 obtain⟨w',cur',h1,h2',h3,h4,h5,h6,h7,h8,h9⟩:=run_storeCellsW (P:=cx.P) (o:=i) (List.replicate n z) 0 w cur hh (fun v hv=>by rw[List.eq_of_mem_replicate hv];exact hone) (by rw[List.length_replicate];omega)
 have hAw:∀b,A b→w'.heap[b]?=w.heap[b]?:=fun b hb'=>h9 b fun e=>(h.own L _ hL).2 (e▸hb')
 have hupd:∀k,upd [(.o L,some (.row ety t (clearL l i n x0)))] g k=if .o L=k then some (.row ety t (clearL l i n x0))else g k:=fun k=>upd_one
 refine⟨w',hp,h1,h.wrote hL h5 h6 h7 (by omega) (fun k _ hk=>h9 k hk) (fun _ _=>rfl) h.fix h.pins (fun k e1 e2=>by rw[hupd,if_neg (Ne.symm e2)]) (fun _ _ _ _=>rfl) (fun v hv=>?_) (fun o' v hv=>?_) (fun b hv=>by rw[hupd,if_pos rfl]at hv;rw[hb];exact hv)⟩
 ·rw[hupd,if_pos rfl]at hv
  cases hv
  refine⟨by rw[hn,clearL_length hle0],.inr ⟨hc,hp,cur',h2',by rw[h3,hsz,hsz1,Nat.mul_one],by rw[clearL_length hle0];exact hle,fun q y hy j cv hcv=>?_⟩⟩
  have hj:j<cx.G.sz t:=by rw[←cx.G.hsz t y];exact(List.getElem?_eq_some_iff.1 hcv).1
  have hj0:j=0:=by omega
  subst hj0
  rw[clearL_get hle0]at hy
  rw[hsz1,Nat.mul_one,Nat.add_zero,h4,Nat.add_zero,List.length_replicate]
  by_cases e:i≤q∧q<i+n
  ·rw[if_pos e]at hy⊢
   cases hy
   rw[henc]at hcv
   simp only[List.getElem?_cons_zero,Option.some.injEq]at hcv
   subst hcv
   exact⟨z,by rw[List.getElem?_replicate,if_pos (by omega)],.v z⟩
  ·rw[if_neg e]at hy⊢
   obtain⟨u,h10,h11⟩:=hin q y hy 0 cv hcv
   rw[hsz1,Nat.mul_one,Nat.add_zero]at h10
   exact⟨u,h10,h11.mono (fun _ h=>h) hAw⟩
 ·rw[hupd,if_neg (by simp)]at hv
  obtain⟨ty,n',h10⟩:=h.cell L o' v hv
  rw[hb]at h10;cases h10
theorem zeroCells_one{z:Value}{n:Nat}:(Builtin.zeroCells #[z] n).toList=List.replicate n z:=by
 apply List.ext_getElem?
 intro i
 simp only[Builtin.zeroCells,Array.toList_map,Array.toList_range,List.getElem?_map,List.getElem?_replicate,List.size_toArray,List.length_singleton,Nat.mul_one]
 by_cases h:i<n
 ·simp[h,Nat.mod_one]
 ·simp[h]
theorem op_clear{ty e L ety t:Nat}{x:Operand}{i n:Int}{l:List (E.G.car t)}{x0:E.G.car t}{z:Value}(hx:Ev E s x (.w L i n 1))(hel:sliceEl E.P ty=some e)(hz:zeroL E.P e=some [z])(hL:s (.o L)=some (.row ety t l))(hsz1:E.G.sz t=1)(hdec:E.G.dec t [CV.v z]=some x0)(hone:oneC z=true):
  OpRun (cxOf E b) ⟨none,.call ⟨.builtin .clear, #[x], #[ty]⟩,type,pos,after,guard⟩ s ⟨.o L::okeysL [x],[(.o L,some (.row ety t (clearL l i.toNat n.toNat x0)))],[]⟩:=by
 intro m A ac w g hr hf hrel K Q hK
 obtain⟨e1,k1⟩:=hx.eval hrel (fun k hk=>hr k (reads_mem (by simp[okeysL,hk])))
 have hgL:g (.o L)=some (.row ety t l):=(hr (.o L) (reads_mem (by simp))).trans hL
 obtain⟨q1,q2,q3⟩:=k1
 obtain⟨hlen,hrow⟩:=hrel.ent _ _ hgL
 have hun:E.P.underlying ty=some (.slice e):=by
  unfold sliceEl at hel
  split at hel
  ·rename_i e' he';cases hel;exact he'
  ·cases hel
 obtain⟨inf,zv,hi,hzz,hc⟩:=zeroL_spec hz
 refine⟨fun _ _=>trivial,?_⟩
 rw[semAt_of _ _ (fun _ h=>by cases h)]
 rcases Nat.eq_zero_or_pos n.toNat with hn|hn
 ·have hrun:(execOp ac.eval ⟨none,.call ⟨.builtin .clear, #[x], #[ty]⟩,type,pos,after,guard⟩).run E.P w= .ok (.value (.tuple #[])) w:=by
   simp only[execOp,resolve,invoke,builtin,Builtin.clear_,Sem.run_bind,List.getElem?_toArray]
   simp[e1,den,hn,run_underlying hun]
   split<;>simp_all
  rw[hrun]
  refine hK m A ac w (hrel.congr fun k=>?_)
  rw[upd_one,hn]
  have:clearL l i.toNat 0 x0=l:=by simp[clearL]
  rw[this]
  by_cases e3:k= .o L
  ·subst e3;simp[hgL]
  ·simp[Ne.symm e3]
 ·obtain⟨w',hp,hrun,hrel'⟩:=hrel.clearRow (i:=i.toNat) (n:=n.toNat) (x0:=x0) (z:=z) hgL hsz1 (E.G.hdec _ _ _ hdec) hone (by omega) hn
  have hcne:(m L).c≠i.toNat:=by
   rcases hrow with⟨_,hl,_⟩|⟨_,_,cur,_,_,h7,_⟩
   ·subst hl;simp at hlen;omega
   ·omega
  have hrun':(execOp ac.eval ⟨none,.call ⟨.builtin .clear, #[x], #[ty]⟩,type,pos,after,guard⟩).run E.P w= .ok (.value (.tuple #[])) w':=by
   obtain⟨n',hn'⟩:∃n',n.toNat=n'+1:=⟨n.toNat-1,by omega⟩
   have h9:(storeCells ⟨(m L).b,i.toNat,none⟩ (Builtin.zeroCells zv.cells (n'+1)).toList).run E.P w= .ok () w':=by
    rw[hc,←hn'];rw[show(Builtin.zeroCells [z].toArray n.toNat).toList=List.replicate n.toNat z from zeroCells_one];exact hrun
   simp[execOp,resolve,invoke,builtin,Builtin.clear_,e1,den,hn',run_underlying hun,if_neg hcne,hp,zeroValue,typeInfo,hi,hzz,addr_add,h9]
  rw[hrun']
  exact hK m A ac w' hrel'
theorem Rel.reslice{cx:Cx}{m:Nat→MV}{A:Nat→Prop}{g:CMap cx}{a:Act}{w:World}{L N ety t e:Nat}{l:List (cx.G.car t)}(h:Rel cx m A g a w)(hL:g (.o L)=some (.row ety t l))(hN:Free cx N g)(he:e≤l.length):
  Rel cx (setL m N { b:=(m L).b,p:=(m L).p,n:=e,c:=(m L).c }) A (upd [(.o L,none),(.o N,some (.row ety t (l.take e)))] g) a w:=by
 have hLN:N≠L:=fun e=>by subst e;rw[free_none hN (by simp[keyHas])]at hL;cases hL
 have hu:∀k,upd [(.o L,none),(.o N,some (Val.row ety t (l.take e)))] g k=if k= .o L then none else if k= .o N then some (.row ety t (l.take e))else g k:=fun k=>upd_two hLN k
 obtain⟨hlen,hrow⟩:=h.ent _ _ hL
 have hnew:∀v,upd [(.o L,none),(.o N,some (Val.row ety t (l.take e)))] g (.o N)=some v→v= .row ety t (l.take e):=fun v hv=>by
  rw[hu,if_neg (by simp[hLN]),if_pos rfl]at hv
  exact(Option.some.inj hv).symm
 have hown:∀l0 bb,(l0=L∨l0=N)→Owns (setL m N { b:=(m L).b,p:=(m L).p,n:=e,c:=(m L).c }) l0 (upd [(.o L,none),(.o N,some (Val.row ety t (l.take e)))] g (.o l0)) bb→l0=N∧(m L).c≠0∧bb=(m L).b:=fun l0 bb hl ho=>by
  rcases hl with rfl|rfl
  ·rw[hu,if_pos rfl]at ho;exact ho.elim
  ·rw[hu,if_neg (by simp[hLN]),if_pos rfl]at ho
   obtain⟨h1,h2⟩:=ho
   rw[setL_self]at h1 h2
   exact⟨rfl,h1,h2⟩
 refine h.regive (T:=fun l0=>l0=L∨l0=N) (fun k hk=>?_) (fun k hk l0 hl0=>?_) (fun l0 o hl=>?_) (fun l0 v hl hv=>?_) (fun l0 bb hl ho=>?_) (fun l0 l1 bb hl hl' ho ho'=>(hown l0 bb hl ho).1.trans (hown l1 bb hl' ho').1.symm) (fun p hp=>setL_ne _ _ (hN.2.1 p hp)) (fun L' hL'=>setL_ne _ _ (by have:=hN.2.2;omega))
 ·rw[hu,if_neg (hk L (.inl rfl)),if_neg (hk N (.inr rfl))]
 ·cases e0:g k with
  |none=>rw[e0]at hl0;cases hl0
  |some v=>rw[e0]at hl0;exact setL_ne _ _ (free_ne hN e0 l0 hl0)
 ·rcases hl with rfl|rfl
  ·cases e0:g (.c l0 o)with
   |none=>rfl
   |some v=>obtain⟨ty,n,h1⟩:=h.cell l0 o v e0;rw[hL]at h1;cases h1
  ·exact free_none hN (by simp[keyHas])
 ·rcases hl with rfl|rfl
  ·rw[hu,if_pos rfl]at hv;cases hv
  ·have:=hnew v hv
   subst this
   refine⟨by rw[setL_self,List.length_take,Nat.min_eq_left he],?_⟩
   rw[setL_self]
   rcases hrow with⟨h1,h2,h3⟩|⟨h1,h2,cur,h3,h4,h5,h6⟩
   ·exact .inl ⟨h1,by rw[h2];simp,h3⟩
   ·refine .inr ⟨h1,h2,cur,h3,h4,Nat.le_trans (by rw[List.length_take];exact Nat.min_le_right _ _) h5,fun i x hx j cv hcv=>h6 i x ?_ j cv hcv⟩
    rw[List.getElem?_take]at hx
    split at hx
    ·exact hx
    ·cases hx
 ·obtain⟨_,h1,h2⟩:=hown l0 bb hl ho
  exact⟨L,.inl rfl,by rw[hL];exact⟨h1,h2⟩⟩
theorem op_reslice{ty L ety t sz N:Nat}{x y:Operand}{u:SV}{k:IntKind}{e:Int}{l:List (E.G.car t)}{nw:List Nat}(hN:d<b.N)(hx:Ev E s x (.h L))(hy:Ev E s y u)(hu:∀m,den m u= .int k e)(hL:s (.o L)=some (.row ety t l))(h:sliceSz E.P ty=some sz)(h0:0≤e∧e≤(l.length:Int))(hnN:N∈nw):
  OpRun (cxOf E b) ⟨some d,.slice ty x none (some y) none,type,pos,after,guard⟩ s ⟨.o L::(okeys x++okeys y),(.t d,some (.x (.h N)))::[(.o L,none),(.o N,some (.row ety t (l.take e.toNat)))],nw⟩:=
 op_gen rfl hN (fun _ h=>by cases h) fun m A a w g hr hf hrel=>by
  have e1:=(hx.eval hrel (fun k hk=>hr k (by simp[hk]))).1
  have e2:=(hy.eval hrel (fun k hk=>hr k (by simp[hk]))).1
  rw[hu]at e2
  have hgL:g (.o L)=some (.row ety t l):=(hr (.o L) (by simp)).trans hL
  obtain⟨hlen,hrow⟩:=hrel.ent _ _ hgL
  refine⟨_,A,w,?_,trivial,hrel.reslice (e:=e.toNat) hgL (hf N hnN) (by omega)⟩
  have hcap:(m L).n≤(m L).c:=by
   rcases hrow with⟨_,h7,_⟩|⟨_,_,cur,_,_,h7,_⟩
   ·rw[hlen,h7];exact Nat.zero_le _
   ·rw[hlen];exact h7
  have h2:=run_slice2 (P:=E.P) (p:=(m L).p) (n:=(m L).n) (c:=(m L).c) (a:=0) (e:=e.toNat) (lo:=none) (hi:=some (.int k e)) h (.inl ⟨rfl,rfl⟩) (.inr ⟨k,by rw[Int.toNat_of_nonneg h0.1]⟩) (Nat.zero_le _) (by omega) hcap w
  have h3:(if(m L).c=0 then(m L).p else(m L).p.map (·.add (0*sz)))=(m L).p:=by
   split
   ·rfl
   ·rename_i hc
    rcases hrow with⟨h7,_⟩|⟨_,h7,_⟩
    ·exact absurd h7 hc
    ·rw[h7];simp[addr_add]
  rw[h3]at h2
  simp only[Nat.sub_zero]at h2
  simp[execOp,e1,e2,den,h2,setL_self]
theorem Rel.recells{cx:Cx}{m:Nat→MV}{A:Nat→Prop}{g:CMap cx}{a:Act}{w:World}{us:St cx.G.car}(h:Rel cx m A g a w)(hno:∀k,touches k us=true→∃L q,k= .c L q)
  (hus:∀L q v,upd us g (.c L q)=some v→g (.c L q)=some v∨∃x y,v= .x y∧g (.c L q)=some (.x x)∧den m y=den m x∧y.ok m):Rel cx m A (upd us g) a w:=by
 have same:∀k,(∀L q,k≠ .c L q)→upd us g k=g k:=fun k hk=>upd_of_touches (by
  cases e:touches k us with
  |false=>rfl
  |true=>obtain⟨L,q,h1⟩:=hno k e;exact absurd h1 (hk L q)) g
 refine⟨h.size,h.defers,fun k v hk=>?_,fun L q v hv=>?_,fun L b hL=>h.own L b (by rw[same _ (by simp)]at hL;exact hL),fun L L' b hL hL'=>h.inj L L' b (by rw[same _ (by simp)]at hL;exact hL) (by rw[same _ (by simp)]at hL';exact hL'),h.frzc,h.held,h.top,h.fix,h.ko,h.frz0,h.frzA,h.pins⟩
 ·by_cases e:∃L q,k= .c L q
  ·obtain⟨L,q,rfl⟩:=e
   rcases hus L q v hk with h1|⟨x,y,rfl,h1,h2,h3⟩
   ·exact h.ent _ _ h1
   ·obtain⟨⟨cur,ty,h4,h5⟩,h6⟩:=h.ent _ _ h1
    exact⟨⟨cur,ty,h4,by rw[h5,h2]⟩,h3⟩
  ·rw[same k (fun L q h1=>e ⟨L,q,h1⟩)]at hk
   exact h.ent k v hk
 ·rw[same _ (by simp)]
  rcases hus L q v hv with h1|⟨x,y,rfl,h1,_,_⟩
  ·exact h.cell L q _ h1
  ·exact h.cell L q _ h1
def ArOK{E:Env}(s:Map E.G.car)(L:Nat)(i a:Int)(kq:IntKind):Nat→Nat→Nat→St E.G.car→List Key→Prop
 |0,_,_,us,ks=>us=[]∧ks=[]
 |n+1,e,q,us,ks=>∃v b us' ks',s (.c L q)=some (.x v)∧(∀m,den m v= .int kq b)∧us=(.c L q,some (.x (.i kq (if i=(e:Int)then a else b))))::us'∧ks= .c L q::ks'∧ArOK s L i a kq n (Nat.succ e) (Nat.succ q) us' ks'
theorem arCells_sound{c:EC E}{M:Map E.G.car}(hS:Sees c M){L:Nat}{i a:Int}{kq:IntKind}:∀{n e q:Nat} {K:St E.G.car→List Key→Option R},arCells c L i a kq n e q K=some r→∃us ks,K us ks=some r∧ArOK M L i a kq n e q us ks:=by
 intro n
 induction n with
 |zero=>intro e q K h;exact⟨_,_,h,rfl,rfl⟩
 |succ n ih=>
  intro e q K h
  unfold arCells at h
  split at h
  ·rename_i v hv
   obtain⟨k',b,l,h1,h2⟩:=intK_sound h
   obtain⟨h3,h4⟩:=bif_some h1
   have h3:=of_decide_eq_true h3
   subst h3
   obtain⟨us,ks,h5,h6⟩:=ih h4
   exact⟨_,_,h5,v,b,us,ks,(hS.c L q).trans hv,h2,rfl,rfl,h6⟩
  ·cases h
theorem ArOK.touch{M:Map E.G.car}{L:Nat}{i a:Int}{kq:IntKind}:∀{n e q:Nat} {us:St E.G.car} {ks:List Key},ArOK M L i a kq n e q us ks→∀k,touches k us=true→∃j,q≤j∧k= .c L j:=by
 intro n
 induction n with
 |zero=>intro e q us ks h k hk;rw[h.1]at hk;cases hk
 |succ n ih=>
  intro e q us ks h k hk
  obtain⟨v,b,us',ks',_,_,rfl,_,h5⟩:=h
  simp only[touches,Bool.or_eq_true]at hk
  rcases hk with hk|hk
  ·exact⟨q,Nat.le_refl _,(Key.eqb_iff.1 hk).symm⟩
  ·obtain⟨j,h6,h7⟩:=ih h5 k hk
   exact⟨j,by omega,h7⟩
theorem ArOK.get{M:Map E.G.car}{L:Nat}{i a:Int}{kq:IntKind}:∀{n e q:Nat} {us:St E.G.car} {ks:List Key},ArOK M L i a kq n e q us ks→∀j,q≤j→j<q+n→
  ∃v b,M (.c L j)=some (.x v)∧(∀m,den m v= .int kq b)∧.c L j∈ks∧∀g,upd us g (.c L j)=some (.x (.i kq (if i=((e+(j-q):Nat):Int)then a else b))):=by
 intro n
 induction n with
 |zero=>intro e q us ks h j h1 h2;omega
 |succ n ih=>
  intro e q us ks h j h1 h2
  obtain⟨v,b,us',ks',h3,h4,rfl,rfl,h5⟩:=h
  by_cases e0:q=j
  ·subst e0
   refine⟨v,b,h3,h4,by simp,fun g=>?_⟩
   rw[upd_cons,if_pos rfl,Nat.sub_self,Nat.add_zero]
  ·obtain⟨v',b',h6,h7,h8,h9⟩:=ih h5 j (by omega) (by omega)
   refine⟨v',b',h6,h7,by simp[h8],fun g=>?_⟩
   rw[upd_cons,if_neg (by simp[e0]),h9,show Nat.succ e+(j-Nat.succ q)=e+(j-q) by omega]
theorem op_arStore{ty ty' L o' n t N:Nat}{x y:Operand}{i a:Int}{u:SV}{kq:IntKind}{us:St E.G.car}{ks:List Key}(hx:Ev E s x (.a L o' i n 1 0 t))(hy:Ev E s y u)(hu:∀m,den m u= .int kq a)(hL:s (.o L)=some (.sh ty' N))(hsz:sizeIn E.P ty=some 1)(hle:o'+n≤N)(har:ArOK s L i a kq n 0 o' us ks):
  OpRun (cxOf E b) ⟨none,.store ty x y,type,pos,after,guard⟩ s ⟨(.o L::ks)++(okeys x++okeys y),us,[]⟩:=by
 intro m A ac w g hr hf hrel K Q hK
 obtain⟨e1,k1⟩:=hx.eval hrel (fun k hk=>hr k (reads_mem (by simp[hk])))
 obtain⟨e2,_⟩:=hy.eval hrel (fun k hk=>hr k (reads_mem (by simp[hk])))
 have hgL:g (.o L)=some (.sh ty' N):=(hr (.o L) (reads_mem (by simp))).trans hL
 obtain⟨q1,q2⟩:=k1
 have hgks:∀k∈ks,g k=s k:=fun k hk=>hr k (reads_mem (by simp[hk]))
 rw[hu]at e2
 obtain⟨w',hrun,hrel'⟩:=hrel.storeBox (o:=o'+i.toNat) (ys:=[.i kq a]) ⟨trivial,trivial⟩ (fun z hz=>by rw[List.mem_singleton.1 hz];rfl) hgL (by simp only[List.length_singleton];omega)
 refine⟨fun _ _=>trivial,?_⟩
 rw[semAt_of _ _ (by simp)]
 have hrun':(execOp ac.eval ⟨none,.store ty x y,type,pos,after,guard⟩).run E.P w= .ok .skip w':=by
  unfold sizeIn at hsz
  cases hi:E.P.info? ty with
  |none=>rw[hi]at hsz;cases hsz
  |some inf=>
   rw[hi]at hsz
   simp only[Option.map_some,Option.some.injEq]at hsz
   simp only[denL,den]at hrun
   simp[execOp,e1,e2,den,Instr.storeAt,Instr.sureAddr,storeVar,sizeOf,typeInfo,hi,hsz,Value.cells,hrun]
 rw[hrun']
 have hcell:∀k,upd (cellsUp L (o'+i.toNat) [SV.i kq a]) g k=if k= .c L (o'+i.toNat)then some (.x (.i kq a))else g k:=fun k=>by
  simp only[cellsUp]
  rw[upd_one]
  by_cases e:k= .c L (o'+i.toNat)
  ·simp[e]
  ·simp[e,Ne.symm e]
 have hfin:=hrel'.recells (us:=us) (fun k hk=>by obtain⟨j,_,h2⟩:=har.touch k hk;exact⟨L,j,h2⟩) (fun L' q v hv=>?_)
 ·refine hK m A ac w' (hfin.congr fun k=>?_)
  by_cases ht:touches k us=true
  ·obtain⟨j,hj,rfl⟩:=har.touch k ht
   by_cases hjn:j<o'+n
   ·obtain⟨_,_,_,_,_,h6⟩:=har.get j hj hjn
    rw[h6,h6]
   ·have:∀{n e q:Nat} {us:St E.G.car} {ks:List Key},ArOK s L i a kq n e q us ks→q+n≤j→touches (.c L j) us=false:=by
     intro n
     induction n with
     |zero=>intro e q us ks h _;rw[h.1];rfl
     |succ n ih=>
      intro e q us ks h hle
      obtain⟨v,b,us',ks',_,_,rfl,_,h5⟩:=h
      simp only[touches,Bool.or_eq_false_iff]
      refine⟨?_,ih h5 (by omega)⟩
      cases e0:Key.eqb (.c L q) (.c L j)with
      |false=>rfl
      |true=>have:=Key.eqb_iff.1 e0;cases this;omega
    rw[this har (by omega)]at ht
    cases ht
  ·have ht:touches k us=false:=by simpa using ht
   rw[upd_of_touches ht,upd_of_touches ht,hcell,if_neg]
   rintro rfl
   obtain⟨_,_,_,_,_,h6⟩:=har.get (o'+i.toNat) (by omega) (by omega)
   have h7:=h6 (fun _=>none)
   rw[upd_of_touches ht]at h7
   cases h7
 ·by_cases ht:touches (.c L' q) us=true
  ·obtain⟨j,hj,e0⟩:=har.touch _ ht
   cases e0
   by_cases hjn:q<o'+n
   ·obtain⟨v0,b0,h3,h4,h5,h6⟩:=har.get q hj hjn
    rw[h6]at hv
    cases hv
    refine .inr ?_
    by_cases e0:q=o'+i.toNat
    ·refine⟨.i kq a,_,rfl,(hcell _).trans (if_pos (by rw[e0])),?_,trivial⟩
     have:i=((0+(q-o'):Nat):Int):=by omega
     simp only[den,if_pos this]
    ·refine⟨v0,_,rfl,((hcell _).trans (if_neg (by simp[e0]))).trans ((hgks _ h5).trans h3),?_,trivial⟩
     have:¬i=((0+(q-o'):Nat):Int):=by omega
     rw[h4]
     simp only[den,if_neg this]
   ·exact .inl (by
     have h9:=hv
     have:∀{n e q0:Nat} {us:St E.G.car} {ks:List Key},ArOK s L i a kq n e q0 us ks→q0+n≤q→touches (.c L q) us=false:=by
      intro n
      induction n with
      |zero=>intro e q0 us ks h _;rw[h.1];rfl
      |succ n ih=>
       intro e q0 us ks h hle
       obtain⟨v,b,us',ks',_,_,rfl,_,h5⟩:=h
       simp only[touches,Bool.or_eq_false_iff]
       refine⟨?_,ih h5 (by omega)⟩
       cases e0:Key.eqb (.c L q0) (.c L q)with
       |false=>rfl
       |true=>have:=Key.eqb_iff.1 e0;cases this;omega
     rw[this har (by omega)]at ht
     cases ht)
  ·have ht:touches (.c L' q) us=false:=by simpa using ht
   rw[upd_of_touches ht]at hv
   exact .inl hv
theorem chk_so'{p:Prop}{dec:Decidable p}{α:Type}{x:Option α}{r:α}(h:@chk α p dec x=some r):p∧x=some r:=@chk_so p dec α x r h
theorem apartM_so{kt:Nat}{x:E.G.car kt}:∀{hs:List (E.G.car kt×Nat)} {k:Option R},apartM E kt x hs k=some r→k=some r∧∀p∈hs,p.1≠x:=by
 intro hs
 induction hs with
 |nil=>intro k h;exact⟨h,fun p hp=>nomatch hp⟩
 |cons q hs ih=>
  intro k h
  obtain⟨y,a⟩:=q
  obtain⟨h1,h2⟩:=chk_so' h
  obtain⟨h3,h4⟩:=ih h2
  refine⟨h3,fun p hp=>?_⟩
  rcases List.mem_cons.1 hp with rfl|hp
  ·exact h1
  ·exact h4 p hp
theorem ownRow_sound{c:EC E}{M:Map E.G.car}(hS:Sees c M){L:Nat}{K:Nat→(t:Nat)→List (E.G.car t)→Option R}(h:ownRow c.s L K=some r):∃e t l,K e t l=some r∧M (.o L)=some (.row e t l):=by
 unfold ownRow at h
 split at h
 ·rename_i e t l hb
  exact⟨e,t,l,h,(hS.o L).trans hb⟩
 ·cases h
section
variable{c:EC E}{M:Map E.G.car}
theorem in1{a:Nat}:a∈newL a (Nat.succ (Nat.succ a)):=mem_newL.2 ⟨Nat.le_refl _,by omega⟩
theorem in2{a:Nat}:Nat.succ a∈newL a (Nat.succ (Nat.succ a)):=mem_newL.2 ⟨by omega,by omega⟩
theorem in0{a:Nat}:a∈newL a (Nat.succ a):=mem_newL.2 ⟨Nat.le_refl _,by omega⟩
theorem in31{a:Nat}:a∈newL a (Nat.succ (Nat.succ (Nat.succ a))):=mem_newL.2 ⟨Nat.le_refl _,by omega⟩
theorem in32{a:Nat}:Nat.succ a∈newL a (Nat.succ (Nat.succ (Nat.succ a))):=mem_newL.2 ⟨by omega,by omega⟩
theorem in33{a:Nat}:Nat.succ (Nat.succ a)∈newL a (Nat.succ (Nat.succ (Nat.succ a))):=mem_newL.2 ⟨by omega,by omega⟩
theorem dpIx_sound(hS:Sees c M){ty:TypeId}{x y:Operand}{v w:SV}{d:Nat}{K:OpRes E.G.car→Option R}(hx:Ev E M x v)(hy:Ev E M y w)(h:dpIx c ty x y v w d K=some r):
  ∃res,K res=some r∧ResOK c M ⟨some d,.indexAddr ty x y,type,pos,after,guard⟩ res:=by
 obtain⟨k,i,lit,h,hi⟩:=intK_sound h
 cases v with
 |h L=>
  simp only at h
  split at h
  ·rename_i n sz h2 h3
   obtain⟨h5,h⟩:=chk_so h
   exact⟨_,h,fun _ b hd=>by rw[newL_self];exact op_dpIx (hd d rfl) hx hy hi ((hS.x L).trans h2) h3 h5⟩
  ·rename_i sz h3 _
   split at h
   ·rename_i h2
    obtain⟨h5,h⟩:=chk_so h
    exact⟨_,h,fun _ b hd=>by rw[newL_self];exact op_dpIx2 (hd d rfl) hx hy hi ((hS.o L).trans h2) h3 h5⟩
   ·cases h
  ·cases h
 |_=>cases h
theorem dpApp_sound(hS:Sees c M){tt:TypeId}{x y:Operand}{v u:SV}{d:Nat}{K:OpRes E.G.car→Option R}(hx:Ev E M x v)(hy:Ev E M y u)(h:dpApp c tt x y v u d K=some r):
  ∃res,K res=some r∧ResOK c M ⟨some d,.call ⟨.builtin .append, #[x,y], #[tt,tt]⟩,type,pos,after,guard⟩ res:=by
 unfold dpApp at h
 split at h
 ·rename_i LB cp
  split at h
  ·rename_i bl ety sz bytes t hc hf ht
   obtain⟨e',t',q,h1,hrow⟩:=ownRow_sound hS h
   clear h
   split at h1
   ·rename_i x' hdec
    cases hb:(!(Nat.beq sz 1&&Nat.beq sz (E.G.sz t)&&Nat.ble bytes 100000&&E.G.flat t'))with
    |true=>rw[hb,cond_true]at h1;cases h1
    |false=>
     rw[hb,cond_false]at h1
     simp only[Bool.not_eq_false',Bool.and_eq_true]at hb
     obtain⟨⟨⟨b1,b2⟩,b3⟩,b4⟩:=hb
     have b1:=Nat.eq_of_beq_eq_true b1
     have b2:=Nat.eq_of_beq_eq_true b2
     subst b1
     have henc:=E.G.hdec _ _ _ hdec
     have hcell:M (.c LB 0)=some (.x (.h bl)):=(hS.c LB 0).trans hc
     split at h1
     ·refine⟨_,h1,fun _ b hd=>?_⟩
      exact op_dpApp (dr:=[]) (rd:=[]) (hd d rfl) (by rw[←b2];exact hf) b2.symm (Nat.le_of_ble_eq_true b3) hx hy hcell hrow b4 henc .nil (fun L e=>nomatch e) (by simp) in1 in2 (by omega)
     ·rename_i L
      split at h1
      ·rename_i ety2 t2 e2 l S0 hL
       split at h1
       ·rename_i heq
        subst heq
        obtain⟨h2,h3⟩:=bif_some h1
        simp only[Bool.and_eq_true]at h2
        have h4:=Nat.eq_of_beq_eq_true h2.1
        have h5:=Nat.eq_of_beq_eq_true h2.2
        subst h4;subst h5
        obtain⟨h6,h7⟩:=chk_so h3
        refine⟨_,h7,fun _ b hd=>?_⟩
        exact op_dpApp (dr:=[(.o L,none)]) (rd:=[.o L]) (hd d rfl) (by rw[←b2];exact hf) b2.symm (Nat.le_of_ble_eq_true b3) hx hy hcell hrow b4 henc (.row ((hS.o L).trans hL)) (fun L' e=>by cases e;simp) h6 in1 in2 (by omega)
       ·cases h1
      ·cases h1
     ·cases h1
   ·cases h1
  ·cases h
 ·cases h
theorem dpLoad_sound(hS:Sees c M){ty:TypeId}{x:Operand}{v:SV}{d:Nat}{hh:Hint}{K:OpRes E.G.car→Hint→Option R}(hx:Ev E M x v)(h:dpLoad c ty x v d hh K=some r):
  ∃res h',K res h'=some r∧ResOK c M ⟨some d,.load ty x,type,pos,after,guard⟩ res:=by
 cases v with
 |e L i k j=>
  simp only[dpLoad]at h
  split at h
  ·rename_i ety t es l hs S h1
   split at h
   ·rename_i hsh
    have hb0:=bif_some' h
    clear h
    obtain⟨h2,h⟩:=hb0
    have h2:k=E.G.sz t:=Nat.eq_of_beq_eq_true (by simpa using h2)
    subst h2
    split at h
    ·split at h
     ·rename_i a1 i0 j0 a a2 hn
      obtain⟨h3,h6⟩:=bif_some h
      simp only[Bool.and_eq_true,Nat.blt_eq]at h3
      have h7:=Nat.eq_of_beq_eq_true h3.1
      have h9:=h3.2
      subst h7
      obtain⟨h4,h8⟩:=chk_so h6
      refine⟨_,_,h8,fun _ b hd=>?_⟩
      rw[newL_self]
      exact op_dpHole (hd d rfl) hx ((hS.o L).trans h1) hsh (nthH_spec hn) h4 h9
     ·cases h
    ·split at h
     ·rename_i t' q e' hcv he
      have hdec:∀{z:Option R},apartK i j hs z=some r→z=some r∧(0≤i→∀p∈hs,¬(p.1.toNat=i.toNat∧p.2.1=j)):=by
       intro z hz
       by_cases hi:0≤i
       ·exact⟨(apartK_so hi hz).1,fun _=>(apartK_so hi hz).2⟩
       ·have:∀{hs:List (Int×Nat×Nat)},apartK i j hs z=some r→z=some r:=by
         intro hs
         induction hs with
         |nil=>exact id
         |cons q hs ih=>
          obtain⟨i',j',a⟩:=q
          simp only[apartK]
          cases Nat.beq j' j with
          |true=>intro h;exact ih (chk_so h).2
          |false=>exact ih
        exact⟨this hz,fun h=>absurd h hi⟩
      obtain⟨h,hno⟩:=hdec h
      exact⟨_,_,h,fun _ b hd=>op_dpOpen (hd d rfl) hx ((hS.o L).trans h1) hsh hcv he hno in1 in2 (by omega)⟩
     ·cases h
   ·cases h
  ·cases h
 |p L o=>
  simp only[dpLoad]at h
  split at h
  ·rename_i cs h1
   split at h
   ·rename_i y hsh hy
    refine⟨_,_,h,fun _ b hd=>?_⟩
    rw[newL_self]
    exact op_rbLoad (hd d rfl) hx ((hS.x L).trans h1) hsh hy
   ·cases h
  ·cases h
 |_=>cases h
theorem dpStore_sound(hS:Sees c M){ty:TypeId}{x y:Operand}{v u:SV}{hh:Hint}{K:OpRes E.G.car→Hint→Option R}(hx:Ev E M x v)(hy:Ev E M y u)(h:dpStore c ty x y v u hh K=some r):
  ∃res h',K res h'=some r∧ResOK c M ⟨none,.store ty x y,type,pos,after,guard⟩ res:=by
 unfold dpStore at h
 split at h
 ·rename_i L i k j nb
  split at h
  ·rename_i ety t es l hs S h1 hsz
   have hb0:=bif_some' h
   clear h
   obtain⟨h2,h⟩:=hb0
   simp only[Bool.not_eq_false',Bool.and_eq_true,Nat.blt_eq]at h2
   obtain⟨h2,hjk⟩:=h2
   have h2:k=E.G.sz t:=Nat.eq_of_beq_eq_true h2
   subst h2
   split at h
   ·rename_i a1 i0 j0 a a2 hn
    obtain⟨e',t',q,h3,hrow⟩:=ownRow_sound hS h
    split at h3
    ·rename_i e'' x' he hdec
     obtain⟨h4,h5⟩:=bif_some h3
     simp only[Bool.and_eq_true]at h4
     have h6:=Nat.eq_of_beq_eq_true h4.1.1
     have h7:=Nat.eq_of_beq_eq_true h4.1.2
     subst h6
     subst h7
     obtain⟨h8,h9⟩:=chk_so h5
     exact⟨_,_,h9,fun _ b _=>op_dpStore hx hy ((hS.o L).trans h1) hrow hsz (nthH_spec hn) h8 hjk he h4.2 hdec in0⟩
    ·cases h3
   ·cases h
  ·cases h
 ·cases h
theorem dmOpen_sound(hS:Sees c M)(hkeys:∀p∈E.keys,KeyOK E.P E.G p.1 p.2){ty:TypeId}{x y:Operand}{v w:SV}{d:Nat}{hh:Hint}{K:OpRes E.G.car→Hint→Option R}{h':Hint}(hx:Ev E M x v)(hy:Ev E M y w)
  (h:dmOpen c ty v w hh (fun L _ _ y' us nl=>K ⟨.o L::(okeys x++okeys y),(.t d,some (.x y'))::us,nl⟩ h')=some r):
  ∃res,K res h'=some r∧ResOK c M ⟨some d,.lookup ty x y false,type,pos,after,guard⟩ res:=by
 unfold dmOpen at h
 split at h
 ·rename_i L
  split at h
  ·rename_i kt t e l hs zs S h1
   obtain⟨κ,h2,hkey,hki⟩:=keyK_sound h
   split at h2
   ·rename_i el hsl
    split at h2
    ·split at h2
     ·rename_i a1 κ0 a a2 hn
      obtain⟨h3,h4⟩:=chk_so' h2
      subst h3
      refine⟨_,h4,fun _ b hd=>?_⟩
      rw[newL_self]
      exact op_dmHole (hd d rfl) (hkeys _ hkey) (mapSL_spec hsl) hx hy hki ((hS.o L).trans h1) (nthH_spec hn)
     ·cases h2
    ·obtain⟨h3,hno⟩:=apartM_so h2
     exact⟨_,h3,fun _ b hd=>op_dmOpen (hd d rfl) (hkeys _ hkey) (mapSL_spec hsl) hx hy hki ((hS.o L).trans h1) hno in1 in2 (by omega)⟩
   ·cases h2
  ·cases h
 ·cases h
theorem dmSet_sound(hS:Sees c M)(hkeys:∀p∈E.keys,KeyOK E.P E.G p.1 p.2){ty:TypeId}{x y z:Operand}{v w u:SV}{hh:Hint}{K:OpRes E.G.car→Option R}(hx:Ev E M x v)(hy:Ev E M y w)(hz:Ev E M z u)
  (h:dmSet c ty x y z v w u hh K=some r):
  ∃res,K res=some r∧ResOK c M ⟨none,.mapUpdate ty x y z,type,pos,after,guard⟩ res:=by
 unfold dmSet at h
 split at h
 ·rename_i L nb
  split at h
  ·rename_i kt t e l hs zs S h1
   obtain⟨κ,h2,hkey,hki⟩:=keyK_sound h
   split at h2
   ·rename_i a1 κ0 a a2 hn
    obtain⟨e',t',q,h3,hrow⟩:=ownRow_sound hS h2
    obtain⟨h4,h5⟩:=bif_some h3
    simp only[Bool.and_eq_true]at h4
    have h6:=Nat.eq_of_beq_eq_true h4.1
    subst h6
    split at h5
    ·rename_i ht
     subst ht
     obtain⟨h7,h8⟩:=chk_so' h5
     subst h7
     exact⟨_,h8,fun _ b _=>op_dmSet (hkeys _ hkey) hx hy hki hz ((hS.o L).trans h1) hrow (nthH_spec hn) h4.2 in0⟩
    ·cases h5
   ·cases h2
  ·cases h
 ·cases h
theorem dmEntry_sound(hS:Sees c M)(hkeys:∀p∈E.keys,KeyOK E.P E.G p.1 p.2){ty:TypeId}{x y:Operand}{v w:SV}{d:Nat}{K:OpRes E.G.car→Option R}(hx:Ev E M x v)(hy:Ev E M y w)
  (h:dmEntry c ty x y v w d K=some r):
  ∃res,K res=some r∧ResOK c M ⟨some d,.mapEntry ty x y,type,pos,after,guard⟩ res:=by
 unfold dmEntry at h
 split at h
 ·rename_i L
  split at h
  ·rename_i kt t e l zs S h1
   obtain⟨κ,h2,hkey,hki⟩:=keyK_sound h
   split at h2
   ·rename_i el hsl
    exact⟨_,h2,fun _ b hd=>op_dmEntry (hd d rfl) (hkeys _ hkey) (mapSL_spec hsl) hx hy hki ((hS.o L).trans h1) in31 in32 in33 (by omega) (by omega) (by omega)⟩
   ·cases h2
  ·cases h
 ·cases h
theorem dmStore_sound(hS:Sees c M){ty:TypeId}{x y z:Operand}{v w u:SV}{K:OpRes E.G.car→Option R}(hx:Ev E M x v)(hy:Ev E M y w)(hz:Ev E M z u)
  (h:dmStore c ty x y z v w u K=some r):
  ∃res,K res=some r∧ResOK c M ⟨none,.entryStore ty x y z,type,pos,after,guard⟩ res:=by
 unfold dmStore at h
 split at h
 ·rename_i L Z nb
  split at h
  ·rename_i kt t e l κ0 N κ Z' zs S h1
   have hb0:=bif_some h
   clear h
   obtain⟨h2,h⟩:=hb0
   simp only[Bool.and_eq_true]at h2
   have h6:=Nat.eq_of_beq_eq_true h2.1
   subst h6
   obtain⟨e',t',q,h3,hrow⟩:=ownRow_sound hS h
   obtain⟨h4,h5⟩:=bif_some h3
   have h7:=Nat.eq_of_beq_eq_true h4
   subst h7
   split at h5
   ·rename_i ht
    subst ht
    obtain⟨h7,h8⟩:=chk_so' h5
    subst h7
    exact⟨_,h8,fun _ b _=>op_dmStore hx hy hz ((hS.o L).trans h1) hrow h2.2 in0⟩
   ·cases h5
  ·cases h
 ·cases h
set_option maxHeartbeats 1000000 in
theorem opDK_sound(hS:Sees c M)(hkeys:∀p∈E.keys,KeyOK E.P E.G p.1 p.2){o:Oper}{hh:Hint}{K:OpRes E.G.car→Hint→Option R}(h:opDK c o hh K=some r):∃res h',K res h'=some r∧ResOK c M o res:=by
 obtain⟨dst,op,type,pos,after,guard⟩:=o
 unfold opDK at h
 split at h
 ·cases h
 ·rename_i hante
  simp only at h
  split at h
  ·rename_i ty x y d
   obtain⟨v,h1,hv⟩:=evK_sound hS h
   obtain⟨w,h2,hw⟩:=evK_sound hS h1
   obtain⟨res,h3,h4⟩:=dpIx_sound hS hv hw h2
   exact⟨res,_,h3,h4⟩
  ·rename_i ty x d
   obtain⟨v,h1,hv⟩:=evK_sound hS h
   exact dpLoad_sound hS hv h1
  ·rename_i ty x y
   obtain⟨v,h1,hv⟩:=evK_sound hS h
   obtain⟨u,h2,hu⟩:=evK_sound hS h1
   clear h h1
   split at h2
   ·rename_i L o' i n k j t
    unfold arStore at h2
    split at h2
    ·rename_i ty' N hb hsz
     obtain⟨kq,a,l,h3,h4⟩:=intK_sound h2
     obtain⟨h5,h6⟩:=bif_some h3
     simp only[Bool.and_eq_true]at h5
     have h7:=Nat.eq_of_beq_eq_true h5.1.1
     have h8:=Nat.eq_of_beq_eq_true h5.1.2
     subst h7;subst h8
     obtain⟨us,ks,h9,h10⟩:=arCells_sound hS h6
     refine⟨_,_,h9,fun _ b _=>?_⟩
     rw[newL_self]
     exact op_arStore hv hu h4 ((hS.o L).trans hb) hsz (Nat.le_of_ble_eq_true h5.2) h10
    ·cases h2
   ·exact dpStore_sound hS hv hu h2
  ·rename_i bi ags ts d
   split at h
   ·rename_i x ty hx hty
    obtain⟨v,h1,hv⟩:=evK_sound hS h
    clear h
    cases v with
    |h L=>
     simp only at h1
     split at h1
     ·rename_i n sz hn hsz
      have e1:ags= #[x]:=Array.ext' hx
      have e2:ts= #[ty]:=Array.ext' hty
      subst e1;subst e2
      refine⟨_,_,h1,fun _ b hd=>?_⟩
      rw[newL_self]
      refine op_lenG (hd d rfl) hsz hv fun m A a w g hk hrel _=>⟨trivial,(m L).p,(m L).n,(m L).c,rfl,?_⟩
      have hat:(m L).n=n:=(hrel.ent _ _ ((hk (.x L) (by simp)).trans ((hS.x L).trans hn))).1
      simp only[den,hat]
     ·rename_i sz hsz _
      split at h1
      ·rename_i hn
       have e1:ags= #[x]:=Array.ext' hx
       have e2:ts= #[ty]:=Array.ext' hty
       subst e1;subst e2
       refine⟨_,_,h1,fun _ b hd=>?_⟩
       rw[newL_self]
       refine op_lenG (hd d rfl) hsz hv fun m A a w g hk hrel _=>⟨trivial,(m L).p,(m L).n,(m L).c,rfl,?_⟩
       have hat:=(hrel.ent _ _ ((hk (.o L) (by simp)).trans ((hS.o L).trans hn))).1.1
       simp only[den,hat]
      ·cases h1
     ·cases h1
    |_=>cases h1
   ·rename_i x y ty ty' hx hty
    obtain⟨h0,h1⟩:=bif_some h
    have h0:=Nat.eq_of_beq_eq_true h0
    subst h0
    have e1:ags= #[x,y]:=Array.ext' hx
    have e2:ts= #[ty,ty]:=Array.ext' hty
    subst e1;subst e2
    obtain⟨v,h2,hv⟩:=evK_sound hS h1
    obtain⟨u,h3,hu⟩:=evK_sound hS h2
    obtain⟨res,h4,h5⟩:=dpApp_sound hS hv hu h3
    exact⟨res,_,h4,h5⟩
   ·cases h
  ·rename_i bi ags ts
   split at h
   ·rename_i x ty hx hty
    obtain⟨v,h1,hv⟩:=evK_sound hS h
    clear h
    split at h1
    ·rename_i L i n k
     split at h1
     ·rename_i z hz
      obtain⟨ety,t,l,h2,hrow⟩:=ownRow_sound hS h1
      split at h2
      ·rename_i x0 hx0
       obtain⟨h3,h4⟩:=bif_some h2
       simp only[Bool.and_eq_true]at h3
       have e1:ags= #[x]:=Array.ext' hx
       have e2:ts= #[ty]:=Array.ext' hty
       subst e1;subst e2
       have h5:=Nat.eq_of_beq_eq_true h3.2
       subst h5
       obtain⟨e,hel,hze⟩:=Option.bind_eq_some_iff.1 hz
       refine⟨_,_,h4,fun _ b _=>?_⟩
       rw[newL_self]
       exact op_clear hv hel hze hrow (Nat.eq_of_beq_eq_true h3.1.1) hx0 h3.1.2
      ·cases h2
     ·cases h1
    ·cases h1
   ·cases h
  ·rename_i ty x y d
   obtain⟨v,h1,hv⟩:=evK_sound hS h
   clear h
   split at h1
   ·rename_i L
    obtain⟨w,h2,hw⟩:=evK_sound hS h1
    obtain⟨k,e,la,h3,h4⟩:=intK_sound h2
    obtain⟨ety,t,l,h5,hrow⟩:=ownRow_sound hS h3
    split at h5
    ·rename_i sz hsz
     obtain⟨h6,h7⟩:=chk_so h5
     exact⟨_,_,h7,fun _ b hd=>op_reslice (hd d rfl) hv hw h4 hrow hsz h6 in0⟩
    ·cases h5
   ·cases h1
  ·rename_i ty x y ok d
   split at h
   ·obtain⟨v,h1,hv⟩:=evK_sound hS h
    obtain⟨w,h2,hw⟩:=evK_sound hS h1
    obtain⟨res,h3,h4⟩:=dmOpen_sound hS hkeys hv hw h2
    exact⟨res,_,h3,h4⟩
   ·split at h
    ·rename_i zs hzs
     obtain⟨v,h1,hv⟩:=evK_sound hS h
     clear h
     split at h1
     ·rename_i L
      split at h1
      ·rename_i key l hmr
       obtain⟨w,h2,hw⟩:=evK_sound hS h1
       obtain⟨k,n,lit,h3,h4⟩:=intK_sound h2
       obtain⟨h5,h6⟩:=bif_some h3
       have h5:=isI64_eq h5
       subst h5
       obtain⟨res,h',h7,h8⟩:=mrSplit_sound h6
       refine⟨_,_,h7,fun _ b hd=>?_⟩
       rw[newL_self]
       exact op_mrLookup (hd d rfl) hzs (mrOf_sound hS hmr) hv hw h4 h8
      ·cases h1
     ·cases h1
    ·cases h
  ·rename_i ty x y z
   split at h
   ·rename_i zs hzs
    obtain⟨v,h1,hv⟩:=evK_sound hS h
    clear h
    split at h1
    ·rename_i L
     split at h1
     ·rename_i l hmr
      obtain⟨w,h2,hw⟩:=evK_sound hS h1
      obtain⟨k,n,lit,h3,h4⟩:=intK_sound h2
      obtain⟨u,h5,hu⟩:=evK_sound hS h3
      clear h1 h2 h3
      split at h5
      ·rename_i vs
       split at h5
       ·rename_i us hus
        obtain⟨h6,h7⟩:=bif_some h5
        simp only[Bool.and_eq_true]at h6
        have h8:=isI64_eq h6.1
        subst h8
        refine⟨_,_,h7,fun _ b _=>?_⟩
        rw[newL_self]
        exact op_mrInsert hzs ((hS.o L).trans hmr) hv hw h4 hu hus (getR_not h6.2)
       ·cases h5
      ·cases h5
     ·cases h1
    ·cases h1
   ·cases h
  ·rename_i ty x y z
   obtain⟨v,h1,hv⟩:=evK_sound hS h
   obtain⟨w,h2,hw⟩:=evK_sound hS h1
   obtain⟨u,h3,hu⟩:=evK_sound hS h2
   obtain⟨res,h4,h5⟩:=dmSet_sound hS hkeys hv hw hu h3
   exact⟨res,_,h4,h5⟩
  ·rename_i ty x y d
   obtain⟨v,h1,hv⟩:=evK_sound hS h
   obtain⟨w,h2,hw⟩:=evK_sound hS h1
   obtain⟨res,h3,h4⟩:=dmEntry_sound hS hkeys hv hw h2
   exact⟨res,_,h3,h4⟩
  ·rename_i ty x y z
   obtain⟨v,h1,hv⟩:=evK_sound hS h
   obtain⟨w,h2,hw⟩:=evK_sound hS h1
   obtain⟨u,h3,hu⟩:=evK_sound hS h2
   obtain⟨res,h4,h5⟩:=dmStore_sound hS hv hw hu h3
   exact⟨res,_,h4,h5⟩
  ·rename_i ty x y d
   obtain⟨v,h1,hv⟩:=evK_sound hS h
   obtain⟨w,h2,hw⟩:=evK_sound hS h1
   obtain⟨k,n,la,h3,h4⟩:=intK_sound h2
   obtain⟨k',p,lb,h5,h6⟩:=intK_sound h3
   clear h h1 h2 h3
   split at h5
   ·rename_i ety hety
    split at h5
    ·rename_i e0 sz bytes t e' ha ht hz he'
     obtain⟨h7,h8⟩:=bif_some h5
     clear h5
     simp only[Bool.and_eq_true]at h7
     split at h8
     ·rename_i t' x0 hsl hx0
      obtain⟨h9,h10⟩:=bif_some h8
      obtain⟨h11,h12⟩:=chk_so h10
      have hs1:E.G.sz t=1:=(Nat.eq_of_beq_eq_true h7.1.2).symm.trans (Nat.eq_of_beq_eq_true h7.1.1)
      have hs2:=Nat.eq_of_beq_eq_true h7.1.2
      rw[hs2]at ha
      rw[hsl]at hx0
      exact⟨_,_,h12,fun _ b hd=>op_dpMake (hd d rfl) hv hw h4 h6 ha hety (Nat.le_of_ble_eq_true h7.2) hz hs1 h9 hx0 h11 in1 in2 (by omega)⟩
     ·cases h8
    ·cases h5
   ·cases h5
  ·rename_i ty d
   split at h
   ·rename_i el hsl
    split at h
    ·exact⟨_,_,h,fun _ b hd=>op_dmMake (hd d rfl) in1 in2 (by omega)⟩
    ·cases h
   ·split at h
    ·exact⟨_,_,h,fun _ b hd=>op_mrMake (hd d rfl)⟩
    ·cases h
  ·cases h
end
end
end
end Go.KX

namespace Go.KX
open Go Go.RowKit
noncomputable section
section
variable{E:Env}{R:Type}{r:R}{fx:Fix}
def Same0(E:Env)(fx:Fix)(s s':XS E.G.car):Prop:=
 ∀(b:Base) (m:Nat→MV) (A:Nat→Prop) (a:Act) (w:World),b.pn≤fx.pn→Rel (cxOf E b) m A (s.map 0) a w→∃m',Rel (cxOf E b) m' A (s'.map 0) a w
theorem Same0.refl(s:XS E.G.car):Same0 E fx s s:=fun _ m _ _ _ _ h=>⟨m,h⟩
theorem Same0.trans{s s' s'':XS E.G.car}(h:Same0 E fx s s')(h':Same0 E fx s' s''):Same0 E fx s s'':=fun b m A a w hb hr=>by
 obtain⟨m1,h1⟩:=h b m A a w hb hr
 exact h' b m1 A a w hb h1
theorem oks_free{s:XS E.G.car}(hs:OKS E fx s){b:Base}(hb:b.pn≤fx.pn){L:Nat}(hL:s.nl≤L):Free (cxOf E b) L (s.map 0):=
 ⟨hs.inv.free hL,fun p hp e=>by have:=hs.glo p hp;omega,Nat.le_trans hb (Nat.le_trans hs.pn hL)⟩
theorem lab_rec{s:XS E.G.car}{L q:Nat}{v:Val E.G.car}(h:s.lab L q=some v):∃e,s.rec? L q=some e∧e.v=some v:=by
 simp only[XS.lab]at h
 split at h
 ·rename_i e he;exact⟨e,he,h⟩
 ·cases h
theorem oks_lab{s:XS E.G.car}(hs:OKS E fx s){L q:Nat}{v:Val E.G.car}(h:s.lab L q=some v):L<s.nl∧v.lt s.nl=true:=by
 obtain⟨e,h1,h2⟩:=lab_rec h
 obtain⟨h3,h4⟩:=hs.inv.o L q e h1
 exact⟨h3,h4 v h2⟩
theorem close_step{d nl:Nat}{s:XS E.G.car}{u:St E.G.car}(hs:OKS E fx s)(hn:s.nl≤nl)(hu:upBelow nl u=true)
  (h:∀(b:Base) (m:Nat→MV) (A:Nat→Prop) (a:Act) (w:World),b.pn≤fx.pn→Rel (cxOf E b) m A (s.map 0) a w→∃m',Rel (cxOf E b) m' A (upd u (s.map 0)) a w):
  OKS E fx ⟨(XS.updF d 0 u s).t,(XS.updF d 0 u s).o,nl⟩∧Ext d s ⟨(XS.updF d 0 u s).t,(XS.updF d 0 u s).o,nl⟩∧Same0 E fx s ⟨(XS.updF d 0 u s).t,(XS.updF d 0 u s).o,nl⟩:=by
 obtain⟨h1,h2,h3⟩:=XS.map_updF d (f:=0) (by omega) s (upBelow_ups hu)
 refine⟨⟨Inv.updF hs.inv hn hu,fun p hp=>Nat.lt_of_lt_of_le (hs.glo p hp) hn,Nat.le_trans hs.pn hn⟩,⟨h3.t,h3.o,hn⟩,fun b m A a w hb hr=>?_⟩
 obtain⟨m',h4⟩:=h b m A a w hb hr
 exact⟨m',h4.congr fun k=>by rw[←h1];rfl⟩
theorem closeN_sound{d L keep:Nat}:∀(n:Nat) (s:XS E.G.car) {K:XS E.G.car→Option R},OKS E fx s→closeN d L keep n s K=some r→∃s',K s'=some r∧OKS E fx s'∧Ext d s s'∧Same0 E fx s s':=by
 intro n
 induction n with
 |zero=>intro s K _ h;cases h
 |succ n ih=>
  intro s K hs h
  have hS:Sees (E:=E) ⟨fun t=>s.tmp 0 t,s,none⟩ (s.map 0):=⟨fun i v hv=>by
   have hv':s.tmp 0 i=some v:=hv
   simp only[XS.map,hv',Option.map_some],fun _=>rfl,fun _=>rfl,fun _ _=>rfl⟩
  have next:∀{u:St E.G.car} {nl:Nat},s.nl≤nl→upBelow nl u=true→(∀(b:Base) (m:Nat→MV) (A:Nat→Prop) (a:Act) (w:World),b.pn≤fx.pn→Rel (cxOf E b) m A (s.map 0) a w→∃m',Rel (cxOf E b) m' A (upd u (s.map 0)) a w)→
    (XS.upd d 0 u s fun s'=>closeN d L keep n ⟨s'.t,s'.o,nl⟩ K)=some r→∃s',K s'=some r∧OKS E fx s'∧Ext d s s'∧Same0 E fx s s':=fun hn hu hrel hk=>by
   rw[XS.upd_eq]at hk
   obtain⟨o1,x1,e1⟩:=close_step (d:=d) hs hn hu hrel
   obtain⟨s',h1,o2,x2,e2⟩:=ih _ o1 hk
   exact⟨s',h1,o2,x1.trans x2,e1.trans e2⟩
  unfold closeN at h
  split at h
  ·rename_i ety t es l i j a hs' S hL
   cases hkeep:(Nat.beq keep (Nat.succ a)&&hs'.isEmpty)with
   |true=>rw[hkeep,cond_true]at h;exact⟨s,h,hs,Ext.refl _ _,Same0.refl _⟩
   |false=>
   rw[hkeep,cond_false]at h
   obtain⟨e',t',q,h1,hrow⟩:=ownRow_sound (c:=⟨fun t=>s.tmp 0 t,s,none⟩) hS h
   clear h
   split at h1
   ·rename_i e'' x' he hdec
    obtain⟨h2,h3⟩:=bif_some h1
    simp only[Bool.and_eq_true,Nat.blt_eq]at h2
    obtain⟨⟨h4,hfl⟩,hj⟩:=h2
    have h4:=Nat.eq_of_beq_eq_true h4
    subst h4
    obtain⟨b1,b2⟩:=oks_lab hs hL
    obtain⟨b3,_⟩:=oks_lab hs (show s.lab a 0=some _ from hrow)
    simp only[Val.lt,Bool.and_eq_true,Nat.blt_eq,List.all_cons,List.all_eq_true]at b2
    refine next (Nat.le_succ _) (by
     simp only[upBelow,okUp,Val.lt,Bool.and_eq_true,Nat.blt_eq,List.all_eq_true,Bool.true_and,Bool.and_true]
     exact⟨Nat.lt_succ_of_lt b3,⟨Nat.lt_succ_of_lt b1,Nat.lt_succ_self _,fun q hq=>Nat.lt_succ_of_lt (b2.2.2 q hq)⟩⟩) (fun b m A ac w hb hr=>?_) h3
    have hgL:s.map 0 (.o L)=some (.dp ety t es l ([]++(i,j,a)::hs') S):=hL
    obtain⟨_,_,hho⟩:=hr.ent _ _ hgL
    obtain⟨g1,g2⟩:=hho.lt (i,j,a) (by simp)
    have hx1:l[i.toNat]?=some (l.getD i.toNat (E.G.dft t)):=getD_some g1 g2
    obtain⟨m',hrel2,_⟩:=hr.closeRow (S':=s.nl) (x':=x') (q:=q) hgL hrow hx1 hj (E.G.hdec _ _ _ hdec) he hfl (oks_free hs hb (Nat.le_refl _))
    exact⟨m',hrel2⟩
   ·cases h1
  ·rename_i kt t e l κ a hs' zs S hL
   obtain⟨e',t',q,h1,hrow⟩:=ownRow_sound (c:=⟨fun t=>s.tmp 0 t,s,none⟩) hS h
   clear h
   obtain⟨h2,h3⟩:=bif_some h1
   simp only[Bool.and_eq_true]at h2
   have h4:=Nat.eq_of_beq_eq_true h2.1
   have hfl:=h2.2
   subst h4
   split at h3
   ·rename_i ht
    subst ht
    obtain⟨b1,b2⟩:=oks_lab hs hL
    obtain⟨b3,_⟩:=oks_lab hs (show s.lab a 0=some _ from hrow)
    simp only[Val.lt,Bool.and_eq_true,Nat.blt_eq,List.all_cons,List.all_eq_true]at b2
    refine next (Nat.le_succ _) (by
     simp only[upBelow,okUp,Val.lt,Bool.and_eq_true,Nat.blt_eq,List.all_eq_true,Bool.true_and,Bool.and_true]
     exact⟨Nat.lt_succ_of_lt b3,⟨Nat.lt_succ_of_lt b1,⟨Nat.lt_succ_self _,fun q hq=>Nat.lt_succ_of_lt (b2.1.2.2 q hq)⟩,fun q hq=>Nat.lt_succ_of_lt (b2.2 q hq)⟩⟩) (fun b m A ac w hb hr=>?_) h3
    have hgL:s.map 0 (.o L)=some (.dm kt t' e l ([]++(κ,a)::hs') zs S):=hL
    obtain⟨m',hrel2,_⟩:=hr.closeMap (S':=s.nl) (q:=q) hgL hrow hfl (oks_free hs hb (Nat.le_refl _))
    exact⟨m',hrel2⟩
   ·cases h3
  ·rename_i kt t e l z zs S hL
   obtain⟨b1,b2⟩:=oks_lab hs hL
   simp only[Val.lt,Bool.and_eq_true,Nat.blt_eq,List.all_cons,List.all_nil,Bool.and_true]at b2
   refine next (Nat.le_refl _) (by
    simp only[upBelow,okUp,Val.lt,Bool.and_eq_true,Nat.blt_eq,List.all_nil,Bool.true_and,Bool.and_true]
    exact⟨b1,b2.1⟩) (fun b m A ac w hb hr=>⟨m,hr.dropStamps hL⟩) h
  ·exact⟨s,h,hs,Ext.refl _ _,Same0.refl _⟩
theorem closeC_sound{d:Nat}:∀(l:List (Nat×Nat×Nat)) (s:XS E.G.car) {K:XS E.G.car→Option R},OKS E fx s→closeC d l s K=some r→∃s',K s'=some r∧OKS E fx s'∧Ext d s s'∧Same0 E fx s s':=by
 intro l
 induction l with
 |nil=>intro s K hs h;exact⟨s,h,hs,Ext.refl _ _,Same0.refl _⟩
 |cons x l ih=>
  intro s K hs h
  obtain⟨L,x⟩:=x
  obtain⟨s1,h1,o1,x1,e1⟩:=closeN_sound 64 s hs h
  obtain⟨s2,h2,o2,x2,e2⟩:=ih s1 o1 h1
  exact⟨s2,h2,o2,x1.trans x2,e1.trans e2⟩
end
end
end Go.KX

namespace Go.KX
open Go Go.RowKit
noncomputable section
section
variable{E:Env}{b b':Base}{m:Nat→MV}{A:Nat→Prop}{g g':Map E.G.car}{a a':Act}{w:World}
structure SameB(b b':Base):Prop where
 B:b'.B=b.B
 w0:b'.w0=b.w0
 kob:b'.kob=b.kob
 A0:b'.A0=b.A0
 bor:b'.bor=b.bor
 pn:b'.pn=b.pn
 pm:b'.pm=b.pm
theorem Rel.acts(h:Rel (cxOf E b) m A g a w)(hb:SameB b b')(hsz:a'.tmps.size=b'.N)(hd:Marks b'.ds b'.B a'.defers w)(hg:∀k L,k.lab=some L→g' k=g k)
  (ht:∀i v,g' (.t i)=some v→∃x,v= .x x∧a'.tmps[i]?=some (den m x)∧x.ok m) (hu:∀l i,g' (.u l i)=none) (ha:g' .a=none):Rel (cxOf E b') m A g' a' w:=by
 obtain⟨hB,hw0,hkob,hA0,hbor,hpn,hpm⟩:=hb
 have hmine:∀{x},(cxOf E b).mine x→(cxOf E b').mine x:=fun{x} h=>by simpa only[Cx.mine,cxOf,hB,hbor]using h
 have ho:∀{L},g' (.o L)=g (.o L):=fun{L}=>hg _ L rfl
 refine⟨hsz,hd,fun k v hk=>?_,fun L o v hv=>?_,fun L x hL=>?_,fun L L' x h1 h2=>?_,h.frzc,?_,by show b'.B≤_;rw[hB];exact h.top,h.fix,trivial,fun x hx=>?_,fun x hx=>?_,fun L hL=>?_⟩
 ·cases e:k.lab with
  |some L=>
   rw[hg k L e]at hk
   exact at_lab e (h.ent k v hk) fun x q _ hq=>by rw[←hkob];exact hq
  |none=>
   cases k with
   |t i=>
    obtain⟨x,rfl,h1,h2⟩:=ht i v hk
    exact⟨h1,h2⟩
   |u l i=>rw[hu]at hk;cases hk
   |a=>rw[ha]at hk;cases hk
   |_=>cases e
 ·rw[hg _ L rfl]at hv
  rw[ho]
  exact h.cell L o v hv
 ·rw[ho]at hL
  exact⟨hmine (h.own L x hL).1,(h.own L x hL).2⟩
 ·rw[ho]at h1 h2
  exact h.inj L L' x h1 h2
 ·refine⟨?_,?_,?_,?_,fun k hk hn=>?_⟩
  ·show _=b'.w0.os;rw[hw0];exact h.held.os
  ·show _=b'.w0.tape;rw[hw0];exact h.held.tape
  ·show Out b'.w0 _;rw[hw0];exact h.held.output
  ·show b'.w0.heap.size≤_;rw[hw0];exact h.held.size
  ·show _=b'.w0.heap[k]?
   rw[hw0]
   exact h.held.block k (by have:k<b'.B:=hk;rw[hB]at this;exact this) (by have:¬b'.bor k:=hn;rw[hbor]at this;exact this)
 ·rcases h.frz0 x hx with h1|h1
  ·exact .inl (by show b'.A0 x;rw[hA0];exact h1)
  ·exact .inr (hmine h1)
 ·exact h.frzA x (by have:b'.A0 x:=hx;rw[hA0]at this;exact this)
 ·show m L=b'.pm L
  rw[hpm]
  exact h.pins L (by have:L<b'.pn:=hL;rw[hpn]at this;exact this)
end
theorem resVal_den(m:Nat→MV)(vs:List SV):den m (resVal vs)=resV (denL m vs):=by
 cases vs with
 |nil=>rfl
 |cons x r=>cases r<;>rfl
theorem resVal_ok{m:Nat→MV}{vs:List SV}(h:okL m vs):(resVal vs).ok m:=by
 cases vs with
 |nil=>trivial
 |cons x r=>
  cases r with
  |nil=>exact h.1
  |cons y r=>exact h
def noAct:Act:={ tmps:= #[],defers:=[] }
def FnDoes(E:Env)(gl:List (Nat×Val E.G.car))(fx:Fix)(k:Nat)(xs:List SV)(v:SV)(s0 s':XS E.G.car):Prop:=
 ∀(b:Base) (m:Nat→MV) (A:Nat→Prop) (w:World),Good E gl fx b→b.N=0→b.ds=false→b.r=none→Rel (cxOf E b) m A (s0.map 0) noAct w→okL m xs→
  Calls E.P k (denL m xs).toArray w fun e w'=>∃m' A',e= .returned (den m' v)∧v.ok m'∧Rel (cxOf E b) m' A' (s'.map 0) noAct w'
def YDoes(E:Env)(gl:List (Nat×Val E.G.car))(fx:Fix)(y:YI)(xs:List SV)(v:SV)(s0 s':XS E.G.car):Prop:=
 ∀(b:Base) (m:Nat→MV) (A:Nat→Prop) (w:World) (fn:FuncId) (aT:Array Value) (D:Nat),Good E gl fx b→b.N=0→b.ds=false→b.r=none→YIs b y fn aT D→Rel (cxOf E b) m A (s0.map 0) noAct w→okL m xs→
  RoundIn Fence.wide 0 E.P (b.pm y.L).b fn ((y.ps.zip (denL m xs).toArray).foldl (fun tmps (t,a)=>tmps.setIfInBounds t a) aT) y.assign y.body w fun e w'=>∃m' A',e= .returned (den m' v)∧v.ok m'∧Rel (cxOf E b) m' A' (s'.map 0) noAct w'
def CallDoes(E:Env)(gl:List (Nat×Val E.G.car))(fx:Fix)(c:Callee)(xs:List SV)(v:SV)(s0 s':XS E.G.car):Prop:=
 match c with
 | .fn k=>Proofs.Enters E.P k∧FnDoes E gl fx k xs v s0 s'
 | .y L=>∃y∈fx.ys,y.L=L∧s0.map 0 (.o L)=some (.lp false)∧xs.length=y.ps.size∧YDoes E gl fx y xs v s0 s'
def RunOK(E:Env)(gl:List (Nat×Val E.G.car))(ys:List YI){R:Type}(I:Run E R):Prop:=
 ∀(c:Callee) (d:Nat) (xs:List SV) (s0:XS E.G.car) (h:Hint) (K:Hint→SV→XS E.G.car→Option R) (r:R),OKS E ⟨s0.nl,ys⟩ s0→s0.t= .e→ltL s0.nl xs=true→I c d xs s0 h K=some r→
  ∃h' v s',K h' v s'=some r∧OKS E ⟨s0.nl,ys⟩ s'∧s'.t= .e∧Ext d s0 s'∧CallDoes E gl ⟨s0.nl,ys⟩ c xs v s0 s'
section
variable{E:Env}{R:Type}{r:R}{gl:List (Nat×Val E.G.car)}{fx:Fix}
structure InRes(E:Env)(gl:List (Nat×Val E.G.car))(ys:List YI)(c:Callee)(xs:List SV)(M:Map E.G.car)(n d:Nat)(ls:List Nat)(s0 s':XS E.G.car)(v:SV):Prop where
 part:PartOf M n ls s0
 inv0:Inv s0
 inv:Inv s'
 ext:Ext (Nat.succ d) s0 s'
 lt:∀L∈ls,L<n
 vlt:v.lt s'.nl=true
 does:CallDoes E gl ⟨n,ys⟩ c xs v s0 s'
theorem tmp_e{s:XS E.G.car}(h:s.t= .e)(i:Nat):s.map 0 (.t i)=none:=by simp only[XS.map,XS.tmp,h];rfl
theorem tmp_u{s:XS E.G.car}(l i:Nat):s.map 0 (.u l i)=none:=rfl
theorem CallDoes.arr{c:Callee}{xs:List SV}{v v':SV}{s0 s2 s4 sc:XS E.G.car}{T:Tpl}{d:Nat}{ρ:Rho}{n:Nat}{ys:List YI}(hs:OKS E ⟨n,ys⟩ s0)(hF:Final T s0.nl ρ)(h1:CallDoes E gl ⟨n,ys⟩ c xs v s0 s2)
  (ht:s2.t= .e) (hsame:Same0 E ⟨n,ys⟩ (⟨(PT.e:PT (Nat×Option SV)).set (tk 0 0) (d,some v),s2.o,s2.nl⟩:XS E.G.car) sc) (hst:StOK T d s0 sc ρ (fun _ _=>False) s4) (hv:resOf c s4=some v'):CallDoes E gl ⟨n,ys⟩ c xs v' s0 ⟨.e,s4.o,s4.nl⟩:=by
 have key:∀(b:Base) (m':Nat→MV) (A':Nat→Prop) (w':World),Good E gl ⟨n,ys⟩ b→b.N=0→b.ds=false→b.r=none→v.ok m'→Rel (cxOf E b) m' A' (s2.map 0) noAct w'→
   ∃m'' A'',(s4.tmp 0 0=some v'→den m'' v'=den m' v∧v'.ok m'')∧Rel (cxOf E b) m'' A'' ((⟨.e,s4.o,s4.nl⟩:XS E.G.car).map 0) noAct w':=by
  intro b m' A' w' hg hN hds hr hok hrel
  let b1:Base:={ b with N:=1 }
  have hsb:SameB b b1:=⟨rfl,rfl,rfl,rfl,rfl,rfl,rfl⟩
  have hsb':SameB b1 b:=⟨rfl,rfl,rfl,rfl,rfl,rfl,rfl⟩
  have hmk:Marks b.ds b.B [] w':=by rw[hds];exact marks_nil
  have hget:∀i,(⟨(PT.e:PT (Nat×Option SV)).set (tk 0 0) (d,some v),s2.o,s2.nl⟩:XS E.G.car).tmp 0 i=if i=0 then some v else none:=fun i=>by
   simp only[XS.tmp,PT.get_set]
   by_cases e:i=0
   ·subst e;simp
   ·have:tk 0 0≠tk 0 i:=fun h=>e (by have h':0*16+0=i*16+0:=h;omega)
    rw[if_neg this,if_neg e];rfl
  have h2:Rel (cxOf E b1) m' A' ((⟨(PT.e:PT (Nat×Option SV)).set (tk 0 0) (d,some v),s2.o,s2.nl⟩:XS E.G.car).map 0) ⟨#[den m' v],[]⟩ w':=by
   refine hrel.acts hsb rfl hmk (fun k L hk=>by cases k<;>first|(cases hk;done)|rfl) (fun i x hx=>?_) (fun l i=>?_) rfl
   ·have hx':((⟨(PT.e:PT (Nat×Option SV)).set (tk 0 0) (d,some v),s2.o,s2.nl⟩:XS E.G.car).tmp 0 i).map Val.x=some x:=hx
    rw[hget]at hx'
    by_cases e:i=0
    ·subst e
     rw[if_pos rfl]at hx';cases hx'
     exact⟨v,rfl,rfl,hok⟩
    ·rw[if_neg e]at hx';cases hx'
   ·rfl
  obtain⟨mc,h2⟩:=hsame b1 m' A' _ w' hg.pn h2
  obtain⟨m'',A'',h3⟩:=hst.rel (b:=b1) hs hF hg.pn h2
  refine⟨m'',A'',fun hv=>?_,h3.acts (b:=b1) hsb' (by simp[noAct,hN]) hmk (fun k L hk=>by cases k<;>first|(cases hk;done)|rfl) (fun i x hx=>by cases hx) (fun l i=>tmp_u l i) rfl⟩
  have h4:s4.map 0 (.t 0)=some (.x v'):=by simp only[XS.map,hv,Option.map_some]
  obtain⟨h5,h6⟩:=h3.ent _ _ h4
  have h5':(#[den m' v]:Array Value)[0]?=some (den m'' v'):=h5
  exact⟨by simpa using h5'.symm,h6⟩
 cases c with
 |fn k=>
  obtain⟨hen,hdo⟩:=h1
  refine⟨hen,fun b m A w hg hN hds hr hrel hxs=>(hdo b m A w hg hN hds hr hrel hxs).mono fun e w' ⟨m',A',he,hok,h'⟩=>?_⟩
  obtain⟨m'',A'',h23,h4⟩:=key b m' A' w' hg hN hds hr hok h'
  obtain⟨h2,h3⟩:=h23 hv
  exact⟨m'',A'',by rw[he,h2],h3,h4⟩
 |y L=>
  obtain⟨y,hy,hL,hv2,hlen,hdo⟩:=h1
  refine⟨y,hy,hL,hv2,hlen,fun b m A w fn aT D hg hN hds hr hY hrel hxs=>(hdo b m A w fn aT D hg hN hds hr hY hrel hxs).mono fun e w' ⟨m',A',he,hok,h'⟩=>?_⟩
  obtain⟨m'',A'',h23,h4⟩:=key b m' A' w' hg hN hds hr hok h'
  obtain⟨h2,h3⟩:=h23 hv
  exact⟨m'',A'',by rw[he,h2],h3,h4⟩
end
end
end Go.KX

namespace Go.KX
open Go Go.RowKit
noncomputable section
section
variable{E:Env}{R:Type}{r:R}{gl:List (Nat×Val E.G.car)}{fx:Fix}
theorem inlK_sound{I:Run E R}{ys:List YI}(hI:RunOK E gl ys I){s:XS E.G.car}(hs:Inv s)(hglo:∀p∈E.glo,p.1<s.nl){M:Map E.G.car}(hM:∀k L,k.lab=some L→M k=s.map 0 k)
  {c:Callee} {d:Nat} {roots:List Nat} {xs:List SV} {rd:List Key} {od:Option Nat} {h:Hint} {F0:Nat} {K:OpRes E.G.car→Hint→Option R} (hk:inlK F0 I d s c roots xs rd od h K=some r):
  ∃ls s0 s' v h',K (inFin d ls s0 od rd s' v) h'=some r∧InRes E gl ys c xs M s.nl d ls s0 s' v:=by
 unfold inlK at hk
 generalize closeL s 3000 (svLabsL xs++roots) []=ls at hk
 obtain⟨hc,hk⟩:=bif_some' hk
 simp only[Bool.not_eq_eq_eq_not,Bool.not_false,Bool.and_eq_true,List.all_eq_true,Nat.blt_eq]at hc
 obtain⟨hxs,hls⟩:=hc
 obtain⟨o',hk,ho⟩:=keepL_sound _ _ hk
 have rc:∀L q,XS.rec? (⟨.e,o',s.nl⟩:XS E.G.car) L q=if L∈ls then s.rec? L q else none:=fun L q=>by
  simp only[XS.rec?,ho]
  by_cases e:L∈ls
  ·simp only[if_pos e]
  ·simp only[if_neg e];rfl
 have o1:OKS E ⟨s.nl,ys⟩ (⟨.e,o',s.nl⟩:XS E.G.car):=by
  refine⟨⟨fun k a v hv=>(nomatch hv),fun L q e he=>?_⟩,hglo,Nat.le_refl _⟩
  rw[rc]at he
  split at he
  ·exact hs.o L q e he
  ·cases he
 obtain⟨s0,hk,o2,_,m2,t2,n2⟩:=restL_sound' _ _ o1 hk
 have t2:s0.t= .e:=t2
 have n2:s0.nl=s.nl:=n2
 obtain⟨hok,hk⟩:=bif_some' hk
 have part:PartOf M s.nl ls s0:=by
  have lab:∀L q,XS.lab (⟨.e,o',s.nl⟩:XS E.G.car) L q=if L∈ls then s.lab L q else none:=fun L q=>by
   simp only[XS.lab,rc]
   by_cases e:L∈ls
   ·simp only[if_pos e]
   ·simp only[if_neg e]
  refine⟨t2,n2,fun k L hk hL=>?_,fun k L hk hL=>?_,by simpa using hok⟩
  ·rw[m2,hM k L hk]
   cases k<;>first|(cases hk;done)|(cases hk;exact(lab _ _).trans (if_pos hL))
  ·rw[m2]
   cases k<;>first|(cases hk;done)|(cases hk;exact(lab _ _).trans (if_neg hL))
 have o3:OKS E ⟨s0.nl,ys⟩ s0:=by rw[n2];exact o2
 have hxs':ltL s0.nl xs=true:=by rw[n2];exact hxs
 have plain:∀(a b:Hint),I c (Nat.succ d) xs s0 a (fun _ v s'=>finK d ls s0 od rd K b v s')=some r→∃ls s0 s' v h',K (inFin d ls s0 od rd s' v) h'=some r∧InRes E gl ys c xs M s.nl d ls s0 s' v:=by
  intro a b hk
  obtain⟨h',v,s',h1,o4,_,x4,hd⟩:=hI c _ xs s0 a _ r o3 t2 hxs' hk
  obtain⟨hlt,h1⟩:=bif_some h1
  exact⟨ls,s0,s',v,b,h1,part,o2.inv,o4.inv,x4,hls,hlt,by rw[n2]at hd;exact hd⟩
 cases h with
 |w T a b=>
  have hk:I c (Nat.succ d) xs s0 a (fun _ v s'=>bif v.lt s'.nl then withRes (Nat.succ d) s' v fun s'=>closeC (Nat.succ d) T.rw s' fun s'=>arrK T d s0 s' (fun x=>stK T (Nat.succ d) s0 x fun s'=>match resOf c s' with
    |some v=>finK d ls s0 od rd K b v ⟨.e,s'.o,s'.nl⟩
    |none=>none)else none)=some r:=join_some hk
  obtain⟨h',v,s1,h1,o4,t4,x4,hd⟩:=hI c _ xs s0 a _ r o3 t2 hxs' hk
  obtain⟨hlt,h1⟩:=bif_some h1
  simp only[withRes,PT.setK_set]at h1
  have hx:Ext (Nat.succ d) s0 (⟨(PT.e:PT (Nat×Option SV)).set (tk 0 0) (Nat.succ d,some v),s1.o,s1.nl⟩:XS E.G.car):=⟨fun k x hx hlt=>(by
   have hx':((PT.e:PT (Nat×Option SV)).set (tk 0 0) (Nat.succ d,some v)).get k=some x:=hx
   rw[PT.get_set]at hx'
   split at hx'
   ·cases hx';exact absurd hlt (Nat.lt_irrefl _)
   ·cases hx'),fun L q e he hlt=>x4.o L q e he hlt,x4.nl⟩
  have osr:OKS E ⟨s0.nl,ys⟩ (⟨(PT.e:PT (Nat×Option SV)).set (tk 0 0) (Nat.succ d,some v),s1.o,s1.nl⟩:XS E.G.car):=⟨⟨fun k a' v' hv'=>(by
   have hv':((PT.e:PT (Nat×Option SV)).set (tk 0 0) (Nat.succ d,some v)).get k=some (a',some v'):=hv'
   rw[PT.get_set]at hv'
   split at hv'
   ·cases hv';exact hlt
   ·cases hv'),o4.inv.o⟩,o4.glo,o4.pn⟩
  obtain⟨sc,h1,osc,xsc,esc⟩:=closeC_sound T.rw _ osr h1
  have hold:OldS T d s0 sc:=OldS.of_ext (hx.trans xsc)
  obtain⟨y,h2,harr⟩:=arr_sound (d:=Nat.succ d) (d':=d) o2.inv hold h1
  ·obtain⟨s4,ρ,h3,hF,hst⟩:=harr r _ h2
   split at h3
   ·rename_i v' hv'
    obtain⟨hlt',h3⟩:=bif_some h3
    rw[n2]at hd
    have o5:=hst.oks o2 hF
    have hex:=hst.ext hF
    exact⟨ls,s0,⟨.e,s4.o,s4.nl⟩,v',b,h3,part,o2.inv,⟨fun k a v hv=>(nomatch hv),o5.inv.o⟩,⟨fun k x hx _=>(nomatch hx),hex.o,hex.nl⟩,hls,hlt',hd.arr o2 hF t4 (by rw[n2]at esc;exact esc) hst hv'⟩
   ·cases h3
 |i a b=>exact plain _ _ hk
 |p a=>
  obtain⟨h',v,s',h1,o4,_,x4,hd⟩:=hI c _ xs s0 a _ r o3 t2 hxs' hk
  obtain⟨hlt,h1⟩:=bif_some h1
  exact⟨ls,s0,s',v,h',h1,part,o2.inv,o4.inv,x4,hls,hlt,by rw[n2]at hd;exact hd⟩
 |_=>exact plain _ _ hk
end
end
end Go.KX

namespace Go.KX
open Go Go.RowKit
noncomputable section
section
variable{E:Env}{gl:List (Nat×Val E.G.car)}{fx:Fix}{b:Base}{m:Nat→MV}{A:Nat→Prop}{g:Map E.G.car}{a:Act}{w:World}
theorem YIs.into{y:YI}{fn:FuncId}{aT:Array Value}{D n:Nat}{g0:Map E.G.car}(h:YIs b y fn aT D)(hrel:Rel (cxOf E b) m A g a w)(hn:b.pn≤n)(hO:∀L x,Owns m L (g0 (.o L)) x→Owns m L (g (.o L)) x):
  YIs (inBase b n m A g0 w) y fn aT D:=by
 have hL:m y.L=b.pm y.L:=hrel.pins y.L h.L
 refine⟨Nat.lt_of_lt_of_le h.L hn,?_,h.size,fun i v hv=>?_⟩
 ·show((m y.L).b,_)∈b.kob
  rw[hL];exact h.mem
 ·obtain⟨h1,h2,h3⟩:=h.tmp i v hv
  have he:∀L,v.has L=true→m L=b.pm L:=fun L hL=>hrel.pins L (by
   rcases Nat.lt_or_ge L b.pn with h4|h4
   ·exact h4
   ·rw[has_lt h4 v h3]at hL;cases hL)
  refine⟨?_,?_,lt_mono hn h3⟩
  ·show aT[i]?=some (den m v)
   rw[den_congr v he];exact h1
  ·show v.ok m
   exact ok_congr v he h2
theorem Good.into{n:Nat}{s0:XS E.G.car}(hg:Good E gl fx b)(hrel:Rel (cxOf E b) m A g a w)(hn:fx.pn≤n)(h0:Rel (cxOf E (inBase b n m A (s0.map 0) w)) m A (s0.map 0) noAct w)
  (hO:∀L x,Owns m L (s0.map 0 (.o L)) x→Owns m L (g (.o L)) x):Good E gl ⟨n,fx.ys⟩ (inBase b n m A (s0.map 0) w):=by
 refine⟨hrel.gw hg (fun _ h=>h),hrel.frz,fun x hx hb=>?_,fun p hp=>Nat.lt_of_lt_of_le (hg.kb p hp) hrel.held.size,Nat.le_refl _,fun y hy=>?_,fun _=>rfl⟩
 ·obtain⟨L,h1⟩:=hb
  exact(h0.own L x h1).2 hx
 ·obtain⟨fn,aT,D,h1⟩:=hg.ys y hy
  exact⟨fn,aT,D,h1.into hrel (Nat.le_trans hg.pn hn) hO⟩
variable{od:Option Nat}{type:TypeId}{pos:String}{after:Array Edge}{guard:Option (Nat×Bool)}
def CalleeIs(c:Callee)(fv:SV)(ys xs:List SV):Prop:=
 match c with
 | .fn k=>∃fs caps,((fv= .v (.func (.func k) #[] #[])∧fs=[]∧caps=[])∨fv= .f (.func k) fs caps)∧xs=fs++(ys++caps)
 | .y L=>fv= .y L∧xs=ys
theorem okL_append{m:Nat→MV}{l l':List SV}(h:okL m l)(h':okL m l'):okL m (l++l'):=okL_iff.2 fun x hx=>(List.mem_append.1 hx).elim (okL_iff.1 h x) (okL_iff.1 h' x)
theorem op_inl{c:Callee}{xs ys:List SV}{v:SV}{M:Map E.G.car}{n d:Nat}{ls:List Nat}{s0 s':XS E.G.car}{fo:Operand}{fv:SV}{ags:Array Operand}{ts:Array TypeId}
  (hres:InRes E gl fx.ys c xs M n d ls s0 s' v) (hg:Good E gl fx b) (hn:fx.pn≤n) (hf:Ev E M fo fv) (hx:EvL E M ags.toList ys) (hc:CalleeIs c fv ys xs) (hd:∀d',od=some d'→d'<b.N):
  OpRun (cxOf E b) ⟨od,.call ⟨.value fo,ags,ts⟩,type,pos,after,guard⟩ M ⟨(inFin d ls s0 od (okeys fo++okeysL ags.toList) s' v).rd,(inFin d ls s0 od (okeys fo++okeysL ags.toList) s' v).up,newL n s'.nl⟩:=by
 intro m A a w g hrd hfree hrel K Q hK
 obtain⟨h1,k1⟩:=hf.eval hrel (fun k hk=>hrd k (reads_mem (by simp[inFin,hk])))
 obtain⟨h2,k2⟩:=hx.eval hrel (fun k hk=>hrd k (reads_mem (by simp[inFin,hk])))
 have h2':ags.map a.eval=(denL m ys).toArray:=by rw[←h2];exact Array.ext' (by rw[Array.toList_map])
 have hr:∀k∈keysA s0 s' ls,g k=M k:=fun k hk=>hrd k (reads_mem (by simp[inFin,hk]))
 have hrel0:=hres.part.enter hrel hr
 have hO:∀L x,Owns m L (s0.map 0 (.o L)) x→Owns m L (g (.o L)) x:=fun L x ho=>by
  cases e:s0.map 0 (.o L)with
  |none=>rw[e]at ho;exact ho.elim
  |some u=>
   obtain⟨L',h3,h4,h5⟩:=hres.part.key e
   cases h3
   rw[hr _ (h5 s'),←hres.part.o _ L rfl h4];exact ho
 have hgood:=hg.into hrel hn hrel0 hO
 have hnew:∀L,n≤L→L<s'.nl→Free (cxOf E b) L g:=fun L e1 e2=>hfree L (mem_newL.2 ⟨e1,e2⟩)
 have fin:∀(m':Nat→MV) (A':Nat→Prop) (w':World) (u:Value),u=den m' v→v.ok m'→Rel (cxOf E (inBase b n m A (s0.map 0) w)) m' A' (s'.map 0) noAct w'→K (a.put od u) w':=by
  intro m' A' w' u hu hok h'
  obtain⟨m'',e1,e2,hrel''⟩:=hres.part.leave hres.inv0 hres.inv hres.ext hres.lt hrel h' hr hnew
  have hs:∀L,v.has L=true→m'' L=m' L:=fun L hL=>e1 L (by
   rcases Nat.lt_or_ge L s'.nl with h3|h3
   ·exact h3
   ·rw[has_lt h3 v hres.vlt]at hL;cases hL)
  have hden:u=den m'' v:=by rw[hu,den_congr v hs]
  have hok':v.ok m'':=ok_congr v hs hok
  cases od with
  |none=>exact hK m'' A' _ w' hrel''
  |some d'=>
   refine hK m'' A' _ w' ((hrel''.put (hd d' rfl) hden hok').congr fun k=>?_)
   rw[upd_one]
   exact(upd_cons _ k).symm
 have hdoes:=hres.does
 refine⟨fun _ _=>trivial,?_⟩
 rw[semAt_of _ _ (fun _ h=>by cases h)]
 cases c with
 |fn k=>
  obtain⟨fs,caps,hk,rfl⟩:=hc
  obtain⟨hen,hdo⟩:=hdoes
  have hfn:den m fv= .func (.func k) (denL m fs).toArray (denL m caps).toArray:=by
   rcases hk with⟨rfl,rfl,rfl⟩|rfl
   ·rfl
   ·rfl
  have hokxs:okL m (fs++(ys++caps)):=by
   rcases hk with⟨rfl,rfl,rfl⟩|rfl
   ·exact okL_append trivial (okL_append k2 trivial)
   ·exact okL_append k1.1 (okL_append k2 k1.2)
  have hrun:(execOp a.eval ⟨od,.call ⟨.value fo,ags,ts⟩,type,pos,after,guard⟩).run E.P w= .ok (.enter k ((denL m (fs++(ys++caps))).toArray)) w:=by
   have he:=hen ((denL m fs).toArray++(denL m ys).toArray++(denL m caps).toArray) w
   rw[denL_append,denL_append]
   have e:(denL m fs).toArray++(denL m ys).toArray++(denL m caps).toArray=(denL m fs++(denL m ys++denL m caps)).toArray:=by simp
   rw[e]at he
   simp only[execOp,resolve,h1,h2',hfn,Deferred.ofValue,Sem.run_bind,Sem.run_pure,Result.andThen_ok,invoke,e]
   exact he
  rw[hrun,Oper.uponIn_enter]
  refine⟨fun h=>by simp[Cx.F]at h,?_⟩
  refine(calls_in (cx:=cxOf E b) (hdo _ m A w hgood rfl rfl rfl hrel0 hokxs)).mono fun e w' ⟨m',A',he,hok,h'⟩=>?_
  subst he
  exact fin m' A' w' _ rfl hok h'
 |y L=>
  obtain⟨rfl,rfl⟩:=hc
  obtain⟨y,hy,rfl,hrdy,hlen,hdo⟩:=hdoes
  obtain⟨fn,aT,D,hY⟩:=hg.ys y hy
  have hr0:b.r=none:=hg.r0 (fun h=>by rw[h]at hy;cases hy)
  have hY':=hY.into (g0:=s0.map 0) hrel (Nat.le_trans hg.pn hn) hO
  have hl:m y.L=b.pm y.L:=hrel.pins y.L hY.L
  obtain⟨rec,hheap,hreg⟩:∃r:Loop,w.heap[(m y.L).b]?=some (.loop (loopAt r false))∧∀q,((m y.L).b,q)∈b.kob→q= .loop r:=hrel0.ent (.o y.L) _ hrdy
  have hheap:w.heap[(m y.L).b]?=some (.loop (recOf fn aT y.ps y.assign y.body D .ready)):=by
   have e:=hreg _ (by rw[hl];exact hY.mem)
   rw[hheap];show some (Obj.loop rec)=_;rw[←e]
  have hrun:(execOp a.eval ⟨od,.call ⟨.value fo,ags,ts⟩,type,pos,after,guard⟩).run E.P w= .ok (.round (m y.L).b fn ((y.ps.zip (denL m xs).toArray).foldl (fun tmps (t,a)=>tmps.setIfInBounds t a) aT) y.assign y.body) w:=by
   have hy':=run_yield (P:=E.P) (args:=(denL m xs).toArray) hheap (by simp[recOf,denL_length,hlen])
   simp only[execOp,resolve,h1,h2',den,Deferred.ofValue,Sem.run_bind,Sem.run_pure,Result.andThen_ok,invoke]
   simpa[recOf]using hy'
  rw[hrun,Oper.uponIn_round]
  refine⟨fun h=>by simp[Cx.F]at h,?_⟩
  have hF:(cxOf E b).F=Fence.wide:=by simp only[Cx.F,cxOf,hr0];rfl
  rw[hF]
  refine(hdo _ m A w fn aT D hgood rfl rfl rfl hY' hrel0 k2).mono fun e w' ⟨m',A',he,hok,h'⟩=>?_
  subst he
  exact fin m' A' w' _ rfl hok h'
end
end
end Go.KX

namespace Go.KX
open Go Go.RowKit
noncomputable section
section
variable{cx:Cx}{ops:Array Oper}{i:Nat}{o:Oper}{s:CMap cx}{row:Row cx.G.car}
theorem ok_plain(ho:ops[i]?=some o)(hg:o.guard=none)(h:OpRun cx o s row):OpOK cx ops i s row:=by
 intro m A a w g hr hf hrel K Q hK
 simp only[wpOpIn,ho,Region.wanted,hg,if_true]
 exact h m A a w g hr hf hrel K Q hK
theorem reads_cons{car:Nat→Type}{k k':Key}{rd:List Key}{up:St car}{nw:List Nat}(h:Row.reads ⟨rd,up,nw⟩ k=true):Row.reads ⟨k'::rd,up,nw⟩ k=true:=by
 simp only[Row.reads,List.any_cons,Bool.or_eq_true]at*
 exact .inr h
theorem reads_head{car:Nat→Type}{k:Key}{rd:List Key}{up:St car}{nw:List Nat}:Row.reads ⟨k::rd,up,nw⟩ k=true:=by
 simp[Row.reads,Key.eqb_self]
theorem yielded_of{a:Act}{w:World}{m:Nat→MV}{A:Nat→Prop}{g:CMap cx}{j dj:Nat}{oj:Oper}{c:Bool}{v:SV}(hrel:Rel cx m A g a w)(hj:ops[j]?=some oj)(hd:oj.dst=some dj)
  (hc:g (.t dj)=some (.x v)) (hv:∀m,den m v= .bool c):yielded ops a.tmps j=some c:=by
 have:=(hrel.ent _ _ hc).1
 rw[hv]at this
 simp only[yielded,hj,Option.bind_some,hd,this]
theorem ok_yes{j dj:Nat}{oj:Oper}{c want:Bool}{v:SV}{rd:List Key}{up:St cx.G.car}{nw:List Nat}(ho:ops[i]?=some o)(hg:o.guard=some (j,want))(hj:ops[j]?=some oj)(hd:oj.dst=some dj)
  (hc:s (.t dj)=some (.x v)) (hv:∀m,den m v= .bool c) (hw:c=want) (h:OpRun cx o s ⟨rd,up,nw⟩):OpOK cx ops i s ⟨.t dj::rd,up,nw⟩:=by
 intro m A a w g hr hf hrel K Q hK
 have hy:=yielded_of hrel hj hd (by rw[hr _ reads_head];exact hc) hv
 have hwant:Region.wanted o (yielded ops a.tmps)=true:=by simp[Region.wanted,hg,hy,hw]
 simp only[wpOpIn,ho,hwant,if_true]
 exact h m A a w g (fun k hk=>hr k (reads_cons hk)) hf hrel K Q hK
theorem ok_no{j dj:Nat}{oj:Oper}{c want:Bool}{v:SV}(hN:∀d,o.dst=some d→d<cx.N)(ho:ops[i]?=some o)(hg:o.guard=some (j,want))(hj:ops[j]?=some oj)(hd:oj.dst=some dj)
  (hc:s (.t dj)=some (.x v)) (hv:∀m,den m v= .bool c) (hw:c=!want):OpOK cx ops i s ⟨[.t dj],(match o.dst with|some d=>[(.t d,some (.x (.v undef)))]|none=>[]),[]⟩:=by
 intro m A a w g hr hf hrel K Q hK
 have hy:=yielded_of hrel hj hd (by rw[hr _ reads_head];exact hc) hv
 have hwant:Region.wanted o (yielded ops a.tmps)=false:=by simp[Region.wanted,hg,hy,hw]
 simp only[wpOpIn,ho,hwant]
 refine⟨fun _ _=>trivial,?_⟩
 cases hod:o.dst with
 |none=>rw[hod]at hK;exact hK m A _ w hrel
 |some d=>rw[hod]at hK;exact hK m A _ w (hrel.put (hN d hod) rfl trivial)
theorem ok_und{j dj:Nat}{oj:Oper}{want:Bool}{v:SV}(hN:∀d,o.dst=some d→d<cx.N)(ho:ops[i]?=some o)(hg:o.guard=some (j,want))(hj:ops[j]?=some oj)(hd:oj.dst=some dj)
  (hc:s (.t dj)=some (.x v)) (hv:∀m,den m v=undef):OpOK cx ops i s ⟨[.t dj],(match o.dst with|some d=>[(.t d,some (.x (.v undef)))]|none=>[]),[]⟩:=by
 intro m A a w g hr hf hrel K Q hK
 have h1:=(hrel.ent _ _ ((hr _ reads_head).trans hc)).1
 rw[hv]at h1
 have hy:yielded ops a.tmps j=none:=by simp only[yielded,hj,Option.bind_some,hd,h1,undef]
 have hwant:Region.wanted o (yielded ops a.tmps)=false:=by simp[Region.wanted,hg,hy]
 simp only[wpOpIn,ho,hwant]
 refine⟨fun _ _=>trivial,?_⟩
 cases hod:o.dst with
 |none=>rw[hod]at hK;exact hK m A _ w hrel
 |some d=>rw[hod]at hK;exact hK m A _ w (hrel.put (hN d hod) rfl trivial)
def forceV{car:Nat→Type}(k:Key)(v:Option (Val car)):Option (Val car):=
 match k,v with
 | .t _,some (.xc b x)=>bif b then some (.x x)else some (.xc b x)
 |_,v=>v
def forceM{car:Nat→Type}(s:Map car):Map car:=fun k=>forceV k (s k)
theorem force_t{car:Nat→Type}{s:Map car}{i:Nat}{v:Val car}(h:forceM s (.t i)=some v):s (.t i)=some v∨∃x,v= .x x∧s (.t i)=some (.xc true x):=by
 simp only[forceM]at h
 cases hg:s (.t i)with
 |none=>rw[hg]at h;cases h
 |some u=>
  rw[hg]at h
  cases u with
  |xc b x=>
   cases b with
   |true=>simp only[forceV,cond_true]at h;cases h;exact .inr ⟨x,rfl,rfl⟩
   |false=>simp only[forceV,cond_false]at h;exact .inl h
  |_=>exact .inl h
theorem Rel.force{m:Nat→MV}{A:Nat→Prop}{g:CMap cx}{a:Act}{w:World}(h:Rel cx m A g a w):Rel cx m A (forceM g) a w:=by
 refine⟨h.size,h.defers,fun k v hk=>?_,h.cell,h.own,h.inj,h.frzc,h.held,h.top,h.fix,h.ko,h.frz0,h.frzA,h.pins⟩
 cases k with
 |t i=>
  rcases force_t hk with h1|⟨x,rfl,h1⟩
  ·exact h.ent _ _ h1
  ·obtain⟨h2,h3⟩:=h.ent _ _ h1
   exact⟨h2,h3 rfl⟩
 |_=>exact h.ent _ _ hk
theorem Rel.unforce{m:Nat→MV}{A:Nat→Prop}{g:CMap cx}{a:Act}{w:World}(h:Rel cx m A (forceM g) a w):Rel cx m A g a w:=by
 refine⟨h.size,h.defers,fun k v hk=>?_,h.cell,h.own,h.inj,h.frzc,h.held,h.top,h.fix,h.ko,h.frz0,h.frzA,h.pins⟩
 cases k with
 |t i=>
  cases v with
  |xc b x=>
   cases b with
   |true=>
    obtain⟨h1,h2⟩:=h.ent (.t i) (.x x) (by simp only[forceM,forceV,hk,cond_true])
    exact⟨h1,fun _=>h2⟩
   |false=>exact h.ent (.t i) (.xc false x) (by simp only[forceM,forceV,hk,cond_false])
  |_=>exact h.ent (.t i) _ (by simp only[forceM,forceV,hk])
 |_=>exact h.ent _ _ hk
def guardVal{car:Nat→Type}(gs:List GD)(v:SV):Val car:=match gs with|[]=>.x v|_=>.xc (conjG gs) v
def GuardIs{car:Nat→Type}(s:Map car)(dj:Nat)(gs:List GD)(c:Bool):Prop:=
 ∃v:SV,(∀m,den m v= .bool c)∧s (.t dj)=some (guardVal gs v)
theorem conjG_cons(g:GD)(gs:List GD):conjG (g::gs)=(conjG gs&&g.lit):=by
 cases gs with
 |nil=>simp[conjG]
 |cons _ _=>rfl
theorem conjG_iff:∀{gs:List GD},conjG gs=true↔∀g∈gs,g.lit=true:=by
 intro gs
 induction gs with
 |nil=>simp[conjG]
 |cons g gs ih=>
  rw[conjG_cons,Bool.and_eq_true,ih]
  simp[and_comm]
theorem lit_iff{g:GD}:g.lit=true↔g.c=g.want:=by
 obtain⟨j,want,c⟩:=g
 cases want<;>cases c<;>simp[GD.lit]
theorem wanted_iff{a:Act}{w:World}{m:Nat→MV}{A:Nat→Prop}{g:CMap cx}{j dj:Nat}{oj:Oper}{gs:List GD}{c want:Bool}(hrel:Rel cx m A g a w)(hg:o.guard=some (j,want))(hj:ops[j]?=some oj)(hd:oj.dst=some dj)
  (hc:GuardIs g dj gs c):Region.wanted o (yielded ops a.tmps)=conjG (⟨j,want,c⟩::gs):=by
 obtain⟨v,hv,hs⟩:=hc
 rw[conjG_cons]
 cases gs with
 |nil=>
  have hy:=yielded_of hrel hj hd hs hv
  simp only[Region.wanted,hg,hy,conjG,Bool.true_and,GD.lit]
  cases c<;>cases want<;>rfl
 |cons g0 gs=>
  obtain⟨h1,_⟩:=hrel.ent _ _ hs
  cases e:conjG (g0::gs)with
  |true=>
   rw[e,cond_true,hv]at h1
   have hy:yielded ops a.tmps j=some c:=by simp only[yielded,hj,Option.bind_some,hd,h1]
   simp only[Region.wanted,hg,hy,Bool.true_and,GD.lit]
   cases c<;>cases want<;>rfl
  |false=>
   rw[e,cond_false]at h1
   have hy:yielded ops a.tmps j=none:=by simp only[yielded,hj,Option.bind_some,hd,h1,undef]
   simp[Region.wanted,hg,hy]
theorem ok_guard{j dj d:Nat}{oj:Oper}{gs:List GD}{c want:Bool}{x:SV}{rd:List Key}(hN:d<cx.N)(ho:ops[i]?=some o)(hod:o.dst=some d)(hg:o.guard=some (j,want))(hj:ops[j]?=some oj)(hd:oj.dst=some dj)
  (hc:GuardIs s dj gs c) (h:conjG (⟨j,want,c⟩::gs)=true→OpRun cx o (forceM s) ⟨rd,[(.t d,some (.x x))],[]⟩):
  OpOK cx ops i s ⟨.t dj::rd,[(.t d,some (.xc (conjG (⟨j,want,c⟩::gs)) x))],[]⟩:=by
 intro m A a w g hr hf hrel K Q hK
 have hc':GuardIs g dj gs c:=by
  obtain⟨v,h1,h2⟩:=hc
  exact⟨v,h1,by rw[hr _ reads_head];exact h2⟩
 have hwant:=wanted_iff hrel hg hj hd hc'
 generalize hb:conjG (⟨j,want,c⟩::gs)=bb at*
 cases bb with
 |true=>
  simp only[wpOpIn,ho,hwant,if_true]
  refine h rfl m A a w (forceM g) (fun k hk=>?_) (fun L hL=>by cases hL) hrel.force K Q (fun m' A' a' w' h'=>hK m' A' a' w' ?_)
  ·have:=hr k (reads_cons hk)
   simp only[forceM,this]
  ·refine Rel.unforce (h'.congr (fun k=>?_))
   simp only[forceM]
   rw[upd_one,upd_one]
   by_cases ek:Key.t d=k
   ·subst ek;simp[forceV]
   ·rw[if_neg ek,if_neg ek];rfl
 |false=>
  simp only[wpOpIn,ho,hwant]
  exact⟨fun _ _=>trivial,hK m A _ w (by rw[hod];exact hrel.putC hN rfl (fun h=>by cases h))⟩
theorem AllOK.snoc:∀{rows:List (Row cx.G.car)} {i:Nat} {s:CMap cx},AllOK cx ops i s rows→OpOK cx ops (i+rows.length) (rows.foldl (fun s r=>upd r.up s) s) row→AllOK cx ops i s (rows++[row]):=by
 intro rows
 induction rows with
 |nil=>intro i s _ h;exact⟨h,trivial⟩
 |cons r rows ih=>
  intro i s h h'
  refine⟨h.1,ih h.2 ?_⟩
  rw[show i+1+rows.length=i+(r::rows).length by simp;omega]
  exact h'
end
section
variable{E:Env}{R:Type}{r:R}{fx:Fix}
def RS.map(f:Nat)(rs:RS E.G.car):Map E.G.car
 | .t i=>match findXC i rs.xc with
  |some x=>some (.xc (conjG x.gs) x.v)
  |none=>rs.s.map f (.t i)
 |k=>rs.s.map f k
theorem RS.map_o{f:Nat}{rs:RS E.G.car}{k:Key}(h:∀i,k≠ .t i):rs.map f k=rs.s.map f k:=by
 cases k with
 |t i=>exact absurd rfl (h i)
 |_=>rfl
structure RInv(gl:List (Nat×Val E.G.car))(fx:Fix)(fr:Fr)(ds:List (Option Nat))(ops:Array Oper)(s0:XS E.G.car)(rs:RS E.G.car):Prop where
 inv:Inv rs.s
 ext:Ext fr.d s0 rs.s
 map:rs.map fr.f=rs.rows.reverse.foldl (fun s r=>upd r.up s) (s0.map fr.f)
 gv:∀j dj gs c,findGV j rs.gv=some (dj,gs,c)→GuardIs (rs.map fr.f) dj gs c∧ds[j]?=some (some dj)
 xcg:∀x∈rs.xc,x.gs≠[]∧∀g∈x.gs,∃dj gs',findGV g.j rs.gv=some (dj,gs',g.c)
 xct:∀x∈rs.xc,rs.s.tmp fr.f x.t=none
 dec:∀q∈rs.dec,∃dj,findGV q.1 rs.gv=some (dj,[],q.2)
 ok:∀b:Base,Good E gl fx b→b.N=fr.N→AllOK (cxOf E b) ops 0 (s0.map fr.f) rs.rows.reverse
 nw:∀row∈rs.rows,∀L∈row.nw,s0.nl≤L
theorem findXC_mem{t:Nat}:∀{l:List XC} {x:XC},findXC t l=some x→x∈l∧x.t=t:=by
 intro l
 induction l with
 |nil=>intro x h;cases h
 |cons y l ih=>
  intro x h
  simp only[findXC]at h
  cases e:Nat.beq y.t t with
  |true=>rw[e,cond_true]at h;cases h;exact⟨by simp,Nat.eq_of_beq_eq_true e⟩
  |false=>rw[e,cond_false]at h;obtain⟨h1,h2⟩:=ih h;exact⟨by simp[h1],h2⟩
theorem findGV_mem{j:Nat}:∀{l:List (Nat×Nat×List GD×Bool)} {x:Nat×List GD×Bool},findGV j l=some x→(j,x)∈l:=by
 intro l
 induction l with
 |nil=>intro x h;cases h
 |cons y l ih=>
  intro x h
  obtain⟨j',y⟩:=y
  simp only[findGV]at h
  cases e:Nat.beq j' j with
  |true=>rw[e,cond_true]at h;cases h;have:=Nat.eq_of_beq_eq_true e;subst this;simp
  |false=>rw[e,cond_false]at h;simp[ih h]
theorem findDec_mem{j:Nat}:∀{l:List (Nat×Bool)} {x:Bool},findDec j l=some x→(j,x)∈l:=by
 intro l
 induction l with
 |nil=>intro x h;cases h
 |cons y l ih=>
  intro x h
  obtain⟨j',y⟩:=y
  simp only[findDec]at h
  cases e:Nat.beq j' j with
  |true=>rw[e,cond_true]at h;cases h;have:=Nat.eq_of_beq_eq_true e;subst this;simp
  |false=>rw[e,cond_false]at h;simp[ih h]
def GsOK(rs:RS E.G.car)(gs:List GD):Prop:=∀g∈gs,∃dj gs',findGV g.j rs.gv=some (dj,gs',g.c)
theorem GD.sub_conj{rs:RS E.G.car}{l l':List GD}(h:GD.sub l l'=true)(hl:GsOK rs l)(hl':GsOK rs l')(hc:conjG l'=true):conjG l=true:=by
 rw[conjG_iff]at hc⊢
 intro g hg
 have h1:=List.all_eq_true.1 h g hg
 obtain⟨g',hg',h2⟩:=List.any_eq_true.1 h1
 simp only[Bool.and_eq_true,beq_iff_eq]at h2
 have hj:=Nat.eq_of_beq_eq_true h2.1
 obtain⟨dj,gs1,e1⟩:=hl g hg
 obtain⟨dj',gs2,e2⟩:=hl' g' hg'
 rw[hj,e2]at e1
 simp only[Option.some.injEq,Prod.mk.injEq]at e1
 have:=lit_iff.1 (hc g' hg')
 rw[lit_iff,h2.2,←this,e1.2.2]
variable{gl:List (Nat×Val E.G.car)}{fr:Fr}{ds:List (Option Nat)}{ops:Array Oper}{s0:XS E.G.car}{rs:RS E.G.car}
def seenM(fr:Fr)(rs:RS E.G.car)(gs:List GD):Map E.G.car:=match gs with|[]=>rs.map fr.f|_=>forceM (rs.map fr.f)
theorem RInv.sees(h:RInv gl fx fr ds ops s0 rs){gs:List GD}(hgs:GsOK rs gs)(hc:conjG gs=true):Sees (E:=E) ⟨lookR fr.f rs gs,rs.s,anteOf gs⟩ (seenM fr rs gs):=by
 have ho:∀k:Key,(∀i,k≠ .t i)→seenM fr rs gs k=rs.s.map fr.f k:=fun k hk=>by
  cases gs with
  |nil=>exact RS.map_o hk
  |cons _ _=>
   show forceV k _=_
   rw[RS.map_o hk]
   cases k with
   |t i=>exact absurd rfl (hk i)
   |_=>rfl
 refine⟨fun i v hv=>?_,fun L=>ho _ (by simp),fun L=>ho _ (by simp),fun L q=>ho _ (by simp)⟩
 simp only[lookR]at hv
 cases hx:findXC i rs.xc with
 |none=>
  rw[hx]at hv
  have h1:rs.map fr.f (.t i)=some (.x v):=by
   have hv':rs.s.tmp fr.f i=some v:=hv
   simp only[RS.map,hx,XS.map]
   rw[hv'];rfl
  cases gs with
  |nil=>exact h1
  |cons _ _=>show forceV _ _=_;rw[h1];rfl
 |some x=>
  rw[hx]at hv
  cases hs:GD.sub x.gs gs with
  |false=>simp only[hs,cond_false]at hv;cases hv
  |true=>
   simp only[hs,cond_true,Option.some.injEq]at hv
   subst hv
   have hmem:=(findXC_mem hx).1
   have h1:rs.map fr.f (.t i)=some (.xc (conjG x.gs) x.v):=by simp only[RS.map,hx]
   have h2:conjG x.gs=true:=GD.sub_conj hs (h.xcg x hmem).2 hgs hc
   cases gs with
   |nil=>
    exfalso
    obtain⟨h3,_⟩:=h.xcg x hmem
    cases hxs:x.gs with
    |nil=>exact h3 hxs
    |cons g r=>rw[hxs]at hs;simp[GD.sub]at hs
   |cons _ _=>show forceV _ _=_;rw[h1];simp[forceV,h2]
theorem anteOK_of{gs:List GD}(h:conjG gs=true):AnteOK (anteOf gs):=by
 cases gs with
 |nil=>trivial
 |cons _ _=>exact h
theorem conj_seen(h:RInv gl fx fr ds ops s0 rs){gs:List GD}{t:Nat}{v:SV}(hv:lookR fr.f rs gs t=some v)(hgs:GsOK rs gs)(hc:conjG gs=true):seenM fr rs gs (.t t)=some (.x v):=(h.sees hgs hc).t t v hv
theorem seen_guard(h:RInv gl fx fr ds ops s0 rs){gs:List GD}{j dj:Nat}{gs':List GD}{c e:Bool}{v:SV}(hgv:findGV j rs.gv=some (dj,gs',c))(hm:seenM fr rs gs (.t dj)=some (.x v))(hv:∀m,den m v= .bool e):c=e:=by
 obtain⟨⟨u,hu,hs⟩,_⟩:=h.gv j dj gs' c hgv
 have key:u=v:=by
  cases gs with
  |nil=>
   have hm':rs.map fr.f (.t dj)=some (.x v):=hm
   rw[hs]at hm'
   cases gs' with
   |nil=>cases hm';rfl
   |cons _ _=>cases hm'
  |cons _ _=>
   rcases force_t hm with h1|⟨x,h1,h2⟩
   ·rw[hs]at h1
    cases gs' with
    |nil=>cases h1;rfl
    |cons _ _=>cases h1
   ·cases h1
    rw[hs]at h2
    cases gs' with
    |nil=>cases h2
    |cons g r=>
     simp only[guardVal,Option.some.injEq,Val.xc.injEq]at h2
     exact h2.2
 subst key
 have h1:=hu default
 rw[hv]at h1
 cases h1;rfl
theorem op_pickB{E:Env}{b:Base}{s:Map E.G.car}{d:Nat}{type:TypeId}{pos:String}{after:Array Edge}{guard:Option (Nat×Bool)}{c x y:Operand}{v u:SV}{q:Bool}(hN:d<b.N)(hc:Ev E s c v)(hv:∀m,den m v= .bool q)(hx:Ev E s (bif q then x else y) u):
  OpRun (cxOf E b) ⟨some d,.pick c x y,type,pos,after,guard⟩ s ⟨okeys c++okeys (bif q then x else y),[(.t d,some (.x u))],[]⟩:=
 op_pure rfl hN (by simp) fun m A a w g hr hrel=>by
  have h1:=(hc.eval hrel (fun k hk=>hr k (by simp[hk]))).1
  obtain⟨h2,h3⟩:=hx.eval hrel (fun k hk=>hr k (by simp[hk]))
  rw[hv]at h1
  refine⟨h3,?_⟩
  cases q<;>simp[execOp,h1,asBool]<;>exact h2
theorem op_pickC{E:Env}{b:Base}{s:Map E.G.car}{d:Nat}{type:TypeId}{pos:String}{after:Array Edge}{guard:Option (Nat×Bool)}{tc tx:Nat}{e q want bb:Bool}{u:SV}(hN:d<b.N)(hc:s (.t tc)=some (.x (.b e)))(hq:∀m,den m u= .bool q)
  (hx:s (.t tx)=some (.xc bb u)∨(bb=true∧s (.t tx)=some (.x u))) (hb:e=want→bb=true):
  OpRun (cxOf E b) ⟨some d,bif want then .pick (.tmp tc) (.tmp tx) (.const (.bool false))else .pick (.tmp tc) (.const (.bool true)) (.tmp tx),type,pos,after,guard⟩ s ⟨[.t tc,.t tx],[(.t d,some (.x (.b (bif want then e&&q else e||q))))],[]⟩:=
 op_pure rfl hN (by cases want<;>simp) fun m A a w g hr hrel=>by
  have h1:=(hrel.ent (.t tc) (.x (.b e)) (by rw[hr _ (by simp)];exact hc)).1
  have h2:bb=true→a.tmps[tx]?=some (.bool q):=fun hbb=>by
   rcases hx with hx|⟨_,hx⟩
   ·have:=(hrel.ent (.t tx) (.xc bb u) (by rw[hr _ (by simp)];exact hx)).1
    rw[hbb,cond_true,hq]at this;exact this
   ·have:=(hrel.ent (.t tx) (.x u) (by rw[hr _ (by simp)];exact hx)).1
    rw[hq]at this;exact this
  refine⟨trivial,?_⟩
  simp only[den]at h1⊢
  cases want with
  |true=>
   cases e with
   |true=>have h3:=h2 (hb rfl);simp[execOp,Act.eval,h1,h3,asBool]
   |false=>simp[execOp,Act.eval,h1,asBool]
  |false=>
   cases e with
   |true=>simp[execOp,Act.eval,h1,asBool]
   |false=>have h3:=h2 (hb rfl);simp[execOp,Act.eval,h1,h3,asBool]
def ResOK2(gl:List (Nat×Val E.G.car))(fx:Fix)(fr:Fr)(rs:RS E.G.car)(gs:List GD)(o:Oper)(res:OpRes E.G.car):Prop:=
 conjG gs=true→∀b:Base,Good E gl fx b→(∀d,o.dst=some d→d<b.N)→OpRun (cxOf E b) o (seenM fr rs gs) ⟨res.rd,res.up,newL rs.s.nl res.nl⟩
theorem decOf_spec{c:Operand}:∀{l:List (Nat×Bool)} {v:Bool},decOf ds c l=some v→∃j dj,(j,v)∈l∧ds[j]?=some (some dj)∧c= .tmp dj:=by
 intro l
 induction l with
 |nil=>intro v h;cases h
 |cons y l ih=>
  obtain⟨j,y⟩:=y
  intro v h
  simp only[decOf]at h
  split at h
  ·rename_i t dj hd
   cases e:Nat.beq dj t with
   |true=>
    rw[e,cond_true]at h
    cases h
    have:=Nat.eq_of_beq_eq_true e
    subst this
    exact⟨j,dj,by simp,hd,rfl⟩
   |false=>rw[e,cond_false]at h;obtain⟨j',dj',h1,h2⟩:=ih h;exact⟨j',dj',by simp[h1],h2⟩
  ·rw[cond_false]at h;obtain⟨j',dj',h1,h2⟩:=ih h;exact⟨j',dj',by simp[h1],h2⟩
theorem pickK_sound(h:RInv gl fx fr ds ops s0 rs){gs:List GD}(hgs:GsOK rs gs){d:Nat}{type:TypeId}{pos:String}{after:Array Edge}{guard:Option (Nat×Bool)}{c x y:Operand}{K:OpRes E.G.car→Option R}(hk:pickK E fr.f ds rs gs d c x y K=some r):
  ∃res,K res=some r∧ResOK2 gl fx fr rs gs ⟨some d,.pick c x y,type,pos,after,guard⟩ res:=by
 have ev:∀{x:Operand} {K:SV→Option R},evK (E:=E) ⟨lookR fr.f rs gs,rs.s,anteOf gs⟩ x K=some r→∃v,K v=some r∧(conjG gs=true→Ev E (seenM fr rs gs) x v)∧(∀t,x= .tmp t→lookR fr.f rs gs t=some v):=by
  intro x K hx
  cases x with
  |tmp t=>
   simp only[evK]at hx
   split at hx
   ·rename_i v e;exact⟨v,hx,fun hc=>conj_seen h e hgs hc,fun t' e'=>by cases e';exact e⟩
   ·cases hx
  |const v=>exact⟨_,hx,fun _=>rfl,fun t' e'=>by cases e'⟩
  |global g=>
   simp only[evK]at hx
   split at hx
   ·rename_i L e;exact⟨_,hx,fun _=>⟨L,gloOf_mem e,rfl⟩,fun t' e'=>by cases e'⟩
   ·cases hx
  |func f=>exact⟨_,hx,fun _=>rfl,fun t' e'=>by cases e'⟩
 simp only[pickK]at hk
 obtain⟨v,h1,h2,h3⟩:=ev hk
 clear hk
 have plain:∀(q:Bool) (hv:conjG gs=true→∀m,den m v= .bool q),(evK (E:=E) ⟨lookR fr.f rs gs,rs.s,anteOf gs⟩ (bif q then x else y) fun u=>K ⟨okeys c++okeys (bif q then x else y),[(.t d,some (.x u))],rs.s.nl⟩)=some r→
   ∃res,K res=some r∧ResOK2 gl fx fr rs gs ⟨some d,.pick c x y,type,pos,after,guard⟩ res:=fun q hv hq=>by
  obtain⟨u,h4,h5,_⟩:=ev hq
  exact⟨_,h4,fun hc b _ hd=>by rw[newL_self];exact op_pickB (hd d rfl) (h2 hc) (hv hc) (h5 hc)⟩
 split at h1
 ·exact plain true (fun _ _=>rfl) h1
 ·exact plain false (fun _ _=>rfl) h1
 ·rename_i e
  have hdec:∀w,decOf ds c rs.dec=some w→conjG gs=true→e=w:=fun w hw hc=>by
   obtain⟨j,dj,h4,h5,rfl⟩:=decOf_spec hw
   obtain⟨dj',h6⟩:=h.dec _ h4
   obtain⟨_,h7⟩:=h.gv _ _ _ _ h6
   rw[h5]at h7
   cases h7
   exact(seen_guard h h6 (h2 hc) (fun _=>rfl)).symm
  split at h1
  ·rename_i hw
   exact plain true (fun hc _=>by rw[hdec true hw hc];rfl) h1
  ·rename_i hw
   exact plain false (fun hc _=>by rw[hdec false hw hc];rfl) h1
  ·
   rename_i tc tx _
   split at h1
   ·rename_i t' g gs0 u hx
    obtain⟨h4,h5⟩:=bif_some h1
    simp only[Bool.and_eq_true]at h4
    obtain⟨q,l,h6,h7⟩:=boolK_sound h5
    obtain⟨hmem,_⟩:=findXC_mem hx
    refine⟨_,h6,fun hc b _ hd=>?_⟩
    rw[newL_self]
    have hm:rs.map fr.f (.t tx)=some (.xc (conjG (g::gs0)) u):=by simp only[RS.map,hx]
    have hcons:=(h.xcg _ hmem).2
    have htc:=conj_seen h (h3 tc rfl) hgs hc
    have hgc:g.c=e:=by
     obtain⟨dj,gs',e1⟩:=hcons g (by simp)
     obtain⟨_,e2⟩:=h.gv _ _ _ _ e1
     have e3:=h4.2
     rw[e2]at e3
     simp only at e3
     have:=Nat.eq_of_beq_eq_true e3
     subst this
     exact seen_guard h e1 htc (fun _=>rfl)
    have hbb:e=true→conjG (g::gs0)=true:=fun he=>by
     rw[conjG_cons,Bool.and_eq_true]
     refine⟨GD.sub_conj h4.1.2 (fun g' hg'=>hcons g' (by simp[hg'])) hgs hc,?_⟩
     rw[lit_iff,hgc,he,h4.1.1]
    refine op_pickC (want:=true) (hd d rfl) htc h7 ?_ hbb
    cases gs with
    |nil=>exact .inl hm
    |cons _ _=>
     show forceV _ _=_∨(_∧forceV _ _=_)
     rw[hm]
     cases hcc:conjG (g::gs0)with
     |true=>exact .inr ⟨rfl,rfl⟩
     |false=>exact .inl rfl
   ·cases h1
  ·
   rename_i tc tx _
   split at h1
   ·rename_i t' g gs0 u hx
    obtain⟨h4,h5⟩:=bif_some h1
    simp only[Bool.and_eq_true,Bool.not_eq_true']at h4
    obtain⟨q,l,h6,h7⟩:=boolK_sound h5
    obtain⟨hmem,_⟩:=findXC_mem hx
    refine⟨_,h6,fun hc b _ hd=>?_⟩
    rw[newL_self]
    have hm:rs.map fr.f (.t tx)=some (.xc (conjG (g::gs0)) u):=by simp only[RS.map,hx]
    have hcons:=(h.xcg _ hmem).2
    have htc:=conj_seen h (h3 tc rfl) hgs hc
    have hgc:g.c=e:=by
     obtain⟨dj,gs',e1⟩:=hcons g (by simp)
     obtain⟨_,e2⟩:=h.gv _ _ _ _ e1
     have e3:=h4.2
     rw[e2]at e3
     simp only at e3
     have:=Nat.eq_of_beq_eq_true e3
     subst this
     exact seen_guard h e1 htc (fun _=>rfl)
    have hbb:e=false→conjG (g::gs0)=true:=fun he=>by
     rw[conjG_cons,Bool.and_eq_true]
     refine⟨GD.sub_conj h4.1.2 (fun g' hg'=>hcons g' (by simp[hg'])) hgs hc,?_⟩
     rw[lit_iff,hgc,he,h4.1.1]
    refine op_pickC (want:=false) (hd d rfl) htc h7 ?_ hbb
    cases gs with
    |nil=>exact .inl hm
    |cons _ _=>
     show forceV _ _=_∨(_∧forceV _ _=_)
     rw[hm]
     cases hcc:conjG (g::gs0)with
     |true=>exact .inr ⟨rfl,rfl⟩
     |false=>exact .inl rfl
   ·cases h1
  ·cases h1
 ·cases h1
end
end
end Go.KX
