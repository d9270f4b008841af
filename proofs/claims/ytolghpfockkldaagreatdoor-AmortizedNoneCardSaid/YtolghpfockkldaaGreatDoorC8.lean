import Derived.Test.YtolghpfockkldaaGreatDoorC7
import Derived.Test.YtolghpfockkldaaGreatDoorC5
import Derived.Test.YtolghpfockkldaaGreatDoorC2
import Derived.Test.YtolghpfockkldaaGreatDoorC4
import Derived.Test.YtolghpfockkldaaGreatDoorC1
import Derived.Test.YtolghpfockkldaaGreatDoorC6
import Derived.Test.YtolghpfockkldaaGreatDoorE3
set_option linter.defProp false
set_option linter.unusedVariables false
set_option linter.unusedSimpArgs false
set_option linter.unusedSectionVars false
set_option linter.unnecessarySimpa false
namespace Hw.Gm
open Go Go.Proofs Hw.M Ps
def EvB(f:Nat->Bn)(Q:Bn->Prop):Prop:= ∃k0 r,Q r/\ ∀k,k0<=k->f k=r
variable {Q:Bn->Prop}
theorem EvB.const{r:Bn}(h:Q r):EvB (λ_=>r) Q:=⟨0,r,h,λ_ _=>rfl⟩
theorem EvB.succ{f g:Nat->Bn}(h:EvB g Q)(hfg: ∀k,f (k+1)=g k):EvB f Q:=by
 obtain⟨k0,r,hr,hk⟩:=h;refine⟨k0+1,r,hr,λk hk'=>?_⟩;obtain⟨j,rfl⟩: ∃j,k=j+1:=⟨k - 1,ua⟩
 simp_all
theorem EvB.congr{f g:Nat->Bn}(h:EvB g Q)(hfg: ∀k,f k=g k):EvB f Q:=by
 obtain⟨k0,r,hr,hk⟩:=h;exact⟨k0,r,hr,λk hk'=>by simp_all⟩
theorem EvB.imp{f:Nat->Bn}{Q':Bn->Prop}(h:EvB f Q)(J: ∀r,Q r->Q' r):EvB f Q':=by
 obtain⟨k0,r,hr,hk⟩:=h;exact⟨k0,r,J r hr,hk⟩
variable {c:Prop}
theorem EvB.pos{_:Decidable c}{a b:Nat->Bn}(h:c)(e:EvB a Q):EvB (λk=>if c then a k else b k) Q:=e.congr λ_=>uw h
theorem EvB.neg{_:Decidable c}{a b:Nat->Bn}(h: ¬c)(e:EvB b Q):EvB (λk=>if c then a k else b k) Q:=e.congr λ_=>ur h
structure KW (k:Kn):Prop where
 kn: ∀q,lkI k.kn q=some none\/ ∃v,lkI k.kn q=some (some v)/\Gm.inB v
 bu: ∀q,lkB k.bu q=some false\/lkB k.bu q=some true
 nd:(k.bu.map (·.1)).Nodup
def Bz(k k':Kn):Prop:= ∀q,lkB k'.bu q=lkB k.bu q
def QB(k:Kn)(V:Int->Prop):Bn->Prop
 | .ok v k'=>KW k'/\Bz k k'/\V v
 | .flt _ _=>True
 | .out=>False
theorem QB.imp{k:Kn}{V W:Int->Prop}(h: ∀v,V v->W v): ∀r,QB k V r->QB k W r
 | .ok v k',q=>⟨q.1,q.2.1,h v q.2.2⟩
 | .flt _ _,_=>trivial
 | .out,q=>q
theorem EvB.bind{k:Kn}{V W:Int->Prop}{f:Nat->Bn}{g:Nat->Int->Kn->Bn}(h:EvB f (QB k V))(hg: ∀v k',KW k'->Bz k k'->V v->EvB (λn=>g n v k') (QB k' W)):EvB (λn=>(f n).bind (g n)) (QB k W):=by
 obtain⟨k0,r,hr,hk⟩:=h;cases r with
 |out=>exact absurd hr id
 |flt e k'=>exact⟨k0,.flt e k',trivial,λn U=>by simp only[hk n U,Bn.bind]⟩
 |ok v k'=>
  obtain⟨h1,h2,h3⟩:=hr;obtain⟨k1,r2,J,hk1⟩:=hg v k' h1 h2 h3;refine⟨max k0 k1,r2,?_,λn U=>by simp only[hk n ua,Bn.bind];grind⟩;cases r2 with
  |out=>exact J
  |flt e k2=>trivial
  |ok u k2=>exact⟨J.1,λq=>(J.2.1 q).trans (h2 q),J.2.2⟩
def zsQ:List K2:=(List.range 20).flatMap λi=>(List.range 5000).filterMap λ(n:Nat)=>zp7 i (n:Int)
variable {i:Nat}
theorem zvm{v:Int}(J:i<20)(U:0<=v)(h1:v<5000): ∃q,zp7 i v=some q/\q∈zsQ:=by
 have hk:zp7 i v=some (⟨i,ua⟩,⟨v.toNat,ua⟩):=by
  unfold zp7;rw[oJ ⟨ua,U,ua⟩]
 refine⟨_,hk,?_⟩;unfold zsQ;rw[List.mem_flatMap];refine⟨i,List.mem_range.2 J,?_⟩
 grind
def nfK(k:Kn):Nat:=(zsQ.filter λq=>decide (lkB k.bu q=some false)).length
theorem filter_le{α:Type}{p J:α->Bool}(h: ∀x,J x=true->p x=true): ∀l:List α,(l.filter J).length<=(l.filter p).length
 | []=>uM _
 |x::l=>by
  have:=filter_le h l
  grind
theorem filter_lt{α:Type}{p J:α->Bool}(h: ∀x,J x=true->p x=true){y:α}(U:p y=true)(h2: ¬J y=true): ∀l:List α,y∈l->(l.filter J).length<(l.filter p).length
 |x::l,hy=>by
  have hle:=filter_le h l;simp only[q8];cases hy with
  |head=>grind
  |tail _ hy=>
   have:=filter_lt h U h2 l hy
   grind
theorem zqB{k k':Kn}(h:Bz k k'):nfK k'=nfK k:=by
 have e:(λq=>decide (lkB k'.bu q=some false))=λq=>decide (lkB k.bu q=some false):=funext λq=>by rw[h q]
 unfold nfK;rw[e]
variable {q:K2}
theorem zd3{l:List (K2×EV)}{J:K2}{b:Bool}:lkB (putG l q (.o (.k (.bool b)))) J=if q=J then some b else lkB l J:=by
 unfold lkB;rw[jk]
 grind
theorem zsR{l:List (K2×EV)}{J:K2}{v:Int}:lkI (putG l q (.o (ki v))) J=if q=J then some (some v)else lkI l J:=by
 unfold lkI;rw[jk]
 grind
theorem zvn{l:List (K2×EV)}(h:q∉l.map (·.1)):getG l q=none:=by
 induction l with
 |nil=>rfl
 |cons p l ih=>
  simp only[uH,uF,oW]at h;obtain⟨a,b⟩:=p;simp only[getG,ur (Ne.symm h.1)];exact ih h.2
theorem zmj{q U:K2}: ∀ {l:List (K2×EV)},(l.map (·.1)).Nodup->getG (zbD l q) U=if q=U then none else getG l U
 | [],_=>by simp[zbD,getG]
 |(a,b)::l,h=>by
  simp only[uH,qm]at h;simp only[zbD];by_cases e:a=q
  ·rw[uw e];subst e;by_cases J:a=U
   ·subst J;rw[uw rfl];exact zvn h.1
   ·rw[ur J];simp only[getG,ur J]
  ·rw[ur e];simp only[getG];by_cases J:a=U
   ·grind
   ·rw[ur J,ur J];exact zmj h.2
theorem zij{q x:K2}: ∀ {l:List (K2×EV)},x∈(zbD l q).map (·.1)->x∈l.map (·.1)
 | [],h=>h
 |(a,b)::l,h=>by
  simp only[zbD]at h;by_cases e:a=q
  ·simp_all
  ·rw[ur e]at h;simp only[uH,uF]at h⊢;exact h.imp id zij
theorem zfr{q:K2}: ∀ {l:List (K2×EV)},(l.map (·.1)).Nodup->((zbD l q).map (·.1)).Nodup
 | [],h=>h
 |(a,b)::l,h=>by
  simp only[uH,qm]at h;simp only[zbD];by_cases e:a=q
  ·simp_all
  ·rw[ur e];simp only[uH,qm];exact⟨λJ=>h.1 (zij J),zfr h.2⟩
theorem zik{q x:K2}{v:EV}: ∀ {l:List (K2×EV)},x∈(putG l q v).map (·.1)->x=q\/x∈l.map (·.1)
 | [],h=>by simp only[putG,uH,tI,tv]at h;exact .inl h
 |(a,b)::l,h=>by
  simp only[putG]at h;by_cases e:a=q
  ·simp_all
  ·rw[ur e]at h;simp only[uH,uF]at h⊢;rcases h with h|h
   ·simp_all
   ·exact(zik h).imp id .inr
theorem zfs{q:K2}{v:EV}: ∀ {l:List (K2×EV)},(l.map (·.1)).Nodup->((putG l q v).map (·.1)).Nodup
 | [],h=>by simp[putG]
 |(a,b)::l,h=>by
  simp only[uH,qm]at h;simp only[putG];by_cases e:a=q
  ·simp_all
  ·rw[ur e];simp only[uH,qm];exact⟨λJ=>(zik J).elim e h.1,zfs h.2⟩
theorem zmk{l:List (K2×EV)}{J:K2}(h:(l.map (·.1)).Nodup):lkB (zbD l q) J=if q=J then some false else lkB l J:=by
 unfold lkB;rw[zmj h]
 grind
structure FM (d:zf) (m:Hp):Prop where
 kd:KD d
 mt:MT d m.g m.n
 ml:d.measures.length<20
 ms: ∀x∈d.measures,okE x.x/\exT d (zbe d x.t) false x.x=((⟨#[105,110,116]⟩:UI),0)/\Gm.inB x.z/\yE d x.t=true/\ ¬x.t=(⟨#[]⟩:UI)
variable {d:zf}{m:Hp}{t u:Str}
section
variable {k:Kn}
theorem Bz.refl(k:Kn):Bz k k:=λ_=>rfl
theorem zml(hF:FM d m)(hk:KW k){t1 s:Str}{v:Int}(ht:fieldT d t1 s=(t,0))(hv:VT d m.n t1 v):QB k (VT d m.n t) (fldI d m v s k):=by
 unfold fldI;by_cases J:v=0
 ·rw[uw J];trivial
 ·rw[ur J];obtain⟨x,hx,hl⟩:=j9 ht;obtain⟨y,h1,h2,h3,h4,h5,h6⟩:=zf5 hF.kd.toTyD hF.mt hv hx J;obtain⟨i,f,hi,U,hft⟩:=jN hl;obtain⟨u,hu⟩: ∃u,y.f[i]?=some u:=za (by grind);rw[ur ua];simp only[h1];rw[ur ua];simp only[h4,hi,hu];exact⟨hk,Bz.refl k,by rw[<-hft];exact h6 i f u U hu⟩
theorem zmm(hF:FM d m)(hk:KW k){s:Str}(h:look d.globals s=some u):QB k (VT d m.n u) (match ixF d.globals s with
 |none=>Bn.out
 |some i=>match m.g[i]? with
  |none=> .out
  |some v=> .ok v k):=by
 obtain⟨i,f,hi,J,U⟩:=jN h;obtain⟨v,hv⟩: ∃v,m.g[i]?=some v:=za (by rw[hF.mt.gl];grind);simp only[hi,hv];exact⟨hk,Bz.refl k,by rw[<-U];exact hF.mt.gt i f v J hv⟩
theorem zsS(hF:FM d m)(hk:KW k){s:Str}{nd:Int}(hn:VT d m.n t nd)(h0:t=(⟨#[]⟩:UI)->nd=0)(h:look (zbe d t) s=some u):QB k (VT d m.n u) (namI d m nd s k):=by
 unfold namI;unfold zbe at h;by_cases U:t=(⟨#[]⟩:UI)
 ·rw[uw U]at h;by_cases J:s=(⟨#[116,104,105,115]⟩:UI)
  ·rw[uw J,h0 U];exact⟨hk,Bz.refl k,VT.zero _ _ _⟩
  ·rw[ur J];exact zmm hF hk h
 ·rw[ur U]at h;by_cases J:s=(⟨#[116,104,105,115]⟩:UI)
  ·rw[uw J];have e:look (⟨(⟨#[116,104,105,115]⟩:UI),t⟩::d.globals) s=some t:=by unfold look;rw[List.find?_cons_of_pos (by simpa using J.symm)];rfl
   rw[e,ui]at h;subst h;exact⟨hk,Bz.refl k,hn⟩
  ·rw[ur J];have e:look (⟨(⟨#[116,104,105,115]⟩:UI),t⟩::d.globals) s=look d.globals s:=by unfold look;rw[List.find?_cons_of_neg (by simpa using λe=>J e.symm)]
   rw[e]at h;exact zmm hF hk h
theorem zil(hk:KW k)(n:Int):QB k (VT d m.n (⟨#[105,110,116]⟩:UI)) (bdI n k):=by
 unfold bdI;split
 ·trivial
 ·exact⟨hk,Bz.refl k,VT.int.2 (by unfold Gm.inB;omega)⟩
theorem zsT(hk:KW k){vs:List Fld}{op a b:Int}{s ta tb:Str}(ho:9<=op/\op<=17\/op=22\/op=23)(J:zu d vs false op s [ta,tb]=(t,0))(ha:VT d m.n ta a)(hb:VT d m.n tb b):QB k (VT d m.n t) (zjR op a b k):=by
 by_cases h1:op=14\/op=15
 ·have ht:t=(⟨#[98,111,111,108]⟩:UI):=by
   rcases h1 with rfl|rfl
   all_goals
    simp[zu]at J;split at J
    ·simp at J
    ·simp only[uz,qn]at J;exact J.symm
  subst ht;rcases h1 with rfl|rfl
  ·exact⟨hk,Bz.refl k,VT.bool.2 (y7 _)⟩
  ·exact⟨hk,Bz.refl k,VT.bool.2 (y7 _)⟩
 by_cases h2:op=16
 ·subst h2;simp[zu]at J;rw[(zI J).1];exact⟨hk,Bz.refl k,VT.bool.2 (y7 _)⟩
 by_cases h3:op=17
 ·subst h3;simp[zu]at J;rw[(zI J).1];exact⟨hk,Bz.refl k,VT.bool.2 (y7 _)⟩
 unfold zu at J;rw[ur ua,ur ua,ur ua,ur ua,ur ua,ur ua,ur ua,ur ua,ur ua,ur ua]at J;obtain⟨rfl,U⟩:=zI J;have e1:ta=(⟨#[105,110,116]⟩:UI):=U 0 ue;have e2:tb=(⟨#[105,110,116]⟩:UI):=U 1 ue;subst e1 e2;have ia:=VT.int.1 ha;have ib:=VT.int.1 hb;unfold Gm.inB at ia ib;unfold zjR;by_cases o9:op=9
 ·rw[uw o9];exact zil hk _
 rw[ur o9];by_cases o10:op=10
 ·rw[uw o10];exact zil hk _
 rw[ur o10];by_cases o11:op=11
 ·rw[uw o11];unfold zof;rw[uw (by unfold zkx;omega)];split
  ·trivial
  ·rename_i hp;refine⟨hk,Bz.refl k,VT.int.2 ?_⟩;have:(a*b).natAbs<=1099511627776:=by rw[oy];omega
   unfold Gm.inB;omega
 rw[ur o11];by_cases o22:op=22
 ·rw[uw o22];exact⟨hk,Bz.refl k,VT.int.2 (by unfold Gm.inB;omega)⟩
 rw[ur o22];by_cases o23:op=23
 ·rw[uw o23];exact⟨hk,Bz.refl k,VT.int.2 (by unfold Gm.inB;omega)⟩
 rw[ur o23,ur (λe=>h1 (.inl e)),ur (λe=>h1 (.inr e)),ur h2,ur h3];by_cases b0:b=0
 ·rw[uw b0];trivial
 rw[ur b0];by_cases o12:op=12
 ·rw[uw o12];exact zil hk _
 rw[ur o12];refine⟨hk,Bz.refl k,VT.int.2 ?_⟩;have:(Int.tmod a b).natAbs<=a.natAbs:=by rw[Uk];exact Nat.mod_le _ _
 unfold Gm.inB;omega
end
def ME(d:zf)(m:Hp)(n:Nat):Prop:= ∀(i:Nat) x v k,d.measures[i]?=some x->VT d m.n x.t v->KW k->nfK k<=n->EvB (λg=>meV d m g i v k) (QB k (VT d m.n (⟨#[105,110,116]⟩:UI)))
def PI(d:zf)(m:Hp)(n:Nat)(t:Str)(nd:Int)(e:Ex):Prop:= ∀u k,exT d (zbe d t) false e=(u,0)->KW k->nfK k<=n->EvB (λg=>inV d m g nd e k) (QB k (VT d m.n u))
theorem zca{s:Str}{ts:List Str}(h:vb d false s ts=(u,0)): ∃i x,zp8 d s=some i/\d.measures[i]?=some x/\ts.length=1/\yo d (lsA ts 0) x.t=true/\u=(⟨#[105,110,116]⟩:UI):=by
 unfold vb at h;rw[uw rfl]at h;unfold zay ztD at h;rcases jM (λx:Ms=>decide (x.n=s)) d.measures with⟨J,_⟩|⟨i,x,J,h2,h3⟩
 ·simp_all
 ·rw[h3]at h;simp only at h;split at h
  ·simp at h
  ·rename_i q1;split at h
   ·simp at h
   ·rename_i U;simp only[uz,qn]at h;exact⟨i,x,J,h2,ua,by simpa using U,h.symm⟩
variable {x:Ex}
theorem zvo{op n nd:Int}{s:Str}{l:List Ex}{k:Kn}(J:l[i]?=some x)(h:EvB (λg=>inV d m g nd x k) Q):EvB (λg=>atV d m g nd (.mk op n s l) i k) Q:=
 h.succ λg=>by rw[atV];simp only[Ex.l,J]
mutual
theorem zqC{d:zf}{m:Hp}{N:Nat}{t:Str}{nd:Int}(hF:FM d m)(hM:ME d m N)(hnd:VT d m.n t nd)(h0:t=(⟨#[]⟩:UI)->nd=0): ∀e:Ex,okE e->PI d m N t nd e
 | .mk op n s l,hok=>by
   have ihl:=zqD hF hM hnd h0 l hok.2;intro u k ht hk hb;obtain⟨ts,hts,h7,hn⟩:=zdw ht;obtain⟨hl,hat⟩:=vr hts;obtain⟨klen,k1,k3,kop,k2,kn1,kn2⟩:=vX hok.1
   -- a part
   have prt: ∀(i:Nat) (x:Ex) (k':Kn),l[i]?=some x->KW k'->Bz k k'->EvB (λg=>atV d m g nd (.mk op n s l) i k') (QB k' (VT d m.n (lsA ts i))):=λi x k' hx hk' hz=>
    zvo hx (ihl x (uv hx) _ k' (hat i x hx) hk' (by rw[zqB hz];exact hb))
   have one:(op=5\/op=8\/op=18\/op=24)-> ∃x,l[0]?=some x:=λh=>za (by have:=k1 h;omega)
   have two:(9<=op/\op<=17\/op=19\/op=20\/op=22\/op=23)->(∃x,l[0]?=some x)/\ ∃x,l[1]?=some x:=λh=>⟨za (by have:=k2 h;omega),za (by have:=k2 h;omega)⟩
   refine EvB.succ (g:=λg=>inV d m (g+1) nd (.mk op n s l) k) ?_ λg=>rfl
   simp only[inV,Ex.op,Ex.n,Ex.s];by_cases o1:op=1\/op=2
   ·refine EvB.pos o1 ?_;refine EvB.const ⟨hk,Bz.refl k,?_⟩;rcases o1 with rfl|rfl
    ·have:=hn ub;simp[zu]at this;rw[<-this];exact VT.int.2 (kn1 rfl)
    ·have:=hn ub;simp[zu]at this;rw[<-this];exact VT.bool.2 (kn2 rfl)
   refine EvB.neg o1 ?_;by_cases o3:op=3
   ·refine EvB.pos o3 ?_;exact EvB.const ⟨hk,Bz.refl k,VT.zero _ _ _⟩
   refine EvB.neg o3 ?_;by_cases o4:op=4
   ·refine EvB.pos o4 ?_;subst o4;have hn:=hn ub;simp only[zu,show ¬(4:Int)=1 by decide,show ¬(4:Int)=2 by decide,show ¬(4:Int)=3 by decide,uN,uW]at hn;cases hlk:look (zbe d t) s with
    |none=>simp_all
    |some u'=>
     rw[hlk]at hn;simp only[uz,qn]at hn;subst hn;exact EvB.const (zsS hF hk hnd h0 hlk)
   refine EvB.neg o4 ?_;by_cases o5:op=5
   ·refine EvB.pos o5 ?_;obtain⟨x,hx⟩:=one (.inl o5);subst o5;have hn:=hn ub;simp only[zu,show ¬(5:Int)=1 by decide,show ¬(5:Int)=2 by decide,show ¬(5:Int)=3 by decide,show ¬(5:Int)=4 by decide,uN,uW]at hn;exact(prt 0 x k hx hk (Bz.refl k)).bind λv k' hk' _ hv=>EvB.const (zml hF hk' hn hv)
   refine EvB.neg o5 ?_;by_cases o7:op=7
   ·refine EvB.pos o7 ?_;obtain⟨i,x,hi,hx,hl1,hf,rfl⟩:=zca (h7 o7).1;obtain⟨y,hy⟩: ∃y,l[0]?=some y:=za ua;simp only[hi];exact(prt 0 y k hy hk (Bz.refl k)).bind λv k' hk' hz hv=>hM i x v k' hx (hv.fits hf) hk' (by rw[zqB hz];exact hb)
   refine EvB.neg o7 ?_;have hn:=hn o7;by_cases o8:op=8
   ·refine EvB.pos o8 ?_;obtain⟨x,hx⟩:=one (.inr (.inl o8));subst o8;simp[zu]at hn;obtain⟨rfl,hall⟩:=zI hn;exact(prt 0 x k hx hk (Bz.refl k)).bind λv k' hk' _ hv=>EvB.const (zil hk' _)
   refine EvB.neg o8 ?_;by_cases o18:op=18
   ·refine EvB.pos o18 ?_;obtain⟨x,hx⟩:=one (.inr (.inr (.inl o18)));have hl0:=k1 (.inr (.inr (.inl o18)));subst o18;simp[zu]at hn;obtain⟨rfl,hall⟩:=zI hn;refine(prt 0 x k hx hk (Bz.refl k)).bind λv k' hk' _ hv=>EvB.const ⟨hk',Bz.refl k',?_⟩
    rw[hall 0 ua]at hv;have hi:=VT.bool.1 hv;rw[wrap64 ua];exact VT.bool.2 ua
   refine EvB.neg o18 ?_;by_cases o24:op=24
   ·refine EvB.pos o24 ?_;obtain⟨x,hx⟩:=one (.inr (.inr (.inr o24)));have hl0:=k1 (.inr (.inr (.inr o24)));subst o24;simp[zu]at hn;obtain⟨rfl,hall⟩:=zI hn;refine(prt 0 x k hx hk (Bz.refl k)).bind λv k' hk' _ hv=>?_;rw[hall 0 ua]at hv;have hi:=VT.int.1 hv;unfold Gm.inB at hi;refine EvB.pos ua (EvB.const ⟨hk',Bz.refl k',VT.int.2 ?_⟩);unfold Gm.inB zi2;split
    ·omega
    ·have hlg:Nat.log2 v.toNat<64:=by rw[oM ua];omega
     omega
   refine EvB.neg o24 ?_;by_cases o19:op=19
   ·refine EvB.pos o19 ?_;obtain⟨⟨x,hx⟩,y,hy⟩:=two ua;have hl2:=k2 ua;subst o19;simp[zu]at hn;obtain⟨rfl,hall⟩:=zI hn;refine(prt 0 x k hx hk (Bz.refl k)).bind λv k' hk' hz hv=>?_;have h2:=prt 1 y k' hy hk' hz;rw[hall 1 ua]at h2;by_cases v0:v=0
    ·refine EvB.pos v0 ?_;exact EvB.const ⟨hk',Bz.refl k',VT.zero _ _ _⟩
    simp_all
   refine EvB.neg o19 ?_;by_cases o20:op=20
   ·refine EvB.pos o20 ?_;obtain⟨⟨x,hx⟩,y,hy⟩:=two ua;have hl2:=k2 ua;subst o20;simp[zu]at hn;obtain⟨rfl,hall⟩:=zI hn;refine(prt 0 x k hx hk (Bz.refl k)).bind λv k' hk' hz hv=>?_;have h2:=prt 1 y k' hy hk' hz;rw[hall 1 ua]at h2;by_cases v0:v=0
    ·simp_all
    ·refine EvB.neg v0 ?_;exact EvB.const ⟨hk',Bz.refl k',VT.bool.2 (.inr rfl)⟩
   refine EvB.neg o20 ?_;by_cases o21:op=21
   ·refine EvB.pos o21 ?_;have hl3:=k3 o21;subst o21;obtain⟨x,hx⟩: ∃x,l[0]?=some x:=za ua;obtain⟨y,hy⟩: ∃y,l[1]?=some y:=za ua;obtain⟨z,hz⟩: ∃z,l[2]?=some z:=za ua
    simp only[zu,show ¬(21:Int)=1 by decide,show ¬(21:Int)=2 by decide,show ¬(21:Int)=3 by decide,show ¬(21:Int)=4 by decide,show ¬(21:Int)=5 by decide,show ¬(21:Int)=6 by decide,show ¬((21:Int)=14\/(21:Int)=15) by decide,
     show ¬((21:Int)=16\/(21:Int)=17) by decide,show ¬((21:Int)=18\/(21:Int)=19\/(21:Int)=20) by decide,uN,uW]at hn
    have hfit: ∀(ns:List Nd) (v:Int),(VT d ns (lsA ts 1) v->VT d ns u v)/\(VT d ns (lsA ts 2) v->VT d ns u v):=λns v=>by
     split at hn
     ·split at hn
      ·rename_i hf;simp only[uz,qn]at hn;subst hn;exact⟨λh=>h.fits hf,λh=>h⟩
      ·split at hn
       ·rename_i hf;simp only[uz,qn]at hn;subst hn;exact⟨λh=>h,λh=>h.fits hf⟩
       ·simp at hn
     ·simp at hn
    refine(prt 0 x k hx hk (Bz.refl k)).bind λv k' hk' hz2 hv=>?_;by_cases v0:v=0
    ·exact EvB.pos v0 ((prt 2 z k' hz hk' hz2).imp (QB.imp λv h=>(hfit m.n v).2 h))
    ·exact EvB.neg v0 ((prt 1 y k' hy hk' hz2).imp (QB.imp λv h=>(hfit m.n v).1 h))
   refine EvB.neg o21 ?_;by_cases o6:op=6
   ·subst o6;simp[zu]at hn
   -- two parts
   have ho:9<=op/\op<=17\/op=22\/op=23:=by omega
   obtain⟨⟨x,hx⟩,y,hy⟩:=two ua;have hl2:=k2 ua
   have hts2:ts=[lsA ts 0,lsA ts 1]:=by
    match ts,hl.trans hl2 with
    | [a,b],_=>rfl
   rw[hts2]at hn;refine(prt 0 x k hx hk (Bz.refl k)).bind λa k' hk' hz ha=>?_;exact(prt 1 y k' hy hk' hz).bind λb k2 hk2 _ hb2=>EvB.const (zsT hk2 ho hn ha hb2)
theorem zqD{d:zf}{m:Hp}{N:Nat}{t:Str}{nd:Int}(hF:FM d m)(hM:ME d m N)(hnd:VT d m.n t nd)(h0:t=(⟨#[]⟩:UI)->nd=0): ∀l:List Ex,okL l-> ∀x∈l,PI d m N t nd x
 | [],_=>λx hx=>by cases hx
 |y::r,hok=>λx hx=>by
  have h1:=zqC hF hM hnd h0 y hok.1;have h2:=zqD hF hM hnd h0 r hok.2
  grind
end
theorem zmn{n:Nat}(U:FM d m)(ih:1<=n->ME d m (n - 1)):ME d m n:=by
 intro i x v k hx hv hk hb;obtain⟨q1,q2,q3,q4,q5⟩:=U.ms x (uv hx);refine EvB.succ (g:=λg=>meV d m (g+1) i v k) ?_ λg=>rfl
 simp only[meV,hx];by_cases h0:v=0
 ·exact EvB.pos h0 (EvB.const ⟨hk,Bz.refl k,VT.int.2 q3⟩)
 refine EvB.neg h0 ?_;obtain⟨p1,p2,_⟩:=hv.node U.kd.toTyD q4 h0;have hnl:=U.mt.nl;obtain⟨q,hq,hqm⟩:=zvm (i:=i) (v:=v) (by have:=(uy.1 hx).1;have:=U.ml;omega) ua ua;simp only[hq];rcases hk.kn q with h1|⟨w,h1,h2⟩
 ·simp only[h1];rcases hk.bu q with h3|h3
  ·simp only[h3]
   have hk1:KW { k with bu:=putG k.bu q (.o (.k (.bool true))) }:=⟨hk.kn,λJ=>by
    simp only[zd3];by_cases e:q=J
    ·rw[uw e];exact .inr rfl
    ·rw[ur e];exact hk.bu J,zfs hk.nd⟩
   have hlt:nfK { k with bu:=putG k.bu q (.o (.k (.bool true))) }<nfK k:=by
    unfold nfK;refine filter_lt (y:=q) (λJ h=>?_) (by simp[h3]) (by simp[zd3]) _ hqm;simp only[zd3,uq]at h⊢;by_cases e:q=J
    ·rw[uw e]at h;cases h
    ·rw[ur e]at h;exact h
   obtain⟨k0,r,hr,hkk⟩:=zqC U (ih ua) hv (λe=>absurd e q5) x.x q1 _ _ q2 hk1 ua;cases r with
   |out=>exact absurd hr id
   |flt e k'=>exact⟨k0,.flt e k',trivial,λg hg=>by have e:=hkk g hg;simp only at e;simp only[e,Bn.bind]⟩
   |ok u k'=>
    obtain⟨r1,r2,r3⟩:=hr;refine⟨k0,.ok u ⟨putG k'.kn q (.o (ki u)),zbD k'.bu q⟩,⟨⟨λJ=>?_,λJ=>?_,zfr r1.nd⟩,λJ=>?_,r3⟩,λg hg=>by have e:=hkk g hg;simp only at e;simp only[e,Bn.bind]⟩
    ·simp only[zsR];by_cases e:q=J
     ·rw[uw e];exact .inr ⟨u,rfl,VT.int.1 r3⟩
     ·rw[ur e];exact r1.kn J
    ·simp only[zmk r1.nd];by_cases e:q=J
     ·simp_all
     ·rw[ur e];exact r1.bu J
    ·simp only[zmk r1.nd];by_cases e:q=J
     ·simp_all
     ·rw[ur e,r2 J];simp only[zd3,ur e]
  ·simp only[h3];exact EvB.const trivial
 ·simp only[h1];exact EvB.const ⟨hk,Bz.refl k,VT.int.2 h2⟩
theorem zxr(J:FM d m): ∀n,ME d m n:=by
 intro n
 induction n with
 |zero=>exact zmn J λh=>absurd h ua
 |succ n ih=>exact zmn J λ_=>ih
theorem kw0:KW kn0:=⟨λ_=> .inl rfl,λ_=> .inl rfl,List.Pairwise.nil⟩
variable {α:Type}
def EvO(f:Nat->Option α)(Q:α->Prop):Prop:= ∃k0 r,Q r/\ ∀k,k0<=k->f k=some r
def QV(V:α->Prop):Vn α->Prop
 | .ok v=>V v
 | .flt _=>True
 | .out=>False
def EvV(f:Nat->Vn α)(V:α->Prop):Prop:= ∃k0 r,QV V r/\ ∀k,k0<=k->f k=r
theorem EvO.const{r:α}{Q:α->Prop}(h:Q r):EvO (λ_=>some r) Q:=⟨0,r,h,λ_ _=>rfl⟩
variable {r:Vn α}
theorem EvV.const{V:α->Prop}(h:QV V r):EvV (λ_=>r) V:=⟨0,r,h,λ_ _=>rfl⟩
theorem EvV.bind{α β:Type}{f:Nat->Vn α}{g:Nat->α->Vn β}{V:α->Prop}{W:β->Prop}(h:EvV f V)(U: ∀v,V v->EvV (λk=>g k v) W):EvV (λk=>(f k).bind (g k)) W:=by
 obtain⟨k0,r,hr,hk⟩:=h;cases r with
 |out=>exact absurd hr id
 |flt e=>exact⟨k0,.flt e,trivial,λk h=>by simp only[hk k h,Vn.bind]⟩
 |ok v=>
  obtain⟨k1,r2,J,hk1⟩:=U v hr;exact⟨max k0 k1,r2,J,λk h=>by simp only[hk k ua,Vn.bind];grind⟩
theorem trB{f:Nat->Bn}(h:EvB f (QB kn0 (VT d m.n t))):EvO (λg=>(trV (f g)).map λq=>(q.1,q.2.1)) λq=>q.2=0->q.1=0\/VT d m.n t q.1:=by
 obtain⟨k0,r,hr,hk⟩:=h;cases r with
 |out=>exact absurd hr id
 |flt e k=>exact⟨k0,(0,e),λ_=> .inl rfl,λg J=>by simp only[hk g J];rfl⟩
 |ok v k=>exact⟨k0,(v,0),λ_=> .inr hr.2.2,λg J=>by simp only[hk g J];rfl⟩
theorem zvp{n:Int}(h:isB m n=true):0<=n/\n<=m.n.length:=by
 unfold isB at h;simpa using h
theorem zvq(J:FM d m){n:Int}(h:isB m n=true):VT d m.n (tyI d m n) n/\(¬n=0-> ∃y∈d.types,y.n=tyI d m n):=by
 obtain⟨h0,h1⟩:=zvp h;by_cases U:n=0
 ·rw[U];exact⟨VT.zero _ _ _,λh=>absurd rfl h⟩
 ·obtain⟨x,hx⟩:=za (l:=m.n) (i:=(n - 1).toNat) ua;obtain⟨q0,y,hy,_⟩:=J.mt.nd x (uv hx);have e:tyI d m n=y.n:=by unfold tyI tyN ndG;rw[ur U,hx];simp only[Option.getD_some,hy,uG]
  have hm:=uv hy;obtain⟨n1,n2,n3⟩:=J.kd.nm y hm;refine⟨?_,λ_=>⟨y,hm,e.symm⟩⟩;rw[e];unfold VT;rw[ur n1,ur n2,ur n3];refine .inr ⟨ua,h1,?_⟩;unfold nmT
  simp_all
theorem zvr(U:FM d m)(s:Str)(nd:Int):EvO (λg=>meaE d m g s nd) λq=>q.2=0->Gm.inB q.1:=by
 unfold meaE;by_cases J:isB m nd=false
 ·simp only[uw J];exact EvO.const (λh=>absurd h ub)
 simp only[ur J];rcases jM (λx:Ms=>decide (x.n=s)) d.measures with⟨_,h2⟩|⟨i,x,h2,h3,_⟩
 ·have e:zp8 d s=none:=h2;simp only[e];exact EvO.const (λh=>absurd h ub)
 ·have e:zp8 d s=some i:=h2;simp only[e,h3];by_cases h4: ¬nd=0/\ ¬tyI d m nd=x.t
  ·simp only[uw h4];exact EvO.const (λh=>absurd h ub)
  ·simp only[ur h4];have hb:isB m nd=true:=by simpa using J
   have hv:VT d m.n x.t nd:=by
    by_cases hz:nd=0
    ·rw[hz];exact VT.zero _ _ _
    ·have e:tyI d m nd=x.t:=tU λe=>h4 ⟨hz,e⟩
     rw[<-e];exact(zvq U hb).1
   obtain⟨k0,r,hr,hk⟩:=trB (zxr U (nfK kn0) i x nd kn0 h3 hv kw0 (uM _));exact⟨k0,r,λh=>(hr h).elim (λe=>by rw[e];unfold Gm.inB;omega) VT.int.1,hk⟩
def EvW(f:Nat->Nat->Vn α)(V:α->Prop):Prop:= ∃k0 r,QV V r/\ ∀G g,k0<=G->k0<=g->f G g=r
theorem EvW.const{V:α->Prop}(h:QV V r):EvW (λ_ _=>r) V:=⟨0,r,h,λ_ _ _ _=>rfl⟩
variable {f:Nat->Nat->Vn α}
theorem EvW.succ{g:Nat->Nat->Vn α}{V:α->Prop}(h:EvW g V)(hfg: ∀G k,f G (k+1)=g G k):EvW f V:=by
 obtain⟨k0,r,hr,hk⟩:=h;refine⟨k0+1,r,hr,λG k hG hk'=>?_⟩;obtain⟨j,rfl⟩: ∃j,k=j+1:=⟨k - 1,ua⟩
 grind
theorem EvW.congr{g:Nat->Nat->Vn α}{V:α->Prop}(h:EvW g V)(hfg: ∀G k,f G k=g G k):EvW f V:=by
 obtain⟨k0,r,hr,hk⟩:=h;exact⟨k0,r,hr,λG k h1 h2=>by simp_all⟩
theorem EvW.pos{_:Decidable c}{a b:Nat->Nat->Vn α}{V:α->Prop}(h:c)(e:EvW a V):EvW (λG k=>if c then a G k else b G k) V:=e.congr λ_ _=>uw h
theorem EvW.neg{_:Decidable c}{a b:Nat->Nat->Vn α}{V:α->Prop}(h: ¬c)(e:EvW b V):EvW (λG k=>if c then a G k else b G k) V:=e.congr λ_ _=>ur h
theorem EvW.imp{V W:α->Prop}(h:EvW f V)(hv: ∀v,V v->W v):EvW f W:=by
 obtain⟨k0,r,hr,hk⟩:=h;refine⟨k0,r,?_,hk⟩;cases r with
 |ok v=>exact hv v hr
 |flt e=>trivial
 |out=>exact hr
theorem EvW.bind{α β:Type}{f:Nat->Nat->Vn α}{g:Nat->Nat->α->Vn β}{V:α->Prop}{W:β->Prop}(h:EvW f V)(U: ∀v,V v->EvW (λG k=>g G k v) W):EvW (λG k=>(f G k).bind (g G k)) W:=by
 obtain⟨k0,r,hr,hk⟩:=h;cases r with
 |out=>exact absurd hr id
 |flt e=>exact⟨k0,.flt e,trivial,λG k h h2=>by simp only[hk G k h h2,Vn.bind]⟩
 |ok v=>
  obtain⟨k1,r2,J,hk1⟩:=U v hr;exact⟨max k0 k1,r2,J,λG k h h2=>by simp only[hk G k ua ua,Vn.bind];grind⟩
theorem QV.imp{V W:α->Prop}(h: ∀v,V v->W v): ∀ {r:Vn α},QV V r->QV W r
 | .ok v,q=>h v q
 | .flt _,_=>trivial
 | .out,q=>q
theorem zmo{op n:Int}{s:Str}{l:List Ex}(h:vM (.mk op n s l)=true)(ho:op=3):n=0:=by
 unfold vM at h;simp only[um,Ex.op,Ex.n]at h
 grind
structure SC (d:zf) (m:Hp) (c:Scp):Prop where
 len:c.va.length=c.ps.length
 ty: ∀(i:Nat) f v,c.ps[i]?=some f->c.va[i]?=some v->VT d m.n f.t v
section
variable {c:Scp}
theorem zvs(U:FM d m)(hc:SC d m c){s:Str}(h:look (c.ps++d.globals) s=some t):QV (VT d m.n t) (vbV d m c s):=by
 unfold vbV;rcases zdu h with⟨i,f,J,h2,h3⟩|⟨h0,i,f,J,h2,h3⟩
 ·obtain⟨v,hv⟩: ∃v,c.va[i]?=some v:=za (by rw[hc.len];grind);simp only[J,hv];rw[<-h3];exact hc.ty i f v h2 hv
 ·obtain⟨v,hv⟩: ∃v,m.g[i]?=some v:=za (by rw[U.mt.gl];grind);simp only[h0,J,hv];rw[<-h3];exact U.mt.gt i f v h2 hv
theorem zmp(n:Int):QV (VT d m.n (⟨#[105,110,116]⟩:UI)) (nbV n):=by
 unfold nbV;split
 ·trivial
 ·exact VT.int.2 (by unfold Gm.inB;omega)
theorem zvt(hF:FM d m){vs:List Fld}{op a b:Int}{s ta tb:Str}(ho:9<=op/\op<=17\/op=22\/op=23)(J:zu d vs false op s [ta,tb]=(t,0))(ha:VT d m.n ta a)(hb:VT d m.n tb b):QV (VT d m.n t) (twV op a b):=by
 have ia:=ha.inB hF.mt.nl;have ib:=hb.inB hF.mt.nl;unfold twV;rw[uw ⟨ia,ib⟩];unfold tw0;by_cases h1:op=14\/op=15
 ·have ht:t=(⟨#[98,111,111,108]⟩:UI):=by
   rcases h1 with rfl|rfl
   all_goals
    simp[zu]at J;split at J
    ·simp at J
    ·simp only[uz,qn]at J;exact J.symm
  subst ht;rcases h1 with rfl|rfl
  ·exact VT.bool.2 (y7 _)
  ·exact VT.bool.2 (y7 _)
 by_cases h2:op=16
 ·subst h2;simp[zu]at J;rw[(zI J).1];exact VT.bool.2 (y7 _)
 by_cases h3:op=17
 ·subst h3;simp[zu]at J;rw[(zI J).1];exact VT.bool.2 (y7 _)
 unfold zu at J;rw[ur ua,ur ua,ur ua,ur ua,ur ua,ur ua,ur ua,ur ua,ur ua,ur ua]at J;obtain⟨rfl,_⟩:=zI J;by_cases o9:op=9
 ·rw[uw o9];exact zmp _
 rw[ur o9];by_cases U:op=10
 ·rw[uw U];exact zmp _
 rw[ur U];unfold Gm.inB at ia ib;by_cases o11:op=11
 ·rw[uw o11];unfold pdV;split
  ·trivial
  ·rename_i hp;refine VT.int.2 ?_;have:(a*b).natAbs<=1099511627776:=by rw[oy];omega
   unfold Gm.inB;omega
 rw[ur o11,ur (λe=>h1 (.inl e)),ur (λe=>h1 (.inr e)),ur h2,ur h3];by_cases o22:op=22
 ·rw[uw o22];exact VT.int.2 (by unfold Gm.inB;omega)
 rw[ur o22];by_cases o23:op=23
 ·rw[uw o23];exact VT.int.2 (by unfold Gm.inB;omega)
 rw[ur o23];by_cases b0:b=0
 ·rw[uw b0];trivial
 rw[ur b0];by_cases o12:op=12
 ·rw[uw o12];have:(Int.tdiv a b).natAbs<=a.natAbs:=by rw[Uj];exact oL _ _
  refine VT.int.2 ?_;unfold Gm.inB;omega
 rw[ur o12];have:(Int.tmod a b).natAbs<=a.natAbs:=by rw[Uk];exact Nat.mod_le _ _
 refine VT.int.2 ?_;unfold Gm.inB;omega
theorem zxs{r:Bn}{V:Int->Prop}(h:QB kn0 V r):QV V r.vn:=by
 cases r with
 |ok v k=>exact h.2.2
 |flt e k=>trivial
 |out=>exact h
theorem zsU(hF:FM d m)(s:Str)(nd:Int):EvW (λG _=>mesV d m G s nd) (VT d m.n (⟨#[105,110,116]⟩:UI)):=by
 obtain⟨k0,⟨v,e⟩,hr,hk⟩:=zvr hF s nd;by_cases J:e=0
 ·exact⟨k0,.ok v,VT.int.2 (hr J),λG g U _=>by have h:=hk G U;simp only at h;simp only[mesV,h,uw J]⟩
 ·exact⟨k0,.flt e,trivial,λG g U _=>by have h:=hk G U;simp only at h;simp only[mesV,h,ur J]⟩
end
def PW(d:zf)(m:Hp)(c:Scp)(e:Ex):Prop:= ∀u,exT d (c.ps++d.globals) false e=(u,0)->EvW (λG g=>vaV d m G c g e) (VT d m.n u)
theorem zvu{c:Scp}{op n:Int}{s:Str}{l:List Ex}{V:Int->Prop}(J:l[i]?=some x)(h:EvW (λG g=>vaV d m G c g x) V):EvW (λG g=>vatV d m G c g (.mk op n s l) i) V:=
 h.succ λG g=>by rw[vatV];simp only[Ex.l,J]
theorem zqE{d:zf}{m:Hp}{c:Scp}: ∀ {l:List Ex} {ts:List Str},(∀x∈l,PW d m c x)->exsT d (c.ps++d.globals) false l=(ts,0)->
 EvW (λG g=>vasV d m G c g l) λa=>a.length=l.length/\ ∀(i:Nat) v,a[i]?=some v->VT d m.n (lsA ts i) v
 | [],ts,_,_=>EvW.succ (g:=λ_ _=>Vn.ok []) (EvW.const ⟨rfl,λi v h=>by simp at h⟩) λG k=>by rw[vasV]
 |x::r,ts,hp,ht=>by
  obtain⟨hl,J⟩:=vr ht
  have hr:exsT d (c.ps++d.globals) false r=(ts.drop 1,0):=by
   have hx:=J 0 x rfl;rw[exsT,hx]at ht;simp only[uW]at ht;cases hq:exsT d (c.ps++d.globals) false r with
   |mk us f=>
    rw[hq]at ht;simp only[uz]at ht;obtain⟨h5,rfl⟩:=ht;rw[<-h5];rfl
  refine EvW.succ (g:=λG k=>(vaV d m G c k x).bind λv=>(vasV d m G c k r).bind λq=> .ok (v::q)) ?_ λG k=>by rw[vasV]
  refine EvW.bind (hp x ue _ (J 0 x rfl)) λv hv=>?_;refine EvW.bind (zqE (l:=r) (ts:=ts.drop 1) (λy hy=>hp y (by simp[hy])) hr) λa ha=>EvW.const ⟨by simp[ha.1],λi u U=>?_⟩
  cases i with
  |zero=>simp_all
  |succ i=>
   simp only[u6]at U;have:=ha.2 i u U;have e:lsA (ts.drop 1) i=lsA ts (i+1):=by unfold lsA;rw[tc,oz]
   grind
mutual
theorem zvv{d:zf}{m:Hp}{c:Scp}(hF:FM d m)(hc:SC d m c): ∀e:Ex,okE e->PW d m c e
 | .mk op n s l,hok=>by
   have ihl:=zqF hF hc l hok.2;intro u ht;obtain⟨ts,hts,h7,hn⟩:=zdw ht;obtain⟨hl,hat⟩:=vr hts;obtain⟨klen,k1,k3,kop,k2,kn1,kn2⟩:=vX hok.1
   have prt: ∀(i:Nat) (x:Ex),l[i]?=some x->EvW (λG g=>vatV d m G c g (.mk op n s l) i) (VT d m.n (lsA ts i)):=λi x hx=>
    zvu hx (ihl x (uv hx) _ (hat i x hx))
   have two:(9<=op/\op<=17\/op=19\/op=20\/op=22\/op=23)->(∃x,l[0]?=some x)/\ ∃x,l[1]?=some x:=λh=>⟨za (by have:=k2 h;omega),za (by have:=k2 h;omega)⟩
   refine EvW.succ (g:=λG g=>vaV d m G c (g+1) (.mk op n s l)) ?_ λG g=>rfl
   simp only[vaV,Ex.op,Ex.n,Ex.s,Ex.l];by_cases o1:op=1\/op=2\/op=3
   ·refine EvW.pos o1 ?_;refine EvW.const ?_;rcases o1 with rfl|rfl|rfl
    ·have:=hn ub;simp[zu]at this;rw[<-this];exact VT.int.2 (kn1 rfl)
    ·have:=hn ub;simp[zu]at this;rw[<-this];exact VT.bool.2 (kn2 rfl)
    ·rw[zmo hok.1 rfl];exact VT.zero _ _ _
   refine EvW.neg o1 ?_;by_cases o4:op=4
   ·refine EvW.pos o4 ?_;subst o4;have hn:=hn ub;simp only[zu,show ¬(4:Int)=1 by decide,show ¬(4:Int)=2 by decide,show ¬(4:Int)=3 by decide,uN,uW]at hn;cases hlk:look (c.ps++d.globals) s with
    |none=>simp_all
    |some u'=>
     rw[hlk]at hn;simp only[uz,qn]at hn;subst hn;exact EvW.const (zvs hF hc hlk)
   refine EvW.neg o4 ?_;by_cases o19:op=19\/op=20
   ·refine EvW.pos o19 ?_;obtain⟨⟨x,hx⟩,y,hy⟩:=two ua;have hl2:=k2 ua;have hn:=hn ua
    have hb:u=(⟨#[98,111,111,108]⟩:UI)/\ ∀i,i<ts.length->lsA ts i=(⟨#[98,111,111,108]⟩:UI):=by
     rcases o19 with rfl|rfl
     ·simp[zu]at hn;exact zI hn
     ·simp[zu]at hn;exact zI hn
    obtain⟨rfl,hall⟩:=hb;refine(prt 0 x hx).bind λa ha=>?_;have h2:=prt 1 y hy;rw[hall 1 ua]at h2;rw[hall 0 ua]at ha;by_cases v0:(decide (a=1)==decide (op=19))=true
    ·grind
    ·exact EvW.neg v0 (EvW.const ha)
   refine EvW.neg o19 ?_;by_cases o21:op=21
   ·refine EvW.pos o21 ?_;have hl3:=k3 o21;subst o21;have hn:=hn ub;obtain⟨x,hx⟩: ∃x,l[0]?=some x:=za ua;obtain⟨y,hy⟩: ∃y,l[1]?=some y:=za ua;obtain⟨z,hz⟩: ∃z,l[2]?=some z:=za ua
    simp only[zu,show ¬(21:Int)=1 by decide,show ¬(21:Int)=2 by decide,show ¬(21:Int)=3 by decide,show ¬(21:Int)=4 by decide,show ¬(21:Int)=5 by decide,show ¬(21:Int)=6 by decide,show ¬((21:Int)=14\/(21:Int)=15) by decide,
     show ¬((21:Int)=16\/(21:Int)=17) by decide,show ¬((21:Int)=18\/(21:Int)=19\/(21:Int)=20) by decide,uN,uW]at hn
    have hfit:lsA ts 0=(⟨#[98,111,111,108]⟩:UI)/\ ∀(ns:List Nd) (v:Int),(VT d ns (lsA ts 1) v->VT d ns u v)/\(VT d ns (lsA ts 2) v->VT d ns u v):=by
     split at hn
     ·rename_i h0;refine⟨h0,λns v=>?_⟩;split at hn
      ·rename_i hf;simp only[uz,qn]at hn;subst hn;exact⟨λh=>h.fits hf,λh=>h⟩
      ·split at hn
       ·rename_i hf;simp only[uz,qn]at hn;subst hn;exact⟨λh=>h,λh=>h.fits hf⟩
       ·simp at hn
     ·simp at hn
    refine(prt 0 x hx).bind λa ha=>?_;rw[hfit.1]at ha;rcases VT.bool.1 ha with rfl|rfl
    ·refine EvW.pos (by unfold Gm.inB;omega) ?_;exact(prt 2 z hz).imp λv h=>(hfit.2 m.n v).2 h
    ·refine EvW.pos (by unfold Gm.inB;omega) ?_;exact(prt 1 y hy).imp λv h=>(hfit.2 m.n v).1 h
   refine EvW.neg o21 (EvW.pos ua ?_);refine(zqE ihl hts).bind λa ha=>?_;obtain⟨ha1,ha2⟩:=ha;unfold opsV;by_cases o6:op=6
   ·subst o6;have hn:=hn ub;simp[zu]at hn
   have hl1:1<=l.length:=by
    by_cases o7:op=7
    ·obtain⟨_,_,_,_,q,_⟩:=zca (h7 o7).1;omega
    ·by_cases q:op=5\/op=8\/op=18\/op=24
     ·have:=k1 q;omega
     ·have:=k2 ua;omega
   obtain⟨v,hv⟩: ∃v,a[0]?=some v:=za ua;have hvt:=ha2 0 v hv;have hvi:=hvt.inB hF.mt.nl;simp only[hv,Ex.op,Ex.s];by_cases o5:op=5
   ·refine EvW.pos o5 ?_;subst o5;have hn:=hn ub;simp only[zu,show ¬(5:Int)=1 by decide,show ¬(5:Int)=2 by decide,show ¬(5:Int)=3 by decide,show ¬(5:Int)=4 by decide,uN,uW]at hn;exact EvW.const (zxs (zml hF kw0 hn hvt))
   refine EvW.neg o5 ?_;by_cases o7:op=7
   ·refine EvW.pos o7 ?_;obtain⟨_,_,_,_,_,_,rfl⟩:=zca (h7 o7).1;exact zsU hF s v
   refine EvW.neg o7 ?_;have hn:=hn o7;by_cases o8:op=8
   ·refine EvW.pos o8 ?_;subst o8;simp[zu]at hn;obtain⟨rfl,_⟩:=zI hn;exact EvW.pos hvi (EvW.const (zmp _))
   refine EvW.neg o8 ?_;by_cases o18:op=18
   ·refine EvW.pos o18 ?_;subst o18;simp[zu]at hn;obtain⟨rfl,hall⟩:=zI hn;rw[hall 0 ua]at hvt;have:=VT.bool.1 hvt;exact EvW.pos hvi (EvW.const (VT.bool.2 ua))
   refine EvW.neg o18 ?_;by_cases o24:op=24
   ·refine EvW.pos o24 ?_;subst o24;simp[zu]at hn;obtain⟨rfl,_⟩:=zI hn;refine EvW.pos hvi (EvW.const (VT.int.2 ?_));unfold Gm.inB at hvi⊢;unfold zi2;split
    ·omega
    ·have hlg:Nat.log2 v.toNat<64:=by rw[oM ua];omega
     omega
   refine EvW.neg o24 ?_;have ho:9<=op/\op<=17\/op=22\/op=23:=by omega
   have hl2:=k2 ua;obtain⟨w,hw⟩: ∃w,a[1]?=some w:=za ua;have hwt:=ha2 1 w hw;simp only[hw]
   have hts2:ts=[lsA ts 0,lsA ts 1]:=by
    match ts,hl.trans hl2 with
    | [a,b],_=>rfl
   rw[hts2]at hn;exact EvW.const (zvt hF ho hn hvt hwt)
theorem zqF{d:zf}{m:Hp}{c:Scp}(hF:FM d m)(hc:SC d m c): ∀l:List Ex,okL l-> ∀x∈l,PW d m c x
 | [],_=>λx hx=>by cases hx
 |y::r,hok=>λx hx=>by
  have h1:=zvv hF hc y hok.1;have h2:=zqF hF hc r hok.2
  grind
end
theorem zmq{c:Cl}(h:(chE d c).1=0): ∃i p,zbG d c.p=some i/\d.procs[i]?=some p/\(chE d c).2=p/\c.a.length=p.params.length/\(∀f∈p.params,plB f.t=true)/\(List.zip c.a p.params).any agB=false:=by
 unfold chE at h⊢
 grind
section
variable {f:Hp->Cl->Option (EnT×Option Hp×Int)}
theorem zmr(c:Cl)(r:List Cl)(m:Hp):audF f (c::r) m=match f m c with
 |none=>none
 |some (x,some m2,e)=>if ¬e=0 then some ([],none,e)else(audF f r m2).map λq=>if q.2.2=0 then(x::q.1,q.2)else q
 |some (_,none,e)=>some ([],none,e):=by rw[audF];rfl
end
abbrev bare(d:zf):zf:={ d with pots:=[],bounds:=[] }
theorem zsV(d:zf):rnV (bare d)=rnV d:=by kernel_rfl
theorem zsW(d:zf):za6 (bare d)=za6 d:=by kernel_rfl
theorem zsX(d:zf):chE (bare d)=chE d:=by kernel_rfl
theorem zjt(d:zf):jJ (bare d)=jJ d:=by kernel_rfl
theorem zju(d:zf):zbI (bare d)=zbI d:=by kernel_rfl
theorem zgW(d:zf):jK (bare d)=jK d:=by kernel_rfl
theorem zms(h:ye d=true):ye (bare d)=true:=by
 simp only[ye,um]at h⊢;obtain⟨⟨⟨J,h2⟩,h3⟩,h4⟩:=h;refine⟨⟨⟨?_,h2⟩,h3⟩,?_⟩
 ·simp only[jl,um]at J⊢;exact⟨⟨J.1.1,rfl⟩,rfl⟩
 ·simp only[yv,um]at h4⊢;exact⟨⟨h4.1.1,rfl⟩,rfl⟩
theorem zsY(h:zY d=true):zY (bare d)=true:=by
 simp only[zY,um]at h⊢;exact⟨⟨zms h.1.1,h.1.2⟩,h.2⟩
theorem zmt(h:zQ d m=true):zQ (bare d) m=true:=by
 simp only[zQ,um]at h⊢;obtain⟨⟨⟨⟨⟨J,h2⟩,h3⟩,h4⟩,U⟩,h6⟩:=h;exact⟨⟨⟨⟨⟨zsY J,h2⟩,h3⟩,h4⟩,U⟩,h6⟩
theorem zsZ(d:zf):yZ (bare d)=yZ d:=by kernel_rfl
theorem zpo{a b:Ft}(ha:a=none)(J:b=none):orF a b=none:=by rw[ha,J];rfl
theorem zpp(h:zdq d=none):zdq (bare d)=none:=by
 obtain⟨h1,h⟩:=xS h;obtain⟨h2,h⟩:=xS h;obtain⟨h3,h⟩:=xS h;obtain⟨h4,h5⟩:=xS h;obtain⟨J,h⟩:=xS h3;obtain⟨U,_⟩:=xS h;obtain⟨h51,h⟩:=xS h5;obtain⟨h52,_⟩:=xS h;have e3:zcr (bare d)=none:=zpo J (zpo U rfl)
 have e5:zaR (bare d)=none:=by
  unfold zaR;simp only[zsZ];exact zpo h51 (zpo h52 rfl)
 unfold zdq;rw[zjt,zju,zgW,h1,h2,e3,h4,e5];rfl
theorem zmu(h:vi d m=true):vi (bare d) m=true:=by
 obtain⟨hv,hf,J⟩:=zbn h;unfold vi zcl zwj;rw[zms hv,zpp hf,zmt J];rfl
end Hw.Gm
namespace Hw
open Go
theorem zim{M:Mem}{g:Nat->Option Value}{z:Value}(J:z.oneCell'=true): ∀(m o:Nat),(∀j,j<m->g (o+j)=some z)->RowsIn M g 1 (List.replicate m [PV.k z]) o
 |0,_,_=>by simp[RowsIn]
 |m+1,o,h=>by
  rw[oa];simp only[RowsIn,RowIn,RepPV,uP,Uq];refine⟨⟨⟨z,h 0 ua,rfl,J⟩,uh⟩,zim J m (o+1) λj hj=>?_⟩
  grind
variable {P:Program}{af:Array Edge}{d:Option Nat}{el:TypeId}{ps:String}{rows:List (List PV)}{x:Operand}{z:Value}
section
variable {ty:TypeId} {g:Option (Nat×Bool)} {t:TypeId}
theorem zmv{id k m:Nat}(hx:okc x (.one (.sv id (k*1) m)))(he:elemSz P t=some (el,1))(hz: ∀w,(zeroValue el).run P w= .ok z w)(hzc:z.cells= #[z])(h1:z.oneCell'=true)(hkm:k+m<=rows.length):
 Snd P ⟨d,.call ⟨.builtin .clear,#[x],#[t]⟩,ty,ps,af,g⟩ (rq x (.one (.sv id (k*1) m))) [(id,.arr 1 rows)] [] .un [(id,some (.arr 1 (rows.take k++List.replicate m [PV.k z]++rows.drop (k+m))))]:=by
 intro C st M ρ a w hH hs1 hT hF hd q Q hk;have e1:=hH.evS (zq hx hs1);simp only[RepS,RepV]at e1;obtain⟨ii,hu,hinf,hsz⟩:=zp he;obtain⟨ad,cap,h3,h4,h5,h6⟩:=hH.zz.res id _ hT.1;by_cases h0:m=0
 ·subst h0;have hrow:rows.take k++List.replicate 0 [.k z]++rows.drop (k+0)=rows:=by simp
  rw[hrow]at hk
  obtain⟨ad3,c3,hv⟩: ∃(ad3:Option Addr) (c3:Nat),a.eval x= .slice ad3 0 c3:=by
   grind
  have U:(execOp a.eval ⟨d,.call ⟨.builtin .clear,#[x],#[t]⟩,ty,ps,af,g⟩).run P w= .ok (.value (.tuple #[])) w:=by
   cases ad3 with
   |none=>simp[execOp,resolve,invoke,builtin,Builtin.clear_,run_underlying hu,hv]
   |some b=>simp[execOp,resolve,invoke,builtin,Builtin.clear_,run_underlying hu,hv]
  unfold Oper.wp;rw[U,Oper.upon_value];exact hk _ _ M ρ (hH.turn hT.1 (λk _=>rfl) (uM _) rfl rfl rfl ⟨ad,cap,h3,h4,h5,h6⟩ (by simp only[RepS]) hd)
 ·obtain⟨b,o,N,cp,c3,hid,hv,_,_⟩:=e1.resolve_left λh=>h0 h.1
  have h3':=h3;rw[hid]at h3;simp only[Value.slice.injEq]at h3;rcases h6 with⟨h6,_⟩|⟨b',o',cs,el',fz,h6,h7,h7',h8,h9⟩
  ·omega
  ·rw[h6]at h3;have hbo:b=b'/\o=o':=by have:=h3.1;simp at this;exact this
   obtain⟨rfl,rfl⟩:=hbo;have hst:=zG (P:=P) b (o+k*1) el' fz (List.replicate m z) 0 cs w h7 h7' (by simp only[tZ];omega) (λv hv=>by rw[List.eq_of_mem_replicate hv];exact h1)
   have hzl:(Builtin.zeroCells z.cells m).toList=List.replicate m z:=by
    rw[hzc];simp[Builtin.zeroCells]
    apply List.ext_getElem
    ·simp
    ·intro i h1 h2;simp[Nat.mod_one]
   have U:(execOp a.eval ⟨d,.call ⟨.builtin .clear,#[x],#[t]⟩,ty,ps,af,g⟩).run P w= .ok (.value (.tuple #[])) (w.setRow b (setAt cs.toList (o+k*1) (List.replicate m z)).toArray):=by
    rw[qe]at hst;obtain⟨m',rfl⟩: ∃m',m=m'+1:=⟨m - 1,ua⟩;simp[execOp,resolve,invoke,builtin,Builtin.clear_,run_underlying hu,hv,hz,hzl];simp only[Nat.mul_one]at hst;rw[hst];rfl
   unfold Oper.wp;rw[U,Oper.upon_value];have hcsl:o+k*1+(List.replicate m z).length<=cs.toList.length:=by simp only[tZ,qh];omega
   have hnew:RowsIn M (λq=>(setAt cs.toList (o+k*1) (List.replicate m z))[q]?) 1 (rows.take k++List.replicate m [PV.k z]++rows.drop (k+m)) o:=by
    have J: ∀q:Nat,(λq:Nat=>(setAt cs.toList (o+k*1) (List.replicate m z))[q]?) q=if q<o+k*1 then cs[q]? else if q<o+k*1+m then(List.replicate m z)[q - (o+k*1)]? else cs[q]?:=λq=>by
     simp only[];rw[yh _ _ _ _ (by simp only[tZ,qh];omega)];simp
    generalize (λq:Nat=>(setAt cs.toList (o+k*1) (List.replicate m z))[q]?)=g' at J⊢;have htl:(rows.take k).length=k:=by rw[u9];omega
    refine RowsIn.append (RowsIn.append (RowsIn.congr (λq hq=>?_) (h9.take k)) ?_) ?_
    ·rw[htl]at hq;rw[J,uw ua]
    ·rw[htl];refine zim h1 m _ λj hj=>?_;rw[J,ur ua,uw ua,show o+k*1+j - (o+k*1)=j by omega,oe,uw hj]
    ·rw[uQ,htl,tZ];refine RowsIn.congr (λq hq=>?_) (h9.drop (k+m));rw[J,ur ua,ur ua]
   have hlen:(rows.take k++List.replicate m [PV.k z]++rows.drop (k+m)).length=rows.length:=by
    simp only[uQ,u9,tD,tZ];omega
   have hsize:(setAt cs.toList (o+k*1) (List.replicate m z)).toArray.size=cs.size:=by rw[qg,z8 _ _ _ hcsl,qh]
   refine hk _ _ M ρ (hH.turn hT.1 (λk' hk'=>setRow_other w b k' _ (λe'=>hk' (by simp[h3',h6,Bk,blk,e']))) ue rfl rfl rfl
    ⟨ad,cap,by simp_all,ua,h5,.inr ⟨b,o,_,el',fz,h6,setRow_heap w b _ _ el' _ h7,?_,?_,?_⟩⟩ (by simp only[RepS]) hd)
   ·simp_all
   ·omega
   ·simpa using hnew
end
section
variable {C:Ctx} {k:List Frm} {n:Nat} {sl:zb} {tab:Tab} {Q:Exit->St->Prop} {all:Array Oper} {rest:List Oper}
theorem zmw{t ty:TypeId}{g0:Option (Nat×Bool)}{gs:zb}{md:Mode}(hC:C.low){id kk m:Nat}(rows3:List (List PV))
 (hx:ev sl x=some (.one (.sv id (kk*1) m))) (hT:tg tab id=some (.arr 1 rows)) (he:elemSz P t=some (el,1)) (hz: ∀w,(zeroValue el).run P w= .ok z w) (J:z.cells= #[z]) (h1:z.oneCell'=true) (U:kk+m<=rows.length)
 (h3:rows.take kk++List.replicate m [PV.k z]++rows.drop (kk+m)=rows3) (hm:metL all sl g0=some gs) (hd:dok d n=true)
 (g:Goal P C (.ops all rest (nx md ⟨d,gs++rq x (.one (.sv id (kk*1) m)),[(id,.arr 1 rows)],[],.un,[(id,some (.arr 1 rows3))]⟩)) k n (app d .un [(id,some (.arr 1 rows3))] ⟨n,sl,tab⟩).sl ((id,some (.arr 1 rows3))::tab) Q):
 Goal P C (.ops all (⟨d,.call ⟨.builtin .clear,#[x],#[t]⟩,ty,ps,af,g0⟩::rest) md) k n sl tab Q:=by
 subst h3;exact gDo hC hm (zmv (ev1 hx) he hz J h1 U) (ev2 hx) ⟨hT,uh⟩ rfl hd g
end
end Hw
namespace Hw.Gm
open Go Go.Proofs Hw.M Ps Tryz
abbrev ptB(d:zf)(m:Hp)(p:Pt)(a b c:Nat):RL:=[(a,.box ((zr d).map V.p)),(b,.box ((yp m).map V.p)),(c,.box ((zht p).map V.p))]
def zin(d:zf)(m:Hp)(p:Pt)(k:Int):Bool:= !decide (tyN d (ndG m k).t=p.t)
def zwv(m:Hp)(k:Int):Prop:=1<=k/\k<=m.n.length
variable {d:zf}{m:Hp}
theorem zmx(hs:xo m)(hw:zgG d m)(p:Pt){k:Int}(hk:zwv m k):zh prog 54 [I k,.one (.bx 0 0),.one (.bx 1 0),.one (.bx 2 0)] (ptB d m p 0 1 2) (.bq (zin d m p k)) (ptB d m p 0 1 2):=by
 have hn:=hs.n;obtain⟨k1,k2⟩:=hk;obtain⟨x,J⟩:=za (l:=m.n) (i:=(k - 1).toNat) ua;obtain⟨h1,h2⟩:=hw x (uv J);obtain⟨y,hy⟩:=za h2;have U:IntKind.i64.wrap (k - 1)=k - 1:=wrap64 ua;have hof:zin d m p k= !decide (y.n=p.t):=by simp only[zin,ndG,J,Option.getD_some,tyN,hy,uG]
 rw[hof];refine gFo func54 λC hC=>?_
 repeat' first|refine gG ?_|refine gB ?_ ?_<;>intro h|(rw[U];refine gIt (yQ J) ?_)|refine gIt (yQ hy) ?_|refine zd ?_
 exact gE
abbrev ptC:S:= .one (.cl 54 [] [.bx 5 0,.bx 6 0,.bx 7 0])
abbrev ptR(d:zf)(m:Hp)(p:Pt)(l:List Int):RL:=(0,.arr 1 (l.map zN))::ptB d m p 5 6 7
abbrev ptT(d:zf)(m:Hp)(p:Pt)(l:List Int):Tab:=[(0,some (.arr 1 (l.map zN))),(5,some (.box ((zr d).map V.p))),(6,some (.box ((yp m).map V.p))),(7,some (.box ((zht p).map V.p)))]
variable {i:Nat}{q:Int->Bool}{x:Int}
theorem zgX{l:List Int}(h:l[i]?=some x)(U:q x=true)(hn: ∀j y,j<i->l[j]?=some y->q y=false):l.findIdx? q=some i:=by
 rw[tL];obtain⟨J,he⟩:=uy.1 h;refine⟨J,by rw[he];exact U,λj hj=>?_⟩;rw[hn j _ hj (th ua)];simp
theorem zjv{l:List Int}(U: ∀j y,j<l.length->l[j]?=some y->q y=false):l.findIdx? q=none:=by
 rw[q7];intro y hy;obtain⟨j,J⟩:=tK hy;exact U j y (uy.1 J).1 J
theorem zs0(hs:xo m)(hw:zgG d m)(p:Pt){l:List Int}(hl: ∀x∈l,zwv m x):
 zh prog 88 [.one (.ar 0),ptC] (ptR d m p l) (I (idxI (l.findIdx? (zin d m p)))) (ptR d m p l):=by
 have J:(l.map zN).length=l.length:=uj _;refine gFo func88 λC hC=>?_;refine zki 0 rfl rfl λU=>?_;rw[J]at U
 repeat' first|refine gG ?_|refine gB ?_ ?_<;>intro h
 refine zj (λi:Nat=>i<=l.length/\ ∀j y,j<i->l[j]?=some y->zin d m p y=false) (λi=>([(0,.one (.ar 0)),(1,ptC),(7,I l.length),(8,I i)],ptT d m p l)) (λi=>l.length - i) hC
  0 ⟨uD _,λj y hj=>absurd hj (oO _)⟩ id ⟨rfl,⟨rfl,rfl,by rw[<-J];rfl,rfl,uh⟩,⟨rfl,rfl,rfl,rfl,uh⟩,rfl,λ_ _=>rfl⟩ ?_
 rintro i ⟨hi,hn⟩;refine gLc ?_ ?_<;>intro h
 ·have hlt:i<l.length:=by simpa using h
  clear h;obtain⟨x,hx⟩:=za hlt;have hP:=zmx hs hw p (hl x (uv hx));cases hq:zin d m p x with
  |true=>
   rw[hq]at hP;rw[zgX hx hq hn];simp only[idxI]
   repeat' first|refine gG ?_|exact gD|refine gB ?_ ?_<;>intro h|refine jz T hC (rows:=l.map zN) rfl rfl rfl rfl (uL _) (by rw[J];omega) rfl rfl ?_|refine jd T hC i 0 (rows:=l.map zN) (row:=zN x) rfl rfl rfl ue (by rw[uO,hx];rfl) rfl rfl rfl ?_|refine gR hP iM ?_|refine zk ?_
   exact gE
  |false=>
   rw[hq]at hP
   repeat' first|refine gG ?_|exact gD|refine gB ?_ ?_<;>intro h|refine jz T hC (rows:=l.map zN) rfl rfl rfl rfl (uL _) (by rw[J];omega) rfl rfl ?_|refine jd T hC i 0 (rows:=l.map zN) (row:=zN x) rfl rfl rfl ue (by rw[uO,hx];rfl) rfl rfl rfl ?_|refine gR hP iM ?_|refine zk ?_
   rw[wrap64 ua];exact zg (i+1) ⟨ua,λj y hj hy=>(oY.1 hj).elim (λh1=>hn j y h1 hy) (λe=>by subst e;rw[hx]at hy;cases hy;exact hq)⟩ id ua gM
 ·have hge: ¬i<l.length:=by simpa using h
  clear h;rw[zjv λj y hj=>hn j y ua];simp only[idxI]
  repeat' first|refine gG ?_|refine gB ?_ ?_<;>intro h|refine zd ?_
  exact gE
theorem filter_all{l:List Int}(h: ∀x∈l,q x=false):l.filter (λx=> !q x)=l:=by
 rw[List.filter_eq_self];intro x J;rw[h x J];rfl
theorem take_set{l:List Int}(h:i<l.length):(l.set i x).take (i+1)=l.take i++[x]:=by
 apply List.ext_getElem?
 intro j;rw[qv,qX,Uw,u9,Up ua];by_cases J:j<i
 ·rw[uw ua,ur ua,uw J,qv,uw J]
 ·by_cases h2:j=i
  ·subst h2;rw[uw ua,uw rfl,uw h,ur J];simp
  ·rw[ur ua,ur J];rw[tY ug]
theorem drop_set{l:List Int}{j:Nat}(h:i<j):(l.set i x).drop j=l.drop j:=by
 apply List.ext_getElem?
 intro k;rw[tc,tc,qX,ur ua]
theorem zs1(hs:xo m)(hw:zgG d m)(p:Pt){l:List Int}(hl: ∀x∈l,zwv m x):
 zh prog 53 [.one (.ar 0),ptC] (ptR d m p l) (.one (.ar 2)) ((2,.arr 1 ((l.filter λx=> !zin d m p x).map zN))::ptB d m p 5 6 7):=by
 have hI:=zs0 hs hw p hl;have hll:(l.map zN).length=l.length:=uj _;refine gFo func53 λC hC=>?_;refine zki 0 rfl rfl λhlen=>?_;rw[hll]at hlen;cases hi:l.findIdx? (zin d m p)with
 |none=>
  rw[hi]at hI;simp only[idxI]at hI;rw[filter_all (λx hx=>by have:=q7.1 hi x hx;simpa using this)]
  repeat' first|refine gG ?_|exact gD|refine gB ?_ ?_<;>intro h|refine gR hI (nm [0,5,6,7]) ?_
  exact gW [0,1,0]
 |some i0=>
  rw[hi]at hI;simp only[idxI]at hI;obtain⟨hi1,hi2,hi3⟩:=tL.1 hi;have hw0:IntKind.i64.wrap ((i0:Int)+1)=((i0+1:Nat):Int):=by rw[wrap64 ua];omega
  repeat' first|refine gG ?_|(exfalso;have h9:=uk h;omega)|refine gB ?_ ?_<;>intro h|refine gR hI (nm [0,5,6,7]) ?_
  rw[hw0]
  refine zj (λq:Nat×Nat×List Int=>q.1<q.2.1/\q.2.1<=l.length/\q.2.2.length=l.length/\q.2.2.take q.1=(l.take q.2.1).filter (λx=> !zin d m p x)/\q.2.2.drop q.2.1=l.drop q.2.1)
   (λq=>([(0,.one (.ar 0)),(1,ptC),(5,I q.1),(6,I q.2.1)],ptT d m p q.2.2)) (λq=>l.length - q.2.1) hC
   (i0,i0+1,l) ⟨ue,by simp only;omega,rfl,?_,rfl⟩ id gM ?_
  ·simp only
   have ht:(l.take i0).filter (λx=> !zin d m p x)=l.take i0:=filter_all λx hx=>by
    obtain⟨j,hj⟩:=tK hx;rw[qv]at hj;split at hj
    ·rename_i hlt;have:=hi3 j hlt;obtain⟨h5,h6⟩:=uy.1 hj;rw[h6]at this;simpa using this
    ·cases hj
   rw[zO (th hi1),og,ht];simp[hi2]
  rintro⟨i,j,cur⟩ ⟨hij,hj,J,htk,hdr⟩;simp only at hij hj J htk hdr;have U:(cur.map zN).length=l.length:=by rw[uj,J]
  change Goal _ _ _ _ _ [(0,.one (.ar 0)),(1,ptC),(5,I (i:Int)),(6,I (j:Int))] (ptT d m p cur) _;have hcu: ∀k,k<l.length-> ∃y,cur[k]?=some y:=λk hk=>za ua
  refine gLc ?_ ?_<;>intro h
  ·have hlt:j<l.length:=by simp only[uj,J]at h;simpa using h
   clear h;obtain⟨x,hx⟩:=za hlt
   have hxc:cur[j]?=some x:=by
    have:=u7 (λq:List Int=>q[0]?) hdr;simp only[tc,qe]at this;rw[this];exact hx
   have hP:=zmx hs hw p (hl x (uv hx));have hw3:IntKind.i64.wrap ((j:Int)+1)=((j+1:Nat):Int):=by rw[wrap64 ua];omega
   cases hq:zin d m p x with
   |true=>
    rw[hq]at hP
    repeat' first|refine gG ?_|exact gD|refine gB ?_ ?_<;>intro h|refine jz T hC (rows:=cur.map zN) rfl rfl rfl rfl (uL _) (by rw[U];omega) rfl rfl ?_|refine jd T hC j 0 (rows:=cur.map zN) (row:=zN x) rfl rfl rfl ue (by rw[uO,hxc];rfl) rfl rfl rfl ?_|refine gR hP iM ?_|refine zk ?_
    rw[hw3];refine zg (i,j+1,cur) ⟨by simp only;omega,by simp only;omega,J,?_,?_⟩ id (by simp only;omega) gM
    ·simp only;rw[zO hx,og,<-htk];simp[hq]
    ·simp only;have:=u7 (List.drop 1) hdr;rwa [tC,tC]at this
   |false=>
    rw[hq]at hP;obtain⟨y,hy⟩:=hcu i ua;have hw2:IntKind.i64.wrap ((i:Int)+1)=((i+1:Nat):Int):=by rw[wrap64 ua];omega
    have hset:(cur.map zN).set i (setAt (zN y) 0 [ki x])=(cur.set i x).map zN:=by rw[Ul];rfl
    repeat' first|refine gG ?_|exact gD|refine gB ?_ ?_<;>intro h|refine jz T hC (rows:=cur.map zN) rfl rfl rfl rfl (uL _) (by rw[U];omega) rfl rfl ?_|refine jd T hC j 0 (rows:=cur.map zN) (row:=zN x) rfl rfl rfl ue (by rw[uO,hxc];rfl) rfl rfl rfl ?_|refine gR hP iM ?_|refine zk ?_
    refine zdM T hC i 0 (rows:=cur.map zN) (row:=zN y) (us:=[ki x]) rfl rfl rfl rfl rfl rfl ue (by rw[uO,hy];rfl) (uM 1) hset rfl ?_
    repeat' first|refine gG ?_|refine gB ?_ ?_<;>intro h|refine zk ?_
    rw[hw2,hw3];refine zg (i+1,j+1,cur.set i x) ⟨by simp only;omega,by simp only;omega,by simp only[qR];exact J,?_,?_⟩ id (by simp only;omega) gM
    ·simp only;rw[zO hx,og,<-htk,take_set ua];simp[hq]
    ·simp only;rw[drop_set ua];have:=u7 (List.drop 1) hdr;rwa [tC,tC]at this
  ·have hge: ¬j<l.length:=by simp only[uj,J]at h;simpa using h
   clear h;have hjl:j=l.length:=by omega
   rw[u0 (l:=l) (i:=j) ua]at htk;have hil:i<=cur.length:=by omega
   have h3:(cur.map zN).take i++List.replicate ((cur.map zN).length - i) [PV.k (.int .i64 0)]++(cur.map zN).drop (i+((cur.map zN).length - i))=(cur.take i).map zN++List.replicate (l.length - i) [PV.k (.int .i64 0)]:=by
    rw[U,uC (by rw[U];omega),uV,qG]
   have htr:((cur.take i).map zN++List.replicate (l.length - i) [PV.k (.int .i64 0)]).take ((i:Int)).toNat=(l.filter λx=> !zin d m p x).map zN:=by
    rw[tj,List.take_append_of_le_length (by rw[uj,u9];omega),u0 (by rw[uj,u9];omega),htk]
   repeat' first|refine gG ?_|refine gB ?_ ?_<;>intro h|refine zd ?_|refine zuL T hC (rows:=cur.map zN) rfl rfl rfl rfl (uL _) (by rw[U];omega) rfl rfl ?_|refine zmw hC (kk:=i) (m:=(cur.map zN).length - i) (rows:=cur.map zN) ((cur.take i).map zN++List.replicate (l.length - i) [PV.k (.int .i64 0)]) rfl rfl (T.es_ok _ _ rfl) zeroValue3 rfl rfl (by rw[U];omega) h3 rfl rfl ?_|refine zlC T 120 hC (rows:=(cur.take i).map zN++List.replicate (l.length - i) [PV.k (.int .i64 0)]) rfl rfl rfl rfl (uL _) (by simp only[uQ,uj,u9,tZ];omega) htr rfl rfl rfl ?_
   exact gW [0,1,120]
end Hw.Gm
namespace Hw.Gm
open Go Go.Proofs Go.Shelf Hw.M Ps Tryz
abbrev flA(e:Int):Value:= .iface 230 (.agg #[.int .i64 e])
def vE:Vn Int->End
 | .ok v=> .ok (I v) []
 | .flt e=> .pn (flA e) []
 | .out=> .no
theorem zmy(n:Int):FnX prog 183 [I n] [] (vE (nbV n)):=by
 have J:=vh n;unfold bdB at J;unfold nbV;by_cases U:n< -1099511627776\/1099511627776<n
 ·rw[uw U];rw[show(decide (-1099511627776<=n)&&decide (n<=1099511627776))=false by simp;omega]at J;refine gFp func183 λC hC=>?_
  repeat' first|refine gG ?_|exact gD|refine gB ?_ ?_<;>intro h|refine gC J ?_|refine zbC hC [.int .i64 5] rfl ud rfl rfl ?_|refine gPa ?_
  all_goals exact gUn id
 ·rw[ur U];rw[show(decide (-1099511627776<=n)&&decide (n<=1099511627776))=true by simp;omega]at J;refine gFo func183 λC hC=>?_
  repeat' first|refine gG ?_|exact gD|refine gB ?_ ?_<;>intro h|refine gC J ?_
  exact gF
theorem zaq(b:Bool):zh prog 229 [.bq b] [] (I (zcH b)) []:=by
 cases b
 all_goals
  refine gFo func229 λC hC=>?_
  repeat' first|refine gG ?_|exact gD|refine gB ?_ ?_<;>intro h
  all_goals exact gF
variable {a:Int}
theorem zx2(h:inB a):(if a< -a then -a else a)=(a.natAbs:Int):=by split<;>omega
theorem zxt{b:Int}(ha:inB a)(hb:inB b)(h0:b≠0):(Int.tdiv 1099511627776 (b.natAbs:Int)<(a.natAbs:Int))↔1099511627776<a.natAbs*b.natAbs:=by
 have e:Int.tdiv 1099511627776 (b.natAbs:Int)=((1099511627776 / b.natAbs:Nat):Int):=by rw[show(1099511627776:Int)=((1099511627776:Nat):Int) from rfl];exact(Uz _ _).symm
 rw[e];have J:0<b.natAbs:=by omega
 have:=Nat.div_lt_iff_lt_mul J (x:=1099511627776) (y:=a.natAbs);omega
theorem zvw{b:Int}(ha:inB a)(hb:inB b):FnX prog 228 [I a,I b] [] (vE (pdV a b)):=by
 have ha':=ha;have hb':=hb;unfold inB at ha' hb';have wa:IntKind.i64.wrap (0 - a)= -a:=by rw[wrap64 ua];omega
 have wb:IntKind.i64.wrap (0 - b)= -b:=by rw[wrap64 ua];omega
 have ma:=zx2 ha;have mb:=zx2 hb;unfold pdV;by_cases J:a=0
 ·subst J;rw[ur ue];refine gFo func228 λC hC=>?_
  repeat' first|refine gG ?_|exact gD|refine gB ?_ ?_<;>intro h
  rw[show IntKind.i64.wrap (0*b)=0*b by rw[Int.zero_mul];rfl];exact gF
 by_cases U:b=0
 ·subst U;rw[ur ue];refine gFo func228 λC hC=>?_
  repeat' first|refine gG ?_|(exfalso;simp[J]at h;done)|exact gD|refine gB ?_ ?_<;>intro h
  rw[show IntKind.i64.wrap (a*0)=a*0 by rw[Int.mul_zero];rfl];exact gF
 have hlt:=zxt ha hb U
 have hq:IntKind.i64.wrap (Int.tdiv 1099511627776 (b.natAbs:Int))=Int.tdiv 1099511627776 (b.natAbs:Int):=by
  have e:Int.tdiv 1099511627776 (b.natAbs:Int)=((1099511627776 / b.natAbs:Nat):Int):=by rw[show(1099511627776:Int)=((1099511627776:Nat):Int) from rfl];exact(Uz _ _).symm
  have:=oL 1099511627776 b.natAbs;rw[e];generalize 1099511627776 / b.natAbs=q at this;exact wrap64 ua
 by_cases h2:a.natAbs*b.natAbs>1099511627776
 ·rw[uw h2];refine gFp func228 λC hC=>?_
  repeat' first|refine gG ?_|(exfalso;simp[J]at h;done)|(exfalso;simp[U]at h;done)|refine gB ?_ ?_<;>intro h|refine zda hC rfl rfl rfl ?_|(rw[wa];refine vK hC (a.natAbs:Int) rfl rfl ma rfl rfl ?_)|(rw[wb];refine vK hC (b.natAbs:Int) rfl rfl mb rfl rfl ?_)|(refine zek hC rfl rfl ua rfl rfl ?_;rw[hq])|refine zbC hC [.int .i64 5] rfl ud rfl rfl ?_|refine gPa ?_
  all_goals first
   |exact gUn id
   |(exfalso;simp only[ux,uE,uq,uu]at *; omega)
 ·rw[ur h2];refine gFo func228 λC hC=>?_
  repeat' first|refine gG ?_|(exfalso;simp[J]at h;done)|(exfalso;simp[U]at h;done)|(exfalso;have h9:=uk h;omega)|refine gB ?_ ?_<;>intro h|refine zda hC rfl rfl rfl ?_|(rw[wa];refine vK hC (a.natAbs:Int) rfl rfl ma rfl rfl ?_)|(rw[wb];refine vK hC (b.natAbs:Int) rfl rfl mb rfl rfl ?_)|(refine zek hC rfl rfl ua rfl rfl ?_;rw[hq])
  have hp:((a.natAbs*b.natAbs:Nat):Int)=(a*b).natAbs:=by rw[oy]
  rw[wrap64 ua];exact gF
theorem zs2(ha:inB a)(h: ¬a<1):zh prog 184 [I a] [] (.tup [I (zi2 a),I 0]) []:=by
 have J:=ha;unfold inB at J;have U:=zlA a.toNat ua;have hc:IntKind.u64.wrap a=(a.toNat:Int):=by rw[IntKind.wrap_u64];omega
 have hl:IntKind.i64.wrap ((Lib.bitLen a.toNat:Int) - 1)=zi2 a:=by
  unfold zi2;rw[ur h,zaG ua ua]
  have hlt:Nat.log2 a.toNat<64:=by
   rw[oM ua];omega
  rw[wrap64 ua];omega
 refine gFo func184 λC hC=>?_
 repeat' first|refine gG ?_|(exfalso;have h9:=uk h;omega)|refine gB ?_ ?_<;>intro h|(rw[hc];refine gC U ?_)
 rw[hl];exact gF
theorem zvx{op b:Int}(ha:inB a)(hb:inB b):FnX prog 185 [I op,I a,I b] [] (vE (tw0 op a b)):=by
 have ha':=ha;have hb':=hb;unfold inB at ha' hb';have hw1:IntKind.i64.wrap (a+b)=a+b:=wrap64 ua;have hw2:IntKind.i64.wrap (a - b)=a - b:=wrap64 ua;have J:=zmy (a+b);have U:=zmy (a - b);have hMul:=zvw ha hb;have hT1:=zaq (decide (a=b));have hT2:=zaq (!decide (a=b));have hT3:=zaq (decide (a<b));have hT4:=zaq (decide (a<=b));unfold tw0;by_cases o9:op=9
 ·subst o9;simp only[Int.reduceEq,uW,uN];cases hr:nbV (a+b)with
  |out=>trivial
  |ok v=>
   rw[hr]at J;have J:zh _ _ _ _ _ _:=J;refine gFo func185 λC hC=>?_
   repeat' first|refine gG ?_|exact gD|refine gB ?_ ?_<;>intro h|(rw[hw1];refine gC J ?_)
   exact gF
  |flt e=>
   rw[hr]at J;have J:yH _ _ _ _ _ _:=J;refine gFp func185 λC hC=>?_
   repeat' first|refine gG ?_|exact gD|refine gB ?_ ?_<;>intro h|(rw[hw1];refine gCN J id ?_)
   exact gUn id
 rw[ur o9];by_cases o10:op=10
 ·subst o10;simp only[Int.reduceEq,uW,uN];cases hr:nbV (a - b)with
  |out=>trivial
  |ok v=>
   rw[hr]at U;have U:zh _ _ _ _ _ _:=U;refine gFo func185 λC hC=>?_
   repeat' first|refine gG ?_|exact gD|refine gB ?_ ?_<;>intro h|(rw[hw2];refine gC U ?_)
   exact gF
  |flt e=>
   rw[hr]at U;have U:yH _ _ _ _ _ _:=U;refine gFp func185 λC hC=>?_
   repeat' first|refine gG ?_|exact gD|refine gB ?_ ?_<;>intro h|(rw[hw2];refine gCN U id ?_)
   exact gUn id
 rw[ur o10];by_cases o11:op=11
 ·subst o11;simp only[Int.reduceEq,uW,uN];cases hr:pdV a b with
  |out=>trivial
  |ok v=>
   rw[hr]at hMul;have hMul:zh _ _ _ _ _ _:=hMul;refine gFo func185 λC hC=>?_
   repeat' first|refine gG ?_|exact gD|refine gB ?_ ?_<;>intro h|refine gC hMul ?_
   exact gF
  |flt e=>
   rw[hr]at hMul;have hMul:yH _ _ _ _ _ _:=hMul;refine gFp func185 λC hC=>?_
   repeat' first|refine gG ?_|exact gD|refine gB ?_ ?_<;>intro h|refine gCN hMul id ?_
   exact gUn id
 rw[ur o11];by_cases o14:op=14
 ·subst o14;simp only[Int.reduceEq,uW,uN];refine gFo func185 λC hC=>?_
  repeat' first|refine gG ?_|exact gD|refine gB ?_ ?_<;>intro h|refine gC hT1 ?_
  exact gF
 rw[ur o14];by_cases o15:op=15
 ·subst o15;simp only[Int.reduceEq,uW,uN];refine gFo func185 λC hC=>?_
  repeat' first|refine gG ?_|exact gD|refine gB ?_ ?_<;>intro h|refine gC hT2 ?_
  exact gF
 rw[ur o15];by_cases o16:op=16
 ·subst o16;simp only[Int.reduceEq,uW,uN];refine gFo func185 λC hC=>?_
  repeat' first|refine gG ?_|exact gD|refine gB ?_ ?_<;>intro h|refine gC hT3 ?_
  exact gF
 rw[ur o16];by_cases o17:op=17
 ·subst o17;simp only[Int.reduceEq,uW,uN];refine gFo func185 λC hC=>?_
  repeat' first|refine gG ?_|exact gD|refine gB ?_ ?_<;>intro h|refine gC hT4 ?_
  exact gF
 rw[ur o17];by_cases o22:op=22
 ·subst o22;simp only[Int.reduceEq,uW,uN];refine gFo func185 λC hC=>?_
  repeat' first|refine gG ?_|exact gD|refine gB ?_ ?_<;>intro h|refine vK hC (if a<b then b else a) rfl rfl rfl rfl rfl ?_
  exact gF
 rw[ur o22];by_cases o23:op=23
 ·subst o23;simp only[Int.reduceEq,uW,uN];refine gFo func185 λC hC=>?_
  repeat' first|refine gG ?_|exact gD|refine gB ?_ ?_<;>intro h|refine zlv hC (if b<a then b else a) rfl rfl rfl rfl rfl ?_
  exact gF
 rw[ur o23];by_cases h0:b=0
 ·rw[uw h0];subst h0;refine gFp func185 λC hC=>?_
  repeat' first|refine gG ?_|(exfalso;simp[o9,o10,o11,o14,o15,o16,o17,o22,o23]at h;done)|exact gD|refine gB ?_ ?_<;>intro h|refine zbC hC [.int .i64 18] rfl ud rfl rfl ?_|refine gPa ?_
  all_goals exact gUn id
 rw[ur h0]
 have hq:IntKind.i64.wrap (Int.tdiv a b)=Int.tdiv a b:=by
  have:(Int.tdiv a b).natAbs<=a.natAbs:=by rw[Uj];exact oL _ _
  generalize Int.tdiv a b=q at this;exact wrap64 ua
 by_cases o12:op=12
 ·subst o12;rw[uw rfl];refine gFo func185 λC hC=>?_
  repeat' first|refine gG ?_|exact gD|(exfalso;simp[h0]at h;done)|refine gB ?_ ?_<;>intro h|(refine zek hC rfl rfl h0 rfl rfl ?_;rw[hq])
  exact gF
 rw[ur o12];refine gFo func185 λC hC=>?_
 repeat' first|refine gG ?_|(exfalso;simp[o9,o10,o11,o14,o15,o16,o17,o22,o23]at h;done)|(exfalso;simp[h0]at h;done)|(exfalso;simp[o12]at h;done)|refine gB ?_ ?_<;>intro h|refine znL hC rfl rfl h0 rfl rfl ?_
 exact gF
end Hw.Gm
namespace Hw.Gm
open Go Go.Proofs Hw.M Ps Tryz
def zpq(d:zf)(m:Hp)(c:Scp):List PV:=zr d++(yp m++[zw c.ps,yx c.va])
variable {i:Nat}
theorem zmz{l:List Fld}{s:Str}{f:Fld}(h:l[i]?=some f)(U:f.n=s)(hn: ∀j f,j<i->l[j]?=some f-> ¬f.n=s):ixF l s=some i:=by
 unfold ixF;rw[tL];obtain⟨J,he⟩:=uy.1 h;refine⟨J,by rw[he];simpa using U,λj hj=>?_⟩;have:=hn j _ hj (th ua);simpa using this
theorem zqG{l:List Fld}{s:Str}(U: ∀j f,j<l.length->l[j]?=some f-> ¬f.n=s):ixF l s=none:=by
 unfold ixF;rw[q7];intro f hf;obtain⟨j,J⟩:=tK hf;simpa using U j f (uy.1 J).1 J
theorem zmA{l:List Fld}{s:Str}{f:Fld}(h:l[i]?=some f)(J: ¬f.n=s)(U: ∀j f,j<i->l[j]?=some f-> ¬f.n=s): ∀j f,j<i+1->l[j]?=some f-> ¬f.n=s:=λj f' hj hf=>by
 rcases oY.1 hj with h1|rfl
 ·exact U j f' h1 hf
 ·rw[h]at hf;cases hf;exact J
def vbT(d:zf)(c:Scp)(s:Str):Str:=match ixF c.ps s with
 |some i=>((c.ps[i]?).map (·.t)).getD (⟨#[]⟩:UI)
 |none=>match ixF d.globals s with
  |some i=>((d.globals[i]?).map (·.t)).getD (⟨#[]⟩:UI)
  |none=>(⟨#[]⟩:UI)
variable {c:Scp}{d:zf}{m:Hp}
theorem zvy{s:Str}{v:Int}(J:vbV d m c s= .ok v):zh prog 180 [zn (zpq d m c),Sr s] [] (.tup [Sr (vbT d c s),I v]) []:=by
 refine gFo func180 λC hC=>?_;refine v7 rfl 0 10 rfl rfl λhl=>?_;refine v7 rfl 0 2 rfl rfl λhg=>?_;rw[uj]at hl hg
 repeat' first|refine gG ?_|refine gB ?_ ?_<;>intro h
 rw[uj]
 refine zj (λi:Nat=>i<=c.ps.length/\ ∀j f,j<i->c.ps[j]?=some f-> ¬f.n=s) (λi=>([(2,.one (.bx 1002 0)),(1,Sr s),(11,pS (zw c.ps)),(12,I c.ps.length),(13,I i)],[(1002,some (.box ((zpq d m c).map V.p)))])) (λi=>c.ps.length - i) hC
  0 ⟨uD _,λj f hj=>absurd hj (oO _)⟩ id gM ?_
 rintro i ⟨hi,hn⟩;refine gLc ?_ ?_<;>intro h
 ·have hlt:i<c.ps.length:=by simpa using h
  clear h;obtain⟨f,hf⟩:=za hlt;by_cases hs:f.n=s
  ·have U:=zmz hf hs hn;unfold vbV at J;rw[U]at J;cases hv:c.va[i]? with
   |none=>simp only[hv]at J;cases J
   |some u=>
    simp only[hv]at J;cases J;have ht:vbT d c s=f.t:=by unfold vbT;rw[U];simp only[hf,uG,Option.getD_some]
    rw[ht]
    repeat' first|refine gG ?_|(exfalso;simp[hs]at h;done)|refine gB ?_ ?_<;>intro h|refine gIt (zl hf) ?_|refine gIt (zl hv) ?_|refine zk ?_
    exact gF
  ·repeat' first|refine gG ?_|(exfalso;simp[hs]at h;done)|refine gB ?_ ?_<;>intro h|refine gIt (zl hf) ?_|refine zk ?_
   rw[wrap64 ua];exact zg (i+1) ⟨ua,zmA hf hs hn⟩ id ua gM
 ·have hge: ¬i<c.ps.length:=by simpa using h
  clear h;have hno:=zqG (l:=c.ps) (s:=s) λj f hj=>hn j f ua
  clear hn;unfold vbV at J;rw[hno]at J;simp only at J
  repeat' first|refine gG ?_|refine gB ?_ ?_<;>intro h|refine zd ?_
  rw[uj]
  refine zj (λi:Nat=>i<=d.globals.length/\ ∀j f,j<i->d.globals[j]?=some f-> ¬f.n=s) (λi=>([(2,.one (.bx 1002 0)),(1,Sr s),(32,pS (zw d.globals)),(33,I d.globals.length),(34,I i)],[(1002,some (.box ((zpq d m c).map V.p)))])) (λi=>d.globals.length - i) hC
   0 ⟨uD _,λj f hj=>absurd hj (oO _)⟩ id gM ?_
  rintro i ⟨hi,hn⟩;refine gLc ?_ ?_<;>intro h
  ·have hlt:i<d.globals.length:=by simpa using h
   clear h;obtain⟨f,hf⟩:=za hlt;by_cases hs:f.n=s
   ·have U:=zmz hf hs hn;rw[U]at J;cases hv:m.g[i]? with
    |none=>simp only[hv]at J;cases J
    |some u=>
     simp only[hv]at J;cases J;have ht:vbT d c s=f.t:=by unfold vbT;rw[hno,U];simp only[hf,uG,Option.getD_some]
     rw[ht]
     repeat' first|refine gG ?_|(exfalso;simp[hs]at h;done)|refine gB ?_ ?_<;>intro h|refine gIt (zl hf) ?_|refine gIt (zl hv) ?_|refine zk ?_
     exact gF
   ·repeat' first|refine gG ?_|(exfalso;simp[hs]at h;done)|refine gB ?_ ?_<;>intro h|refine gIt (zl hf) ?_|refine zk ?_
    rw[wrap64 ua];exact zg (i+1) ⟨ua,zmA hf hs hn⟩ id ua gM
  ·have hge: ¬i<d.globals.length:=by simpa using h
   clear h;have hno2:=zqG (l:=d.globals) (s:=s) λj f hj=>hn j f ua
   rw[hno2]at J;cases J;have ht:vbT d c s=(⟨#[]⟩:UI):=by unfold vbT;rw[hno,hno2]
   rw[ht]
   repeat' first|refine gG ?_|refine gB ?_ ?_<;>intro h|refine zd ?_
   exact gF
theorem zvz(x:Fld)(s:Str):zh prog 226 [zn (zB x),.one (.bx 0 0)] [(0,.box [.p (ks s)])] (.bq (decide (x.n=s))) [(0,.box [.p (ks s)])]:=by
 refine gFo func226 λC hC=>?_
 repeat' first|refine gG ?_|refine gB ?_ ?_<;>intro h|refine zd ?_
 exact gE
theorem zs3(hs:xo m)(c:Scp)(v:Int)(s:Str):FnX prog 181 [zn (zpq d m c),I v,Sr s] [] (vE (fldI d m v s kn0).vn):=by
 have hn:=hs.n;unfold fldI;by_cases h0:v=0
 ·rw[uw h0];refine gFp func181 λC hC=>?_
  repeat' first|refine gG ?_|(exfalso;have h9:=uo h;omega)|refine gB ?_ ?_<;>intro h|refine zbC hC [.int .i64 17] rfl ud rfl rfl ?_|refine gPa ?_
  all_goals first
   |exact gUn id
   |exact zK ⟨rfl,id,trivial,rfl,rfl⟩
 ·rw[ur h0];by_cases hv:v<0
  ·rw[uw hv];trivial
  ·rw[ur hv];cases U:m.n[(v - 1).toNat]? with
   |none=>trivial
   |some x=>
    simp only;by_cases ht:x.t<0
    ·rw[uw ht];trivial
    ·rw[ur ht];cases hy:d.types[x.t.toNat]? with
     |none=>trivial
     |some t=>
      simp only;cases hi:ixF t.f s with
      |none=>trivial
      |some i=>
       simp only;cases hu:x.f[i]? with
       |none=>trivial
       |some u=>
        simp only;have hlt:=(uy.1 U).1;have hw1:IntKind.i64.wrap (v - 1)=v - 1:=wrap64 ua;have J:=jo 226 t.f (λx _=>decide (x.n=s)) (λ_ s=>s) (λc=>c=s) (λx U c hc=>⟨by subst hc;exact zvz x c,λ_=>hc⟩) s rfl;rw[yR]at J;have hix:t.f.findIdx? (λx=>decide (x.n=s))=some i:=hi;rw[hix]at J;simp only[idxI]at J;refine gFo func181 λC hC=>?_
        repeat' first|refine gG ?_|(exfalso;have h9:=uk h;omega)|refine gB ?_ ?_<;>intro h|(rw[hw1];refine gIt (yQ U) ?_)|refine gIt (yQ hy) ?_|refine gR J iB ?_|refine gIt (zl hu) ?_|refine zd ?_
        exact gF
theorem zs4(h1:vi d m=true)(c:Scp)(g:Nat)(s:Str)(nd:Int):FnX prog 182 [zn (zpq d m c),Sr s,I nd] [] (vE (mesV d m g s nd)):=by
 unfold mesV;cases hr:meaE d m g s nd with
 |none=>trivial
 |some q=>
  obtain⟨v,e⟩:=q;have U:=zpm h1 hr;simp only;by_cases J:e=0
  ·rw[uw J];subst J;refine gFo func182 λC hC=>?_
   repeat' first|refine gG ?_|exact gD|refine gB ?_ ?_<;>intro h|refine gC U ?_
   exact gF
  ·rw[ur J];refine gFp func182 λC hC=>?_
   repeat' first|refine gG ?_|(exfalso;simp[J]at h;done)|refine gB ?_ ?_<;>intro h|refine gC U ?_|refine zbC hC [.int .i64 e] rfl ud rfl rfl ?_|refine gPa ?_
   exact gUn id
abbrev zjw(d:zf)(m:Hp)(c:Scp)(e:Ex)(r:Vn Int):Prop:=FnX prog 126 [zn (zpq d m c),zn (yg e)] [] (vE r)
variable {G g:Nat}
theorem zmB{e:Ex}:vatV d m G c g e i= .out\/ ∃k x,g=k+1/\e.l[i]?=some x/\vatV d m G c g e i=vaV d m G c k x:=by
 cases g with
 |zero=>left;rw[vatV]
 |succ k=>
  cases hx:e.l[i]? with
  |none=>left;rw[vatV,hx]
  |some x=>right;exact⟨k,x,rfl,rfl,by rw[vatV,hx]⟩
variable {F:List Int->Vn Int}{r:Vn Int}{vals:List Int}
theorem zpr{k:Nat}{x:Ex}{l:List Ex}(h:((vasV d m G c k (x::l)).bind λq=>F (vals++q))=r)(J:r≠ .out):
 ∃j,k=j+1/\((∃v,vaV d m G c j x= .ok v/\((vasV d m G c j l).bind λq=>F ((vals++[v])++q))=r)\/ ∃er,vaV d m G c j x= .flt er/\r= .flt er):=by
 cases k with
 |zero=>exact absurd h.symm (by simpa [vasV,Vn.bind]using J)
 |succ j=>
  refine⟨j,rfl,?_⟩;rw[vasV]at h;cases hx:vaV d m G c j x with
  |out=>rw[hx]at h;exact absurd h.symm (by simpa [Vn.bind]using J)
  |flt er=>rw[hx]at h;exact .inr ⟨er,rfl,h.symm⟩
  |ok v=>
   rw[hx]at h;refine .inl ⟨v,rfl,?_⟩;simp only[Vn.bind]at h;cases hr:vasV d m G c j l with
   |ok q=>rw[hr]at h;simp only at h ⊢; rw[<-h];simp only[Vn.bind,tE,qP]
   |flt er=>rw[hr]at h;exact h
   |out=>rw[hr]at h;exact h
theorem zs5{k:Nat}(h:((vasV d m G c k []).bind λq=>F (vals++q))=r)(J:r≠ .out):F vals=r:=by
 cases k with
 |zero=>exact absurd h.symm (by simpa [vasV,Vn.bind]using J)
 |succ j=>rw[vasV]at h;rw[<-h];simp only[Vn.bind,uV]
theorem zqH{e x y:Ex}(J:e.op=19\/e.op=20)(hx:e.l[0]?=some x){a:Int}(hA:zjw d m c x (.ok a))(r:Vn Int)
 (hr:if(decide (a=1)==decide (e.op=19))=true then e.l[1]?=some y/\zjw d m c y r else r= .ok a):zjw d m c e r:=by
 have hA:zh _ _ _ _ _ _:=hA;by_cases ht:(decide (a=1)==decide (e.op=19))=true
 ·rw[uw ht]at hr;obtain⟨hy,U⟩:=hr;cases r with
  |out=>trivial
  |ok b=>
   have U:zh _ _ _ _ _ _:=U;show zh _ _ _ _ _ _;rcases J with J|J
   all_goals
    refine gFo func126 λC hC=>?_
    repeat' first|refine gG ?_|exact gD|(exfalso;have h9:=uk h;omega)|(exfalso;simp_all;done)|refine zak hC rfl rfl ud rfl rfl ?_|refine gB ?_ ?_<;>intro h|refine gIt (zx hx) ?_|refine gC hA ?_|refine gIt (yB hy) ?_|refine gC U ?_
    exact gF
  |flt er=>
   have U:yH _ _ _ _ _ _:=U;show yH _ _ _ _ _ _;rcases J with J|J
   all_goals
    refine gFp func126 λC hC=>?_
    repeat' first|refine gG ?_|exact gD|(exfalso;have h9:=uk h;omega)|(exfalso;simp_all;done)|refine zak hC rfl rfl ud rfl rfl ?_|refine gB ?_ ?_<;>intro h|refine gIt (zx hx) ?_|refine gC hA ?_|refine gIt (yB hy) ?_|refine gCD U id [] ?_
    exact gUn id
 ·rw[ur ht]at hr;subst hr;show zh _ _ _ _ _ _;rcases J with J|J
  all_goals
   refine gFo func126 λC hC=>?_
   repeat' first|refine gG ?_|exact gD|(exfalso;have h9:=uk h;omega)|(exfalso;simp_all;done)|refine zak hC rfl rfl ud rfl rfl ?_|refine gB ?_ ?_<;>intro h|refine gIt (zx hx) ?_|refine gC hA ?_
   exact gF
theorem zxu{e x y:Ex}(ho:e.op=21)(hx:e.l[0]?=some x){a:Int}(U:zjw d m c x (.ok a))(h2:inB a/\a<=2)(hy:e.l[(2 - a).toNat]?=some y)(J:zjw d m c y r):zjw d m c e r:=by
 have U:zh _ _ _ _ _ _:=U;have h3:=h2.1;unfold inB at h3;obtain⟨i,hi⟩: ∃i:Nat,2 - a=i:=⟨(2 - a).toNat,ua⟩;have hw:IntKind.i64.wrap (2 - a)=(i:Int):=by rw[wrap64 ua];omega
 rw[hi,tj]at hy;cases r with
 |out=>trivial
 |ok b=>
  have J:zh _ _ _ _ _ _:=J;refine gFo func126 λC hC=>?_
  repeat' first|refine gG ?_|exact gD|(exfalso;have h9:=uk h;omega)|(exfalso;have h9:=uo h;omega)|refine gB ?_ ?_<;>intro h|refine gIt (zx hx) ?_|refine gC U ?_|(rw[hw];refine gIt (xU hy) ?_)|refine gC J ?_
  exact gF
 |flt er=>
  have J:yH _ _ _ _ _ _:=J;refine gFp func126 λC hC=>?_
  repeat' first|refine gG ?_|exact gD|(exfalso;have h9:=uk h;omega)|(exfalso;have h9:=uo h;omega)|refine gB ?_ ?_<;>intro h|refine gIt (zx hx) ?_|refine gC U ?_|(rw[hw];refine gIt (xU hy) ?_)|refine gCD J id [] ?_
  exact gUn id
variable {er:Int}
theorem zqI{e x:Ex}(J:e.op=19\/e.op=20\/e.op=21)(hx:e.l[0]?=some x)(U:zjw d m c x (.flt er)):zjw d m c e (.flt er):=by
 have U:yH _ _ _ _ _ _:=U;show yH _ _ _ _ _ _;rcases J with J|J|J
 all_goals
  refine gFp func126 λC hC=>?_
  repeat' first|refine gG ?_|exact gD|(exfalso;have h9:=uk h;omega)|(exfalso;have h9:=uo h;omega)|refine gB ?_ ?_<;>intro h|refine gIt (zx hx) ?_|refine gCD U id [] ?_
  exact gUn id
def vaT(d:zf)(m:Hp)(c:Scp)(e:Ex)(q:Nat×Nat×List Int):zb×Tab:=
 ([(2,.one (.bx 1002 0)),(3,.one (.bx 1003 0)),(8,.one (.ar 140)),(69,pS (v8 e.l)),(70,I e.l.length),(71,I q.1)],
  [(1002,some (.box ((zpq d m c).map V.p))),(1003,some (.box ((yg e).map V.p))),(140,some (.arr 1 (q.2.2.map zN)))])
theorem zqJ(h1:vi d m=true)(hs:xo m){k:Nat}(ih: ∀j,j<=k-> ∀e,zjw d m c e (vaV d m G c j e)){e:Ex}(ho: ¬(e.op=1\/e.op=2\/e.op=3))(o4: ¬e.op=4)(o19: ¬(e.op=19\/e.op=20))(o21: ¬e.op=21)
 (hl:e.l.length<=1000000) (hr:((vasV d m G c k e.l).bind λl=>opsV d m G e l)=r) (hn:r≠ .out):zjw d m c e r:=by
 have g1: ¬e.op=1:=λh=>ho (.inl h)
 have g2: ¬e.op=2:=λh=>ho (.inr (.inl h))
 have g3: ¬e.op=3:=λh=>ho (.inr (.inr h))
 have g4: ¬e.op=19:=λh=>o19 (.inl h)
 have g5: ¬e.op=20:=λh=>o19 (.inr h)
 clear ho o19;refine zxP T func126 ud rfl rfl rfl rfl λC hC=>?_
 repeat' first|refine gG ?_|(exfalso;have U:=uk h;omega)|refine gB ?_ ?_<;>intro h
 refine gA 140 1 [(8,.one (.ar 140))] [] ?_;rw[uj]
 refine zj (λq:Nat×Nat×List Int=>q.1<=e.l.length/\q.2.1<=k/\q.2.2.length=q.1/\((vasV d m G c q.2.1 (e.l.drop q.1)).bind λl=>opsV d m G e (q.2.2++l))=r) (vaT d m c e) (λq=>e.l.length - q.1) hC
  (0,k,[]) ⟨uD _,uM _,rfl,hr⟩ id gM ?_
 clear hr;rintro⟨i,k1,vals⟩ ⟨hi,hk,hv,J⟩;simp only at hi hk hv J;refine gLc ?_ ?_<;>intro h
 ·have hlt:i<e.l.length:=by simpa [vaT]using h
  clear h;obtain⟨x,hx⟩:=za hlt;rw[drop_at hx]at J;obtain⟨j,rfl,hcase⟩:=zpr J hn;have hX:=ih j ua x;rcases hcase with⟨v,hev,hnx⟩|⟨er1,hev,hE⟩
  ·rw[hev]at hX;have hX:zh _ _ _ _ _ _:=hX;have happ:vals.map zN++[[ki v]]=(vals++[v]).map zN:=by rw[u5];rfl
   repeat' first|refine gG ?_|refine gB ?_ ?_<;>intro h|refine gXE ?_|refine gC hX ?_|refine gT ?_|refine gY T 141 ((vals++[v]).map zN) 8 ?_
   rw[wrapN ua];exact zg (i+1,j,vals++[v]) ⟨by simp only;omega,by simp only;omega,by simp only[uQ,uP];omega,hnx⟩ (ms [(140,141)]) (by simp only;omega) ⟨rfl,⟨rfl,rfl,rfl,rfl,rfl,rfl,uh⟩,⟨rfl,rfl,rfl,uh⟩,rfl,y4 rfl⟩
  ·rw[hev]at hX;have hX:yH _ _ _ _ _ _:=hX;subst hE
   repeat' first|refine gG ?_|refine gB ?_ ?_<;>intro h|refine gXE ?_|refine gCN hX id ?_
   exact gU (zcD (gU (zeq ⟨rfl,id,trivial,rfl,rfl⟩)))
 have hge: ¬i<e.l.length:=by simpa [vaT]using h
 clear h;rw[uC ua]at J;have J:=zs5 J hn;refine gZ 140 [(8,pS (yx vals))] [] ?_;unfold opsV at J;cases h0:vals[0]? with
 |none=>rw[h0]at J;exact absurd J.symm hn
 |some a=>
  simp only[h0]at J;by_cases o5:e.op=5
  ·rw[uw o5]at J;have hF:=zs3 (d:=d) hs c a e.s;rw[J]at hF;cases r with
   |out=>exact absurd rfl hn
   |ok v=>
    have hF:zh _ _ _ _ _ _:=hF
    repeat' first|refine gG ?_|exact gD|(exfalso;have U:=uk h;omega)|(exfalso;have U:=uo h;omega)|refine gB ?_ ?_<;>intro h|refine zd ?_|refine gIt (wI h0) ?_|refine gC hF ?_
    exact zdj ⟨.inl rfl,id,_,rfl,.refl _,trivial,rfl,rfl⟩
   |flt er=>
    have hF:yH _ _ _ _ _ _:=hF
    repeat' first|refine gG ?_|exact gD|(exfalso;have U:=uk h;omega)|(exfalso;have U:=uo h;omega)|refine gB ?_ ?_<;>intro h|refine zd ?_|refine gIt (wI h0) ?_|refine gCD hF id [] ?_
    exact gU (zeq ⟨rfl,id,trivial,rfl,rfl⟩)
  rw[ur o5]at J;by_cases o7:e.op=7
  ·rw[uw o7]at J;have hM:=zs4 h1 c G e.s a;rw[J]at hM;cases r with
   |out=>exact absurd rfl hn
   |ok v=>
    have hM:zh _ _ _ _ _ _:=hM
    repeat' first|refine gG ?_|exact gD|(exfalso;have U:=uk h;omega)|(exfalso;have U:=uo h;omega)|refine gB ?_ ?_<;>intro h|refine zd ?_|refine gIt (wI h0) ?_|refine gC hM ?_
    exact zdj ⟨.inl rfl,id,_,rfl,.refl _,trivial,rfl,rfl⟩
   |flt er=>
    have hM:yH _ _ _ _ _ _:=hM
    repeat' first|refine gG ?_|exact gD|(exfalso;have U:=uk h;omega)|(exfalso;have U:=uo h;omega)|refine gB ?_ ?_<;>intro h|refine zd ?_|refine gIt (wI h0) ?_|refine gCD hM id [] ?_
    exact gU (zeq ⟨rfl,id,trivial,rfl,rfl⟩)
  rw[ur o7]at J;by_cases o8:e.op=8
  ·rw[uw o8]at J;by_cases hb:inB a
   ·rw[uw hb]at J;have hb':=hb;unfold inB at hb';have hw:IntKind.i64.wrap (0 - a)= -a:=by rw[wrap64 ua];omega
    have hN:=zmy (-a);rw[J]at hN;cases r with
    |out=>exact absurd rfl hn
    |ok v=>
     have hN:zh _ _ _ _ _ _:=hN
     repeat' first|refine gG ?_|exact gD|(exfalso;have U:=uk h;omega)|(exfalso;have U:=uo h;omega)|refine gB ?_ ?_<;>intro h|refine zd ?_|refine gIt (wI h0) ?_|refine zda hC rfl rfl rfl ?_|(rw[hw];refine gC hN ?_)
     exact zdj ⟨.inl rfl,id,_,rfl,.refl _,trivial,rfl,rfl⟩
    |flt er=>
     have hN:yH _ _ _ _ _ _:=hN
     repeat' first|refine gG ?_|exact gD|(exfalso;have U:=uk h;omega)|(exfalso;have U:=uo h;omega)|refine gB ?_ ?_<;>intro h|refine zd ?_|refine gIt (wI h0) ?_|refine zda hC rfl rfl rfl ?_|(rw[hw];refine gCN hN id ?_)
     exact gU (zeq ⟨rfl,id,trivial,rfl,rfl⟩)
   ·rw[ur hb]at J;exact absurd J.symm hn
  rw[ur o8]at J;by_cases o18:e.op=18
  ·rw[uw o18]at J;by_cases hb:inB a
   ·rw[uw hb]at J;have hb':=hb;unfold inB at hb';have hw:IntKind.i64.wrap (1 - a)=1 - a:=by rw[wrap64 ua]
    subst J
    repeat' first|refine gG ?_|exact gD|(exfalso;have U:=uk h;omega)|(exfalso;have U:=uo h;omega)|refine gB ?_ ?_<;>intro h|refine zd ?_|refine gIt (wI h0) ?_
    rw[hw];exact zdj ⟨.inl rfl,id,_,rfl,.refl _,trivial,rfl,rfl⟩
   ·rw[ur hb]at J;exact absurd J.symm hn
  rw[ur o18]at J;by_cases o24:e.op=24
  ·rw[uw o24]at J;by_cases hb:inB a
   ·rw[uw hb]at J;subst J;by_cases ha1:a<1
    ·have hz:zi2 a=0:=by unfold zi2;rw[uw ha1]
     rw[hz]
     repeat' first|refine gG ?_|exact gD|(exfalso;have U:=uk h;omega)|(exfalso;have U:=uo h;omega)|refine gB ?_ ?_<;>intro h|refine zd ?_|refine gIt (wI h0) ?_
     exact zdj ⟨.inl rfl,id,_,rfl,.refl _,trivial,rfl,rfl⟩
    ·have hL:=zs2 hb ha1
     repeat' first|refine gG ?_|exact gD|(exfalso;have U:=uk h;omega)|(exfalso;have U:=uo h;omega)|refine gB ?_ ?_<;>intro h|refine zd ?_|refine gIt (wI h0) ?_|refine gC hL ?_
     exact zdj ⟨.inl rfl,id,_,rfl,.refl _,trivial,rfl,rfl⟩
   ·rw[ur hb]at J;exact absurd J.symm hn
  rw[ur o24]at J;cases h1':vals[1]? with
  |none=>rw[h1']at J;exact absurd J.symm hn
  |some b=>
   simp only[h1']at J;unfold twV at J;by_cases hb:inB a/\inB b
   ·rw[uw hb]at J;have hT:=zvx (op:=e.op) hb.1 hb.2;rw[J]at hT;cases r with
    |out=>exact absurd rfl hn
    |ok v=>
     have hT:zh _ _ _ _ _ _:=hT
     repeat' first|refine gG ?_|exact gD|(exfalso;have U:=uk h;omega)|(exfalso;have U:=uo h;omega)|refine gB ?_ ?_<;>intro h|refine zd ?_|refine gIt (wI h0) ?_|refine gIt (yQ (i:=1) h1') ?_|refine gC hT ?_
     exact zdj ⟨.inl rfl,id,_,rfl,.refl _,trivial,rfl,rfl⟩
    |flt er=>
     have hT:yH _ _ _ _ _ _:=hT
     repeat' first|refine gG ?_|exact gD|(exfalso;have U:=uk h;omega)|(exfalso;have U:=uo h;omega)|refine gB ?_ ?_<;>intro h|refine zd ?_|refine gIt (wI h0) ?_|refine gIt (yQ (i:=1) h1') ?_|refine gCD hT id [] ?_
     exact gU (zeq ⟨rfl,id,trivial,rfl,rfl⟩)
   ·rw[ur hb]at J;exact absurd J.symm hn
theorem zxv(h1:vi d m=true)(hs:xo m)(G:Nat)(c:Scp): ∀(k:Nat) (e:Ex),zjw d m c e (vaV d m G c k e):=by
 intro k
 induction k using Nat.strongRecOn with
 |_ k ih=>
 intro e;cases k with
 |zero=>rw[vaV];trivial
 |succ k=>
 have ih: ∀j,j<=k-> ∀e,zjw d m c e (vaV d m G c j e):=λj hj=>ih j ua
 have hat: ∀i,vatV d m G c k e i= .out\/ ∃x,e.l[i]?=some x/\zjw d m c x (vatV d m G c k e i):=λi=>by
  rcases zmB (d:=d) (m:=m) (G:=G) (c:=c) (g:=k) (e:=e) (i:=i)with h|⟨j,x,rfl,hx,h⟩
  ·exact .inl h
  ·exact .inr ⟨x,hx,by rw[h];exact ih j ua x⟩
 rw[vaV];by_cases o1:e.op=1\/e.op=2\/e.op=3
 ·rw[uw o1];show zh _ _ _ _ _ _;rcases o1 with o1|o1|o1
  all_goals
   refine gFo func126 λC hC=>?_
   repeat' first|refine gG ?_|exact gD|(exfalso;simp[o1]at h;done)|refine gB ?_ ?_<;>intro h
   exact gF
 rw[ur o1];by_cases o4:e.op=4
 ·rw[uw o4];cases hr:vbV d m c e.s with
  |out=>trivial
  |flt er=>exfalso;unfold vbV at hr;((repeat' split at hr)<;>cases hr)
  |ok v=>
   have hV:=zvy hr;refine gFo func126 λC hC=>?_
   repeat' first|refine gG ?_|exact gD|(exfalso;simp[o4]at h;done)|refine gB ?_ ?_<;>intro h|refine gC hV ?_
   exact gF
 rw[ur o4];by_cases J:e.op=19\/e.op=20
 ·rw[uw J];rcases hat 0 with h|⟨x,hx,hA⟩
  ·rw[h];trivial
  ·cases hr:vatV d m G c k e 0 with
   |out=>trivial
   |flt er=>rw[hr]at hA;exact zqI (J.imp id .inl) hx hA
   |ok a=>
    rw[hr]at hA;simp only[Vn.bind];by_cases ht:(decide (a=1)==decide (e.op=19))=true
    ·rw[uw ht];rcases hat 1 with h|⟨y,hy,hB⟩
     ·rw[h];trivial
     ·exact zqH (y:=y) J hx hA _ (by rw[uw ht];exact⟨hy,hB⟩)
    ·rw[ur ht];exact zqH (y:=x) J hx hA _ (by rw[ur ht])
 rw[ur J];by_cases U:e.op=21
 ·rw[uw U];rcases hat 0 with h|⟨x,hx,hA⟩
  ·rw[h];trivial
  ·cases hr:vatV d m G c k e 0 with
   |out=>trivial
   |flt er=>rw[hr]at hA;exact zqI (.inr (.inr U)) hx hA
   |ok a=>
    rw[hr]at hA;simp only[Vn.bind];by_cases h2:inB a/\a<=2
    ·rw[uw h2];rcases hat (2 - a).toNat with h|⟨y,hy,hB⟩
     ·rw[h];trivial
     ·exact zxu U hx hA h2 hy hB
    ·rw[ur h2];trivial
 rw[ur U];by_cases hl:e.l.length<=1000000
 ·rw[uw hl];cases hr:(vasV d m G c k e.l).bind λl=>opsV d m G e l with
  |out=>trivial
  |ok v=>exact zqJ h1 hs ih o1 o4 J U hl hr ue
  |flt er=>exact zqJ h1 hs ih o1 o4 J U hl hr ue
 ·rw[ur hl];trivial
set_option maxRecDepth 100000 in
theorem zqK(v:Int)(rq:Option Int):
 zud prog 125 [.one (.bx 3 0),.one (.bx 4 0)] [(3,.box [.p (ki v)]),(4,.box [.p (ki 0)])] (rq.map flA)
  [(3,.box [.p (ki (if rq.isSome then 0 else v))]),(4,.box [.p (ki (rq.getD 0))])]:=by
 refine zrl T (rq.map flA) (func125) ud rfl rfl rfl rfl rfl rfl rfl (by cases rq<;>rfl) λC hC=>?_;cases rq
 all_goals
  repeat' first|refine gG ?_|refine gB ?_ ?_<;>intro h|refine zjY hC rfl ud rfl rfl ?_|refine zkh hC rfl ud rfl rfl ?_|refine zrm hC [.int .i64 _] rfl ud rfl rfl rfl ?_|refine zd ?_
  exact zK ⟨.inr rfl,id,_,rfl,zlF,⟨rfl,rfl,uh⟩,rfl,rfl⟩
theorem zps(h1:vi d m=true)(hs:xo m){k:Nat}{e:Ex}{v:Int}(hr:evV (vaV d m G c k e)=some (v,er)):
 zh prog 85 [zn (zpq d m c),zn (yg e)] [] (.tup [I v,I er]) []:=by
 have J:=zxv h1 hs G c k e
 refine zhx T (m:=1) (Rm:=[(10,.box ((zpq d m c).map V.p)),(11,.box ((yg e).map V.p)),(12,.box [.p (ki 0)]),(13,.box [.p (ki 0)])])
  (sl1:=[(2,.one (.bx 10 0)),(3,.one (.bx 11 0)),(4,.one (.bx 12 0)),(5,.one (.bx 13 0))]) (func85) ud rfl rfl rfl rfl rfl rfl rfl rfl rfl rfl rfl (λC hC=>?_) (λC hC=>?_)
 ·repeat' first|refine gG ?_|exact gD|refine gB ?_ ?_<;>intro h
  show Goal _ _ _ [] _ _ _ _;exact zK ⟨ms [(10,1002),(11,1003),(12,1004),(13,1005)],rfl,⟨rfl,rfl,rfl,rfl,uh⟩,⟨rfl,rfl,rfl,rfl,uh⟩,rfl,rfl⟩
 ·cases hv:vaV d m G c k e with
  |out=>rw[hv]at hr;cases hr
  |ok v1=>
   rw[hv]at hr J;cases hr;have J:zh _ _ _ _ _ _:=J;have U:=zqK v none
   repeat' first|refine gG ?_|refine gB ?_ ?_<;>intro h|refine gC J ?_
   first
    |exact zK ⟨none,_,_,_,iP,.inl rfl,U,yG.refl _,⟨rfl,rfl,uh⟩,rfl,rfl,rfl,rfl,⟨.inl rfl,id,_,rfl,.refl _,trivial,rfl,rfl⟩⟩
    |exact zK ⟨none,_,_,_,iP,.inr rfl,U,yG.refl _,⟨rfl,rfl,uh⟩,rfl,rfl,rfl,rfl,⟨.inl rfl,id,_,rfl,.refl _,trivial,rfl,rfl⟩⟩
  |flt er1=>
   rw[hv]at hr J;cases hr;have J:yH _ _ _ _ _ _:=J;have U:=zqK 0 (some er)
   repeat' first|refine gG ?_|refine gB ?_ ?_<;>intro h|refine gCN J id ?_
   exact gU (zK ⟨some (flA er),_,_,_,iP,rfl,U,yG.refl _,⟨rfl,rfl,uh⟩,rfl,rfl,rfl,rfl,⟨.inl rfl,id,_,rfl,.refl _,trivial,rfl,rfl⟩⟩)
theorem zs6(f:FuncId)(px:Pr)(l:List Bd)(p:Bd->Unit->Bool)(nx:Bd->Unit->Unit)(inv:Unit->Prop)
 (hf: ∀x∈l,∀s:Unit,inv s->zh prog f [zn (xZ x),.one (.bx 0 0)] [(0,.box ((zD px).map V.p))] (.bq (p x s)) ((λs:Unit=>[(0,.box ((zD px).map V.p))]) (nx x s))/\(p x s=false->inv (nx x s))) (s:Unit) (hs:inv s):
 zh prog 83 [pS (.sl 5 (l.map xZ)),.one (.cl f [] [.bx 0 0])] [(0,.box ((zD px).map V.p))] (I (idxR p nx l 0 s).1) ((λs:Unit=>[(0,.box ((zD px).map V.p))]) (idxR p nx l 0 s).2):=by
 refine gFo func83 λC hC=>?_;have hs0:=hs;refine wG 0 rfl λhl=>?_;rw[uj]at hl
 repeat' first|refine gG ?_|refine gB ?_ ?_<;>intro h
 rw[uj]
 refine zj (λq:Nat×Unit=>q.1<=l.length/\inv q.2/\idxR p nx (l.drop q.1) q.1 q.2=idxR p nx l 0 s) (λq=>(λs:Unit=>([(0,pS (.sl 5 (l.map xZ))),(1,.one (.cl f [] [.bx 0 0])),(7,I l.length),(8,I q.1)],[(0,some (.box ((zD px).map V.p)))])) q.2) (λq=>l.length - q.1) hC
  (0,s) ⟨uD _,hs,rfl⟩ id gM ?_
 generalize idxR p nx l 0 s=res;clear hs hs0;rintro⟨i,s⟩ ⟨hi,hv,J⟩;simp only at hi hv J;refine gLc ?_ ?_<;>intro hh
 ·have hlt:i<l.length:=by simpa using hh
  clear hh;obtain⟨x,hx⟩:=za hlt;rw[drop_at hx]at J;simp only[idxR]at J;have hv2:=(hf x (uv hx) s hv).2
  repeat' first|refine gG ?_|refine gB ?_ ?_<;>intro h|refine gIt (zl hx) ?_|refine gR (hf x (uv hx) s hv).1 id ?_|refine zk ?_
  ·rw[uw uf]at J;subst J;exact gE
  ·have U:p x s=false:=by assumption
   rw[U]at J;simp only[uB,uN]at J;rw[wrap64 ua];exact zg (i+1,nx x s) ⟨by simp only;omega,hv2 U,J⟩ id (by simp only;omega) gM
 ·have hge: ¬i<l.length:=by simpa using hh
  rw[uC ua]at J;simp only[idxR]at J;subst J
  repeat' first|refine gG ?_|refine gB ?_ ?_<;>intro h|refine zd ?_
  exact gE
theorem zmC(x:Bd)(p:Pr):zh prog 84 [zn (xZ x),.one (.bx 0 0)] [(0,.box ((zD p).map V.p))] (.bq (decide (x.p=p.n))) [(0,.box ((zD p).map V.p))]:=by
 refine gFo func84 λC hC=>?_
 repeat' first|refine gG ?_|refine gB ?_ ?_<;>intro h|refine zd ?_
 exact gE
theorem zpt(h1:vi d m=true)(hs:xo m){p:Pr}{c:Cl}{v:Int}(hr:bnE d m G p c=some (v,er)):
 zh prog 50 [zn (zr d),zn (yp m),zn (zD p),zn (yf c)] [] (.tup [I v,I er]) []:=by
 have J:=zs6 84 p d.bounds (λx _=>decide (x.p=p.n)) (λ_ s=>s) (λ_=>True) (λx _ _ _=>⟨zmC x p,λ_=>trivial⟩) () trivial;rw[yR]at J;unfold bnE zx1 at hr;cases hi:d.bounds.findIdx? (λb=>decide (b.p=p.n))with
 |none=>
  rw[hi]at hr J;cases hr;simp only[idxI]at J;refine gFo func50 λC hC=>?_
  repeat' first|refine gG ?_|exact gD|refine gB ?_ ?_<;>intro h|refine gR J iD ?_|refine zd ?_
  exact gF
 |some i=>
  rw[hi]at hr J;simp only[idxI]at J;cases U:d.bounds[i]? with
  |none=>simp only[U]at hr;cases hr
  |some x=>
   simp only[U]at hr;have hE:=zps h1 hs hr;refine gFo func50 λC hC=>?_
   repeat' first|refine gG ?_|(exfalso;have h9:=uk h;omega)|refine gB ?_ ?_<;>intro h|refine gR J iD ?_|refine gIt (zl U) ?_|refine gC hE ?_|refine zd ?_
   exact gF
theorem zft(t:Str):zh prog 58 [Sr t] [] (.bq (plB t)) []:=by
 unfold plB;refine gFo func58 λC hC=>?_
 repeat' first|refine gG ?_|refine gB ?_ ?_<;>intro h|refine gQ ?_|refine gL ?_
 all_goals (try simp only[uj]at*)
 all_goals first
  |rfl
  |(simp;done)
  |(simp_all;done)
  |(simp_all;omega)
  |(intros;simp_all<;>omega)
theorem zmD(f:Fld):zh prog 60 [zn (zB f)] [] (.bq (!plB f.t)) []:=by
 have J:=zft f.t;refine gFo func60 λC hC=>?_
 repeat' first|refine gG ?_|refine gB ?_ ?_<;>intro h|refine gC J ?_
 exact gF
theorem zmE(x:Pr)(c:Cl):zh prog 57 [zn (zD x),.one (.bx 0 0)] [(0,.box ((yf c).map V.p))] (.bq (decide (x.n=c.p))) [(0,.box ((yf c).map V.p))]:=by
 refine gFo func57 λC hC=>?_
 repeat' first|refine gG ?_|refine gB ?_ ?_<;>intro h|refine zd ?_
 exact gE
theorem zs7(f:FuncId)(cx:Cl)(l:List Pr)(p:Pr->Unit->Bool)(nx:Pr->Unit->Unit)(inv:Unit->Prop)
 (hf: ∀x∈l,∀s:Unit,inv s->zh prog f [zn (zD x),.one (.bx 0 0)] [(0,.box ((yf cx).map V.p))] (.bq (p x s)) ((λs:Unit=>[(0,.box ((yf cx).map V.p))]) (nx x s))/\(p x s=false->inv (nx x s))) (s:Unit) (hs:inv s):
 zh prog 56 [pS (.sl 5 (l.map zD)),.one (.cl f [] [.bx 0 0])] [(0,.box ((yf cx).map V.p))] (I (idxR p nx l 0 s).1) ((λs:Unit=>[(0,.box ((yf cx).map V.p))]) (idxR p nx l 0 s).2):=by
 refine gFo func56 λC hC=>?_;have hs0:=hs;refine wG 0 rfl λhl=>?_;rw[uj]at hl
 repeat' first|refine gG ?_|refine gB ?_ ?_<;>intro h
 rw[uj]
 refine zj (λq:Nat×Unit=>q.1<=l.length/\inv q.2/\idxR p nx (l.drop q.1) q.1 q.2=idxR p nx l 0 s) (λq=>(λs:Unit=>([(0,pS (.sl 5 (l.map zD))),(1,.one (.cl f [] [.bx 0 0])),(7,I l.length),(8,I q.1)],[(0,some (.box ((yf cx).map V.p)))])) q.2) (λq=>l.length - q.1) hC
  (0,s) ⟨uD _,hs,rfl⟩ id gM ?_
 generalize idxR p nx l 0 s=res;clear hs hs0;rintro⟨i,s⟩ ⟨hi,hv,J⟩;simp only at hi hv J;refine gLc ?_ ?_<;>intro hh
 ·have hlt:i<l.length:=by simpa using hh
  clear hh;obtain⟨x,hx⟩:=za hlt;rw[drop_at hx]at J;simp only[idxR]at J;have hv2:=(hf x (uv hx) s hv).2
  repeat' first|refine gG ?_|refine gB ?_ ?_<;>intro h|refine gIt (zl hx) ?_|refine gR (hf x (uv hx) s hv).1 id ?_|refine zk ?_
  ·rw[uw uf]at J;subst J;exact gE
  ·have U:p x s=false:=by assumption
   rw[U]at J;simp only[uB,uN]at J;rw[wrap64 ua];exact zg (i+1,nx x s) ⟨by simp only;omega,hv2 U,J⟩ id (by simp only;omega) gM
 ·have hge: ¬i<l.length:=by simpa using hh
  rw[uC ua]at J;simp only[idxR]at J;subst J
  repeat' first|refine gG ?_|refine gB ?_ ?_<;>intro h|refine zd ?_
  exact gE
def prZ(q:Int×Pr):List PV:=if q.1=0 then zD q.2 else zPr
abbrev ckT(d:zf)(p:Pr)(c:Cl)(i:Nat):zb×Tab:=([(3,.one (.bx 1003 0)),(4,.one (.bx 1004 0)),(7,.one (.bx 1007 0)),(47,pS (zw p.params)),(48,I p.params.length),(49,I i)],
 [(1003,some (.box ((yf c).map V.p))),(1004,some (.box (zPr.map V.p))),(1007,some (.box ((zD p).map V.p)))])
set_option maxHeartbeats 1000000 in
theorem zfu(d:zf)(c:Cl):zh prog 40 [zn (zr d),zn (yf c)] [] (.tup [zn (prZ (chE d c)),I (chE d c).1]) []:=by
 have hI:=zs7 57 c d.procs (λx _=>decide (x.n=c.p)) (λ_ s=>s) (λ_=>True) (λx _ _ _=>⟨zmE x c,λ_=>trivial⟩) () trivial;rw[yR]at hI;unfold chE zbG;cases hi:d.procs.findIdx? (λp=>decide (p.n=c.p))with
 |none=>
  rw[hi]at hI;simp only[idxI]at hI;rw[show prZ ((9:Int),zoN)=zPr from by rw[prZ,ur ub]];refine gFo func40 λC hC=>?_
  repeat' first|refine gG ?_|exact gD|refine gB ?_ ?_<;>intro h|refine gR hI iy ?_|refine zd ?_
  exact gF
 |some i=>
  rw[hi]at hI;simp only[idxI]at hI
  obtain⟨p,hp⟩: ∃p,d.procs[i]?=some p:=by
   obtain⟨h1,_⟩:=tL.1 hi;exact⟨_,th h1⟩
  simp only[hp];have hP:=zft p.res;have hA:=zcK 60 p.params (λf=> !plB f.t) (λx _=>zmD x);generalize hb2:p.params.any (λf=> !plB f.t)=b2 at hA⊢;generalize hb1:plB p.res=b1 at hP⊢;clear hb1 hb2;by_cases H:((!decide (p.res=(⟨#[]⟩:UI))&& !b1)||b2)=true
  ·rw[uw H];rw[show prZ ((12:Int),zoN)=zPr from by rw[prZ,ur ub]]
   have J:(p.res=(⟨#[]⟩:UI)/\b2=true)\/(¬p.res=(⟨#[]⟩:UI)/\b1=true/\b2=true)\/(¬p.res=(⟨#[]⟩:UI)/\b1=false):=by
    by_cases e1:p.res=(⟨#[]⟩:UI)<;>cases b1<;>cases b2<;>simp_all
   clear H;rcases J with⟨e1,rfl⟩|⟨e1,rfl,rfl⟩|⟨e1,rfl⟩
   all_goals
    refine gFo func40 λC hC=>?_
    repeat' first|refine gG ?_|exact gD|(exfalso;have h9:=uk h;omega)|(exfalso;simp[e1]at h;done)|refine gB ?_ ?_<;>intro h|refine gR hI iy ?_|refine gIt (zl hp) ?_|refine gC hP ?_|refine gC hA ?_|refine zd ?_
    exact gF
  rw[ur H]
  have J:(p.res=(⟨#[]⟩:UI)/\b2=false)\/(¬p.res=(⟨#[]⟩:UI)/\b1=true/\b2=false):=by
   by_cases e1:p.res=(⟨#[]⟩:UI)<;>cases b1<;>cases b2<;>simp_all
  clear H;by_cases hl:c.a.length=p.params.length
  ·rw[ur (by simpa using hl)];cases ha:(List.zip c.a p.params).any agB with
   |true=>
    rw[uw rfl];rw[show prZ ((11:Int),zoN)=zPr from by rw[prZ,ur ub]];rcases J with⟨e1,rfl⟩|⟨e1,rfl,rfl⟩
    all_goals
     refine gFo func40 λC hC=>?_;refine v7 rfl 1 1 rfl rfl λhlen=>?_;rw[uj]at hlen
     repeat' first|refine gG ?_|exact gD|(exfalso;simp only[uq,uu,uj,ux,uE]at h;omega)|(exfalso;simp[e1]at h;done)|refine gB ?_ ?_<;>intro h|refine gR hI iy ?_|refine gIt (zl hp) ?_|refine gC hP ?_|refine gC hA ?_|refine zd ?_
     rw[uj]
     refine zj (λi:Nat=>i<=p.params.length/\((List.zip c.a p.params).take i).any agB=false) (ckT d p c) (λi=>p.params.length - i) hC
      0 ⟨uD _,ue⟩ id gM ?_
     rintro i ⟨hi2,hn⟩;refine gLc ?_ ?_<;>intro h
     ·have hlt:i<p.params.length:=by simpa using h
      clear h;obtain⟨v,hv⟩:=za (l:=c.a) (i:=i) ua;obtain⟨f,hf⟩:=za (l:=p.params) (i:=i) hlt;have hz:(List.zip c.a p.params)[i]?=some (v,f):=by rw[tq];exact⟨hv,hf⟩
      have hB:=vh v;cases hg:agB (v,f)with
      |true=>
       have U:=hg;unfold agB at U;simp only at U;generalize bdB v=bb at hB U
       repeat' first|refine gG ?_|refine gB ?_ ?_<;>intro h|refine gIt (zl hv) ?_|refine gIt (zl hf) ?_|refine gC hB ?_|refine zk ?_
       all_goals first
        |exact gF
        |(exfalso;clear hn ha hi2 hlt hl;simp_all;done)
      |false=>
       have U:=hg;unfold agB at U;simp only at U;generalize bdB v=bb at hB U
       repeat' first|refine gG ?_|refine gB ?_ ?_<;>intro h|refine gIt (zl hv) ?_|refine gIt (zl hf) ?_|refine gC hB ?_|refine zk ?_
       all_goals first
        |(rw[wrap64 ua]
          exact zg (i+1) ⟨ua,by rw[zdt hz,hn];simp[hg]⟩ id ua gM)
        |(exfalso;clear hn ha hi2 hlt hl;simp_all;done)
     ·exfalso;have hge: ¬i<p.params.length:=by simpa using h
      rw[u0 (by rw[td];omega),ha]at hn;cases hn
   |false=>
    rw[ur ue];rw[show prZ ((0:Int),p)=zD p from by rw[prZ,uw rfl]];rcases J with⟨e1,rfl⟩|⟨e1,rfl,rfl⟩
    all_goals
     refine gFo func40 λC hC=>?_;refine v7 rfl 1 1 rfl rfl λhlen=>?_;rw[uj]at hlen
     repeat' first|refine gG ?_|exact gD|(exfalso;simp only[uq,uu,uj,ux,uE]at h;omega)|(exfalso;simp[e1]at h;done)|refine gB ?_ ?_<;>intro h|refine gR hI iy ?_|refine gIt (zl hp) ?_|refine gC hP ?_|refine gC hA ?_|refine zd ?_
     rw[uj]
     refine zj (λi:Nat=>i<=p.params.length) (ckT d p c) (λi=>p.params.length - i) hC
      0 (uD _) id gM ?_
     intro i hi2;refine gLc ?_ ?_<;>intro h
     ·have hlt:i<p.params.length:=by simpa using h
      clear h;obtain⟨v,hv⟩:=za (l:=c.a) (i:=i) ua;obtain⟨f,hf⟩:=za (l:=p.params) (i:=i) hlt;have hz:(List.zip c.a p.params)[i]?=some (v,f):=by rw[tq];exact⟨hv,hf⟩
      have hB:=vh v
      have U:agB (v,f)=false:=by
       have:=List.any_eq_false.1 ha (v,f) (uv hz);simpa using this
      unfold agB at U;simp only at U;generalize bdB v=bb at hB U
      repeat' first|refine gG ?_|refine gB ?_ ?_<;>intro h|refine gIt (zl hv) ?_|refine gIt (zl hf) ?_|refine gC hB ?_|refine zk ?_
      all_goals first
       |(rw[wrap64 ua]
         exact zg (i+1) ua id ua gM)
       |(exfalso;clear ha hi2 hlt hl;simp_all;done)
     ·clear h
      repeat' first|refine gG ?_|refine gB ?_ ?_<;>intro h|refine zd ?_
      exact gF
  ·rw[uw hl];rw[show prZ ((3:Int),zoN)=zPr from by rw[prZ,ur ub]];rcases J with⟨e1,rfl⟩|⟨e1,rfl,rfl⟩
   all_goals
    refine gFo func40 λC hC=>?_
    repeat' first|refine gG ?_|exact gD|(exfalso;simp only[uq,uu,uj,ux,uE]at h;omega)|(exfalso;simp[e1]at h;done)|refine gB ?_ ?_<;>intro h|refine gR hI iy ?_|refine gIt (zl hp) ?_|refine gC hP ?_|refine gC hA ?_|refine zd ?_
    exact gF
theorem zfv{f:Int->Option (Int×Int)}{k:Int}{l:List Int}{s:Int}{F:Int->Vn Int}{R:Vn Int}(h:((sumN f (k::l) s).bind F)=R)(U:R≠ .out):
 ∃n e,f k=some (n,e)/\((¬e=0/\R= .flt e)\/(e=0/\inB n/\((bdB (s+n)=false/\R= .flt 5)\/(bdB (s+n)=true/\((sumN f l (s+n)).bind F)=R)))):=by
 rw[sumN]at h;cases hx:f k with
 |none=>rw[hx]at h;exact absurd h.symm U
 |some q=>
  obtain⟨n,e⟩:=q;rw[hx]at h;refine⟨n,e,rfl,?_⟩;simp only at h;by_cases hf:e=0
  ·rw[ur (by simpa using hf)]at h;right;refine⟨hf,?_⟩;by_cases J:inB n
   ·rw[uw J]at h;refine⟨J,?_⟩;cases hB:bdB (s+n)with
    |true=>rw[hB,uw rfl]at h;exact .inr ⟨rfl,h⟩
    |false=>rw[hB,ur ub]at h;exact .inl ⟨rfl,h.symm⟩
   ·rw[ur J]at h;exact absurd h.symm U
  ·rw[uw hf]at h;exact .inl ⟨hf,h.symm⟩
theorem zqL{n:Int}:bdB n=true↔inB n:=by unfold bdB inB;simp
theorem zmF(hv:zQ d m=true):(jS d m).order.length<=4096:=by
 have J:=ze5 hv;have:=zhW m.n.length _ J.nodup J.inr;simp only[zQ,um,ux,uu]at hv;omega
abbrev poT(d:zf)(m:Hp)(l:List Int)(q:Nat×Int):zb×Tab:=([(2,.one (.bx 1002 0)),(3,.one (.bx 1003 0)),(6,pS (yx l)),(8,I q.2),(26,pS (.sl 5 (d.pots.map zht))),(27,I d.pots.length),(28,I q.1)],
 [(1002,some (.box ((zr d).map V.p))),(1003,some (.box ((yp m).map V.p)))])
abbrev piT(d:zf)(m:Hp)(l:List Int)(p:Pt)(L:List Int)(i:Nat)(q:Nat×Int):zb×Tab:=([(2,.one (.bx 1002 0)),(3,.one (.bx 1003 0)),(6,pS (yx l)),(8,I q.2),(26,pS (.sl 5 (d.pots.map zht))),(27,I d.pots.length),(28,I i),(10,.one (.bx 1010 0)),(40,pS (yx L)),(41,I L.length),(42,I q.1)],
 [(1002,some (.box ((zr d).map V.p))),(1003,some (.box ((yp m).map V.p))),(1010,some (.box ((zht p).map V.p)))])
set_option maxHeartbeats 1000000 in
theorem zmG{v e:Int}(hd:ye d=true)(h:ptE d m g=some (v,e)):zh prog 31 [zn (zr d),zn (yp m)] [] (.tup [I v,I e]) []:=by
 unfold ptE at h;cases hv:zQ d m with
 |false=>
  rw[uw hv]at h;cases h;have hR:=ze6 hv;refine gFo func31 λC hC=>?_
  repeat' first|refine gG ?_|exact gD|refine gB ?_ ?_<;>intro h|refine gC hR ?_|refine zd ?_
  exact gF
 |true=>
  rw[ur (by simp[hv])]at h;obtain⟨hs,hw⟩:=vg hd hv;have hR:=ze7 hv;have hso:=(ze5 hv).inr;have hol:=zmF hv;generalize (jS d m).order=l at h hR hol hso;have hnod: ∀x∈l,zwv m x:=hso;generalize hRR:ptP d m g l d.pots 0=R at h;have hRn:R≠ .out:=λe=>by subst e;cases h
  refine gFo func31 λC hC=>?_;refine v7 rfl 0 6 rfl rfl λhpl=>?_;rw[uj]at hpl
  repeat' first|refine gG ?_|exact gD|refine gB ?_ ?_<;>intro h|refine gC hR ?_
  rw[uj]
  refine zj (λq:Nat×Int=>q.1<=d.pots.length/\inB q.2/\ptP d m g l (d.pots.drop q.1) q.2=R) (poT d m l) (λq=>d.pots.length - q.1) hC
   (0,0) ⟨uD _,ub,hRR⟩ id gM ?_
  clear hRR;rintro⟨i,s⟩ ⟨hi,U,J⟩;simp only at hi U J;change Goal _ _ _ _ _ [(2,.one (.bx 1002 0)),(3,.one (.bx 1003 0)),(6,pS (yx l)),(8,I s),(26,pS (.sl 5 (d.pots.map zht))),(27,I d.pots.length),(28,I (i:Int))] (poT d m l (i,s)).2 _;refine gLc ?_ ?_<;>intro h
  ·have hlt:i<d.pots.length:=by simpa using h
   clear h;obtain⟨p,hp⟩:=za hlt;rw[drop_at hp]at J
   replace J:((ptN d m g p.x (ptL d m p l) s).bind λs=>ptP d m g l (d.pots.drop (i+1)) s)=R:=J
   have hF:=zs1 hs hw p hnod;have hC1:=jn l ua
   have hL: ∃L,ptL d m p l=L/\L.length<=4096/\((p.t=(⟨#[]⟩:UI)/\L=[0])\/(¬p.t=(⟨#[]⟩:UI)/\L=l.filter λx=> !zin d m p x)):=by
    unfold ptL;by_cases ht:p.t=(⟨#[]⟩:UI)
    ·rw[uw ht];exact⟨_,rfl,ue,.inl ⟨ht,rfl⟩⟩
    ·rw[ur ht];refine⟨_,rfl,tG (oB _ _) hol,.inr ⟨ht,?_⟩⟩
     congr 1
     funext k
     simp[zin]
   obtain⟨L,hL1,hL3,hL2⟩:=hL;rw[hL1]at J;clear hL1;rcases hL2 with⟨ht,hL4⟩|⟨ht,hLf⟩
   ·repeat' first|refine gG ?_|(exfalso;simp[ht]at h;done)|refine gB ?_ ?_<;>intro h|refine gIt (zl hp) ?_|refine gT ?_
    subst hL4;change Goal _ _ _ _ _ ((42,I 0)::(41,I (([0]:List Int).length:Int))::(40,pS (yx [0]))::_) _ _;generalize ([0]:List Int)=L at J hL3⊢
    refine zj (λq:Nat×Int=>q.1<=L.length/\inB q.2/\((ptN d m g p.x (L.drop q.1) q.2).bind λs=>ptP d m g l (d.pots.drop (i+1)) s)=R) (piT d m l p L i) (λq=>L.length - q.1) hC
     (0,s) ⟨uD _,U,J⟩ id gM ?_
    clear J U;rintro⟨k,s⟩ ⟨hk,U,J⟩;simp only at hk U J;change Goal _ _ _ _ _ [(2,.one (.bx 1002 0)),(3,.one (.bx 1003 0)),(6,pS (yx l)),(8,I s),(26,pS (.sl 5 (d.pots.map zht))),(27,I d.pots.length),(28,I (i:Int)),(10,.one (.bx 1010 0)),(40,pS (yx L)),(41,I L.length),(42,I (k:Int))] (piT d m l p L i (k,s)).2 _;refine gLc ?_ ?_<;>intro h
    ·have hklt:k<L.length:=by simpa using h
     clear h;obtain⟨n0,hn0⟩:=za hklt;rw[drop_at hn0]at J;obtain⟨n,f,hE,hcase⟩:=zfv J hRn;have hX:=zig hE;have hsb':=U;unfold inB at hsb';rcases hcase with⟨hf,rfl⟩|⟨rfl,hnb,⟨hB,rfl⟩|⟨hB,hnx⟩⟩
     ·cases h
      repeat' first|refine gG ?_|exact gD|(exfalso;simp[hf]at h;done)|refine gB ?_ ?_<;>intro h|refine gIt (zl hn0) ?_|refine gC hX ?_|refine zk ?_
      exact gF
     ·cases h;unfold inB at hnb;have hw1:IntKind.i64.wrap (s+n)=s+n:=wrap64 ua;have hb:=vh (s+n);rw[hB]at hb
      repeat' first|refine gG ?_|exact gD|refine gB ?_ ?_<;>intro h|refine gIt (zl hn0) ?_|refine gC hX ?_|(rw[hw1];refine gC hb ?_)|refine zk ?_
      exact gF
     ·unfold inB at hnb;have hw1:IntKind.i64.wrap (s+n)=s+n:=wrap64 ua;have hb:=vh (s+n);rw[hB]at hb
      repeat' first|refine gG ?_|exact gD|refine gB ?_ ?_<;>intro h|refine gIt (zl hn0) ?_|refine gC hX ?_|(rw[hw1];refine gC hb ?_)|refine zk ?_
      rw[show IntKind.i64.wrap ((k:Int)+1)=((k+1:Nat):Int) by rw[wrap64 ua];omega];exact zg (k+1,s+n) ⟨by simp only;omega,zqL.1 hB,hnx⟩ id (by simp only;omega) gM
    ·have hkge: ¬k<L.length:=by simpa using h
     clear h;rw[uC ua]at J
     replace J:ptP d m g l (d.pots.drop (i+1)) s=R:=J
     repeat' first|refine gG ?_|refine gB ?_ ?_<;>intro h|refine zd ?_
     rw[show IntKind.i64.wrap ((i:Int)+1)=((i+1:Nat):Int) by rw[wrap64 ua];omega];exact zg (i+1,s) ⟨by simp only;omega,U,J⟩ id (by simp only;omega) gM
   ·rw[<-hLf]at hF
    repeat' first|refine gG ?_|(exfalso;simp[ht]at h;done)|refine gB ?_ ?_<;>intro h|refine gIt (zl hp) ?_|refine gT ?_|refine gR hC1 iE ?_|refine gR hF (nm [140,1,141,3,4,1002,1003,1010]) ?_
    refine gZ 141 [(40,pS (yx L))] [] ?_;rw[uj]
    refine zj (λq:Nat×Int=>q.1<=L.length/\inB q.2/\((ptN d m g p.x (L.drop q.1) q.2).bind λs=>ptP d m g l (d.pots.drop (i+1)) s)=R) (piT d m l p L i) (λq=>L.length - q.1) hC
     (0,s) ⟨uD _,U,J⟩ id gM ?_
    clear J U;rintro⟨k,s⟩ ⟨hk,U,J⟩;simp only at hk U J;change Goal _ _ _ _ _ [(2,.one (.bx 1002 0)),(3,.one (.bx 1003 0)),(6,pS (yx l)),(8,I s),(26,pS (.sl 5 (d.pots.map zht))),(27,I d.pots.length),(28,I (i:Int)),(10,.one (.bx 1010 0)),(40,pS (yx L)),(41,I L.length),(42,I (k:Int))] (piT d m l p L i (k,s)).2 _;refine gLc ?_ ?_<;>intro h
    ·have hklt:k<L.length:=by simpa using h
     clear h;obtain⟨n0,hn0⟩:=za hklt;rw[drop_at hn0]at J;obtain⟨n,f,hE,hcase⟩:=zfv J hRn;have hX:=zig hE;have hsb':=U;unfold inB at hsb';rcases hcase with⟨hf,rfl⟩|⟨rfl,hnb,⟨hB,rfl⟩|⟨hB,hnx⟩⟩
     ·cases h
      repeat' first|refine gG ?_|exact gD|(exfalso;simp[hf]at h;done)|refine gB ?_ ?_<;>intro h|refine gIt (zl hn0) ?_|refine gC hX ?_|refine zk ?_
      exact gF
     ·cases h;unfold inB at hnb;have hw1:IntKind.i64.wrap (s+n)=s+n:=wrap64 ua;have hb:=vh (s+n);rw[hB]at hb
      repeat' first|refine gG ?_|exact gD|refine gB ?_ ?_<;>intro h|refine gIt (zl hn0) ?_|refine gC hX ?_|(rw[hw1];refine gC hb ?_)|refine zk ?_
      exact gF
     ·unfold inB at hnb;have hw1:IntKind.i64.wrap (s+n)=s+n:=wrap64 ua;have hb:=vh (s+n);rw[hB]at hb
      repeat' first|refine gG ?_|exact gD|refine gB ?_ ?_<;>intro h|refine gIt (zl hn0) ?_|refine gC hX ?_|(rw[hw1];refine gC hb ?_)|refine zk ?_
      rw[show IntKind.i64.wrap ((k:Int)+1)=((k+1:Nat):Int) by rw[wrap64 ua];omega];exact zg (k+1,s+n) ⟨by simp only;omega,zqL.1 hB,hnx⟩ id (by simp only;omega) gM
    ·have hkge: ¬k<L.length:=by simpa using h
     clear h;rw[uC ua]at J
     replace J:ptP d m g l (d.pots.drop (i+1)) s=R:=J
     repeat' first|refine gG ?_|refine gB ?_ ?_<;>intro h|refine zd ?_
     rw[show IntKind.i64.wrap ((i:Int)+1)=((i+1:Nat):Int) by rw[wrap64 ua];omega];exact zg (i+1,s) ⟨by simp only;omega,U,J⟩ id (by simp only;omega) gM
  ·have hge: ¬i<d.pots.length:=by simpa using h
   clear h;rw[uC ua]at J
   replace J:Vn.ok s=R:=J
   subst J;cases h
   repeat' first|refine gG ?_|refine gB ?_ ?_<;>intro h|refine zd ?_
   exact gF
theorem zcb(d:zf)(m:Hp):zh prog 28 [zn (zr d),zn (yp m)] [] (I (if vi d m=true then 0 else 1)) []:=by
 have J:=zbm d;have U:=yO d m;unfold vi;generalize zcl d=q at J⊢;generalize hr:(if(decide (q.2.2=0)&&zQ d m)=true then(0:Int)else 1)=r;refine gFo func28 λC hC=>?_
 repeat' first|refine gG ?_|refine gB ?_ ?_<;>intro h|refine gC J ?_|refine gC U ?_|refine zd ?_
 all_goals (simp only[ux,uE,uq,uu]at *; simp_all;subst hr;exact gF)
theorem zjx(m:Hp)(hg:m.g.length<=1000000)(hn:m.n.length<=1000000)(hf: ∀x∈m.n,x.f.length<=1000000):
 zh prog 29 [zn (yp m)] [] (.agg [.ar 0,.ar 1]) [(0,.arr 1 (m.g.map zN)),(1,.vw [2] 2 (wRows m.n 0)),(2,.bag 1 (jP m.n))]:=by
 have hC1:=jn m.g hg;refine gFo func29 λC hC=>?_
 repeat' first|refine gG ?_|refine gB ?_ ?_<;>intro h|refine gR hC1 iI ?_
 rw[uj];refine gA 150 2 [] [(1003,[.ar 141,.ar 150])] ?_;refine zuv hC rfl 151 1 rfl ?_;refine zux rfl 150 [151] (rows:=[]) (rows':=wRows (m.n.take 0) 0) rfl rfl ?_
 refine zj (λi:Nat=>i<=m.n.length) (λi=>([(2,.one (.bx 1002 0)),(3,.one (.bx 1003 0)),(11,pS (zh8 m.n)),(12,I m.n.length),(13,I i)],
  [(1002,some (Res.box [.p (.k (.slice none 0 0)),.p (.k (.slice none 0 0))])),(1003,some (Res.box [.ar 141,.ar 150])),(141,some (Res.arr 1 (m.g.map zN))),(150,some (Res.vw [151] 2 (wRows (m.n.take i) 0))),(151,some (Res.bag 1 (jP (m.n.take i))))])) (λi=>m.n.length - i) hC
  0 (uD _) id gM ?_
 intro i hi;refine gLc ?_ ?_<;>intro h
 ·have hlt:i<m.n.length:=by simpa using h
  clear h;obtain⟨x,hx⟩:=za hlt;have hC2:=jn x.f (hf x (uv hx));have hj:=zge (m.n.take i) x.t 151 140;have J:=yi (m.n.take i) 0;have htl:(m.n.take i).length=i:=by rw[u9];omega
  have hbt:jP (m.n.take i)++[x.f.map zN]=jP (m.n.take (i+1)):=by unfold jP;rw[zO hx,u5];rfl
  have U:=zgf (m.n.take i) x 151 140 161;rw[<-zO hx,<-zdD]at U
  repeat' first|refine gG ?_|refine gB ?_ ?_<;>intro h|refine gIt (zl hx) ?_|refine gR hC2 iE ?_|refine zkE T hC [PC.p (ki x.t),PC.a 0] [140] rfl rfl rfl rfl rfl rfl rfl rfl rfl rfl rfl rfl ?_|refine zbM T 160 hC (id:=150) (rows:=wRows (m.n.take i) 0) (rows2:=[[PC.p (ki x.t),PC.a 0]]) (ids:=[151]) (ids2:=[140]) [151,140] (wRows (m.n.take i) 0++[[PC.p (ki x.t),PC.a 1]]) (bytes:=32) rfl rfl rfl rfl (zol.vw (T.es_ok _ _ rfl)) rfl hj.1 hj.2.1 hj.2.2.1 hj.2.2.2 rfl rfl rfl ud (by rw[J,uP];omega) (by rw[J,uP];omega) rfl rfl rfl ?_
  rw[wrapN ua];refine zkz hC rfl 151 140 161 rfl rfl rfl rfl [] uh [(160,.vw [161] 2 (wRows (m.n.take (i+1)) 0))] ⟨⟨_,rfl,rfl,U⟩,uh⟩ ?_;exact zg (i+1) ua (ms [(150,160),(151,161)]) ua ⟨rfl,⟨rfl,rfl,rfl,rfl,rfl,uh⟩,⟨rfl,rfl,rfl,rfl,(by rw[<-hbt];rfl),uh⟩,rfl,y4 rfl⟩
 ·have hge: ¬i<m.n.length:=by simpa using h
  clear h;rw[u0 ua]
  repeat' first|refine gG ?_|refine gB ?_ ?_<;>intro h|refine zd ?_
  exact gW [141,150,151]
theorem zpu{c:Cl}(h:(chE d c).1=0): ∃i,zbG d c.p=some i/\d.procs[i]?=some (chE d c).2:=by
 unfold chE at h⊢;cases hi:zbG d c.p with
 |none=>rw[hi]at h;cases h
 |some i=>
  simp only[hi]at h⊢;cases hp:d.procs[i]? with
  |none=>simp only[hp]at h;cases h
  |some p=>
   simp only[hp]at h⊢;refine⟨i,rfl,?_⟩;by_cases J:((!decide (p.res=(⟨#[]⟩:UI))&& !plB p.res)||p.params.any (λf=> !plB f.t))=true
   ·rw[uw J]at h;cases h
   rw[ur J]at h⊢;by_cases h2: ¬c.a.length=p.params.length
   ·rw[uw h2]at h;cases h
   rw[ur h2]at h⊢;by_cases h3:(List.zip c.a p.params).any agB=true
   ·rw[uw h3]at h;cases h
   rw[ur h3];exact hp
abbrev mzS(om:Option Hp):S:=zn (yp (om.getD ⟨[],[]⟩))
theorem zvA{x e:S}:LeS (.tup [x,.agg [.p (.k (.slice none 0 0)),.p (.k (.slice none 0 0))],e]) (.tup [x,mzS none,e]):=LeS.tup (.cons (.refl _) (.cons (LeS.agg (.cons (.nil 1) (.cons (.nil 2) .nil))) (.cons (.refl _) .nil)))
variable {fuel:Int}{om:Option Hp}{x:EnT}
theorem zs8{c:Cl}{e:Int}(h1:vi d m=true)(hr:entE d m g c fuel=some (x,om,e)):
 zh prog 30 [zn (zr d),zn (yp m),zn (yf c),I fuel] [] (.tup [zn (enR x),mzS om,I e]) []:=by
 obtain⟨hcw,hv⟩:=vl h1;obtain⟨hd,hf⟩:=zvj hcw;obtain⟨hs,hw⟩:=vg hd hv;have J:=zfu d c;unfold entE at hr;by_cases U:(chE d c).1=0
 ·rw[ur (by simpa using U)]at hr;obtain⟨i0,hi0,hp0⟩:=zpu U;unfold prZ at J;rw[uw U,U]at J;generalize (chE d c).2=p at hr J hp0;cases hpt:ptE d m g with
  |none=>rw[hpt]at hr;cases hr
  |some q=>
   obtain⟨be,e2⟩:=q;simp only[hpt]at hr;have hP:=zmG hd hpt;by_cases z2:e2=0
   ·subst z2;rw[ur ue]at hr;cases hbn:bnE d m g p c with
    |none=>rw[hbn]at hr;cases hr
    |some q=>
     obtain⟨bo,e3⟩:=q;simp only[hbn]at hr;have hB:=zpt h1 hs hbn;by_cases z3:e3=0
     ·subst z3;rw[ur ue]at hr;by_cases z4:zej d m fuel=0
      ·rw[ur (by simpa using z4)]at hr;by_cases z5:za6 d m c=0
       ·rw[ur (by simpa using z5)]at hr;cases hpl:plF (rnV d fuel g p c.a (mc0 m))with
        |none=>rw[hpl]at hr;cases hr
        |some w=>
         obtain⟨fl,v,y⟩:=w;simp only[hpl]at hr;by_cases z6:1099511627776<y.acc.length
         ·rw[uw z6]at hr;cases hr
         ·rw[ur z6]at hr;have hR:=zma hs hw z5 z4 (k:=g) (fl:=fl) (v:=v) (x:=y) (λi p' hi hp'=>by rw[hi0]at hi;cases hi;rw[hp0]at hp';cases hp';exact hpl) ua;cases hpa:ptE d ⟨y.g,y.ns⟩ g with
          |none=>rw[hpa]at hr;cases hr
          |some q=>
           obtain⟨af,e7⟩:=q;simp only[hpa]at hr;cases hr;have hP2:=zmG hd hpa;refine gFo func30 λC hC=>?_
           repeat' first|refine gG ?_|exact gD|refine gB ?_ ?_<;>intro h|refine gC J ?_|refine gC hP ?_|refine gC hB ?_|refine gC hR ?_|refine gC hP2 ?_
           exact gF
       ·rw[uw z5]at hr;cases hr;have hR:=zjs hs hw z4 z5;refine gFo func30 λC hC=>?_
        repeat' first|refine gG ?_|exact gD|(exfalso;simp[z5]at h;done)|refine gB ?_ ?_<;>intro h|refine gC J ?_|refine gC hP ?_|refine gC hB ?_|refine gC hR ?_
        exact gFl id rfl zvA
      ·rw[uw z4]at hr;cases hr;have hR:=zl9 z4 c;refine gFo func30 λC hC=>?_
       repeat' first|refine gG ?_|exact gD|(exfalso;simp[z4]at h;done)|refine gB ?_ ?_<;>intro h|refine gC J ?_|refine gC hP ?_|refine gC hB ?_|refine gC hR ?_
       exact gFl id rfl zvA
     ·rw[uw z3]at hr;cases hr;refine gFo func30 λC hC=>?_
      repeat' first|refine gG ?_|exact gD|(exfalso;simp[z3]at h;done)|refine gB ?_ ?_<;>intro h|refine gC J ?_|refine gC hP ?_|refine gC hB ?_
      exact gFl id rfl zvA
   ·rw[uw z2]at hr;cases hr;refine gFo func30 λC hC=>?_
    repeat' first|refine gG ?_|exact gD|(exfalso;simp[z2]at h;done)|refine gB ?_ ?_<;>intro h|refine gC J ?_|refine gC hP ?_
    exact gFl id rfl zvA
 ·rw[uw (by simpa using U)]at hr;cases hr;unfold prZ at J;rw[ur U]at J;generalize (chE d c).1=ec at U J;refine gFo func30 λC hC=>?_
  repeat' first|refine gG ?_|exact gD|(exfalso;simp[U]at h;done)|refine gB ?_ ?_<;>intro h|refine gC J ?_
  exact gFl id rfl zvA
def yj(l:List Cl):PV:= .sl 2 (l.map yf)
theorem zvB{m2:Hp}{c:Cl}(J:vi d m=true)(hr:entE d m g c fuel=some (x,some m2,0)):vi d m2=true:=by
 unfold entE at hr;split at hr
 ·cases hr
 ·cases hpt:ptE d m g with
  |none=>rw[hpt]at hr;cases hr
  |some q=>
   simp only[hpt]at hr;split at hr
   ·cases hr
   ·cases hbn:bnE d m g (chE d c).2 c with
    |none=>rw[hbn]at hr;cases hr
    |some q=>
     simp only[hbn]at hr;split at hr
     ·cases hr
     ·split at hr
      ·cases hr
      ·split at hr
       ·cases hr
       ·cases hpl:plF (rnV d fuel g (chE d c).2 c.a (mc0 m))with
        |none=>rw[hpl]at hr;cases hr
        |some w=>
         obtain⟨fl,v,y⟩:=w;simp only[hpl]at hr;split at hr
         ·cases hr
         ·cases hpa:ptE d ⟨y.g,y.ns⟩ g with
          |none=>rw[hpa]at hr;cases hr
          |some q=>
           obtain⟨af,e7⟩:=q;simp only[hpa,ui,uz]at hr;obtain⟨_,rfl,rfl⟩:=hr;unfold vi;rw[uZ (vl J).1,tn];cases hv:zQ d ⟨y.g,y.ns⟩with
           |true=>rfl
           |false=>unfold ptE at hpa;rw[uw hv]at hpa;cases hpa
variable {xs:List EnT}
theorem zmH{f:Hp->Cl->Option (EnT×Option Hp×Int)}{c:Cl}{l:List Cl}{res:List EnT×Option Hp×Int}(h:(audF f (c::l) m).map (λq=>if q.2.2=0 then(xs++q.1,q.2)else q)=some res):
 ∃x om e,f m c=some (x,om,e)/\((∃m2,om=some m2/\e=0/\(audF f l m2).map (λq=>if q.2.2=0 then((xs++[x])++q.1,q.2)else q)=some res)\/(¬e=0/\res=([],none,e))\/(om=none/\e=0)):=by
 rw[audF]at h;cases hf:f m c with
 |none=>rw[hf]at h;cases h
 |some q=>
  obtain⟨x,om,e⟩:=q;rw[hf]at h;refine⟨x,om,e,rfl,?_⟩;cases om with
  |none=>
   by_cases J:e=0
   ·exact .inr (.inr ⟨rfl,J⟩)
   ·right;left;simp only[uG,ur J,ui]at h;exact⟨J,h.symm⟩
  |some m2=>
   by_cases J:e=0
   ·left;refine⟨m2,rfl,J,?_⟩;simp only at h;rw[ur (by simpa using J)]at h;cases hq:audF f l m2 with
    |none=>rw[hq]at h;cases h
    |some q=>
     rw[hq]at h;simp only[uG]at h⊢;rw[<-h];by_cases U:q.2.2=0
     ·rw[uw U,uw U,uw U];simp
     ·rw[ur U,ur U,ur U]
   ·right;left;simp only at h;rw[uw (by simpa using J)]at h;simp only[uG,ur J,ui]at h;exact⟨J,h.symm⟩
theorem zmI{c:Cl}{e:Int}(hr:entE d m g c fuel=some (x,none,e)): ¬e=0:=by
 unfold entE at hr;split at hr
 ·rename_i h;cases hr;exact h
 ·cases hpt:ptE d m g with
  |none=>rw[hpt]at hr;cases hr
  |some q=>
   simp only[hpt]at hr;split at hr
   ·rename_i h;cases hr;exact h
   ·cases hbn:bnE d m g (chE d c).2 c with
    |none=>rw[hbn]at hr;cases hr
    |some q=>
     simp only[hbn]at hr;split at hr
     ·rename_i h;cases hr;exact h
     ·split at hr
      ·rename_i h;cases hr;exact h
      ·split at hr
       ·rename_i h;cases hr;exact h
       ·cases hpl:plF (rnV d fuel g (chE d c).2 c.a (mc0 m))with
        |none=>rw[hpl]at hr;cases hr
        |some w=>
         obtain⟨fl,v,y⟩:=w;simp only[hpl]at hr;split at hr
         ·cases hr
         ·cases hpa:ptE d ⟨y.g,y.ns⟩ g with
          |none=>rw[hpa]at hr;cases hr
          |some q=>obtain⟨af,e7⟩:=q;simp only[hpa]at hr;cases hr
abbrev auT(d:zf)(l:List Cl)(fuel:Int)(q:Nat×List EnT×Hp):zb×Tab:=([(3,I fuel),(4,.one (.bx 1004 0)),(5,.one (.bx 1005 0)),(9,.one (.bx 1009 0)),(12,.one (.ar 140)),(40,pS (yj l)),(41,I l.length),(42,I q.1)],
 [(1004,some (.box ((zr d).map V.p))),(1005,some (.box ((yp q.2.2).map V.p))),(1009,some (.box [.p (.k (.slice none 0 0)),.p (.k (.slice none 0 0))])),(140,some (.arr 4 (q.2.1.map enR)))])
theorem zpv{e:S}:LeS (.tup [.one (.p (.k (.slice none 0 0))),.agg [.p (.k (.slice none 0 0)),.p (.k (.slice none 0 0))],e]) (.tup [pS (enL []),mzS none,e]):=LeS.tup (.cons (.one (.nil 4)) (.cons (LeS.agg (.cons (.nil 1) (.cons (.nil 2) .nil))) (.cons (.refl _) .nil)))
theorem zkc{l:List Cl}{e:Int}(hr:ztz d m g l fuel=some (xs,om,e)):
 zh prog 9 [zn (zr d),zn (yp m),pS (yj l),I fuel] [] (.tup [pS (enL xs),mzS om,I e]) []:=by
 have U:=zcb d m;unfold ztz at hr;cases h1:vi d m with
 |false=>
  rw[uw h1]at hr;cases hr;rw[h1]at U
  replace U:zh prog 28 [zn (zr d),zn (yp m)] [] (I 1) []:=U
  refine gFo func9 λC hC=>?_
  repeat' first|refine gG ?_|exact gD|refine gB ?_ ?_<;>intro h|refine gC U ?_|refine zd ?_
  exact gFl id rfl zpv
 |true=>
  rw[ur (by simp[h1])]at hr;rw[h1]at U
  replace U:zh prog 28 [zn (zr d),zn (yp m)] [] (I 0) []:=U
  by_cases h2:fuel<0\/1048576<fuel
  ·rw[uw h2]at hr;cases hr;refine gFo func9 λC hC=>?_
   repeat' first|refine gG ?_|exact gD|(exfalso;simp only[uT,uq,uu]at *; omega)|refine gB ?_ ?_<;>intro h|refine gC U ?_|refine zd ?_
   all_goals exact gFl id rfl zpv
  rw[ur h2]at hr;by_cases h3:2000<l.length
  ·rw[uw h3]at hr;cases hr;refine gFo func9 λC hC=>?_
   repeat' first|refine gG ?_|exact gD|(exfalso;simp only[uJ,uq,uu,uj]at h;omega)|refine gB ?_ ?_<;>intro h|refine gC U ?_|refine zd ?_
   all_goals exact gFl id rfl zpv
  rw[ur h3]at hr;obtain⟨hcw,hv⟩:=vl h1;obtain⟨hd,hf⟩:=zvj hcw;obtain⟨hs,hw⟩:=vg hd hv;have hCp:=zjx m hs.g hs.n hs.f;refine gFo func9 λC hC=>?_
  repeat' first|refine gG ?_|exact gD|(exfalso;simp only[uJ,uq,uu,uj]at h;omega)|refine gB ?_ ?_<;>intro h|refine gC U ?_|refine gR hCp (nm [101,107,108]) ?_|refine zd ?_
  refine zeI rfl (zjT m 101 107 108) rfl [] uh [(1005,.box ((yp m).map V.p))] ⟨⟨_,rfl,rfl,LnR.box (.cons (LnV.ar (.head _)) (.cons (LnV.vw (ids:=[108]) (rows:=wRows m.n 0) (.tail _ (.head _)) (by rw[uj,yi]) (zbj _) (zsd _ 108 m.n (.tail _ (.tail _ (.head _))))) (zjS.refl _)))⟩,uh⟩ ?_;refine gA 140 4 [(12,.one (.ar 140))] [] ?_;rw[uj]
  refine zj (λq:Nat×List EnT×Hp=>q.1<=l.length/\q.2.1.length=q.1/\vi d q.2.2=true/\(audF (λm c=>entE d m g c fuel) (l.drop q.1) q.2.2).map (λr=>if r.2.2=0 then(q.2.1++r.1,r.2)else r)=some (xs,om,e)) (auT d l fuel) (λq=>l.length - q.1) hC
   (0,[],m) ⟨uD _,rfl,h1,?_⟩ id gM ?_
  ·simp only[ow]
   replace hr:audF (λm c=>entE d m g c fuel) l m=some (xs,om,e):=hr
   rw[hr];simp
  clear hr h1 hv hs hw hCp U;rintro⟨i,ys,m1⟩ ⟨hi,hyl,h1,J⟩;simp only at hi hyl h1 J;change Goal _ _ _ _ _ [(3,I fuel),(4,.one (.bx 1004 0)),(5,.one (.bx 1005 0)),(9,.one (.bx 1009 0)),(12,.one (.ar 140)),(40,pS (yj l)),(41,I l.length),(42,I (i:Int))] (auT d l fuel (i,ys,m1)).2 _;refine gLc ?_ ?_<;>intro h
  ·have hlt:i<l.length:=by simpa using h
   clear h;obtain⟨c,hc⟩:=za hlt;rw[drop_at hc]at J;obtain⟨x,ox,er,hE,hcase⟩:=zmH J;have hX:=zs8 h1 hE;rcases hcase with⟨m2,rfl,rfl,hnx⟩|⟨he,hq⟩|⟨rfl,he⟩
   ·have h1':=zvB h1 hE;have happ:ys.map enR++[enR x]=(ys++[x]).map enR:=by rw[u5];rfl
    repeat' first|refine gG ?_|exact gD|refine gB ?_ ?_<;>intro h|refine gIt (zl hc) ?_|refine gC hX ?_|refine gT ?_|refine zk ?_|refine gY T 141 ((ys++[x]).map enR) 32 ?_
    rw[wrapN ua];exact zg (i+1,ys++[x],m2) ⟨by simp only;omega,by simp only[uQ,uP];omega,h1',hnx⟩ (ms [(140,141)]) (by simp only;omega) ⟨rfl,⟨rfl,rfl,rfl,rfl,rfl,rfl,rfl,rfl,uh⟩,⟨rfl,rfl,rfl,rfl,uh⟩,rfl,y4 rfl⟩
   ·cases hq
    repeat' first|refine gG ?_|exact gD|(exfalso;simp[he]at h;done)|refine gB ?_ ?_<;>intro h|refine gIt (zl hc) ?_|refine gC hX ?_|refine zk ?_
    exact gFl id rfl zpv
   ·exact absurd he (zmI hE)
  ·have hge: ¬i<l.length:=by simpa using h
   clear h;rw[uC ua,audF]at J;simp only[uG,uW,uV,ui,uz]at J;obtain⟨rfl,rfl,rfl⟩:=J
   repeat' first|refine gG ?_|refine gB ?_ ?_<;>intro h|refine zd ?_
   refine gZ 140 [(8,pS (enL ys))] [] ?_;exact gF
abbrev BSt:=Option (List Int)×Int
def frmL(run:Hp->Cl->Option (Int×Hp))(f:Hp->List Int->Int->BSt->BSt)(m:Hp)(a:List Int)(cost:Int):List Cl->Int->BSt->BSt
 | [],_,st=>st
 |c::r,i,st=>frmL run f m a cost r (i+1) (match run m c with
  |some (n,m2)=>f m2 (a++[i]) (cost+n) st
  |none=>st)
def frm(run:Hp->Cl->Option (Int×Hp))(cs:List Cl):Nat->Hp->List Int->Int->BSt->BSt
 |0,_,a,cost,st=>if st.1=none\/st.2<cost then(some a,cost)else st
 |k+1,m,a,cost,st=>frmL run (frm run cs k) m a cost cs 0 st
def bestP:Option (List Int)->PV
 |none=> .k (.slice none 0 0)
 |some l=>yx l
def seB(d:zf)(cs:List Cl)(fuel:Int)(st:BSt):Res:= .box ((zr d++[yj cs,ki fuel,bestP st.1,ki st.2]).map V.p)
theorem zmJ(v:List Int)(h0:v≠ [])(hv:v.length<=1000000):zh prog 42 [.one (.ar 0)] [(0,.arr 1 (v.map zN))] (.one (.ar 1)) [(0,.arr 1 (v.map zN)),(1,.arr 1 (v.map zN))]:=by
 refine gFo func42 λC hC=>?_;have J:v.map zN≠ []:=by simpa using h0
 have U:(v.map zN).length=v.length:=uj _
 repeat' first|refine gG ?_|refine gB ?_ ?_<;>intro h|refine zul hC (et:=3) J rfl rfl ud rfl rfl ?_|refine zlo T hC rfl rfl rfl rfl rfl ?_|refine zho T 102 hC (rows:=[]) (rows2:=v.map zN) (rows3:=v.map zN) (bytes:=8) rfl rfl rfl rfl (zat.ar (T.es_ok _ _ rfl)) rfl rfl rfl rfl ud (by simp only[tN,U];omega) (by simp only[tN,U];omega) rfl rfl rfl ?_
 exact gW [0,102]
theorem zmK:zh prog 42 [pS (.k (.slice none 0 0))] [] (pS (.k (.slice none 0 0))) []:=by
 refine gFo func42 λC hC=>?_
 repeat' first|refine gG ?_|refine gB ?_ ?_<;>intro h|refine zlu hC (et:=3) rfl ud rfl rfl ?_
 exact gF
variable {a:List Int}
section
variable (d:zf) (cs:List Cl) (fuel:Int)
theorem zpw(m:Hp)(cost bc:Int):zh prog 41 [.one (.bx 0 0),zn (yp m),pS (.k (.slice none 0 0)),I cost,I 0] [(0,seB d cs fuel (none,bc))] (.tup []) [(0,seB d cs fuel (none,cost))]:=by
 have J:=zmK;unfold seB;simp only[bestP];refine gFo func41 λC hC=>?_
 repeat' first|refine gG ?_|exact gD|refine gB ?_ ?_<;>intro h|refine zlu hC (et:=3) rfl ud rfl rfl ?_|refine gC J ?_
 exact gE
theorem zpx(m:Hp)(ha:a≠ [])(hal:a.length<=1000000)(cost:Int){st:BSt}(hst:st.1≠some [])(run:Hp->Cl->Option (Int×Hp)):
 zh prog 41 [.one (.bx 0 0),zn (yp m),.one (.ar 1),I cost,I 0] [(1,.arr 1 (a.map zN)),(0,seB d cs fuel st)] (.tup []) [(1,.arr 1 (a.map zN)),(0,seB d cs fuel (frm run cs 0 m a cost st))]:=by
 have U:=zmJ a ha hal;obtain⟨o,bc⟩:=st;unfold seB frm;cases o with
 |none=>
  simp only[bestP,UB,uW];refine gFo func41 λC hC=>?_
  repeat' first|refine gG ?_|exact gD|refine gB ?_ ?_<;>intro h|refine zlu hC (et:=3) rfl ud rfl rfl ?_|refine gR U (nm [1,150]) ?_
  refine gZ 150 [] [(0,(zr d++[yj cs,ki fuel,yx a,ki cost]).map V.p)] ?_;exact gE
 |some b=>
  have hb:b.map zN≠ []:=by
   intro e;have:b=[]:=oN.1 e;exact hst (by rw[this])
  by_cases J:bc<cost
  ·simp only[bestP,reduceCtorEq,oI,uw J];unfold yx;refine gFo func41 λC hC=>?_
   repeat' first|refine gG ?_|exact gD|(exfalso;exact absurd J (uo h))|refine gB ?_ ?_<;>intro h|refine zp2 hC (et:=3) hb rfl ud rfl rfl ?_|refine gR U (nm [1,150]) ?_
   refine gZ 150 [] [(0,(zr d++[yj cs,ki fuel,yx a,ki cost]).map V.p)] ?_;exact gE
  ·simp only[bestP,reduceCtorEq,oI,ur J];unfold yx;refine gFo func41 λC hC=>?_
   repeat' first|refine gG ?_|exact gD|(exfalso;exact absurd (uk h) J)|refine gB ?_ ?_<;>intro h|refine zp2 hC (et:=3) hb rfl ud rfl rfl ?_
   exact gE
def zpy(run:Hp->Cl->Option (Int×Hp))(Kp:Hp->Prop)(m:Hp)(c:Cl):Prop:=
 (∃fl v co n m2,run m c=some (n,m2)/\Kp m2/\0<=n/\n<=1099511627776/\zh prog 51 [zn (zr d),zn (yp m),zn (yf c),I fuel] [] (.tup [.agg (zh6 fl v co n),zn (yp m2),I 0]) [])\/
 ∃e,e≠0/\run m c=none/\zh prog 51 [zn (zr d),zn (yp m),zn (yf c),I fuel] [] (.tup [.agg (zh6 0 0 0 0),.agg [.p (.k (.slice none 0 0)),.p (.k (.slice none 0 0))],I e]) []
theorem zqM{run:Hp->Cl->Option (Int×Hp)}{f:Hp->List Int->Int->BSt->BSt}(hf: ∀m a c st,a≠ []->st.1≠some []->(f m a c st).1≠some []){m:Hp}{a:List Int}{cost:Int}: ∀(l:List Cl) (i:Int) (st:BSt),st.1≠some []->(frmL run f m a cost l i st).1≠some []
 | [],_,_,h=>h
 |c::r,i,st,h=>by
  simp only[frmL];refine zqM hf r (i+1) _ ?_;split
  ·exact hf _ _ _ _ ue h
  ·exact h
theorem zio{run:Hp->Cl->Option (Int×Hp)}{cs:List Cl}: ∀(k:Nat) (m:Hp) (a:List Int) (c:Int) (st:BSt),a≠ []->st.1≠some []->(frm run cs k m a c st).1≠some []
 |0,m,a,c,st,ha,h=>by
  simp only[frm];split
  ·simpa using ha
  ·exact h
 |k+1,m,a,c,st,ha,h=>by
  simp only[frm];exact zqM (λm a c st=>zio k m a c st) cs 0 st h
theorem zmL{run:Hp->Cl->Option (Int×Hp)}{Kp:Hp->Prop}(hR: ∀m,Kp m-> ∀c∈cs,zpy d fuel run Kp m c)(hcs:cs.length<=1000000): ∀(k:Nat) (m:Hp) (a:List Int) (cost:Int) (st:BSt),Kp m->(a≠ []\/0<k)->a.length+k<=1000->0<=cost->cost+1099511627776*k<=4611686018427387904->st.1≠some []->
 zh prog 41 [.one (.bx 0 0),zn (yp m),.one (.ar 1),I cost,I (k:Nat)] [(1,.arr 1 (a.map zN)),(0,seB d cs fuel st)] (.tup []) [(1,.arr 1 (a.map zN)),(0,seB d cs fuel (frm run cs k m a cost st))]
 |0,m,a,cost,st,_,ha,hal,_,_,J=>zpx d cs fuel m (ha.resolve_right ua) ua cost J run
 |k+1,m,a,cost,st,hK,ha,hal,hc0,hc1,J=>by
  have IH:=zmL hR hcs k;simp only[frm];generalize hfin:frmL run (frm run cs k) m a cost cs 0 st=fin;refine zqN T func41 ud rfl rfl rfl rfl λC hC hT0=>?_;refine zwX rfl (id:=1) (e:=1) (rows:=a.map zN) (r0:= .arr 1 (a.map zN)) rfl (by rw[hT0];rfl) λad cap hρ hcap hcap2=>?_;rw[uj]at hρ hcap
  repeat' first|refine gG ?_|(exfalso;have h':=uk h;omega)|refine gB ?_ ?_<;>intro h
  rw[uj]
  refine zj (λq:Nat×BSt=>q.1<=cs.length/\q.2.1≠some []/\frmL run (frm run cs k) m a cost (cs.drop q.1) q.1 q.2=fin) (λq=>([(0,.one (.bx 0 0)),(2,.one (.ar 1)),(3,I cost),(4,I ((k+1:Nat):Int)),(6,.one (.bx 1006 0)),(42,pS (yj cs)),(43,I cs.length),(44,I q.1)],[(1,some (.arc 1 (a.map zN) ad cap)),(0,some (seB d cs fuel q.2)),(1006,some (.box ((yp m).map V.p)))])) (λq=>cs.length - q.1) hC
   (0,st) ⟨uD _,J,by simpa using hfin⟩ id gM ?_
  clear J hfin;rintro⟨i,st⟩ ⟨hi,J,hf⟩;simp only at hi J hf;refine gLc ?_ ?_<;>intro hh
  ·have hlt:i<cs.length:=by simpa using hh
   clear hh;obtain⟨c,hc⟩:=za hlt;rw[drop_at hc]at hf;simp only[frmL]at hf;rcases hR m hK c (uv hc)with⟨fl,v,co,nn,m2,e1,hK2,hn0,hn1,U⟩|⟨e,he,e1,U⟩
   ·rw[e1]at hf;simp only at hf;have hne:a++[(i:Int)]≠ []:=by simp
    have hI:=IH m2 (a++[(i:Int)]) (cost+nn) st hK2 (.inl hne) (by simp only[uQ,uP];omega) ua ua J;have hst2:=zio (run:=run) (cs:=cs) k m2 (a++[(i:Int)]) (cost+nn) st hne J;have hw1:IntKind.i64.wrap (cost+nn)=cost+nn:=wrap64 ua;have hw2:IntKind.i64.wrap (((k+1:Nat):Int) - 1)=(k:Int):=by rw[wrap64 ua];omega
    rw[<-hw1,<-hw2]at hI;by_cases hroom:a.length+1<=cap
    ·repeat' first|refine gG ?_|exact gD|refine gB ?_ ?_<;>intro h|refine gX ?_|refine gC U ?_|refine gT ?_|refine ziY T 150 hC (rows2:=[zN (i:Int)]) (rows3:=(a++[(i:Int)]).map zN) rfl rfl rfl rfl (zat.sl (T.es_ok _ _ rfl)) (by simp only[u5,uH,tI]) rfl Nat.one_pos (by simp only[uj,uP];omega) rfl rfl rfl ?_|refine zrw hC hI (nm [0,150]) rfl rfl (yG.refl _) rfl rfl rfl rfl rfl rfl rfl rfl rfl rfl ?_
     rw[wrapN ua];refine zui rfl (id:=1) (q:=150) (rows:=a.map zN) (r2:=[(i:Int)].map zN) (u7 (λr=>some (Res.arc 1 r ad cap)) u5) rfl (by rw[hT0];rfl) (by rw[uj];exact hρ) ?_;exact zg (i+1,frm run cs k m2 (a++[(i:Int)]) (IntKind.i64.wrap (cost+nn)) st) ⟨ua,by rw[hw1];exact hst2,by rw[hw1];simpa using hf⟩ id (by simp only;omega) gM
    ·repeat' first|refine gG ?_|exact gD|refine gB ?_ ?_<;>intro h|refine gX ?_|refine gC U ?_|refine gT ?_|refine ziZ T 150 hC (rows2:=[zN (i:Int)]) (rows3:=(a++[(i:Int)]).map zN) (bytes:=8) rfl rfl rfl rfl (zat.sl (T.es_ok _ _ rfl)) (by simp only[u5,uH,tI]) rfl rfl rfl ud (by simp only[uj,uP];omega) (by simp only[uj,uP];omega) (by simp only[uj,uP];omega) rfl rfl rfl ?_|refine gR hI (nm [0,150]) ?_
     rw[wrapN ua];exact zg (i+1,frm run cs k m2 (a++[(i:Int)]) (IntKind.i64.wrap (cost+nn)) st) ⟨ua,by rw[hw1];exact hst2,by rw[hw1];simpa using hf⟩ id (by simp only;omega) gM
   ·repeat' first|refine gG ?_|(exfalso;exact he (uk h))|refine gB ?_ ?_<;>intro h|refine gX ?_|refine gC U ?_
    rw[e1]at hf;rw[wrapN ua];exact zg (i+1,st) ⟨ua,J,by simpa using hf⟩ id (by simp only;omega) gM
  ·have hge: ¬i<cs.length:=by simpa using hh
   clear hh;rw[uC ua]at hf;simp only[frmL]at hf;subst hf
   repeat' first|refine gG ?_|refine gB ?_ ?_<;>intro h|refine zd ?_
   refine zrx rfl (id:=1) rfl ?_;exact zK ⟨.inr rfl,id,_,rfl,.refl _,⟨rfl,rfl,uh⟩,rfl,rfl⟩
end
end Hw.Gm
