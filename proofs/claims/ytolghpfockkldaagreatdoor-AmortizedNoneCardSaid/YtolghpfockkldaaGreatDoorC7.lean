import Derived.Test.YtolghpfockkldaaGreatDoorC2
import Derived.Test.YtolghpfockkldaaGreatDoorC6
import Derived.Test.YtolghpfockkldaaGreatDoorC5
import Derived.Test.YtolghpfockkldaaGreatDoorC4
import Derived.DeepKeys3
import Derived.Test.YtolghpfockkldaaGreatDoorC3
set_option linter.defProp false
set_option linter.unusedVariables false
set_option linter.unusedSimpArgs false
set_option linter.unusedSectionVars false
set_option linter.unnecessarySimpa false
namespace Hw.Gm
open Go Go.Proofs Hw.M Ps Tryz
def zwq(d:zf)(vs:List Fld)(res:Str)(op:Int)(s:Str)(ts:List Str):Int:=
 bif decide (op=1)then(bif !(look vs s).isSome then 9 else bif !yo d (lsA ts 0) ((look vs s).getD (⟨#[]⟩:UI))then 11 else 0)
 else bif decide (op=2)then(bif !decide ((fieldT d (lsA ts 0) s).2=0)then(fieldT d (lsA ts 0) s).2 else bif !yo d (lsA ts 1) (fieldT d (lsA ts 0) s).1 then 11 else 0)
 else bif decide (op=3)then(bif !decide (lsA ts 0=(⟨#[98,111,111,108]⟩:UI))then 11 else 0)
 else bif decide (op=4)then(bif !decide (lsA ts 0=(⟨#[98,111,111,108]⟩:UI))then 11 else 0)
 else bif decide (op=5)then(bif decide (((ts.map zei).length:Int)=0)then(bif !decide (res=(⟨#[]⟩:UI))then 11 else 0)else bif !decide (res=(⟨#[]⟩:UI))then(bif !yo d (lsA ts 0) res then 11 else 0)else 11)
 else 0
theorem zsA(d:zf)(vs:List Fld)(res:Str)(x:Sm)(ts:List Str)(h6:x.op≠6)(h:exsT d vs true x.e=(ts,0)):stmT d vs res x=zwq d vs res x.op x.s ts:=by
 unfold stmT zwq
 grind
def smA(x:Sm):Prop:=(x.op=6->1<=x.e.length)/\(x.op=1->1<=x.e.length)/\(x.op=2->2<=x.e.length)/\(x.op=3\/x.op=4->1<=x.e.length)/\x.e.length<=1000000
variable {d:zf}{res:Str}{x:Sm}
theorem zoZ{vs:List Fld}{f:Int}(h6:x.op≠6)(h:(exsT d vs true x.e).2=f)(h0:f≠0):stmT d vs res x=f:=by
 unfold stmT
 simp_all
noncomputable def stT(d:zf)(V:List (Str×EV))(x:Sm)(res:Str)(q:Nat×List Str):zb×Tab:=
 ([(2,Sr res),(3,.one (.bx 1003 0)),(4,.one (.bx 1004 0)),(33,pS (v8 x.e)),(34,I x.e.length),(35,I q.1),(9,.one (.ar 140))],
  [(1003,some (.box [.bx 0 0,.mp 3,.p (.k (.bool true))])),(1004,some (.box ((zgp x).map Hw.V.p))),(140,some (.arr 1 (q.2.map zei)))]++tb (scL d V))
set_option maxHeartbeats 4000000 in
set_option maxRecDepth 100000 in
theorem zsB{vs:List Fld}{V:List (Str×EV)}(hp: ∀p∈d.procs,p.params.length<=1099511627776)(hV:x9 V vs)(hty: ∀x∈d.types,x.f.length<=1099511627776)(x:Sm)(res:Str)(hg: ∀e∈x.e,exG e)(ha:smA x):
 zh prog 225 [scS true 0 3,zn (zgp x),Sr res] (scL d V) (I (stmT d vs res x)) (scL d V):=by
 obtain⟨a6,a1,a2,a3,hl⟩:=ha;generalize hr:stmT d vs res x=r;by_cases h6:x.op=6
 ·obtain⟨e0,he0⟩:=za (show 0<x.e.length by omega);have hCl:=zoY true hp hV hty e0 (hg e0 (uv he0));rw[show stmT d vs res x=(caT d vs true e0).2 by unfold stmT exA;rw[uw h6,he0];rfl]at hr;subst hr;refine gFo func225 λC hC=>?_
  repeat' first|refine gG ?_|exact gD|exact gP|refine gB ?_ ?_<;>intro h|refine gIt (xU (i:=0) he0) ?_|refine gR hCl iq ?_|refine zd ?_
  exact gE
 ·refine gFo func225 λC hC=>?_
  repeat' first|refine gG ?_|exact gP|refine gB ?_ ?_<;>intro h
  refine gA 140 1 [(9,.one (.ar 140))] [] ?_;rw[uj]
  refine zj (λq:Nat×List Str=>q.1<=x.e.length/\q.2.length=q.1/\(q.2++(exsT d vs true (x.e.drop q.1)).1,(exsT d vs true (x.e.drop q.1)).2)=exsT d vs true x.e) (stT d V x res) (λq=>x.e.length - q.1) hC
   (0,[]) ⟨uD _,rfl,rfl⟩ id gM ?_
  rintro⟨i,ts⟩ ⟨hi,hv,hq⟩;simp only at hi hv hq;refine gLc ?_ ?_<;>intro h
  ·have hlt:i<x.e.length:=by simpa [stT]using h
   clear h;obtain⟨y,hy⟩:=za hlt;have hE:=zbk true hp hV hty y (hg y (uv hy));have happ:ts.map zei++[[ks (exT d vs true y).1]]=(ts++[(exT d vs true y).1]).map zei:=by rw[u5];rfl
   rcases zlX hy hq with⟨h0,hq2⟩|⟨h0,hq2⟩
   ·repeat' first|refine gG ?_|exact gP|refine gB ?_ ?_<;>intro h|refine gXE ?_|refine gR hE iq ?_|refine gT ?_|refine gY T 141 ((ts++[(exT d vs true y).1]).map zei) 16 ?_
    rw[wK (by simp only;omega)];exact zg (i+1,ts++[(exT d vs true y).1]) ⟨ua,by simp_all,hq2⟩ (mvL [(140,141)]) ua ⟨rfl,⟨rfl,rfl,rfl,rfl,rfl,rfl,rfl,uh⟩,⟨rfl,rfl,rfl,rfl,rfl,rfl,rfl,uh⟩,rfl,zdT rfl⟩
   ·rw[zoZ h6 hq2 h0]at hr
    repeat' first|refine gG ?_|exact gP|refine gB ?_ ?_<;>intro h|refine gXE ?_|refine gR hE iq ?_|refine zk ?_
    subst hr;exact gE
  ·have hge: ¬i<x.e.length:=by simpa [stT]using h
   clear h;have hi':i=x.e.length:=by omega
   subst hi';rw[qI]at hq;simp only[exsT,uV]at hq;rw[zsA d vs res x ts h6 hq.symm]at hr;have hF1:=wm d (lsA ts 0) ((look vs x.s).getD (⟨#[]⟩:UI));have hF2:=wm d (lsA ts 1) (fieldT d (lsA ts 0) x.s).1;have hF3:=wm d (lsA ts 0) res;have hFd:=zfe d (lsA ts 0) x.s hty;have hgv:(getG V x.s).getD (.o (ks (⟨#[]⟩:UI)))= .o (ks ((look vs x.s).getD (⟨#[]⟩:UI))):=by rw[hV];cases look vs x.s<;>rfl
   have hgs:(getG V x.s).isSome=(look vs x.s).isSome:=by rw[hV];cases look vs x.s<;>rfl
   clear hq hg hp hV a6;refine gZ 140 [(9,pS (za5 ts))] [] ?_
   repeat' first|refine gG ?_|exact gD|refine gB ?_ ?_<;>intro h|refine zd ?_|refine gR hF1 ic ?_|refine gR hF2 ic ?_|refine gR hF3 ic ?_|refine gR hFd ic ?_|refine yq (et:=9) kS hC (c0:= .string (⟨#[]⟩:UI)) (.o (ks (⟨#[]⟩:UI))) (pv:= .o (ks ((look vs x.s).getD (⟨#[]⟩:UI)))) (b:=(look vs x.s).isSome) rfl rfl rfl ud ud zqx hgv hgs rfl rfl ?_|refine jE T hC rfl rfl rfl ub (jU (i:=0) rfl (by simp only[uq,uu,uj]at *; omega)) rfl rfl ?_|refine jE T hC rfl rfl rfl ub (jU (i:=1) rfl (by simp only[uq,uu]at *; omega)) rfl rfl ?_
   all_goals clear hF1 hF2 hF3 hFd hgv hgs
   all_goals try (simp only[zwq, *,Un,oX]at hr;subst hr;exact gE)
   all_goals try (simp[zwq, *]at hr;subst hr;exact gE)
   all_goals try (exfalso;simp only[uq,uu]at *; omega)
mutual
def smG:Sm->Prop
 | .mk op s e l els=>(∀y∈e,exG y)/\smA (.mk op s e l els)/\l.length<=1000000/\els.length<=1000000/\smGs l/\smGs els
def smGs:List Sm->Prop
 | []=>True
 |x::r=>smG x/\smGs r
end
mutual
def znJ:Sm->Nat
 | .mk _ _ _ l els=>1+wH l+wH els
def wH:List Sm->Nat
 | []=>0
 |x::r=>znJ x+wH r
end
theorem zie: ∀ {l:List Sm},smGs l-> ∀x∈l,smG x
 |y::l,h,x,J=>by
  simp only[smGs]at h;rcases uF.1 J with rfl|J
  ·exact h.1
  ·exact zie h.2 x J
mutual
theorem zo0(d:zf)(vs:List Fld)(res:Str): ∀(x:Sm) (n:Int),n<=(smOne d vs res x n).2/\(smOne d vs res x n).2<=n+znJ x
 | .mk op s e l els,n=>by
   have h1:=zdV d vs res l (n+1);simp only[smOne,znJ];by_cases h0:stmT d vs res (.mk op s e l els)=0
   ·rw[uw h0];cases hq:smsT d vs res l (n+1)with
    |mk q m=>
     rw[hq]at h1;simp only at h1⊢;have h2:=zdV d vs res els m
     grind
   grind
theorem zdV(d:zf)(vs:List Fld)(res:Str): ∀(l:List Sm) (n:Int),n<=(smsT d vs res l n).2/\(smsT d vs res l n).2<=n+wH l
 | [],n=>by simp only[smsT,wH];omega
 |x::r,n=>by
  have h1:=zo0 d vs res x n;simp only[smsT,wH];cases hq:smOne d vs res x n with
  |mk q m=>
   rw[hq]at h1;simp only at h1⊢;have h2:=zdV d vs res r m
   grind
end
noncomputable abbrev stR(d:zf)(V:List (Str×EV))(n:Int):RL:=scL d V++[(4,.box [.p (ki n)])]
abbrev zys(d:zf)(vs:List Fld)(V:List (Str×EV))(res:Str)(l:List Sm)(n:Int):Prop:=
 zh prog 177 [scS true 0 3,pS (yw l),Sr res,.one (.bx 4 0)] (stR d V n) (.tup [I (smsT d vs res l n).1.1,I (smsT d vs res l n).1.2]) (stR d V (smsT d vs res l n).2)
def rstT(d:zf)(vs:List Fld)(res:Str)(x:Sm)(k:Nat)(m:Int):(Int×Int)×Int:=match k with
 |0=>match smsT d vs res x.l m with
  |(q,m)=>if q.2=0 then smsT d vs res x.els m else(q,m)
 |1=>smsT d vs res x.els m
 |_=>((0,0),m)
def zsC(x:Sm)(k:Nat):Nat:=match k with
 |0=>wH x.l+wH x.els
 |1=>wH x.els
 |_=>0
def partT(x:Sm)(k:Nat):List Sm:=match k with
 |0=>x.l
 |_=>x.els
theorem zfk{d:zf}{vs:List Fld}{res:Str}: ∀ {l:List Sm} {n:Int},(smsT d vs res l n).1.2=0->(smsT d vs res l n).1=(0,0)
 | [],n,_=>rfl
 |x::r,n,h=>by
  simp only[smsT]at h⊢;cases hq:smOne d vs res x n with
  |mk q m=>
   rw[hq]at h;simp only at h⊢;by_cases J:q.2=0
   ·rw[uw J]at h ⊢; exact zfk h
   simp_all
theorem zo1{vs:List Fld}{k:Nat}{m:Int}(hk:k<2):(smsT d vs res (partT x k) m).1.2=0/\rstT d vs res x k m=rstT d vs res x (k+1) (smsT d vs res (partT x k) m).2\/
 (smsT d vs res (partT x k) m).1.2≠0/\rstT d vs res x k m=smsT d vs res (partT x k) m:=by
 match k,hk with
 |0,_=>
  simp only[rstT,partT];cases smsT d vs res x.l m with
  |mk q m'=>
   simp only;by_cases h:q.2=0
   ·rw[uw h];exact .inl ⟨h,rfl⟩
   ·rw[ur h];exact .inr ⟨h,rfl⟩
 |1,_=>
  simp only[rstT,partT];by_cases h:(smsT d vs res x.els m).1.2=0
  ·refine .inl ⟨h,?_⟩;rw[show smsT d vs res x.els m=((smsT d vs res x.els m).1,(smsT d vs res x.els m).2) from rfl,zfk h]
  ·exact .inr ⟨h,uh⟩
theorem zlZ{k:Nat}(hk:k<2):zsC x k=wH (partT x k)+zsC x (k+1):=by
 match k,hk with
 |0,_=>rfl
 |1,_=>rfl
theorem zsD(x:Sm):znJ x=1+zsC x 0:=by cases x;simp only[znJ,zsC,Sm.l,Sm.els];omega
theorem zo2(d:zf)(vs:List Fld)(res:Str)(x:Sm)(n:Int):smOne d vs res x n=if stmT d vs res x=0 then rstT d vs res x 0 (n+1)else((n,stmT d vs res x),n+1):=by
 cases x;simp only[smOne,rstT];rfl
variable {i:Nat}
theorem zo3{l:List Sm}(h:l[i]?=some x):wH (l.drop i)=znJ x+wH (l.drop (i+1)):=by rw[drop_at h];rfl
noncomputable def sT(d:zf)(V:List (Str×EV))(l:List Sm)(res:Str)(q:Nat×Int):zb×Tab:=
 ([(2,Sr res),(3,.one (.bx 4 0)),(4,.one (.bx 1004 0)),(18,pS (yw l)),(19,I l.length),(20,I q.1)],[(1004,some (.box [.bx 0 0,.mp 3,.p (.k (.bool true))]))]++tb (stR d V q.2))
noncomputable def sT2(d:zf)(V:List (Str×EV))(l:List Sm)(res:Str)(x:Sm)(i:Nat)(q:Nat×Int):zb×Tab:=
 ([(2,Sr res),(3,.one (.bx 4 0)),(4,.one (.bx 1004 0)),(18,pS (yw l)),(19,I l.length),(20,I i),(44,pS (.sl 1 [[yw x.l],[yw x.els]])),(45,I 2),(46,I q.1)],[(1004,some (.box [.bx 0 0,.mp 3,.p (.k (.bool true))]))]++tb (stR d V q.2))
theorem zl0(x:Sm){k:Nat}(hk:k<2):([[yw x.l],[yw x.els]]:List (List PV))[((k:Nat):Int).toNat]?=some [yw (partT x k)]:=by
 match k,hk with
 |0,_=>rfl
 |1,_=>rfl
theorem zfl{d:zf}{vs:List Fld}{V:List (Str×EV)}(hp: ∀p∈d.procs,p.params.length<=1099511627776)(hV:x9 V vs)(hty: ∀x∈d.types,x.f.length<=1099511627776)(res:Str):
 ∀(N:Nat) (l:List Sm) (n:Int),sizeOf l<=N->smGs l->l.length<=1000000->0<=n->n+wH l<=1099511627776->zys d vs V res l n
 |0,l,n,h,_,_,_,_=>by cases l<;>simp at h
 |N+1,l,n,hN,hg,hl,hn0,hn1=>by
  show zh _ _ _ _ _ _;generalize hr:smsT d vs res l n=r;refine gFo func177 λC hC=>?_
  repeat' first|refine gG ?_|refine gB ?_ ?_<;>intro h
  rw[uj]
  refine zj (λq:Nat×Int=>q.1<=l.length/\0<=q.2/\q.2+wH (l.drop q.1)<=1099511627776/\smsT d vs res (l.drop q.1) q.2=r) (sT d V l res) (λq=>l.length - q.1) hC
   (0,n) ⟨uD _,hn0,hn1,hr⟩ id gM ?_
  clear hr hn0 hn1;rintro⟨i,m⟩ ⟨hi,hm0,J,hr⟩;simp only at hi hm0 J hr;refine gLc ?_ ?_<;>intro h
  ·have hlt:i<l.length:=by simpa [sT]using h
   clear h;obtain⟨x,hx⟩:=za hlt;have hxg:=zie hg x (uv hx)
   obtain⟨xe,xa,xl1,xl2,xg1,xg2⟩:(∀y∈x.e,exG y)/\smA x/\x.l.length<=1000000/\x.els.length<=1000000/\smGs x.l/\smGs x.els:=by
    cases x;simpa only[smG,Sm.e,Sm.l,Sm.els]using hxg
   have hS:=zsB hp hV hty x res xe xa;rw[zo3 hx,zsD]at J;rw[drop_at hx]at hr;simp only[smsT]at hr;rw[zo2]at hr;have hw1:IntKind.i64.wrap ((i,m).2+1)=m+1:=by rw[wrap64 (by simp only;omega)]
   by_cases h0:stmT d vs res x=0
   ·rw[uw h0]at hr;rw[h0]at hS
    repeat' first|refine gG ?_|exact gD|exact gP|refine gB ?_ ?_<;>intro h|refine gIt (jF hx) ?_|refine gR hS iq ?_|refine gH T [[yw x.l],[yw x.els]] ?_
    rw[hw1];have hrc:zsC x 0+wH (l.drop (i+1))+1+m<=1099511627776:=by omega
    refine zj (λq:Nat×Int=>q.1<=2/\0<=q.2/\q.2+zsC x q.1+wH (l.drop (i+1))<=1099511627776/\(if(rstT d vs res x q.1 q.2).1.2=0 then smsT d vs res (l.drop (i+1)) (rstT d vs res x q.1 q.2).2 else rstT d vs res x q.1 q.2)=r) (sT2 d V l res x i) (λq=>2 - q.1) hC
     (0,m+1) ⟨ua,ua,by grind,hr⟩ id gM ?_
    clear hr hrc hm0 J hw1;rintro⟨k,m1⟩ ⟨hk,hm0,J,hr⟩;simp only at hk hm0 J hr;refine gLc ?_ ?_<;>intro h
    ·have U:k<2:=by
      have h9:(k:Int)<2:=uk h;omega
     clear h;rw[zlZ U]at J
     have hsz:sizeOf (partT x k)<=N:=by
      have h1:sizeOf x<sizeOf l:=qw (uv hx)
      have h2:sizeOf (partT x k)<sizeOf x:=by
       cases x
       match k with
       |0=>simp only[partT,Sm.l,Sm.mk.sizeOf_spec];omega
       |_+1=>simp only[partT,Sm.els,Sm.mk.sizeOf_spec];omega
      omega
     have hpg:smGs (partT x k):=by
      match k with
      |0=>exact xg1
      |_+1=>exact xg2
     have hpl:(partT x k).length<=1000000:=by
      match k with
      |0=>exact xl1
      |_+1=>exact xl2
     have hI:=zfl hp hV hty res N (partT x k) m1 hsz hpg hpl hm0 ua;have hle:=zdV d vs res (partT x k) m1;have hI:zh _ _ _ _ _ _:=hI;rcases zo1 (d:=d) (vs:=vs) (res:=res) (x:=x) (m:=m1) U with⟨hz,hnx⟩|⟨hz,hnx⟩
     ·rw[hnx]at hr;generalize smsT d vs res (partT x k) m1=w at hI hle hz hr
      repeat' first|refine gG ?_|exact gD|exact gP|refine gB ?_ ?_<;>intro h|refine gIt (zl0 x U) ?_|refine gR hI ir ?_
      rw[wK (by first|omega|(simp only;omega))];exact zg (k+1,w.2) ⟨ua,ua,by grind,hr⟩ id ua gM
     ·rw[hnx]at hr;generalize smsT d vs res (partT x k) m1=w at hI hle hz hr;simp only[ur hz]at hr;subst hr
      repeat' first|refine gG ?_|exact gD|exact gP|refine gB ?_ ?_<;>intro h|refine gIt (zl0 x U) ?_|refine gR hI ir ?_|refine zk ?_
      exact gE
    ·have U:k=2:=by
      have h9: ¬(k:Int)<2:=uo h;omega
     clear h;subst U;simp only[rstT,zsC,uW]at hr J
     repeat' first|refine gG ?_|refine gB ?_ ?_<;>intro h|refine zd ?_
     rw[wK (by first|omega|(simp only;omega))];exact zg (i+1,m1) ⟨ua,ua,by simp only;omega,hr⟩ id ua gM
   ·rw[ur h0]at hr;rw[ur h0]at hr;subst hr
    repeat' first|refine gG ?_|exact gD|exact gP|refine gB ?_ ?_<;>intro h|refine gIt (jF hx) ?_|refine gR hS iq ?_|refine zk ?_
    rw[hw1];exact gE
  ·have hge: ¬i<l.length:=by simpa [sT]using h
   clear h;rw[uC ua]at hr;simp only[smsT]at hr;subst hr
   repeat' first|refine gG ?_|refine gB ?_ ?_<;>intro h|refine zd ?_
   exact gE
def ftS:Ft->S
 |none=> .one (.p (.k (.pointer none)))
 |some _=> .one (.bx 5 0)
def ftR:Ft->RL
 |none=>[]
 |some f=>[(5,.box [.p (ks f.1),.p (ki f.2.1),.p (ki f.2.2)])]
abbrev zsE(g:FuncId)(d:zf)(F:Ft):Prop:=zh prog g [.one (.bx 0 0)] (ckR d 0 1 2) (ftS F) (ckR d 0 1 2++ftR F)
variable {α:Type}{g:α->Nat->Ft}
theorem yY{l:List α}{x:α}(J:l[i]?=some x):firstF g (l.drop i) i=orF (g x i) (firstF g (l.drop (i+1)) (i+1)):=by
 rw[drop_at J];simp only[firstF];cases g x i<;>rfl
theorem yy{l:List α}(hi: ¬i<l.length):firstF g (l.drop i) i=none:=by
 rw[uC ua];rfl
structure vf (d:zf):Prop where
 ty:d.types.length<=1000000
 gl:d.globals.length<=1000000
 pr:d.procs.length<=1000000
 ms:d.measures.length<=1000000
 iv:d.invs.length<=1000000
 pt:d.pots.length<=1000000
 bd:d.bounds.length<=1000000
 tyf: ∀x∈d.types,x.f.length<=1000000
 prp: ∀p∈d.procs,p.params.length<=500000
 prl: ∀p∈d.procs,p.locs.length<=500000
 prb: ∀p∈d.procs,p.body.length<=1000000
 prs: ∀p∈d.procs,smGs p.body
 prc: ∀p∈d.procs,wH p.body<=1000000
 msx: ∀m∈d.measures,exG m.x
 ivx: ∀m∈d.invs,exG m.x
 ptx: ∀m∈d.pots,exG m.x
 bdx: ∀b∈d.bounds,exG b.x
theorem zl1(d:zf)(hd:vf d):zsE 120 d (jJ d):=by
 show zh _ _ _ _ _ _;unfold jJ;generalize hA0:firstF (λ(t:zX) i=>if twB (d.types.map (·.n)) i=true then some (t.n, -1,10)else none) d.types 0=A;generalize hB0:firstF (λ(t:zX) _=>ftE t.n (zaz d t.f)) d.types 0=B;generalize hE0:firstF (λ(f:Fld) i=>if twB (d.globals.map (·.n)) i=true then some (f.n, -1,10)else if yL d f.t=false then some (f.n, -1,9)else none) d.globals 0=E;refine gFo func120 λC hC=>?_;have q1:=hd.ty;have q2:=hd.gl
 repeat' first|refine gG ?_|refine gB ?_ ?_<;>intro h
 rw[uj]
 refine zj (λi:Nat=>i<=d.types.length/\firstF (λ(t:zX) i=>if twB (d.types.map (·.n)) i=true then some (t.n, -1,10)else none) (d.types.drop i) i=A) (λi=>([(0,.one (.bx 0 0)),(14,pS (.sl 2 (d.types.map zR))),(15,I d.types.length),(16,I i)],tb (ckR d 0 1 2))) (λi=>d.types.length - i) hC
  0 ⟨uD _,hA0⟩ id gM ?_
 clear hA0;intro i ⟨hi,J⟩;refine gLc ?_ ?_<;>intro h
 ·have hlt:i<d.types.length:=by simpa using h
  clear h;obtain⟨x,hx⟩:=za hlt;rw[yY hx]at J;have hT:=zsn d.types i hlt;cases hw:twB (d.types.map (·.n)) i with
  |true=>
   rw[hw]at hT J;simp only[uW,uN,uB,orF]at J;subst J
   repeat' first|refine gG ?_|exact gD|refine gB ?_ ?_<;>intro h|refine gX ?_|refine gC hT ?_|refine zk ?_
   exact gFl (mvL [(5,1031)]) rfl (.refl _)
  |false=>
   rw[hw]at hT J;simp only[uW,uN,uB,orF]at J
   repeat' first|refine gG ?_|exact gD|refine gB ?_ ?_<;>intro h|refine gX ?_|refine gC hT ?_
   rw[wK ua];exact zg (i+1) ⟨ua,J⟩ id ua gM
 have U: ¬i<d.types.length:=by simpa using h
 clear h;rw[yy U]at J;subst J;clear hi U
 repeat' first|refine gG ?_|refine gB ?_ ?_<;>intro h|refine zd ?_
 rw[uj]
 refine zj (λi:Nat=>i<=d.types.length/\firstF (λ(t:zX) _=>ftE t.n (zaz d t.f)) (d.types.drop i) i=B) (λi=>([(0,.one (.bx 0 0)),(37,pS (.sl 2 (d.types.map zR))),(38,I d.types.length),(39,I i)],tb (ckR d 0 1 2))) (λi=>d.types.length - i) hC
  0 ⟨uD _,hB0⟩ id gM ?_
 clear hB0;intro i ⟨hi,J⟩;refine gLc ?_ ?_<;>intro h
 ·have hlt:i<d.types.length:=by simpa using h
  clear h;obtain⟨x,hx⟩:=za hlt;rw[yY hx]at J;have hF:=zff d x.f (by have:=hd.tyf x (uv hx);omega);unfold ftE at J;by_cases hz:zaz d x.f=0
  ·rw[uw hz]at J;simp only[uW,uN,uB,orF]at J
   repeat' first|refine gG ?_|(exfalso;simp[hz]at h;done)|refine gB ?_ ?_<;>intro h|refine gX ?_|refine gR hF ic ?_
   rw[wK ua];exact zg (i+1) ⟨ua,J⟩ id ua gM
  ·rw[ur hz]at J;simp only[orF]at J;subst J
   repeat' first|refine gG ?_|(exfalso;simp[hz]at h;done)|refine gB ?_ ?_<;>intro h|refine gX ?_|refine gR hF ic ?_|refine zk ?_
   exact gFl (mvL [(5,1053)]) rfl (.refl _)
 have U: ¬i<d.types.length:=by simpa using h
 clear h;rw[yy U]at J;subst J;clear hi U
 repeat' first|refine gG ?_|refine gB ?_ ?_<;>intro h|refine zd ?_
 rw[uj]
 refine zj (λi:Nat=>i<=d.globals.length/\firstF (λ(f:Fld) i=>if twB (d.globals.map (·.n)) i=true then some (f.n, -1,10)else if yL d f.t=false then some (f.n, -1,9)else none) (d.globals.drop i) i=E) (λi=>([(0,.one (.bx 0 0)),(59,pS (.sl 2 (d.globals.map zB))),(60,I d.globals.length),(61,I i)],tb (ckR d 0 1 2))) (λi=>d.globals.length - i) hC
  0 ⟨uD _,hE0⟩ id gM ?_
 clear hE0;intro i ⟨hi,J⟩;refine gLc ?_ ?_<;>intro h
 ·have hlt:i<d.globals.length:=by simpa using h
  clear h;obtain⟨x,hx⟩:=za hlt;rw[yY hx]at J;have hK:=zdR d x.t;have hT:=zso d.globals i hlt;cases hw:twB (d.globals.map (·.n)) i with
  |true=>
   rw[hw]at hT J;simp only[uW,uN,uB,orF]at J;subst J
   repeat' first|refine gG ?_|exact gD|refine gB ?_ ?_<;>intro h|refine gX ?_|refine gC hT ?_|refine zk ?_
   exact gFl (mvL [(5,1076)]) rfl (.refl _)
  |false=>
   rw[hw]at hT J;simp only[uW,uN,uB,orF]at J;cases hk:yL d x.t with
   |false=>
    rw[hk]at hK J;simp only[uW,uN,uB,orF]at J;subst J
    repeat' first|refine gG ?_|exact gD|refine gB ?_ ?_<;>intro h|refine gX ?_|refine gC hT ?_|refine gR hK ic ?_|refine zk ?_
    exact gFl (mvL [(5,1085)]) rfl (.refl _)
   |true=>
    rw[hk]at hK J;simp only[qx,uN,orF]at J
    repeat' first|refine gG ?_|exact gD|refine gB ?_ ?_<;>intro h|refine gX ?_|refine gC hT ?_|refine gR hK ic ?_
    rw[wK ua];exact zg (i+1) ⟨ua,J⟩ id ua gM
 have U: ¬i<d.globals.length:=by simpa using h
 clear h;rw[yy U]at J;subst J;clear hi U
 repeat' first|refine gG ?_|refine gB ?_ ?_<;>intro h|refine zd ?_
 exact gE
theorem zo4(d:zf)(hd:vf d):zsE 121 d (zbI d):=by
 show zh _ _ _ _ _ _;unfold zbI;generalize hA0:firstF (λ(p:Pr) i=>if twB (d.procs.map (·.n)) i=true then some (p.n, -1,10)else if zaz d (p.params++p.locs)=0 then(if ¬p.res=(⟨#[]⟩:UI)/\yL d p.res=false then some (p.n, -1,9)else none)else some (p.n, -1,zaz d (p.params++p.locs))) d.procs 0=A;refine gFo func121 λC hC=>?_;have q1:=hd.pr
 repeat' first|refine gG ?_|refine gB ?_ ?_<;>intro h
 rw[uj]
 refine zj (λi:Nat=>i<=d.procs.length/\firstF (λ(p:Pr) i=>if twB (d.procs.map (·.n)) i=true then some (p.n, -1,10)else if zaz d (p.params++p.locs)=0 then(if ¬p.res=(⟨#[]⟩:UI)/\yL d p.res=false then some (p.n, -1,9)else none)else some (p.n, -1,zaz d (p.params++p.locs))) (d.procs.drop i) i=A) (λi=>([(0,.one (.bx 0 0)),(10,pS (.sl 5 (d.procs.map zD))),(11,I d.procs.length),(12,I i)],tb (ckR d 0 1 2))) (λi=>d.procs.length - i) hC
  0 ⟨uD _,hA0⟩ id gM ?_
 clear hA0;intro i ⟨hi,J⟩;refine gLc ?_ ?_<;>intro h
 ·have hlt:i<d.procs.length:=by simpa using h
  clear h;obtain⟨x,hx⟩:=za hlt;rw[yY hx]at J;have p1:=hd.prp x (uv hx);have p2:=hd.prl x (uv hx);have hK:=zdR d x.res;have U:=zcU x.params x.locs p1 p2;have hF:=zff d (x.params++x.locs) (by rw[uQ];omega);have hT:=zsp d.procs i hlt;cases hw:twB (d.procs.map (·.n)) i with
  |true=>
   rw[hw]at hT J;simp only[uW,uN,uB,orF]at J;subst J
   repeat' first|refine gG ?_|exact gD|refine gB ?_ ?_<;>intro h|refine gX ?_|refine gC hT ?_|refine zk ?_
   exact gFl (mvL [(5,1027)]) rfl (.refl _)
  |false=>
   rw[hw]at hT J;simp only[uW,uN,uB,orF]at J;by_cases hz:zaz d (x.params++x.locs)=0
   ·rw[uw hz]at J;rw[hz]at hF;by_cases hy:x.res=(⟨#[]⟩:UI)
    ·rw[ur (by simp[hy])]at J;simp only[orF]at J
     repeat' first|refine gG ?_|exact gD|(exfalso;simp[hy]at h;done)|refine gB ?_ ?_<;>intro h|refine gX ?_|refine gC hT ?_|refine gH T [[zw x.params],[zw x.locs]] ?_|refine gC U ?_|refine gR hF ic ?_|refine gR hK ic ?_
     rw[wK ua];exact zg (i+1) ⟨ua,J⟩ id ua gM
    ·cases hk:yL d x.res with
     |false=>
      rw[hk]at hK J;rw[uw ⟨hy,rfl⟩]at J;simp only[orF]at J;subst J
      repeat' first|refine gG ?_|exact gD|(exfalso;simp[hy]at h;done)|refine gB ?_ ?_<;>intro h|refine gX ?_|refine gC hT ?_|refine gH T [[zw x.params],[zw x.locs]] ?_|refine gC U ?_|refine gR hF ic ?_|refine gR hK ic ?_|refine zk ?_
      exact gFl (mvL [(5,1056)]) rfl (.refl _)
     |true=>
      rw[hk]at hK J;rw[ur ue]at J;simp only[orF]at J
      repeat' first|refine gG ?_|exact gD|(exfalso;simp[hy]at h;done)|refine gB ?_ ?_<;>intro h|refine gX ?_|refine gC hT ?_|refine gH T [[zw x.params],[zw x.locs]] ?_|refine gC U ?_|refine gR hF ic ?_|refine gR hK ic ?_
      rw[wK ua];exact zg (i+1) ⟨ua,J⟩ id ua gM
   ·rw[ur hz]at J;simp only[orF]at J;subst J
    repeat' first|refine gG ?_|exact gD|(exfalso;simp[hz]at h;done)|refine gB ?_ ?_<;>intro h|refine gX ?_|refine gC hT ?_|refine gH T [[zw x.params],[zw x.locs]] ?_|refine gC U ?_|refine gR hF ic ?_|refine gR hK ic ?_|refine zk ?_
    exact gFl (mvL [(5,1042)]) rfl (.refl _)
 have hge: ¬i<d.procs.length:=by simpa using h
 clear h;rw[yy hge]at J;subst J;clear hi hge
 repeat' first|refine gG ?_|refine gB ?_ ?_<;>intro h|refine zd ?_
 exact gE
theorem zgP(d:zf)(hd:vf d):zsE 122 d (zcr d):=by
 show zh _ _ _ _ _ _;unfold zcr;generalize hA0:firstF (λ(m:Ms) i=>if twB (d.measures.map (·.n)) i=true then some (m.n, -1,10)else if yE d m.t=false then some (m.n, -1,9)else none) d.measures 0=A;generalize hB0:firstF (λ(m:Iv) i=>if twB (d.invs.map (·.n)) i=true then some (m.n, -1,10)else if ¬m.t=(⟨#[]⟩:UI)/\yE d m.t=false then some (m.n, -1,9)else none) d.invs 0=B;generalize hE0:firstF (λ(m:Pt) _=>if ¬m.t=(⟨#[]⟩:UI)/\yE d m.t=false then some ((⟨#[112,111,116,101,110,116,105,97,108]⟩:UI), -1,9)else none) d.pots 0=E;generalize hG0:firstF (λ(b:Bd) i=>if(zew d b.p).isSome=false then some (b.p, -1,9)else if twB (d.bounds.map (·.p)) i=true then some (b.p, -1,10)else none) d.bounds 0=G;refine gFo func122 λC hC=>?_;have q1:=hd.ms;have q2:=hd.iv;have q3:=hd.pt;have q4:=hd.bd
 repeat' first|refine gG ?_|refine gB ?_ ?_<;>intro h
 rw[uj]
 refine zj (λi:Nat=>i<=d.measures.length/\firstF (λ(m:Ms) i=>if twB (d.measures.map (·.n)) i=true then some (m.n, -1,10)else if yE d m.t=false then some (m.n, -1,9)else none) (d.measures.drop i) i=A) (λi=>([(0,.one (.bx 0 0)),(17,pS (.sl 7 (d.measures.map yA))),(18,I d.measures.length),(19,I i)],tb (ckR d 0 1 2))) (λi=>d.measures.length - i) hC
  0 ⟨uD _,hA0⟩ id gM ?_
 clear hA0;intro i ⟨hi,J⟩;refine gLc ?_ ?_<;>intro h
 ·have hlt:i<d.measures.length:=by simpa using h
  clear h;obtain⟨x,hx⟩:=za hlt;rw[yY hx]at J;have hK:=jT d x.t;have hT:=zsq d.measures i hlt;cases hw:twB (d.measures.map (·.n)) i with
  |true=>
   rw[hw]at hT J;simp only[uW,uN,uB,orF]at J;subst J
   repeat' first|refine gG ?_|exact gD|refine gB ?_ ?_<;>intro h|refine gX ?_|refine gC hT ?_|refine zk ?_
   exact gFl (mvL [(5,1034)]) rfl (.refl _)
  |false=>
   rw[hw]at hT J;simp only[uW,uN,uB,orF]at J;cases hk:yE d x.t with
   |false=>
    rw[hk]at hK J;simp only[uW,uN,uB,orF]at J;subst J
    repeat' first|refine gG ?_|exact gD|refine gB ?_ ?_<;>intro h|refine gX ?_|refine gC hT ?_|refine gR hK ic ?_|refine zk ?_
    exact gFl (mvL [(5,1043)]) rfl (.refl _)
   |true=>
    rw[hk]at hK J;simp only[qx,uN,orF]at J
    repeat' first|refine gG ?_|exact gD|refine gB ?_ ?_<;>intro h|refine gX ?_|refine gC hT ?_|refine gR hK ic ?_
    rw[wK ua];exact zg (i+1) ⟨ua,J⟩ id ua gM
 have U: ¬i<d.measures.length:=by simpa using h
 clear h;rw[yy U]at J;subst J;clear hi U
 repeat' first|refine gG ?_|refine gB ?_ ?_<;>intro h|refine zd ?_
 rw[uj]
 refine zj (λi:Nat=>i<=d.invs.length/\firstF (λ(m:Iv) i=>if twB (d.invs.map (·.n)) i=true then some (m.n, -1,10)else if ¬m.t=(⟨#[]⟩:UI)/\yE d m.t=false then some (m.n, -1,9)else none) (d.invs.drop i) i=B) (λi=>([(0,.one (.bx 0 0)),(49,pS (.sl 6 (d.invs.map zp0))),(50,I d.invs.length),(51,I i)],tb (ckR d 0 1 2))) (λi=>d.invs.length - i) hC
  0 ⟨uD _,hB0⟩ id gM ?_
 clear hB0;intro i ⟨hi,J⟩;refine gLc ?_ ?_<;>intro h
 ·have hlt:i<d.invs.length:=by simpa using h
  clear h;obtain⟨x,hx⟩:=za hlt;rw[yY hx]at J;have hK:=jT d x.t;have hT:=zsr d.invs i hlt;cases hw:twB (d.invs.map (·.n)) i with
  |true=>
   rw[hw]at hT J;simp only[uW,uN,uB,orF]at J;subst J
   repeat' first|refine gG ?_|exact gD|refine gB ?_ ?_<;>intro h|refine gX ?_|refine gC hT ?_|refine zk ?_
   exact gFl (mvL [(5,1066)]) rfl (.refl _)
  |false=>
   rw[hw]at hT J;simp only[uW,uN,uB,orF]at J;by_cases hy:x.t=(⟨#[]⟩:UI)
   ·rw[ur (by simp[hy])]at J;simp only[orF]at J
    repeat' first|refine gG ?_|exact gD|(exfalso;simp[hy]at h;done)|refine gB ?_ ?_<;>intro h|refine gX ?_|refine gC hT ?_|refine gR hK ic ?_
    rw[wK ua];exact zg (i+1) ⟨ua,J⟩ id ua gM
   ·cases hk:yE d x.t with
    |false=>
     rw[hk]at hK J;rw[uw ⟨hy,rfl⟩]at J;simp only[orF]at J;subst J
     repeat' first|refine gG ?_|exact gD|(exfalso;simp[hy]at h;done)|refine gB ?_ ?_<;>intro h|refine gX ?_|refine gC hT ?_|refine gR hK ic ?_|refine zk ?_
     exact gFl (mvL [(5,1080)]) rfl (.refl _)
    |true=>
     rw[hk]at hK J;rw[ur ue]at J;simp only[orF]at J
     repeat' first|refine gG ?_|exact gD|(exfalso;simp[hy]at h;done)|refine gB ?_ ?_<;>intro h|refine gX ?_|refine gC hT ?_|refine gR hK ic ?_
     rw[wK ua];exact zg (i+1) ⟨ua,J⟩ id ua gM
 have U: ¬i<d.invs.length:=by simpa using h
 clear h;rw[yy U]at J;subst J;clear hi U
 repeat' first|refine gG ?_|refine gB ?_ ?_<;>intro h|refine zd ?_
 rw[uj]
 refine zj (λi:Nat=>i<=d.pots.length/\firstF (λ(m:Pt) _=>if ¬m.t=(⟨#[]⟩:UI)/\yE d m.t=false then some ((⟨#[112,111,116,101,110,116,105,97,108]⟩:UI), -1,9)else none) (d.pots.drop i) i=E) (λi=>([(0,.one (.bx 0 0)),(86,pS (.sl 5 (d.pots.map zht))),(87,I d.pots.length),(88,I i)],tb (ckR d 0 1 2))) (λi=>d.pots.length - i) hC
  0 ⟨uD _,hE0⟩ id gM ?_
 clear hE0;intro i ⟨hi,J⟩;refine gLc ?_ ?_<;>intro h
 ·have hlt:i<d.pots.length:=by simpa using h
  clear h;obtain⟨x,hx⟩:=za hlt;rw[yY hx]at J;have hK:=jT d x.t;by_cases hy:x.t=(⟨#[]⟩:UI)
  ·rw[ur (by simp[hy])]at J;simp only[orF]at J
   repeat' first|refine gG ?_|exact gD|(exfalso;simp[hy]at h;done)|refine gB ?_ ?_<;>intro h|refine gX ?_|refine gR hK ic ?_
   rw[wK ua];exact zg (i+1) ⟨ua,J⟩ id ua gM
  ·cases hk:yE d x.t with
   |false=>
    rw[hk]at hK J;rw[uw ⟨hy,rfl⟩]at J;simp only[orF]at J;subst J
    repeat' first|refine gG ?_|exact gD|(exfalso;simp[hy]at h;done)|refine gB ?_ ?_<;>intro h|refine gX ?_|refine gR hK ic ?_|refine zk ?_
    exact gFl (mvL [(5,1103)]) rfl (.refl _)
   |true=>
    rw[hk]at hK J;rw[ur ue]at J;simp only[orF]at J
    repeat' first|refine gG ?_|exact gD|(exfalso;simp[hy]at h;done)|refine gB ?_ ?_<;>intro h|refine gX ?_|refine gR hK ic ?_
    rw[wK ua];exact zg (i+1) ⟨ua,J⟩ id ua gM
 have U: ¬i<d.pots.length:=by simpa using h
 clear h;rw[yy U]at J;subst J;clear hi U
 repeat' first|refine gG ?_|refine gB ?_ ?_<;>intro h|refine zd ?_
 rw[uj]
 refine zj (λi:Nat=>i<=d.bounds.length/\firstF (λ(b:Bd) i=>if(zew d b.p).isSome=false then some (b.p, -1,9)else if twB (d.bounds.map (·.p)) i=true then some (b.p, -1,10)else none) (d.bounds.drop i) i=G) (λi=>([(0,.one (.bx 0 0)),(109,pS (.sl 5 (d.bounds.map xZ))),(110,I d.bounds.length),(111,I i)],tb (ckR d 0 1 2))) (λi=>d.bounds.length - i) hC
  0 ⟨uD _,hG0⟩ id gM ?_
 clear hG0;intro i ⟨hi,J⟩;refine gLc ?_ ?_<;>intro h
 ·have hlt:i<d.bounds.length:=by simpa using h
  clear h;obtain⟨x,hx⟩:=za hlt;rw[yY hx]at J;have hT:=zss d.bounds i hlt;have hg:=zdQ d x.p;cases hpr:zew d x.p with
  |none=>
   rw[hpr]at hg J;simp only[Option.isSome,uW,orF]at J;subst J
   repeat' first|refine gG ?_|exact gD|refine gB ?_ ?_<;>intro h|refine gX ?_|refine gC hT ?_|refine yq (et:=90) kS hC (c0:= .agg #[.string (⟨#[]⟩:UI),.slice none 0 0,.string (⟨#[]⟩:UI),.slice none 0 0,.slice none 0 0]) (.g [ks (⟨#[]⟩:UI),.k (.slice none 0 0),ks (⟨#[]⟩:UI),.k (.slice none 0 0),.k (.slice none 0 0)]) (pv:= .g [ks (⟨#[]⟩:UI),.k (.slice none 0 0),ks (⟨#[]⟩:UI),.k (.slice none 0 0),.k (.slice none 0 0)]) (b:=false) rfl rfl rfl ud ud za1 (by rw[hg];rfl) (by rw[hg];rfl) rfl rfl ?_|refine zk ?_
   exact gFl (mvL [(5,1131)]) rfl (.refl _)
  |some p=>
   rw[hpr]at hg J;simp only[Option.isSome,qx,uN]at J;cases hw:twB (d.bounds.map (·.p)) i with
   |true=>
    rw[hw]at hT J;simp only[uW,uN,uB,orF]at J;subst J
    repeat' first|refine gG ?_|exact gD|refine gB ?_ ?_<;>intro h|refine gX ?_|refine gC hT ?_|refine yq (et:=90) kS hC (c0:= .agg #[.string (⟨#[]⟩:UI),.slice none 0 0,.string (⟨#[]⟩:UI),.slice none 0 0,.slice none 0 0]) (.g [ks (⟨#[]⟩:UI),.k (.slice none 0 0),ks (⟨#[]⟩:UI),.k (.slice none 0 0),.k (.slice none 0 0)]) (pv:= .g (zD p)) (b:=true) rfl rfl rfl ud ud za1 (by rw[hg];rfl) (by rw[hg];rfl) rfl rfl ?_|refine zk ?_
    exact gFl (mvL [(5,1142)]) rfl (.refl _)
   |false=>
    rw[hw]at hT J;simp only[uW,uN,uB,orF]at J
    repeat' first|refine gG ?_|exact gD|refine gB ?_ ?_<;>intro h|refine gX ?_|refine gC hT ?_|refine yq (et:=90) kS hC (c0:= .agg #[.string (⟨#[]⟩:UI),.slice none 0 0,.string (⟨#[]⟩:UI),.slice none 0 0,.slice none 0 0]) (.g [ks (⟨#[]⟩:UI),.k (.slice none 0 0),ks (⟨#[]⟩:UI),.k (.slice none 0 0),.k (.slice none 0 0)]) (pv:= .g (zD p)) (b:=true) rfl rfl rfl ud ud za1 (by rw[hg];rfl) (by rw[hg];rfl) rfl rfl ?_
    rw[wK ua];exact zg (i+1) ⟨ua,J⟩ id ua gM
 have U: ¬i<d.bounds.length:=by simpa using h
 clear h;rw[yy U]at J;subst J;clear hi U
 repeat' first|refine gG ?_|refine gB ?_ ?_<;>intro h|refine zd ?_
 exact gE
theorem zgQ(d:zf)(p:Pr):x9 (vsM [p.params,p.locs] d.globals) (zjQ d p):=by
 have:=zlS [p.params,p.locs] d.globals;simpa [zjQ]using this
theorem zfm(d:zf)(p:Pr):x9 (vsM [p.params] d.globals) (p.params++d.globals):=by
 have:=zlS [p.params] d.globals;simpa using this
theorem vf.zwr(J:vf d): ∀p∈d.procs,p.params.length<=1099511627776:=λp U=>by have:=J.prp p U;omega
theorem vf.zxh(J:vf d): ∀x∈d.types,x.f.length<=1099511627776:=λp U=>by have:=J.tyf p U;omega
theorem zbl(hd:vf d){vs:List Fld}{V:List (Str×EV)}(hV:x9 V vs)(s:Str)(e:Ex)(w:Str)(hg:exG e):
 zh prog 178 [scS false 0 3,Sr s,zn (yg e),Sr w] (scL d V) (ftS (yZ d vs s e w)) (scL d V++ftR (yZ d vs s e w)):=by
 have J:=zbk false hd.zwr hV hd.zxh e hg;have J:zh _ _ _ _ _ _:=J;unfold yZ;generalize exT d vs false e=q at J⊢;obtain⟨t,f⟩:=q;simp only at J⊢;by_cases U:f=0
 ·rw[uw U];by_cases ht:t=w
  ·rw[uw ht];refine gFo func178 λC hC=>?_
   repeat' first|refine gG ?_|(exfalso;simp[U]at h;done)|(exfalso;simp[ht]at h;done)|refine gB ?_ ?_<;>intro h|refine gR J iq ?_|refine zd ?_
   exact gE
  ·rw[ur ht];refine gFo func178 λC hC=>?_
   repeat' first|refine gG ?_|(exfalso;simp[U]at h;done)|(exfalso;simp[ht]at h;done)|refine gB ?_ ?_<;>intro h|refine gR J iq ?_|refine zd ?_
   exact gFl (mvL [(5,1030)]) rfl (.refl _)
 ·rw[ur U];refine gFo func178 λC hC=>?_
  repeat' first|refine gG ?_|(exfalso;simp[U]at h;done)|refine gB ?_ ?_<;>intro h|refine gR J iq ?_|refine zd ?_
  exact gFl (mvL [(5,1023)]) rfl (.refl _)
theorem zl2(d:zf)(U:vf d):zsE 123 d (jK d):=by
 show zh _ _ _ _ _ _;unfold jK;generalize hA0:firstF (λ(p:Pr) _=>if(smsT d (zjQ d p) p.res p.body 0).1.2=0 then none else some (p.n,(smsT d (zjQ d p) p.res p.body 0).1.1,(smsT d (zjQ d p) p.res p.body 0).1.2)) d.procs 0=A;refine gFo func123 λC hC=>?_;have q1:=U.pr
 repeat' first|refine gG ?_|refine gB ?_ ?_<;>intro h
 rw[uj]
 refine zj (λi:Nat=>i<=d.procs.length/\firstF (λ(p:Pr) _=>if(smsT d (zjQ d p) p.res p.body 0).1.2=0 then none else some (p.n,(smsT d (zjQ d p) p.res p.body 0).1.1,(smsT d (zjQ d p) p.res p.body 0).1.2)) (d.procs.drop i) i=A) (λi=>([(0,.one (.bx 0 0)),(12,pS (.sl 5 (d.procs.map zD))),(13,I d.procs.length),(14,I i)],tb (ckR d 0 1 2))) (λi=>d.procs.length - i) hC
  0 ⟨uD _,hA0⟩ id gM ?_
 clear hA0;intro i ⟨hi,J⟩;refine gLc ?_ ?_<;>intro h
 ·have hlt:i<d.procs.length:=by simpa using h
  clear h;obtain⟨x,hx⟩:=za hlt;rw[yY hx]at J;have hm:=uv hx;have hP:=zlU d x (by have:=U.gl;omega) (by have:=U.prp x hm;omega) (by have:=U.prl x hm;omega);have hS:=zfl U.zwr (zgQ d x) U.zxh x.res _ x.body 0 (uM _) (U.prs x hm) (U.prb x hm) ua (by have:=U.prc x hm;omega);have hS:zh _ _ _ _ _ _:=hS;generalize smsT d (zjQ d x) x.res x.body 0=q at hS J;by_cases h0:q.1.2=0
  ·rw[uw h0]at J;simp only[orF]at J
   repeat' first|refine gG ?_|(exfalso;simp[h0]at h;done)|refine gB ?_ ?_<;>intro h|refine gX ?_|refine gR hP iu ?_|refine gR hS (nm [0,1,2,103,1005]) ?_
   rw[wK ua];exact zg (i+1) ⟨ua,J⟩ id ua gM
  ·rw[ur h0]at J;simp only[orF]at J;subst J
   repeat' first|refine gG ?_|(exfalso;simp[h0]at h;done)|refine gB ?_ ?_<;>intro h|refine gX ?_|refine gR hP iu ?_|refine gR hS (nm [0,1,2,103,1005]) ?_|refine zk ?_
   exact gFl (mvL [(5,1036)]) rfl (.refl _)
 have hge: ¬i<d.procs.length:=by simpa using h
 clear h;rw[yy hge]at J;subst J
 repeat' first|refine gG ?_|refine gB ?_ ?_<;>intro h|refine zd ?_
 exact gE
end Hw.Gm
namespace Hw
open Go
variable {P:Program}{af:Array Edge}{d:Option Nat}{g:Option (Nat×Bool)}{ps:String}{t:TypeId}{x:Operand}
section
variable {ty:TypeId} {y:Operand}
theorem zl3{id' e bytes:Nat}{rows2:List (List PV)}{sy:S}{rt2:RL}{tx el:TypeId}{z:List V}(hx:okc x (.one (.p (.k (.slice none 0 0)))))(hy:okc y sy)(hs:zat P e tx sy rt2 rows2)
 (he:elemSz P t=some (el,e)) (hz:zeroV P el=some z) (hzl:z.length=e) (hby:(P.info? el).map (·.bytes)=some bytes) (hb:rows2.length*bytes<=140737488355328) (hlen:rows2.length<=9223372036854775807):
 Snd P ⟨d,.call ⟨.builtin .append,#[x,y],#[t,tx]⟩,ty,ps,af,g⟩ (rq x (.one (.p (.k (.slice none 0 0))))++rq y sy) rt2 [id'] (.one (.ar id')) [(id',some (.arr e rows2))]:=by
 intro C st M ρ a w hH h1 hT hF hd k Q hk;rw[ze]at h1;have e1:=hH.evS (zq hx h1.1);have e2:=hH.evS (zq hy h1.2);simp only[RepS,RepV,RepPV]at e1;obtain⟨ii,hu,hinf,hsz⟩:=zp he;obtain⟨news,hsrc,hnews,hlen2⟩:=hs C st M ρ a w _ hH e2 hT;obtain⟨i',zv,hi',hzv,hzs⟩:=y5 hz;rw[hinf]at hi';simp only[ui]at hi';subst hi';rw[hinf]at hby;simp only[uG,ui]at hby;have hnl:news.length=rows2.length*e:=hsrc.newsLen
 have hcall:execOp a.eval ⟨d,.call ⟨.builtin .append,#[x,y],#[t,tx]⟩,ty,ps,af,g⟩=(do pure (.value (<-Builtin.append_ #[t,tx] ty #[a.eval x,a.eval y]))):=by
  simp[execOp,resolve,invoke,builtin]
 have fin: ∀ {val:Value} {w':World},(Builtin.append_ #[t,tx] ty #[a.eval x,a.eval y]).run P w= .ok val w'->
  (∀b',b'<w.heap.size->w'.heap[b']?=w.heap[b']?)->w.heap.size<=w'.heap.size->w'.os=w.os->w'.tape=w.tape->w'.output=w.output->
  (∀b',Bk val b'->w.heap.size<=b')->zA M (upd ρ id' val) w' id' (.arr e rows2)->val.oneCell'=true->
  Oper.wp P ⟨d,.call ⟨.builtin .append,#[x,y],#[t,tx]⟩,ty,ps,af,g⟩ a w k Q:=λ{val w'} J g1 g2 g3 g4 g5 g6 g7 g8=>by
  unfold Oper.wp;rw[hcall];simp only[Sem.run_bind,J,Result.andThen_ok,Sem.run_pure,Oper.upon_value];exact hk _ _ _ _ (hH.step none (λb' U _=>g1 b' U) g2 g3 g4 g5 (λb' U=> .inl (g6 b' U)) hF.1 g7 (by simp only[RepS,RepV];exact⟨(zo _ _ _).symm,g8⟩) hd)
 have hex:a.eval x= .slice none 0 0:=e1.1;rcases qK rows2.length with h0|h0
 ·have e3:rows2=[]:=uY.1 h0;subst e3;have hn0:news=[]:=tr (by simpa using hnl);subst hn0
  have J:(Builtin.append_ #[t,tx] ty #[a.eval x,a.eval y]).run P w= .ok (.slice none 0 0) w:=by
   rw[hex];have hl:(Builtin.lenOf (a.eval y)).run P w= .ok 0 w:=hsrc.len w;have hc:(Builtin.firstCells e 0 (a.eval y)).run P w= .ok #[] w:=hsrc.cells;rcases hsrc.kind with⟨e',hk'⟩|hk'<;>simp[Builtin.append_,run_underlying hu,run_underlying hk',Go.sizeOf,typeInfo,hinf,hl,hsz,hc]
  exact fin J (λ_ _=>rfl) (uM _) rfl rfl rfl (λb' U=>by simp[Bk,blk]at U) ⟨none,0,by rw[zo];rfl,ue,ue,.inl ⟨rfl,rfl⟩⟩ rfl
 ·have J:=run_append_grow_src (P:=P) w t tx ty el ii zv hu hinf hzv none 0 0 [] (run_firstCells_none w.drew _ _ _ _) (a.eval y) rows2.length news (by rw[hsz];exact hsrc) ua ua (growslice_fits ua (by rw[hby,tJ];exact hb));rw[<-hex,tJ]at J;have hcap:=grownCap_ge w rows2.length 0 el
  refine fin J (λb' U=>z1 w.drew _ b' U) ue rfl rfl rfl (λb' U=>?_) ⟨some ⟨w.heap.size,0,none⟩,grownCap w rows2.length 0 el,by rw[zo],hcap,(by have:=grownCap_le_maxLen w rows2.length 0 el (by unfold maxLen;omega);unfold maxLen at this;omega),.inr
   ⟨w.heap.size,0,_,el,(0,0),rfl,zJ w.drew _,λi _=>by simp,?_,?_⟩⟩ rfl
  ·simp only[Bk,blk,ui]at U;omega
  ·simp only[qU,qg,tM,size_zeroCells,hzs,hzl,hnl,tJ];rw[<-tS]
   simp_all
  ·refine RowsIn.yb (ρ:=ρ) (cs:=news) hlen2 hnews λj c hj=>?_
   grind
end
variable {C:Ctx}{Q:Exit->St->Prop}{all:Array Oper}{rest:List Oper}{tab:Tab}
variable {b:Bool}{te:TypeId}
section
variable {ty:TypeId} {t':TypeId}
theorem zo5(w:World)(J:P.underlying t=some (.pointer te))(a:Option Addr):(binOp .neq t (.pointer a) (.pointer none)).run P w= .ok (.bool (!a.isNone)) w:=by
 have h: ∀d:Nat,(Op.equalIn (d+1) t (.pointer a) (.pointer none)).run P w= .ok a.isNone w:=λd=>by
  cases a<;>simp[Op.equalIn,run_underlying J]
 simp only[binOp];simp[Op.equal,Op.maxDepth,h 9999]
def ptrB:S->Option Bool
 | .one (.bx _ _)=>some false
 | .one (.p (.k (.pointer none)))=>some true
 |_=>none
theorem zsF{st:St}{M:Mem}{ρ:Nat->Value}{a:Act}{w:World}{s:S}{v:Value}(hH:Holds C st M ρ a w)(J:ptrB s=some b)(hr:RepS M ρ s v): ∃q:Option Addr,v= .pointer q/\q.isNone=b:=by
 unfold ptrB at J;split at J
 ·simp only[RepS,RepV]at hr
  grind
 ·simp only[RepS,RepV,RepPV]at hr
  simp_all
 ·cases J
theorem zvh{s:S}(U:okc x s)(hs:ptrB s=some b)(hp:P.underlying t=some (.pointer te)):
 Snd P ⟨d,.binOp .neq t x (.const (.pointer none)) t',ty,ps,af,g⟩ (rq x s) [] [] (Bo (!b)) []:=
 zi λC st M ρ a w J h1 _=>by
  obtain⟨q,e1,rfl⟩:=zsF J hs (J.evS (zq U h1));have hc:a.eval (.const (.pointer none))= .pointer none:=rfl;have hg:(eqGuard .neq t x (.const (.pointer none)) (.pointer q) (.pointer none)).run P w= .ok () w:=by cases q<;>rfl
  exact⟨.bool (!q.isNone),by simp only[execOp,e1,hc,Sem.run_bind,hg,zo5 w hp,Result.andThen_ok,Sem.run_pure],by simp only[RepS,RepV,RepPV];exact⟨uh,rfl⟩⟩
end
section
variable {k:List Frm} {n:Nat} {sl:zb}
theorem zum{d:Nat}{t' ty:TypeId}{g0:Option (Nat×Bool)}{gs:zb}{md:Mode}(hC:C.low){s:S}(J:ev sl x=some s)(U:ptrB s=some b)(hp:P.underlying t=some (.pointer te))(hm:metL all sl g0=some gs)(hd:Nat.blt d n=true)
 (g:Goal P C (.ops all rest (nx md ⟨some d,gs++rq x s,[],[],Bo (!b),[]⟩)) k n ((d,Bo (!b))::sl) tab Q):
 Goal P C (.ops all (⟨some d,.binOp .neq t x (.const (.pointer none)) t',ty,ps,af,g0⟩::rest) md) k n sl tab Q:=
 gDo hC hm (zvh (t':=t') (ev1 J) U hp) (ev2 J) trivial rfl hd g
end
end Hw
namespace Hw.Gm
open Go Go.Proofs Hw.M Ps Tryz
variable {d:zf}
theorem zjp(h:zcr d=none): ∀(i:Nat) (b:Bd),d.bounds[i]?=some b-> ∃p,zew d b.p=some p:=by
 unfold zcr at h;have orN: ∀ {a b:Ft},orF a b=none->a=none/\b=none:=λ{a b} h=>by cases a<;>simp_all[orF]
 have h4:=(orN (orN (orN h).2).2).2
 have key: ∀(l:List Bd) (k:Nat),firstF (λ(b:Bd) i=>if(zew d b.p).isSome=false then some (b.p, -1,9)else if twB (d.bounds.map (·.p)) i=true then some (b.p, -1,10)else none) l k=none-> ∀b∈l,(zew d b.p).isSome=true:=λl=>by
  induction l with
  |nil=>intro k _ b J;cases J
  |cons x r ih=>
   intro k h b J;simp only[firstF]at h;cases hx:(zew d x.p).isSome with
   |false=>rw[hx]at h;simp at h
   |true=>
    rcases uF.1 J with rfl|J
    ·exact hx
    ·split at h
     ·cases h
     ·exact ih _ h b J
 intro i b J;have:=key d.bounds 0 h4 b (uv J);cases e:zew d b.p with
 |none=>rw[e]at this;cases this
 |some p=>exact⟨p,rfl⟩
theorem zl4(d:zf)(hd:vf d)(hform:zcr d=none):zsE 124 d (zaR d):=by
 show zh _ _ _ _ _ _;unfold zaR;have q0:d.globals.length<=1099511627776:=by have:=hd.gl;omega
 generalize hA0:firstF (λ(m:Ms) _=>yZ d (zbe d m.t) m.n m.x (⟨#[105,110,116]⟩:UI)) d.measures 0=A;generalize hB0:firstF (λ(m:Iv) _=>yZ d (zbe d m.t) m.n m.x (⟨#[98,111,111,108]⟩:UI)) d.invs 0=B;generalize hE0:firstF (λ(m:Pt) _=>yZ d (zbe d m.t) (⟨#[112,111,116,101,110,116,105,97,108]⟩:UI) m.x (⟨#[105,110,116]⟩:UI)) d.pots 0=E;generalize hG0:firstF (λ(b:Bd) _=>yZ d (ztE d b.p) b.p b.x (⟨#[105,110,116]⟩:UI)) d.bounds 0=G;refine gFo func124 λC hC=>?_;have q1:=hd.ms;have q2:=hd.iv;have q3:=hd.pt;have q4:=hd.bd
 repeat' first|refine gG ?_|refine gB ?_ ?_<;>intro h
 rw[uj]
 refine zj (λi:Nat=>i<=d.measures.length/\firstF (λ(m:Ms) _=>yZ d (zbe d m.t) m.n m.x (⟨#[105,110,116]⟩:UI)) (d.measures.drop i) i=A) (λi=>([(0,.one (.bx 0 0)),(19,pS (.sl 7 (d.measures.map yA))),(20,I d.measures.length),(21,I i)],tb (ckR d 0 1 2))) (λi=>d.measures.length - i) hC
  0 ⟨uD _,hA0⟩ id gM ?_
 clear hA0;intro i ⟨hi,J⟩;refine gLc ?_ ?_<;>intro h
 ·have hlt:i<d.measures.length:=by simpa using h
  clear h;obtain⟨x,hx⟩:=za hlt;rw[yY hx]at J;obtain⟨V,hV,hS⟩:=zap d x.t q0;have hT:=zbl hd hV x.n x.x (⟨#[105,110,116]⟩:UI) (hd.msx x (uv hx));generalize yZ d (zbe d x.t) x.n x.x (⟨#[105,110,116]⟩:UI)=F at hT J;cases F with
  |none=>
   simp only[ftS,ftR,uV]at hT;simp only[orF]at J
   repeat' first|refine gG ?_|exact gD|refine gB ?_ ?_<;>intro h|refine gX ?_|refine gPt ?_|refine gR hS iu ?_|refine gR hT iu ?_
   rw[wK ua];exact zg (i+1) ⟨ua,J⟩ id ua gM
  |some f=>
   simp only[ftS,ftR]at hT;simp only[orF]at J;subst J
   repeat' first|refine gG ?_|exact gD|refine gB ?_ ?_<;>intro h|refine gX ?_|refine gPt ?_|refine gR hS iu ?_|refine gR hT iA ?_|refine zk ?_
   exact gFl (mvL [(5,105)]) rfl (.refl _)
 have U: ¬i<d.measures.length:=by simpa using h
 clear h;rw[yy U]at J;subst J;clear hi U
 repeat' first|refine gG ?_|refine gB ?_ ?_<;>intro h|refine zd ?_
 rw[uj]
 refine zj (λi:Nat=>i<=d.invs.length/\firstF (λ(m:Iv) _=>yZ d (zbe d m.t) m.n m.x (⟨#[98,111,111,108]⟩:UI)) (d.invs.drop i) i=B) (λi=>([(0,.one (.bx 0 0)),(42,pS (.sl 6 (d.invs.map zp0))),(43,I d.invs.length),(44,I i)],tb (ckR d 0 1 2))) (λi=>d.invs.length - i) hC
  0 ⟨uD _,hB0⟩ id gM ?_
 clear hB0;intro i ⟨hi,J⟩;refine gLc ?_ ?_<;>intro h
 ·have hlt:i<d.invs.length:=by simpa using h
  clear h;obtain⟨x,hx⟩:=za hlt;rw[yY hx]at J;obtain⟨V,hV,hS⟩:=zap d x.t q0;have hT:=zbl hd hV x.n x.x (⟨#[98,111,111,108]⟩:UI) (hd.ivx x (uv hx));generalize yZ d (zbe d x.t) x.n x.x (⟨#[98,111,111,108]⟩:UI)=F at hT J;cases F with
  |none=>
   simp only[ftS,ftR,uV]at hT;simp only[orF]at J
   repeat' first|refine gG ?_|exact gD|refine gB ?_ ?_<;>intro h|refine gX ?_|refine gPt ?_|refine gR hS iu ?_|refine gR hT iu ?_
   rw[wK ua];exact zg (i+1) ⟨ua,J⟩ id ua gM
  |some f=>
   simp only[ftS,ftR]at hT;simp only[orF]at J;subst J
   repeat' first|refine gG ?_|exact gD|refine gB ?_ ?_<;>intro h|refine gX ?_|refine gPt ?_|refine gR hS iu ?_|refine gR hT iA ?_|refine zk ?_
   exact gFl (mvL [(5,105)]) rfl (.refl _)
 have U: ¬i<d.invs.length:=by simpa using h
 clear h;rw[yy U]at J;subst J;clear hi U
 repeat' first|refine gG ?_|refine gB ?_ ?_<;>intro h|refine zd ?_
 rw[uj]
 refine zj (λi:Nat=>i<=d.pots.length/\firstF (λ(m:Pt) _=>yZ d (zbe d m.t) (⟨#[112,111,116,101,110,116,105,97,108]⟩:UI) m.x (⟨#[105,110,116]⟩:UI)) (d.pots.drop i) i=E) (λi=>([(0,.one (.bx 0 0)),(65,pS (.sl 5 (d.pots.map zht))),(66,I d.pots.length),(67,I i)],tb (ckR d 0 1 2))) (λi=>d.pots.length - i) hC
  0 ⟨uD _,hE0⟩ id gM ?_
 clear hE0;intro i ⟨hi,J⟩;refine gLc ?_ ?_<;>intro h
 ·have hlt:i<d.pots.length:=by simpa using h
  clear h;obtain⟨x,hx⟩:=za hlt;rw[yY hx]at J;obtain⟨V,hV,hS⟩:=zap d x.t q0;have hT:=zbl hd hV (⟨#[112,111,116,101,110,116,105,97,108]⟩:UI) x.x (⟨#[105,110,116]⟩:UI) (hd.ptx x (uv hx));generalize yZ d (zbe d x.t) (⟨#[112,111,116,101,110,116,105,97,108]⟩:UI) x.x (⟨#[105,110,116]⟩:UI)=F at hT J;cases F with
  |none=>
   simp only[ftS,ftR,uV]at hT;simp only[orF]at J
   repeat' first|refine gG ?_|exact gD|refine gB ?_ ?_<;>intro h|refine gX ?_|refine gPt ?_|refine gR hS iu ?_|refine gR hT iu ?_
   rw[wK ua];exact zg (i+1) ⟨ua,J⟩ id ua gM
  |some f=>
   simp only[ftS,ftR]at hT;simp only[orF]at J;subst J
   repeat' first|refine gG ?_|exact gD|refine gB ?_ ?_<;>intro h|refine gX ?_|refine gPt ?_|refine gR hS iu ?_|refine gR hT iA ?_|refine zk ?_
   exact gFl (mvL [(5,105)]) rfl (.refl _)
 have U: ¬i<d.pots.length:=by simpa using h
 clear h;rw[yy U]at J;subst J;clear hi U
 repeat' first|refine gG ?_|refine gB ?_ ?_<;>intro h|refine zd ?_
 rw[uj]
 refine zj (λi:Nat=>i<=d.bounds.length/\firstF (λ(b:Bd) _=>yZ d (ztE d b.p) b.p b.x (⟨#[105,110,116]⟩:UI)) (d.bounds.drop i) i=G) (λi=>([(0,.one (.bx 0 0)),(86,pS (.sl 5 (d.bounds.map xZ))),(87,I d.bounds.length),(88,I i)],tb (ckR d 0 1 2))) (λi=>d.bounds.length - i) hC
  0 ⟨uD _,hG0⟩ id gM ?_
 clear hG0;intro i ⟨hi,J⟩;refine gLc ?_ ?_<;>intro h
 ·have hlt:i<d.bounds.length:=by simpa using h
  clear h;obtain⟨x,hx⟩:=za hlt;rw[yY hx]at J;obtain⟨p,hpr⟩:=zjp hform i x hx;have hg:=zdQ d x.p;rw[hpr]at hg;have hV:x9 (vsM [p.params] d.globals) (ztE d x.p):=by unfold ztE;rw[hpr];exact zfm d p
  have hS:=zjn d p q0 (hd.zwr p (qB hpr));have hT:=zbl hd hV x.p x.x (⟨#[105,110,116]⟩:UI) (hd.bdx x (uv hx));generalize yZ d (ztE d x.p) x.p x.x (⟨#[105,110,116]⟩:UI)=F at hT J;cases F with
  |none=>
   simp only[ftS,ftR,uV]at hT;simp only[orF]at J
   repeat' first|refine gG ?_|exact gD|refine gB ?_ ?_<;>intro h|refine gX ?_|refine gPt ?_|refine vo kS hC (et:=90) (c0:= .agg #[.string (⟨#[]⟩:UI),.slice none 0 0,.string (⟨#[]⟩:UI),.slice none 0 0,.slice none 0 0]) (.g [ks (⟨#[]⟩:UI),.k (.slice none 0 0),ks (⟨#[]⟩:UI),.k (.slice none 0 0),.k (.slice none 0 0)]) (pv:= .g (zD p)) rfl rfl rfl ud ud za1 (by rw[hg];rfl) rfl rfl ?_|refine gR hS iu ?_|refine gR hT iu ?_
   rw[wK ua];exact zg (i+1) ⟨ua,J⟩ id ua gM
  |some f=>
   simp only[ftS,ftR]at hT;simp only[orF]at J;subst J
   repeat' first|refine gG ?_|exact gD|refine gB ?_ ?_<;>intro h|refine gX ?_|refine gPt ?_|refine vo kS hC (et:=90) (c0:= .agg #[.string (⟨#[]⟩:UI),.slice none 0 0,.string (⟨#[]⟩:UI),.slice none 0 0,.slice none 0 0]) (.g [ks (⟨#[]⟩:UI),.k (.slice none 0 0),ks (⟨#[]⟩:UI),.k (.slice none 0 0),.k (.slice none 0 0)]) (pv:= .g (zD p)) rfl rfl rfl ud ud za1 (by rw[hg];rfl) rfl rfl ?_|refine gR hS iu ?_|refine gR hT iA ?_|refine zk ?_
   exact gFl (mvL [(5,105)]) rfl (.refl _)
 have U: ¬i<d.bounds.length:=by simpa using h
 clear h;rw[yy U]at J;subst J;clear hi U
 repeat' first|refine gG ?_|refine gB ?_ ?_<;>intro h|refine zd ?_
 exact gE
def remF(A B G D E:Ft)(k:Nat):Ft:=match k with
 |0=>orF A (orF B (orF G (orF D E)))
 |1=>orF B (orF G (orF D E))
 |2=>orF G (orF D E)
 |3=>orF D E
 |4=>orF E none
 |_=>none
theorem zsG(a:Ft):orF a none=a:=by cases a<;>rfl
def zyt:List Hw.V:=[.cl 120 [.bx 0 0] [],.cl 121 [.bx 0 0] [],.cl 122 [.bx 0 0] [],.cl 123 [.bx 0 0] [],.cl 124 [.bx 0 0] []]
theorem zdW(d:zf)(hd:vf d):zsE 82 d (zdq d):=by
 show zh _ _ _ _ _ _;have J:=zl1 d hd;have h2:=zo4 d hd;have h3:=zgP d hd;have h4:=zl2 d hd;have h5:zcr d=none->zsE 124 d (zaR d):=zl4 d hd;have J:zh _ _ _ _ _ _:=J;have h2:zh _ _ _ _ _ _:=h2;have h3:zh _ _ _ _ _ _:=h3;have h4:zh _ _ _ _ _ _:=h4;unfold zdq;generalize jJ d=A at J⊢;generalize zbI d=B at h2⊢;generalize jK d=D at h4⊢;generalize zaR d=E at h5⊢;generalize zcr d=G at h3 h5⊢;generalize hr0:orF A (orF B (orF G (orF D E)))=r;refine gFo func82 λC hC=>?_
 repeat' first|refine gG ?_|refine gB ?_ ?_<;>intro h|refine zfZ hC rfl rfl rfl rfl ?_|refine zrs T hC rfl rfl rfl rfl rfl rfl rfl rfl rfl rfl rfl ?_|refine zrt T hC rfl rfl rfl rfl ?_
 refine zj (λk:Nat=>k<=5/\(3<=k->G=none)/\remF A B G D E k=r) (λk=>([(16,.one (.bs 1016 0 5)),(17,I 5),(18,I k)],(1016,some (.box zyt))::tb (ckR d 0 1 2))) (λk=>5 - k) hC
  0 ⟨ub,λh=>absurd h ub,hr0⟩ id gM ?_
 clear hr0;intro k ⟨hk,hG,hr⟩;refine gLc ?_ ?_<;>intro h
 ·have hlt:(k:Int)<5:=uk h;clear h;have h6:4<=k->zh prog 124 [.one (.bx 0 0)] (ckR d 0 1 2) (ftS E) (ckR d 0 1 2++ftR E):=λh=>h5 (hG ua)
  clear h5;obtain rfl|rfl|rfl|rfl|rfl:k=0\/k=1\/k=2\/k=3\/k=4:=by omega
  ·simp only[remF]at hr;cases A with
   |none=>
    simp only[ftS,ftR,uV]at J;simp only[orF]at hr
    repeat' first|refine gG ?_|exact gD|refine gB ?_ ?_<;>intro h|refine gLb ?_|refine gPt ?_|refine gR J ic ?_
    exact zg 1 ⟨ub,λh=>absurd h ub,hr⟩ id ub gM
   |some f=>
    simp only[ftS,ftR]at J;simp only[orF]at hr;subst hr
    repeat' first|refine gG ?_|exact gD|refine gB ?_ ?_<;>intro h|refine gLb ?_|refine gPt ?_|refine gR J iA ?_|refine zk ?_
    exact gFl (mvL [(5,105)]) rfl (.refl _)
  ·simp only[remF]at hr;cases B with
   |none=>
    simp only[ftS,ftR,uV]at h2;simp only[orF]at hr
    repeat' first|refine gG ?_|exact gD|refine gB ?_ ?_<;>intro h|refine gLb ?_|refine gPt ?_|refine gR h2 ic ?_
    exact zg 2 ⟨ub,λh=>absurd h ub,hr⟩ id ub gM
   |some f=>
    simp only[ftS,ftR]at h2;simp only[orF]at hr;subst hr
    repeat' first|refine gG ?_|exact gD|refine gB ?_ ?_<;>intro h|refine gLb ?_|refine gPt ?_|refine gR h2 iA ?_|refine zk ?_
    exact gFl (mvL [(5,105)]) rfl (.refl _)
  ·simp only[remF]at hr;cases G with
   |none=>
    simp only[ftS,ftR,uV]at h3;simp only[orF]at hr
    repeat' first|refine gG ?_|exact gD|refine gB ?_ ?_<;>intro h|refine gLb ?_|refine gPt ?_|refine gR h3 ic ?_
    exact zg 3 ⟨ub,λ_=>rfl,hr⟩ id ub gM
   |some f=>
    simp only[ftS,ftR]at h3;simp only[orF]at hr;subst hr
    repeat' first|refine gG ?_|exact gD|refine gB ?_ ?_<;>intro h|refine gLb ?_|refine gPt ?_|refine gR h3 iA ?_|refine zk ?_
    exact gFl (mvL [(5,105)]) rfl (.refl _)
  ·have U:=hG ub;simp only[remF]at hr;cases D with
   |none=>
    simp only[ftS,ftR,uV]at h4;simp only[orF]at hr
    repeat' first|refine gG ?_|exact gD|refine gB ?_ ?_<;>intro h|refine gLb ?_|refine gPt ?_|refine gR h4 ic ?_
    exact zg 4 ⟨ub,λ_=>U,by simp only[remF,zsG];exact hr⟩ id ub gM
   |some f=>
    simp only[ftS,ftR]at h4;simp only[orF]at hr;subst hr
    repeat' first|refine gG ?_|exact gD|refine gB ?_ ?_<;>intro h|refine gLb ?_|refine gPt ?_|refine gR h4 iA ?_|refine zk ?_
    exact gFl (mvL [(5,105)]) rfl (.refl _)
  ·have U:=hG ub;have h6:=h6 ub;simp only[remF]at hr;cases E with
   |none=>
    simp only[ftS,ftR,uV]at h6;simp only[orF]at hr
    repeat' first|refine gG ?_|exact gD|refine gB ?_ ?_<;>intro h|refine gLb ?_|refine gPt ?_|refine gR h6 ic ?_
    exact zg 5 ⟨ub,λ_=>U,hr⟩ id ub gM
   |some f=>
    simp only[ftS,ftR]at h6;simp only[orF]at hr;subst hr
    repeat' first|refine gG ?_|exact gD|refine gB ?_ ?_<;>intro h|refine gLb ?_|refine gPt ?_|refine gR h6 iA ?_|refine zk ?_
    exact gFl (mvL [(5,105)]) rfl (.refl _)
 have hk5:k=5:=by have h9: ¬(k:Int)<5:=uo h;omega
 subst hk5;simp only[remF]at hr;subst hr
 repeat' first|refine gG ?_|refine gB ?_ ?_<;>intro h|refine zd ?_
 exact gE
def zcl(d:zf):Str×Int×Int:=if ye d=false then((⟨#[]⟩:UI),0,1)else zwj d
theorem zl5(d:zf)(U:ye d=true->vf d):zh prog 49 [zn (zr d)] [] (.tup [Sr (zcl d).1,I (zcl d).2.1,I (zcl d).2.2]) []:=by
 have hV:=wx d;unfold zcl;cases hv:ye d with
 |false=>
  rw[hv]at hV;rw[uw rfl];refine gFo func49 λC hC=>?_
  repeat' first|refine gG ?_|exact gD|refine gB ?_ ?_<;>intro h|refine gC hV ?_|refine zd ?_
  exact gF
 |true=>
  rw[hv]at hV;rw[ur ue];have U:=U hv;have hN:=vF d (by have:=U.ty;omega) (by have:=U.pr;omega);have J:zh _ _ _ _ _ _:=zdW d U;unfold zwj;cases hc:zdq d with
  |none=>
   rw[hc]at J;simp only[ftS,ftR,uV]at J;refine gFo func49 λC hC=>?_
   repeat' first|refine gG ?_|exact gD|refine gB ?_ ?_<;>intro h|refine gC hV ?_|refine gR hN il ?_|refine gR J il ?_|refine gPt ?_|refine zd ?_
   exact gF
  |some f=>
   rw[hc]at J;simp only[ftS,ftR]at J;refine gFo func49 λC hC=>?_
   repeat' first|refine gG ?_|exact gD|refine gB ?_ ?_<;>intro h|refine gC hV ?_|refine gR hN il ?_|refine gR J iW ?_|refine gPt ?_|refine zd ?_
   exact gF
theorem zc0: ∀(l:List Ex) (d n:Int),0<=n->countL l d n<=1000-> ∀x∈l,countS x (d+1)<=1000
 | [],_,_,_,_,x,J=>by cases J
 |e::es,d,n,h0,h,x,J=>by
  simp only[countL]at h;have hb:=(xP e (d+1)).1;split at h
  ·omega
  ·rcases uF.1 J with rfl|J
   ·omega
   ·exact zc0 es d _ ua h x J
theorem zo6{e:Ex}(h:vM e=true):arB e.op e.l.length/\e.l.length<=1000000:=by
 unfold vM at h;simp only[um,ux,qa,uu,uq,uE]at h;obtain⟨⟨⟨⟨J,h2⟩,h3⟩,_⟩,_⟩:=h;unfold zS at J h2 h3;simp only[uJ,um,uq]at J h2 h3;refine⟨⟨λh=>?_,λh=>?_,λh=>?_⟩,?_⟩
 ·rw[h]at J h2 h3;simp at J h2 h3;omega
 ·rcases h with h|h<;>(rw[h]at J h2 h3;simp at J h2 h3;omega)
 ·rw[h]at J h2 h3;simp at J h2 h3;omega
 ·split at h2
  ·simp at h2;rw[h2];simp
  ·split at h2
   ·simp at h2;omega
   ·split at h2
    ·rename_i U;rw[U]at h3;simp at h3;omega
    ·split at h2
     ·simp at h2;omega
     ·split at h2
      ·simp at h2;omega
      ·rename_i k1 k2 k3 k4 k5;rw[ur k1,ur k2,ur k3,ur k4,ur k5]at J;exact absurd rfl J
mutual
theorem zqy: ∀(e:Ex) (d:Int),countS e d<=1000->exG e
 | .mk op n s l,d,h=>by
   simp only[countS]at h;split at h
   ·omega
   ·rename_i hn;simp only[uJ,uq,ux,oW,qD]at hn;have ha:=zo6 hn.2;simp only[exG];exact⟨ha.1,ha.2,zl6 l (d+1) (zc0 l d 1 ua h)⟩
theorem zl6: ∀(l:List Ex) (d:Int),(∀x∈l,countS x d<=1000)->exGs l
 | [],_,_=>trivial
 |x::r,d,h=>by
  simp only[exGs];exact⟨zqy x d (h x ue),zl6 r d λy hy=>h y (u3 _ hy)⟩
end
theorem zc1{e:Ex}(h:y2 e=true):exG e:=zqy e 1 (uk h)
theorem xj{s:Sm}{lo J:Int}(h:wD s lo J=true):lo<=s.e.length/\(s.e.length:Int)<=J/\ ∀y∈s.e,exG y:=by
 unfold wD at h;simp only[um,ux,uu,List.all_eq_true]at h;exact⟨ua,ua,λy U=>zc1 (h.2 y U)⟩
theorem zjq{s:Sm}(h:vJ s=true):smA s/\ ∀y∈s.e,exG y:=by
 unfold vJ zhF at h;unfold smA;split at h
 ·simp only[um]at h;have:=xj h.1.2;exact⟨⟨ua,ua,ua,ua,ua⟩,this.2.2⟩
 ·split at h
  ·simp only[um]at h;have:=xj h.1.2;exact⟨⟨ua,ua,ua,ua,ua⟩,this.2.2⟩
  ·split at h
   ·simp only[um]at h;have:=xj h.2;exact⟨⟨ua,ua,ua,ua,ua⟩,this.2.2⟩
   ·split at h
    ·simp only[um]at h;have:=xj h.1.2;exact⟨⟨ua,ua,ua,ua,ua⟩,this.2.2⟩
    ·split at h
     ·simp only[um]at h;have:=xj h.1.2;exact⟨⟨ua,ua,ua,ua,ua⟩,this.2.2⟩
     ·split at h
      ·simp only[um]at h;have:=xj h.1.1.2;exact⟨⟨ua,ua,ua,ua,ua⟩,this.2.2⟩
      ·cases h
theorem zqz(l:List Sm)(d:Int):0<=stL l d 0:=(y6 l d 0 ua ua).1
theorem zdX: ∀l:List Sm,l.length<=wH l
 | []=>uM _
 |x::r=>by
  have:=zdX r;have h1:1<=znJ x:=by cases x;simp only[znJ];omega
  simp only[uX,wH];omega
mutual
theorem zvi: ∀(s:Sm) (d n:Int),0<=n->stN s d n<=200->smG s/\n+znJ s<=stN s d n
 | .mk op k e l els,d,n,h0,h=>by
   simp only[stN]at h⊢;split at h
   ·omega
   ·rename_i hn;rw[ur hn];simp only[uJ,uq,ux,oW,qD]at hn;have hs:=zjq hn.2;have b1:=zqz l (d+1);have b2:=zqz els (d+1);unfold zex at h⊢;by_cases hc:n+1<=200
    ·rw[uw hc]at h⊢;by_cases hc2:n+1+stL l (d+1) 0<=200
     ·rw[uw hc2]at h⊢;have i1:=zdY l (d+1) 0 ua ua;have i2:=zdY els (d+1) 0 ua ua;have c1:=zdX l;have c2:=zdX els;simp only[smG,znJ];exact⟨⟨hs.2,hs.1,ua,ua,i1.1,i2.1⟩,ua⟩
     ·rw[ur hc2]at h;omega
    ·rw[ur hc,ur hc]at h;omega
theorem zdY: ∀(l:List Sm) (d n:Int),0<=n->stL l d n<=200->smGs l/\n+wH l<=stL l d n
 | [],d,n,_,h=>⟨uh,by simp only[stL,wH];omega⟩
 |x::r,d,n,h0,h=>by
  simp only[stL]at h⊢;split at h
  ·omega
  ·rename_i hx;rw[ur hx];have i1:=zvi x d n h0 ua;have i2:=zdY r d _ ua h;simp only[smGs,wH];exact⟨⟨i1.1,i2.1⟩,ua⟩
end
theorem jr(h:ye d=true):vf d:=by
 unfold ye jl yv at h;simp only[um,ux,uu,List.all_eq_true]at h;obtain⟨⟨⟨hp,ht⟩,J⟩,⟨⟨hm,hi⟩,U⟩,hb⟩:=h
 have fl: ∀ {l:List Fld} {k:Int},xb l k=true->(l.length:Int)<=k:=λ{l k} h=>by
  unfold xb at h;simp only[um,uq]at h;exact h.1
 have hg:=fl hp.1.1.1.1.1.2
 have pr: ∀p∈d.procs,(p.params.length:Int)<=6/\(p.locs.length:Int)<=12/\stL p.body 1 0<=200:=λp h=>by
  have:=J p h;unfold j8 at this;simp only[um,uq]at this;exact⟨fl this.1.1.1.2,fl this.1.1.2,this.2⟩
 have bd: ∀p∈d.procs,smGs p.body/\(wH p.body:Int)<=200:=λp h=>by
  have:=zdY p.body 1 0 ua (pr p h).2.2;exact⟨this.1,by have:=(pr p h).2.2;omega⟩
 refine⟨ua,ua,ua,ua,ua,ua,ua,λx hx=>?_,λp h=>by have:=(pr p h).1;omega,λp h=>by have:=(pr p h).2.1;omega,λp h=>?_,λp h=>(bd p h).1,λp h=>by have:=(bd p h).2;omega,λm h=>?_,λm h=>?_,λm h=>?_,λm h=>?_⟩
 ·have:=ht x hx;unfold zaT at this;simp only[um]at this;have:=fl this.2;omega
 ·have:=(bd p h).2;have:=zdX p.body;omega
 ·have:=hm m h;unfold vW at this;simp only[um]at this;exact zc1 this.2
 ·have:=hi m h;unfold zbJ at this;simp only[um]at this;exact zc1 this.2
 ·have:=U m h;unfold zbK at this;simp only[um]at this;exact zc1 this.2
 ·have:=hb m h;unfold zbL at this;simp only[um]at this;exact zc1 this.2
theorem zbm(d:zf):zh prog 49 [zn (zr d)] [] (.tup [Sr (zcl d).1,I (zcl d).2.1,I (zcl d).2.2]) []:=zl5 d jr
theorem zws(h:ye d=true)(h2:zdq d≠none):zh prog 132 [zn (zr d),Bo true] [] (.tup [.one (.p (.k (.pointer none))),I 13]) []:=by
 have hV:=wx d;rw[h]at hV;have J:=jr h;have hN:=vF d (by have:=J.ty;omega) (by have:=J.pr;omega);have U:zh _ _ _ _ _ _:=zdW d J;cases hc:zdq d with
 |none=>exact absurd hc h2
 |some f=>
  rw[hc]at U;simp only[ftS,ftR]at U;refine gFo func132 λC hC=>?_
  repeat' first|refine gG ?_|exact gD|refine gB ?_ ?_<;>intro h|refine gC hV ?_|refine gR hN il ?_|refine gR U iW ?_|refine gPt ?_|refine zd ?_
  exact gF
theorem zo7(h:ye d=true)(h2:zdq d=none):zh prog 132 [zn (zr d),Bo true] [] (.tup [.one (.bx 0 0),I 0]) (ckR d 0 1 2):=by
 have hV:=wx d;rw[h]at hV;have J:=jr h;have hN:=vF d (by have:=J.ty;omega) (by have:=J.pr;omega);have U:zh _ _ _ _ _ _:=zdW d J;rw[h2]at U;simp only[ftS,ftR,uV]at U;refine gFo func132 λC hC=>?_
 repeat' first|refine gG ?_|exact gD|refine gB ?_ ?_<;>intro h|refine gC hV ?_|refine gR hN il ?_|refine gR U il ?_|refine gPt ?_|refine zd ?_
 exact gW [100,101,102]
theorem zgR(h:ye d=true)(h2:zdq d=none)(t:Str)(e:Ex)(he:y2 e=true)(J:t=(⟨#[]⟩:UI)\/yE d t=true):
 zh prog 92 [zn (zr d),Sr t,zn (yg e)] [] (.tup [Sr (exT d (zbe d t) false e).1,I (exT d (zbe d t) false e).2]) []:=by
 have U:=yP e;rw[he]at U;have hW:=zo7 h h2;have hd:=jr h;have hN:=jT d t;obtain⟨V,hV,hS⟩:=zap d t (by have:=hd.gl;omega);have hX:zh _ _ _ _ _ _:=zbk false hd.zwr hV hd.zxh e (zc1 he);refine gFo func92 λC hC=>?_;by_cases h0:t=(⟨#[]⟩:UI)
 ·repeat' first|refine gG ?_|exact gD|(exfalso;simp[h0]at h;done)|refine gB ?_ ?_<;>intro h|refine gC U ?_|refine gR hW il ?_|refine gR hN il ?_|refine gR hS iG ?_|refine gR hX iG ?_|refine zd ?_
  exact gF
 ·have hn:yE d t=true:=by rcases J with J|J;exact absurd J h0;exact J
  rw[hn]at hN
  repeat' first|refine gG ?_|exact gD|(exfalso;simp[h0]at h;done)|refine gB ?_ ?_<;>intro h|refine gC U ?_|refine gR hW il ?_|refine gR hN il ?_|refine gR hS iG ?_|refine gR hX iG ?_|refine zd ?_
  exact gF
def zej(d:zf)(m:Hp)(fuel:Int):Int:=if(zcl d).2.2≠0\/zQ d m=false then 1 else if fuel<0\/1048576<fuel then 2 else 0
theorem zdZ(d:zf)(m:Hp)(fuel:Int):zh prog 127 [zn (zr d),zn (yp m),I fuel] [] (I (zej d m fuel)) []:=by
 have J:=zbm d;have hV:=yO d m
 have U:zej d m fuel=bif !decide ((zcl d).2.2=0)then 1 else bif !zQ d m then 1 else bif decide (fuel<0)then 2 else bif decide (1048576<fuel)then 2 else 0:=by
  unfold zej;by_cases h1:(zcl d).2.2=0<;>cases zQ d m<;>by_cases h3:fuel<0<;>by_cases h4:1048576<fuel<;>simp[h1,h3,h4]
 rw[U];clear U;generalize zcl d=q at J⊢;generalize hr:(bif !decide (q.2.2=0)then(1:Int)else bif !zQ d m then 1 else bif decide (fuel<0)then 2 else bif decide (1048576<fuel)then 2 else 0)=r;refine gFo func127 λC hC=>?_
 repeat' first|refine gG ?_|refine gB ?_ ?_<;>intro h|refine gC J ?_|refine gC hV ?_|refine zd ?_
 all_goals (simp only[*,Un,oX]at hr;subst hr;exact gF)
abbrev zxi:S:= .one (.p (.k (.pointer none)))
variable {c:Cl}{m:Hp}
theorem zo8(hw:zgG d m)(J:za6 d m c≠0)(fuel:Int):
 zh prog 128 [zn (zr d),.agg [.ar 1,.ar 2],zn (yf c),I fuel] (zjT m 1 2 3) (.tup [zxi,.agg (zh6 0 0 0 0),I (za6 d m c)]) []:=by
 have U:=zlH hw J;generalize za6 d m c=e at U J⊢;refine gFo func128 λC hC=>?_
 repeat' first|refine gG ?_|(exfalso;simp[J]at h;done)|refine gB ?_ ?_<;>intro h|refine gR U iq ?_|refine zd ?_
 exact gF
theorem kl2:WideMaps.KeyLaw prog 308:=deep_law (m:=2) ub ud ud ud
def zo9(q:K2):Value:= .agg #[.int .i64 (q.1.val:Int),.int .i64 (q.2.val:Int)]
theorem zwt(q:K2): ∃l,keyOf prog 308 (zo9 q)=some l:=by
 have U:=underlying308;have h3:=underlying3;have hc:Program.cellsOf prog 308=2:=by kernel_rfl
 have J:Program.cellsOf prog 3=1:=by kernel_rfl
 have hk:Program.keyType prog 308=true:=by kernel_rfl
 have hp:Nat.blt 0 prog.types.size=true:=by kernel_rfl
 have hp0:0<prog.types.size:=by simpa [tH]using hp
 obtain⟨n,hn⟩: ∃n,prog.types.size=n+1:=⟨prog.types.size - 1,ua⟩;have m1:IntKind.i64.min= -9223372036854775808:=by decide
 have m2:IntKind.i64.max=9223372036854775807:=by decide
 have w1:(Lit.int .i64 (q.1.val:Int)).wf=true:=by have:=q.1.isLt;simp only[Lit.wf,um,uq,m1,m2];omega
 have w2:(Lit.int .i64 (q.2.val:Int)).wf=true:=by have:=q.2.isLt;simp only[Lit.wf,um,uq,m1,m2];omega
 unfold keyOf;rw[U,hn];simp[zo9,Value.formed,Value.cells,U,hc,hk,Program.keyLits,h3,J,w1,w2]
noncomputable def k2G:zdl prog 308 K2 where
 enc:=zo9
 s:=λq=> .agg [.p (ki (q.1.val:Int)),.p (ki (q.2.val:Int))]
 rep:=λ{M ρ k v} hr=>by
  simp only[RepS]at hr;obtain⟨cs,rfl,h⟩:=hr
  match cs,h with
  | [a,b],h=>
    simp only[RepVs,RepV,RepPV]at h;rw[h.1.1,h.2.1.1];rfl
 inj:=λ{a b} e=>by
  simp only[zo9,Value.agg.injEq]at e;have:[Value.int .i64 (a.1.val:Int),Value.int .i64 (a.2.val:Int)]=[Value.int .i64 (b.1.val:Int),Value.int .i64 (b.2.val:Int)]:=u7 Array.toList e;simp only[qC,Value.int.injEq,Uq,qn]at this;exact Ur (Fin.ext ua) (Fin.ext ua)
 check:=λw em k=>let ⟨l,h⟩:=zwt k;kl2.check w em h
 find:=λw k es hes=>by
  obtain⟨l,h⟩:=zwt k
  exact kl2.find w h es λe he=>by
   obtain⟨k',e2⟩:=hes e he;obtain⟨l',h'⟩:=zwt k';exact⟨l',by rw[e2];exact h'⟩
 stays:=λw k=>let ⟨l,h⟩:=zwt k;kl2.stays w h
noncomputable abbrev mpK(l:List (K2×EV)):Res:= .mpg (yn k2G l)
noncomputable abbrev imR(d:zf)(m:Hp)(k:Kn)(a b c:Nat):RL:=[(a,.box ((zr d).map V.p++((yp m).map V.p++[.mp b,.mp c]))),(b,mpK k.kn),(c,mpK k.bu)]
theorem zpa(h:(zcl d).2.2≠0\/zQ d m=false):zh prog 89 [zn (zr d),zn (yp m)] [] (.tup [.one (.p (.k (.pointer none))),I 1]) []:=by
 have J:=zbm d;have U:=yO d m;generalize zcl d=q at J h;refine gFo func89 λC hC=>?_
 repeat' first|refine gG ?_|refine gB ?_ ?_<;>intro h|refine gC J ?_|refine gC U ?_|refine zd ?_
 all_goals first
  |exact gF
  |(exfalso;simp only[ux,uE,uq,uu]at *; simp_all)
theorem zl7(h:(zcl d).2.2=0)(h2:zQ d m=true):zh prog 89 [zn (zr d),zn (yp m)] [] (.tup [.one (.bx 0 0),I 0]) (imR d m ⟨[],[]⟩ 0 1 2):=by
 have J:=zbm d;have U:=yO d m;rw[h2]at U;generalize zcl d=q at J h;obtain⟨q1,q2,q3⟩:=q;simp only at h J;subst h;refine gFo func89 λC hC=>?_
 repeat' first|refine gG ?_|exact gD|refine gB ?_ ?_<;>intro h|refine gC J ?_|refine gC U ?_|refine zdo k2G hC rfl rfl rfl ?_
 exact gW [1028,1025,1026]
def isB(m:Hp)(n:Int):Bool:=decide (0<=n)&&decide (n<=m.n.length)
theorem zqA(d:zf)(m:Hp)(k:Kn)(n:Int):zh prog 91 [.one (.bx 0 0),I n] (imR d m k 0 1 2) (.bq (isB m n)) (imR d m k 0 1 2):=by
 generalize hr:isB m n=r;unfold isB at hr;rw[show(m.n.length:Int)=((m.n.map wy).length:Int) by rw[uj]]at hr;refine gFo func91 λC hC=>?_
 repeat' first|refine gG ?_|refine gB ?_ ?_<;>intro h|refine zd ?_
 all_goals (simp only[*,tn,tP]at hr;subst hr;exact zK ⟨.inl rfl,id,_,rfl,by first|exact .refl _|exact LeS.qb rfl,⟨rfl,rfl,rfl,uh⟩,rfl,rfl⟩)
theorem zjr(x:Ms)(s:Str):zh prog 201 [zn (yA x),.one (.bx 0 0)] [(0,.box [.p (ks s)])] (.bq (decide (x.n=s))) [(0,.box [.p (ks s)])]:=by
 refine gFo func201 λC hC=>?_
 repeat' first|refine gG ?_|refine gB ?_ ?_<;>intro h|refine zd ?_
 exact gE
theorem zfn(d:zf)(m:Hp)(k:Kn)(s:Str):zh prog 141 [.one (.bx 0 0),Sr s] (imR d m k 0 1 2) (I (idxI (zp8 d s))) (imR d m k 0 1 2):=by
 have J:=zfi 201 d.measures (λx _=>decide (x.n=s)) (λ_ s=>s) (λc=>c=s) (λx hx c U=>⟨by subst U;exact zjr x c,λ_=>U⟩) s rfl;rw[yR]at J;refine gFo func141 λC hC=>?_
 repeat' first|refine gG ?_|refine gB ?_ ?_<;>intro h|refine gR J iy ?_|refine zd ?_
 exact gE
theorem zl8(x:Fld)(s:Str):zh prog 198 [zn (zB x),.one (.bx 0 0)] [(0,.box [.p (ks s)])] (.bq (decide (x.n=s))) [(0,.box [.p (ks s)])]:=by
 refine gFo func198 λC hC=>?_
 repeat' first|refine gG ?_|refine gB ?_ ?_<;>intro h|refine zd ?_
 exact gE
noncomputable def bE(d:zf)(m:Hp):Bn->End
 | .ok v k=> .ok (I v) (imR d m k 0 1 2)
 | .flt e k=> .pn (flI e) (imR d m k 0 1 2)
 | .out=> .no
theorem zpb(d:zf)(m:Hp)(k:Kn)(s:Str)(nd:Int):FnX prog 138 [.one (.bx 0 0),Sr s,I nd] (imR d m k 0 1 2) (bE d m (namI d m nd s k)):=by
 have J:=jo 198 d.globals (λx _=>decide (x.n=s)) (λ_ s=>s) (λc=>c=s) (λx hx c hc=>⟨by subst hc;exact zl8 x c,λ_=>hc⟩) s rfl;rw[yR]at J;unfold namI;by_cases U:s=(⟨#[116,104,105,115]⟩:UI)
 ·rw[uw U];refine gFo func138 λC hC=>?_
  repeat' first|refine gG ?_|(exfalso;simp[U]at h;done)|refine gB ?_ ?_<;>intro h|refine zd ?_
  exact gE
 ·rw[ur U];have hix:d.globals.findIdx? (λx=>decide (x.n=s))=ixF d.globals s:=rfl;rw[hix]at J;cases hx:ixF d.globals s with
  |none=>trivial
  |some i=>
   rw[hx]at J;simp only[idxI]at J;cases hg:m.g[i]? with
   |none=>simp only[hg];trivial
   |some v=>
    simp only[hg];refine gFo func138 λC hC=>?_
    repeat' first|refine gG ?_|(exfalso;simp[U]at h;done)|refine gB ?_ ?_<;>intro h|refine gR J iC ?_|refine gIt (zl hg) ?_|refine zd ?_
    exact gE
structure xo (m:Hp):Prop where
 g:m.g.length<=1000000
 n:m.n.length<=1000000
 f: ∀x∈m.n,x.f.length<=1000000
variable {fuel:Int}
theorem zgS(h:zej d m fuel≠0)(c:Cl):
 zh prog 86 [zn (zr d),zn (yp m),zn (yf c),I fuel] [] (.tup [zxi,.agg (zh6 0 0 0 0),I (zej d m fuel)]) []:=by
 have J:=zdZ d m fuel;generalize zej d m fuel=e at J h⊢;refine gFo func86 λC hC=>?_
 repeat' first|refine gG ?_|(exfalso;simp at h;simp_all;done)|refine gB ?_ ?_<;>intro h|refine gC J ?_|refine zd ?_
 exact gF
theorem zfo(J:xo m)(hw:zgG d m)(h:zej d m fuel=0)(hc:za6 d m c≠0):
 zh prog 86 [zn (zr d),zn (yp m),zn (yf c),I fuel] [] (.tup [zxi,.agg (zh6 0 0 0 0),I (za6 d m c)]) []:=by
 have U:=zdZ d m fuel;rw[h]at U;have hK:=zfa m J.g J.n J.f;have hP:=zo8 hw hc fuel;refine gFo func86 λC hC=>?_
 repeat' first|refine gG ?_|exact gD|refine gB ?_ ?_<;>intro h|refine gC U ?_|refine gR hK (nm [101,102,103]) ?_|refine gR hP iG ?_|refine zd ?_
 exact gF
def mcF(d:zf)(fuel:Int)(x:Mc)(a:Nat):List V:=(zr d).map V.p++[.p (yx x.g),.p (zh8 x.ns),.p (ki fuel),.p (ki x.ticks),.p (ki x.calls),.p (ki x.comps),.ar a]
variable {x:Mc}
theorem zpc(J:xo m)(hw:zgG d m)(hc:za6 d m c=0)(h:zej d m fuel=0){k:Nat}{fl v:Int}
 (hr: ∀i p,zbG d c.p=some i->d.procs[i]?=some p->plF (rnV d fuel k p c.a (mc0 m))=some (fl,v,x)) (hl:x.acc.length<=1099511627776):
 zh prog 86 [zn (zr d),zn (yp m),zn (yf c),I fuel] [] (.tup [.one (.bx 0 0),.agg (zh6 fl v x.comps (ndC x.acc)),I 0]) [(0,.box (mcF d fuel x 9)),(9,.arr 3 (x.acc.map zgB))]:=by
 have U:=zdZ d m fuel;rw[h]at U;have hK:=zfa m J.g J.n J.f;have hP:=zsf hw hc hr hl;refine gFo func86 λC hC=>?_
 repeat' first|refine gG ?_|exact gD|refine gB ?_ ?_<;>intro h|refine gC U ?_|refine gR hK (nm [101,102,103]) ?_|refine gR hP iX ?_
 refine zeI rfl (zjT ⟨x.g,x.ns⟩ 101 107 108) rfl [] uh [(100,.box (mcF d fuel x 109))] ⟨⟨_,rfl,rfl,LnR.box (.cons (.refl _) (.cons (.refl _) (.cons (.refl _) (.cons (.refl _) (.cons (.refl _) (.cons (.refl _) (.cons (.refl _) (.cons (.refl _) (.cons (LnV.ar (.head _)) (.cons (LnV.vw (ids:=[108]) (rows:=wRows x.ns 0) (.tail _ (.head _)) (by rw[uj,yi]) (zbj _) (zsd _ 108 x.ns (.tail _ (.tail _ (.head _))))) (zjS.refl _)))))))))))⟩,uh⟩ ?_;exact gW [100,101,102,103,104,105,106,107,108,109]
theorem zl9(h:zej d m fuel≠0)(c:Cl):
 zh prog 51 [zn (zr d),zn (yp m),zn (yf c),I fuel] [] (.tup [.agg (zh6 0 0 0 0),.agg [.p (.k (.slice none 0 0)),.p (.k (.slice none 0 0))],I (zej d m fuel)]) []:=by
 have J:=zgS h c;generalize zej d m fuel=e at J h⊢;refine gFo func51 λC hC=>?_
 repeat' first|refine gG ?_|(exfalso;simp at h;simp_all;done)|refine gB ?_ ?_<;>intro h|refine gC J ?_|refine zd ?_
 exact gF
theorem zjs(hs:xo m)(hw:zgG d m)(h:zej d m fuel=0)(J:za6 d m c≠0):
 zh prog 51 [zn (zr d),zn (yp m),zn (yf c),I fuel] [] (.tup [.agg (zh6 0 0 0 0),.agg [.p (.k (.slice none 0 0)),.p (.k (.slice none 0 0))],I (za6 d m c)]) []:=by
 have U:=zfo hs hw h J;generalize za6 d m c=e at U J⊢;refine gFo func51 λC hC=>?_
 repeat' first|refine gG ?_|(exfalso;simp[J]at h;done)|refine gB ?_ ?_<;>intro h|refine gC U ?_|refine zd ?_
 exact gF
theorem zma(J:xo m)(U:zgG d m)(hc:za6 d m c=0)(h:zej d m fuel=0){k:Nat}{fl v:Int}
 (hr: ∀i p,zbG d c.p=some i->d.procs[i]?=some p->plF (rnV d fuel k p c.a (mc0 m))=some (fl,v,x)) (hl:x.acc.length<=1099511627776):
 zh prog 51 [zn (zr d),zn (yp m),zn (yf c),I fuel] [] (.tup [.agg (zh6 fl v x.comps (ndC x.acc)),zn (yp ⟨x.g,x.ns⟩),I 0]) []:=by
 have hS:=zpc J U hc h hr hl;refine gFo func51 λC hC=>?_
 repeat' first|refine gG ?_|exact gD|refine gB ?_ ?_<;>intro h|refine gR hS iX ?_|refine zd ?_
 exact gF
theorem zpd(x:Fld)(s:Str):zh prog 243 [zn (zB x),.one (.bx 0 0)] [(0,.box [.p (ks s)])] (.bq (decide (x.n=s))) [(0,.box [.p (ks s)])]:=by
 refine gFo func243 λC hC=>?_
 repeat' first|refine gG ?_|refine gB ?_ ?_<;>intro h|refine zd ?_
 exact gE
theorem zsH(i:Nat):zh prog 242 [I i] [] (.tup [I i,I 0]) []:=by
 refine gFo func242 λC hC=>?_
 repeat' first|refine gG ?_|(exfalso;have h9:=uk h;omega)|refine gB ?_ ?_<;>intro h
 exact gF
variable {i:Nat}
theorem zgT(t:zX)(s:Str)(h:ixF t.f s=some i):zh prog 199 [zn (zR t),Sr s] [] (.tup [I i,I 0]) []:=by
 have J:=jo 243 t.f (λx _=>decide (x.n=s)) (λ_ s=>s) (λc=>c=s) (λx hx c hc=>⟨by subst hc;exact zpd x c,λ_=>hc⟩) s rfl;rw[yR]at J;have U:t.f.findIdx? (λx=>decide (x.n=s))=some i:=h;rw[U]at J;simp only[idxI]at J;have hI:=zsH i;refine gFo func199 λC hC=>?_
 repeat' first|refine gG ?_|refine gB ?_ ?_<;>intro h|refine gR J iy ?_|refine gC hI ?_
 exact gF
def tyI(d:zf)(m:Hp)(n:Int):Str:=if n=0 then(⟨#[]⟩:UI)else tyN d (ndG m n).t
theorem zmb(hs:xo m)(hw:zgG d m)(k:Kn){n:Int}(h:isB m n=true):zh prog 93 [.one (.bx 0 0),I n] (imR d m k 0 1 2) (Sr (tyI d m n)) (imR d m k 0 1 2):=by
 unfold isB at h;simp only[um,uq]at h;have hn:=hs.n;unfold tyI;by_cases h0:n=0
 ·rw[uw h0];refine gFo func93 λC hC=>?_
  repeat' first|refine gG ?_|(exfalso;have h9:=uo h;omega)|refine gB ?_ ?_<;>intro h|refine zd ?_
  exact gE
 ·rw[ur h0];obtain⟨x,J⟩:=za (l:=m.n) (i:=(n - 1).toNat) ua;obtain⟨h1,h2⟩:=hw x (uv J);obtain⟨y,hy⟩:=za h2;have U:IntKind.i64.wrap (n - 1)=n - 1:=wrap64 ua;rw[show tyN d (ndG m n).t=y.n by simp only[ndG,J,Option.getD_some,tyN,hy,uG]];refine gFo func93 λC hC=>?_
  repeat' first|refine gG ?_|(exfalso;have h9:=uk h;omega)|refine gB ?_ ?_<;>intro h|(rw[U];refine gIt (yQ J) ?_)|refine gIt (yQ hy) ?_|refine zd ?_
  exact gE
theorem zmc(hs:xo m)(k:Kn)(v:Int)(s:Str):FnX prog 139 [.one (.bx 0 0),I v,Sr s] (imR d m k 0 1 2) (bE d m (fldI d m v s k)):=by
 have hn:=hs.n;unfold fldI;by_cases U:v=0
 ·rw[uw U];refine gFp func139 λC hC=>?_
  repeat' first|refine gG ?_|(exfalso;have h9:=uo h;omega)|refine gB ?_ ?_<;>intro h|refine zbC hC [.int .i64 17] rfl ud rfl rfl ?_|refine gPa ?_
  all_goals first
   |exact gUn id
   |exact zK ⟨rfl,id,⟨rfl,rfl,rfl,uh⟩,rfl,rfl⟩
 ·rw[ur U];by_cases hv:v<0
  ·rw[uw hv];trivial
  ·rw[ur hv];cases hx:m.n[(v - 1).toNat]? with
   |none=>trivial
   |some x=>
    simp only;by_cases ht:x.t<0
    ·rw[uw ht];trivial
    ·rw[ur ht];cases hy:d.types[x.t.toNat]? with
     |none=>trivial
     |some t=>
      simp only;cases hi:ixF t.f s with
      |none=>trivial
      |some i=>
       simp only;cases hu:x.f[i]? with
       |none=>trivial
       |some u=>
        simp only;have hlt:=(uy.1 hx).1;have J:IntKind.i64.wrap (v - 1)=v - 1:=wrap64 ua;have hF:=zgT t s hi;refine gFo func139 λC hC=>?_
        repeat' first|refine gG ?_|(exfalso;have h9:=uk h;omega)|refine gB ?_ ?_<;>intro h|(rw[J];refine gIt (yQ hx) ?_)|refine gIt (yQ hy) ?_|refine gC hF ?_|refine gIt (zl hu) ?_|refine zd ?_
        exact gE
abbrev zwu(d:zf)(m:Hp)(nd:Int)(e:Ex)(k:Kn)(r:Bn):Prop:=FnX prog 96 [.one (.bx 0 0),zn (yg e),I nd] (imR d m k 0 1 2) (bE d m r)
abbrev zxj(d:zf)(m:Hp)(i:Nat)(nd:Int)(k:Kn)(r:Bn):Prop:=FnX prog 140 [.one (.bx 0 0),I i,I nd] (imR d m k 0 1 2) (bE d m r)
theorem zif: ∀M,RepEV M (.o (ki 0)) (.int .i64 0):=λM=>by simp only[RepEV,RepPV];exact⟨uh,rfl⟩
variable {nd:Int}
theorem zmd{q:K2}(h:zp7 i nd=some q):(q.1.val:Int)=i/\(q.2.val:Int)=nd:=by
 unfold zp7 at h;split at h
 ·rename_i hh;simp only[ui]at h;subst h;exact⟨rfl,by simp only;omega⟩
 ·cases h
theorem zpe(g:Nat)(hE: ∀nd e k,zwu d m nd e k (inV d m g nd e k))(i:Nat)(nd:Int)(k:Kn):zxj d m i nd k (meV d m (g+1) i nd k):=by
 rw[meV];cases hx:d.measures[i]? with
 |none=>trivial
 |some x=>
  simp only;by_cases h0:nd=0
  ·rw[uw h0];refine gFo func140 λC hC=>?_
   repeat' first|refine gG ?_|(exfalso;have h9:=uo h;omega)|refine gB ?_ ?_<;>intro h|refine gIt (zl hx) ?_|refine zd ?_
   exact gE
  ·rw[ur h0];cases hq:zp7 i nd with
   |none=>trivial
   |some q=>
    simp only;obtain⟨e1,e2⟩:=zmd hq;have key:(S.agg [.p (ki (i:Int)),.p (ki nd)])=k2G.s q:=by show _=S.agg [.p (ki (q.1.val:Int)),.p (ki (q.2.val:Int))];rw[e1,e2]
    cases hk:lkI k.kn q with
    |none=>trivial
    |some ov=>
     cases ov with
     |some v=>
      have J:=zog hk;refine gFo func140 λC hC=>?_
      repeat' first|refine gG ?_|(exfalso;have h9:=uk h;omega)|exact gD|refine gB ?_ ?_<;>intro h|refine gIt (zl hx) ?_|refine yq k2G hC (et:=3) (c0:= .int .i64 0) (k0:=q) (.o (ki 0)) (pv:= .o (ki v)) (b:=true) rfl (u7 some key) rfl ud ud zif (by rw[J];rfl) (by rw[J];rfl) rfl rfl ?_|refine zd ?_
      exact gE
     |none=>
      have J:=zoh hk;simp only;cases hb:lkB k.bu q with
      |none=>trivial
      |some bb=>
       have hgb:=zrF hb;cases bb with
       |true=>
        refine gFp func140 λC hC=>?_
        repeat' first|refine gG ?_|(exfalso;have h9:=uk h;omega)|exact gD|refine gB ?_ ?_<;>intro h|refine gIt (zl hx) ?_|refine yq k2G hC (et:=3) (c0:= .int .i64 0) (k0:=q) (.o (ki 0)) (pv:= .o (ki 0)) (b:=false) rfl (u7 some key) rfl ud ud zif (by rw[J];rfl) (by rw[J];rfl) rfl rfl ?_|refine vo k2G hC (et:=4) (c0:= .bool false) (k0:=q) (.o (.k (.bool false))) (pv:= .o (.k (.bool true))) rfl (u7 some key) rfl ud ud (zfh false) hgb rfl rfl ?_|refine zbC hC [.int .i64 16] rfl ud rfl rfl ?_|refine gPa ?_
        exact gUn id
       |false=>
        simp only;have U:=hE nd x.x { k with bu:=putG k.bu q (.o (.k (.bool true))) };cases hr:inV d m g nd x.x { k with bu:=putG k.bu q (.o (.k (.bool true))) } with
        |out=>trivial
        |ok v k1=>
         rw[hr]at U;have U:zh _ _ _ _ _ _:=U;refine gFo func140 λC hC=>?_
         repeat' first|refine gG ?_|(exfalso;have h9:=uk h;omega)|exact gD|refine gB ?_ ?_<;>intro h|refine gIt (zl hx) ?_|refine yq k2G hC (et:=3) (c0:= .int .i64 0) (k0:=q) (.o (ki 0)) (pv:= .o (ki 0)) (b:=false) rfl (u7 some key) rfl ud ud zif (by rw[J];rfl) (by rw[J];rfl) rfl rfl ?_|refine vo k2G hC (et:=4) (c0:= .bool false) (k0:=q) (.o (.k (.bool false))) (pv:= .o (.k (.bool false))) rfl (u7 some key) rfl ud ud (zfh false) hgb rfl rfl ?_|refine zcG k2G hC (et:=4) (k0:=q) (pv:= .o (.k (.bool true))) rfl (u7 some key) rfl rfl ud rfl rfl ?_|refine gR U ic ?_|refine zuf k2G hC (et:=4) (k0:=q) rfl (u7 some key) rfl ud rfl rfl rfl ?_|refine zcG k2G hC (et:=3) (k0:=q) (pv:= .o (ki v)) rfl (u7 some key) rfl rfl ud rfl rfl ?_|refine zd ?_
         exact gE
        |flt e k1=>
         rw[hr]at U;have U:yH _ _ _ _ _ _:=U;refine gFp func140 λC hC=>?_
         repeat' first|refine gG ?_|(exfalso;have h9:=uk h;omega)|exact gD|refine gB ?_ ?_<;>intro h|refine gIt (zl hx) ?_|refine yq k2G hC (et:=3) (c0:= .int .i64 0) (k0:=q) (.o (ki 0)) (pv:= .o (ki 0)) (b:=false) rfl (u7 some key) rfl ud ud zif (by rw[J];rfl) (by rw[J];rfl) rfl rfl ?_|refine vo k2G hC (et:=4) (c0:= .bool false) (k0:=q) (.o (.k (.bool false))) (pv:= .o (.k (.bool false))) rfl (u7 some key) rfl ud ud (zfh false) hgb rfl rfl ?_|refine zcG k2G hC (et:=4) (k0:=q) (pv:= .o (.k (.bool true))) rfl (u7 some key) rfl rfl ud rfl rfl ?_|refine gCN U ic ?_
         exact gUn id
abbrev clI(e:Ex)(nd:Int):RL:=[(5,.box [.bx 0 0]),(6,.box ((yg e).map V.p)),(7,.box [.p (ki nd)])]
noncomputable def aE(d:zf)(m:Hp)(e:Ex)(nd:Int):Bn->End
 | .ok v k=> .ok (I v) (imR d m k 0 1 2++clI e nd)
 | .flt er k=> .pn (flI er) (imR d m k 0 1 2++clI e nd)
 | .out=> .no
abbrev zxk(d:zf)(m:Hp)(nd:Int)(e:Ex)(i:Nat)(k:Kn)(r:Bn):Prop:=FnX prog 137 [I i,.one (.bx 5 0),.one (.bx 6 0),.one (.bx 7 0)] (imR d m k 0 1 2++clI e nd) (aE d m e nd r)
theorem zpf(g:Nat)(hE: ∀nd e k,zwu d m nd e k (inV d m g nd e k))(nd:Int)(e:Ex)(i:Nat)(k:Kn):zxk d m nd e i k (atV d m (g+1) nd e i k):=by
 rw[atV];cases U:e.l[i]? with
 |none=>trivial
 |some x=>
  simp only;have J:=hE nd x k;cases hr:inV d m g nd x k with
  |out=>trivial
  |ok v k1=>
   rw[hr]at J;have J:zh _ _ _ _ _ _:=J;refine gFo func137 λC hC=>?_
   repeat' first|refine gG ?_|refine gB ?_ ?_<;>intro h|refine gIt (xU U) ?_|refine gR J ic ?_
   exact gE
  |flt er k1=>
   rw[hr]at J;have J:yH _ _ _ _ _ _:=J;refine gFp func137 λC hC=>?_
   repeat' first|refine gG ?_|refine gB ?_ ?_<;>intro h|refine gIt (xU U) ?_|refine gCD J ic [5,6,7] ?_
   exact gUn id
theorem zsI{e:Ex}{k k1:Kn}{v:Int}(o:e.op=24)(hv:v<9223372036854775808)
 (U:zh prog 137 [I 0,.one (.bx 5 0),.one (.bx 6 0),.one (.bx 7 0)] (imR d m k 0 1 2++clI e nd) (I v) (imR d m k1 0 1 2++clI e nd)):
 zh prog 96 [.one (.bx 0 0),zn (yg e),I nd] (imR d m k 0 1 2) (I (zi2 v)) (imR d m k1 0 1 2):=by
 have hL:=zlA v.toNat ua;have hm:(if(0:Int)<v then v else 0)=(v.toNat:Int):=by split<;>omega
 have hc:IntKind.u64.wrap (v.toNat:Int)=(v.toNat:Int):=by rw[IntKind.wrap_u64];omega
 have hl:(if(0:Int)<IntKind.i64.wrap ((Lib.bitLen v.toNat:Int) - 1)then IntKind.i64.wrap ((Lib.bitLen v.toNat:Int) - 1)else 0)=zi2 v:=by
  unfold zi2;by_cases J:v<1
  ·have:v.toNat=0:=by omega
   rw[this,uw J];decide
  ·rw[ur J,zaG ua ua]
   have hlt:Nat.log2 v.toNat<64:=by
    rw[oM ua];omega
   rw[wrap64 ua];split<;>omega
 refine gFo func96 λC hC=>?_
 repeat' first|refine gG ?_|exact gD|(exfalso;first|(have h0:=uk h;omega)|(have h0:=uo h;omega))|refine gB ?_ ?_<;>intro h|refine gCW U ie ?_|refine vK hC (v.toNat:Int) rfl rfl hm rfl rfl ?_|(rw[hc];refine gC hL ?_)|refine vK hC (zi2 v) rfl rfl hl rfl rfl ?_
 exact gE
theorem zyu(v:Int):IntKind.i64.wrap (-v)=IntKind.i64.wrap (0 - v):=by rw[Int.zero_sub]
theorem zd0(n:Int)(k:Kn):(∃e,bdI n k= .flt e k)\/(∃v,bdI n k= .ok v k)\/bdI n k= .out:=by
 unfold bdI;by_cases h:n< -1099511627776\/1099511627776<n
 ·rw[uw h];exact .inl ⟨_,rfl⟩
 ·rw[ur h];exact .inr (.inl ⟨_,rfl⟩)
theorem zme(a b:Int)(k:Kn):(∃e,zof a b k= .flt e k)\/(∃v,zof a b k= .ok v k)\/zof a b k= .out:=by
 unfold zof;by_cases h:zkx a/\zkx b
 ·rw[uw h];by_cases h2:a.natAbs*b.natAbs>1099511627776
  ·rw[uw h2];exact .inl ⟨_,rfl⟩
  ·rw[ur h2];exact .inr (.inl ⟨_,rfl⟩)
 ·rw[ur h];exact .inr (.inr rfl)
theorem zfp(op a b:Int)(k:Kn):(∃e,zjR op a b k= .flt e k)\/(∃v,zjR op a b k= .ok v k)\/zjR op a b k= .out:=by
 unfold zjR
 have J: ∀ {p:Prop} [Decidable p] {x y:Bn},((∃e,x= .flt e k)\/(∃v,x= .ok v k)\/x= .out)->((∃e,y= .flt e k)\/(∃v,y= .ok v k)\/y= .out)->((∃e,(if p then x else y)= .flt e k)\/(∃v,(if p then x else y)= .ok v k)\/(if p then x else y)= .out):=λ{p} _ {x y} U hy=>by
  by_cases h:p
  ·rw[uw h];exact U
  ·rw[ur h];exact hy
 have ok: ∀v,(∃e,Bn.ok v k= .flt e k)\/(∃u,Bn.ok v k= .ok u k)\/Bn.ok v k= .out:=λv=> .inr (.inl ⟨_,rfl⟩)
 exact J (zd0 _ _) (J (zd0 _ _) (J (zme _ _ _) (J (ok _) (J (ok _) (J (ok _) (J (ok _) (J (ok _) (J (ok _) (J (.inl ⟨_,rfl⟩) (J (zd0 _ _) (ok _)))))))))))
variable {er:Int}
theorem zsJ{op a b:Int}{k U:Kn}(h:zjR op a b k= .flt er U):U=k:=by
 rcases zfp op a b k with⟨e,J⟩|⟨v,J⟩|J<;>rw[J]at h<;>cases h<;>rfl
theorem zpg{op a b:Int}{k U:Kn}{w:Int}(h:zjR op a b k= .ok w U):U=k:=by
 rcases zfp op a b k with⟨e,J⟩|⟨v,J⟩|J<;>rw[J]at h<;>cases h<;>rfl
set_option maxHeartbeats 2000000 in
set_option maxRecDepth 100000 in
theorem zph(hs:xo m)(g:Nat)(hAt: ∀nd e i k,zxk d m nd e i k (atV d m g nd e i k))(hMe: ∀i nd k,zxj d m i nd k (meV d m g i nd k))(nd:Int)(e:Ex)(k:Kn):zwu d m nd e k (inV d m (g+1) nd e k):=by
 rw[inV];by_cases o12:e.op=1\/e.op=2
 ·rw[uw o12];rcases o12 with o12|o12
  all_goals
   refine gFo func96 λC hC=>?_
   repeat' first|refine gG ?_|exact gD|(exfalso;first|(have h0:=uk h;omega)|(have h0:=uo h;omega))|(exfalso;simp only[ux,uE,uq,uu]at h;omega)|refine gB ?_ ?_<;>intro h
   all_goals exact gE
 rw[ur o12];by_cases o3:e.op=3
 ·rw[uw o3];refine gFo func96 λC hC=>?_
  repeat' first|refine gG ?_|exact gD|(exfalso;first|(have h0:=uk h;omega)|(have h0:=uo h;omega))|(exfalso;simp only[ux,uE,uq,uu]at h;omega)|refine gB ?_ ?_<;>intro h
  all_goals exact gE
 rw[ur o3];by_cases o4:e.op=4
 ·rw[uw o4];have hN:=zpb d m k e.s nd;cases hr_hN:namI d m nd e.s k with
  |out=>exact uh
  |flt er k9=>
   rw[hr_hN]at hN;have hN:yH _ _ _ _ _ _:=hN;refine gFp func96 λC hC=>?_
   repeat' first|refine gG ?_|exact gD|(exfalso;first|(have h0:=uk h;omega)|(have h0:=uo h;omega))|(exfalso;simp only[ux,uE,uq,uu]at h;omega)|refine gB ?_ ?_<;>intro h|refine gCN hN ic ?_
   exact gUn id
  |ok v k1=>
   rw[hr_hN]at hN;have hN:zh _ _ _ _ _ _:=hN
   try simp only[Bn.bind]
   refine gFo func96 λC hC=>?_
   repeat' first|refine gG ?_|exact gD|(exfalso;first|(have h0:=uk h;omega)|(have h0:=uo h;omega))|(exfalso;simp only[ux,uE,uq,uu]at h;omega)|refine gB ?_ ?_<;>intro h|refine gR hN ic ?_
   all_goals exact gE
 rw[ur o4];by_cases o5:e.op=5
 ·rw[uw o5];have hA:FnX prog 137 [I 0,.one (.bx 5 0),.one (.bx 6 0),.one (.bx 7 0)] (imR d m k 0 1 2++clI e nd) (aE d m e nd (atV d m g nd e 0 k)):=hAt nd e 0 k;cases hr_hA:atV d m g nd e 0 k with
  |out=>exact uh
  |flt er k9=>
   rw[hr_hA]at hA;have hA:yH _ _ _ _ _ _:=hA;refine gFp func96 λC hC=>?_
   repeat' first|refine gG ?_|exact gD|(exfalso;first|(have h0:=uk h;omega)|(have h0:=uo h;omega))|(exfalso;simp only[ux,uE,uq,uu]at h;omega)|refine gB ?_ ?_<;>intro h|refine gCQ hA ie [] ?_
   exact gUn id
  |ok v k1=>
   rw[hr_hA]at hA;have hA:zh _ _ _ _ _ _:=hA
   try simp only[Bn.bind]
   have hF:=zmc (d:=d) hs k1 v e.s;cases hr_hF:fldI d m v e.s k1 with
   |out=>exact uh
   |flt er k9=>
    rw[hr_hF]at hF;have hF:yH _ _ _ _ _ _:=hF;refine gFp func96 λC hC=>?_
    repeat' first|refine gG ?_|exact gD|(exfalso;first|(have h0:=uk h;omega)|(have h0:=uo h;omega))|(exfalso;simp only[ux,uE,uq,uu]at h;omega)|refine gB ?_ ?_<;>intro h|refine gCW hA ie ?_|refine gCD hF ic [] ?_
    exact gUn id
   |ok u k2=>
    rw[hr_hF]at hF;have hF:zh _ _ _ _ _ _:=hF
    try simp only[Bn.bind]
    refine gFo func96 λC hC=>?_
    repeat' first|refine gG ?_|exact gD|(exfalso;first|(have h0:=uk h;omega)|(have h0:=uo h;omega))|(exfalso;simp only[ux,uE,uq,uu]at h;omega)|refine gB ?_ ?_<;>intro h|refine gCW hA ie ?_|refine gR hF ic ?_
    all_goals exact gE
 rw[ur o5];by_cases o7:e.op=7
 ·rw[uw o7];have hNm:=zfn d m k e.s;cases hi:zp8 d e.s with
  |none=>exact uh
  |some i=>
   rw[hi]at hNm;simp only[idxI]at hNm;have hA:FnX prog 137 [I 0,.one (.bx 5 0),.one (.bx 6 0),.one (.bx 7 0)] (imR d m k 0 1 2++clI e nd) (aE d m e nd (atV d m g nd e 0 k)):=hAt nd e 0 k;cases hr_hA:atV d m g nd e 0 k with
   |out=>exact uh
   |flt er k9=>
    rw[hr_hA]at hA;have hA:yH _ _ _ _ _ _:=hA;refine gFp func96 λC hC=>?_
    repeat' first|refine gG ?_|exact gD|(exfalso;first|(have h0:=uk h;omega)|(have h0:=uo h;omega))|(exfalso;simp only[ux,uE,uq,uu]at h;omega)|refine gB ?_ ?_<;>intro h|refine gR hNm ic ?_|refine gCQ hA ie [] ?_
    exact gUn id
   |ok v k1=>
    rw[hr_hA]at hA;have hA:zh _ _ _ _ _ _:=hA
    try simp only[Bn.bind]
    have hM:=hMe i v k1;cases hr_hM:meV d m g i v k1 with
    |out=>exact uh
    |flt er k9=>
     rw[hr_hM]at hM;have hM:yH _ _ _ _ _ _:=hM;refine gFp func96 λC hC=>?_
     repeat' first|refine gG ?_|exact gD|(exfalso;first|(have h0:=uk h;omega)|(have h0:=uo h;omega))|(exfalso;simp only[ux,uE,uq,uu]at h;omega)|refine gB ?_ ?_<;>intro h|refine gR hNm ic ?_|refine gCW hA ie ?_|refine gCD hM ic [] ?_
     exact gUn id
    |ok u k2=>
     rw[hr_hM]at hM;have hM:zh _ _ _ _ _ _:=hM
     try simp only[Bn.bind]
     refine gFo func96 λC hC=>?_
     repeat' first|refine gG ?_|exact gD|(exfalso;first|(have h0:=uk h;omega)|(have h0:=uo h;omega))|(exfalso;simp only[ux,uE,uq,uu]at h;omega)|refine gB ?_ ?_<;>intro h|refine gR hNm ic ?_|refine gCW hA ie ?_|refine gR hM ic ?_
     all_goals exact gE
 rw[ur o7];by_cases o8:e.op=8
 ·rw[uw o8];have hA:FnX prog 137 [I 0,.one (.bx 5 0),.one (.bx 6 0),.one (.bx 7 0)] (imR d m k 0 1 2++clI e nd) (aE d m e nd (atV d m g nd e 0 k)):=hAt nd e 0 k;cases hr_hA:atV d m g nd e 0 k with
  |out=>exact uh
  |flt er k9=>
   rw[hr_hA]at hA;have hA:yH _ _ _ _ _ _:=hA;refine gFp func96 λC hC=>?_
   repeat' first|refine gG ?_|exact gD|(exfalso;first|(have h0:=uk h;omega)|(have h0:=uo h;omega))|(exfalso;simp only[ux,uE,uq,uu]at h;omega)|refine gB ?_ ?_<;>intro h|refine gCN hA ie ?_
   exact gUn id
  |ok v k1=>
   rw[hr_hA]at hA;have hA:zh _ _ _ _ _ _:=hA
   try simp only[Bn.bind]
   rw[zyu];have hB:=zh1 (IntKind.i64.wrap (0 - v)) k1;cases hr_hB:bdI (IntKind.i64.wrap (0 - v)) k1 with
   |out=>exact uh
   |flt er k9=>
    have hk:k9=k1:=by unfold bdI at hr_hB;split at hr_hB<;>simp_all
    subst hk;rw[hr_hB]at hB;have hB:yH _ _ _ _ _ _:=hB;refine gFp func96 λC hC=>?_
    repeat' first|refine gG ?_|exact gD|(exfalso;first|(have h0:=uk h;omega)|(have h0:=uo h;omega))|(exfalso;simp only[ux,uE,uq,uu]at h;omega)|refine gB ?_ ?_<;>intro h|refine zda hC rfl rfl rfl ?_|refine gCW hA ie ?_|refine gCN hB id ?_
    exact gUn id
   |ok u k9=>
    have hk:k9=k1:=by unfold bdI at hr_hB;split at hr_hB<;>simp_all
    subst hk;rw[hr_hB]at hB;have hB:zh _ _ _ _ _ _:=hB;refine gFo func96 λC hC=>?_
    repeat' first|refine gG ?_|exact gD|(exfalso;first|(have h0:=uk h;omega)|(have h0:=uo h;omega))|(exfalso;simp only[ux,uE,uq,uu]at h;omega)|refine gB ?_ ?_<;>intro h|refine zda hC rfl rfl rfl ?_|refine gCW hA ie ?_|refine gC hB ?_
    all_goals exact gE
 rw[ur o8];by_cases o18:e.op=18
 ·rw[uw o18];have hA:FnX prog 137 [I 0,.one (.bx 5 0),.one (.bx 6 0),.one (.bx 7 0)] (imR d m k 0 1 2++clI e nd) (aE d m e nd (atV d m g nd e 0 k)):=hAt nd e 0 k;cases hr_hA:atV d m g nd e 0 k with
  |out=>exact uh
  |flt er k9=>
   rw[hr_hA]at hA;have hA:yH _ _ _ _ _ _:=hA;refine gFp func96 λC hC=>?_
   repeat' first|refine gG ?_|exact gD|(exfalso;first|(have h0:=uk h;omega)|(have h0:=uo h;omega))|(exfalso;simp only[ux,uE,uq,uu]at h;omega)|refine gB ?_ ?_<;>intro h|refine gCN hA ie ?_
   exact gUn id
  |ok v k1=>
   rw[hr_hA]at hA;have hA:zh _ _ _ _ _ _:=hA
   try simp only[Bn.bind]
   refine gFo func96 λC hC=>?_
   repeat' first|refine gG ?_|exact gD|(exfalso;first|(have h0:=uk h;omega)|(have h0:=uo h;omega))|(exfalso;simp only[ux,uE,uq,uu]at h;omega)|refine gB ?_ ?_<;>intro h|refine gCW hA ie ?_
   all_goals exact gE
 rw[ur o18];by_cases o24:e.op=24
 ·rw[uw o24];have hA:FnX prog 137 [I 0,.one (.bx 5 0),.one (.bx 6 0),.one (.bx 7 0)] (imR d m k 0 1 2++clI e nd) (aE d m e nd (atV d m g nd e 0 k)):=hAt nd e 0 k;cases hr_hA:atV d m g nd e 0 k with
  |out=>exact uh
  |flt er k9=>
   rw[hr_hA]at hA;have hA:yH _ _ _ _ _ _:=hA;refine gFp func96 λC hC=>?_
   repeat' first|refine gG ?_|exact gD|(exfalso;first|(have h0:=uk h;omega)|(have h0:=uo h;omega))|(exfalso;simp only[ux,uE,uq,uu]at h;omega)|refine gB ?_ ?_<;>intro h|refine gCN hA ie ?_
   exact gUn id
  |ok v k1=>
   rw[hr_hA]at hA;have hA:zh _ _ _ _ _ _:=hA
   try simp only[Bn.bind]
   by_cases hv:v<9223372036854775808
   ·rw[uw hv];exact zsI o24 hv hA
   ·rw[ur hv];exact uh
 rw[ur o24];by_cases o19:e.op=19
 ·rw[uw o19];have hA:FnX prog 137 [I 0,.one (.bx 5 0),.one (.bx 6 0),.one (.bx 7 0)] (imR d m k 0 1 2++clI e nd) (aE d m e nd (atV d m g nd e 0 k)):=hAt nd e 0 k;cases hr_hA:atV d m g nd e 0 k with
  |out=>exact uh
  |flt er k9=>
   rw[hr_hA]at hA;have hA:yH _ _ _ _ _ _:=hA;refine gFp func96 λC hC=>?_
   repeat' first|refine gG ?_|exact gD|(exfalso;first|(have h0:=uk h;omega)|(have h0:=uo h;omega))|(exfalso;simp only[ux,uE,uq,uu]at h;omega)|refine gB ?_ ?_<;>intro h|refine gCN hA ie ?_
   exact gUn id
  |ok v k1=>
   rw[hr_hA]at hA;have hA:zh _ _ _ _ _ _:=hA
   try simp only[Bn.bind]
   by_cases h0:v=0
   ·rw[uw h0];refine gFo func96 λC hC=>?_
    repeat' first|refine gG ?_|exact gD|(exfalso;first|(have h0:=uk h;omega)|(have h0:=uo h;omega))|(exfalso;simp only[ux,uE,uq,uu]at h;omega)|refine gB ?_ ?_<;>intro h|refine gCW hA ie ?_
    all_goals exact gE
   ·rw[ur h0];have hB1:FnX prog 137 [I 1,.one (.bx 5 0),.one (.bx 6 0),.one (.bx 7 0)] (imR d m k1 0 1 2++clI e nd) (aE d m e nd (atV d m g nd e 1 k1)):=hAt nd e 1 k1;cases hr_hB1:atV d m g nd e 1 k1 with
    |out=>exact uh
    |flt er k9=>
     rw[hr_hB1]at hB1;have hB1:yH _ _ _ _ _ _:=hB1;refine gFp func96 λC hC=>?_
     repeat' first|refine gG ?_|exact gD|(exfalso;first|(have h0:=uk h;omega)|(have h0:=uo h;omega))|(exfalso;simp only[ux,uE,uq,uu]at h;omega)|refine gB ?_ ?_<;>intro h|refine gCW hA ie ?_|refine gCN hB1 ie ?_
     exact gUn id
    |ok u k2=>
     rw[hr_hB1]at hB1;have hB1:zh _ _ _ _ _ _:=hB1
     try simp only[Bn.bind]
     refine gFo func96 λC hC=>?_
     repeat' first|refine gG ?_|exact gD|(exfalso;first|(have h0:=uk h;omega)|(have h0:=uo h;omega))|(exfalso;simp only[ux,uE,uq,uu]at h;omega)|refine gB ?_ ?_<;>intro h|refine gCW hA ie ?_|refine gCW hB1 ie ?_
     all_goals exact gE
 rw[ur o19];by_cases o20:e.op=20
 ·rw[uw o20];have hA:FnX prog 137 [I 0,.one (.bx 5 0),.one (.bx 6 0),.one (.bx 7 0)] (imR d m k 0 1 2++clI e nd) (aE d m e nd (atV d m g nd e 0 k)):=hAt nd e 0 k;cases hr_hA:atV d m g nd e 0 k with
  |out=>exact uh
  |flt er k9=>
   rw[hr_hA]at hA;have hA:yH _ _ _ _ _ _:=hA;refine gFp func96 λC hC=>?_
   repeat' first|refine gG ?_|exact gD|(exfalso;first|(have h0:=uk h;omega)|(have h0:=uo h;omega))|(exfalso;simp only[ux,uE,uq,uu]at h;omega)|refine gB ?_ ?_<;>intro h|refine gCN hA ie ?_
   exact gUn id
  |ok v k1=>
   rw[hr_hA]at hA;have hA:zh _ _ _ _ _ _:=hA
   try simp only[Bn.bind]
   by_cases h0:v=0
   ·rw[uw h0];have hB1:FnX prog 137 [I 1,.one (.bx 5 0),.one (.bx 6 0),.one (.bx 7 0)] (imR d m k1 0 1 2++clI e nd) (aE d m e nd (atV d m g nd e 1 k1)):=hAt nd e 1 k1;cases hr_hB1:atV d m g nd e 1 k1 with
    |out=>exact uh
    |flt er k9=>
     rw[hr_hB1]at hB1;have hB1:yH _ _ _ _ _ _:=hB1;refine gFp func96 λC hC=>?_
     repeat' first|refine gG ?_|exact gD|(exfalso;first|(have h0:=uk h;omega)|(have h0:=uo h;omega))|(exfalso;simp only[ux,uE,uq,uu]at h;omega)|refine gB ?_ ?_<;>intro h|refine gCW hA ie ?_|refine gCN hB1 ie ?_
     exact gUn id
    |ok u k2=>
     rw[hr_hB1]at hB1;have hB1:zh _ _ _ _ _ _:=hB1
     try simp only[Bn.bind]
     refine gFo func96 λC hC=>?_
     repeat' first|refine gG ?_|exact gD|(exfalso;first|(have h0:=uk h;omega)|(have h0:=uo h;omega))|(exfalso;simp only[ux,uE,uq,uu]at h;omega)|refine gB ?_ ?_<;>intro h|refine gCW hA ie ?_|refine gCW hB1 ie ?_
     all_goals exact gE
   ·rw[ur h0];refine gFo func96 λC hC=>?_
    repeat' first|refine gG ?_|exact gD|(exfalso;first|(have h0:=uk h;omega)|(have h0:=uo h;omega))|(exfalso;simp only[ux,uE,uq,uu]at h;omega)|refine gB ?_ ?_<;>intro h|refine gCW hA ie ?_
    all_goals exact gE
 rw[ur o20];by_cases o21:e.op=21
 ·rw[uw o21];have hA:FnX prog 137 [I 0,.one (.bx 5 0),.one (.bx 6 0),.one (.bx 7 0)] (imR d m k 0 1 2++clI e nd) (aE d m e nd (atV d m g nd e 0 k)):=hAt nd e 0 k;cases hr_hA:atV d m g nd e 0 k with
  |out=>exact uh
  |flt er k9=>
   rw[hr_hA]at hA;have hA:yH _ _ _ _ _ _:=hA;refine gFp func96 λC hC=>?_
   repeat' first|refine gG ?_|exact gD|(exfalso;first|(have h0:=uk h;omega)|(have h0:=uo h;omega))|(exfalso;simp only[ux,uE,uq,uu]at h;omega)|refine gB ?_ ?_<;>intro h|refine gCN hA ie ?_
   exact gUn id
  |ok v k1=>
   rw[hr_hA]at hA;have hA:zh _ _ _ _ _ _:=hA
   try simp only[Bn.bind]
   by_cases h0:v=0
   ·rw[uw h0];have hB2:FnX prog 137 [I 2,.one (.bx 5 0),.one (.bx 6 0),.one (.bx 7 0)] (imR d m k1 0 1 2++clI e nd) (aE d m e nd (atV d m g nd e 2 k1)):=hAt nd e 2 k1;cases hr_hB2:atV d m g nd e 2 k1 with
    |out=>exact uh
    |flt er k9=>
     rw[hr_hB2]at hB2;have hB2:yH _ _ _ _ _ _:=hB2;refine gFp func96 λC hC=>?_
     repeat' first|refine gG ?_|exact gD|(exfalso;first|(have h0:=uk h;omega)|(have h0:=uo h;omega))|(exfalso;simp only[ux,uE,uq,uu]at h;omega)|refine gB ?_ ?_<;>intro h|refine gCW hA ie ?_|refine gCN hB2 ie ?_
     exact gUn id
    |ok u k2=>
     rw[hr_hB2]at hB2;have hB2:zh _ _ _ _ _ _:=hB2
     try simp only[Bn.bind]
     refine gFo func96 λC hC=>?_
     repeat' first|refine gG ?_|exact gD|(exfalso;first|(have h0:=uk h;omega)|(have h0:=uo h;omega))|(exfalso;simp only[ux,uE,uq,uu]at h;omega)|refine gB ?_ ?_<;>intro h|refine gCW hA ie ?_|refine gCW hB2 ie ?_
     all_goals exact gE
   ·rw[ur h0];have hB1:FnX prog 137 [I 1,.one (.bx 5 0),.one (.bx 6 0),.one (.bx 7 0)] (imR d m k1 0 1 2++clI e nd) (aE d m e nd (atV d m g nd e 1 k1)):=hAt nd e 1 k1;cases hr_hB1:atV d m g nd e 1 k1 with
    |out=>exact uh
    |flt er k9=>
     rw[hr_hB1]at hB1;have hB1:yH _ _ _ _ _ _:=hB1;refine gFp func96 λC hC=>?_
     repeat' first|refine gG ?_|exact gD|(exfalso;first|(have h0:=uk h;omega)|(have h0:=uo h;omega))|(exfalso;simp only[ux,uE,uq,uu]at h;omega)|refine gB ?_ ?_<;>intro h|refine gCW hA ie ?_|refine gCN hB1 ie ?_
     exact gUn id
    |ok u k2=>
     rw[hr_hB1]at hB1;have hB1:zh _ _ _ _ _ _:=hB1
     try simp only[Bn.bind]
     refine gFo func96 λC hC=>?_
     repeat' first|refine gG ?_|exact gD|(exfalso;first|(have h0:=uk h;omega)|(have h0:=uo h;omega))|(exfalso;simp only[ux,uE,uq,uu]at h;omega)|refine gB ?_ ?_<;>intro h|refine gCW hA ie ?_|refine gCW hB1 ie ?_
     all_goals exact gE
 rw[ur o21];have hA:FnX prog 137 [I 0,.one (.bx 5 0),.one (.bx 6 0),.one (.bx 7 0)] (imR d m k 0 1 2++clI e nd) (aE d m e nd (atV d m g nd e 0 k)):=hAt nd e 0 k;cases hr_hA:atV d m g nd e 0 k with
 |out=>exact uh
 |flt er k9=>
  rw[hr_hA]at hA;have hA:yH _ _ _ _ _ _:=hA;refine gFp func96 λC hC=>?_
  repeat' first|refine gG ?_|exact gD|(exfalso;first|(have h0:=uk h;omega)|(have h0:=uo h;omega))|(exfalso;simp only[ux,uE,uq,uu]at h;omega)|refine gB ?_ ?_<;>intro h|refine gCN hA ie ?_
  exact gUn id
 |ok v k1=>
  rw[hr_hA]at hA;have hA:zh _ _ _ _ _ _:=hA
  try simp only[Bn.bind]
  have hB1:FnX prog 137 [I 1,.one (.bx 5 0),.one (.bx 6 0),.one (.bx 7 0)] (imR d m k1 0 1 2++clI e nd) (aE d m e nd (atV d m g nd e 1 k1)):=hAt nd e 1 k1;cases hr_hB1:atV d m g nd e 1 k1 with
  |out=>exact uh
  |flt er k9=>
   rw[hr_hB1]at hB1;have hB1:yH _ _ _ _ _ _:=hB1;refine gFp func96 λC hC=>?_
   repeat' first|refine gG ?_|exact gD|(exfalso;first|(have h0:=uk h;omega)|(have h0:=uo h;omega))|(exfalso;simp only[ux,uE,uq,uu]at h;omega)|refine gB ?_ ?_<;>intro h|refine gCW hA ie ?_|refine gCQ hB1 ie [] ?_
   exact gUn id
  |ok u k2=>
   rw[hr_hB1]at hB1;have hB1:zh _ _ _ _ _ _:=hB1
   try simp only[Bn.bind]
   have hT:=zr1 e.op v u k2;cases hr_hT:zjR e.op v u k2 with
   |out=>exact uh
   |flt er k9=>
    have hk:k9=k2:=zsJ hr_hT;subst hk;rw[hr_hT]at hT;have hT:yH _ _ _ _ _ _:=hT;refine gFp func96 λC hC=>?_
    repeat' first|refine gG ?_|exact gD|(exfalso;first|(have h0:=uk h;omega)|(have h0:=uo h;omega))|(exfalso;simp only[ux,uE,uq,uu]at h;omega)|refine gB ?_ ?_<;>intro h|refine gCW hA ie ?_|refine gCW hB1 ie ?_|refine gCD hT id [0,1,2] ?_
    exact gUn id
   |ok w k9=>
    have hk:k9=k2:=zpg hr_hT;subst hk;rw[hr_hT]at hT;have hT:zh _ _ _ _ _ _:=hT;refine gFo func96 λC hC=>?_
    repeat' first|refine gG ?_|exact gD|(exfalso;first|(have h0:=uk h;omega)|(have h0:=uo h;omega))|(exfalso;simp only[ux,uE,uq,uu]at h;omega)|refine gB ?_ ?_<;>intro h|refine gCW hA ie ?_|refine gCW hB1 ie ?_|refine gC hT ?_
    all_goals exact gE
theorem zgU(d:zf)(m:Hp)(U:xo m): ∀g:Nat,(∀nd e k,zwu d m nd e k (inV d m g nd e k))/\(∀nd e i k,zxk d m nd e i k (atV d m g nd e i k))/\ ∀i nd k,zxj d m i nd k (meV d m g i nd k)
 |0=>⟨λnd e k=>by rw[inV];trivial,λnd e i k=>by rw[atV];trivial,λi nd k=>by rw[meV];trivial⟩
 |g+1=>
  have J:=zgU d m U g
  ⟨λnd e k=>zph U g J.2.1 J.2.2 nd e k,λnd e i k=>zpf g J.1 nd e i k,λi nd k=>zpe g J.1 i nd k⟩
abbrev clX(e:Ex)(nd:Int):RL:=[(5,.box [.bx 0 0]),(6,.box ((yg e).map V.p)),(7,.box [.p (ki nd)])]
noncomputable def tEE(d:zf)(m:Hp)(e:Ex)(nd:Int):Bn->End
 | .ok v k=> .ok (I v) (imR d m k 0 1 2++clX e nd)
 | .flt er k=> .pn (flI er) (imR d m k 0 1 2++clX e nd)
 | .out=> .no
abbrev clK(i:Nat)(nd:Int):RL:=[(5,.box [.bx 0 0]),(6,.box (([ki (i:Int)]).map V.p)),(7,.box [.p (ki nd)])]
noncomputable def tKE(d:zf)(m:Hp)(i:Nat)(nd:Int):Bn->End
 | .ok v k=> .ok (I v) (imR d m k 0 1 2++clK i nd)
 | .flt er k=> .pn (flI er) (imR d m k 0 1 2++clK i nd)
 | .out=> .no
def unB(k:Kn):Option Int->Kn
 |none=>k
 |some _=>⟨k.kn,[]⟩
set_option maxRecDepth 100000 in
theorem zd1(d:zf)(m:Hp)(k:Kn)(v:Int)(rq:Option Int):
 zud prog 136 [.one (.bx 3 0),.one (.bx 4 0),.one (.bx 5 0)] (imR d m k 0 1 2++[(3,.box [.p (ki v)]),(4,.box [.p (ki 0)]),(5,.box [.bx 0 0])]) (rq.map flI)
  (imR d m (unB k rq) 0 1 2++[(3,.box [.p (ki (if rq.isSome then 0 else v))]),(4,.box [.p (ki (rq.getD 0))]),(5,.box [.bx 0 0])]):=by
 refine zrl T (rq.map flI) (func136) ud rfl rfl rfl rfl rfl rfl rfl (by cases rq<;>rfl) λC hC=>?_;cases rq
 all_goals
  repeat' first|refine gG ?_|refine gB ?_ ?_<;>intro h|refine zjY hC rfl ud rfl rfl ?_|refine zkh hC rfl ud rfl rfl ?_|refine zrm hC [.int .i64 _] rfl ud rfl rfl rfl ?_|refine zoc k2G (et:=4) hC rfl rfl ud rfl rfl ?_|refine zd ?_
  exact zK ⟨.inr rfl,id,_,rfl,zlF,⟨rfl,rfl,rfl,rfl,rfl,rfl,uh⟩,rfl,rfl⟩
def trV:Bn->Option (Int×Int×Kn)
 | .ok v k=>some (v,0,k)
 | .flt e k=>some (0,e,⟨k.kn,[]⟩)
 | .out=>none
variable {F:FuncId}{r:Bn}
theorem zsK{e:Ex}{k k1:Kn}{v J:Int}(h:FnX prog F [.one (.bx 5 0),.one (.bx 6 0),.one (.bx 7 0)] (imR d m k 0 1 2++clX e nd) (tEE d m e nd r))(hr:trV r=some (v,J,k1)):
 zh prog 94 [.one (.bx 0 0),.one (.cl F [] [.bx 5 0,.bx 6 0,.bx 7 0])] (imR d m k 0 1 2++clX e nd) (.tup [I v,I J]) (imR d m k1 0 1 2++clX e nd):=by
 refine zhx T (m:=1) (Rm:=imR d m k 0 1 2++clX e nd++[(10,.box [.bx 0 0]),(11,.box [.p (ki 0)]),(12,.box [.p (ki 0)])])
  (sl1:=[(1,.one (.cl F [] [.bx 5 0,.bx 6 0,.bx 7 0])),(2,.one (.bx 10 0)),(4,.one (.bx 11 0)),(5,.one (.bx 12 0))]) (func94) ud rfl rfl rfl rfl rfl rfl rfl rfl rfl rfl rfl (λC hC=>?_) (λC hC=>?_)
 ·repeat' first|refine gG ?_|exact gD|refine gB ?_ ?_<;>intro h
  show Goal _ _ _ [] _ _ _ _;exact zK ⟨ms [(10,1002),(11,1004),(12,1005)],rfl,⟨rfl,rfl,rfl,rfl,uh⟩,⟨rfl,rfl,rfl,rfl,rfl,rfl,rfl,rfl,rfl,uh⟩,rfl,rfl⟩
 ·cases r with
  |out=>cases hr
  |ok v1 k2=>
   cases hr;have h:zh _ _ _ _ _ _:=h;have U:=zd1 d m k1 v none
   repeat' first|refine gG ?_|refine gB ?_ ?_<;>intro h|refine gR h iK ?_
   exact zK ⟨none,_,_,_,iL,.inl rfl,U,yG.refl _,⟨rfl,rfl,rfl,rfl,rfl,rfl,uh⟩,rfl,rfl,rfl,rfl,⟨.inl rfl,id,_,rfl,.refl _,⟨rfl,rfl,rfl,rfl,rfl,rfl,uh⟩,rfl,rfl⟩⟩
  |flt er k2=>
   cases hr;have h:yH _ _ _ _ _ _:=h;have U:=zd1 d m k2 0 (some J)
   repeat' first|refine gG ?_|refine gB ?_ ?_<;>intro h|refine gCN h iK ?_
   exact gU (zK ⟨some (flI J),_,_,_,iL,rfl,U,yG.refl _,⟨rfl,rfl,rfl,rfl,rfl,rfl,uh⟩,rfl,rfl,rfl,rfl,⟨.inl rfl,id,_,rfl,.refl _,⟨rfl,rfl,rfl,rfl,rfl,rfl,uh⟩,rfl,rfl⟩⟩)
theorem zsL{k k1:Kn}{v e:Int}(h:FnX prog F [.one (.bx 5 0),.one (.bx 6 0),.one (.bx 7 0)] (imR d m k 0 1 2++clK i nd) (tKE d m i nd r))(hr:trV r=some (v,e,k1)):
 zh prog 94 [.one (.bx 0 0),.one (.cl F [] [.bx 5 0,.bx 6 0,.bx 7 0])] (imR d m k 0 1 2++clK i nd) (.tup [I v,I e]) (imR d m k1 0 1 2++clK i nd):=by
 refine zhx T (m:=1) (Rm:=imR d m k 0 1 2++clK i nd++[(10,.box [.bx 0 0]),(11,.box [.p (ki 0)]),(12,.box [.p (ki 0)])])
  (sl1:=[(1,.one (.cl F [] [.bx 5 0,.bx 6 0,.bx 7 0])),(2,.one (.bx 10 0)),(4,.one (.bx 11 0)),(5,.one (.bx 12 0))]) (func94) ud rfl rfl rfl rfl rfl rfl rfl rfl rfl rfl rfl (λC hC=>?_) (λC hC=>?_)
 ·repeat' first|refine gG ?_|exact gD|refine gB ?_ ?_<;>intro h
  show Goal _ _ _ [] _ _ _ _;exact zK ⟨ms [(10,1002),(11,1004),(12,1005)],rfl,⟨rfl,rfl,rfl,rfl,uh⟩,⟨rfl,rfl,rfl,rfl,rfl,rfl,rfl,rfl,rfl,uh⟩,rfl,rfl⟩
 ·cases r with
  |out=>cases hr
  |ok v1 k2=>
   cases hr;have h:zh _ _ _ _ _ _:=h;have J:=zd1 d m k1 v none
   repeat' first|refine gG ?_|refine gB ?_ ?_<;>intro h|refine gR h iK ?_
   exact zK ⟨none,_,_,_,iL,.inl rfl,J,yG.refl _,⟨rfl,rfl,rfl,rfl,rfl,rfl,uh⟩,rfl,rfl,rfl,rfl,⟨.inl rfl,id,_,rfl,.refl _,⟨rfl,rfl,rfl,rfl,rfl,rfl,uh⟩,rfl,rfl⟩⟩
  |flt er k2=>
   cases hr;have h:yH _ _ _ _ _ _:=h;have J:=zd1 d m k2 0 (some e)
   repeat' first|refine gG ?_|refine gB ?_ ?_<;>intro h|refine gCN h iK ?_
   exact gU (zK ⟨some (flI e),_,_,_,iL,rfl,J,yG.refl _,⟨rfl,rfl,rfl,rfl,rfl,rfl,uh⟩,rfl,rfl,rfl,rfl,⟨.inl rfl,id,_,rfl,.refl _,⟨rfl,rfl,rfl,rfl,rfl,rfl,uh⟩,rfl,rfl⟩⟩)
def NzF(a:Ft):Prop:= ∀f,a=some f-> ¬f.2.2=0
theorem NzF.or{a b:Ft}(ha:NzF a)(J:NzF b):NzF (orF a b):=by
 unfold orF;cases a with
 |none=>exact J
 |some f=>exact ha
theorem NzF.first{α:Type}{g:α->Nat->Ft}(h: ∀x i,NzF (g x i)): ∀(l:List α) (i:Nat),NzF (firstF g l i)
 | [],_=>λf h=>by cases h
 |x::r,i=>by
  unfold firstF;cases hg:g x i with
  |none=>exact NzF.first h r (i+1)
  |some f=>intro f' e;cases e;exact h x i f hg
theorem zsM(d:zf):NzF (zdq d):=by
 unfold zdq jJ zbI zcr jK zaR
 repeat' first|apply NzF.or|(apply NzF.first;intro x i)
 all_goals (intro f hf;(try dsimp only at hf);(try simp only[ftE,yZ]at hf);repeat' split at hf)
 all_goals first
  |(cases hf;done)
  |(cases hf;exact(by decide: ¬(10:Int)=0))
  |(cases hf;exact(by decide: ¬(9:Int)=0))
  |(cases hf;exact(by decide: ¬(11:Int)=0))
  |(cases hf;assumption)
theorem zvj(h:(zcl d).2.2=0):ye d=true/\zdq d=none:=by
 unfold zcl at h;cases hv:ye d with
 |false=>rw[hv]at h;simp at h
 |true=>
  rw[hv]at h;simp only[qx,uN,zwj]at h;refine⟨rfl,?_⟩;cases hf:zdq d with
  |none=>rfl
  |some f=>rw[hf]at h;exact absurd h (zsM d f hf)
theorem vg(hd:ye d=true)(h:zQ d m=true):xo m/\zgG d m:=by
 have hs:=jr hd;simp only[zQ,um,uq,ux,uu]at h;obtain⟨⟨⟨⟨⟨_,hg⟩,hn⟩,U⟩,_⟩,_⟩:=h;refine⟨⟨by have:=hs.gl;omega,ua,λx hx=>?_⟩,λx hx=>?_⟩
 ·obtain⟨h0,ty,J,hle⟩:=xR (List.all_eq_true.1 U x hx);have:=hs.tyf ty (uv J);omega
 ·obtain⟨h0,ty,J,_⟩:=xR (List.all_eq_true.1 U x hx);exact⟨h0,(uy.1 J).1⟩
theorem zpi{t:zX}(h:t∈d.types):yE d t.n=true:=by
 unfold yE zf0;rw[ot];exact⟨t,h,ue⟩
theorem zpj(hw:zgG d m){n:Int}(h:isB m n=true):tyI d m n=(⟨#[]⟩:UI)\/yE d (tyI d m n)=true:=by
 unfold isB at h;simp only[um,uq]at h;unfold tyI;by_cases J:n=0
 ·rw[uw J];exact .inl rfl
 ·rw[ur J];obtain⟨x,U⟩:=za (l:=m.n) (i:=(n - 1).toNat) ua;obtain⟨h1,h2⟩:=hw x (uv U);obtain⟨y,hy⟩:=za h2;rw[show tyN d (ndG m n).t=y.n by simp only[ndG,U,Option.getD_some,tyN,hy,uG]];exact .inr (zpi (uv hy))
theorem zmf(U:xo m)(g:Nat)(nd:Int)(e:Ex)(k:Kn):
 FnX prog 95 [.one (.bx 5 0),.one (.bx 6 0),.one (.bx 7 0)] (imR d m k 0 1 2++clX e nd) (tEE d m e nd (inV d m g nd e k)):=by
 have J:=(zgU d m U g).1 nd e k;cases hr:inV d m g nd e k with
 |out=>trivial
 |ok v k1=>
  rw[hr]at J;have J:zh _ _ _ _ _ _:=J;refine gFo func95 λC hC=>?_
  repeat' first|refine gG ?_|refine gB ?_ ?_<;>intro h|refine gR J ic ?_
  exact gE
 |flt er k1=>
  rw[hr]at J;have J:yH _ _ _ _ _ _:=J;refine gFp func95 λC hC=>?_
  repeat' first|refine gG ?_|refine gB ?_ ?_<;>intro h|refine gCN J ic ?_
  exact gUn id
theorem zmg(U:xo m)(g:Nat)(nd:Int)(i:Nat)(k:Kn):
 FnX prog 258 [.one (.bx 5 0),.one (.bx 6 0),.one (.bx 7 0)] (imR d m k 0 1 2++clK i nd) (tKE d m i nd (meV d m g i nd k)):=by
 have J:=(zgU d m U g).2.2 i nd k;cases hr:meV d m g i nd k with
 |out=>trivial
 |ok v k1=>
  rw[hr]at J;have J:zh _ _ _ _ _ _:=J;refine gFo func258 λC hC=>?_
  repeat' first|refine gG ?_|refine gB ?_ ?_<;>intro h|refine gR J ic ?_
  exact gE
 |flt er k1=>
  rw[hr]at J;have J:yH _ _ _ _ _ _:=J;refine gFp func258 λC hC=>?_
  repeat' first|refine gG ?_|refine gB ?_ ?_<;>intro h|refine gCN J ic ?_
  exact gUn id
structure EnT where
 ac:Int
 be:Int
 af:Int
 bo:Int
def enR(x:EnT):List PV:=[ki x.ac,ki x.be,ki x.af,ki x.bo]
def enL(l:List EnT):PV:= .sl 4 (l.map enR)
def bdB(n:Int):Bool:=decide (-1099511627776<=n)&&decide (n<=1099511627776)
def wU(x:EnT):Bool:=decide (x.ac<0)|| !bdB x.ac|| !bdB x.be|| !bdB x.af|| !bdB x.bo
theorem zd2{x:EnT}(h:wU x=false):(0<=x.ac/\x.ac<=1099511627776)/\(-1099511627776<=x.be/\x.be<=1099511627776)/\(-1099511627776<=x.af/\x.af<=1099511627776)/\ -1099511627776<=x.bo/\x.bo<=1099511627776:=by
 simp only[wU,bdB,uT,uE,um,uq,uu]at h;omega
def zpk(x:EnT):Bool:= !decide (x.bo=1099511627776)&&decide (x.ac+x.af - x.be>x.bo)
theorem zmh(f:FuncId)(l:List EnT)(p:EnT->Unit->Bool)(nx:EnT->Unit->Unit)(inv:Unit->Prop)
 (hf: ∀x∈l,∀s:Unit,inv s->zh prog f [zn (enR x)] [] (.bq (p x s)) ((λs:Unit=>[]) (nx x s))/\(p x s=false->inv (nx x s))) (s:Unit) (hs:inv s):
 zh prog 36 [pS (.sl 4 (l.map enR)),.one (.cl f [] [])] [] (I (idxR p nx l 0 s).1) ((λs:Unit=>[]) (idxR p nx l 0 s).2):=by
 refine gFo func36 λC hC=>?_;have hs0:=hs;refine wG 0 rfl λhl=>?_;rw[uj]at hl
 repeat' first|refine gG ?_|refine gB ?_ ?_<;>intro h
 rw[uj]
 refine zj (λq:Nat×Unit=>q.1<=l.length/\inv q.2/\idxR p nx (l.drop q.1) q.1 q.2=idxR p nx l 0 s) (λq=>(λs:Unit=>([(0,pS (.sl 4 (l.map enR))),(1,.one (.cl f [] [])),(7,I l.length),(8,I q.1)],[])) q.2) (λq=>l.length - q.1) hC
  (0,s) ⟨uD _,hs,rfl⟩ id gM ?_
 generalize idxR p nx l 0 s=res;clear hs hs0;rintro⟨i,s⟩ ⟨hi,hv,J⟩;simp only at hi hv J;refine gLc ?_ ?_<;>intro hh
 ·have hlt:i<l.length:=by simpa using hh
  clear hh;obtain⟨x,hx⟩:=za hlt;rw[drop_at hx]at J;simp only[idxR]at J;have hv2:=(hf x (uv hx) s hv).2
  repeat' first|refine gG ?_|refine gB ?_ ?_<;>intro h|refine gIt (zl hx) ?_|refine gR (hf x (uv hx) s hv).1 id ?_|refine zk ?_
  ·rw[uw uf]at J;subst J;exact gF
  ·have U:p x s=false:=by assumption
   rw[U]at J;simp only[uB,uN]at J;rw[wrap64 ua];exact zg (i+1,nx x s) ⟨by simp only;omega,hv2 U,J⟩ id (by simp only;omega) gM
 ·have hge: ¬i<l.length:=by simpa using hh
  rw[uC ua]at J;simp only[idxR]at J;subst J
  repeat' first|refine gG ?_|refine gB ?_ ?_<;>intro h|refine zd ?_
  exact gF
theorem zsN(f:FuncId)(l:List EnT)(p:EnT->Unit->Bool)(nx:EnT->Unit->Unit)(inv:Unit->Prop)
 (hf: ∀x∈l,∀s:Unit,inv s->zh prog f [zn (enR x)] [] (.bq (p x s)) ((λs:Unit=>[]) (nx x s))/\(p x s=false->inv (nx x s))) (s:Unit) (J:inv s):
 zh prog 34 [pS (.sl 4 (l.map enR)),.one (.cl f [] [])] [] (.bq (anyR p nx l s).1) ((λs:Unit=>[]) (anyR p nx l s).2):=by
 refine gFo func34 λC hC=>?_
 repeat' first|refine gG ?_|refine gB ?_ ?_<;>intro h|refine gR (zmh f l p nx inv hf s J) (nm []) ?_
 exact zK ⟨.inl rfl,id,_,rfl,.qq (zaV p nx l 0 s),by rw[<-zaW p nx l 0 s];exact uh,rfl,rfl⟩
theorem vh(n:Int):zh prog 38 [I n] [] (.bq (bdB n)) []:=by
 unfold bdB;refine gFo func38 λC hC=>?_
 repeat' first|refine gG ?_|refine gB ?_ ?_<;>intro h|refine gQ ?_|refine gL ?_
 all_goals (try simp only[uj]at*)
 all_goals first
  |rfl
  |(simp;done)
  |(simp_all;done)
  |(simp_all;omega)
  |(intros;simp_all<;>omega)
theorem zpl(x:EnT):zh prog 35 [zn (enR x)] [] (.bq (wU x)) []:=by
 have J:=vh x.ac;have h2:=vh x.be;have h3:=vh x.af;have h4:=vh x.bo;unfold wU;generalize bdB x.ac=b1 at*;generalize bdB x.be=b2 at*;generalize bdB x.af=b3 at*;generalize bdB x.bo=b4 at*;refine gFo func35 λC hC=>?_
 repeat' first|refine gG ?_|refine gB ?_ ?_<;>intro h|refine gC J ?_|refine gC h2 ?_|refine gC h3 ?_|refine gC h4 ?_|refine gQ ?_|refine gL ?_
 all_goals (try simp only[uj]at*)
 all_goals first
  |rfl
  |(simp;done)
  |(simp_all;done)
  |(simp_all;omega)
  |(intros;simp_all<;>omega)
inductive Vn (α:Type) where
 |ok (v:α)
 |flt (e:Int)
 |out
variable {α:Type}
def Vn.bind{β:Type}:Vn α->(α->Vn β)->Vn β
 | .ok v,f=>f v
 | .flt e,_=> .flt e
 | .out,_=> .out
def Bn.vn:Bn->Vn Int
 | .ok v _=> .ok v
 | .flt e _=> .flt e
 | .out=> .out
abbrev kn0:Kn:=⟨[],[]⟩
structure Scp where
 ps:List Fld
 va:List Int
def vbV(d:zf)(m:Hp)(c:Scp)(s:Str):Vn Int:=match ixF c.ps s with
 |some i=>(match c.va[i]? with
  |some v=> .ok v
  |none=> .out)
 |none=>match ixF d.globals s with
  |some i=>(match m.g[i]? with
   |some v=> .ok v
   |none=> .out)
  |none=> .ok 0
def nbV(n:Int):Vn Int:=if n< -1099511627776\/1099511627776<n then .flt 5 else .ok n
def pdV(a b:Int):Vn Int:=if a.natAbs*b.natAbs>1099511627776 then .flt 5 else .ok (a*b)
def tw0(op a b:Int):Vn Int:=
 if op=9 then nbV (a+b)else if op=10 then nbV (a - b)else if op=11 then pdV a b
 else if op=14 then .ok (zcH (decide (a=b)))else if op=15 then .ok (zcH (!decide (a=b)))
 else if op=16 then .ok (zcH (decide (a<b)))else if op=17 then .ok (zcH (decide (a<=b)))
 else if op=22 then .ok (if a<b then b else a)else if op=23 then .ok (if b<a then b else a)
 else if b=0 then .flt 18 else if op=12 then .ok (Int.tdiv a b)else .ok (Int.tmod a b)
def twV(op a b:Int):Vn Int:=if inB a/\inB b then tw0 op a b else .out
def meaE(d:zf)(m:Hp)(g:Nat)(s:Str)(nd:Int):Option (Int×Int):=
 if isB m nd=false then some (0,2)else match zp8 d s with
  |none=>some (0,9)
  |some i=>match d.measures[i]? with
   |none=>none
   |some x=>if ¬nd=0/\ ¬tyI d m nd=x.t then some (0,11)else(trV (meV d m g i nd kn0)).map λq=>(q.1,q.2.1)
def mesV(d:zf)(m:Hp)(g:Nat)(s:Str)(nd:Int):Vn Int:=match meaE d m g s nd with
 |none=> .out
 |some (v,e)=>if e=0 then .ok v else .flt e
def opsV(d:zf)(m:Hp)(g:Nat)(e:Ex)(l:List Int):Vn Int:=match l[0]? with
 |none=> .out
 |some a=>if e.op=5 then(fldI d m a e.s kn0).vn else if e.op=7 then mesV d m g e.s a
  else if e.op=8 then(if inB a then nbV (-a)else .out)else if e.op=18 then(if inB a then .ok (1 - a)else .out)
  else if e.op=24 then(if inB a then .ok (zi2 a)else .out)
  else match l[1]? with
   |none=> .out
   |some b=>twV e.op a b
mutual
def vaV(d:zf)(m:Hp)(G:Nat)(c:Scp):Nat->Ex->Vn Int
 |0,_=> .out
 |g+1,e=>if e.op=1\/e.op=2\/e.op=3 then .ok e.n else if e.op=4 then vbV d m c e.s
  else if e.op=19\/e.op=20 then(vatV d m G c g e 0).bind λa=>if(decide (a=1)==decide (e.op=19))=true then vatV d m G c g e 1 else .ok a
  else if e.op=21 then(vatV d m G c g e 0).bind λa=>if inB a/\a<=2 then vatV d m G c g e (2 - a).toNat else .out
  else if e.l.length<=1000000 then(vasV d m G c g e.l).bind λl=>opsV d m G e l else .out
def vatV(d:zf)(m:Hp)(G:Nat)(c:Scp):Nat->Ex->Nat->Vn Int
 |0,_,_=> .out
 |g+1,e,i=>match e.l[i]? with
  |none=> .out
  |some x=>vaV d m G c g x
def vasV(d:zf)(m:Hp)(G:Nat)(c:Scp):Nat->List Ex->Vn (List Int)
 |0,_=> .out
 |_+1,[]=> .ok []
 |g+1,x::r=>(vaV d m G c g x).bind λv=>(vasV d m G c g r).bind λl=> .ok (v::l)
end
def evV:Vn Int->Option (Int×Int)
 | .ok v=>some (v,0)
 | .flt e=>some (0,e)
 | .out=>none
def vi(d:zf)(m:Hp):Bool:=decide ((zcl d).2.2=0)&&zQ d m
def zxl(d:zf)(m:Hp)(g:Nat)(e:Ex)(nd:Int):Option (Int×Int):=
 if vi d m=false\/y2 e=false then some (0,1)else if isB m nd=false then some (0,2)
 else if ¬(exT d (zbe d (tyI d m nd)) false e).2=0 then some (0,(exT d (zbe d (tyI d m nd)) false e).2)
 else(trV (inV d m g nd e kn0)).map λq=>(q.1,q.2.1)
def sumN(f:Int->Option (Int×Int)):List Int->Int->Vn Int
 | [],s=> .ok s
 |k::r,s=>match f k with
  |none=> .out
  |some (n,e)=>if ¬e=0 then .flt e else if inB n then(if bdB (s+n)=true then sumN f r (s+n)else .flt 5)else .out
def zx0(f:Pt->Int->Vn Int):List Pt->Int->Vn Int
 | [],s=> .ok s
 |p::r,s=>(f p s).bind λs=>zx0 f r s
def ptN(d:zf)(m:Hp)(g:Nat)(x:Ex)(l:List Int)(s:Int):Vn Int:=sumN (zxl d m g x) l s
def ptL(d:zf)(m:Hp)(p:Pt)(l:List Int):List Int:=if p.t=(⟨#[]⟩:UI)then [0]else l.filter λk=>decide (tyN d (ndG m k).t=p.t)
def ptP(d:zf)(m:Hp)(g:Nat)(l:List Int)(ps:List Pt)(s:Int):Vn Int:=zx0 (λp s=>ptN d m g p.x (ptL d m p l) s) ps s
def ptE(d:zf)(m:Hp)(g:Nat):Option (Int×Int):=if zQ d m=false then some (0,1)else evV (ptP d m g (jS d m).order d.pots 0)
def plB(t:Str):Bool:=decide (t=(⟨#[105,110,116]⟩:UI))||decide (t=(⟨#[98,111,111,108]⟩:UI))
def agB(q:Int×Fld):Bool:= !bdB q.1||(decide (q.2.t=(⟨#[98,111,111,108]⟩:UI))&& !decide (q.1=0)&& !decide (q.1=1))
def chE(d:zf)(c:Cl):Int×Pr:=match zbG d c.p with
 |none=>(9,zoN)
 |some i=>match d.procs[i]? with
  |none=>(9,zoN)
  |some p=>if(!decide (p.res=(⟨#[]⟩:UI))&& !plB p.res)||p.params.any (λf=> !plB f.t)then(12,zoN)
   else if ¬c.a.length=p.params.length then(3,zoN)else if(List.zip c.a p.params).any agB=true then(11,zoN)else(0,p)
def zx1(d:zf)(s:Str):Option Nat:=d.bounds.findIdx? λb=>decide (b.p=s)
def bnE(d:zf)(m:Hp)(g:Nat)(p:Pr)(c:Cl):Option (Int×Int):=match zx1 d p.n with
 |none=>some (1099511627776,0)
 |some i=>match d.bounds[i]? with
  |none=>none
  |some b=>evV (vaV d m g ⟨p.params,c.a⟩ g b.x)
def entE(d:zf)(m:Hp)(g:Nat)(c:Cl)(fuel:Int):Option (EnT×Option Hp×Int):=
 if ¬(chE d c).1=0 then some (⟨0,0,0,0⟩,none,(chE d c).1)else match ptE d m g with
 |none=>none
 |some (be,e)=>if ¬e=0 then some (⟨0,0,0,0⟩,none,e)else match bnE d m g (chE d c).2 c with
  |none=>none
  |some (bo,e)=>if ¬e=0 then some (⟨0,0,0,0⟩,none,e)else if ¬zej d m fuel=0 then some (⟨0,be,0,bo⟩,none,zej d m fuel)
   else if ¬za6 d m c=0 then some (⟨0,be,0,bo⟩,none,za6 d m c)else match plF (rnV d fuel g (chE d c).2 c.a (mc0 m))with
   |none=>none
   |some (_,_,x)=>if 1099511627776<x.acc.length then none else match ptE d ⟨x.g,x.ns⟩ g with
    |none=>none
    |some (af,e)=>some (⟨(ndC x.acc:Nat),be,af,bo⟩,some ⟨x.g,x.ns⟩,e)
def audF(f:Hp->Cl->Option (EnT×Option Hp×Int)):List Cl->Hp->Option (List EnT×Option Hp×Int)
 | [],m=>some ([],some m,0)
 |c::r,m=>match f m c with
  |none=>none
  |some (x,some m2,e)=>if ¬e=0 then some ([],none,e)else(audF f r m2).map λq=>if q.2.2=0 then(x::q.1,q.2)else q
  |some (_,none,e)=>some ([],none,e)
def zxm(d:zf)(g:Nat)(fuel:Int)(l:List Cl)(m:Hp):Option (List EnT×Option Hp×Int):=audF (λm c=>entE d m g c fuel) l m
def ztz(d:zf)(m:Hp)(g:Nat)(l:List Cl)(fuel:Int):Option (List EnT×Option Hp×Int):=
 if vi d m=false then some ([],none,1)else if fuel<0\/1048576<fuel then some ([],none,2)else if 2000<l.length then some ([],none,4)else zxm d g fuel l m
theorem zsO(h:vi d m=false):(zcl d).2.2≠0\/zQ d m=false:=by
 unfold vi at h;simp only[qa,uu]at h;exact h
theorem vl(h:vi d m=true):(zcl d).2.2=0/\zQ d m=true:=by
 unfold vi at h;simp only[um,uq]at h;exact h
theorem zig{g:Nat}{e:Ex}{v:Int}(h:zxl d m g e nd=some (v,er)):zh prog 55 [zn (zr d),zn (yp m),zn (yg e),I nd] [] (.tup [I v,I er]) []:=by
 unfold zxl at h;cases h1:vi d m with
 |false=>
  rw[uw (.inl h1)]at h;cases h;have U:=zpa (zsO h1);refine gFo func55 λC hC=>?_
  repeat' first|refine gG ?_|exact gD|refine gB ?_ ?_<;>intro h|refine gC U ?_|refine zd ?_
  exact gF
 |true=>
  obtain⟨hc,hv⟩:=vl h1;obtain⟨hd,hf⟩:=zvj hc;obtain⟨hs,hw⟩:=vg hd hv;have U:=zl7 hc hv;have hE:=yP e;cases h2:y2 e with
  |false=>
   rw[uw (.inr h2)]at h;cases h;rw[h2]at hE;refine gFo func55 λC hC=>?_
   repeat' first|refine gG ?_|exact gD|refine gB ?_ ?_<;>intro h|refine gR U il ?_|refine gC hE ?_|refine zd ?_
   exact gF
  |true=>
   rw[ur (by simp[h1,h2])]at h;rw[h2]at hE;have hI:=zqA d m kn0 nd;cases h3:isB m nd with
   |false=>
    rw[uw h3]at h;cases h;rw[h3]at hI;refine gFo func55 λC hC=>?_
    repeat' first|refine gG ?_|exact gD|refine gB ?_ ?_<;>intro h|refine gR U il ?_|refine gC hE ?_|refine gR hI il ?_|refine zd ?_
    exact gF
   |true=>
    rw[ur (by simp[h3])]at h;rw[h3]at hI;have hT:=zmb hs hw kn0 h3;have J:=zgR hd hf (tyI d m nd) e h2 (zpj hw h3);generalize exT d (zbe d (tyI d m nd)) false e=q at h J;obtain⟨q1,q2⟩:=q;simp only at h J;by_cases h4:q2=0
    ·subst h4;rw[ur ue]at h;cases ht:trV (inV d m g nd e kn0)with
     |none=>rw[ht]at h;cases h
     |some w=>
      obtain⟨v1,e1,k1⟩:=w;rw[ht]at h;cases h;have hX:=zsK (zmf hs g nd e kn0) ht;refine gFo func55 λC hC=>?_
      repeat' first|refine gG ?_|exact gD|refine gB ?_ ?_<;>intro h|refine gR U il ?_|refine gC hE ?_|refine gR hI il ?_|refine gK hT il ?_|refine gC J ?_|refine gR hX (nm [100,101,102,3,4,1010,1006,1007]) ?_|refine zd ?_
      exact gF
    ·rw[uw h4]at h;cases h;refine gFo func55 λC hC=>?_
     repeat' first|refine gG ?_|(exfalso;simp[h4]at h;done)|exact gD|refine gB ?_ ?_<;>intro h|refine gR U il ?_|refine gC hE ?_|refine gR hI il ?_|refine gK hT il ?_|refine gC J ?_|refine zd ?_
     exact gF
theorem zpm(h1:vi d m=true){g:Nat}{s:Str}{v:Int}(h:meaE d m g s nd=some (v,er)):zh prog 227 [zn (zr d),zn (yp m),Sr s,I nd] [] (.tup [I v,I er]) []:=by
 unfold meaE at h;obtain⟨hc,hv⟩:=vl h1;obtain⟨hd,hf⟩:=zvj hc;obtain⟨hs,hw⟩:=vg hd hv;have hM:=zl7 hc hv;have U:=zqA d m kn0 nd;cases h3:isB m nd with
 |false=>
  rw[uw h3]at h;cases h;rw[h3]at U;refine gFo func227 λC hC=>?_
  repeat' first|refine gG ?_|exact gD|refine gB ?_ ?_<;>intro h|refine gR hM il ?_|refine gR U il ?_|refine zd ?_
  exact gF
 |true=>
  rw[ur (by simp[h3])]at h;rw[h3]at U;have J:=zfn d m kn0 s;have hT:=zmb hs hw kn0 h3;cases hi:zp8 d s with
  |none=>
   rw[hi]at h J;cases h;simp only[idxI]at J;refine gFo func227 λC hC=>?_
   repeat' first|refine gG ?_|exact gD|refine gB ?_ ?_<;>intro h|refine gR hM il ?_|refine gR U il ?_|refine gR J il ?_|refine zd ?_
   exact gF
  |some i=>
   rw[hi]at h J;simp only[idxI]at J;cases hx:d.measures[i]? with
   |none=>simp only[hx]at h;cases h
   |some x=>
    simp only[hx]at h;by_cases h4: ¬nd=0/\ ¬tyI d m nd=x.t
    ·rw[uw h4]at h;cases h;refine gFo func227 λC hC=>?_
     repeat' first|refine gG ?_|exact gD|(exfalso;have h9:=uk h;omega)|(exfalso;simp[h4.1,h4.2]at h;done)|refine gB ?_ ?_<;>intro h|refine gR hM il ?_|refine gR U il ?_|refine gR J il ?_|refine gK hT il ?_|refine gIt (zl hx) ?_|refine zd ?_
     exact gF
    ·rw[ur h4]at h;cases ht:trV (meV d m g i nd kn0)with
     |none=>rw[ht]at h;cases h
     |some w=>
      obtain⟨v1,e1,k1⟩:=w;rw[ht]at h;cases h;have hX:=zsL (zmg hs g nd i kn0) ht;refine gFo func227 λC hC=>?_
      repeat' first|refine gG ?_|exact gD|(exfalso;have h9:=uk h;omega)|(exfalso;simp at h;simp_all;done)|refine gB ?_ ?_<;>intro h|refine gR hM il ?_|refine gR U il ?_|refine gR J il ?_|refine gK hT il ?_|refine gIt (zl hx) ?_|refine gR hX (nm [100,101,102,3,4,1010,1012,1007]) ?_|refine zd ?_
      all_goals exact gF
theorem xS{a b:Ft}(h:orF a b=none):a=none/\b=none:=by
 cases a with
 |none=>exact⟨rfl,h⟩
 |some f=>cases h
theorem zb9{α:Type}{g:α->Nat->Ft}: ∀ {l:List α} {k:Nat},firstF g l k=none-> ∀ {i:Nat} {x:α},l[i]?=some x->g x (k+i)=none
 | [],_,_,i,x,hx=>by simp at hx
 |y::l,k,h,i,x,hx=>by
  have e:firstF g (y::l) k=match g y k with|some f=>some f|none=>firstF g l (k+1):=rfl
  rw[e]at h;cases hg:g y k with
  |some f=>simp_all
  |none=>
   rw[hg]at h;cases i with
   |zero=>simp_all
   |succ i=>rw[u6]at hx;rw[show k+(i+1)=k+1+i by omega];exact zb9 h hx
variable {g:α->Nat->Ft}
theorem jt{l:List α}{k:Nat}(h:firstF g l k=none){x:α}(J:x∈l): ∃i,g x (k+i)=none:=by
 obtain⟨i,U⟩:=tK J;exact⟨i,zb9 h U⟩
variable {j:Nat}
theorem zvk{l:List Str}(h:twB l i=false)(J:j<i){a b:Str}(ha:l[j]?=some a)(U:l[i]?=some b): ¬a=b:=by
 intro e;subst e;unfold twB lsA at h;rw[U,List.any_eq_false]at h;have hm:a∈l.take i:=uv (i:=j) (by rw[List.getElem?_take_of_lt J];exact ha)
 grind
theorem zxn{key:α->Str}{l:List α}(h: ∀(i:Nat) x,l[i]?=some x->twB (l.map key) i=false){a b:α}(ha:l[i]?=some a)(U:l[j]?=some b)(e:key a=key b):i=j:=by
 have q: ∀ {i j:Nat} {a b:α},l[i]?=some a->l[j]?=some b->key a=key b-> ¬j<i:=λ{i j a b} ha U e J=>
  zvk (h i a ha) J (a:=key b) (b:=key a) (by rw[uO,U];rfl) (by rw[uO,ha];rfl) e.symm
 grind
theorem zgV{d:zf}{all:List Str}: ∀ {l:List Fld} {i:Nat},fieldsE d all l i=0-> ∀f∈l,yL d f.t=true
 | [],_,_,f,hf=>by cases hf
 |x::l,i,h,f,hf=>by
  unfold fieldsE at h;split at h
  ·cases h
  ·split at h
   ·cases h
   ·rename_i h1 h2;cases hf with
    |head=>simpa using h2
    |tail _ hf=>exact zgV h f hf
structure KD (d:zf):Prop extends TyD d where
 gl: ∀f∈d.globals,yL d f.t=true
 fl: ∀t∈d.types,∀f∈t.f,yL d f.t=true
theorem zmi:isName (⟨#[105,110,116]⟩:UI)=false/\isName (⟨#[98,111,111,108]⟩:UI)=false/\isName (⟨#[110,105,108]⟩:UI)=false:=by decide
theorem zvl(hv:ye d=true)(hc:zdq d=none):KD d:=by
 obtain⟨U,_⟩:=xS hc;obtain⟨U,h2⟩:=xS U;obtain⟨h2,h3⟩:=xS h2
 have ht: ∀t∈d.types,isName t.n=true:=λt ht=>by
  simp only[ye,um,List.all_eq_true]at hv;have:=hv.1.1.2 t ht;simp only[zaT,um]at this;exact this.1
 obtain⟨n1,n2,n3⟩:=zmi;refine⟨⟨λt h=>⟨λe=>?_,λe=>?_,λe=>?_⟩,λi j a b ha hb e=>zxn (key:=λt:zX=>t.n) (λi x hx=>?_) ha hb e⟩,λf hf=>?_,λt h f hf=>?_⟩
 ·grind
 ·grind
 ·grind
 ·have:=zb9 U hx
  simp_all
 ·obtain⟨i,J⟩:=jt h3 hf
  grind
 ·obtain⟨i,J⟩:=jt h2 h;unfold ftE at J;split at J
  ·rename_i q;exact zgV q f hf
  ·cases J
theorem zxo(hv:ye d=true)(U:zdq d=none)(h0:0<=fuel)(h1:fuel<=1048576):DP d fuel:=by
 have hs:=jr hv;have hk:=zvl hv U;obtain⟨_,h2⟩:=xS U;obtain⟨_,h2⟩:=xS h2;obtain⟨_,h2⟩:=xS h2;obtain⟨h2,_⟩:=xS h2;simp only[ye,jl,um,List.all_eq_true]at hv;refine⟨⟨hk.toTyD,hs.tyf,h0,h1⟩,λp hp=>?_⟩;have J:=hv.1.2 p hp;simp only[j8,xb,um,uq]at J;obtain⟨⟨⟨⟨_,⟨q2,_⟩⟩,⟨q3,_⟩⟩,_⟩,q5⟩:=J;obtain⟨i,hi⟩:=jt h2 hp;split at hi
 ·rename_i q;exact⟨zdy p.body 0 1 0 q q5 ua ua,ua,ua⟩
 ·cases hi
variable {t:Str}
section
variable {v:Int}
theorem zag(hT:zY d=true){y:zX}(h:d.types[j]?=some y):wY d y.n=(j:Int):=by
 simp only[zY,um,List.all_eq_true]at hT;have J:(y,j)∈d.types.zipIdx:=uv (i:=j) (by rw[oH,h];simp);have:=hT.2 _ J;simp only[zwk,um,uq]at this;exact this.1
theorem zih(hk:KD d)(hT:zY d=true)(ht:yL d t=true)(hsh: ∀x∈m.n,0<=x.t/\ ∃y,d.types[x.t.toNat]?=some y):zcI d m t v=true↔VT d m.n t v:=by
 unfold zcI VT;by_cases U:t=(⟨#[105,110,116]⟩:UI)
 ·rw[uw U,uw U];simp only[um,uq];rfl
 rw[ur U,ur U];by_cases e2:t=(⟨#[98,111,111,108]⟩:UI)
 ·simp_all
 rw[ur e2,ur e2]
 have hn:yE d t=true:=by
  unfold yL at ht;simp only[uJ,uq,U,e2,oI]at ht;exact ht
 unfold yE zf0 at hn;rw[ot]at hn;obtain⟨y,hy,J⟩:=hn;have J:=uk J;obtain⟨j,hj⟩:=tK hy;rw[ur (by rw[<-J];exact(hk.nm y hy).2.2)];simp only[uJ,um,uq,and_assoc];have hti:=zag hT hj;rw[J]at hti;refine or_congr Iff.rfl ⟨λ⟨h1,h2,h3⟩=>⟨ua,h2,?_⟩,λ⟨h1,h2,h3⟩=>⟨ua,h2,?_⟩⟩
 all_goals obtain⟨x,hx⟩:=za (l:=m.n) (i:=(v - 1).toNat) ua
 all_goals obtain⟨h0,z,hz⟩:=hsh x (uv hx)
 ·rw[hx]at h3;simp only[uG,ui]at h3;unfold nmT
  simp_all
 ·unfold nmT at h3;rw[hx]at h3;simp only[qf]at h3;rw[hz]at h3;simp only[uG,Option.getD_some]at h3;have:=zag hT hz;rw[hx];simp only[uG,ui];rw[<-h3,this];omega
end
theorem zaK(h:zQ d m=true):zY d=true:=by
 simp only[zQ,um]at h;simp_all
theorem zxp(hk:KD d)(h:zQ d m=true):MT d m.g m.n:=by
 have hT:=zaK h;simp only[zQ,um,uq,ux,uu,List.all_eq_true]at h;obtain⟨⟨⟨⟨⟨_,h1⟩,h2⟩,h3⟩,h4⟩,h5⟩:=h
 have J: ∀x∈m.n,0<=x.t/\ ∃y,d.types[x.t.toNat]?=some y:=λx hx=>by
  obtain⟨q0,y,U,_⟩:=xR (h3 x hx);exact⟨q0,y,U⟩
 refine⟨ua,λi f v hf hv=>?_,λx hx=>?_,ua⟩
 ·have hz:=h4 (f,v) (uv (i:=i) (by rw[tq];exact⟨hf,hv⟩));exact(zih hk hT (hk.gl f (uv hf)) J).1 hz
 ·obtain⟨q0,y,U,hl⟩:=xR (h3 x hx);refine⟨q0,y,U,hl,λi f v hf hv=>?_⟩;have hn:=h5 x hx;unfold xQ at hn;rw[U]at hn;simp only[uG,Option.getD_some,List.all_eq_true]at hn;have hz:=hn (f,v) (uv (i:=i) (by rw[tq];exact⟨hf,hv⟩));exact(zih hk hT (hk.fl y (uv U) f (uv hf)) J).1 hz
theorem zii{g:List Int}{ns:List Nd}(hk:KD d)(hT:zY d=true)(h:MT d g ns):zQ d ⟨g,ns⟩=true:=by
 have U: ∀x∈(⟨g,ns⟩:Hp).n,0<=x.t/\ ∃y,d.types[x.t.toNat]?=some y:=λx hx=>by
  obtain⟨q0,y,J,_⟩:=h.nd x hx;exact⟨q0,y,J⟩
 simp only[zQ,um,uq,ux,uu,List.all_eq_true];refine⟨⟨⟨⟨⟨hT,by have:=h.gl;omega⟩,by have:=h.nl;omega⟩,λx hx=>?_⟩,λq hq=>?_⟩,λx hx=>?_⟩
 ·obtain⟨q0,y,J,hl,_⟩:=h.nd x hx;have:=uy.1 J;obtain⟨q1,_⟩:=this;simp only[y8,um,ux,uu,uq]
  grind
 ·obtain⟨i,hi⟩:=tK hq;obtain⟨hf,hv⟩:=zhS hi;exact(zih hk hT (hk.gl q.1 (uv hf)) U).2 (h.gt i q.1 q.2 hf hv)
 ·obtain⟨q0,y,J,hl,hf⟩:=h.nd x hx;unfold xQ;rw[J];simp only[uG,Option.getD_some,List.all_eq_true];intro q hq;obtain⟨i,hi⟩:=tK hq;obtain⟨h1,h2⟩:=zhS hi;exact(zih hk hT (hk.fl y (uv J) q.1 (uv h1)) U).2 (hf i q.1 q.2 h1 h2)
theorem zbn(h:vi d m=true):ye d=true/\zdq d=none/\zQ d m=true:=by
 unfold vi at h;simp only[um,uq]at h;obtain⟨J,h2⟩:=zvj h.1;exact⟨J,h2,h.2⟩
theorem zsP{m2:Hp}(h:vi d m=true)(hv:zQ d m2=true):vi d m2=true:=by
 unfold vi at h⊢;simp only[um,uq]at h⊢;exact⟨h.1,hv⟩
theorem zxq{v:Int}(hk:KD d)(U:yL d t=true)(h:rtB d m t v=true):VT d m.n t v:=by
 unfold rtB at h;unfold VT;by_cases e1:t=(⟨#[105,110,116]⟩:UI)
 ·rw[uw e1]at h ⊢; simp only[um,uq]at h;exact h
 rw[ur e1]at h⊢;by_cases e2:t=(⟨#[98,111,111,108]⟩:UI)
 ·rw[uw e2]at h ⊢; simp only[uJ,uq]at h;exact h
 rw[ur e2]at h⊢
 have hn:yE d t=true:=by
  unfold yL at U;simp only[uJ,uq,e1,e2,oI]at U;exact U
 unfold yE zf0 at hn;rw[ot]at hn;obtain⟨y,hy,J⟩:=hn;have J:=uk J;rw[ur (by rw[<-J];exact(hk.nm y hy).2.2)];simp only[uJ,um,uq,and_assoc]at h;refine h.imp id λ⟨h1,h2,h3⟩=>⟨h1,h2,?_⟩
 obtain⟨x,hx⟩:=za (l:=m.n) (i:=(v - 1).toNat) ua;unfold tyN ndG at h3;unfold nmT;rw[hx]at h3⊢;simp only[Option.getD_some,qf]at h3⊢;exact h3
variable {p:Pr}
theorem zfq(U:zdq d=none)(hp:p∈d.procs): ∀f∈p.params,yL d f.t=true:=by
 obtain⟨_,h2⟩:=xS U;obtain⟨h2,_⟩:=xS h2;intro f hf;obtain⟨i,J⟩:=jt h2 hp;split at J
 ·cases J
 ·split at J
  ·rename_i q;exact zgV q f (List.mem_append_left _ hf)
  ·rename_i q;cases J
theorem zpn(h:vi d m=true)(h0:0<=fuel)(h1:fuel<=1048576)(hi:zbG d c.p=some i)(hp:d.procs[i]?=some p)(hc:za6 d m c=0):
 ∃k0 q,(∀k,k0<=k->plF (rnV d fuel k p c.a (mc0 m))=some q)/\q.2.2.acc.length<=68719476736/\zQ d ⟨q.2.2.g,q.2.2.ns⟩=true:=by
 obtain⟨hv,hf,hm⟩:=zbn h;have hk:=zvl hv hf;have hD:=zxo hv hf h0 h1;have hmt:=zxp hk hm;have hpm:p∈d.procs:=uv hp;unfold za6 at hc;rw[hi]at hc;simp only[hp]at hc;split at hc
 ·cases hc
 rename_i hl;split at hc
 ·cases hc
 rename_i hz;have hmo:MO d fuel (mc0 m):=⟨hmt,by simp[mc0],by simpa [mc0]using h0,by simp[mc0],by simp[mc0],by simp[mc0]⟩
 obtain⟨k0,r,hr,hkk⟩:=zut hD 200 0 ua ua ua p c.a (mc0 m) hpm ua (λj f v hf2 hv2=>by
  refine zxq hk (zfq hf hpm f (uv hf2)) ?_;rw[oE,List.any_eq_false]at hz;have:=hz (v,f) (uv (i:=j) (by rw[tq];exact⟨hv2,hf2⟩))
  simpa using this) hmo rfl (by simp[Ph,mc0])
 cases r with
 |out=>exact absurd hr id
 |ok v m'=>
  obtain⟨U,_⟩:=hr;refine⟨k0,(0,v,m'),λk hk'=>by have e:=hkk k hk';simp only at e;rw[e];rfl,?_,zii hk (zaK hm) U.mo.mt⟩;have h2:=U.ph;have h3:=U.mo.t1;have h4:=U.mo.p0;simp only[Ph,mc0,tN]at h2;simp only;omega
 |flt e m'=>
  obtain⟨J,h2⟩:=hr;refine⟨k0,(e,0,m'),λk hk'=>by have e:=hkk k hk';simp only at e;rw[e];rfl,?_,zii hk (zaK hm) J.mt⟩;have h3:=J.t1;have h4:=J.p0;simp only[Ph,mc0,tN]at h2;simp only;omega
end Hw.Gm
