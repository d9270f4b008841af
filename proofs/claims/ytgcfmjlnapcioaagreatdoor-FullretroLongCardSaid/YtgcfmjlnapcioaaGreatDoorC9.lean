import Derived.Test.YtgcfmjlnapcioaaGreatDoorC8
import Derived.Test.YtgcfmjlnapcioaaGreatDoorC7
import Derived.Test.YtgcfmjlnapcioaaGreatDoorC2
import Derived.Test.YtgcfmjlnapcioaaGreatDoorC1
import Derived.Test.YtgcfmjlnapcioaaGreatDoorC3
import Derived.Test.YtgcfmjlnapcioaaGreatDoorC4
import Derived.Test.YtgcfmjlnapcioaaGreatDoorE3
set_option linter.unusedVariables false
set_option linter.unusedSimpArgs false
namespace Hw.Fr.Md
open Go Go.Proofs Go.Shelf Hw.M
theorem zuO(R:Rws)(hR:R.length<=500):zk Tryz.prog 84 [zm (stR 2 R),zm [ki 4,zA []]] [] (.tup [zm (stR 2 R),zm (rsR (okR R.length))]) []:=by
 have hlm:(R.map z8).length=R.length:=uj _
 have hY:=zZ 2 R R.length
 refine gO T Tryz.func84 λC hC=>?_
 repeat' first|refine gG ?_|exact gD|refine gB ?_ ?_<;>intro h|(rw[hlm];refine gC hY ?_)
 all_goals exact gF
theorem zsX(R:Rws)(h5:R.length=500)(a:Int):zk Tryz.prog 84 [zm (stR 2 R),zm [ki 1,zA [a]]] [] (.tup [zm (stR 2 R),zm (rsR (erR 4))]) []:=by
 have hlm:(R.map z8).length=R.length:=uj _
 have hY:=wg 2 R 4
 refine gO T Tryz.func84 λC hC=>?_
 repeat' first|refine gG ?_|exact gD|exact gP|refine gB ?_ ?_<;>intro h|refine gC hY ?_
 all_goals exact gF
theorem zq3(R:Rws)(h0:R.length=0)(c:Int)(hc:c=2\/c=3):zk Tryz.prog 84 [zm (stR 2 R),zm [ki c,zA []]] [] (.tup [zm (stR 2 R),zm (rsR (erR 14))]) []:=by
 have hlm:(R.map z8).length=R.length:=uj _
 have hY:=wg 2 R 14
 rcases hc with rfl|rfl
 ·refine gO T Tryz.func84 λC hC=>?_
  repeat' first|refine gG ?_|exact gD|exact gP|refine gB ?_ ?_<;>intro h|refine gC hY ?_
  all_goals exact gF
 ·refine gO T Tryz.func84 λC hC=>?_
  repeat' first|refine gG ?_|exact gD|exact gP|refine gB ?_ ?_<;>intro h|refine gC hY ?_
  all_goals exact gF
theorem zuP(R:Rws)(hR:R.length<=500)(r:Rw)(v:Int)(hq:R[0]?=some r)(hv:r[0]?=some v):zk Tryz.prog 84 [zm (stR 2 R),zm [ki 2,zA []]] [] (.tup [zm (stR 2 R),zm (rsR (okR v))]) []:=by
 have hlm:(R.map z8).length=R.length:=uj _
 have hpos:=(ui.1 hq).1
 have hY:=zZ 2 R v
 refine gO T Tryz.func84 λC hC=>?_
 repeat' first|refine gG ?_|exact gD|exact gP|refine gB ?_ ?_<;>intro h|refine gI T (yg hq) ?_|refine gI T (yg hv) ?_|refine gC hY ?_
 all_goals exact gF
theorem zuQ(R:Rws)(hR:R.length<=500)(r:Rw)(v:Int)(hq:R[0]?=some r)(hv:r[0]?=some v):zk Tryz.prog 84 [zm (stR 2 R),zm [ki 3,zA []]] [] (.tup [zm (stR 2 (R.eraseIdx 0)),zm (rsR (okR v))]) []:=by
 have hlm:(R.map z8).length=R.length:=uj _
 have hpos:=(ui.1 hq).1
 have hY:=zZ 2 (R.eraseIdx 0) v
 have hX:=zdN R ua 0 hpos
 refine gO T Tryz.func84 λC hC=>?_
 repeat' first|refine gG ?_|exact gD|exact gP|refine gB ?_ ?_<;>intro h|refine gI T (yg hq) ?_|refine gI T (yg hv) ?_|refine gC hX ?_|refine gC hY ?_
 all_goals exact gF
theorem zuR(R:Rws)(h5:R.length<500)(hT:yP 1 (λa b=> !ltC 1 b a) R)(a:Int):zk Tryz.prog 84 [zm (stR 2 R),zm [ki 1,zA [a]]] [] (.tup [zm (stR 2 (ju R (yD 1 R [a]) [a])),zm (rsR (okR 0))]) []:=by
 have hlm:(R.map z8).length=R.length:=uj _
 have hple:=jb 1 R [a]
 have hsp:=w9 hT ziR [a]
 have hbel: ∀(i:Nat) (x:Int),R[i]?=some [x]->(x<a↔i<yD 1 R [a]):=λi x hi=>by
  have hk:ltC 1 [x] [a]=decide (x<a):=by rw[vt ue ue];rfl
  constructor
  ·intro hlt
   rcases Nat.lt_or_ge i (yD 1 R [a])with h1|h1
   ·exact h1
   ·have:[x]∈R.drop (yD 1 R [a]):=by
     refine List.mem_of_getElem? (i:=i - yD 1 R [a]) ?_
     rw[uD,show yD 1 R [a]+(i - yD 1 R [a])=i by omega];exact hi
    have:=hsp.2 _ this
    rw[hk,uX]at this
    exact absurd hlt this
  ·intro h1
   have:[x]∈R.take (yD 1 R [a]):=by
    refine List.mem_of_getElem? (i:=i) ?_
    rw[uZ,uv h1];exact hi
   have:=hsp.1 _ this
   rw[hk,ux]at this
   exact this
 have hwide:=hT.wide
 clear hsp hT
 generalize yD 1 R [a]=p at*
 have hX:=znB R ua p hple [a]
 have hY:=zZ 2 (ju R p [a]) 0
 refine gO T Tryz.func84 λC hC=>?_
 repeat' first|refine gG ?_|exact gD|exact gP|refine gB ?_ ?_<;>intro h
 rw[hlm]
 refine zn (λi:Nat=>i<=p) (λi=>([(2,.one (.bx 1002 0)),(3,.one (.bx 1003 0)),(4,.one (.bx 1004 0)),(5,.one (.bx 1005 0)),(6,I R.length),(7,I i)],[(1002,some (.box [.p (ki 2),.p (yp R)])),(1003,some (.box [.p (ki 1),.p (zA [a])])),(1004,some (.box [.p (ki 0),.p (.k (.slice none 0 0))])),(1005,some (.box [.p (ki 0),.p (ki 0),.p (.k (.slice none 0 0))]))])) (λi=>p - i) hC
  0 (uA _) id gM ?_
 intro i hi
 clear h
 by_cases hip:i<p
 ·obtain⟨r,hr⟩:=ze (l:=R) (i:=i) ua
  obtain⟨x,rfl⟩:=zsj (hwide r (List.mem_of_getElem? hr))
  have c1:=(hbel i x hr).2 hip
  repeat' first|refine gG ?_|(exact absurd c1 (uq h))|(exfalso;have h2:=uq h;omega)|refine gB ?_ ?_<;>intro h|refine gI T (zg hr) ?_|refine gV ?_|refine gV ?_
  rw[zC ua]
  exact zf (i+1) ua id ua gM
 ·have hpi:p=i:=by omega
  subst hpi
  by_cases hn:p<R.length
  ·obtain⟨r,hr⟩:=ze (l:=R) (i:=p) ua
   obtain⟨x,rfl⟩:=zsj (hwide r (List.mem_of_getElem? hr))
   have c1: ¬x<a:=λe=>hip ((hbel p x hr).1 e)
   repeat' first|refine gG ?_|(exact absurd (uo h) c1)|(exfalso;have h2:=uq h;omega)|refine gB ?_ ?_<;>intro h|refine zj ?_|refine gI T (zg hr) ?_|refine gV ?_|refine gV ?_|refine gT ?_|refine gC hX ?_|refine gC hY ?_
   all_goals exact gF
  ·repeat' first|refine gG ?_|(exfalso;have h2:=uo h;omega)|exact gD|refine gB ?_ ?_<;>intro h|refine zj ?_|refine gV ?_|refine gT ?_|refine gC hX ?_|refine gC hY ?_
   all_goals exact gF
theorem zqc(R:Rws)(o:OpT)(hv:zJ 2 R=true)(ho:okOp 2 o=true):
 zk Tryz.prog 84 [zm (stR 2 R),zm (opR o)] [] (.tup [zm (stR 2 (xi R o).1),zm (rsR (xi R o).2)]) []:=by
 obtain⟨hR,hT⟩:=zi9 hv
 have hrow: ∀(i:Nat),i<R.length->R[i]?=some (yo R i)/\(yo R i).length=1:=λi hi=>⟨ym hi,hT.wide _ (List.mem_of_getElem? (ym hi))⟩
 have hcell: ∀(i:Nat),i<R.length->(yo R i)[0]?=some (at0 (yo R i) 0):=λi hi=>vD (by rw[(hrow i hi).2];omega)
 rcases op2 ho with⟨a,rfl,ha⟩|rfl|rfl|rfl
 ·by_cases h5:R.length=500
  ·have e:xi R ⟨1,[a]⟩=(R,erR 4):=by simp[xi,h5]
   rw[e];exact zsX R h5 a
  ·have e:xi R ⟨1,[a]⟩=(ju R (yD 1 R [a]) [a],okR 0):=by simp[xi,h5]
   rw[e];exact zuR R ua hT a
 ·by_cases h0:R.length=0
  ·have e:xi R ⟨2,[]⟩=(R,erR 14):=by simp only[xi];rw[ur ub,ur ub];exact uv h0
   rw[e];exact zq3 R h0 2 (.inl rfl)
  ·have e:xi R ⟨2,[]⟩=(R,okR (at0 (yo R 0) 0)):=by simp only[xi];rw[ur ub,ur ub];exact ur h0
   rw[e];exact zuP R hR _ _ (hrow 0 ua).1 (hcell 0 ua)
 ·by_cases h0:R.length=0
  ·have e:xi R ⟨3,[]⟩=(R,erR 14):=by simp only[xi];rw[ur ub,ur ub];exact uv h0
   rw[e];exact zq3 R h0 3 (.inr rfl)
  ·have e:xi R ⟨3,[]⟩=(R.eraseIdx 0,okR (at0 (yo R 0) 0)):=by simp only[xi];rw[ur ub,ur ub];exact ur h0
   rw[e];exact zuQ R hR _ _ (hrow 0 ua).1 (hcell 0 ua)
 ·exact zuO R hR
def swN(a b j p:Nat):Nat:=if(a<=p/\p<a+j)\/(b - j<=p/\p<b)then a+b - 1 - p else p
def vf(R:Rws)(a b j:Nat):Rws:=(List.range R.length).map λp=>yo R (swN a b j p)
theorem wA(R:Rws)(a b j:Nat):(vf R a b j).length=R.length:=by simp[vf]
variable {R:Rws}
theorem j7{a b j p:Nat}(h:p<R.length):(vf R a b j)[p]?=some (yo R (swN a b j p)):=by
 unfold vf;rw[uE,qg h];rfl
theorem zkJ(R:Rws){a b:Nat}:vf R a b 0=R:=by
 refine List.ext_getElem? λp=>?_
 rcases Nat.lt_or_ge p R.length with h|h
 ·rw[j7 h,ym (R:=R) (i:=p) h]
  congr 2
  unfold swN;rw[ur ua]
 ·rw[tT (by rw[wA];exact h),tT h]
theorem zkK{a b j:Nat}(hb:b<=R.length)(hj:a+j<b - 1 - j):((vf R a b j).set (a+j) (yo R (b - 1 - j))).set (b - 1 - j) (yo R (a+j))=vf R a b (j+1):=by
 refine List.ext_getElem? λp=>?_
 rw[ov,tq,wA,ov,wA]
 rcases Nat.lt_or_ge p R.length with h|h
 ·rw[j7 h,j7 h]
  by_cases e1:b - 1 - j=p
  ·rw[uv e1,uv ua]
   congr 2
   unfold swN;rw[uv ua];omega
  ·rw[ur e1]
   by_cases e2:a+j=p
   ·rw[uv e2,uv ua]
    congr 2
    unfold swN;rw[uv ua];omega
   ·rw[ur e2]
    congr 2
    unfold swN
    by_cases e3:(a<=p/\p<a+j)\/(b - j<=p/\p<b)
    ·rw[uv e3,uv ua]
    ·rw[ur e3,ur ua]
 ·rw[ur ua,ur ua,tT (by rw[wA];exact h),tT (by rw[wA];exact h)]
theorem znE{a b j:Nat}(hab:a<=b)(hb:b<=R.length)(hj:j=(b - a) / 2):vf R a b j=zhw R a b:=by
 have hl1:(R.take a).length=a:=by rw[uz];omega
 have hl2:((R.take b).drop a).reverse.length=b - a:=by rw[qO,uQ,uz];omega
 refine List.ext_getElem? λp=>?_
 unfold zhw
 rcases Nat.lt_or_ge p R.length with h|h
 ·rw[j7 h]
  rcases Nat.lt_or_ge p a with h1|h1
  ·rw[tL,uP ua,uZ,uv h1,ym h]
   congr 2
   unfold swN;rw[ur ua]
  ·rcases Nat.lt_or_ge p b with h2|h2
   ·rw[tL,uO ua,hl1,uP ua,oT (by rw[qO]at hl2;omega),uD,uZ]
    rw[qO]at hl2
    rw[uv ua,ym (R:=R) (i:=a+(((R.take b).drop a).length - 1 - (p - a))) ua]
    congr 2
    unfold swN
    by_cases e3:(a<=p/\p<a+j)\/(b - j<=p/\p<b)
    ·rw[uv e3];omega
    ·rw[ur e3];omega
   ·rw[uO (by rw[uB];omega),uB,hl1,hl2,uD,show b+(p - (a+(b - a)))=p by omega,ym h]
    congr 2
    unfold swN;rw[ur ua]
 ·rw[tT (by rw[wA];exact h),tT (by rw[uB,uB,hl1,hl2,uQ];omega)]
theorem zv6(R:Rws)(hR:R.length<=500):zk Tryz.prog 85 [zm (stR 3 R),zm [ki 7,zA []]] [] (.tup [zm (stR 3 R),zm (rsR (okR R.length))]) []:=by
 have hlm:(R.map z8).length=R.length:=uj _
 have hY:=zZ 3 R R.length
 refine gO T Tryz.func85 λC hC=>?_
 repeat' first|refine gG ?_|exact gD|exact gP|refine gB ?_ ?_<;>intro h|(rw[hlm];refine gC hY ?_)
 all_goals exact gF
theorem zuS(R:Rws)(hR:R.length<=500)(a b:Int)(h0:0<=a/\a<=R.length)(h5:R.length=500):zk Tryz.prog 85 [zm (stR 3 R),zm [ki 1,zA [a,b]]] [] (.tup [zm (stR 3 R),zm (rsR (erR 4))]) []:=by
 have hlm:(R.map z8).length=R.length:=uj _
 have hY:=wg 3 R 4
 refine gO T Tryz.func85 λC hC=>?_
 repeat' first|refine gG ?_|exact gD|exact gP|refine gB ?_ ?_<;>intro h|refine gV ?_|refine gC hY ?_
 all_goals exact gF
theorem zv7(R:Rws)(hR:R.length<=500)(a:Nat)(b:Int)(h0:a<=R.length)(h5:R.length<500):zk Tryz.prog 85 [zm (stR 3 R),zm [ki 1,zA [(a:Int),b]]] [] (.tup [zm (stR 3 (ju R a [b])),zm (rsR (okR 0))]) []:=by
 have hlm:(R.map z8).length=R.length:=uj _
 have hY:=zZ 3 (ju R a [b]) 0
 have hX:=znB R ua a h0 [b]
 refine gO T Tryz.func85 λC hC=>?_
 repeat' first|refine gG ?_|exact gD|exact gP|refine gB ?_ ?_<;>intro h|refine gV ?_|refine gT ?_|refine gC hX ?_|refine gC hY ?_
 all_goals exact gF
set_option maxHeartbeats 4000000 in
theorem zdR(R:Rws)(hR:R.length<=500){a b c:Int}{l:List Int}(H:(c=1/\l=[a,b]/\(a<0\/(R.length:Int)<a))\/((c=5\/c=6)/\l=[a,b]/\(a<0\/b<a\/(R.length:Int)<b))\/((c=4/\l=[a,b]\/(c=2\/c=3)/\l=[a])/\(a<0\/(R.length:Int)<=a))):zk Tryz.prog 85 [zm (stR 3 R),zm [ki c,zA l]] [] (.tup [zm (stR 3 R),zm (rsR (erR 2))]) []:=by
 have hlm:(R.map z8).length=R.length:=uj _
 have hY:=wg 3 R 2
 rcases H with⟨rfl,rfl,h0⟩|⟨rfl|rfl,rfl,h0⟩|⟨⟨rfl,rfl⟩|⟨rfl|rfl,rfl⟩,h0⟩
 all_goals
  refine gO T Tryz.func85 λC hC=>?_
  repeat' first|refine gG ?_|exact gD|exact gP|refine gB ?_ ?_<;>intro h|refine gV ?_|refine gC hY ?_
  all_goals exact gF
set_option maxHeartbeats 4000000 in
theorem zq4(R:Rws)(hR:R.length<=500)(a:Nat)(r:Rw)(v:Int)(hq:R[a]?=some r)(hv:r[0]?=some v){c:Int}{R2:Rws}(H:c=2/\R2=R.eraseIdx a\/c=3/\R=R2):zk Tryz.prog 85 [zm (stR 3 R),zm [ki c,zA [(a:Int)]]] [] (.tup [zm (stR 3 R2),zm (rsR (okR v))]) []:=by
 have hlm:(R.map z8).length=R.length:=uj _
 have hal:=(ui.1 hq).1
 have hq':(R.map z8)[(a:Int).toNat]?=some (z8 r):=by rw[uF];exact zg hq
 have hY:=zZ 3 R2 v
 have hX:=zdN R ua a hal
 rcases H with⟨rfl,rfl⟩|⟨rfl,rfl⟩
 all_goals
  refine gO T Tryz.func85 λC hC=>?_
  repeat' first|refine gG ?_|exact gD|exact gP|refine gB ?_ ?_<;>intro h|refine gV ?_|refine gI T hq' ?_|refine gI T (yg hv) ?_|refine gC hX ?_|refine gC hY ?_
  all_goals exact gF
theorem zv8(R:Rws)(hR:R.length<=500)(a:Nat)(r:Rw)(v:Int)(hq:R[a]?=some r)(hv:r[0]?=some v)(b:Int)(hrl:r.length=1):zk Tryz.prog 85 [.agg [.p (ki 3),.ar 0],zm [ki 4,zA [(a:Int),b]]] [(0,vg 1 R.length),(1,bg R)] (.tup [zm (stR 3 (R.set a (r.set 0 b))),zm (rsR (okR v))]) []:=by
 have hal:=(ui.1 hq).1
 have hY:=zZ 3 (R.set a (r.set 0 b)) v
 have hsl:(R.set a (r.set 0 b)).length=R.length:=tq
 refine gO T Tryz.func85 λC hC=>?_
 repeat' first|refine gG ?_|exact gD|exact gP|refine gB ?_ ?_<;>intro h|refine gJ ?_|refine gV ?_|(refine jo T hC a rfl rfl rfl rfl rfl ua rfl rfl ?_;refine we T hC rfl rfl rfl ua rfl rfl ?_)|(refine vJ T hC 0 hq ua rfl rfl rfl rfl rfl rfl ?_)|(refine vu T hC hq hv rfl rfl rfl rfl rfl ?_)|(refine zca T hC hq ua rfl rfl rfl rfl rfl ?_)|(rw[<-hsl];refine zcW rfl [(0,vg 1 (R.set a (r.set 0 b)).length),(1,bg (R.set a (r.set 0 b)))] rfl [(188,zm (stR 3 (R.set a (r.set 0 b))))] ⟨⟨_,rfl,LnS.agg (.cons (.refl _) (.cons (zf3 0 1 _) .nil))⟩,uh⟩ [] uh ?_;refine gC hY ?_)
 exact gF
theorem zv9(R:Rws)(hR:R.length<=500)(a m:Nat)(ham:a+m<=R.length)(hn: ∀r∈R,0<r.length/\ -1048576<=at0 r 0/\at0 r 0<=1048576):zk Tryz.prog 85 [zm (stR 3 R),zm [ki 5,zA [(a:Int),((a+m:Nat):Int)]]] [] (.tup [zm (stR 3 R),zm (rsR (okR (zdE ((R.take (a+m)).drop a))))]) []:=by
 have hlm:(R.map z8).length=R.length:=uj _
 have hLl:((R.take (a+m)).drop a).length=m:=by rw[uQ,uz];omega
 have hLa: ∀i,i<m->((R.take (a+m)).drop a)[i]?=R[a+i]?:=λi hi=>by rw[uD,uZ,uv ua]
 have hLb: ∀r∈(R.take (a+m)).drop a, -1048576<=at0 r 0/\at0 r 0<=1048576:=λr hr=>(hn r (u6 (tE hr))).2
 generalize (R.take (a+m)).drop a=L at hLl hLa hLb
 have hY:=zZ 3 R (zdE L)
 refine gO T Tryz.func85 λC hC=>?_
 repeat' first|refine gG ?_|exact gD|exact gP|refine gB ?_ ?_<;>intro h|refine gV ?_
 try rw[hlm]
 refine zn (λi:Nat=>i<=m) (λi=>([(2,.one (.bx 1002 0)),(3,.one (.bx 1003 0)),(4,.one (.bx 1004 0)),(5,.one (.bx 1005 0)),(6,I R.length),(7,I a),(8,I ((a+m:Nat):Int)),(9,I (zdE (L.take i))),(10,I ((a+i:Nat):Int))],[(1002,some (.box [.p (ki 3),.p (yp R)])),(1003,some (.box [.p (ki 5),.p (zA [(a:Int),((a+m:Nat):Int)])])),(1004,some (.box [.p (ki 0),.p (.k (.slice none 0 0))])),(1005,some (.box [.p (ki 0),.p (ki 0),.p (.k (.slice none 0 0))]))])) (λi=>m - i) hC
  0 (uA _) id gM ?_
 intro i hi
 refine zr T hC true 200 rfl ?_
 refine zu rfl ?_ ?_<;>intro h
 ·have hlt:i<m:=by have:=uo h;omega
  clear h
  have hail:a+i<R.length:=by omega
  obtain⟨r,hq⟩:=ze hail
  obtain⟨h0,h1,h2⟩:=hn r (List.mem_of_getElem? hq)
  have hv:r[0]?=some (at0 r 0):=vD h0
  have hb:=jY (l:=L.take i) (n:=500) (by rw[uz];omega) λx hx=>hLb x (u6 hx)
  have hsn:=wz (l:=L) (i:=i) (x:=r) (by rw[hLa i hlt];exact hq)
  repeat' first|refine gG ?_|refine gB ?_ ?_<;>intro h|refine gI T (zg hq) ?_|refine gI T (yg hv) ?_
  rw[zC ua,wrap64 (n:=zdE (L.take i)+at0 r 0) ua,<-zc1,<-hsn]
  exact zf (i+1) ua id ua gM
 have hge:m=i:=by have:=uq h;omega
 have e:L.take i=L:=uT ua
 rw[e]
 clear h
 repeat' first|refine gG ?_|exact gD|refine gB ?_ ?_<;>intro h|refine zj ?_|refine gC hY ?_
 all_goals exact gF
set_option maxHeartbeats 400000 in
theorem zwa(R:Rws)(hR:R.length<=500)(a m:Nat)(ham:a+m<=R.length)(hn: ∀r∈R,0<r.length/\ -1048576<=at0 r 0/\at0 r 0<=1048576):zk Tryz.prog 85 [.agg [.p (ki 3),.ar 0],zm [ki 6,zA [(a:Int),((a+m:Nat):Int)]]] [(0,.arr 1 (R.map z8))] (.tup [zm (stR 3 (zhw R a (a+m))),zm (rsR (okR 0))]) []:=by
 have hlm:(R.map z8).length=R.length:=uj _
 have hLl:((R.take (a+m)).drop a).length=m:=by rw[uQ,uz];omega
 have hLa: ∀i,i<m->((R.take (a+m)).drop a)[i]?=R[a+i]?:=λi hi=>by rw[uD,uZ,uv ua]
 have hLb: ∀r∈(R.take (a+m)).drop a, -1048576<=at0 r 0/\at0 r 0<=1048576:=λr hr=>(hn r (u6 (tE hr))).2
 generalize (R.take (a+m)).drop a=L at hLl hLa hLb
 have hY:=zZ 3 (zhw R a (a+m)) 0
 refine gO T Tryz.func85 λC hC=>?_
 repeat' first|refine gG ?_|exact gD|exact gP|refine gB ?_ ?_<;>intro h|refine gV ?_
 try rw[hlm]
 refine zn (λi:Nat=>i<=m) (λi=>([(2,.one (.bx 1002 0)),(3,.one (.bx 1003 0)),(4,.one (.bx 1004 0)),(5,.one (.bx 1005 0)),(6,I R.length),(7,I a),(8,I ((a+m:Nat):Int)),(9,I (zdE (L.take i))),(10,I ((a+i:Nat):Int))],[(0,some (.arr 1 (R.map z8))),(1002,some (.box [.p (ki 3),.ar 0])),(1003,some (.box [.p (ki 6),.p (zA [(a:Int),((a+m:Nat):Int)])])),(1004,some (.box [.p (ki 0),.p (.k (.slice none 0 0))])),(1005,some (.box [.p (ki 0),.p (ki 0),.p (.k (.slice none 0 0))]))])) (λi=>m - i) hC
  0 (uA _) id gM ?_
 intro i hi
 refine zr T hC true 200 rfl ?_
 refine zu rfl ?_ ?_<;>intro h
 ·have hlt:i<m:=by have:=uo h;omega
  clear h
  have hail:a+i<R.length:=by omega
  obtain⟨r,hq⟩:=ze hail
  obtain⟨h0,h1,h2⟩:=hn r (List.mem_of_getElem? hq)
  have hv:r[0]?=some (at0 r 0):=vD h0
  have hb:=jY (l:=L.take i) (n:=500) (by rw[uz];omega) λx hx=>hLb x (u6 hx)
  have hsn:=wz (l:=L) (i:=i) (x:=r) (by rw[hLa i hlt];exact hq)
  repeat' first|refine gG ?_|refine gB ?_ ?_<;>intro h|refine jA T hC (rows:=R.map z8) rfl rfl rfl rfl (uw _) (by rw[hlm];omega) rfl rfl ?_|refine wE T hC (a+i) 0 (rows:=R.map z8) (row:=z8 r) rfl rfl rfl (by rw[uF];rfl) (zg hq) rfl rfl rfl ?_|refine gI T (yg hv) ?_
  rw[zC ua,wrap64 (n:=zdE (L.take i)+at0 r 0) ua,<-zc1,<-hsn]
  exact zf (i+1) ua id ua gM
 have hge:m=i:=by have:=uq h;omega
 have e:L.take i=L:=uT ua
 rw[e]
 clear h
 repeat' first|refine gG ?_|exact gD|refine gB ?_ ?_<;>intro h|refine zj ?_
 refine zn (λj:Nat=>j<=m / 2) (λj=>([(2,.one (.bx 1002 0)),(3,.one (.bx 1003 0)),(4,.one (.bx 1004 0)),(5,.one (.bx 1005 0)),(6,I R.length),(7,I a),(8,I ((a+m:Nat):Int)),(11,I j)],[(0,some (.arr 1 ((vf R a (a+m) j).map z8))),(1002,some (.box [.p (ki 3),.ar 0])),(1003,some (.box [.p (ki 6),.p (zA [(a:Int),((a+m:Nat):Int)])])),(1004,some (.box [.p (ki 0),.p (.k (.slice none 0 0))])),(1005,some (.box [.p (ki 0),.p (ki 0),.p (.k (.slice none 0 0))]))])) (λj=>m / 2 - j) hC
  0 (uA _) id ⟨rfl,⟨rfl,rfl,rfl,rfl,rfl,rfl,rfl,rfl,uh⟩,⟨by rw[zkJ];rfl,rfl,rfl,rfl,rfl,uh⟩,rfl,λ_ _=>rfl⟩ ?_
 clear hge e hi i hLl hLa hLb L
 intro j hj
 have w1:IntKind.i64.wrap (((a+m:Nat):Int) - (a:Int))=(m:Int):=by rw[wrap64 ua];omega
 have w2:IntKind.i64.wrap ((m:Int).tdiv 2)=((m / 2:Nat):Int):=by rw[Ug ua,wrap64 ua];omega
 by_cases c:j<m / 2
 ·have w3:IntKind.i64.wrap (IntKind.i64.wrap (((a+m:Nat):Int) - 1) - (j:Int))=((a+m - 1 - j:Nat):Int):=by rw[wrap64 (n:=((a+m:Nat):Int) - 1) ua,wrap64 ua];omega
  have w4:IntKind.i64.wrap ((a:Int)+(j:Int))=((a+j:Nat):Int):=by rw[wrap64 ua];omega
  have hsl:((vf R a (a+m) j).map z8).length=R.length:=by rw[uj,wA]
  have hst:=zkK (R:=R) (a:=a) (b:=a+m) (j:=j) ham ua
  have hx:((vf R a (a+m) j).map z8)[a+m - 1 - j]?=some (z8 (yo R (a+m - 1 - j))):=by
   rw[uE,j7 ua]
   have:swN a (a+m) j (a+m - 1 - j)=a+m - 1 - j:=by unfold swN;rw[ur ua]
   rw[this];rfl
  have hy:((vf R a (a+m) j).map z8)[a+j]?=some (z8 (yo R (a+j))):=by
   rw[uE,j7 ua]
   have:swN a (a+m) j (a+j)=a+j:=by unfold swN;rw[ur ua]
   rw[this];rfl
  have hs1:((vf R a (a+m) j).map z8).set (a+j) (setAt (z8 (yo R (a+j))) 0 (z8 (yo R (a+m - 1 - j))))=((vf R a (a+m) j).set (a+j) (yo R (a+m - 1 - j))).map z8:=by rw[UF];rfl
  have hx2:(((vf R a (a+m) j).set (a+j) (yo R (a+m - 1 - j))).map z8)[a+m - 1 - j]?=some (z8 (yo R (a+m - 1 - j))):=by
   rw[<-hs1,qi ua,hx]
  have hs2:(((vf R a (a+m) j).set (a+j) (yo R (a+m - 1 - j))).map z8).set (a+m - 1 - j) (setAt (z8 (yo R (a+m - 1 - j))) 0 (z8 (yo R (a+j))))=(vf R a (a+m) (j+1)).map z8:=by
   rw[<-hst,UF (l:=(vf R a (a+m) j).set (a+j) (yo R (a+m - 1 - j)))];rfl
  have hs1l:(((vf R a (a+m) j).set (a+j) (yo R (a+m - 1 - j))).map z8).length=R.length:=by rw[uj,tq,wA]
  generalize yo R (a+m - 1 - j)=rx at*
  generalize yo R (a+j)=ry at*
  generalize (vf R a (a+m) j).set (a+j) rx=S1 at*
  generalize vf R a (a+m) j=S0 at*
  generalize hS2:vf R a (a+m) (j+1)=S2 at*
  clear hn hst
  repeat' first|refine gG ?_|(exfalso;rw[w1,w2]at h;have h2:=uq h;omega)|refine gB ?_ ?_<;>intro h|(refine zlh hC rfl rfl ub rfl rfl ?_)|(refine jA T hC (rows:=S0.map z8) rfl rfl rfl rfl (by first|(rw[w3];omega)|(rw[w4];omega)) (by rw[hsl];first|(rw[w3];omega)|(rw[w4];omega)) rfl rfl ?_)|(refine jA T hC (rows:=S1.map z8) rfl rfl rfl rfl (by rw[w3];omega) (by rw[hs1l,w3];omega) rfl rfl ?_)|refine wE T hC (a+m - 1 - j) 0 (rows:=S0.map z8) (row:=z8 rx) rfl rfl rfl (by rw[w3,uF];rfl) hx rfl rfl rfl ?_|refine wE T hC (a+j) 0 (rows:=S0.map z8) (row:=z8 ry) rfl rfl rfl (by rw[w4,uF];rfl) hy rfl rfl rfl ?_|refine jN T hC (a+j) 0 (rows:=S0.map z8) (row:=z8 ry) (us:=z8 rx) (rows':=S1.map z8) rfl rfl rfl rfl rfl rfl (by rw[w4,uF];rfl) hy (uG 1) hs1 rfl ?_|refine jN T hC (a+m - 1 - j) 0 (rows:=S1.map z8) (row:=z8 rx) (us:=z8 ry) (rows':=S2.map z8) rfl rfl rfl rfl rfl rfl (by rw[w3,uF];rfl) hx2 (uG 1) hs2 rfl ?_
  rw[zC ua,<-hS2]
  exact zf (j+1) ua id ua gM
 ·have hjm:j=m / 2:=by omega
  have hend:=znE (R:=R) (a:=a) (b:=a+m) (j:=j) ua ham (by rw[hjm];congr 1;omega)
  rw[hend]
  repeat' first|refine gG ?_|(exfalso;rw[w1,w2]at h;have h2:=uo h;omega)|refine gB ?_ ?_<;>intro h|(refine zlh hC rfl rfl ub rfl rfl ?_)|refine zj ?_|(refine gZ 0 [(145,zm (stR 3 (zhw R a (a+m))))] [] ?_;refine gC hY ?_)
  all_goals exact gF
theorem zaC(R:Rws)(hR:R.length<=500)(hf:R.flatten.length<=500):zk Tryz.prog 122 [zm (stR 4 R)] [] (I R.flatten.length) []:=by
 have hlm:(R.map z8).length=R.length:=uj _
 refine gO T Tryz.func122 λC hC=>?_
 repeat' first|refine gG ?_|exact gD|refine gB ?_ ?_<;>intro h
 refine zn (λi:Nat=>i<=R.length) (λi=>([(1,.one (.bx 1001 0)),(3,I (R.take i).flatten.length),(4,I i)],[(1001,some (.box [.p (ki 4),.p (yp R)]))])) (λi=>R.length - i) hC
  0 (uA _) id gM ?_
 intro i hi
 refine zr T hC true 200 rfl ?_
 refine zu rfl ?_ ?_<;>intro h
 ·have hlt:i<R.length:=by simpa using h
  clear h
  obtain⟨r,hr⟩:=ze hlt
  have hfl:=zc2 hr
  have hle:=jI R (i+1)
  have hrl:(r.map zR).length=r.length:=uj _
  repeat' first|refine gG ?_|refine gB ?_ ?_<;>intro h|refine gI T (zg hr) ?_
  rw[hrl,zC ua,show IntKind.i64.wrap (((R.take i).flatten.length:Int)+(r.length:Int))=(((R.take (i+1)).flatten.length:Nat):Int) by rw[hfl,wrap64 ua];omega]
  exact zf (i+1) ua id ua gM
 ·have hge: ¬i<R.length:=by simpa using h
  have e:R.take i=R:=uT ua
  rw[e]
  repeat' first|refine gG ?_|refine gB ?_ ?_<;>intro h|refine zj ?_
  all_goals exact gF
theorem vM(R:Rws)(hR:R.length<=500)(hw: ∀r∈R,r.length<=500)(x:Int):zk Tryz.prog 123 [zm (stR 4 R),I x] [] (I (clsI x R 0)) []:=by
 have hlm:(R.map z8).length=R.length:=uj _
 refine gO T Tryz.func123 λC hC=>?_
 repeat' first|refine gG ?_|refine gB ?_ ?_<;>intro h
 refine zn (λi:Nat=>i<=R.length/\clsI x (R.drop i) i=clsI x R 0) (λi=>([(1,I x),(2,.one (.bx 1002 0)),(5,I i)],[(1002,some (.box [.p (ki 4),.p (yp R)]))])) (λi=>R.length - i) hC
  0 ⟨uA _,rfl⟩ id gM ?_
 rintro i ⟨hi,hn⟩
 refine zr T hC true 200 rfl ?_
 refine zu rfl ?_ ?_<;>intro h
 ·have hlt:i<R.length:=by simpa using h
  clear h
  obtain⟨r,hr⟩:=ze hlt
  have hrl:=hw r (List.mem_of_getElem? hr)
  have hlr:(r.map zR).length=r.length:=uj _
  have hd:R.drop i=r::R.drop (i+1):=by
   obtain⟨h1,h2⟩:=ui.1 hr
   rw[tS h1,h2]
  rw[hd]at hn
  simp only[clsI]at hn
  repeat' first|refine gG ?_|refine gB ?_ ?_<;>intro h
  refine zn (λk:Nat=>k<=r.length/\x∉r.take k) (λk=>([(1,I x),(2,.one (.bx 1002 0)),(5,I i),(6,I k)],[(1002,some (.box [.p (ki 4),.p (yp R)]))])) (λk=>r.length - k) hC
   0 ⟨uA _,ue⟩ id gM ?_
  rintro k ⟨hk,hnk⟩
  refine ztc T hC true 400 rfl rfl ?_
  refine gI T (zg hr) ?_
  refine ztc T hC true 400 rfl rfl ?_
  refine zu rfl ?_ ?_<;>intro h
  ·have hkt:k<r.length:=by simpa using h
   clear h
   obtain⟨y,hy⟩:=ze hkt
   by_cases c1:y=x
   ·subst c1
    rw[uv (List.mem_of_getElem? hy)]at hn
    rw[<-hn]
    repeat' first|refine gG ?_|exact gD|refine gB ?_ ?_<;>intro h|refine gI T (zg hr) ?_|refine yM T hC (rows:=r.map zR) (i:=(k:Int)) rfl rfl rfl (uw _) (zg hy) rfl rfl ?_|refine zx ?_|refine zx ?_
    all_goals exact gF
   ·repeat' first|refine gG ?_|(exact absurd (uo h) c1)|refine gB ?_ ?_<;>intro h|refine gI T (zg hr) ?_|refine yM T hC (rows:=r.map zR) (i:=(k:Int)) rfl rfl rfl (uw _) (zg hy) rfl rfl ?_|refine zx ?_|refine zx ?_
    rw[zC ua]
    exact zf (k+1) ⟨ua,by rw[wz hy,u7,tP];exact λe=>e.elim hnk λe=>c1 e.symm⟩ id ua gM
  ·have hge: ¬k<r.length:=by simpa using h
   rw[uT ua]at hnk
   rw[ur hnk]at hn
   repeat' first|refine gG ?_|refine gB ?_ ?_<;>intro h|refine zj ?_
   rw[zC ua]
   exact zf (i+1) ⟨ua,hn⟩ id ua gM
 ·have hge: ¬i<R.length:=by simpa using h
  rw[tR ua]at hn
  simp only[clsI]at hn
  rw[<-hn]
  repeat' first|refine gG ?_|refine gB ?_ ?_<;>intro h|refine zj ?_
  all_goals exact gF
theorem znF(a b:List Int)(ha:a.length<=500)(hb:b.length<=500):zk Tryz.prog 124 [pS (zA a),pS (zA b)] [] (pS (zA (mergeI a b))) []:=by
 have hla:(a.map zR).length=a.length:=uj _
 have hlb:(b.map zR).length=b.length:=uj _
 refine gO T Tryz.func124 λC hC=>?_
 repeat' first|refine gG ?_|refine gB ?_ ?_<;>intro h
 refine gA 103 1 [(5,.one (.ar 103))] [] ?_
 refine zn (λq:Nat×Nat×List Int=>q.1<=a.length/\q.2.1<=b.length/\q.2.2.length=q.1+q.2.1/\q.2.2++mergeI (a.drop q.1) (b.drop q.2.1)=mergeI a b) (λq=>([(0,pS (zA a)),(1,pS (zA b)),(5,.one (.ar 103)),(6,I q.1),(7,I q.2.1)],[(103,some (.arr 1 (q.2.2.map zR)))])) (λq=>(a.length - q.1)+(b.length - q.2.1)) hC
  (0,0,[]) ⟨uA _,uA _,rfl,rfl⟩ id gM ?_
 rintro⟨i,k,z⟩ ⟨hi,hk,hz,hn⟩
 simp only at hi hk hz hn
 have hzl:(z.map zR).length=z.length:=uj _
 rcases Nat.lt_or_ge i a.length with hia|hia
 ·obtain⟨x,hx⟩:=ze hia
  rw[zeA hx]at hn
  rcases Nat.lt_or_ge k b.length with hkb|hkb
  ·obtain⟨y,hy⟩:=ze hkb
   rw[zeA hy]at hn
   by_cases c1:x<y
   ·have hn2:(z++[x])++mergeI (a.drop (i+1)) (b.drop k)=mergeI a b:=by
     rw[<-hn,zeA hy,tL]
     conv=>rhs;rw[mergeI,uv c1]
     rfl
    repeat' first|refine gG ?_|(exact absurd c1 (uq h))|exact gP|refine gB ?_ ?_<;>intro h|refine yM T hC (rows:=a.map zR) (i:=(i:Int)) rfl rfl rfl (uw _) (zg hx) rfl rfl ?_|refine yM T hC (rows:=b.map zR) (i:=(k:Int)) rfl rfl rfl (uw _) (zg hy) rfl rfl ?_|refine gT ?_|refine gY T 106 ((z++[x]).map zR) 8 ?_
    all_goals rw[zC ua]
    all_goals exact zf (i+1,k,z++[x]) ⟨by simp only;omega,hk,ug,hn2⟩ (mvU 103 106) (by simp only;omega) ⟨rfl,⟨rfl,rfl,rfl,rfl,rfl,uh⟩,⟨rfl,uh⟩,rfl,λi hi=>zS ua hi⟩
   ·have hn2:(z++[y])++mergeI (a.drop i) (b.drop (k+1))=mergeI a b:=by
     rw[<-hn,zeA hx,tL]
     conv=>rhs;rw[mergeI,ur c1]
     rfl
    repeat' first|refine gG ?_|(exact absurd (uo h) c1)|exact gP|refine gB ?_ ?_<;>intro h|refine yM T hC (rows:=a.map zR) (i:=(i:Int)) rfl rfl rfl (uw _) (zg hx) rfl rfl ?_|refine yM T hC (rows:=b.map zR) (i:=(k:Int)) rfl rfl rfl (uw _) (zg hy) rfl rfl ?_|refine gT ?_|refine gY T 106 ((z++[y]).map zR) 8 ?_
    all_goals rw[show IntKind.i64.wrap ((k:Int)+1)=((k+1:Nat):Int) from zC ua]
    all_goals exact zf (i,k+1,z++[y]) ⟨hi,by simp only;omega,ug,hn2⟩ (mvU 103 106) (by simp only;omega) ⟨rfl,⟨rfl,rfl,rfl,rfl,rfl,uh⟩,⟨rfl,uh⟩,rfl,λi hi=>zS ua hi⟩
  ·have hn2:(z++[x])++mergeI (a.drop (i+1)) (b.drop k)=mergeI a b:=by
    rw[<-hn,tR hkb,jR,jR,tL];rfl
   repeat' first|refine gG ?_|exact gP|refine gB ?_ ?_<;>intro h|refine yM T hC (rows:=a.map zR) (i:=(i:Int)) rfl rfl rfl (uw _) (zg hx) rfl rfl ?_|refine gT ?_|refine gY T 106 ((z++[x]).map zR) 8 ?_
   all_goals rw[zC ua]
   all_goals exact zf (i+1,k,z++[x]) ⟨by simp only;omega,hk,ug,hn2⟩ (mvU 103 106) (by simp only;omega) ⟨rfl,⟨rfl,rfl,rfl,rfl,rfl,uh⟩,⟨rfl,uh⟩,rfl,λi hi=>zS ua hi⟩
 ·rw[tR hia]at hn
  rcases Nat.lt_or_ge k b.length with hkb|hkb
  ·obtain⟨y,hy⟩:=ze hkb
   have hn2:(z++[y])++mergeI (a.drop i) (b.drop (k+1))=mergeI a b:=by
    rw[<-hn,tR hia,zeA hy,tL]
    simp[mergeI]
   repeat' first|refine gG ?_|exact gP|refine gB ?_ ?_<;>intro h|refine yM T hC (rows:=b.map zR) (i:=(k:Int)) rfl rfl rfl (uw _) (zg hy) rfl rfl ?_|refine gT ?_|refine gY T 106 ((z++[y]).map zR) 8 ?_
   all_goals rw[show IntKind.i64.wrap ((k:Int)+1)=((k+1:Nat):Int) from zC ua]
   all_goals exact zf (i,k+1,z++[y]) ⟨hi,by simp only;omega,ug,hn2⟩ (mvU 103 106) (by simp only;omega) ⟨rfl,⟨rfl,rfl,rfl,rfl,rfl,uh⟩,⟨rfl,uh⟩,rfl,λi hi=>zS ua hi⟩
  ·have hn2:z=mergeI a b:=by
    rw[<-hn,tR hkb];simp[mergeI]
   rw[hn2]
   repeat' first|refine gG ?_|exact gP|refine gB ?_ ?_<;>intro h|refine zj ?_
   refine gZ 103 [(4,pS (zA (mergeI a b)))] [] ?_
   exact gF
section
variable (R:Rws) (hR:R.length<=500) (hT:yN R)
include hR hT
theorem znG: ∀r∈R,r.length<=500:=λr hr=>by
 have _:=hR
 obtain⟨i,hi⟩:=tj.1 hr;exact hT.zjf hi
theorem zwb:zk Tryz.prog 86 [zm (stR 4 R),zm [ki 5,zA []]] [] (.tup [zm (stR 4 R),zm (rsR (okR R.length))]) []:=by
 have hlm:(R.map z8).length=R.length:=uj _
 have hSz:=zaC R hR hT.tot
 have hY:=zZ 4 R R.length
 refine gO T Tryz.func86 λC hC=>?_
 repeat' first|refine gG ?_|exact gD|refine gB ?_ ?_<;>intro h|refine gC hSz ?_|(rw[hlm];refine gC hY ?_)
 all_goals exact gF
theorem zuT(h5:R.flatten.length=500):zk Tryz.prog 86 [zm (stR 4 R),zm [ki 1,zA []]] [] (.tup [zm (stR 4 R),zm (rsR (erR 4))]) []:=by
 have hSz:=zaC R hR hT.tot
 have hY:=wg 4 R 4
 clear hT
 refine gO T Tryz.func86 λC hC=>?_
 repeat' first|refine gG ?_|exact gD|exact gP|refine gB ?_ ?_<;>intro h|refine gC hSz ?_|refine gC hY ?_
 all_goals exact gF
theorem zuU(x:Int)(hn:clsI x R 0<0):zk Tryz.prog 86 [zm (stR 4 R),zm [ki 4,zA [x]]] [] (.tup [zm (stR 4 R),zm (rsR (erR 12))]) []:=by
 have hSz:=zaC R hR hT.tot
 have hY:=wg 4 R 12
 have hCa:=vM R hR (znG R hR hT) x
 refine gO T Tryz.func86 λC hC=>?_
 repeat' first|refine gG ?_|exact gD|(exact absurd hn (uq h))|refine gB ?_ ?_<;>intro h|refine gV ?_|refine gC hSz ?_|refine gC hCa ?_|refine gC hY ?_
 all_goals exact gF
theorem zwc(x:Int)(i:Nat)(r:Rw)(hc:clsI x R 0=(i:Int))(hr:R[i]?=some r):zk Tryz.prog 86 [zm (stR 4 R),zm [ki 4,zA [x]]] [] (.tup [zm (stR 4 R),zm (rsR (okR r.length))]) []:=by
 have hSz:=zaC R hR hT.tot
 have hY:=zZ 4 R r.length
 have hCa:=vM R hR (znG R hR hT) x
 have hrl:(r.map zR).length=r.length:=uj _
 rw[hc]at hCa
 clear hT
 refine gO T Tryz.func86 λC hC=>?_
 repeat' first|refine gG ?_|exact gD|(exfalso;have h2:=uo h;omega)|refine gB ?_ ?_<;>intro h|refine gV ?_|refine gC hSz ?_|refine gC hCa ?_|refine gI T (zg hr) ?_|(rw[hrl];refine gC hY ?_)
 all_goals exact gF
set_option maxHeartbeats 4000000 in
theorem zgl(x y c:Int)(rs:RsT)(h:(c=2\/c=3)/\(clsI x R 0<0\/clsI y R 0<0)/\rs=erR 12\/0<=clsI x R 0/\0<=clsI y R 0/\(clsI x R 0=clsI y R 0/\(c=3/\rs=okR 1\/c=2/\rs=okR 0)\/ ¬clsI x R 0=clsI y R 0/\c=3/\rs=okR 0)):zk Tryz.prog 86 [zm (stR 4 R),zm [ki c,zA [x,y]]] [] (.tup [zm (stR 4 R),zm (rsR rs)]) []:=by
 have hSz:=zaC R hR hT.tot
 have hCa:=vM R hR (znG R hR hT) x
 have hCb:=vM R hR (znG R hR hT) y
 clear hT
 generalize clsI x R 0=a at*
 generalize clsI y R 0=b at*
 rcases h with⟨rfl|rfl,hn,rfl⟩|⟨ha,hb,⟨hn,⟨rfl,rfl⟩|⟨rfl,rfl⟩⟩|⟨hn,rfl,rfl⟩⟩
 all_goals
  refine gO T Tryz.func86 λC hC=>?_
  repeat' first|refine gG ?_|exact gD|refine gB ?_ ?_<;>intro h|refine gV ?_|refine gC hSz ?_|refine gC hCa ?_|refine gC hCb ?_|refine gC (wg 4 R 12) ?_|refine gC (zZ 4 R 1) ?_|refine gC (zZ 4 R 0) ?_
  all_goals first|exact gF|(exfalso;clear hCa hCb hSz;simp only[ux,uX]at *; omega)
theorem zwd(h5:R.flatten.length<500):zk Tryz.prog 86 [.agg [.p (ki 4),.ar 0],zm [ki 1,zA []]] [(0,.arr 1 (R.map z8))] (.tup [zm (stR 4 (R++[[(R.flatten.length:Int)]])),zm (rsR (okR R.flatten.length))]) []:=by
 have hlm:(R.map z8).length=R.length:=uj _
 have hSz:=zaC R hR hT.tot
 have hY:=zZ 4 (R++[[(R.flatten.length:Int)]]) R.flatten.length
 clear hT
 refine gO T Tryz.func86 λC hC=>?_
 repeat' first|refine gG ?_|exact gD|exact gP|refine gB ?_ ?_<;>intro h|(refine wF hC hSz [(0,.arr 1 (R.map z8))] rfl rfl (zac.cons (LnS.agg (.cons (.refl _) (.cons (LnV.ar (.head _)) .nil))) (zac.refl _)) rfl rfl rfl rfl ?_)|refine gT ?_|refine gY T 106 ((R++[[(R.flatten.length:Int)]]).map z8) 24 ?_|(refine gZ 106 [(29,zm (stR 4 (R++[[(R.flatten.length:Int)]])))] [] ?_;refine gC hY ?_)
 all_goals exact gF
set_option maxHeartbeats 4000000 in
theorem zuV(x y:Int)(i j p q:Nat)(A B D:Rw)(ha:clsI x R 0=(i:Int))(hb:clsI y R 0=(j:Int))(hA:R[i]?=some A)(hB:R[j]?=some B)(hD:R[p]?=some D)(hpq:i<j/\p=i/\q=j\/j<i/\p=j/\q=i):zk Tryz.prog 86 [.agg [.p (ki 4),.ar 0],zm [ki 2,zA [x,y]]] [(0,.arr 1 (R.map z8))] (.tup [zm (stR 4 ((R.set p (mergeI A B)).eraseIdx q)),zm (rsR (okR 1))]) []:=by
 have hlm:(R.map z8).length=R.length:=uj _
 have hSz:=zaC R hR hT.tot
 have hw:=znG R hR hT
 have hCa:=vM R hR hw x
 have hCb:=vM R hR hw y
 have hpl:=(ui.1 hD).1
 have hil:=(ui.1 hA).1
 have hjl:=(ui.1 hB).1
 have hM:=znF A B (hw A (List.mem_of_getElem? hA)) (hw B (List.mem_of_getElem? hB))
 have hY:=zZ 4 ((R.set p (mergeI A B)).eraseIdx q) 1
 have hX:=zdN (R.set p (mergeI A B)) (by rw[tq];omega) q (by rw[tq];omega)
 have hmn:(if(j:Int)<(i:Int)then(j:Int)else(i:Int))=(p:Int):=by split<;>omega
 have hmx:(if(i:Int)<(j:Int)then(j:Int)else(i:Int))=(q:Int):=by split<;>omega
 have hst:(R.map z8).set p (setAt (z8 D) 0 (z8 (mergeI A B)))=(R.set p (mergeI A B)).map z8:=by rw[UF];rfl
 clear hT
 refine gO T Tryz.func86 λC hC=>?_
 repeat' first|refine gG ?_|exact gD|(exfalso;have h2:=uo h;omega)|refine gB ?_ ?_<;>intro h|refine gV ?_|(refine wF hC hSz [(0,.arr 1 (R.map z8))] rfl rfl (zac.cons (LnS.agg (.cons (.refl _) (.cons (LnV.ar (.head _)) .nil))) (zac.refl _)) rfl rfl rfl rfl ?_)|(rw[ha]at hCa;rw[hb]at hCb;(refine wF hC hCa [(0,.arr 1 (R.map z8))] rfl rfl (zac.cons (LnS.agg (.cons (.refl _) (.cons (LnV.ar (.head _)) .nil))) (zac.refl _)) rfl rfl rfl rfl ?_))|(refine wF hC hCb [(0,.arr 1 (R.map z8))] rfl rfl (zac.cons (LnS.agg (.cons (.refl _) (.cons (LnV.ar (.head _)) .nil))) (zac.refl _)) rfl rfl rfl rfl ?_)|refine zne hC (p:Int) rfl rfl hmn rfl rfl ?_|refine zux hC (q:Int) rfl rfl hmx rfl rfl ?_|refine jA T hC (rows:=R.map z8) rfl rfl rfl rfl (uw _) (by rw[hlm];omega) rfl rfl ?_|refine wE T hC i 0 (rows:=R.map z8) (row:=z8 A) rfl rfl rfl rfl (zg hA) rfl rfl rfl ?_|refine wE T hC j 0 (rows:=R.map z8) (row:=z8 B) rfl rfl rfl rfl (zg hB) rfl rfl rfl ?_|refine gC hM ?_|refine jN T hC p 0 (rows:=R.map z8) (row:=z8 D) (us:=z8 (mergeI A B)) (rows':=(R.set p (mergeI A B)).map z8) rfl rfl rfl rfl rfl rfl rfl (zg hD) (uG 1) hst rfl ?_|(refine gZ 0 [(128,pS (yp (R.set p (mergeI A B))))] [(1002,[.p (ki 4),.p (yp (R.set p (mergeI A B)))])] ?_;refine gC hX ?_)|refine gC hX ?_|refine gC hY ?_
 all_goals exact gF
end
theorem zkL(R:Rws)(o:OpT)(hv:zJ 4 R=true)(ho:okOp 4 o=true)(h1: ¬(o.code=1/\R.flatten.length<500))(h2: ¬(o.code=2/\0<=clsI (at0 o.args 0) R 0/\0<=clsI (at0 o.args 1) R 0/\ ¬clsI (at0 o.args 0) R 0=clsI (at0 o.args 1) R 0)):
 zk Tryz.prog 86 [zm (stR 4 R),zm (opR o)] [] (.tup [zm (stR 4 (yv R o).1),zm (rsR (yv R o).2)]) []:=by
 obtain⟨hR,hT⟩:=zf5 hv
 rcases op4 ho with rfl|⟨x,y,hc,hx,hy⟩|⟨x,rfl,hx⟩|rfl
 ·by_cases h5:R.flatten.length=500
  ·have e:yv R ⟨1,[]⟩=(R,erR 4):=by simp only[yv];rw[ur ub,uv trivial];exact uv h5
   rw[e];exact zuT R hR hT h5
  ·exact absurd ⟨rfl,by have:=hT.tot;omega⟩ h1
 ·by_cases hz:clsI x R 0<0\/clsI y R 0<0
  ·rcases hc with rfl|rfl
   ·have e:yv R ⟨2,[x,y]⟩=(R,erR 12):=by simp only[yv];rw[ur ub,ur ub,ur ub];exact uv hz
    rw[e];exact zgl R hR hT x y _ _ (.inl ⟨.inl rfl,hz,rfl⟩)
   ·have e:yv R ⟨3,[x,y]⟩=(R,erR 12):=by simp only[yv];rw[ur ub,ur ub,ur ub];exact uv hz
    rw[e];exact zgl R hR hT x y _ _ (.inl ⟨.inr rfl,hz,rfl⟩)
  ·have hz1:0<=clsI x R 0:=by omega
   have hz2:0<=clsI y R 0:=by omega
   rcases hc with rfl|rfl
   ·by_cases hab:clsI x R 0=clsI y R 0
    ·have e:yv R ⟨2,[x,y]⟩=(R,okR 0):=by simp only[yv];rw[ur ub,ur ub,ur ub];exact(ur hz).trans ((ur ub).trans (uv hab))
     rw[e];exact zgl R hR hT x y _ _ (.inr ⟨hz1,hz2,.inl ⟨hab,.inr ⟨rfl,rfl⟩⟩⟩)
    ·exact absurd ⟨rfl,hz1,hz2,hab⟩ h2
   ·by_cases hab:clsI x R 0=clsI y R 0
    ·have e:yv R ⟨3,[x,y]⟩=(R,okR 1):=by simp only[yv];rw[ur ub,ur ub,ur ub];refine(ur hz).trans ((uv trivial).trans ?_);show(R,okR (if clsI x R 0=clsI y R 0 then 1 else 0))=_;rw[uv hab]
     rw[e];exact zgl R hR hT x y _ _ (.inr ⟨hz1,hz2,.inl ⟨hab,.inl ⟨rfl,rfl⟩⟩⟩)
    ·have e:yv R ⟨3,[x,y]⟩=(R,okR 0):=by simp only[yv];rw[ur ub,ur ub,ur ub];refine(ur hz).trans ((uv trivial).trans ?_);show(R,okR (if clsI x R 0=clsI y R 0 then 1 else 0))=_;rw[ur hab]
     rw[e];exact zgl R hR hT x y _ _ (.inr ⟨hz1,hz2,.inr ⟨hab,rfl,rfl⟩⟩)
 ·rcases vK x R 0 with⟨h,_⟩|⟨i,r,h,h2,_⟩
  ·have e:yv R ⟨4,[x]⟩=(R,erR 12):=by simp only[yv];rw[ur ub,ur ub,uv trivial];exact uv (by rw[show at0 [x] 0=x from rfl,h];decide)
   rw[e];exact zuU R hR hT x (by rw[h];decide)
  ·rw[tI]at h
   have e:yv R ⟨4,[x]⟩=(R,okR r.length):=by
    simp only[yv];rw[ur ub,ur ub,uv trivial,show at0 [x] 0=x from rfl,h,uF,yK h2];exact ur ua
   rw[e]
   exact zwc R hR hT x i r h h2
 ·exact zwb R hR hT
theorem znH(R:Rws)(o:OpT)(hv:zJ 4 R=true)(ho:okOp 4 o=true)(h:(o.code=1/\R.flatten.length<500)\/(o.code=2/\0<=clsI (at0 o.args 0) R 0/\0<=clsI (at0 o.args 1) R 0/\ ¬clsI (at0 o.args 0) R 0=clsI (at0 o.args 1) R 0)):
 zk Tryz.prog 86 [.agg [.p (ki 4),.ar 0],zm (opR o)] [(0,.arr 1 (R.map z8))] (.tup [zm (stR 4 (yv R o).1),zm (rsR (yv R o).2)]) []:=by
 obtain⟨hR,hT⟩:=zf5 hv
 have rd: ∀(a:Int),0<=clsI a R 0-> ∃(i:Nat) (r:Rw),clsI a R 0=(i:Int)/\R[i]?=some r:=λa ha=>by
  rcases vK a R 0 with⟨h,_⟩|⟨i,r,h,h2,_⟩
  ·omega
  ·exact⟨i,r,by rw[h,tI],h2⟩
 rcases op4 ho with rfl|⟨x,y,hc,hx,hy⟩|⟨x,rfl,hx⟩|rfl
 ·have h5:R.flatten.length<500:=h.elim (λh=>h.2) λh=>absurd h.1 ub
  have e:yv R ⟨1,[]⟩=(R++[[(R.flatten.length:Int)]],okR R.flatten.length):=by simp only[yv];rw[ur ub,uv trivial];exact ur ua
  rw[e];exact zwd R hR hT h5
 ·rcases hc with rfl|rfl
  ·obtain⟨-,hz1,hz2,hab⟩:=h.resolve_left λh=>absurd h.1 ue
   simp only[show at0 [x,y] 0=x from rfl,show at0 [x,y] 1=y from rfl]at hz1 hz2 hab
   obtain⟨i,A,h1,h2⟩:=rd x hz1
   obtain⟨j,B,h3,h4⟩:=rd y hz2
   have hz: ¬(clsI x R 0<0\/clsI y R 0<0):=by omega
   have e0:yv R ⟨2,[x,y]⟩=((R.set (min (clsI x R 0) (clsI y R 0)).toNat (mergeI (yo R (clsI x R 0).toNat) (yo R (clsI y R 0).toNat))).eraseIdx (max (clsI x R 0) (clsI y R 0)).toNat,okR 1):=by
    simp only[yv];rw[ur ub,ur ub,ur ub];exact(ur hz).trans ((ur ub).trans (ur hab))
   rw[e0,h1,h3]
   rcases Nat.lt_or_ge i j with hij|hij
   ·rw[UG ua,Ut ua,uF,uF,yK h2,yK h4]
    exact zuV R hR hT x y i j i j A B A h1 h3 h2 h4 h2 (.inl ⟨hij,rfl,rfl⟩)
   ·rw[Uu ua,UH ua,uF,uF,yK h2,yK h4]
    exact zuV R hR hT x y i j j i A B B h1 h3 h2 h4 h4 (.inr ⟨ua,rfl,rfl⟩)
  ·exact absurd (h.elim (λh=>h.1) λh=>absurd h.1 ue) ue
 ·exact absurd (h.elim (λh=>h.1) λh=>absurd h.1 ue) ue
 ·exact absurd (h.elim (λh=>h.1) λh=>absurd h.1 ub) ub
theorem znI(R:Rws)(o:OpT)(hv:zJ 3 R=true)(ho:okOp 3 o=true)(h4: ¬(o.code=4/\0<=at0 o.args 0/\at0 o.args 0<R.length))(h6: ¬(o.code=6/\0<=at0 o.args 0/\at0 o.args 0<=at0 o.args 1/\at0 o.args 1<=R.length)):
 zk Tryz.prog 85 [zm (stR 3 R),zm (opR o)] [] (.tup [zm (stR 3 (xp R o).1),zm (rsR (xp R o).2)]) []:=by
 obtain⟨hR,hT⟩:=zdK hv
 have hrow: ∀(i:Nat),i<R.length->R[i]?=some (yo R i)/\(yo R i).length=1:=λi hi=>⟨ym hi,hT.wide _ (List.mem_of_getElem? (ym hi))⟩
 have hcell: ∀(i:Nat),i<R.length->(yo R i)[0]?=some (at0 (yo R i) 0):=λi hi=>vD (by rw[(hrow i hi).2];omega)
 have hn: ∀r∈R,0<r.length/\ -1048576<=at0 r 0/\at0 r 0<=1048576:=λr hr=>by
  have h1:=hT.wide r hr
  exact⟨ua,zm7 (hT.nums r hr _ (List.mem_of_getElem? (vD (l:=r) (i:=0) ua)))⟩
 rcases op3 ho with⟨a,b,hc,ha,hb⟩|⟨a,hc,ha⟩|rfl
 ·rcases hc with rfl|rfl|rfl|rfl
  ·by_cases h0:a<0\/(R.length:Int)<a
   ·have e:xp R ⟨1,[a,b]⟩=(R,erR 2):=by simp only[xp];rw[ur ub,ur ub,uv trivial];exact uv h0
    rw[e];exact zdR R hR (.inl ⟨rfl,rfl,h0⟩)
   ·obtain⟨i,rfl⟩: ∃i:Nat,a=i:=⟨a.toNat,ua⟩
    by_cases h5:R.length=500
    ·have e:xp R ⟨1,[(i:Int),b]⟩=(R,erR 4):=by simp only[xp];rw[ur ub,ur ub,uv trivial];exact(ur h0).trans (uv h5)
     rw[e];exact zuS R hR i b ua h5
    ·have e:xp R ⟨1,[(i:Int),b]⟩=(ju R i [b],okR 0):=by simp only[xp];rw[ur ub,ur ub,uv trivial];exact(ur h0).trans (ur h5)
     rw[e];exact zv7 R hR i b ua ua
  ·by_cases h0:a<0\/(R.length:Int)<=a
   ·have e:xp R ⟨4,[a,b]⟩=(R,erR 2):=by simp only[xp];rw[ur ub,ur ub,ur ub];exact uv h0
    rw[e];exact zdR R hR (.inr (.inr ⟨.inl ⟨rfl,rfl⟩,h0⟩))
   ·exact absurd ⟨rfl,show 0<=a by omega,show a<R.length by omega⟩ h4
  ·by_cases h0:a<0\/b<a\/(R.length:Int)<b
   ·have e:xp R ⟨5,[a,b]⟩=(R,erR 2):=by simp only[xp];rw[ur ub,uv ue];exact uv h0
    rw[e];exact zdR R hR (.inr (.inl ⟨.inl rfl,rfl,h0⟩))
   ·obtain⟨i,rfl⟩: ∃i:Nat,a=i:=⟨a.toNat,ua⟩
    obtain⟨m,rfl⟩: ∃m:Nat,b=((i+m:Nat):Int):=⟨(b - i).toNat,ua⟩
    have e:xp R ⟨5,[(i:Int),((i+m:Nat):Int)]⟩=(R,okR (zdE ((R.take (i+m)).drop i))):=by simp only[xp];rw[ur ub,uv ue];exact(ur h0).trans (ur ub)
    rw[e];exact zv9 R hR i m ua hn
  ·by_cases h0:a<0\/b<a\/(R.length:Int)<b
   ·have e:xp R ⟨6,[a,b]⟩=(R,erR 2):=by simp only[xp];rw[ur ub,uv ue];exact uv h0
    rw[e];exact zdR R hR (.inr (.inl ⟨.inr rfl,rfl,h0⟩))
   ·exact absurd ⟨rfl,show 0<=a by omega,show a<=b by omega,show b<=R.length by omega⟩ h6
 ·by_cases h0:a<0\/(R.length:Int)<=a
  ·rcases hc with rfl|rfl
   ·have e:xp R ⟨2,[a]⟩=(R,erR 2):=by simp only[xp];rw[ur ub,ur ub,ur ub];exact uv h0
    rw[e];exact zdR R hR (b:=0) (.inr (.inr ⟨.inr ⟨.inl rfl,rfl⟩,h0⟩))
   ·have e:xp R ⟨3,[a]⟩=(R,erR 2):=by simp only[xp];rw[ur ub,ur ub,ur ub];exact uv h0
    rw[e];exact zdR R hR (b:=0) (.inr (.inr ⟨.inr ⟨.inr rfl,rfl⟩,h0⟩))
  ·obtain⟨i,rfl⟩: ∃i:Nat,a=i:=⟨a.toNat,ua⟩
   have hlt:i<R.length:=by omega
   rcases hc with rfl|rfl
   ·have e:xp R ⟨2,[(i:Int)]⟩=(R.eraseIdx i,okR (at0 (yo R i) 0)):=by simp only[xp];rw[ur ub,ur ub,ur ub];exact ur h0
    rw[e];exact zq4 R hR i _ _ (hrow i hlt).1 (hcell i hlt) (.inl ⟨rfl,rfl⟩)
   ·have e:xp R ⟨3,[(i:Int)]⟩=(R,okR (at0 (yo R i) 0)):=by simp only[xp];rw[ur ub,ur ub,ur ub];exact ur h0
    rw[e];exact zq4 R hR i _ _ (hrow i hlt).1 (hcell i hlt) (.inr ⟨rfl,rfl⟩)
 ·exact zv6 R hR
theorem znJ(R:Rws)(o:OpT)(hv:zJ 3 R=true)(ho:okOp 3 o=true)(h4:o.code=4/\0<=at0 o.args 0/\at0 o.args 0<R.length):
 zk Tryz.prog 85 [.agg [.p (ki 3),.ar 0],zm (opR o)] [(0,vg 1 R.length),(1,bg R)] (.tup [zm (stR 3 (xp R o).1),zm (rsR (xp R o).2)]) []:=by
 obtain⟨hR,hT⟩:=zdK hv
 have hrow: ∀(i:Nat),i<R.length->R[i]?=some (yo R i)/\(yo R i).length=1:=λi hi=>⟨ym hi,hT.wide _ (List.mem_of_getElem? (ym hi))⟩
 have hcell: ∀(i:Nat),i<R.length->(yo R i)[0]?=some (at0 (yo R i) 0):=λi hi=>vD (by rw[(hrow i hi).2];omega)
 obtain⟨h41,h42,h43⟩:=h4
 rcases op3 ho with⟨a,b,hc,ha,hb⟩|⟨a,hc,ha⟩|rfl
 ·rcases hc with rfl|rfl|rfl|rfl
  ·exact absurd h41 ue
  ·simp only[show at0 [a,b] 0=a from rfl]at h42 h43
   obtain⟨i,rfl⟩: ∃i:Nat,a=i:=⟨a.toNat,ua⟩
   have hlt:i<R.length:=by omega
   have h0: ¬((i:Int)<0\/(R.length:Int)<=i):=by omega
   have e:xp R ⟨4,[(i:Int),b]⟩=(R.set i ((yo R i).set 0 b),okR (at0 (yo R i) 0)):=by simp only[xp];rw[ur ub,ur ub,ur ub];exact ur h0
   rw[e]
   exact zv8 R hR i _ _ (hrow i hlt).1 (hcell i hlt) b (hrow i hlt).2
  ·exact absurd h41 ue
  ·exact absurd h41 ue
 ·rcases hc with rfl|rfl
  ·exact absurd h41 ue
  ·exact absurd h41 ue
 ·exact absurd h41 ue
theorem znK(R:Rws)(o:OpT)(hv:zJ 3 R=true)(ho:okOp 3 o=true)(h6:o.code=6/\0<=at0 o.args 0/\at0 o.args 0<=at0 o.args 1/\at0 o.args 1<=R.length):
 zk Tryz.prog 85 [.agg [.p (ki 3),.ar 0],zm (opR o)] [(0,.arr 1 (R.map z8))] (.tup [zm (stR 3 (xp R o).1),zm (rsR (xp R o).2)]) []:=by
 obtain⟨hR,hT⟩:=zdK hv
 have hn: ∀r∈R,0<r.length/\ -1048576<=at0 r 0/\at0 r 0<=1048576:=λr hr=>by
  have h1:=hT.wide r hr
  exact⟨ua,zm7 (hT.nums r hr _ (List.mem_of_getElem? (vD (l:=r) (i:=0) ua)))⟩
 obtain⟨h61,h62,h63,h64⟩:=h6
 rcases op3 ho with⟨a,b,hc,ha,hb⟩|⟨a,hc,ha⟩|rfl
 ·rcases hc with rfl|rfl|rfl|rfl
  ·exact absurd h61 ue
  ·exact absurd h61 ue
  ·exact absurd h61 ue
  ·simp only[show at0 [a,b] 0=a from rfl,show at0 [a,b] 1=b from rfl]at h62 h63 h64
   obtain⟨i,rfl⟩: ∃i:Nat,a=i:=⟨a.toNat,ua⟩
   obtain⟨m,rfl⟩: ∃m:Nat,b=((i+m:Nat):Int):=⟨(b - i).toNat,ua⟩
   have h0: ¬((i:Int)<0\/((i+m:Nat):Int)<i\/(R.length:Int)<((i+m:Nat):Int)):=by omega
   have e:xp R ⟨6,[(i:Int),((i+m:Nat):Int)]⟩=(zhw R i (i+m),okR 0):=by simp only[xp];rw[ur ub,uv ue];exact(ur h0).trans (uv trivial)
   rw[e]
   exact zwa R hR i m ua hn
 ·rcases hc with rfl|rfl
  ·exact absurd h61 ue
  ·exact absurd h61 ue
 ·exact absurd h61 ue
theorem zkM(R:Rws)(o:OpT)(z:Rws×RsT)(hR:R.length<=1000000)(hw: ∀r∈R,r.length<=1000000)(hF:zk Tryz.prog 83 [zm (stR 1 R),zm (opR o)] [] (.tup [zm (stR 1 z.1),zm (rsR z.2)]) []):
 zk Tryz.prog 56 [zm (stR 1 R),zm (opR o)] [] (.tup [zm (stR 1 z.1),zm (rsR z.2)]) []:=by
 have hCp:=j6 1 R hR hw
 refine gO T Tryz.func56 λC hC=>?_
 repeat' first|refine gG ?_|exact gD|refine gB ?_ ?_<;>intro h|refine gR hCp (nm [101]) ?_|(refine gZ 101 [(12,zm (stR 1 R))] [(1002,[.p (ki 1),.p (yp R)])] ?_;refine gC hF ?_)
 all_goals exact gF
theorem zkN(R:Rws)(o:OpT)(z:Rws×RsT)(hR:R.length<=1000000)(hw: ∀r∈R,r.length<=1000000)(hF:zk Tryz.prog 84 [zm (stR 2 R),zm (opR o)] [] (.tup [zm (stR 2 z.1),zm (rsR z.2)]) []):
 zk Tryz.prog 56 [zm (stR 2 R),zm (opR o)] [] (.tup [zm (stR 2 z.1),zm (rsR z.2)]) []:=by
 have hCp:=j6 2 R hR hw
 refine gO T Tryz.func56 λC hC=>?_
 repeat' first|refine gG ?_|exact gD|refine gB ?_ ?_<;>intro h|refine gR hCp (nm [101]) ?_|(refine gZ 101 [(19,zm (stR 2 R))] [(1002,[.p (ki 2),.p (yp R)])] ?_;refine gC hF ?_)
 all_goals exact gF
theorem zkO(R:Rws)(o:OpT)(z:Rws×RsT)(hR:R.length<=1000000)(hw: ∀r∈R,r.length<=1000000)(hF:zk Tryz.prog 85 [zm (stR 3 R),zm (opR o)] [] (.tup [zm (stR 3 z.1),zm (rsR z.2)]) []):
 zk Tryz.prog 56 [zm (stR 3 R),zm (opR o)] [] (.tup [zm (stR 3 z.1),zm (rsR z.2)]) []:=by
 have hCp:=j6 3 R hR hw
 refine gO T Tryz.func56 λC hC=>?_
 repeat' first|refine gG ?_|exact gD|refine gB ?_ ?_<;>intro h|refine gR hCp (nm [101]) ?_|(refine gZ 101 [(26,zm (stR 3 R))] [(1002,[.p (ki 3),.p (yp R)])] ?_;refine gC hF ?_)
 all_goals exact gF
theorem zkP(R:Rws)(o:OpT)(z:Rws×RsT)(hR:R.length<=1000000)(hw: ∀r∈R,r.length<=1000000)(hF:zk Tryz.prog 86 [zm (stR 4 R),zm (opR o)] [] (.tup [zm (stR 4 z.1),zm (rsR z.2)]) []):
 zk Tryz.prog 56 [zm (stR 4 R),zm (opR o)] [] (.tup [zm (stR 4 z.1),zm (rsR z.2)]) []:=by
 have hCp:=j6 4 R hR hw
 refine gO T Tryz.func56 λC hC=>?_
 repeat' first|refine gG ?_|exact gD|refine gB ?_ ?_<;>intro h|refine gR hCp (nm [101]) ?_|(refine gZ 101 [(33,zm (stR 4 R))] [(1002,[.p (ki 4),.p (yp R)])] ?_;refine gC hF ?_)
 all_goals exact gF
theorem zkQ(R:Rws)(o:OpT)(z:Rws×RsT)(hR:R.length<=1000000)(hw: ∀r∈R,r.length<=1000000)(hF:zk Tryz.prog 83 [.agg [.p (ki 1),.ar 0],zm (opR o)] [(0,vg 1 R.length),(1,bg R)] (.tup [zm (stR 1 z.1),zm (rsR z.2)]) []):
 zk Tryz.prog 56 [zm (stR 1 R),zm (opR o)] [] (.tup [zm (stR 1 z.1),zm (rsR z.2)]) []:=by
 have hCp:=zjo 1 R hR hw
 refine gO T Tryz.func56 λC hC=>?_
 repeat' first|refine gG ?_|exact gD|refine gB ?_ ?_<;>intro h|refine gR hCp (nm [101,102]) ?_|refine gR hF (nm [101,102]) ?_
 all_goals exact gF
theorem zkR(R:Rws)(o:OpT)(z:Rws×RsT)(hR:R.length<=1000000)(hw: ∀r∈R,r.length<=1000000)(hF:zk Tryz.prog 85 [.agg [.p (ki 3),.ar 0],zm (opR o)] [(0,vg 1 R.length),(1,bg R)] (.tup [zm (stR 3 z.1),zm (rsR z.2)]) []):
 zk Tryz.prog 56 [zm (stR 3 R),zm (opR o)] [] (.tup [zm (stR 3 z.1),zm (rsR z.2)]) []:=by
 have hCp:=zjo 3 R hR hw
 refine gO T Tryz.func56 λC hC=>?_
 repeat' first|refine gG ?_|exact gD|refine gB ?_ ?_<;>intro h|refine gR hCp (nm [101,102]) ?_|refine gR hF (nm [101,102]) ?_
 all_goals exact gF
theorem zkS(R:Rws)(o:OpT)(z:Rws×RsT)(hR:R.length<=1000000)(hw: ∀r∈R,r.length<=1000000)(hF:zk Tryz.prog 85 [.agg [.p (ki 3),.ar 0],zm (opR o)] [(0,.arr 1 (R.map z8))] (.tup [zm (stR 3 z.1),zm (rsR z.2)]) []):
 zk Tryz.prog 56 [zm (stR 3 R),zm (opR o)] [] (.tup [zm (stR 3 z.1),zm (rsR z.2)]) []:=by
 have hCp:=j6 3 R hR hw
 refine gO T Tryz.func56 λC hC=>?_
 repeat' first|refine gG ?_|exact gD|refine gB ?_ ?_<;>intro h|refine gR hCp (nm [101]) ?_|refine gR hF (nm [101]) ?_
 all_goals exact gF
theorem zkT(R:Rws)(o:OpT)(z:Rws×RsT)(hR:R.length<=1000000)(hw: ∀r∈R,r.length<=1000000)(hF:zk Tryz.prog 86 [.agg [.p (ki 4),.ar 0],zm (opR o)] [(0,.arr 1 (R.map z8))] (.tup [zm (stR 4 z.1),zm (rsR z.2)]) []):
 zk Tryz.prog 56 [zm (stR 4 R),zm (opR o)] [] (.tup [zm (stR 4 z.1),zm (rsR z.2)]) []:=by
 have hCp:=j6 4 R hR hw
 refine gO T Tryz.func56 λC hC=>?_
 repeat' first|refine gG ?_|exact gD|refine gB ?_ ?_<;>intro h|refine gR hCp (nm [101]) ?_|refine gR hF (nm [101]) ?_
 all_goals exact gF
theorem zeg(k:Int)(R:Rws)(o:OpT)(hm:k<=KM)(hv:zJ k R=true)(ho:okOp k o=true):zk Tryz.prog 56 [zm (stR k R),zm (opR o)] [] (.tup [zm (stR k (wq k R o).1),zm (rsR (wq k R o).2)]) []:=by
 obtain⟨hR,hw⟩:=zbb hv
 have hR':R.length<=1000000:=by omega
 have hw': ∀r∈R,r.length<=1000000:=λr hr=>by have:=hw r hr;omega
 obtain⟨_,hk⟩:=j4 hv
 have hk4:k<=4:=hm
 have hk:k=1\/k=2\/k=3\/k=4:=by omega
 rcases hk with rfl|rfl|rfl|rfl
 ·by_cases h:o.code=1/\hasC 1 R o.args=true
  ·exact zkQ R o _ hR' hw' (znD R o hv ho h.1 h.2)
  ·exact zkM R o _ hR' hw' (zkI R o hv ho h)
 ·exact zkN R o _ hR' hw' (zqc R o hv ho)
 ·by_cases h4:o.code=4/\0<=at0 o.args 0/\at0 o.args 0<R.length
  ·exact zkR R o _ hR' hw' (znJ R o hv ho h4)
  ·by_cases h6:o.code=6/\0<=at0 o.args 0/\at0 o.args 0<=at0 o.args 1/\at0 o.args 1<=R.length
   ·exact zkS R o _ hR' hw' (znK R o hv ho h6)
   ·exact zkO R o _ hR' hw' (znI R o hv ho h4 h6)
 ·by_cases h:(o.code=1/\R.flatten.length<500)\/(o.code=2/\0<=clsI (at0 o.args 0) R 0/\0<=clsI (at0 o.args 1) R 0/\ ¬clsI (at0 o.args 0) R 0=clsI (at0 o.args 1) R 0)
  ·exact zkT R o _ hR' hw' (znH R o hv ho h)
  ·exact zkP R o _ hR' hw' (zkL R o hv ho (λe=>h (.inl e)) λe=>h (.inr e))
end Hw.Fr.Md
namespace Hw.Fr
open Go Go.Proofs Go.Shelf Hw.M Md
def zai(m:Mt):List PV:=ki m.1::opR m.2
abbrev xd(ms:List Mt):PV:= .sl 3 (ms.map zai)
theorem zbY(t:Int):zk Tryz.prog 41 [I t] [] (.bq (xE t)) []:=by
 refine gO T Tryz.func41 λC hC=>?_
 repeat' first|refine gG ?_|refine gB ?_ ?_<;>intro h|refine gL ?_|refine gQ ?_
 all_goals first
  |(simp_all[xE];done)
  |(simp_all[xE];omega)
def atE(ms:List Mt)(t:Int):Int:=if hasT ms t=true then xr ms t else -1
variable {ms:List Mt}{t:Int}
theorem zuW{j:Nat}{m:Mt}(ha:ms.Pairwise λa b=>a.1<b.1)(hm:ms[j]?=some m)(he:m.1=t):xr ms t=j/\hasT ms t=true:=by
 have hlt:=(ui.1 hm).1
 have hp:xr ms t=j:=zeJ ua (λq x hq hx=>by
  obtain⟨h1,rfl⟩:=ui.1 hx
  obtain⟨h2,rfl⟩:=ui.1 hm
  have:=tu.1 ha q j h1 h2 hq
  omega) λx hx=>by rw[hm]at hx;cases hx;omega
 refine⟨hp,?_⟩
 unfold hasT
 rw[hp,hm]
 exact uK he
theorem zir(h: ∀m∈ms,m.1≠t):hasT ms t=false:=by
 unfold hasT
 cases hx:ms[xr ms t]? with
 |none=>rfl
 |some m=>exact uJ (h m (List.mem_of_getElem? hx))
theorem zqy(ms:List Mt)(t:Int)(hl:ms.length<=1000)(ha:ms.Pairwise λa b=>a.1<b.1):zk Tryz.prog 46 [pS (xd ms),I t] [] (I (atE ms t)) []:=by
 refine gO T Tryz.func46 λC hC=>?_
 repeat' first|refine gG ?_|refine gB ?_ ?_<;>intro h
 refine zn (λi:Nat=>i<=ms.length/\ ∀m∈ms.take i,m.1≠t) (λi=>([(0,pS (xd ms)),(1,I t),(5,I i)],[])) (λi=>ms.length - i) hC
  0 ⟨uA _,λm hm=>by cases hm⟩ id gM ?_
 rintro i ⟨hi,hn⟩
 refine zr T hC true 200 rfl ?_
 refine zu rfl ?_ ?_<;>intro h
 ·have hlt:i<ms.length:=by have:=uo h;rw[uj]at this;omega
  clear h
  obtain⟨m,hm⟩:=ze hlt
  repeat' first|refine gG ?_|refine gB ?_ ?_<;>intro h|refine gI T (zg hm) ?_|refine zx ?_|refine gN ?_
  ·obtain⟨h1,h2⟩:=zuW (t:=t) ha hm (uo h)
   unfold atE
   rw[uv h2,h1]
  ·rw[yO ua]
   refine zf (i+1) ⟨hlt,λm' h'=>?_⟩ id ua gM
   rw[tG,hm,u7]at h'
   rcases h' with h'|h'
   ·exact hn m' h'
   ·cases tP.1 h';exact uq h
 ·have hge:ms.length<=i:=by have:=uq h;rw[uj]at this;omega
  repeat' first|refine gG ?_|refine gB ?_ ?_<;>intro h|refine zj ?_|refine gN ?_
  unfold atE
  rw[zir λm hm=>hn m (by rw[uT hge];exact hm),ur ub]
theorem zrq(ms:List Mt)(t:Int)(o:OpT)(hl:ms.length<=1000)(ha:ms.Pairwise λa b=>a.1<b.1):zk Tryz.prog 47 [pS (xd ms),zm (zai (t,o))] [] (pS (xd (zag ms t o))) []:=by
 have hlm:(ms.map zai).length=ms.length:=uj _
 refine gO T Tryz.func47 λC hC=>?_
 repeat' first|refine gG ?_|refine gB ?_ ?_<;>intro h
 refine zn (λi:Nat=>i<=ms.length/\ ∀m∈ms.take i,m.1<t) (λi=>([(0,pS (xd ms)),(3,.one (.bx 1003 0)),(5,I i)],[(1003,some (Res.box ((zai (t,o)).map V.p)))])) (λi=>ms.length - i) hC
  0 ⟨uA _,λm hm=>by cases hm⟩ id gM ?_
 rintro i ⟨hi,hn⟩
 have hex:(∃m,ms[i]?=some m/\m.1<t/\i<ms.length)\/(i=xr ms t/\((∃m,ms[i]?=some m/\i<ms.length/\ ¬m.1<t)\/ms.length<=i)):=by
  have hb: ∀(j:Nat) m,j<i->ms[j]?=some m->m.1<t:=λj m hj hm=>hn m (List.mem_of_getElem? (i:=j) (by rw[uZ,uv hj];exact hm))
  by_cases hlt:i<ms.length
  ·obtain⟨m,hm⟩:=ze hlt
   by_cases hq:m.1<t
   ·exact .inl ⟨m,hm,hq,hlt⟩
   ·exact .inr ⟨(zeJ hi hb λm' h'=>by rw[hm]at h';cases h';exact hq).symm,.inl ⟨m,hm,hlt,hq⟩⟩
  ·exact .inr ⟨(zeJ hi hb λm' h'=>absurd (ui.1 h').1 hlt).symm,.inr ua⟩
 rcases hex with⟨m,hm,hq,hlt⟩|⟨hpos,⟨m,hm,hlt,hq⟩|hge⟩
 ·repeat' first|refine gG ?_|(exfalso;have h2:=uq h;rw[hlm]at h2;omega)|(exfalso;exact absurd hq (uq h))|refine gB ?_ ?_<;>intro h|refine gI T (zg hm) ?_
  rw[yO ua]
  refine zf (i+1) ⟨hlt,λm' h'=>?_⟩ id ua gM
  rw[tG,hm,u7]at h'
  rcases h' with h'|h'
  ·exact hn m' h'
  ·cases tP.1 h';exact hq
 all_goals
  have h1:((ms.take i).map zai).length=i:=by rw[uj,uz];omega
  have h2:((ms.drop i).map zai).length=ms.length - i:=by rw[uj,uQ]
  have h3:((ms.take i++[(t,o)]).map zai).length=i+1:=by simp;omega
  have h4:zag ms t o=ms.take i++(t,o)::ms.drop i:=by unfold zag zbB;rw[hpos]
  rw[h4]
  repeat' first|refine gG ?_|(exfalso;have h2:=uq h;rw[hlm]at h2;omega)|(exfalso;have h2:=uo h;rw[hlm]at h2;omega)|(exfalso;exact absurd (uo h) hq)|refine gB ?_ ?_<;>intro h|refine gI T (zg hm) ?_|refine zj ?_|(refine zaU T hC rfl rfl rfl rfl rfl ?_)|refine jx T hC ((ms.take i).map zai) rfl rfl rfl (uw _) (by rw[hlm];omega) (by rw[uF,qM]) rfl rfl ?_|refine gY T 102 ((ms.take i).map zai) 40 ?_|refine gT ?_|refine gY T 103 ((ms.take i++[(t,o)]).map zai) 40 ?_|refine zd4 T hC ((ms.drop i).map zai) rfl rfl rfl (uw _) (by rw[hlm];omega) (by rw[uF,oa]) rfl rfl ?_|refine xa T 104 hC (id:=103) (rows:=(ms.take i++[(t,o)]).map zai) (rows2:=(ms.drop i).map zai) (rows3:=(ms.take i++(t,o)::ms.drop i).map zai) (bytes:=40) rfl rfl rfl rfl (zae.sl (T.es_ok _ _ rfl)) (by rw[<-uY,tL];rfl) rfl rfl rfl ud (by rw[h2,h3];omega) (by rw[h2,h3];omega) rfl rfl rfl ?_
  refine gZ 104 [(4,pS (xd (ms.take i++(t,o)::ms.drop i)))] [] ?_
  exact gF
theorem zrr(ms:List Mt)(i:Nat)(hl:ms.length<=1000)(hi:i<ms.length):zk Tryz.prog 61 [pS (xd ms),I i] [] (pS (xd (ms.eraseIdx i))) []:=by
 have hlm:(ms.map zai).length=ms.length:=uj _
 have h1:((ms.take i).map zai).length=i:=by rw[uj,uz];omega
 have h2:((ms.drop (i+1)).map zai).length=ms.length - (i+1):=by rw[uj,uQ]
 have hw:IntKind.i64.wrap ((i:Int)+1)=((i+1:Nat):Int):=yO ua
 refine gO T Tryz.func61 λC hC=>?_
 repeat' first|refine gG ?_|refine gB ?_ ?_<;>intro h|(refine zaU T hC rfl rfl rfl rfl rfl ?_)|refine jx T hC ((ms.take i).map zai) rfl rfl rfl (uw _) (by rw[hlm];omega) (by rw[uF,qM]) rfl rfl ?_|refine gY T 102 ((ms.take i).map zai) 40 ?_|(rw[hw];refine zd4 T hC ((ms.drop (i+1)).map zai) rfl rfl rfl (uw _) (by rw[hlm];omega) (by rw[uF,oa]) rfl rfl ?_)|refine xa T 104 hC (id:=102) (rows:=(ms.take i).map zai) (rows2:=(ms.drop (i+1)).map zai) (rows3:=(ms.eraseIdx i).map zai) (bytes:=40) rfl rfl rfl rfl (zae.sl (T.es_ok _ _ rfl)) (by rw[<-uY,tZ]) rfl rfl rfl ud (by rw[h1,h2];omega) (by rw[h1,h2];omega) rfl rfl rfl ?_
 refine gZ 104 [(4,pS (xd (ms.eraseIdx i)))] [] ?_
 exact gF
end Hw.Fr
namespace Hw.Fr.Ps
open Go Go.Proofs Hw.M
abbrev zuX:=Int×Int×Str
def zuY:List zuX:=[(20,1,(⟨#[111,114]⟩:UW)),(19,2,(⟨#[97,110,100]⟩:UW)),(14,4,(⟨#[61,61]⟩:UW)),(15,4,(⟨#[33,61]⟩:UW)),(16,4,(⟨#[60]⟩:UW)),(17,4,(⟨#[60,61]⟩:UW)),(9,5,(⟨#[43]⟩:UW)),(10,5,(⟨#[45]⟩:UW)),(11,6,(⟨#[42]⟩:UW)),(12,6,(⟨#[47]⟩:UW)),(13,6,(⟨#[37]⟩:UW))]
def sgn(op:Int):Option zuX:=zuY.find? λx=>decide (x.1=op)
def signV(op:Int):S:=match sgn op with
 |some x=> .tup [Sr x.2.2,I x.2.1,Bo true]
 |none=> .tup [Sr (⟨#[]⟩:UW),I 0,Bo false]
def znL(op:Int):Int:=match sgn op with
 |some x=>x.2.1
 |none=>if op=18 then 3 else if op=8 then 7 else 8
theorem zq5(op:Int):sgn op=if op=20 then some (20,1,(⟨#[111,114]⟩:UW))else if op=19 then some (19,2,(⟨#[97,110,100]⟩:UW))else if op=14 then some (14,4,(⟨#[61,61]⟩:UW))else if op=15 then some (15,4,(⟨#[33,61]⟩:UW))else if op=16 then some (16,4,(⟨#[60]⟩:UW))else if op=17 then some (17,4,(⟨#[60,61]⟩:UW))
 else if op=9 then some (9,5,(⟨#[43]⟩:UW))else if op=10 then some (10,5,(⟨#[45]⟩:UW))else if op=11 then some (11,6,(⟨#[42]⟩:UW))else if op=12 then some (12,6,(⟨#[47]⟩:UW))else if op=13 then some (13,6,(⟨#[37]⟩:UW))else none:=by
 repeat' split
 all_goals first
  |(subst_vars;rfl)
  |simp[sgn,zuY,List.find?,eq_comm, *]
def zbI(op:Int):Str:=match sgn op with
 |some x=>x.2.2
 |none=>(⟨#[]⟩:UW)
theorem zqd(op:Int):zk Tryz.prog 324 [I op] [] (Sr (zbI op)) []:=by
 refine gO T Tryz.func324 λC hC=>?_
 repeat' first|refine gG ?_|refine gB ?_ ?_<;>intro h
 all_goals
  refine zt ⟨.inl rfl,id,_,rfl,.of ?_,trivial,rfl,rfl⟩
  simp only[zbI,zq5,tupOf,S.ren,V.ren]
  simp_all
theorem znM(op:Int):zk Tryz.prog 325 [I op] [] (I (znL op)) []:=by
 refine gO T Tryz.func325 λC hC=>?_
 repeat' first|refine gG ?_|refine gB ?_ ?_<;>intro h|refine gN ?_
 all_goals
  simp only[znL,zq5]
  simp_all
def isT(t:Tok)(s:Str):Bool:=(decide (t.k=3)||decide (t.k=4))&&decide (t.t=s)
variable {i:Nat}{t:Tok}
theorem zkU{l:List Tok}(h:l[i]?=some t)(s:Str):isA l i s=isT t s:=by unfold isA;rw[h];rfl
variable {α:Type}
def RY(f:FuncId)(args:List S)(enc:α->S)(r:PA α):Prop:= ∀x j,r= .ok x j->zk Tryz.prog f args [] (.tup [enc x,I (j:Nat),Bo true]) []
variable {j:Nat}{β:Type}{x:β}
theorem RY.at{f:FuncId}{args:List S}{enc:α->S}{r:PA α}(h:RY f args enc r){g:α->Nat->PA β}(e:r.bind g= .ok x j):
 ∃y k,r= .ok y k/\g y k= .ok x j/\zk Tryz.prog f args [] (.tup [enc y,I (k:Nat),Bo true]) []:=by
 obtain⟨y,k,h1,h2⟩:=zi e
 exact⟨y,k,h1,h2,h y k h1⟩
theorem zjq(t:Tok)(s:Str):zk Tryz.prog 209 [zm (vy t),Sr s] [] (.bq (isT t s)) []:=by
 refine gO T Tryz.func209 λC hC=>?_
 repeat' first|refine gG ?_|refine gB ?_ ?_<;>intro h
 all_goals first
  |exact zt ⟨.inl rfl,id,_,rfl,.qq (by simp_all[isT]),trivial,rfl,rfl⟩
  |exact zt ⟨.inl rfl,id,_,rfl,.qb (by simp_all[isT]),trivial,rfl,rfl⟩
theorem yS{l:List Tok}{s:Str}(ht:l[i]?=some t)(h:isA l i s=true):zk Tryz.prog 209 [zm (vy t),Sr s] [] (Bo true) []:=
 zj3 (zjq t s) (.bq (by rw[<-zkU ht];exact h))
theorem z6{l:List Tok}{s:Str}(ht:l[i]?=some t)(h: ¬isA l i s=true):zk Tryz.prog 209 [zm (vy t),Sr s] [] (Bo false) []:=
 zj3 (zjq t s) (.bq (by rw[<-zkU ht];simpa using h))
def zuZ(a:List Str):PV:= .sl 1 (a.map λs=>[ks s])
def allA(l:List Tok):List Str->Nat->PA Unit
 | [],i=> .ok () i
 |s::r,i=>(x6 l s i).bind λ_ i=>allA l r i
section
variable {l:List Tok} (hl:xG l)
include hl
theorem zjr(a:List Str)(ha:a.length<=5)(i:Nat)(hi:i<l.length): ∀u j,allA l a i= .ok u j->zk Tryz.prog 250 [pS (yu l),I (i:Nat),pS (zuZ a)] [] (.tup [I (j:Nat),Bo true]) []:=by
 have hll:=hl.len
 intro u j hR
 refine gO T Tryz.func250 λC hC=>?_
 repeat' first|refine gG ?_|refine gB ?_ ?_<;>intro h|refine gL ?_
 refine zn (λq:Nat×Nat=>q.1<=a.length/\q.2<l.length/\allA l (a.drop q.1) q.2= .ok u j) (λq=>([(0,pS (yu l)),(1,I (q.2:Nat)),(2,pS (zuZ a)),(8,I (q.1:Nat))],[])) (λq=>a.length - q.1) hC
  (0,i) ⟨uA _,hi,hR⟩ id gM ?_
 rintro⟨c,k⟩ ⟨hc,hk,hn⟩
 simp only at hc hk hn
 refine zr T hC true 200 rfl ?_
 refine zu rfl ?_ ?_<;>intro hh
 rotate_left
 ·have hge:c=a.length:=by have:=uq hh;simp only[uj]at this;omega
  clear hh
  subst hge
  rw[List.drop_length,allA]at hn
  cases hn
  repeat' first|refine gG ?_|refine gB ?_ ?_<;>intro h|refine zj ?_|refine gL ?_
  exact gF
 ·have hlt:c<a.length:=by have:=uo hh;simpa only[uj,Int.ofNat_lt]using this
  clear hh
  obtain⟨s,hs⟩:=ze hlt
  obtain⟨t,ht⟩:=ze hk
  rw[drop_at hs,allA]at hn
  unfold x6 at hn
  by_cases h1:isA l k s=true
  ·rw[uv h1]at hn
   repeat' first|refine gG ?_|refine gB ?_ ?_<;>intro h|refine gI T (zg ht) ?_|refine gI T (zg hs) ?_|refine gC (yS ht h1) ?_
   have hk1:=zh hl h1
   rw[zC (i:=k) ua,zC (i:=c) ua]
   exact zf (c+1,k+1) ⟨hlt,hk1,hn⟩ id (by simp only;omega) gM
  ·rw[ur h1]at hn
   cases hn
theorem y9{s:Str}(h:isA l i s=true):zk Tryz.prog 207 [pS (yu l),I (i:Nat),Sr s] [] (.tup [I ((i+1:Nat)),Bo true]) []:=by
 have hT:=zjr hl [s] ue i (zbE h) () (i+1) (by simp only[allA,x6,uv h,PA.bind])
 refine gO T Tryz.func207 λC hC=>?_
 repeat' first|refine gG ?_|refine gB ?_ ?_<;>intro h|refine gT ?_|refine gC hT ?_|refine gL ?_
 exact gF
theorem xD(i:Nat)(hi:i<l.length):RY 208 [pS (yu l),I (i:Nat)] Sr (xF l i):=by
 intro x j e
 have hll:=hl.len
 obtain⟨t,ht⟩:=ze hi
 unfold xF at e
 rw[ht]at e
 simp only at e
 by_cases hk:t.k=1
 ·rw[uv hk]at e
  cases e
  refine gO T Tryz.func208 λC hC=>?_
  repeat' first|refine gG ?_|(exfalso;exact absurd hk (by simpa using h))|refine gB ?_ ?_<;>intro h|refine gI T (zg ht) ?_|refine gL ?_
  rw[zC ua]
  exact gF
 ·rw[ur hk]at e;cases e
theorem znN(i:Nat)(hi:i<l.length):RY 282 [pS (yu l),I (i:Nat)] Sr (zlO l i):=by
 intro x j e
 have hll:=hl.len
 obtain⟨t,ht⟩:=ze hi
 unfold zlO at e
 by_cases h1:isA l i (⟨#[105,110,116]⟩:UW)=true
 ·rw[uv h1]at e
  cases e
  have e:t.t=(⟨#[105,110,116]⟩:UW):=by rw[zkU ht]at h1;simp only[isT,uu,ux]at h1;exact h1.2
  refine gO T Tryz.func282 λC hC=>?_
  repeat' first|refine gG ?_|refine gB ?_ ?_<;>intro h|refine gI T (zg ht) ?_|refine gC (yS ht h1) ?_|refine gL ?_
  rw[zC ua,<-e]
  exact gF
 ·rw[ur h1]at e
  by_cases h2:isA l i (⟨#[98,111,111,108]⟩:UW)=true
  ·rw[uv h2]at e
   cases e
   have e:t.t=(⟨#[98,111,111,108]⟩:UW):=by rw[zkU ht]at h2;simp only[isT,uu,ux]at h2;exact h2.2
   refine gO T Tryz.func282 λC hC=>?_
   repeat' first|refine gG ?_|refine gB ?_ ?_<;>intro h|refine gI T (zg ht) ?_|refine gC (z6 ht h1) ?_|refine gC (yS ht h2) ?_|refine gL ?_
   rw[zC ua,<-e]
   exact gF
  ·rw[ur h2]at e
   have hX:=xD hl i hi x j e
   refine gO T Tryz.func282 λC hC=>?_
   repeat' first|refine gG ?_|refine gB ?_ ?_<;>intro h|refine gI T (zg ht) ?_|refine gC (z6 ht h1) ?_|refine gC (z6 ht h2) ?_|refine gC hX ?_|refine gL ?_
   exact gF
theorem zcc{s:Str}(h:xF l i= .ok s j):j<l.length:=by
 unfold xF at h
 split at h
 ·rename_i t ht
  split at h
  ·cases h;exact hl.next ht ua
  ·cases h
 ·cases h
theorem zc8(i:Nat)(hi:i<l.length):RY 252 [pS (yu l),I (i:Nat)] (λf=>zm (zM f)) (yH l i):=by
 intro x j e
 unfold yH at e
 obtain⟨n,k,h1,h2,hX⟩:=(xD hl i hi).at e
 obtain⟨t,k2,h3,h4,hY⟩:=(znN hl k (zcc hl h1)).at h2
 cases h4
 refine gO T Tryz.func252 λC hC=>?_
 repeat' first|refine gG ?_|refine gB ?_ ?_<;>intro h|refine gC hX ?_|refine gC hY ?_|refine gL ?_
 exact gF
end
def zbu:List Int:=[9,10,11,12,13,14,15,16,17,18,19,20]
def opC(t:Tok)(m op:Int):Bool:=(!decide (zbI op=(⟨#[]⟩:UW))&&decide (znL op=m))&&isT t (zbI op)
def opF(t:Tok)(m:Int):Int:=(zbu.find? (opC t m)).getD 0
theorem zqe(h:j<12):zbu[j]?=some ((9+j:Nat):Int):=by
 have:j=0\/j=1\/j=2\/j=3\/j=4\/j=5\/j=6\/j=7\/j=8\/j=9\/j=10\/j=11:=by omega
 rcases this with rfl|rfl|rfl|rfl|rfl|rfl|rfl|rfl|rfl|rfl|rfl|rfl<;>rfl
theorem zu0(t:Tok)(m:Int):zk Tryz.prog 307 [zm (vy t),I m] [] (I (opF t m)) []:=by
 generalize hR:opF t m=R
 unfold opF at hR
 refine gO T Tryz.func307 λC hC=>?_
 repeat' first|refine gG ?_|refine gB ?_ ?_<;>intro h|refine gN ?_
 refine zn (λj:Nat=>j<=12/\((zbu.drop j).find? (opC t m)).getD 0=R) (λj=>([(1,I m),(2,.one (.bx 1002 0)),(5,I ((9+j:Nat)))],[(1002,some (Res.box ((vy t).map V.p)))])) (λj=>12 - j) hC
  0 ⟨ub,hR⟩ id gM ?_
 rintro j ⟨hj,hn⟩
 refine zr T hC true 200 rfl ?_
 refine zu rfl ?_ ?_<;>intro hh
 rotate_left
 ·have hge:j=12:=by have:=uq hh;omega
  subst hge
  clear hh
  rw[show(zbu.drop 12).find? (opC t m)=none from rfl]at hn
  subst hn
  repeat' first|refine gG ?_|refine gB ?_ ?_<;>intro h|refine zj ?_|refine gN ?_
  rfl
 ·have hlt:j<12:=by have:=uo hh;omega
  clear hh
  rw[drop_at (zqe hlt),UB]at hn
  have hS:=zqd ((9+j:Nat):Int)
  have hL:=znM ((9+j:Nat):Int)
  cases hc:opC t m ((9+j:Nat):Int)with
  |true=>
   rw[hc]at hn
   simp only[Option.getD_some]at hn
   subst hn
   unfold opC at hc
   simp only[uu,tH,ux,uX]at hc
   obtain⟨⟨hc1,hc2⟩,hc3⟩:=hc
   have hI:=zj3 (zjq t (zbI ((9+j:Nat):Int))) (.bq hc3)
   rw[hc2]at hL
   repeat' first|refine gG ?_|exact gD|(exfalso;exact absurd (by simpa using h) hc1)|refine gB ?_ ?_<;>intro h|refine gC hS ?_|refine gC hL ?_|refine gC hI ?_|refine zx ?_|refine gN ?_
   all_goals rfl
  |false=>
   rw[hc]at hn
   have hI:=zjq t (zbI ((9+j:Nat):Int))
   repeat' first|refine gG ?_|refine gB ?_ ?_<;>intro h|refine gC hS ?_|refine gC hL ?_|refine gC hI ?_|refine zx ?_|refine gN ?_
   all_goals first
    |(rw[show IntKind.i64.wrap (((9+j:Nat):Int)+1)=((9+(j+1):Nat):Int) by rw[zC ua];rfl];exact zf (j+1) ⟨hlt,hn⟩ id ua gM)
    |(exfalso;unfold opC at hc;clear hn hS hL hI;simp_all;done)
theorem zwe{l:List Tok}(ht:l[i]?=some t)(n:Nat)(hn:n<=6):opF t ((n+1:Nat):Int)=(opA l i n).getD 0:=by
 have e: ∀m:Int,zbu.find? (opC t m)=(zbu.filter λop=> !decide (zbI op=(⟨#[]⟩:UW))&&decide (znL op=m)).find? λop=>isT t (zbI op):=λm=>by
  rw[List.find?_filter];congr 1;funext a;unfold opC;simp[Bool.decide_and]
 unfold opF opA
 rw[e]
 simp only[zkU ht]
 have hcase:n=0\/n=1\/n=2\/n=3\/n=4\/n=5\/n=6:=by omega
 rcases hcase with rfl|rfl|rfl|rfl|rfl|rfl|rfl
 ·rw[show(zbu.filter λop=> !decide (zbI op=(⟨#[]⟩:UW))&&decide (znL op=((0+1:Nat):Int)))=[20] by decide]
  simp only[opsA,List.find?,show zbI 20=(⟨#[111,114]⟩:UW) from rfl]
  cases isT t (⟨#[111,114]⟩:UW)<;>rfl
 ·rw[show(zbu.filter λop=> !decide (zbI op=(⟨#[]⟩:UW))&&decide (znL op=((1+1:Nat):Int)))=[19] by decide]
  simp only[opsA,List.find?,show zbI 19=(⟨#[97,110,100]⟩:UW) from rfl]
  cases isT t (⟨#[97,110,100]⟩:UW)<;>rfl
 ·rw[show(zbu.filter λop=> !decide (zbI op=(⟨#[]⟩:UW))&&decide (znL op=((2+1:Nat):Int)))=[] by decide]
  rfl
 ·rw[show(zbu.filter λop=> !decide (zbI op=(⟨#[]⟩:UW))&&decide (znL op=((3+1:Nat):Int)))=[14,15,16,17] by decide]
  simp only[opsA,List.find?,show zbI 14=(⟨#[61,61]⟩:UW) from rfl,show zbI 15=(⟨#[33,61]⟩:UW) from rfl,show zbI 16=(⟨#[60]⟩:UW) from rfl,show zbI 17=(⟨#[60,61]⟩:UW) from rfl]
  cases h1:isT t (⟨#[61,61]⟩:UW)<;>cases h2:isT t (⟨#[33,61]⟩:UW)<;>cases h3:isT t (⟨#[60]⟩:UW)<;>cases h4:isT t (⟨#[60,61]⟩:UW)<;>try rfl
  simp only[isT,uu,ux]at h3 h4
  rw[h3.2]at h4
  exact absurd h4.2 ub
 ·rw[show(zbu.filter λop=> !decide (zbI op=(⟨#[]⟩:UW))&&decide (znL op=((4+1:Nat):Int)))=[9,10] by decide]
  simp only[opsA,List.find?,show zbI 9=(⟨#[43]⟩:UW) from rfl,show zbI 10=(⟨#[45]⟩:UW) from rfl]
  cases isT t (⟨#[43]⟩:UW)<;>cases isT t (⟨#[45]⟩:UW)<;>rfl
 ·rw[show(zbu.filter λop=> !decide (zbI op=(⟨#[]⟩:UW))&&decide (znL op=((5+1:Nat):Int)))=[11,12,13] by decide]
  simp only[opsA,List.find?,show zbI 11=(⟨#[42]⟩:UW) from rfl,show zbI 12=(⟨#[47]⟩:UW) from rfl,show zbI 13=(⟨#[37]⟩:UW) from rfl]
  cases isT t (⟨#[42]⟩:UW)<;>cases isT t (⟨#[47]⟩:UW)<;>cases isT t (⟨#[37]⟩:UW)<;>rfl
 ·rw[show(zbu.filter λop=> !decide (zbI op=(⟨#[]⟩:UW))&&decide (znL op=((6+1:Nat):Int)))=[] by decide]
  rfl
theorem zsY{l:List Tok}{n:Nat}{op:Int}(h:opA l i n=some op):op≠0:=by
 unfold opA at h
 rw[uH]at h
 obtain⟨a,h1,rfl⟩:=h
 have hm:=qI h1
 intro e
 revert e
 have: ∀n,∀a∈opsA n,a.2≠0:=by
  intro n
  by_cases h:n<6
  ·have:n=0\/n=1\/n=2\/n=3\/n=4\/n=5:=by omega
   rcases this with rfl|rfl|rfl|rfl|rfl|rfl<;>decide
  ·have:opsA n=[]:=by unfold opsA;split<;>first|omega|rfl
   rw[this];simp
 exact this n a hm
def RA(l:List Tok)(r:PA α):Prop:=(∀x j,r= .ok x j->j<l.length)/\(∀j,r= .no j->j<l.length)
theorem RA.er{α:Type}{l:List Tok}{r:PJ α}(h:RG l r):RA l (PJ.er r):=by
 rcases r with _|⟨x,j,_|_⟩
 ·exact⟨(λ_ _ e=>by cases e),λ_ e=>by cases e⟩
 ·exact⟨(λ_ _ e=>by cases e;exact h _ _ _ rfl),λ_ e=>by cases e⟩
 ·exact⟨(λ_ _ e=>by cases e),λ_ e=>by cases e;exact h _ _ _ rfl⟩
theorem vN(r:PA α):r.bind PA.ok=r:=by cases r<;>rfl
structure EY (l:List Tok) (f:Nat):Prop where
 lev: ∀(n i:Nat),n<=6->i<l.length->RY 284 [pS (yu l),I (i:Nat),I ((n+1:Nat))] enE (exprA l f n i)
 post: ∀i,i<l.length->RY 306 [pS (yu l),I (i:Nat)] enE (postA l f i)
 prim: ∀i,i<l.length->RY 323 [pS (yu l),I (i:Nat)] enE (primA l f i)
 args: ∀i,i<l.length-> ¬isA l i (⟨#[41]⟩:UW)=true->RY 334 [pS (yu l),I (i:Nat)] (λa=>pS (xL a)) (argsP l f i [])
 fixed: ∀(i k:Nat) (op:Int),1<=k->k<=3->i<l.length->RY 335 [pS (yu l),I (i:Nat),I op,I (k:Nat)] enE ((partsA l f k i []).bind λa i=> .ok (.mk op 0 (⟨#[]⟩:UW) a) i)
variable {f:Nat}
section
variable {l:List Tok} (hl:xG l)
include hl
theorem jg(f n i:Nat)(hi:i<l.length):RA l (exprA l f n i):=by rw[<-(jD f).1];exact .er ((vr hl f).1 n i hi)
theorem zjs(f i:Nat)(hi:i<l.length):RA l (postA l f i):=by rw[<-(jD f).2.2.1];exact .er ((vr hl f).2.2.1 i hi)
theorem zqf(f i:Nat)(hi:i<l.length):RA l (primA l f i):=by rw[<-(jD f).2.2.2.2.2.2];exact .er ((vr hl f).2.2.2.2.2.2 i hi)
theorem wR(hX:EY l f)(i:Nat)(hi:i<l.length):RY 255 [pS (yu l),I (i:Nat)] enE (exprA l f 0 i):=by
 have _:=hl
 intro x j e
 have hE:=hX.lev 0 i ub hi x j e
 refine gO T Tryz.func255 λC hC=>?_
 repeat' first|refine gG ?_|refine gB ?_ ?_<;>intro h|refine gC hE ?_|refine gL ?_
 exact gF
theorem zkV(f:Nat)(ih: ∀g,g<=f->EY l g)(i:Nat)(hi:i<l.length):RY 306 [pS (yu l),I (i:Nat)] enE (postA l (f+1) i):=by
 intro xf jf hR
 have hll:=hl.len
 simp only[postA]at hR
 obtain⟨y,k,hp,hd,hP⟩:=((ih f (uG _)).prim i hi).at hR
 have hk:=(zqf hl f i hi).1 _ _ hp
 refine gO T Tryz.func306 λC hC=>?_
 repeat' first|refine gG ?_|refine gB ?_ ?_<;>intro h|refine gC hP ?_
 refine zn (λq:Ex×Nat×Nat=>q.2.1<l.length/\dotsA l q.2.2 q.1 q.2.1= .ok xf jf)
  (λq=>([(0,pS (yu l)),(1,I (q.2.1:Nat)),(4,.one (.bx 1004 0)),(7,.one (.bx 1007 0))],[(1004,some z44),(1007,some (Res.box ((yG q.1).map V.p)))])) (λq=>q.2.2) hC
  (y,k,f) ⟨hk,hd⟩ id gM ?_
 clear hk hd hp hP hR
 rintro⟨y,k,g⟩ ⟨hk,hd⟩
 simp only at hk hd
 obtain⟨t,ht⟩:=ze hk
 cases g with
 |zero=>simp only[dotsA]at hd;cases hd
 |succ g=>
  simp only[dotsA]at hd
  by_cases hs:isA l k (⟨#[46]⟩:UW)=true
  ·rw[uv hs]at hd
   obtain⟨s,k2,hn,hd2,hN⟩:=(xD hl (k+1) (zh hl hs)).at hd
   rw[<-zC (i:=k) ua]at hN
   repeat' first|refine gG ?_|refine gB ?_ ?_<;>intro h|refine gI T (zg ht) ?_|refine gC (yS ht hs) ?_|refine gC hN ?_|refine gH T [zG y] ?_
   exact zf (.mk 5 0 s [y],k2,g) ⟨zcc hl hn,hd2⟩ id (qy _) gM
  ·rw[ur hs]at hd
   cases hd
   repeat' first|refine gG ?_|refine gB ?_ ?_<;>intro h|refine gI T (zg ht) ?_|refine gC (z6 ht hs) ?_|refine zj ?_|refine gL ?_
   exact gF
theorem zwf(hX:EY l f)(i:Nat)(hi:i<l.length):RY 284 [pS (yu l),I (i:Nat),I ((7+1:Nat))] enE (postA l f i):=by
 have _:=hl
 intro x j e
 have hE:=hX.post i hi x j e
 refine gO T Tryz.func284 λC hC=>?_
 repeat' first|refine gG ?_|exact gD|refine gB ?_ ?_<;>intro h|refine gC hE ?_|refine gL ?_
 exact gF
end
theorem znO{n:Nat}(h:n=2\/n=6)(l:List Tok)(k:Nat):opA l k n=none:=by
 rcases h with rfl|rfl<;>rfl
section
variable {l:List Tok} (hl:xG l)
include hl
theorem zc9(f:Nat)(ih: ∀g,g<=f->EY l g)(n i:Nat)(hn:n<=6)(hi:i<l.length){r:PA Ex}(hr:RY 284 [pS (yu l),I (i:Nat),I ((n+1+1:Nat))] enE r)(hg:RA l r)
 (h2:n=2-> ¬isA l i (⟨#[110,111,116]⟩:UW)=true) (h6:n=6-> ¬isA l i (⟨#[45]⟩:UW)=true):
 RY 284 [pS (yu l),I (i:Nat),I ((n+1:Nat))] enE (r.bind λx i=>if n=2\/n=6 then .ok x i else moreA l f n x i):=by
 intro xf jf hR
 have hll:=hl.len
 obtain⟨t,ht⟩:=ze hi
 rw[<-zC (i:=n+1) ua]at hr
 have hN:((n+1:Nat):Int)=7-> ¬isA l i (⟨#[45]⟩:UW)=true:=λh=>h6 ua
 have hM:((n+1:Nat):Int)=3-> ¬isA l i (⟨#[110,111,116]⟩:UW)=true:=λh=>h2 ua
 have h8: ¬(7:Int)<((n+1:Nat):Int):=by omega
 obtain⟨y,k,hp,hd,hP⟩:=hr.at hR
 have hk:=hg.1 _ _ hp
 refine gO T Tryz.func284 λC hC=>?_
 repeat' first|refine gG ?_|(exfalso;exact absurd (uo h) h8)|refine gB ?_ ?_<;>intro h|refine gI T (zg ht) ?_|refine jk hC ((z6 ht (hN (uo uf)))) rfl rfl (yr.refl _) rfl rfl rfl ?_|refine jk hC ((z6 ht (hM (uo uf)))) rfl rfl (yr.refl _) rfl rfl rfl ?_|refine gC hP ?_
 all_goals clear hP hr hN hM
 all_goals
  refine zn (λq:Ex×Nat×Nat=>q.2.1<l.length/\q.2.2<=f/\(if n=2\/n=6 then .ok q.1 q.2.1 else moreA l q.2.2 n q.1 q.2.1)= .ok xf jf)
   (λq=>([(0,pS (yu l)),(1,I (q.2.1:Nat)),(2,I ((n+1:Nat))),(6,.one (.bx 1006 0)),(13,.one (.bx 1013 0))],[(1006,some z44),(1013,some (Res.box ((yG q.1).map V.p)))])) (λq=>q.2.2) hC
   (y,k,f) ⟨hk,uG _,hd⟩ id gM ?_
  rintro⟨y,k,g⟩ ⟨hk,hgf,hd⟩
  simp only at hk hgf hd
  obtain⟨u,hu⟩:=ze hk
  have hO:=zu0 u ((n+1:Nat):Int)
  rw[zwe hu n hn]at hO
  cases ho:opA l k n with
  |none=>
   have hfin:PA.ok y k= .ok xf jf:=by
    split at hd
    ·exact hd
    ·cases g with
     |zero=>simp only[moreA]at hd;cases hd
     |succ g=>simp only[moreA]at hd;rw[ho]at hd;exact hd
   cases hfin
   rw[ho]at hO
   repeat' first|refine gG ?_|exact gD|refine gB ?_ ?_<;>intro h|refine gI T (zg hu) ?_|refine gC hO ?_|refine gL ?_|refine zx ?_
   exact gF
  |some op=>
   have hop:=zsY ho
   have hc: ¬(n=2\/n=6):=λe=>by rw[znO e]at ho;cases ho
   rw[ur hc]at hd
   cases g with
   |zero=>simp only[moreA]at hd;cases hd
   |succ g=>
    simp only[moreA]at hd
    rw[ho]at hd
    simp only at hd
    rw[ho]at hO
    have hk1:=ziA hl ho
    have hE:=(ih g ua).lev (n+1) (k+1) ua hk1
    rw[<-zC (i:=n+1) ua,<-zC (i:=k) ua]at hE
    obtain⟨z,k2,hz1,hd2,hE⟩:=hE.at hd
    have hk2:=(jg hl g (n+1) (k+1) hk1).1 _ _ hz1
    by_cases h3:n=3
    ·rw[uv h3]at hd2
     cases hd2
     repeat' first|refine gG ?_|(exfalso;exact absurd (uo h) hop)|(exfalso;exact absurd (show((n+1:Nat):Int)=4 by omega) (uq h))|refine gB ?_ ?_<;>intro h|refine gI T (zg hu) ?_|refine gC hO ?_|refine gC hE ?_|refine gH T [zG y,zG z] ?_|refine gL ?_|refine zx ?_
     exact gF
    ·rw[ur h3]at hd2
     repeat' first|refine gG ?_|(exfalso;exact absurd (uo h) hop)|(exfalso;exact absurd (uo h) (show ¬((n+1:Nat):Int)=4 by omega))|refine gB ?_ ?_<;>intro h|refine gI T (zg hu) ?_|refine gC hO ?_|refine gC hE ?_|refine gH T [zG y,zG z] ?_|refine gL ?_|refine zx ?_
     exact zf (.mk op 0 (⟨#[]⟩:UW) [y,z],k2,g) ⟨hk2,by simp only;omega,by rw[ur hc];exact hd2⟩ id (qy _) gM
theorem znP(f:Nat)(ih: ∀g,g<=f->EY l g)(n i:Nat)(hn:n<=6)(hi:i<l.length):RY 284 [pS (yu l),I (i:Nat),I ((n+1:Nat))] enE (exprA l (f+1) n i):=by
 have hll:=hl.len
 have hF:=ih f (uG _)
 obtain⟨t,ht⟩:=ze hi
 simp only[exprA]
 by_cases h2:n=2
 ·subst h2
  rw[uv rfl]
  by_cases hs:isA l i (⟨#[110,111,116]⟩:UW)=true
  ·rw[uv hs]
   intro xf jf hR
   have hE:=hF.lev 2 (i+1) ub (zh hl hs)
   rw[<-zC (i:=i) ua]at hE
   obtain⟨y,k,_,e,hE⟩:=hE.at hR
   cases e
   refine gO T Tryz.func284 λC hC=>?_
   repeat' first|refine gG ?_|exact gD|refine gB ?_ ?_<;>intro h|refine gI T (zg ht) ?_|refine gC (yS ht hs) ?_|refine gC hE ?_|refine gH T [zG y] ?_|refine gL ?_
   exact gF
  ·rw[ur hs]
   have:=zc9 hl f ih 2 i ub hi (hF.lev 3 i ub hi) (jg hl f 3 i hi) (λ_=>hs) (λh=>by cases h)
   simp only[UP,qx]at this
   rw[vN]at this
   exact this
 rw[ur h2]
 by_cases h6:n=6
 ·subst h6
  rw[uv rfl]
  by_cases hs:isA l i (⟨#[45]⟩:UW)=true
  ·rw[uv hs]
   intro xf jf hR
   have hE:=hF.lev 6 (i+1) ub (zh hl hs)
   rw[<-zC (i:=i) ua]at hE
   obtain⟨y,k,_,e,hE⟩:=hE.at hR
   cases e
   refine gO T Tryz.func284 λC hC=>?_
   repeat' first|refine gG ?_|exact gD|refine gB ?_ ?_<;>intro h|refine gI T (zg ht) ?_|refine gC (yS ht hs) ?_|refine gC hE ?_|refine gH T [zG y] ?_|refine gL ?_
   exact gF
  ·rw[ur hs]
   have:=zc9 hl f ih 6 i ub hi (zwf hl hF i hi) (zjs hl f i hi) (λh=>by cases h) (λ_=>hs)
   simp only[UQ,qx]at this
   rw[vN]at this
   exact this
 rw[ur h6]
 have:=zc9 hl f ih n i hn hi (hF.lev (n+1) i ua hi) (jg hl f (n+1) i hi) (λh=>absurd h h2) (λh=>absurd h h6)
 rw[show(λ(x:Ex) (i:Nat)=>if n=2\/n=6 then PA.ok x i else moreA l f n x i)=λx i=>moreA l f n x i from by funext x i;rw[ur ua]]at this
 exact this
theorem zkW(f:Nat)(ih: ∀g,g<=f->EY l g)(i:Nat)(hi:i<l.length)(h0: ¬isA l i (⟨#[41]⟩:UW)=true):RY 334 [pS (yu l),I (i:Nat)] (λa=>pS (xL a)) (argsP l (f+1) i []):=by
 intro xf jf hR
 have hll:=hl.len
 simp only[argsP]at hR
 rw[ur h0]at hR
 refine gO T Tryz.func334 λC hC=>?_
 repeat' first|refine gG ?_|refine gB ?_ ?_<;>intro h
 have hR2:(exprA l f 0 i).bind (λx i=>argsP l f i ([]++[x]))= .ok xf jf:=hR
 clear hR
 refine gA 101 4 [(7,.one (.ar 101))] [] ?_
 refine zn (λq:List Ex×Nat×Nat=>q.2.1<l.length/\q.2.2<=f/\q.1.length<=q.2.1/\(exprA l q.2.2 0 q.2.1).bind (λx i=>argsP l q.2.2 i (q.1++[x]))= .ok xf jf)
  (λq=>([(0,pS (yu l)),(1,I (q.2.1:Nat)),(7,.one (.ar 101))],[(101,some (Res.arr 4 (q.1.map zG)))])) (λq=>q.2.2) hC
  ([],i,f) ⟨hi,uG _,uA _,hR2⟩ id gM ?_
 clear hR2 h0 hi
 rintro⟨acc,k,g⟩ ⟨hk,hgf,hak,hd⟩
 simp only at hk hgf hak hd
 have hal:(acc.map zG).length=acc.length:=uj _
 obtain⟨y,k2,hy,hd2,hE⟩:=(wR hl (ih g hgf) k hk).at hd
 have hk2:=(jg hl g 0 k hk).1 _ _ hy
 have hkk:=((zek g).1 _ _ _ _ hy).1
 have hal':(acc++[y]).length=acc.length+1:=by simp
 obtain⟨t,ht⟩:=ze hk2
 cases g with
 |zero=>simp only[argsP]at hd2;cases hd2
 |succ g=>
  simp only[argsP]at hd2
  by_cases hs:isA l k2 (⟨#[41]⟩:UW)=true
  ·rw[uv hs]at hd2
   cases hd2
   repeat' first|refine gG ?_|refine gB ?_ ?_<;>intro h|refine gC hE ?_|refine gH T [zG y] ?_|(refine gY T 102 ((acc++[y]).map zG) 56 ?_)|refine gI T (zg ht) ?_|refine gC (yS ht hs) ?_|refine gL ?_|refine zx ?_
   rw[zC ua]
   refine gZ 102 [(4,pS (xL (acc++[y])))] [] ?_
   exact gF
  ·rw[ur hs,ur ua]at hd2
   by_cases hc:isA l k2 (⟨#[44]⟩:UW)=true
   ·have hd3:(exprA l g 0 (k2+1)).bind (λx i=>argsP l g i ((acc++[y])++[x]))= .ok xf jf:=by unfold x6 at hd2;rw[uv hc]at hd2;exact hd2
    repeat' first|refine gG ?_|refine gB ?_ ?_<;>intro h|refine gC hE ?_|refine gH T [zG y] ?_|(refine gY T 102 ((acc++[y]).map zG) 56 ?_)|refine gI T (zg ht) ?_|refine gC (z6 ht hs) ?_|refine gC (yS ht hc) ?_
    rw[zC (i:=k2) ua]
    exact zf (acc++[y],k2+1,g) ⟨zh hl hc,by simp only;omega,by simp only;omega,hd3⟩ (mvP 101 102) (qy _) ⟨rfl,⟨rfl,rfl,rfl,uh⟩,⟨rfl,uh⟩,rfl,λi hi=>yI ua hi⟩
   ·unfold x6 at hd2;rw[ur hc]at hd2;cases hd2
theorem zh0(f:Nat)(ih: ∀g,g<=f->EY l g)(i k:Nat)(op:Int)(hk1:1<=k)(hk3:k<=3)(hi:i<l.length):RY 335 [pS (yu l),I (i:Nat),I op,I (k:Nat)] enE ((partsA l (f+1) k i []).bind λa i=> .ok (.mk op 0 (⟨#[]⟩:UW) a) i):=by
 intro xf jf hR
 have hll:=hl.len
 refine gO T Tryz.func335 λC hC=>?_
 repeat' first|refine gG ?_|refine gB ?_ ?_<;>intro h
 refine gA 101 4 [] [(1011,[.p (ki op),.p (ki 0),.p (ks (⟨#[]⟩:UW)),.ar 101])] ?_
 refine zn (λq:List Ex×Nat×Nat=>q.1.length<=k/\q.2.1<l.length/\q.2.2<=f+1/\(partsA l q.2.2 (k - q.1.length) q.2.1 q.1).bind (λa i=> .ok (.mk op 0 (⟨#[]⟩:UW) a) i)= .ok xf jf)
  (λq=>([(0,pS (yu l)),(1,I (q.2.1:Nat)),(3,I (k:Nat)),(8,.one (.bx 1008 0)),(11,.one (.bx 1011 0)),(12,I (q.1.length:Nat))],[(1008,some z44),(1011,some (Res.box [.p (ki op),.p (ki 0),.p (ks (⟨#[]⟩:UW)),.ar 101])),(101,some (Res.arr 4 (q.1.map zG)))])) (λq=>k - q.1.length) hC
  ([],i,f+1) ⟨uA _,hi,uG _,hR⟩ id gM ?_
 clear hR hi
 rintro⟨acc,j,g⟩ ⟨hck,hj,hgf,hd⟩
 simp only at hck hj hgf hd
 have hal:(acc.map zG).length=acc.length:=uj _
 cases g with
 |zero=>simp only[partsA]at hd;cases hd
 |succ g=>
 simp only[partsA]at hd
 refine zr T hC true 200 rfl ?_
 refine zu rfl ?_ ?_<;>intro hh
 rotate_left
 ·have hge:k - acc.length=0:=by have:=uq hh;(try dsimp only at this);omega
  clear hh
  rw[uv hge]at hd
  refine gZ 101 [] [(1011,[.p (ki op),.p (ki 0),.p (ks (⟨#[]⟩:UW)),.p (xL acc)])] ?_
  unfold x6 at hd
  by_cases hs:isA l j (⟨#[41]⟩:UW)=true
  ·rw[uv hs]at hd
   cases hd
   repeat' first|refine gG ?_|refine gB ?_ ?_<;>intro h|refine zj ?_|refine gC (y9 hl hs) ?_|refine gL ?_
   exact gF
  ·rw[ur hs]at hd
   cases hd
 ·have hlt:acc.length<k:=by have:=uo hh;(try dsimp only at this);omega
  clear hh
  rw[ur ua]at hd
  have key: ∀s,isA l j s=true->((x6 l s j).bind λ_ i=>(exprA l g 0 i).bind λx i=>partsA l g (k - acc.length - 1) i (acc++[x])).bind (λa i=> .ok (.mk op 0 (⟨#[]⟩:UW) a) i)=PA.ok xf jf->
   ∃y k2,exprA l g 0 (j+1)= .ok y k2/\k2<l.length/\(partsA l g (k - (acc++[y]).length) k2 (acc++[y])).bind (λa i=> .ok (.mk op 0 (⟨#[]⟩:UW) a) i)= .ok xf jf/\zk Tryz.prog 255 [pS (yu l),I (j+1:Nat)] [] (.tup [enE y,I (k2:Nat),Bo true]) []:=λs hs hd=>by
   unfold x6 at hd
   rw[uv hs]at hd
   simp only[PA.bind]at hd
   obtain⟨y,k2,hy,hd2,hE⟩:=(wR hl (ih g ua) (j+1) (zh hl hs)).at (β:=Ex) (g:=λx i=>(partsA l g (k - acc.length - 1) i (acc++[x])).bind λa i=> .ok (.mk op 0 (⟨#[]⟩:UW) a) i) (x:=xf) (j:=jf) (by
    rw[<-hd];cases exprA l g 0 (j+1)<;>rfl)
   exact⟨y,k2,hy,(jg hl g 0 (j+1) (zh hl hs)).1 _ _ hy,by rw[uB,uC,<-Nat.sub_sub];exact hd2,hE⟩
  by_cases h0:acc.length=0
  ·rw[uv h0]at hd
   by_cases hs:isA l j (⟨#[40]⟩:UW)=true
   ·obtain⟨y,k2,hy,hk2,hd2,hE⟩:=key _ hs hd
    have hal':(acc++[y]).length=acc.length+1:=by simp
    repeat' first|refine gG ?_|(exfalso;have h':=uq h;(try dsimp only at h');omega)|refine gB ?_ ?_<;>intro h|refine gC (y9 hl hs) ?_|refine gC hE ?_|refine gH T [zG y] ?_|(refine gY T 102 ((acc++[y]).map zG) 56 ?_)
    dsimp only
    rw[zC (i:=acc.length) ua,show((acc.length+1:Nat):Int)=((acc++[y]).length:Int) by simp]
    exact zf (acc++[y],k2,g) ⟨by simp only;omega,hk2,by simp only;omega,hd2⟩ (mvP 101 102) (by simp only;omega) ⟨rfl,⟨rfl,rfl,rfl,rfl,rfl,rfl,uh⟩,⟨rfl,rfl,rfl,uh⟩,rfl,λi hi=>yI ua hi⟩
   ·unfold x6 at hd;rw[ur hs]at hd;cases hd
  ·rw[ur h0]at hd
   by_cases hs:isA l j (⟨#[44]⟩:UW)=true
   ·obtain⟨y,k2,hy,hk2,hd2,hE⟩:=key _ hs hd
    have hal':(acc++[y]).length=acc.length+1:=by simp
    repeat' first|refine gG ?_|(exfalso;have h':=uo h;(try dsimp only at h');omega)|refine gB ?_ ?_<;>intro h|refine gC (y9 hl hs) ?_|refine gC hE ?_|refine gH T [zG y] ?_|(refine gY T 102 ((acc++[y]).map zG) 56 ?_)
    dsimp only
    rw[zC (i:=acc.length) ua,show((acc.length+1:Nat):Int)=((acc++[y]).length:Int) by simp]
    exact zf (acc++[y],k2,g) ⟨by simp only;omega,hk2,by simp only;omega,hd2⟩ (mvP 101 102) (by simp only;omega) ⟨rfl,⟨rfl,rfl,rfl,rfl,rfl,rfl,uh⟩,⟨rfl,rfl,rfl,uh⟩,rfl,λi hi=>yI ua hi⟩
   ·unfold x6 at hd;rw[ur hs]at hd;cases hd
end
theorem vx{l:List Tok}{s:Str}(ht:l[i]?=some t)(h:isA l i s=true):(t.k=3\/t.k=4)/\t.t=s:=by
 rw[zkU ht]at h
 simpa only[isT,uu,tM,ux]using h
theorem le1{n:Int}{s:Str}{op:Int}{b:Bool}:LeS (.tup [.agg [.p (ki op),.p (ki n),.p (ks s),.p (.k (.slice none 0 0))],I (j:Nat),Bo b]) (.tup [enE (.mk op n s []),I (j:Nat),Bo b]):= .tup (.cons (zak _ _ _) (.cons (.refl _) (.cons (.refl _) .nil)))
section
variable {l:List Tok} (hl:xG l)
include hl
set_option maxHeartbeats 1000000 in
theorem zkX(f:Nat)(ih: ∀g,g<=f->EY l g)(i:Nat)(hi:i<l.length):RY 323 [pS (yu l),I (i:Nat)] enE (primA l (f+1) i):=by
 intro xf jf hR
 have hll:=hl.len
 have hF:=ih f (uG _)
 obtain⟨⟨tk,ts,tn,tl,tc⟩,ht⟩:=ze hi
 have hw:IntKind.i64.wrap ((i:Int)+1)=((i+1:Nat):Int):=zC ua
 simp only[primA]at hR
 rw[ht]at hR
 simp only at hR
 replace hR:=zq hR
 rcases hR with⟨hk2,hR⟩|⟨_,hR⟩
 ·subst hk2
  cases hR
  refine gO T Tryz.func323 λC hC=>?_
  repeat' first|refine gG ?_|exact gD|refine gB ?_ ?_<;>intro h|refine gI T (zg ht) ?_|refine gL ?_
  rw[hw]
  exact zt ⟨.inl rfl,id,_,rfl,le1,trivial,rfl,rfl⟩
 replace hR:=zq hR
 rcases hR with⟨hk1,hR⟩|⟨hk1,hR⟩
 ·subst hk1
  have hnx:i+1<l.length:=hl.next ht (by show(1:Int)≠5;decide)
  obtain⟨u,hu⟩:=ze hnx
  replace hR:=zq hR
  rcases hR with⟨hs,hR⟩|⟨hs,hR⟩
  ·have hi2:=zh hl hs
   obtain⟨v,hv⟩:=ze hi2
   have hw2:IntKind.i64.wrap ((i:Int)+2)=((i+1+1:Nat):Int):=by rw[show(i:Int)+2=((i+1:Nat):Int)+1 by omega];exact zC ua
   have hw3:IntKind.i64.wrap ((i:Int)+3)=((i+1+1+1:Nat):Int):=by rw[show(i:Int)+3=((i+1+1:Nat):Int)+1 by omega];exact zC ua
   by_cases hc:isA l (i+1+1) (⟨#[41]⟩:UW)=true
   ·cases f with
    |zero=>simp only[argsP]at hR;cases hR
    |succ f=>
     simp only[argsP]at hR
     rw[uv hc]at hR
     cases hR
     refine gO T Tryz.func323 λC hC=>?_
     repeat' first|refine gG ?_|exact gD|refine gB ?_ ?_<;>intro h|refine gI T (zg ht) ?_|refine yM T hC (i:=IntKind.i64.wrap ((i:Int)+1)) rfl rfl rfl (by rw[hw];exact uw _) (by rw[hw];exact zg hu) rfl rfl ?_|refine gC (yS hu hs) ?_|refine yM T hC (i:=IntKind.i64.wrap ((i:Int)+2)) rfl rfl rfl (by rw[hw2];exact uw _) (by rw[hw2];exact zg hv) rfl rfl ?_|refine gC (yS hv hc) ?_|refine gL ?_
     rw[hw3]
     exact zt ⟨.inl rfl,id,_,rfl,le1,trivial,rfl,rfl⟩
   ·have hA:=hF.args (i+1+1) hi2 hc
    rw[<-hw2]at hA
    obtain⟨y,k,_,e,hE⟩:=hA.at hR
    cases e
    refine gO T Tryz.func323 λC hC=>?_
    repeat' first|refine gG ?_|exact gD|refine gB ?_ ?_<;>intro h|refine gI T (zg ht) ?_|refine yM T hC (i:=IntKind.i64.wrap ((i:Int)+1)) rfl rfl rfl (by rw[hw];exact uw _) (by rw[hw];exact zg hu) rfl rfl ?_|refine gC (yS hu hs) ?_|refine yM T hC (i:=IntKind.i64.wrap ((i:Int)+2)) rfl rfl rfl (by rw[hw2];exact uw _) (by rw[hw2];exact zg hv) rfl rfl ?_|refine gC (z6 hv hc) ?_|refine gC hE ?_|refine gL ?_
    exact gF
  ·cases hR
   refine gO T Tryz.func323 λC hC=>?_
   repeat' first|refine gG ?_|exact gD|refine gB ?_ ?_<;>intro h|refine gI T (zg ht) ?_|refine yM T hC (i:=IntKind.i64.wrap ((i:Int)+1)) rfl rfl rfl (by rw[hw];exact uw _) (by rw[hw];exact zg hu) rfl rfl ?_|refine gC (z6 hu hs) ?_|refine gL ?_
   rw[hw]
   exact zt ⟨.inl rfl,id,_,rfl,le1,trivial,rfl,rfl⟩
 replace hR:=zq hR
 rcases hR with⟨hs,hR⟩|⟨_,hR⟩
 ·obtain⟨rfl|rfl,rfl⟩:=vx ht hs
  all_goals
   cases hR
   refine gO T Tryz.func323 λC hC=>?_
   repeat' first|refine gG ?_|exact gD|refine gB ?_ ?_<;>intro h|refine gI T (zg ht) ?_|refine gL ?_
   rw[hw]
   exact zt ⟨.inl rfl,id,_,rfl,le1,trivial,rfl,rfl⟩
 replace hR:=zq hR
 rcases hR with⟨hs,hR⟩|⟨_,hR⟩
 ·obtain⟨rfl|rfl,rfl⟩:=vx ht hs
  all_goals
   cases hR
   refine gO T Tryz.func323 λC hC=>?_
   repeat' first|refine gG ?_|exact gD|refine gB ?_ ?_<;>intro h|refine gI T (zg ht) ?_|refine gL ?_
   rw[hw]
   exact zt ⟨.inl rfl,id,_,rfl,le1,trivial,rfl,rfl⟩
 replace hR:=zq hR
 rcases hR with⟨hs,hR⟩|⟨_,hR⟩
 ·obtain⟨rfl|rfl,rfl⟩:=vx ht hs
  all_goals
   cases hR
   refine gO T Tryz.func323 λC hC=>?_
   repeat' first|refine gG ?_|exact gD|refine gB ?_ ?_<;>intro h|refine gI T (zg ht) ?_|refine gL ?_
   rw[hw]
   exact zt ⟨.inl rfl,id,_,rfl,le1,trivial,rfl,rfl⟩
 replace hR:=zq hR
 rcases hR with⟨hs,hR⟩|⟨_,hR⟩
 ·obtain⟨rfl|rfl,rfl⟩:=vx ht hs
  all_goals
   cases hR
   refine gO T Tryz.func323 λC hC=>?_
   repeat' first|refine gG ?_|exact gD|refine gB ?_ ?_<;>intro h|refine gI T (zg ht) ?_|refine gL ?_
   rw[hw]
   exact zt ⟨.inl rfl,id,_,rfl,le1,trivial,rfl,rfl⟩
 replace hR:=zq hR
 rcases hR with⟨hs,hR⟩|⟨_,hR⟩
 ·have hN:=zh hl hs
  obtain⟨y,k,_,e,hE⟩:=(xD hl (i+1) hN).at hR
  cases e
  rw[<-hw]at hE
  obtain⟨rfl|rfl,rfl⟩:=vx ht hs
  all_goals
   refine gO T Tryz.func323 λC hC=>?_
   repeat' first|refine gG ?_|exact gD|refine gB ?_ ?_<;>intro h|refine gI T (zg ht) ?_|refine gC hE ?_|refine gL ?_
   exact zt ⟨.inl rfl,id,_,rfl,le1,trivial,rfl,rfl⟩
 replace hR:=zq hR
 rcases hR with⟨hs,hR⟩|⟨_,hR⟩
 ·have hN:=zh hl hs
  obtain⟨y,k,_,e,hE⟩:=(hF.fixed (i+1) 3 21 ub ub hN).at (g:=PA.ok) (by rw[vN];exact hR)
  cases e
  rw[<-hw]at hE
  obtain⟨rfl|rfl,rfl⟩:=vx ht hs
  all_goals
   refine gO T Tryz.func323 λC hC=>?_
   repeat' first|refine gG ?_|exact gD|refine gB ?_ ?_<;>intro h|refine gI T (zg ht) ?_|refine gC hE ?_|refine gL ?_
   exact gF
 replace hR:=zq hR
 rcases hR with⟨hs,hR⟩|⟨_,hR⟩
 ·have hN:=zh hl hs
  obtain⟨y,k,_,e,hE⟩:=(hF.fixed (i+1) 2 22 ub ub hN).at (g:=PA.ok) (by rw[vN];exact hR)
  cases e
  rw[<-hw]at hE
  obtain⟨rfl|rfl,rfl⟩:=vx ht hs
  all_goals
   refine gO T Tryz.func323 λC hC=>?_
   repeat' first|refine gG ?_|exact gD|refine gB ?_ ?_<;>intro h|refine gI T (zg ht) ?_|refine gC hE ?_|refine gL ?_
   exact gF
 replace hR:=zq hR
 rcases hR with⟨hs,hR⟩|⟨_,hR⟩
 ·have hN:=zh hl hs
  obtain⟨y,k,_,e,hE⟩:=(hF.fixed (i+1) 2 23 ub ub hN).at (g:=PA.ok) (by rw[vN];exact hR)
  cases e
  rw[<-hw]at hE
  obtain⟨rfl|rfl,rfl⟩:=vx ht hs
  all_goals
   refine gO T Tryz.func323 λC hC=>?_
   repeat' first|refine gG ?_|exact gD|refine gB ?_ ?_<;>intro h|refine gI T (zg ht) ?_|refine gC hE ?_|refine gL ?_
   exact gF
 replace hR:=zq hR
 rcases hR with⟨hs,hR⟩|⟨_,hR⟩
 ·have hN:=zh hl hs
  obtain⟨y,k,_,e,hE⟩:=(hF.fixed (i+1) 1 24 ub ub hN).at (g:=PA.ok) (by rw[vN];exact hR)
  cases e
  rw[<-hw]at hE
  obtain⟨rfl|rfl,rfl⟩:=vx ht hs
  all_goals
   refine gO T Tryz.func323 λC hC=>?_
   repeat' first|refine gG ?_|exact gD|refine gB ?_ ?_<;>intro h|refine gI T (zg ht) ?_|refine gC hE ?_|refine gL ?_
   exact gF
 replace hR:=zq hR
 rcases hR with⟨hs,hR⟩|⟨_,hR⟩
 ·have hN:=zh hl hs
  obtain⟨y,k,hy,e,hE⟩:=(wR hl hF (i+1) hN).at hR
  rw[<-hw]at hE
  unfold x6 at e
  by_cases hq:isA l k (⟨#[41]⟩:UW)=true
  ·rw[uv hq]at e
   cases e
   obtain⟨rfl|rfl,rfl⟩:=vx ht hs
   all_goals
    refine gO T Tryz.func323 λC hC=>?_
    repeat' first|refine gG ?_|exact gD|refine gB ?_ ?_<;>intro h|refine gI T (zg ht) ?_|refine gC hE ?_|refine gC (y9 hl hq) ?_|refine gL ?_
    exact gF
  ·rw[ur hq]at e;cases e
 cases hR
theorem zda: ∀f:Nat,EY l f:=by
 intro f
 induction f using Nat.strongRecOn with
 |_ f ih=>
  cases f with
  |zero=>exact⟨(λ_ _ _ _ _ _ h=>by simp only[exprA]at h;cases h),(λ_ _ _ _ h=>by simp only[postA]at h;cases h),(λ_ _ _ _ h=>by simp only[primA]at h;cases h),(λ_ _ _ _ _ h=>by simp only[argsP]at h;cases h),(λ_ _ _ _ _ _ _ _ h=>by simp only[partsA,PA.bind]at h;cases h)⟩
  |succ f=>
   have ih': ∀g,g<=f->EY l g:=λg hg=>ih g ua
   exact⟨λn i hn hi=>znP hl f ih' n i hn hi,λi hi=>zkV hl f ih' i hi,λi hi=>zkX hl f ih' i hi,λi hi h0=>zkW hl f ih' i hi h0,λi k op h1 h3 hi=>zh0 hl f ih' i k op h1 h3 hi⟩
end
abbrev enS(s:Sm):S:=zm (za7 s)
theorem le5{a b c c' d d' e e':V}{x y:S}(h1:LeV c c')(h2:LeV d d')(h3:LeV e e'):LeS (.tup [.agg [a,b,c,d,e],x,y]) (.tup [.agg [a,b,c',d',e'],x,y]):= .tup (.cons (.agg (.cons (.refl _) (.cons (.refl _) (.cons h1 (.cons h2 (.cons h3 .nil)))))) (.cons (.refl _) (.cons (.refl _) .nil)))
theorem zh1{l:List Tok}{s:Str}{g:Nat->PA β}(h:((x6 l s i).bind λ_ i=>g i)= .ok x j):isA l i s=true/\g (i+1)= .ok x j:=by
 unfold x6 at h
 by_cases hs:isA l i s=true
 ·rw[uv hs]at h;exact⟨hs,h⟩
 ·rw[ur hs]at h;cases h
structure SY (l:List Tok) (f:Nat):Prop where
 blk: ∀i,i<l.length->RY 283 [pS (yu l),I (i:Nat)] (λa=>pS (yF a)) (stmtsA l f i [])
 brc: ∀i,i<l.length->RY 321 [pS (yu l),I (i:Nat)] (λa=>pS (yF a)) (xu l f i)
 stm: ∀i,i<l.length->RY 305 [pS (yu l),I (i:Nat)] enS (wZ l f i)
section
variable {l:List Tok} (hl:xG l)
include hl
theorem znQ(f i:Nat)(hi:i<l.length):RA l (xu l f i):=by rw[<-(zem f).2.1];exact .er ((zbi hl f).2.1 i hi)
theorem zqg(f i:Nat)(hi:i<l.length):RA l (wZ l f i):=by rw[<-(zem f).2.2];exact .er ((zbi hl f).2.2 i hi)
theorem zcd(a b c d e:PV){k:Nat}(h:isA l k (⟨#[59]⟩:UW)=true):zk Tryz.prog 322 [pS (yu l),zm [a,b,c,d,e],I (k:Nat),Bo true] [] (.tup [zm [a,b,c,d,e],I ((k+1:Nat)),Bo true]) []:=by
 refine gO T Tryz.func322 λC hC=>?_
 repeat' first|refine gG ?_|exact gD|refine gB ?_ ?_<;>intro h|refine gC (y9 hl h) ?_|refine gL ?_
 exact gF
theorem zh2(f:Nat)(ih: ∀g,g<=f->SY l g)(i:Nat)(hi:i<l.length):RY 283 [pS (yu l),I (i:Nat)] (λa=>pS (yF a)) (stmtsA l (f+1) i []):=by
 intro xf jf hR
 have hll:=hl.len
 refine gO T Tryz.func283 λC hC=>?_
 repeat' first|refine gG ?_|refine gB ?_ ?_<;>intro h
 refine gA 101 5 [(7,.one (.ar 101))] [] ?_
 refine zn (λq:List Sm×Nat×Nat=>q.2.1<l.length/\q.2.2<=f+1/\q.1.length<=q.2.1/\stmtsA l q.2.2 q.2.1 q.1= .ok xf jf)
  (λq=>([(0,pS (yu l)),(1,I (q.2.1:Nat)),(7,.one (.ar 101))],[(101,some (Res.arr 5 (q.1.map vC)))])) (λq=>q.2.2) hC
  ([],i,f+1) ⟨hi,uG _,uA _,hR⟩ id gM ?_
 clear hR hi
 rintro⟨acc,k,g⟩ ⟨hk,hgf,hak,hd⟩
 simp only at hk hgf hak hd
 have hal:(acc.map vC).length=acc.length:=uj _
 obtain⟨t,ht⟩:=ze hk
 cases g with
 |zero=>simp only[stmtsA]at hd;cases hd
 |succ g=>
  simp only[stmtsA]at hd
  by_cases hs:isA l k ⟨#[125]⟩=true
  ·rw[uv hs]at hd
   cases hd
   repeat' first|refine gG ?_|exact gD|refine gB ?_ ?_<;>intro h|refine gI T (zg ht) ?_|refine gC (yS ht hs) ?_|refine zj ?_|refine gL ?_
   rw[zC (i:=k) ua]
   refine gZ 101 [(4,pS (yF xf))] [] ?_
   exact gF
  ·rw[ur hs]at hd
   obtain⟨y,k2,hy,hd2,hE⟩:=((ih g ua).stm k hk).at hd
   have hk2:=(zqg hl g k hk).1 _ _ hy
   have hkk:=((ziu g).2.2 _ _ _ hy).1
   have hal':(acc++[y]).length=acc.length+1:=by simp
   repeat' first|refine gG ?_|exact gD|refine gB ?_ ?_<;>intro h|refine gI T (zg ht) ?_|refine gC (z6 ht hs) ?_|refine gC hE ?_|refine gH T [vC y] ?_|(refine gY T 102 ((acc++[y]).map vC) 96 ?_)
   exact zf (acc++[y],k2,g) ⟨hk2,by simp only;omega,by simp only;omega,hd2⟩ (mvP 101 102) (qy _) ⟨rfl,⟨rfl,rfl,rfl,uh⟩,⟨rfl,uh⟩,rfl,λi hi=>yI ua hi⟩
theorem zgm(f:Nat)(ih: ∀g,g<=f->SY l g)(i:Nat)(hi:i<l.length):RY 321 [pS (yu l),I (i:Nat)] (λa=>pS (yF a)) (xu l (f+1) i):=by
 intro xf jf hR
 simp only[xu]at hR
 obtain⟨hs,hR⟩:=zh1 hR
 have hB:=(ih f (uG _)).blk (i+1) (zh hl hs) _ _ hR
 refine gO T Tryz.func321 λC hC=>?_
 repeat' first|refine gG ?_|exact gD|refine gB ?_ ?_<;>intro h|refine gC (y9 hl hs) ?_|refine gC hB ?_|refine gL ?_
 exact gF
set_option maxHeartbeats 1000000 in
theorem zkY(f:Nat)(ih: ∀g,g<=f->SY l g)(i:Nat)(hi:i<l.length):RY 305 [pS (yu l),I (i:Nat)] enS (wZ l (f+1) i):=by
 intro xf jf hR
 have hll:=hl.len
 have hS:=ih f (uG _)
 obtain⟨t,ht⟩:=ze hi
 have hw:IntKind.i64.wrap ((i:Int)+1)=((i+1:Nat):Int):=zC ua
 simp only[wZ]at hR
 replace hR:=zq hR
 rcases hR with⟨h1,hR⟩|⟨h1,hR⟩
 ·have hNW: ¬isA l i (⟨#[119,104,105,108,101]⟩:UW)=true:=λh=>absurd (zcO h1 h) ub
  have hi1:=zh hl h1
  obtain⟨x,k,hx,hd,hE⟩:=(wR hl (zda hl f) (i+1) hi1).at hR
  rw[<-hw]at hE
  have hk:=(jg hl f 0 (i+1) hi1).1 _ _ hx
  obtain⟨a,k2,ha,hd2,hB⟩:=(hS.brc k hk).at hd
  have hk2:=(znQ hl f k hk).1 _ _ ha
  obtain⟨u,hu⟩:=ze hk2
  replace hd2:=zq hd2
  rcases hd2 with⟨hs,hd2⟩|⟨hs,hd2⟩
  ·obtain⟨c,k4,hc,hd3,hB3⟩:=(hS.brc (k2+1) (zh hl hs)).at hd2
   rw[<-zC (i:=k2) ua]at hB3
   cases hd3
   refine gO T Tryz.func305 λC hC=>?_
   repeat' first|refine gG ?_|exact gD|refine gB ?_ ?_<;>intro h|refine gI T (zg ht) ?_|refine gC (yS ht h1) ?_|refine gC (z6 ht hNW) ?_|refine gC hE ?_|refine gH T [zG x] ?_|refine gC hB ?_|refine gI T (zg hu) ?_|refine gC (yS hu hs) ?_|refine gC hB3 ?_|refine gL ?_
   exact gF
  ·cases hd2
   refine gO T Tryz.func305 λC hC=>?_
   repeat' first|refine gG ?_|exact gD|refine gB ?_ ?_<;>intro h|refine gI T (zg ht) ?_|refine gC (yS ht h1) ?_|refine gC (z6 ht hNW) ?_|refine gC hE ?_|refine gH T [zG x] ?_|refine gC hB ?_|refine gI T (zg hu) ?_|refine gC (z6 hu hs) ?_|refine gL ?_
   exact zt ⟨.inl rfl,id,_,rfl,le5 (.refl _) (.refl _) (.nil 5),trivial,rfl,rfl⟩
 replace hR:=zq hR
 rcases hR with⟨h1w,hR⟩|⟨h1w,hR⟩
 ·have hi1:=zh hl h1w
  obtain⟨x,k,hx,hd,hE⟩:=(wR hl (zda hl f) (i+1) hi1).at hR
  rw[<-hw]at hE
  obtain⟨a,k2,ha,hd2,hB⟩:=(hS.brc k ((jg hl f 0 (i+1) hi1).1 _ _ hx)).at hd
  cases hd2
  refine gO T Tryz.func305 λC hC=>?_
  repeat' first|refine gG ?_|exact gD|refine gB ?_ ?_<;>intro h|refine gI T (zg ht) ?_|refine gC (z6 ht h1) ?_|refine gC (yS ht h1w) ?_|refine gC hE ?_|refine gH T [zG x] ?_|refine gC hB ?_|refine gL ?_
  exact zt ⟨.inl rfl,id,_,rfl,le5 (.refl _) (.refl _) (.nil 5),trivial,rfl,rfl⟩
 replace hR:=zq hR
 rcases hR with⟨h3,hR⟩|⟨h3,hR⟩
 ·have hi1:=zh hl h3
  obtain⟨u1,hu1⟩:=ze hi1
  replace hR:=zq hR
  rcases hR with⟨hs,hR⟩|⟨hs,hR⟩
  ·cases hR
   have hw2:IntKind.i64.wrap ((i:Int)+2)=((i+2:Nat):Int):=by rw[show(i:Int)+2=((i+1:Nat):Int)+1 by omega];exact zC ua
   refine gO T Tryz.func305 λC hC=>?_
   repeat' first|refine gG ?_|exact gD|refine gB ?_ ?_<;>intro h|refine gI T (zg ht) ?_|refine gC (z6 ht h1) ?_|refine gC (z6 ht h1w) ?_|refine gC (yS ht h3) ?_|refine yM T hC (i:=IntKind.i64.wrap ((i:Int)+1)) rfl rfl rfl (by rw[hw];exact uw _) (by rw[hw];exact zg hu1) rfl rfl ?_|refine gC (yS hu1 hs) ?_|refine gL ?_
   rw[hw2]
   exact zt ⟨.inl rfl,id,_,rfl,le5 (.nil 4) (.nil 5) (.nil 5),trivial,rfl,rfl⟩
  ·obtain⟨x,k,hx,hd,hE⟩:=(wR hl (zda hl f) (i+1) hi1).at hR
   rw[<-hw]at hE
   obtain⟨hq,hd⟩:=zh1 hd
   cases hd
   refine gO T Tryz.func305 λC hC=>?_
   repeat' first|refine gG ?_|exact gD|refine gB ?_ ?_<;>intro h|refine gI T (zg ht) ?_|refine gC (z6 ht h1) ?_|refine gC (z6 ht h1w) ?_|refine gC (yS ht h3) ?_|refine yM T hC (i:=IntKind.i64.wrap ((i:Int)+1)) rfl rfl rfl (by rw[hw];exact uw _) (by rw[hw];exact zg hu1) rfl rfl ?_|refine gC (z6 hu1 hs) ?_|refine gC hE ?_|refine gH T [zG x] ?_|refine gC (zcd hl _ _ _ _ _ hq) ?_|refine gL ?_
   exact zt ⟨.inl rfl,id,_,rfl,le5 (.refl _) (.nil 5) (.nil 5),trivial,rfl,rfl⟩
 obtain⟨x,k,hx,hd,hP⟩:=((zda hl f).post i hi).at hR
 have hk:=(zjs hl f i hi).1 _ _ hx
 have h5:=(zwz f).2.2.1 _ _ _ hx
 obtain⟨u,hu⟩:=ze hk
 clear hR hx
 obtain⟨op,n,s,L⟩:=x
 simp only[Ex.op,Ex.s,Ex.l]at hd
 simp only[F5,Ex.op,Ex.l]at h5
 replace hd:=zq hd
 rcases hd with⟨⟨hs,h4,ht4⟩,hd⟩|⟨_,hd⟩
 ·subst h4
  obtain⟨y,k2,hy,hd2,hE⟩:=(wR hl (zda hl f) (k+1) (zh hl hs)).at hd
  rw[<-zC (i:=k) ua]at hE
  obtain⟨hq,hd2⟩:=zh1 hd2
  cases hd2
  refine gO T Tryz.func305 λC hC=>?_
  repeat' first|refine gG ?_|(exfalso;simp[Ex.op,Ex.s,ht4]at h;done)|exact gD|refine gB ?_ ?_<;>intro h|refine gI T (zg ht) ?_|refine gC (z6 ht h1) ?_|refine gC (z6 ht h1w) ?_|refine gC (z6 ht h3) ?_|refine gC hP ?_|refine gI T (zg hu) ?_|refine gC (yS hu hs) ?_|refine gC hE ?_|refine gH T [zG y] ?_|refine gC (zcd hl _ _ _ _ _ hq) ?_|refine gL ?_
  exact zt ⟨.inl rfl,id,_,rfl,le5 (.refl _) (.nil 5) (.nil 5),trivial,rfl,rfl⟩
 replace hd:=zq hd
 rcases hd with⟨⟨hs,h55⟩,hd⟩|⟨_,hd⟩
 ·subst h55
  obtain⟨y0,rfl⟩:=h5 rfl
  obtain⟨y,k2,hy,hd2,hE⟩:=(wR hl (zda hl f) (k+1) (zh hl hs)).at hd
  rw[<-zC (i:=k) ua]at hE
  obtain⟨hq,hd2⟩:=zh1 hd2
  cases hd2
  refine gO T Tryz.func305 λC hC=>?_
  repeat' first|refine gG ?_|(exfalso;simp[Ex.op,Ex.s]at h;done)|exact gD|refine gB ?_ ?_<;>intro h|refine gI T (zg ht) ?_|refine gC (z6 ht h1) ?_|refine gC (z6 ht h1w) ?_|refine gC (z6 ht h3) ?_|refine gC hP ?_|refine gI T (zg hu) ?_|refine gC (yS hu hs) ?_|refine gC hE ?_|refine gH T [zG y] ?_|refine yM T hC (row:=yG y0) rfl rfl rfl (qB _) (jy (l:=[y0]) (i:=0) rfl) rfl rfl ?_|refine gH T [zG y0,zG y] ?_|refine gC (zcd hl _ _ _ _ _ hq) ?_|refine gL ?_
  exact zt ⟨.inl rfl,id,_,rfl,le5 (.refl _) (.nil 5) (.nil 5),trivial,rfl,rfl⟩
 replace hd:=zq hd
 rcases hd with⟨h7,hd⟩|⟨_,hd⟩
 ·subst h7
  obtain⟨hq,hd⟩:=zh1 hd
  cases hd
  have hs: ¬isA l k (⟨#[61]⟩:UW)=true:=λh=>absurd (zcO h hq) ub
  refine gO T Tryz.func305 λC hC=>?_
  repeat' first|refine gG ?_|(exfalso;simp[Ex.op,Ex.s]at h;done)|exact gD|refine gB ?_ ?_<;>intro h|refine gI T (zg ht) ?_|refine gC (z6 ht h1) ?_|refine gC (z6 ht h1w) ?_|refine gC (z6 ht h3) ?_|refine gC hP ?_|refine gI T (zg hu) ?_|refine gC (z6 hu hs) ?_|refine gH T [zG (.mk 7 n s L)] ?_|refine gC (zcd hl _ _ _ _ _ hq) ?_|refine gL ?_
  exact zt ⟨.inl rfl,id,_,rfl,le5 (.refl _) (.nil 5) (.nil 5),trivial,rfl,rfl⟩
 cases hd
theorem zu1: ∀f:Nat,SY l f:=by
 intro f
 induction f using Nat.strongRecOn with
 |_ f ih=>
  cases f with
  |zero=>exact⟨(λ_ _ _ _ h=>by simp only[stmtsA]at h;cases h),(λ_ _ _ _ h=>by simp only[xu]at h;cases h),(λ_ _ _ _ h=>by simp only[wZ]at h;cases h)⟩
  |succ f=>
   have ih': ∀g,g<=f->SY l g:=λg hg=>ih g ua
   exact⟨λi hi=>zh2 hl f ih' i hi,λi hi=>zgm hl f ih' i hi,λi hi=>zkY hl f ih' i hi⟩
include hl
theorem zgn(i:Nat)(hi:i<l.length):RA l (yH l i):=by rw[<-zaQ];exact .er (RG.field hl hi)
theorem zqh(sep fin:Str)(f i:Nat)(a:List Fld)(hi:i<l.length):RA l (listA l sep fin (yH l) f i a):=by rw[<-zen];exact .er (zcL hl F0 sep fin (x7 l) (λ_ h=> .field hl h) f i a hi)
theorem zdS(sep fin:Str)(f i:Nat)(hi:i<l.length):RY 251 [pS (yu l),I (i:Nat),Sr sep,Sr fin] (λa=>pS (yb a)) (listA l sep fin (yH l) f i []):=by
 intro xf jf hR
 have hll:=hl.len
 obtain⟨t,ht⟩:=ze hi
 cases f with
 |zero=>simp only[listA]at hR;cases hR
 |succ f=>
 simp only[listA]at hR
 by_cases hf:isA l i fin=true
 ·rw[uv hf]at hR
  cases hR
  refine gO T Tryz.func251 λC hC=>?_
  repeat' first|refine gG ?_|exact gD|refine gB ?_ ?_<;>intro h|refine gI T (zg ht) ?_|refine gC (yS ht hf) ?_|refine gL ?_
  rw[zC (i:=i) ua]
  exact zt ⟨.inl rfl,id,_,rfl,.tup (.cons (.one (.nil 2)) (.cons (.refl _) (.cons (.refl _) .nil))),trivial,rfl,rfl⟩
 rw[ur hf]at hR
 have hR2:(yH l i).bind (λx i=>listA l sep fin (yH l) f i ([]++[x]))= .ok xf jf:=hR
 clear hR
 refine gO T Tryz.func251 λC hC=>?_
 repeat' first|refine gG ?_|exact gD|refine gB ?_ ?_<;>intro h|refine gI T (zg ht) ?_|refine gC (z6 ht hf) ?_
 refine gA 101 2 [(11,.one (.ar 101))] [] ?_
 refine zn (λq:List Fld×Nat×Nat=>q.2.1<l.length/\q.1.length<=q.2.1/\(yH l q.2.1).bind (λx i=>listA l sep fin (yH l) q.2.2 i (q.1++[x]))= .ok xf jf)
  (λq=>([(0,pS (yu l)),(1,I (q.2.1:Nat)),(2,Sr sep),(3,Sr fin),(11,.one (.ar 101))],[(101,some (Res.arr 2 (q.1.map zM)))])) (λq=>q.2.2) hC
  ([],i,f) ⟨hi,uA _,hR2⟩ id gM ?_
 clear hR2 hf hi ht
 rintro⟨acc,k,g⟩ ⟨hk,hak,hd⟩
 simp only at hk hak hd
 have hal:(acc.map zM).length=acc.length:=uj _
 obtain⟨y,k2,hy,hd2,hE⟩:=(zc8 hl k hk).at hd
 have hk2:=(zgn hl k hk).1 _ _ hy
 have hkk:=vA hy
 have hal':(acc++[y]).length=acc.length+1:=by simp
 obtain⟨u,hu⟩:=ze hk2
 cases g with
 |zero=>simp only[listA]at hd2;cases hd2
 |succ g=>
  simp only[listA]at hd2
  by_cases hs:isA l k2 fin=true
  ·rw[uv hs]at hd2
   cases hd2
   repeat' first|refine gG ?_|exact gD|refine gB ?_ ?_<;>intro h|refine gC hE ?_|refine gH T [zM y] ?_|(refine gY T 102 ((acc++[y]).map zM) 32 ?_)|refine gI T (zg hu) ?_|refine gC (yS hu hs) ?_|refine gL ?_|refine zx ?_
   rw[zC (i:=k2) ua]
   refine gZ 102 [(8,pS (yb (acc++[y])))] [] ?_
   exact gF
  ·rw[ur hs,ur ua]at hd2
   obtain⟨hc,hd3⟩:=zh1 (g:=λi=>(yH l i).bind λx i=>listA l sep fin (yH l) g i ((acc++[y])++[x])) hd2
   repeat' first|refine gG ?_|exact gD|refine gB ?_ ?_<;>intro h|refine gC hE ?_|refine gH T [zM y] ?_|(refine gY T 102 ((acc++[y]).map zM) 32 ?_)|refine gI T (zg hu) ?_|refine gC (z6 hu hs) ?_|refine gC (yS hu hc) ?_
   rw[zC (i:=k2) ua]
   exact zf (acc++[y],k2+1,g) ⟨zh hl hc,by simp only;omega,hd3⟩ (mvP 101 102) (qy _) ⟨rfl,⟨rfl,rfl,rfl,rfl,rfl,uh⟩,⟨rfl,uh⟩,rfl,λi hi=>yI ua hi⟩
set_option maxHeartbeats 2000000 in
theorem zqi(f i:Nat)(hi:i<l.length):RY 253 [pS (yu l),I (i:Nat)] (λp=>zm (xc p)) (zdj l f i):=by
 intro xf jf hR
 have hll:=hl.len
 unfold zdj at hR
 obtain⟨n,k1,h1,hd1,c1⟩:=(xD hl i hi).at hR
 obtain⟨q1,hd1⟩:=zh1 hd1
 have hk2:=zh hl q1
 obtain⟨ps,k3,h3,hd3,c3⟩:=(zdS hl (⟨#[44]⟩:UW) (⟨#[41]⟩:UW) f (k1+1) hk2).at hd1
 have hk3:=(zqh hl _ _ f _ _ hk2).1 _ _ h3
 obtain⟨u,hu⟩:=ze hk3
 clear hR h1 h3
 by_cases q3:isA l k3 ⟨#[123]⟩=true
 case' pos=>
  simp only[uv q3,PA.bind,x6]at hd3
  obtain⟨r,hr⟩: ∃r:Str,r=(⟨#[]⟩:UW):=⟨_,rfl⟩
  have hk5:=zh hl q3
  have hO:=y9 hl q3
  generalize k3+1=k5 at hd3 hk5 hO
  have hd5:(locsA l f k5 []).bind (λls i=>(stmtsA l f i []).bind λb i=> .ok ⟨n,ps,r,ls,b⟩ i)= .ok xf jf:=by rw[hr];exact hd3
  clear hd3
  refine gO T Tryz.func253 λC hC=>?_
  repeat' first|refine gG ?_|exact gD|refine gB ?_ ?_<;>intro h|refine gC c1 ?_|refine gC (y9 hl q1) ?_|refine gC c3 ?_|refine gI T (zg hu) ?_|refine gC (yS hu q3) ?_|refine gC hO ?_
 case' neg=>
  simp only[ur q3]at hd3
  obtain⟨r2,k4,h4,hd4,c4⟩:=(znN hl k3 hk3).at hd3
  obtain⟨r,hr⟩: ∃r:Str,r=r2:=⟨_,rfl⟩
  obtain⟨q4,hd5⟩:=zh1 hd4
  have hk5:=zh hl q4
  have hO:=y9 hl q4
  generalize k4+1=k5 at hd5 hk5 hO
  rw[<-hr]at hd5
  clear hd3 hd4 h4
  refine gO T Tryz.func253 λC hC=>?_
  repeat' first|refine gG ?_|exact gD|refine gB ?_ ?_<;>intro h|refine gC c1 ?_|refine gC (y9 hl q1) ?_|refine gC c3 ?_|refine gI T (zg hu) ?_|refine gC (z6 hu q3) ?_|refine gC c4 ?_|refine gC hO ?_
 all_goals
  refine zlo hC rfl 101 2 rfl [] uh [(1007,[.p (ks n),.p (yb ps),.p (ks r),.ar 101,.p (.k (.slice none 0 0))])] ⟨⟨_,rfl,ub,.cons (.refl _) (.cons (.refl _) (.cons (by rw[hr];exact .refl _) (.cons .nil (.cons (.refl _) .nil))))⟩,uh⟩ ?_
  clear hr hO
  refine zn (λq:List Fld×Nat×Nat=>q.2.1<l.length/\q.1.length<=q.2.1/\q.2.2<=f/\(locsA l q.2.2 q.2.1 q.1).bind (λls i=>(stmtsA l f i []).bind λb i=> .ok ⟨n,ps,r,ls,b⟩ i)= .ok xf jf)
   (λq=>([(0,pS (yu l)),(1,I (q.2.1:Nat)),(4,.one (.bx 1004 0)),(7,.one (.bx 1007 0))],[(1004,some (Res.box (zV [ZK.str,ZK.slice,ZK.str,ZK.slice,ZK.slice]))),(1007,some (Res.box [.p (ks n),.p (yb ps),.p (ks r),.ar 101,.p (.k (.slice none 0 0))])),(101,some (Res.arr 2 (q.1.map zM)))])) (λq=>q.2.2) hC
   ([],k5,f) ⟨hk5,uA _,uG _,hd5⟩ id gM ?_
  clear hd5
  rintro⟨acc,k,g⟩ ⟨hk,hak,hgf,hd⟩
  simp only at hk hak hgf hd
  have hal:(acc.map zM).length=acc.length:=uj _
  obtain⟨t,ht⟩:=ze hk
  cases g with
  |zero=>simp only[locsA]at hd;cases hd
  |succ g=>
  simp only[locsA]at hd
  by_cases hs:isA l k (⟨#[108,111,99,97,108]⟩:UW)=true
  ·rw[uv hs]at hd
   have hk1:=zh hl hs
   have hFl:=zc8 hl (k+1) hk1
   rw[<-zC (i:=k) ua]at hFl
   obtain⟨y,k2,hy,hd2,hE⟩:=hFl.at (β:=Pr) (g:=λx i=>((x6 l (⟨#[59]⟩:UW) i).bind λ_ i=>locsA l g i (acc++[x])).bind (λls i=>(stmtsA l f i []).bind λb i=> .ok ⟨n,ps,r,ls,b⟩ i)) (x:=xf) (j:=jf) (by rw[<-hd];cases yH l (k+1)<;>rfl)
   have hk2:=(zgn hl (k+1) hk1).1 _ _ hy
   have hkk:=vA hy
   have hal':(acc++[y]).length=acc.length+1:=by simp
   unfold x6 at hd2
   by_cases hq:isA l k2 (⟨#[59]⟩:UW)=true
   ·rw[uv hq]at hd2
    repeat' first|refine gG ?_|exact gD|refine gB ?_ ?_<;>intro h|refine gI T (zg ht) ?_|refine gC (yS ht hs) ?_|refine gC hE ?_|refine gH T [zM y] ?_|(refine gY T 102 ((acc++[y]).map zM) 32 ?_)|refine gC (y9 hl hq) ?_
    exact zf (acc++[y],k2+1,g) ⟨zh hl hq,by simp only;omega,by simp only;omega,hd2⟩ (mvP 101 102) (qy _) ⟨rfl,⟨rfl,rfl,rfl,rfl,uh⟩,⟨rfl,rfl,rfl,uh⟩,rfl,λi hi=>yI ua hi⟩
   ·rw[ur hq]at hd2;cases hd2
  ·rw[ur hs]at hd
   refine gZ 101 [] [(1007,[.p (ks n),.p (yb ps),.p (ks r),.p (yb acc),.p (.k (.slice none 0 0))])] ?_
   obtain⟨bd,k6,hb,hd6,hB⟩:=((zu1 hl f).blk k hk).at hd
   cases hd6
   repeat' first|refine gG ?_|exact gD|refine gB ?_ ?_<;>intro h|refine gI T (zg ht) ?_|refine gC (z6 ht hs) ?_|refine zj ?_|refine gC hB ?_|refine gL ?_
   exact gF
end
theorem okB{x:α}{f:α->Nat->PA β}:(PA.ok x i).bind f=f x i:=rfl
section
variable {l:List Tok} (hl:xG l)
include hl
theorem j8(f k:Nat){g:Ex->Nat->PA β}(h:(xh l f k).bind g= .ok x j):isA l k (⟨#[61]⟩:UW)=true/\ ∃y k2,g y k2= .ok x j/\zk Tryz.prog 255 [pS (yu l),I (k+1:Nat)] [] (.tup [enE y,I (k2:Nat),Bo true]) []:=by
 unfold xh x6 at h
 by_cases hs:isA l k (⟨#[61]⟩:UW)=true
 ·rw[uv hs,okB]at h
  obtain⟨y,k2,_,h2,h3⟩:=(wR hl (zda hl f) (k+1) (zh hl hs)).at h
  exact⟨hs,y,k2,h2,h3⟩
 ·rw[ur hs]at h;cases h
set_option maxHeartbeats 1000000 in
theorem zh3(f i:Nat)(hi:i<l.length):RY 254 [pS (yu l),I (i:Nat)] (λm=>zm (yt m)) (wN l f i):=by
 intro xf jf hR
 have hll:=hl.len
 unfold wN at hR
 obtain⟨n,k1,h1,hd1,c1⟩:=(xD hl i hi).at hR
 obtain⟨q1,hd1⟩:=zh1 hd1
 obtain⟨ty,k3,h3,hd3,c3⟩:=(xD hl (k1+1) (zh hl q1)).at hd1
 have hk3:=zcc hl h3
 obtain⟨q3,hd3⟩:=zh1 hd3
 obtain⟨q4,hd5⟩:=zh1 hd3
 have cT:=zjr hl [(⟨#[41]⟩:UW),(⟨#[110,105,108]⟩:UW)] ue k3 hk3 () (k3+1+1) (by simp only[allA,x6,uv q3,uv q4,PA.bind])
 have hk5:=zh hl q4
 generalize k3+1+1=k5 at*
 obtain⟨u,hu⟩:=ze hk5
 have hw5:IntKind.i64.wrap ((k5:Int)+1)=((k5+1:Nat):Int):=zC ua
 clear hR hd1 hd3
 obtain⟨z,k6,hz6,hd6⟩:=zi hd5
 clear hd5
 obtain⟨qe,x,k8,hx,cE⟩:=j8 hl f k6 hd6
 cases hx
 have cO:=y9 hl qe
 by_cases q6:isA l k5 (⟨#[45]⟩:UW)=true
 ·rw[uv q6]at hz6
  obtain⟨⟨tk,ts,tn,tl,tc⟩,ht6⟩:=ze (zh hl q6)
  unfold zoq at hz6
  rw[ht6]at hz6
  simp only at hz6
  by_cases h2:tk=2
  ·subst h2
   rw[uv rfl]at hz6
   cases hz6
   have hz:=hl.num _ (List.mem_of_getElem? ht6)
   simp only at hz
   have hmul:IntKind.i64.wrap (-1*z)= -z:=by rw[wrap64 ua];omega
   have hw6:IntKind.i64.wrap (IntKind.i64.wrap ((k5:Int)+1)+1)=((k5+1+1:Nat):Int):=by rw[hw5];exact zC (by have:=zh hl q6;omega)
   rw[<-hw6]at cO
   simp only[uv q6]
   refine gO T Tryz.func254 λC hC=>?_
   repeat' first|refine gG ?_|exact gD|refine gB ?_ ?_<;>intro h|refine gC c1 ?_|refine gC (y9 hl q1) ?_|refine gC c3 ?_|refine gT ?_|refine gC cT ?_|refine gI T (zg hu) ?_|refine gC (yS hu q6) ?_|refine yM T hC (i:=IntKind.i64.wrap ((k5:Int)+1)) rfl rfl rfl (by rw[hw5];exact uw _) (by rw[hw5];exact zg ht6) rfl rfl ?_|refine gC cO ?_|refine gC cE ?_|refine gL ?_
   rw[hmul]
   exact gF
  ·rw[ur h2]at hz6;cases hz6
 ·rw[ur q6]at hz6
  obtain⟨tk,ts,tn,tl,tc⟩:=u
  unfold zoq at hz6
  rw[hu]at hz6
  simp only at hz6
  by_cases h2:tk=2
  ·subst h2
   rw[uv rfl]at hz6
   cases hz6
   have hz:=hl.num _ (List.mem_of_getElem? hu)
   simp only at hz
   have hmul:IntKind.i64.wrap (1*z)=z:=by rw[wrap64 ua];omega
   rw[<-hw5]at cO
   simp only[ur q6]
   refine gO T Tryz.func254 λC hC=>?_
   repeat' first|refine gG ?_|exact gD|refine gB ?_ ?_<;>intro h|refine gC c1 ?_|refine gC (y9 hl q1) ?_|refine gC c3 ?_|refine gT ?_|refine gC cT ?_|refine gI T (zg hu) ?_|refine gC (z6 hu q6) ?_|refine gC cO ?_|refine gC cE ?_|refine gL ?_
   rw[hmul]
   exact gF
  ·rw[ur h2]at hz6;cases hz6
def dA(a:Nat)(d:xo):RL:=[(a,.arr 2 (d.types.map yz)),(a+1,.arr 2 (d.globals.map zM)),(a+2,.arr 5 (d.procs.map xc)),(a+3,.arr 7 (d.measures.map yt)),(a+4,.arr 6 (d.invs.map zeo)),(a+5,.arr 5 (d.pots.map zfp)),(a+6,.arr 5 (d.bounds.map x8))]
abbrev dV(a:Nat)(d:xo):S:= .agg [.p (ks d.n),.ar a,.ar (a+1),.ar (a+2),.ar (a+3),.ar (a+4),.ar (a+5),.ar (a+6)]
set_option maxHeartbeats 4000000 in
theorem zqj(f i:Nat)(d:xo)(hi:i<l.length)(hd:zdB d<=2000000){xf:xo}{jf:Nat}(hR:jr l f i d= .ok xf jf):zk Tryz.prog 210 [pS (yu l),I (i:Nat),dV 0 d] (dA 0 d) (.tup [dV 7 xf,I (jf:Nat),Bo true]) (dA 7 xf):=by
 have hll:=hl.len
 have hw:IntKind.i64.wrap ((i:Int)+1)=((i+1:Nat):Int):=zC ua
 obtain⟨t,ht⟩:=ze hi
 unfold zdB at hd
 unfold jr at hR
 replace hR:=zq hR
 rcases hR with⟨h1,hR⟩|⟨h1,hR⟩
 ·have hi1:=zh hl h1
  obtain⟨n,k1,e1,hd1,c1⟩:=(xD hl (i+1) hi1).at hR
  rw[<-hw]at c1
  obtain⟨q,hd1⟩:=zh1 hd1
  obtain⟨fs,k3,e3,hd3,c3⟩:=(zdS hl (⟨#[59]⟩:UW) ⟨#[125]⟩ f (k1+1) (zh hl q)).at hd1
  cases hd3
  refine gO T Tryz.func210 λC hC=>?_
  repeat' first|refine gG ?_|exact gD|refine gB ?_ ?_<;>intro h|refine gI T (zg ht) ?_|refine gC (yS ht h1) ?_|refine gC c1 ?_|refine gC (y9 hl q) ?_|refine gC c3 ?_|refine gH T [yz (⟨n,fs⟩:zaa)] ?_|(refine gY T 102 ((d.types++[(⟨n,fs⟩:zaa)]).map yz) 40 ?_)|refine gL ?_
  exact gW [0,1,2,3,4,5,6,102,1,2,3,4,5,6]
 replace hR:=zq hR
 rcases hR with⟨h2,hR⟩|⟨h2,hR⟩
 ·have hi1:=zh hl h2
  obtain⟨n,k1,e1,hd1,c1⟩:=(zc8 hl (i+1) hi1).at hR
  rw[<-hw]at c1
  cases hd1
  refine gO T Tryz.func210 λC hC=>?_
  repeat' first|refine gG ?_|exact gD|refine gB ?_ ?_<;>intro h|refine gI T (zg ht) ?_|refine gC (z6 ht h1) ?_|refine gC (yS ht h2) ?_|refine gC c1 ?_|refine gH T [zM n] ?_|(refine gY T 102 ((d.globals++[n]).map zM) 32 ?_)|refine gL ?_
  exact gW [0,1,2,3,4,5,6,0,102,2,3,4,5,6]
 replace hR:=zq hR
 rcases hR with⟨h3,hR⟩|⟨h3,hR⟩
 ·have hi1:=zh hl h3
  obtain⟨n,k1,e1,hd1,c1⟩:=(zqi hl f (i+1) hi1).at hR
  rw[<-hw]at c1
  cases hd1
  refine gO T Tryz.func210 λC hC=>?_
  repeat' first|refine gG ?_|exact gD|refine gB ?_ ?_<;>intro h|refine gI T (zg ht) ?_|refine gC (z6 ht h1) ?_|refine gC (z6 ht h2) ?_|refine gC (yS ht h3) ?_|refine gC c1 ?_|refine gH T [xc n] ?_|(refine gY T 102 ((d.procs++[n]).map xc) 104 ?_)|refine gL ?_
  exact gW [0,1,2,3,4,5,6,0,1,102,3,4,5,6]
 replace hR:=zq hR
 rcases hR with⟨h4,hR⟩|⟨h4,hR⟩
 ·have hi1:=zh hl h4
  obtain⟨n,k1,e1,hd1,c1⟩:=(zh3 hl f (i+1) hi1).at hR
  rw[<-hw]at c1
  cases hd1
  refine gO T Tryz.func210 λC hC=>?_
  repeat' first|refine gG ?_|exact gD|refine gB ?_ ?_<;>intro h|refine gI T (zg ht) ?_|refine gC (z6 ht h1) ?_|refine gC (z6 ht h2) ?_|refine gC (z6 ht h3) ?_|refine gC (yS ht h4) ?_|refine gC c1 ?_|refine gH T [yt n] ?_|(refine gY T 102 ((d.measures++[n]).map yt) 96 ?_)|refine gL ?_
  exact gW [0,1,2,3,4,5,6,0,1,2,102,4,5,6]
 replace hR:=zq hR
 rcases hR with⟨h5,hR⟩|⟨h5,hR⟩
 ·have hi1:=zh hl h5
  obtain⟨n,k1,e1,hd1,c1⟩:=(xD hl (i+1) hi1).at hR
  rw[<-hw]at c1
  have hk1:=zcc hl e1
  clear hR
  obtain⟨u,hu⟩:=ze hk1
  by_cases qp:isA l k1 (⟨#[40]⟩:UW)=true
  ·rw[uv qp]at hd1
   obtain⟨ty,k3,e3,hd3,c3⟩:=(xD hl (k1+1) (zh hl qp)).at (g:=λt i=>((x6 l (⟨#[41]⟩:UW) i).bind λ_ i=>PA.ok t i).bind λt i=>(xh l f i).bind λx i=> .ok { d with invs:=d.invs++[⟨n,t,x⟩] } i) (x:=xf) (j:=jf) (by rw[<-hd1];cases xF l (k1+1)<;>rfl)
   rw[<-zC (i:=k1) ua]at c3
   obtain⟨ty2,k4,e4,hd4⟩:=zi hd3
   obtain⟨qc,e4⟩:=zh1 e4
   cases e4
   obtain⟨qe,x,k9,hd9,c9⟩:=j8 hl f (k3+1) hd4
   cases hd9
   have cO:=y9 hl qe
   refine gO T Tryz.func210 λC hC=>?_
   repeat' first|refine gG ?_|exact gD|refine gB ?_ ?_<;>intro h|refine gI T (zg ht) ?_|refine gC (z6 ht h1) ?_|refine gC (z6 ht h2) ?_|refine gC (z6 ht h3) ?_|refine gC (z6 ht h4) ?_|refine gC (yS ht h5) ?_|refine gC c1 ?_|refine gI T (zg hu) ?_|refine gC (yS hu qp) ?_|refine gC c3 ?_|refine gC (y9 hl qc) ?_|refine gC cO ?_|refine gC c9 ?_|refine gH T [zeo (⟨n,ty,x⟩:Iv)] ?_|(refine gY T 102 ((d.invs++[(⟨n,ty,x⟩:Iv)]).map zeo) 88 ?_)|refine gL ?_
   exact gW [0,1,2,3,4,5,6,0,1,2,3,102,5,6]
  ·rw[ur qp,okB]at hd1
   obtain⟨qe,x,k9,hd9,c9⟩:=j8 hl f k1 hd1
   cases hd9
   have cO:=y9 hl qe
   refine gO T Tryz.func210 λC hC=>?_
   repeat' first|refine gG ?_|exact gD|refine gB ?_ ?_<;>intro h|refine gI T (zg ht) ?_|refine gC (z6 ht h1) ?_|refine gC (z6 ht h2) ?_|refine gC (z6 ht h3) ?_|refine gC (z6 ht h4) ?_|refine gC (yS ht h5) ?_|refine gC c1 ?_|refine gI T (zg hu) ?_|refine gC (z6 hu qp) ?_|refine gC cO ?_|refine gC c9 ?_|refine gH T [zeo (⟨n,(⟨#[]⟩:UW),x⟩:Iv)] ?_|(refine gY T 102 ((d.invs++[(⟨n,(⟨#[]⟩:UW),x⟩:Iv)]).map zeo) 88 ?_)|refine gL ?_
   exact gW [0,1,2,3,4,5,6,0,1,2,3,102,5,6]
 replace hR:=zq hR
 rcases hR with⟨h6,hR⟩|⟨h6,hR⟩
 ·have hi1:=zh hl h6
  obtain⟨⟨uk,us,un,ul,uc⟩,hu1⟩:=ze hi1
  by_cases qe0:isA l (i+1) (⟨#[61]⟩:UW)=true
  ·rw[uv qe0,okB]at hR
   have hk: ¬uk=1:=λe=>by subst e;unfold isA at qe0;rw[hu1]at qe0;simp at qe0
   obtain⟨qe,x,k9,hd9,c9⟩:=j8 hl f (i+1) hR
   cases hd9
   have cO:=y9 hl qe
   rw[<-hw]at cO
   refine gO T Tryz.func210 λC hC=>?_
   repeat' first|refine gG ?_|exact gD|(exfalso;exact absurd (uo h) hk)|refine gB ?_ ?_<;>intro h|refine gI T (zg ht) ?_|refine gC (z6 ht h1) ?_|refine gC (z6 ht h2) ?_|refine gC (z6 ht h3) ?_|refine gC (z6 ht h4) ?_|refine gC (z6 ht h5) ?_|refine gC (yS ht h6) ?_|refine yM T hC (i:=IntKind.i64.wrap ((i:Int)+1)) rfl rfl rfl (by rw[hw];exact uw _) (by rw[hw];exact zg hu1) rfl rfl ?_|refine gC cO ?_|refine gC c9 ?_|refine gH T [zfp (⟨(⟨#[]⟩:UW),x⟩:Pt)] ?_|(refine gY T 102 ((d.pots++[(⟨(⟨#[]⟩:UW),x⟩:Pt)]).map zfp) 72 ?_)|refine gL ?_
   exact gW [0,1,2,3,4,5,6,0,1,2,3,4,102,6]
  ·rw[ur qe0]at hR
   obtain⟨s,k1,e1,hR⟩:=zi hR
   unfold xF at e1
   rw[hu1]at e1
   simp only at e1
   by_cases hk:uk=1
   ·rw[uv hk]at e1
    cases e1
    subst hk
    have hk2:i+1+1<l.length:=hl.next hu1 (by show(1:Int)≠5;decide)
    have hw2:IntKind.i64.wrap (IntKind.i64.wrap ((i:Int)+1)+1)=((i+1+1:Nat):Int):=by rw[hw];exact zC ua
    obtain⟨qe,x,k9,hd9,c9⟩:=j8 hl f (i+1+1) hR
    cases hd9
    have cO:=y9 hl qe
    rw[<-hw2]at cO
    refine gO T Tryz.func210 λC hC=>?_
    repeat' first|refine gG ?_|exact gD|refine gB ?_ ?_<;>intro h|refine gI T (zg ht) ?_|refine gC (z6 ht h1) ?_|refine gC (z6 ht h2) ?_|refine gC (z6 ht h3) ?_|refine gC (z6 ht h4) ?_|refine gC (z6 ht h5) ?_|refine gC (yS ht h6) ?_|refine yM T hC (i:=IntKind.i64.wrap ((i:Int)+1)) rfl rfl rfl (by rw[hw];exact uw _) (by rw[hw];exact zg hu1) rfl rfl ?_|refine gC cO ?_|refine gC c9 ?_|refine gH T [zfp (⟨us,x⟩:Pt)] ?_|(refine gY T 102 ((d.pots++[(⟨us,x⟩:Pt)]).map zfp) 72 ?_)|refine gL ?_
    exact gW [0,1,2,3,4,5,6,0,1,2,3,4,102,6]
   ·rw[ur hk]at e1;cases e1
 replace hR:=zq hR
 rcases hR with⟨h7,hR⟩|⟨h7,hR⟩
 ·have hi1:=zh hl h7
  obtain⟨n,k1,e1,hd1,c1⟩:=(xD hl (i+1) hi1).at hR
  rw[<-hw]at c1
  obtain⟨qe,x,k9,hd9,c9⟩:=j8 hl f k1 hd1
  cases hd9
  have cO:=y9 hl qe
  refine gO T Tryz.func210 λC hC=>?_
  repeat' first|refine gG ?_|exact gD|refine gB ?_ ?_<;>intro h|refine gI T (zg ht) ?_|refine gC (z6 ht h1) ?_|refine gC (z6 ht h2) ?_|refine gC (z6 ht h3) ?_|refine gC (z6 ht h4) ?_|refine gC (z6 ht h5) ?_|refine gC (z6 ht h6) ?_|refine gC (yS ht h7) ?_|refine gC c1 ?_|refine gC cO ?_|refine gC c9 ?_|refine gH T [x8 (⟨n,x⟩:Hw.M.Bd)] ?_|(refine gY T 102 ((d.bounds++[(⟨n,x⟩:Hw.M.Bd)]).map x8) 72 ?_)|refine gL ?_
  exact gW [0,1,2,3,4,5,6,0,1,2,3,4,5,102]
 cases hR
end
end Hw.Fr.Ps
namespace Hw.Fr.Ps
open Go Go.Proofs Go.Shelf Hw.M
theorem znR{c:UInt8}:blB c=true↔(c=32\/c=9\/c=13)\/c=10:=by
 have e: ∀n:Nat,n<256->decide (xt (n:Int)=1)=(decide (n=32)||decide (n=9)||decide (n=13)||decide (n=10)):=by decide+kernel
 have h:=e c.toNat c.toNat_lt
 unfold blB
 rw[h]
 simp only[<-qQ,tM,ux]
 have e1:(32:UInt8).toNat=32:=rfl
 have e2:(9:UInt8).toNat=9:=rfl
 have e3:(13:UInt8).toNat=13:=rfl
 have e4:(10:UInt8).toNat=10:=rfl
 omega
theorem zu2{l:By}{i k:Nat}(hlen:i+k<=l.length)(h: ∀b∈(l.drop i).take k,b≠10): ∀j,j<k-> ∃x,l[i+j]?=some x/\x≠10:=λj hj=>by
 obtain⟨x,hx⟩:=ze (l:=l) (i:=i+j) ua
 refine⟨x,hx,h x (List.mem_of_getElem? (i:=j) ?_)⟩
 rw[uZ,uv hj,uD];exact hx
theorem zsZ{ln q:Int}{x:UInt8}(h:x≠10):mv (ln,q) x=(ln,q+1):=by unfold mv;rw[ur h]
set_option maxHeartbeats 1000000 in
theorem zkZ(s:Str)(hs:s.size<=1000000):zk Tryz.prog 163 [Sr s] [] (.tup [pS (yu (yi s).1),zm [ki (yi s).2.1.1,ki (yi s).2.1.2],I (yi s).2.2]) []:=by
 have hl:=y4 s
 by_cases hbig:65536<s.size
 ·have hR:yi s=([],(0,0),4):=uv hbig
  rw[hR]
  refine gO T Tryz.func163 λC hC=>?_
  repeat' first|refine gG ?_|refine gB ?_ ?_<;>intro h
  all_goals first
   |exact zt ⟨.inl rfl,id,_,rfl,LeS.tup (.cons (LeS.one (.nil 5)) (.cons (.refl _) (.cons (.refl _) .nil))),trivial,rfl,rfl⟩
   |(exfalso;simp only[uX]at h;omega)
 have hR:yi s=lxx ((lst s).drop 0) (1,1) []:=ur hbig
 generalize yi s=R at hR
 refine gO T Tryz.func163 λC hC=>?_
 repeat' first|refine gG ?_|refine gB ?_ ?_<;>intro h
 ·exfalso;have:=uo h;omega
 refine gA 101 5 [(5,.one (.ar 101))] [] ?_
 refine zn (λq:Nat×(Int×Int)×List Tok=>q.1<=s.size/\(0<=q.2.1.1/\q.2.1.1<=q.1+1)/\(0<=q.2.1.2/\q.2.1.2<=q.1+1)/\q.2.2.length<=q.1/\R=lxx ((lst s).drop q.1) q.2.1 q.2.2) (λq=>([(0,Sr s),(3,.one (.bx 1003 0)),(5,.one (.ar 101)),(6,.one (.bx 1006 0)),(7,I q.1)],[(1003,some (Res.box [.p (ki 0),.p (ki 0)])),(1006,some (Res.box [.p (ki q.2.1.1),.p (ki q.2.1.2)])),(101,some (Res.arr 5 (q.2.2.map vy)))])) (λq=>s.size - q.1) hC
  (0,(1,1),[]) ⟨uA _,⟨ub,ub⟩,⟨ub,ub⟩,uA _,hR⟩ id gM ?_
 rintro⟨i,⟨ln,cl⟩,out⟩ ⟨hi,hln,hcl,hout,hL⟩
 simp only at hi hln hcl hout hL
 have hol:(out.map vy).length=out.length:=uj _
 refine zr T hC true 200 rfl ?_
 refine zu rfl ?_ ?_<;>intro hh
 rotate_left
 ·have hge:i=s.size:=by have:=uq hh;omega
  clear hh
  rw[tR ua,zlM]at hL
  subst hL
  have happ:out.map vy++[vy ⟨5,(⟨#[]⟩:UW),0,ln,cl⟩]=(out++[(⟨5,(⟨#[]⟩:UW),0,ln,cl⟩:Tok)]).map vy:=by rw[uY];rfl
  repeat' first|refine gG ?_|refine gB ?_ ?_<;>intro h|refine zj ?_|refine gT ?_|(refine gY T 102 ((out++[(⟨5,(⟨#[]⟩:UW),0,ln,cl⟩:Tok)]).map vy) 48 ?_)
  refine gZ 102 [(2,pS (yu (out++[(⟨5,(⟨#[]⟩:UW),0,ln,cl⟩:Tok)])))] [] ?_
  exact gF
 have hlt:i<(lst s).length:=by have:=uo hh;omega
 clear hh
 obtain⟨c,hc⟩:=ze hlt
 cases hbl:blB c with
 |true=>
  rw[zdC _ _ hc hbl]at hL
  have hM:=zev (ln,cl) c ⟨hln.1,by simp only;omega⟩ ⟨hcl.1,by simp only;omega⟩
  have hb1:(mv (ln,cl) c).1<=ln+1/\0<=(mv (ln,cl) c).1:=by unfold mv;split<;>simp only<;>omega
  have hb2:(mv (ln,cl) c).2<=(i:Int)+2/\0<=(mv (ln,cl) c).2:=by unfold mv;split<;>simp only<;>omega
  generalize mv (ln,cl) c=p' at hM hL hb1 hb2
  have h4:=znR.1 hbl
  clear hbl
  rcases h4 with(rfl|rfl|rfl)|rfl
  all_goals
   repeat' first|refine gG ?_|(exfalso;revert h;decide)|refine gB ?_ ?_<;>intro h|refine yy T hC rfl rfl rfl (uw _) (yJ hc) rfl rfl ?_|refine gC hM ?_|refine zx ?_|refine zj ?_
   dsimp only
   rw[zC ua]
   exact zf (i+1,p',out) ⟨by simp only;omega,⟨by simp only;omega,by simp only;omega⟩,⟨by simp only;omega,by simp only;omega⟩,by simp only;omega,hL⟩ id (by simp only;omega) gM
 |false=>
  have hn4: ¬((c=32\/c=9\/c=13)\/c=10):=λe=>by rw[znR.2 e]at hbl;cases hbl
  have num2: ∀c d:UInt8,(c.toNat:Int)=(d.toNat:Int)->c=d:=λc d e=>qQ.1 ua
  have num: ∀d:UInt8,(c.toNat:Int)=(d.toNat:Int)->c=d:=λd e=>qQ.1 ua
  have n1: ¬(c.toNat:Int)=32:=λe=>hn4 (.inl (.inl (num 32 e)))
  have n2: ¬(c.toNat:Int)=9:=λe=>hn4 (.inl (.inr (.inl (num 9 e))))
  have n3: ¬(c.toNat:Int)=13:=λe=>hn4 (.inl (.inr (.inr (num 13 e))))
  have n4: ¬(c.toNat:Int)=10:=λe=>hn4 (.inr (num 10 e))
  have w3: ∀k:Nat,i+k<=s.size->IntKind.i64.wrap ((i:Int)+(k:Int))=((i+k:Nat):Int):=λk hk=>by rw[wrap64 ua];omega
  have hcw:=zck c.toNat
  by_cases h35:c=35
  ·have h35c:(c.toNat:Int)=35:=by rw[h35];rfl
   repeat' first|refine gG ?_|(exfalso;have h2:=uo h;omega)|(exfalso;have h2:=uq h;omega)|refine gB ?_ ?_<;>intro h|refine yy T hC rfl rfl rfl (uw _) (yJ hc) rfl rfl ?_|refine zx ?_
   refine zn (λz:Nat×Int=>i+z.1<=s.size/\(((lst s).drop i).take z.1).all (λb=>decide (b≠10))=true/\z.2=cl+z.1) (λz=>([(0,Sr s),(3,.one (.bx 1003 0)),(5,.one (.ar 101)),(6,.one (.bx 1006 0)),(7,I (i+z.1:Nat))],[(1003,some (Res.box [.p (ki 0),.p (ki 0)])),(1006,some (Res.box [.p (ki ln),.p (ki z.2)])),(101,some (Res.arr 5 (out.map vy)))])) (λz=>s.size - i - z.1) hC
    (0,cl) ⟨by simp only;omega,ue,ue⟩ id gM ?_
   rintro⟨k,q⟩ ⟨hk,hall,hq⟩
   simp only at hk hall hq
   have hcom:(∀x,((lst s).drop i)[k]?=some x->x=10)->0<k/\R=lxx ((lst s).drop (i+k)) (ln,q) out:=λhx=>by
    have htw:=zfx _ k hall (λx h=>by simpa using hx x h)
    refine⟨?_,?_⟩
    ·rcases qA k with rfl|h
     ·have:=hx 35 (by rw[uD,<-h35];exact hc)
      cases this
     ·exact h
    ·rw[h35]at hc
     rw[hL,ziF _ _ hc (k:=k) (by rw[htw,uz,uQ];omega),hq]
   refine zr T hC true 200 rfl ?_
   by_cases hj:i+k<s.size
   ·obtain⟨x,hx⟩:=ze (l:=lst s) (i:=i+k) ua
    have hxd:((lst s).drop i)[k]?=some x:=by rw[uD];exact hx
    by_cases hx10:x=10
    ·obtain⟨h0,hL'⟩:=hcom λy hy=>by
      rw[hxd]at hy
      obtain rfl:=uy hy
      exact hx10
     subst hx10
     repeat' first|refine gG ?_|(exfalso;have h2:=uq h;dsimp only at h2;omega)|(exfalso;revert h;decide)|refine gB ?_ ?_<;>intro h|refine yy T hC rfl rfl rfl (uw _) (yJ hx) rfl rfl ?_|refine zj ?_|refine zx ?_
     exact zf (i+k,(ln,q),out) ⟨by simp only;omega,⟨by simp only;omega,by simp only;omega⟩,⟨by simp only;omega,by simp only;omega⟩,by simp only;omega,hL'⟩ id (by simp only;omega) gM
    ·have hM:=zev (ln,q) x ⟨hln.1,by simp only;omega⟩ ⟨by simp only;omega,by simp only;omega⟩
     rw[zsZ hx10]at hM
     have hx10c: ¬(x.toNat:Int)=10:=λe=>hx10 (num2 x 10 e)
     repeat' first|refine gG ?_|(exfalso;have h2:=uq h;dsimp only at h2;omega)|(exfalso;have h2:=h;simp at h2;omega)|refine gB ?_ ?_<;>intro h|refine yy T hC rfl rfl rfl (uw _) (yJ hx) rfl rfl ?_|refine gC hM ?_
     dsimp only
     rw[zC ua]
     exact zf (k+1,q+1) ⟨by simp only;omega,by simp only;rw[ya hxd,hall];simpa using hx10,by simp only;omega⟩ id (by simp only;omega) gM
   ·obtain⟨h0,hL'⟩:=hcom λy hy=>by
     rw[uD,tT ua]at hy
     cases hy
    repeat' first|refine gG ?_|(exfalso;have h2:=uo h;dsimp only at h2;omega)|refine gB ?_ ?_<;>intro h|refine zj ?_|refine zx ?_
    exact zf (i+k,(ln,q),out) ⟨by simp only;omega,⟨by simp only;omega,by simp only;omega⟩,⟨by simp only;omega,by simp only;omega⟩,by simp only;omega,hL'⟩ id (by simp only;omega) gM
  have h35c: ¬(c.toNat:Int)=35:=λe=>h35 (num 35 e)
  cases hw:wB c with
  |true=>
   rw[show isWord (c.toNat:Int)=true from hw]at hcw
   repeat' first|refine gG ?_|(exfalso;have h2:=uo h;omega)|(exfalso;have h2:=uq h;omega)|exact gD|refine gB ?_ ?_<;>intro h|refine yy T hC rfl rfl rfl (uw _) (yJ hc) rfl rfl ?_|refine gC hcw ?_
   dsimp only
   refine zn (λk:Nat=>i+k<=s.size/\(((lst s).drop i).take k).all wB=true) (λk=>([(0,Sr s),(3,.one (.bx 1003 0)),(5,.one (.ar 101)),(6,.one (.bx 1006 0)),(7,I i),(9,I k)],[(1003,some (Res.box [.p (ki 0),.p (ki 0)])),(1006,some (Res.box [.p (ki ln),.p (ki (cl))])),(101,some (Res.arr 5 (out.map vy)))])) (λk=>s.size - i - k) hC
    0 ⟨ua,ue⟩ id gM ?_
   rintro k ⟨hk,hall⟩
   have wk:=w3 k hk
   have hnn:0<=IntKind.i64.wrap ((i:Int)+(k:Int)):=by rw[wk];exact uw _
   have hex:lst (s.extract ((i:Nat):Int).toNat (IntKind.i64.wrap ((i:Int)+(k:Int))).toNat)=((lst s).drop i).take k:=by rw[wk,uF,uF,zay,show i+k - i=k by omega]
   have hW:=zhq (s.extract ((i:Nat):Int).toNat (IntKind.i64.wrap ((i:Int)+(k:Int))).toNat) ln cl (by rw[<-y4,hex,uz];omega)
   rw[hex]at hW
   by_cases hend: ∃x,(lst s)[i+k]?=some x/\wB x=true
   ·obtain⟨x,hx,hwx⟩:=hend
    have hxd:((lst s).drop i)[k]?=some x:=by rw[uD];exact hx
    have hxl:=(ui.1 hx).1
    have hKx:=zck x.toNat
    rw[show isWord (x.toNat:Int)=true from hwx]at hKx
    have hx':s[(IntKind.i64.wrap ((i:Int)+(k:Int))).toNat]?=some x:=by rw[wk];exact yJ hx
    refine zr T hC true 200 rfl ?_
    repeat' first|refine gG ?_|(exfalso;have h2:=uo h;omega)|(exfalso;have h2:=uq h;omega)|exact gD|refine gB ?_ ?_<;>intro h|refine yy T hC rfl rfl rfl hnn hx' rfl rfl ?_|refine gC hKx ?_
    rw[zC ua]
    exact zf (k+1) ⟨ua,by rw[ya hxd,hall,hwx];rfl⟩ id ua gM
   ·have hno: ∀x,(lst s)[i+k]?=some x->wB x=false:=λx hx=>by
     cases hwx:wB x with
     |false=>rfl
     |true=>exact absurd ⟨x,hx,hwx⟩ hend
    have htw:=zfx _ k hall (λx hx=>hno x (by rw[uD]at hx;exact hx))
    have hlen:(((lst s).drop i).takeWhile wB).length=k:=by rw[htw,uz,uQ];omega
    have h0:0<k:=by
     rcases qA k with h|h
     ·have:=hno c (by rw[h];exact hc)
      rw[hw]at this;cases this
     ·exact h
    have hend2:s.size<=i+k\/ ∃x,(lst s)[i+k]?=some x/\wB x=false:=by
     by_cases hz:s.size<=i+k
     ·exact .inl hz
     ·obtain⟨x,hx⟩:=ze (l:=lst s) (i:=i+k) ua
      exact .inr ⟨x,hx,hno x hx⟩
    have hnl:=zu2 (l:=lst s) (i:=i) (k:=k) ua (λb hb e=>by
     have:=List.all_eq_true.1 hall b hb
     subst e
     exact absurd this ub)
    clear hend hno
    cases ht:zgX (((lst s).drop i).take k)with
    |none=>
     have hW2:=hW.2 ht
     have hbad:=ziG (ln,cl) out hc hbl h35 hw (by rw[htw];exact ht)
     rw[hbad]at hL
     subst hL
     refine zr T hC true 200 rfl ?_
     rcases hend2 with hz|⟨x,hx,hwx⟩
     all_goals
      try have hKx:=zck x.toNat
      try rw[show isWord (x.toNat:Int)=false from hwx]at hKx
      try have hxl:=(ui.1 hx).1
      try have hx':s[(IntKind.i64.wrap ((i:Int)+(k:Int))).toNat]?=some x:=by rw[wk];exact yJ hx
      repeat' first|refine gG ?_|(exfalso;have h2:=uo h;omega)|(exfalso;have h2:=uq h;omega)|exact gD|refine gB ?_ ?_<;>intro h|refine yy T hC rfl rfl rfl hnn hx' rfl rfl ?_|refine gC hKx ?_|refine zj ?_|(refine za6 hC rfl rfl rfl ud (uw _) ua ua rfl rfl ?_)|refine gC hW2 ?_|refine zx ?_
      exact zt ⟨.inl rfl,id,_,rfl,LeS.tup (.cons (LeS.one (.nil 5)) (.cons (.refl _) (.cons (.refl _) .nil))),trivial,rfl,rfl⟩
    |some t=>
     have hW1:=hW.1 t ht
     have hgo:=zfz (ln,cl) out hc hbl h35 hw (t:=t) (by rw[htw];exact ht)
     rw[hlen]at hgo
     rw[hgo]at hL
     have happ:out.map vy++[vy (yU (ln,cl) t)]=(out++[yU (ln,cl) t]).map vy:=by rw[uY];rfl
     refine zr T hC true 200 rfl ?_
     rcases hend2 with hz|⟨x,hx,hwx⟩
     all_goals
      try have hKx:=zck x.toNat
      try rw[show isWord (x.toNat:Int)=false from hwx]at hKx
      try have hxl:=(ui.1 hx).1
      try have hx':s[(IntKind.i64.wrap ((i:Int)+(k:Int))).toNat]?=some x:=by rw[wk];exact yJ hx
      repeat' first|refine gG ?_|(exfalso;have h2:=uo h;omega)|(exfalso;have h2:=uq h;omega)|exact gD|refine gB ?_ ?_<;>intro h|refine yy T hC rfl rfl rfl hnn hx' rfl rfl ?_|refine gC hKx ?_|refine zj ?_|(refine za6 hC rfl rfl rfl ud (uw _) ua ua rfl rfl ?_)|refine gC hW1 ?_|refine gT ?_|(refine gY T 102 ((out++[yU (ln,cl) t]).map vy) 48 ?_)
      refine zn (λz:Nat×Int=>z.1<=k/\z.2=cl+z.1) (λz=>([(0,Sr s),(3,.one (.bx 1003 0)),(5,.one (.ar 102)),(6,.one (.bx 1006 0)),(7,I i),(9,I (k:Nat)),(13,I z.1)],[(1003,some (Res.box [.p (ki 0),.p (ki 0)])),(1006,some (Res.box [.p (ki ln),.p (ki (z.2))])),(102,some (Res.arr 5 ((out++[yU (ln,cl) t]).map vy)))])) (λz=>k - z.1) hC
       (0,cl) ⟨by simp only;omega,ue⟩ id gM ?_
      rintro⟨j,q⟩ ⟨hj,hq⟩
      simp only at hj hq
      refine zr T hC true 200 rfl ?_
      refine zu rfl ?_ ?_<;>intro hh
      ·have hjk:j<k:=by have:=uo hh;simp only at this;omega
       clear hh
       obtain⟨x,hx,hx10⟩:=hnl j hjk
       have w4:=w3 j ua
       have hnn:0<=IntKind.i64.wrap ((i:Int)+(j:Int)):=by rw[w4];exact uw _
       have hx':s[(IntKind.i64.wrap ((i:Int)+(j:Int))).toNat]?=some x:=by rw[w4];exact yJ hx
       have hM:=zev (ln,q) x ⟨hln.1,by simp only;omega⟩ ⟨by simp only;omega,by simp only;omega⟩
       rw[zsZ hx10]at hM
       repeat' first|refine gG ?_|refine gB ?_ ?_<;>intro h|refine yy T hC rfl rfl rfl hnn hx' rfl rfl ?_|refine gC hM ?_
       dsimp only
       rw[zC ua]
       exact zf (j+1,q+1) ⟨by simp only;omega,by simp only;omega⟩ id (by simp only;omega) gM
      ·have hjk:j=k:=by have:=uq hh;simp only at this;omega
       clear hh
       subst hq
       subst hjk
       repeat' first|refine gG ?_|refine gB ?_ ?_<;>intro h|refine zj ?_|refine zx ?_
       dsimp only
       rw[w3 _ ua]
       exact zf (i+j,(ln,cl+((j:Nat):Int)),out++[yU (ln,cl) t]) ⟨by simp only;omega,⟨by simp only;omega,by simp only;omega⟩,⟨by simp only;omega,by simp only;omega⟩,by simp only[uB,uC];omega,hL⟩ (mvU 101 102) (by simp only;omega) ⟨rfl,⟨rfl,rfl,rfl,rfl,rfl,uh⟩,⟨rfl,rfl,rfl,uh⟩,rfl,λi hi=>zS ua hi⟩
  |false=>
   rw[show isWord (c.toNat:Int)=false from hw]at hcw
   repeat' first|refine gG ?_|(exfalso;have h2:=uo h;omega)|(exfalso;have h2:=uq h;omega)|exact gD|refine gB ?_ ?_<;>intro h|refine yy T hC rfl rfl rfl (uw _) (yJ hc) rfl rfl ?_|refine gC hcw ?_
   dsimp only
   have hsx:lst (s.extract ((i:Nat):Int).toNat s.size)=(lst s).drop i:=by rw[uF,zay,uT (by rw[uQ];omega)]
   have hS:=zkl (s.extract ((i:Nat):Int).toNat s.size)
   rw[hsx]at hS
   cases hy:zeX ((lst s).drop i)with
   |none=>
    rw[hy]at hS
    have hbad:=zmx (ln,cl) out hc hbl h35 hw hy
    rw[hbad]at hL
    subst hL
    repeat' first|refine gG ?_|(exfalso;exact absurd h ub)|refine gB ?_ ?_<;>intro h|(refine zbR hC rfl rfl ud (uw _) ua rfl rfl ?_)|refine gC hS ?_|refine zx ?_
    exact zt ⟨.inl rfl,id,_,rfl,LeS.tup (.cons (LeS.one (.nil 5)) (.cons (.refl _) (.cons (.refl _) .nil))),trivial,rfl,rfl⟩
   |some y=>
    rw[hy]at hS
    have hys:=zfb hy
    have hyz:=zcC y hys.1
    have hyl:=vi hys.2
    rw[y4,uQ]at hyl
    have hyne:y≠⟨#[]⟩:=λe=>by subst e;exact absurd hyz.1 ub
    have hgo:=ziH (ln,cl) out hc hbl h35 hw hy
    rw[hgo]at hL
    have hnl:=zu2 (l:=lst s) (i:=i) (k:=y.size) ua (λb hb=>by
     have e:((lst s).drop i).take y.size=lst y:=by
      rw[<-y4];exact(oH.1 (ox.1 hys.2)).symm
     rw[e]at hb
     exact zfA y hys.1 b hb)
    have happ:out.map vy++[vy (yU (ln,cl) (4,y,0))]=(out++[yU (ln,cl) (4,y,0)]).map vy:=by rw[uY];rfl
    repeat' first|refine gG ?_|(exfalso;exact hyne (uo h))|refine gB ?_ ?_<;>intro h|(refine zbR hC rfl rfl ud (uw _) ua rfl rfl ?_)|refine gC hS ?_|refine gT ?_|(refine gY T 102 ((out++[yU (ln,cl) (4,y,0)]).map vy) 48 ?_)
    refine zn (λz:Nat×Int=>z.1<=y.size/\z.2=cl+z.1) (λz=>([(0,Sr s),(3,.one (.bx 1003 0)),(5,.one (.ar 102)),(6,.one (.bx 1006 0)),(7,I i),(9,I (y.size:Nat)),(13,I z.1)],[(1003,some (Res.box [.p (ki 0),.p (ki 0)])),(1006,some (Res.box [.p (ki ln),.p (ki (z.2))])),(102,some (Res.arr 5 ((out++[yU (ln,cl) (4,y,0)]).map vy)))])) (λz=>y.size - z.1) hC
     (0,cl) ⟨by simp only;omega,ue⟩ id gM ?_
    rintro⟨j,q⟩ ⟨hj,hq⟩
    simp only at hj hq
    refine zr T hC true 200 rfl ?_
    refine zu rfl ?_ ?_<;>intro hh
    ·have hjk:j<y.size:=by have:=uo hh;simp only at this;omega
     clear hh
     obtain⟨x,hx,hx10⟩:=hnl j hjk
     have w4:=w3 j ua
     have hnn:0<=IntKind.i64.wrap ((i:Int)+(j:Int)):=by rw[w4];exact uw _
     have hx':s[(IntKind.i64.wrap ((i:Int)+(j:Int))).toNat]?=some x:=by rw[w4];exact yJ hx
     have hM:=zev (ln,q) x ⟨hln.1,by simp only;omega⟩ ⟨by simp only;omega,by simp only;omega⟩
     rw[zsZ hx10]at hM
     repeat' first|refine gG ?_|refine gB ?_ ?_<;>intro h|refine yy T hC rfl rfl rfl hnn hx' rfl rfl ?_|refine gC hM ?_
     dsimp only
     rw[zC ua]
     exact zf (j+1,q+1) ⟨by simp only;omega,by simp only;omega⟩ id (by simp only;omega) gM
    ·have hjk:j=y.size:=by have:=uq hh;simp only at this;omega
     clear hh
     subst hq
     subst hjk
     repeat' first|refine gG ?_|refine gB ?_ ?_<;>intro h|refine zj ?_|refine zx ?_
     dsimp only
     rw[w3 _ ua]
     exact zf (i+y.size,(ln,cl+((y.size:Nat):Int)),out++[yU (ln,cl) (4,y,0)]) ⟨by simp only;omega,⟨by simp only;omega,by simp only;omega⟩,⟨by simp only;omega,by simp only;omega⟩,by simp only[uB,uC];omega,hL⟩ (mvU 101 102) (by simp only;omega) ⟨rfl,⟨rfl,rfl,rfl,rfl,rfl,uh⟩,⟨rfl,rfl,rfl,uh⟩,rfl,λi hi=>zS ua hi⟩
end Hw.Fr.Ps
namespace Hw.Fr.Ps
open Go Go.Proofs Hw.M
section
variable {l:List Tok} (hl:xG l)
include hl
theorem zqk(f i:Nat)(d:xo)(hi:i<l.length):RA l (jr l f i d):=by rw[<-zg3];exact .er (zrJ hl f i d hi)
theorem znS(f i:Nat)(d:xo)(hi:i<l.length)(hd:zdB d<=2000000){x:xo}{j:Nat}(h:jr l f i d= .ok x j):zdB x<=zdB d+1:=by
 rw[<-zg3]at h
 cases e:zdk l f i d with
 |none=>rw[e]at h;cases h
 |some q=>
  obtain⟨y,k,b⟩:=q
  rw[e]at h
  cases b with
  |true=>cases h
  |false=>
   cases h
   by_cases hk:kwI l i=true
   ·exact(ziD hl f i d hi hd e hk).2.1
   ·rw[qf]at hk
    rw[ziI hk]at e
    cases e
set_option maxHeartbeats 2000000 in
theorem zql(F:Nat)(hF:F<=1500000):RY 164 [pS (yu l),I 0] (λd=>zm (vz d)) (zbg l F):=by
 intro xf jf hR
 have hll:=hl.len
 unfold zbg at hR
 obtain⟨q0,hR⟩:=zh1 hR
 obtain⟨n,k1,e1,hd1,c1⟩:=(xD hl (0+1) (zh hl q0)).at hR
 obtain⟨q1,hd1⟩:=zh1 hd1
 have hk2:=zh hl q1
 refine gO T Tryz.func164 λC hC=>?_
 repeat' first|refine gG ?_|exact gD|refine gB ?_ ?_<;>intro h|refine gC (y9 hl q0) ?_|refine gC c1 ?_|refine gC (y9 hl q1) ?_
 refine gA 101 2 [] [(1007,[.p (ks n),.ar 101,.p (.k (.slice none 0 0)),.p (.k (.slice none 0 0)),.p (.k (.slice none 0 0)),.p (.k (.slice none 0 0)),.p (.k (.slice none 0 0)),.p (.k (.slice none 0 0))])] ?_
 refine gA 102 2 [] [(1007,[.p (ks n),.ar 101,.ar 102,.p (.k (.slice none 0 0)),.p (.k (.slice none 0 0)),.p (.k (.slice none 0 0)),.p (.k (.slice none 0 0)),.p (.k (.slice none 0 0))])] ?_
 refine gA 103 5 [] [(1007,[.p (ks n),.ar 101,.ar 102,.ar 103,.p (.k (.slice none 0 0)),.p (.k (.slice none 0 0)),.p (.k (.slice none 0 0)),.p (.k (.slice none 0 0))])] ?_
 refine gA 104 7 [] [(1007,[.p (ks n),.ar 101,.ar 102,.ar 103,.ar 104,.p (.k (.slice none 0 0)),.p (.k (.slice none 0 0)),.p (.k (.slice none 0 0))])] ?_
 refine gA 105 6 [] [(1007,[.p (ks n),.ar 101,.ar 102,.ar 103,.ar 104,.ar 105,.p (.k (.slice none 0 0)),.p (.k (.slice none 0 0))])] ?_
 refine gA 106 5 [] [(1007,[.p (ks n),.ar 101,.ar 102,.ar 103,.ar 104,.ar 105,.ar 106,.p (.k (.slice none 0 0))])] ?_
 refine gA 107 5 [] [(1007,[.p (ks n),.ar 101,.ar 102,.ar 103,.ar 104,.ar 105,.ar 106,.ar 107])] ?_
 refine zn (λq:xo×Nat×Nat=>q.2.1<l.length/\zdB q.1+q.2.2<=F/\itemsA l F q.2.2 q.2.1 q.1= .ok xf jf)
  (λq=>([(0,pS (yu l)),(1,I (q.2.1:Nat)),(4,.one (.bx 1004 0)),(7,.one (.bx 1007 0))],(1004,some zD)::(1007,some (Res.box [.p (ks q.1.n),.ar 101,.ar 102,.ar 103,.ar 104,.ar 105,.ar 106,.ar 107]))::tb (dA 101 q.1))) (λq=>q.2.2) hC
  (⟨n,[],[],[],[],[],[],[]⟩,k1+1,F) ⟨hk2,Nat.le_of_eq (tI _),hd1⟩ id gM ?_
 clear hd1 hR c1 e1 q1 hk2
 rintro⟨d,k,g⟩ ⟨hk,hcd,hd⟩
 simp only at hk hcd hd
 obtain⟨t,ht⟩:=ze hk
 cases g with
 |zero=>simp only[itemsA]at hd;cases hd
 |succ g=>
 simp only[itemsA]at hd
 replace hd:=zq hd
 rcases hd with⟨hs,hd⟩|⟨hs,hd⟩
 ·cases hd
  refine gZ 101 [] [(1007,[.p (ks xf.n),.p (.sl 2 (xf.types.map yz)),.ar 102,.ar 103,.ar 104,.ar 105,.ar 106,.ar 107])] ?_
  refine gZ 102 [] [(1007,[.p (ks xf.n),.p (.sl 2 (xf.types.map yz)),.p (.sl 2 (xf.globals.map zM)),.ar 103,.ar 104,.ar 105,.ar 106,.ar 107])] ?_
  refine gZ 103 [] [(1007,[.p (ks xf.n),.p (.sl 2 (xf.types.map yz)),.p (.sl 2 (xf.globals.map zM)),.p (.sl 5 (xf.procs.map xc)),.ar 104,.ar 105,.ar 106,.ar 107])] ?_
  refine gZ 104 [] [(1007,[.p (ks xf.n),.p (.sl 2 (xf.types.map yz)),.p (.sl 2 (xf.globals.map zM)),.p (.sl 5 (xf.procs.map xc)),.p (.sl 7 (xf.measures.map yt)),.ar 105,.ar 106,.ar 107])] ?_
  refine gZ 105 [] [(1007,[.p (ks xf.n),.p (.sl 2 (xf.types.map yz)),.p (.sl 2 (xf.globals.map zM)),.p (.sl 5 (xf.procs.map xc)),.p (.sl 7 (xf.measures.map yt)),.p (.sl 6 (xf.invs.map zeo)),.ar 106,.ar 107])] ?_
  refine gZ 106 [] [(1007,[.p (ks xf.n),.p (.sl 2 (xf.types.map yz)),.p (.sl 2 (xf.globals.map zM)),.p (.sl 5 (xf.procs.map xc)),.p (.sl 7 (xf.measures.map yt)),.p (.sl 6 (xf.invs.map zeo)),.p (.sl 5 (xf.pots.map zfp)),.ar 107])] ?_
  refine gZ 107 [] [(1007,[.p (ks xf.n),.p (.sl 2 (xf.types.map yz)),.p (.sl 2 (xf.globals.map zM)),.p (.sl 5 (xf.procs.map xc)),.p (.sl 7 (xf.measures.map yt)),.p (.sl 6 (xf.invs.map zeo)),.p (.sl 5 (xf.pots.map zfp)),.p (.sl 5 (xf.bounds.map x8))])] ?_
  repeat' first|refine gG ?_|exact gD|refine gB ?_ ?_<;>intro h|refine gI T (zg ht) ?_|refine gC (yS ht hs) ?_|refine zj ?_|refine gL ?_
  rw[zC (i:=k) ua]
  exact gF
 ·obtain⟨d2,j2,e,hd⟩:=zi hd
  have hI:=zqj hl F k d hk ua e
  have hj2:=(zqk hl F k d hk).1 _ _ e
  have hc2:=znS hl F k d hk ua e
  repeat' first|refine gG ?_|exact gD|refine gB ?_ ?_<;>intro h|refine gI T (zg ht) ?_|refine gC (z6 ht hs) ?_|refine gR hI (nm [101,102,103,104,105,106,107,201,202,203,204,205,206,207]) ?_
  exact zf (d2,j2,g) ⟨hj2,by simp only;omega,hd⟩ mv7 (qy _) ⟨rfl,⟨rfl,rfl,rfl,rfl,uh⟩,⟨rfl,rfl,rfl,rfl,rfl,rfl,rfl,rfl,rfl,uh⟩,rfl,λi hi=>zmD hi⟩
end
theorem zgN{s:Str}(hs:s.size<=1000000)(h:(zO s).2.2=0)(hv:yX (zO s).1=true):zk Tryz.prog 140 [Sr s] [] (.tup [zm (vz (zO s).1),zvP (0,0),I 0]) []:=by
 have hT:=zkZ s hs
 obtain⟨l,he,hl,j,t,hx,ht,h5⟩:=ziJ h hv
 have hV:=zjI (zO s).1
 rw[hv]at hV
 generalize (zO s).1=x at*
 rw[he]at hT
 simp only at hT
 have hll:=hl.len
 have hE:=zql hl (10*l.length+13) ua _ _ hx
 refine gO T Tryz.func140 λC hC=>?_
 repeat' first|refine gG ?_|exact gD|(exfalso;simp at h;contradiction)|refine gB ?_ ?_<;>intro h|refine gC hT ?_|refine gC hE ?_|refine gI T (zg ht) ?_|refine gC hV ?_|refine gL ?_
 exact gF
end Hw.Fr.Ps
namespace Hw.Fr
open Go Go.Proofs Go.Shelf Hw.M Md
theorem zif:((zcp (⟨#[108,105,115,116]⟩:UW)).isSome&&decide (((zcp (⟨#[108,105,115,116]⟩:UW)).getD noS).2.2=1))=true:=by kernel_rfl
theorem znT:Ps.zv5 ((zcp (⟨#[108,105,115,116]⟩:UW)).getD noS).2.1 (λd=>[(⟨#[112,117,116]⟩:UW),(⟨#[114,101,109,111,118,101]⟩:UW),(⟨#[103,101,116]⟩:UW)].all λw=>(Ps.zaL d w).isSome)=true:=by kernel_rfl
theorem zlw{o:OpT}(ho:okOp 1 o=true)(hw:zbL 1 o∈[(⟨#[112,117,116]⟩:UW),(⟨#[114,101,109,111,118,101]⟩:UW),(⟨#[103,101,116]⟩:UW)]):ze9 (⟨#[108,105,115,116]⟩:UW) o=0:=by
 have h1:=zif
 have h2:=Ps.zgU znT
 unfold ze9
 cases hx:zcp (⟨#[108,105,115,116]⟩:UW)with
 |none=>rw[hx]at h1;cases h1
 |some x=>
  rw[hx]at h1 h2
  simp only[oe,tr,Option.getD_some,ux]at h1 h2
  simp only[h1]
  simp only[List.all_eq_true]at h2
  rw[uv ho,uv h2.1,uv ⟨h2.2.1,h2.2.2 _ hw⟩]
end Hw.Fr
