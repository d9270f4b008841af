import Derived.Test.YtolghpfockkldaaGreatDoorC2
import Derived.Test.YtolghpfockkldaaGreatDoorE3
import Derived.Test.YtolghpfockkldaaGreatDoorC1
import Derived.Recover
set_option linter.defProp false
set_option linter.unusedVariables false
set_option linter.unusedSimpArgs false
set_option linter.unusedSectionVars false
set_option linter.unnecessarySimpa false
namespace Hw.Gm.Ps
open Go Go.Proofs Hw.M
def zkE(c:Int)(h: -1000000<=c)(h2:c<=1000000):zf Tryz.prog 191 [.one (.bx 0 0)] [(0,.box [.p (ki c)])] (.bq (decide (0<=c - 1))) [(0,.box [.p (ki (c - 1))])]:=by
 refine gO T Tryz.func191 λC hC=>?_
 repeat' first|refine gG ?_|refine gB ?_ ?_<;>intro h
 rw[wrap64 ua];exact zi ⟨.inl rfl,id,_,rfl,.qq rfl,⟨rfl,uh⟩,rfl,rfl⟩
def jE(op:Int):Int:=if zX op= -2 then 2 else zX op
def zjd{op:Int}(h1:9<=op)(h2:op<=23)(h3:op≠18)(h4:op≠21):zX op=2:=by
 unfold zX;rw[ur ug,ur ug,ur ua,ur ua,uw ug]
def zcP{op:Int}(h1:op<1\/24<op):zX op= -2:=by
 unfold zX;rw[ur ug,ur ug,ur ua,ur ua,ur ug]
def zgm(op:Int):zf Tryz.prog 190 [I op] [] (.tup [I (jE op),.bq (!decide (zX op= -2))]) []:=by
 have key: ∀n b,(n=jE op/\b= !decide (zX op= -2))->LeS (.tup [I n,Bo b]) (.tup [I (jE op),.bq (!decide (zX op= -2))]):=λn b h=>by
  obtain⟨rfl,rfl⟩:=h;exact LeS.tup (.cons (.refl _) (.cons (LeS.qb rfl) .nil))
 have key2: ∀n b,(n=jE op/\b= !decide (zX op= -2))->LeS (.tup [I n,.bq b]) (.tup [I (jE op),.bq (!decide (zX op= -2))]):=λn b h=>by
  obtain⟨rfl,rfl⟩:=h;exact LeS.refl _
 refine gO T Tryz.func190 λC hC=>?_
 repeat' first|refine zny T hC true 400 rfl rfl ?_|refine zdD rfl (λh=>?_) (λh=>?_)|refine zi2 T hC ud ?_|refine j5 (λh=>?_) (λh=>?_)|refine j6 rfl rfl rfl (λh=>?_) (λh=>?_)|refine j7 rfl rfl (λh=>?_) (λh=>?_)
 all_goals
  first
   |refine zi ⟨.inl rfl,id,_,rfl,key _ _ ?_,trivial,rfl,rfl⟩
   |refine zi ⟨.inl rfl,id,_,rfl,key2 _ _ ?_,trivial,rfl,rfl⟩
  clear key key2
  first
   |(obtain rfl:=uj h;exact⟨rfl,rfl⟩)
   |(simp only[uq,uu]at*
     by_cases J:op<=23
     ·have e:=zjd (op:=op) ua J ua ua;exact⟨by rw[jE,e];rfl,by rw[e];simp[J]⟩
     ·have e:=zcP (op:=op) ua
      exact⟨by rw[jE,e];rfl,by rw[e];simp[J]⟩)
   |(simp only[uq,uu]at*
     have e:=zcP (op:=op) ua
     exact⟨by rw[jE,e];rfl,by rw[e];rfl⟩)
def zgn(e:Ex):Bool:=if e.op=1 then decide (0<=e.n)&&decide (e.n<=1099511627776)else if e.op=2 then decide (e.n=0)||decide (e.n=1)else decide (e.n=0)
def zn6(e:Ex):vU e=(!decide (zX e.op= -2)&& !(decide (0<=zX e.op)&& !decide ((e.l.length:Int)=zX e.op))&& !(decide (zX e.op= -1)&&decide (6<(e.l.length:Int)))&&za2 e&&zgn e):=rfl
def zeN(e:Ex):vU e=(!decide (zX e.op= -2)&&(za2 e&&zgn e)&& !(decide (0<=zX e.op)&& !decide ((e.l.length:Int)=zX e.op))&& !(decide (zX e.op= -1)&&decide (6<(e.l.length:Int)))):=by
 rw[zn6];generalize decide (zX e.op= -2)=a;generalize (decide (0<=zX e.op)&& !decide ((e.l.length:Int)=zX e.op))=b;generalize (decide (zX e.op= -1)&&decide (6<(e.l.length:Int)))=c;cases a<;>cases b<;>cases c<;>cases za2 e<;>cases zgn e<;>rfl
def zeO(op:Int): -2<=zX op/\(zX op<0->zX op= -1\/zX op= -2):=by
 unfold zX
 repeat' split
 all_goals omega
def zgo(e:Ex):zf Tryz.prog 192 [zr (yp e)] [] (.bq (za2 e&&zgn e)) []:=by
 refine gO T Tryz.func192 λC hC=>?_
 repeat' first|refine zny T hC true 400 rfl rfl ?_|refine zdD rfl (λh=>?_) (λh=>?_)|refine zi2 T hC ud ?_|refine j5 (λh=>?_) (λh=>?_)|refine j6 rfl rfl rfl (λh=>?_) (λh=>?_)|refine j7 rfl rfl (λh=>?_) (λh=>?_)|refine gC (yt _) ?_|refine zj7 T (.inl rfl) rfl ?_|refine zhA T (.inl rfl) rfl ?_
 all_goals (simp_all[za2,zgn]<;>omega)
mutual
def exB:Ex->Int->Int->Bool×Int
 | .mk op n s l,d,c=>if(decide (0<=c - 1)&& !decide (60<d)&&vU (.mk op n s l))=true then exL l (d+1) (c - 1)else(false,c - 1)
def exL:List Ex->Int->Int->Bool×Int
 | [],_,c=>(true,c)
 |x::r,d,c=>if(exB x d c).1=true then exL r d (exB x d c).2 else(false,(exB x d c).2)
end
def zpS(e:Ex)(d c:Int):exB e d c=if(decide (0<=c - 1)&& !decide (60<d)&&vU e)=true then exL e.l (d+1) (c - 1)else(false,c - 1):=by
 cases e;rfl
mutual
theorem zeP: ∀(e:Ex) (d c:Int),0<=c-> -1<=(exB e d c).2/\(exB e d c).2<=c/\((exB e d c).1=true->0<=(exB e d c).2)
 | .mk op n s l,d,c,h=>by
   simp only[exB];split
   ·rename_i h';simp only[um,uq]at h';have:=zeQ l (d+1) (c - 1) h'.1.1;exact⟨this.1,ua,this.2.2⟩
   ·simp only;exact⟨ua,ua,λe=>by cases e⟩
theorem zeQ: ∀(l:List Ex) (d c:Int),0<=c-> -1<=(exL l d c).2/\(exL l d c).2<=c/\((exL l d c).1=true->0<=(exL l d c).2)
 | [],d,c,h=>by simp only[exL];exact⟨ua,ua,λ_=>h⟩
 |x::r,d,c,h=>by
  simp only[exL];have h1:=zeP x d c h;split
  ·rename_i h2;have h3:=zeQ r d _ (h1.2.2 h2);exact⟨h3.1,ua,h3.2.2⟩
  ·exact⟨h1.1,h1.2.1,λe=>by cases e⟩
end
theorem zkF(d:Int): ∀(l:List Ex) (c:Int),anyR (λx c=> !(exB x d c).1) (λx c=>(exB x d c).2) l c=(!(exL l d c).1,(exL l d c).2)
 | [],c=>rfl
 |x::r,c=>by
  simp only[anyR,exL];cases h:(exB x d c).1 with
  |true=>simp only[qm,uB,uM,uX];exact zkF d r _
  |false=>rfl
def zn7(x:Ex)(dp c:Int)(h1:0<=dp)(h2:dp<=60)(h:zf Tryz.prog 131 [zr (yp x),I (dp+1),.one (.bx 0 0)] [(0,.box [.p (ki c)])] (.bq (exB x (dp+1) c).1) [(0,.box [.p (ki (exB x (dp+1) c).2)])]):
 zf Tryz.prog 194 [zr (yp x),.one (.bx 1 0),.one (.bx 2 0)] [(0,.box [.p (ki c)]),(1,.box [.p (ki dp)]),(2,.box [.bx 0 0])] (.bq (!(exB x (dp+1) c).1))
  [(0,.box [.p (ki (exB x (dp+1) c).2)]),(1,.box [.p (ki dp)]),(2,.box [.bx 0 0])]:=by
 refine gO T Tryz.func194 λC hC=>?_
 repeat' first|refine gG ?_|refine gB ?_ ?_<;>intro h
 rw[wrap64 ua]
 repeat' first|refine gG ?_|refine gB ?_ ?_<;>intro h|refine gR h (nm [0]) ?_
 exact zi ⟨.inl rfl,id,_,rfl,.qq rfl,⟨rfl,rfl,rfl,uh⟩,rfl,rfl⟩
theorem zje: ∀(N:Nat) (e:Ex) (d c:Int),sizeOf e<N->0<=d->d<=61->0<=c->c<=1000->zf Tryz.prog 131 [zr (yp e),I d,.one (.bx 0 0)] [(0,.box [.p (ki c)])] (.bq (exB e d c).1) [(0,.box [.p (ki (exB e d c).2)])]:=by
 intro N
 induction N with
 |zero=>intro e d c h;omega
 |succ N ih=>
  intro e d c hN hd1 hd2 hc1 hc2;have no:(decide (0<=c - 1)&& !decide (60<d)&&vU e)=false->(exB e d c)=(false,c - 1):=λh=>by rw[zpS,h];rfl
  have yes:(decide (0<=c - 1)&& !decide (60<d)&&vU e)=true->(exB e d c)=exL e.l (d+1) (c - 1):=λh=>by rw[zpS,uw h]
  refine gO T Tryz.func131 λC hC=>?_
  repeat' first|refine gG ?_|refine gB ?_ ?_<;>intro h|refine gC (zgm _) ?_|refine yh hC (zkE c ua ua) (nm [0]) rfl rfl (zI.refl _) rfl rfl rfl rfl rfl rfl rfl rfl ?_|refine gC (zgo _) ?_
  all_goals (try simp only[uk]at*)
  all_goals first
   |(have hn:(decide (0<=c - 1)&& !decide (60<d)&&vU e)=false:=by clear ih no yes;rw[zeN];have:=zeO e.op;generalize (za2 e&&zgn e)=q at *; simp_all[jE]<;>omega
     rw[no hn]
     exact zi ⟨.inl rfl,id,_,rfl,.qb rfl,⟨rfl,uh⟩,rfl,rfl⟩)
   |(have U:(decide (0<=c - 1)&& !decide (60<d)&&vU e)=true:=by clear ih no yes;rw[zeN];have:=zeO e.op;generalize (za2 e&&zgn e)=q at *; simp_all[jE]<;>omega
     rw[yes U];simp only[um,uy,uq,uu]at U
     have hh:zf Tryz.prog 193 [pS (jc e.l),.one (.cl 194 [] [.bx 1 0,.bx 2 0])] [(0,.box [.p (ki (c - 1))]),(1,.box [.p (ki d)]),(2,.box [.bx 0 0])]
      (.bq (!(exL e.l (d+1) (c - 1)).1)) [(0,.box [.p (ki (exL e.l (d+1) (c - 1)).2)]),(1,.box [.p (ki d)]),(2,.box [.bx 0 0])]:=by
      have:=zkz 194 d e.l (λx c=> !(exB x (d+1) c).1) (λx c=>(exB x (d+1) c).2) (λc=>0<=c/\c<=1000) (λx hx c J=>⟨zn7 x d c ua ua (ih x (d+1) c (by have:=qx hx;have:=zeL e;omega) ua ua J.1 J.2),λhp=>by
       have hb:=zeP x (d+1) c J.1
       exact⟨hb.2.2 (by simpa using hp),ua⟩⟩) (c - 1) ⟨ua,ua⟩
      rw[zkF]at this;exact this
     repeat' first|refine gG ?_|refine gB ?_ ?_<;>intro h|refine gR hh (nm [0,1004,1005]) ?_
     exact zi ⟨.inl rfl,id,_,rfl,.qq ue,⟨rfl,uh⟩,rfl,rfl⟩)
theorem zbU: ∀(l:List Ex) (d n:Int),n<=countL l d n
 | [],d,n=>by simp only[countL];omega
 |e::es,d,n=>by
  simp only[countL];have h1:=(wc e (d+1)).1;have h2:=zbU es d (n+countS e (d+1));split<;>omega
mutual
theorem zeR: ∀(e:Ex) (d c:Int),0<=c->c<=1000->(exB e d c).1=decide (countS e d<=c)/\(countS e d<=c->(exB e d c).2=c - countS e d)
 | .mk op n s l,d,c,h0,h1=>by
   by_cases hb:(decide (60<d)|| !vU (.mk op n s l))=true
   ·have e1:countS (.mk op n s l) d=1001:=by simp only[countS];exact uw hb
    have e2:exB (.mk op n s l) d c=(false,c - 1):=by
     simp only[exB];refine ur λh=>?_;simp only[um,uO,uy]at h hb;rcases hb with hb|hb
     ·rw[hb]at h;simp at h
     ·rw[hb]at h;simp at h
    rw[e1,e2];exact⟨(uF ua).symm,λh=>by omega⟩
   ·have e1:countS (.mk op n s l) d=countL l d 1:=by simp only[countS];exact ur hb
    simp only[uO,uq,uy,oX,qD]at hb;rw[e1];by_cases hc:0<=c - 1
    ·have e2:exB (.mk op n s l) d c=exL l (d+1) (c - 1):=by simp only[exB];exact uw (by simp[hc,hb.2];omega)
     rw[e2];have:=zeS l d (c - 1) 1 ua ua ua;rw[show 1+(c - 1)=c by omega]at this;exact this
    ·have e2:exB (.mk op n s l) d c=(false,c - 1):=by simp only[exB];exact ur λh=>by simp only[um,uq]at h;omega
     rw[e2];have:=zbU l d 1;exact⟨(uF ua).symm,λh=>by omega⟩
theorem zeS: ∀(l:List Ex) (d c n:Int),0<=c->1<=n->n+c<=1000->(exL l (d+1) c).1=decide (countL l d n<=n+c)/\(countL l d n<=n+c->(exL l (d+1) c).2=n+c - countL l d n)
 | [],d,c,n,h0,h1,h2=>by
   have e1:countL [] d n=n:=by simp only[countL]
   rw[e1];simp only[exL];exact⟨(uT ua).symm,λ_=>by omega⟩
 |x::r,d,c,n,h0,h1,h2=>by
  have hx:=zeR x (d+1) c h0 ua;have hk:=(wc x (d+1)).1;by_cases hc:countS x (d+1)<=c
  ·have e1:countL (x::r) d n=countL r d (n+countS x (d+1)):=by simp only[countL];exact ur ua
   have e2:exL (x::r) (d+1) c=exL r (d+1) (c - countS x (d+1)):=by
    simp only[exL];rw[hx.1,uT hc,uw rfl,hx.2 hc]
   rw[e1,e2];have:=zeS r d (c - countS x (d+1)) (n+countS x (d+1)) ua ua ua;rw[show n+countS x (d+1)+(c - countS x (d+1))=n+c by omega]at this;exact this
  ·have e2:exL (x::r) (d+1) c=(false,(exB x (d+1) c).2):=by
    simp only[exL];rw[hx.1,uF hc];exact ur ue
   have hg:=zbU r d (n+countS x (d+1))
   have hbig:n+c<countL (x::r) d n:=by
    simp only[countL];by_cases h3:1000<n+countS x (d+1)
    ·rw[uw h3];omega
    ·rw[ur h3];omega
   rw[e2];exact⟨(uF ua).symm,λh=>by omega⟩
end
def zkG(e:Ex):(exB e 1 1000).1=yE e:=(zeR e 1 1000 ua ua).1
def yU(e:Ex):zf Tryz.prog 90 [zr (yp e)] [] (.bq (yE e)) []:=by
 refine gO T Tryz.func90 λC hC=>?_
 repeat' first|refine gG ?_|refine gB ?_ ?_<;>intro h|refine yh hC (zje (sizeOf e+1) e 1 1000 ua ua ua ua ua) (nm [1005]) rfl rfl (zI.refl _) rfl rfl rfl rfl rfl rfl rfl rfl ?_
 exact zi ⟨.inl rfl,id,_,rfl,.qq (zkG e),trivial,rfl,rfl⟩
def za6(s:Sm):Bool:=(if s.op=1\/s.op=2 then isName s.s else decide (s.s=(⟨#[]⟩:UB)))&& !(!decide (s.op=3)&&(decide (0<(s.els.length:Int))||(!decide (s.op=4)&&decide (0<(s.l.length:Int)))))&&
 (if s.op=1\/s.op=3\/s.op=4 then decide ((s.e.length:Int)=1)else if s.op=2 then decide ((s.e.length:Int)=2)else if s.op=5 then decide ((s.e.length:Int)<=1)
   else if s.op=6 then decide ((s.e.length:Int)=1)&&decide ((s.e[0]?).map Ex.op=some 7)else false)
def zn8(s:Sm):(za6 s&&s.e.all yE)=vO s:=by
 have hz: ∀n:Nat,decide ((n:Int)=0)= !decide (0<(n:Int)):=λn=>by
  by_cases h:(n:Int)=0
  ·rw[uT h,uF ua];rfl
  ·rw[uF h,uT ua];rfl
 have h1: ∀n:Nat,(!decide ((n:Int)<1)&& !decide (1<(n:Int)))=decide ((n:Int)=1):=λn=>by
  by_cases h:(n:Int)=1
  ·simp[h]
  ·rw[uF h];by_cases h2:(n:Int)<1<;>simp[h2]<;>omega
 have h2: ∀n:Nat,(!decide ((n:Int)<2)&& !decide (2<(n:Int)))=decide ((n:Int)=2):=λn=>by
  by_cases h:(n:Int)=2
  ·simp[h]
  ·rw[uF h];by_cases h2:(n:Int)<2<;>simp[h2]<;>omega
 have h3: ∀n:Nat,(!decide ((n:Int)<0)&& !decide (1<(n:Int)))=decide ((n:Int)<=1):=λn=>by
  by_cases h:(n:Int)<=1
  ·simp[h]<;>omega
  ·simp[h]<;>omega
 simp only[vO,zhI,za6,zkr,wL,h1,h2,h3,hz];generalize s.e.all yE=A;generalize isName s.s=B;generalize decide (s.s=(⟨#[]⟩:UB))=E;generalize decide (0<(s.els.length:Int))=X;generalize decide (0<(s.l.length:Int))=Y;generalize decide ((s.e[0]?).map Ex.op=some 7)=Z;generalize decide ((s.e.length:Int)=1)=N1;generalize decide ((s.e.length:Int)=2)=N2;generalize decide ((s.e.length:Int)<=1)=N3;by_cases J:s.op=1
 ·simp only[J,Int.reduceEq,Uz,UA,oV,oL,uX,uM,oh,qE];revert A B E X Y Z N1 N2 N3;decide
 by_cases U:s.op=2
 ·simp only[U,Int.reduceEq,Uz,UA,oV,oL,uX,uM,oh,qE];revert A B E X Y Z N1 N2 N3;decide
 by_cases o3:s.op=3
 ·simp only[o3,Int.reduceEq,Uz,UA,oV,oL,uX,uM,oh,qE];revert A B E X Y Z N1 N2 N3;decide
 by_cases o4:s.op=4
 ·simp only[o4,Int.reduceEq,Uz,UA,oV,oL,uX,uM,oh,qE];revert A B E X Y Z N1 N2 N3;decide
 by_cases o5:s.op=5
 ·simp only[o5,Int.reduceEq,Uz,UA,oV,oL,uX,uM,oh,qE];revert A B E X Y Z N1 N2 N3;decide
 by_cases o6:s.op=6
 ·simp only[o6,Int.reduceEq,Uz,UA,oV,oL,uX,uM,oh,qE];revert A B E X Y Z N1 N2 N3;decide
 simp only[J,U,o3,o4,o5,o6,or_self,uM,qI,tJ]
def zgp(s:Sm):zf Tryz.prog 213 [zr (zgq s)] [] (.bq (za6 s)) []:=by
 refine gO T Tryz.func213 λC hC=>?_
 repeat' first|refine zny T hC true 400 rfl rfl ?_|refine zdD rfl (λh=>?_) (λh=>?_)|refine zi2 T hC ud ?_|refine j5 (λh=>?_) (λh=>?_)|refine j6 rfl rfl rfl (λh=>?_) (λh=>?_)|refine j7 rfl rfl (λh=>?_) (λh=>?_)|refine gC (yt _) ?_|refine zj7 T (.inl rfl) rfl ?_|refine zhA T (.inl rfl) rfl ?_|(obtain⟨x,J⟩:=zb (l:=s.e) (i:=0) (by have:=uj h;simp only[uk]at this;omega);refine xX T hC rfl rfl rfl (qt _) (zD J) rfl rfl ?_)
 all_goals (try simp only[uk]at*)
 all_goals (simp_all[za6]<;>omega)
mutual
def stB:Sm->Int->Int->Bool×Int
 | .mk op s e l els,d,c=>if(decide (0<=c - 1)&&(za6 (.mk op s e l els)&&e.all yE))=true then
    (if(if decide (0<(l.length:Int))&&decide (60<d+1)then(false,c - 1)else stQ l (d+1) (c - 1)).1=true then
      (if decide (0<(els.length:Int))&&decide (60<d+1)then(false,(if decide (0<(l.length:Int))&&decide (60<d+1)then(false,c - 1)else stQ l (d+1) (c - 1)).2)
        else stQ els (d+1) (if decide (0<(l.length:Int))&&decide (60<d+1)then(false,c - 1)else stQ l (d+1) (c - 1)).2)
      else(false,(if decide (0<(l.length:Int))&&decide (60<d+1)then(false,c - 1)else stQ l (d+1) (c - 1)).2))
    else(false,c - 1)
def stQ:List Sm->Int->Int->Bool×Int
 | [],_,c=>(true,c)
 |x::r,d,c=>if(stB x d c).1=true then stQ r d (stB x d c).2 else(false,(stB x d c).2)
end
def stP(l:List Sm)(d c:Int):Bool×Int:=if decide (0<(l.length:Int))&&decide (60<d)then(false,c)else stQ l d c
def zpT(s:Sm)(d c:Int):stB s d c=if(decide (0<=c - 1)&&(za6 s&&s.e.all yE))=true then
 (if(stP s.l (d+1) (c - 1)).1=true then stP s.els (d+1) (stP s.l (d+1) (c - 1)).2 else(false,(stP s.l (d+1) (c - 1)).2))else(false,c - 1):=by
 cases s;rfl
def zgr{n k:Int}(h:0<=k):n<=zeH n k:=by
 unfold zeH;by_cases q:n<=200
 ·rw[uw q];omega
 ·rw[ur q];omega
def zkH(s:Sm)(d n:Int)(h0:0<=n)(h1:n<=200):n<stN s d n:=by
 rw[zhJ];split
 ·omega
 ·have J:=(y9 s.l (d+1) 0 ua ua).1;have U:=(y9 s.els (d+1) 0 ua ua).1;have b1:=zgr (n:=n+1) J;have b2:=zgr (n:=zeH (n+1) (stL s.l (d+1) 0)) U;omega
theorem zpU: ∀(l:List Sm) (d n:Int),0<=n->n<=200->n<=stL l d n
 | [],d,n,_,_=>by simp only[stL];omega
 |s::r,d,n,h0,h1=>by
  have h2:=zkH s d n h0 h1;simp only[stL];by_cases h3:200<stN s d n
  ·rw[uw h3];omega
  ·rw[ur h3];have:=zpU r d (stN s d n) ua ua;omega
theorem zn9{l:List Sm}{d:Int}(h:0<(l.length:Int))(J:60<d)(n:Int):stL l d n=201:=by
 cases l with
 |nil=>simp at h
 |cons s r=>
  have:stN s d n=201:=by rw[zhJ,uw (by simp[J])]
  simp only[stL,this];rfl
def zkI(r:Bool×Int)(k t:Int):Prop:=r.1=decide (k<=t)/\(k<=t->r.2=t - k)
variable {r:Bool×Int}
def zkI.of_le{k t:Int}(h:k<=t)(e:r=(true,t - k)):zkI r k t:=by subst e;exact⟨(uT h).symm,λ_=>rfl⟩
def zkI.zjf{k t:Int}(h:t<k)(e:r.1=false):zkI r k t:=⟨by rw[e];exact(uF ua).symm,λh'=>by omega⟩
def zkI.le{k t:Int}(h:zkI r k t)(J:k<=t):r=(true,t - k):=oN (h.1.trans (uT J)) (h.2 J)
def zkI.gt{k t:Int}(h:zkI r k t)(h1:t<k):r.1=false:=h.1.trans (uF ua)
mutual
theorem zkJ: ∀(s:Sm) (d c n:Int),0<=n->0<=c->n+c<=200->d<=60->zkI (stB s d c) (stN s d n) (n+c)
 | .mk op s e l els,d,c,n,h0,h1,h2,hd=>by
   have hgt:=zkH (.mk op s e l els) d n h0 ua
   have eB:stB (.mk op s e l els) d c=if(decide (0<=c - 1)&&vO (.mk op s e l els))=true then
    (if(stP l (d+1) (c - 1)).1=true then stP els (d+1) (stP l (d+1) (c - 1)).2 else(false,(stP l (d+1) (c - 1)).2))else(false,c - 1):=by
    rw[zpT,zn8];rfl
   rw[eB];by_cases hs:vO (.mk op s e l els)=true
   ·have eN:stN (.mk op s e l els) d n=zeH (zeH (n+1) (stL l (d+1) 0)) (stL els (d+1) 0):=by
     rw[zhJ,ur (by simp[hs];omega)];rfl
    rw[hs,qh];by_cases hc:0<=c - 1
    ·rw[uw (uT hc)];have a1:=(y9 l (d+1) 0 ua ua).1;have a2:=(y9 els (d+1) 0 ua ua).1;have hl:=zbV l (d+1) (c - 1) ua ua;by_cases k1:stL l (d+1) 0<=c - 1
     ·rw[hl.le k1,uw rfl];have hm:=zbV els (d+1) (c - 1 - stL l (d+1) 0) ua ua;simp only;have eb:zeH (n+1) (stL l (d+1) 0)=n+1+stL l (d+1) 0:=uw ua;have eb2:zeH (n+1+stL l (d+1) 0) (stL els (d+1) 0)=n+1+stL l (d+1) 0+stL els (d+1) 0:=uw ua;rw[eN,eb,eb2];by_cases k2:stL els (d+1) 0<=c - 1 - stL l (d+1) 0
      ·rw[hm.le k2];exact .of_le ua (oN rfl (by simp only;omega))
      ·exact .zjf ua (hm.gt ua)
     ·have e1:=hl.gt ua;rw[e1];refine .zjf ?_ rfl;rw[eN];have eb:zeH (n+1) (stL l (d+1) 0)=n+1+stL l (d+1) 0:=uw ua;rw[eb];have:=zgr (n:=n+1+stL l (d+1) 0) a2;omega
    ·rw[ur ug];exact .zjf ua rfl
   ·have hs':vO (.mk op s e l els)=false:=by simpa using hs
    have eN:stN (.mk op s e l els) d n=201:=by rw[zhJ,uw (by simp[hs'])]
    rw[hs',qI,ur ue,eN];exact .zjf ua rfl
theorem zeT: ∀(l:List Sm) (d c n:Int),0<=n->0<=c->n+c<=200->d<=60->zkI (stQ l d c) (stL l d n) (n+c)
 | [],d,c,n,h0,h1,h2,hd=>by
   have e1:stL [] d n=n:=by simp only[stL]
   rw[e1];exact .of_le ua (by simp only[stQ];exact oN rfl (by simp only;omega))
 |x::r,d,c,n,h0,h1,h2,hd=>by
  have hx:=zkJ x d c n h0 h1 h2 hd;have hg:=zkH x d n h0 ua;by_cases k:stN x d n<=n+c
  ·have e1:stL (x::r) d n=stL r d (stN x d n):=by simp only[stL];exact ur ua
   have e2:stQ (x::r) d c=stQ r d (n+c - stN x d n):=by simp only[stQ];rw[hx.le k];rfl
   rw[e1,e2];have:=zeT r d (n+c - stN x d n) (stN x d n) ua ua ua hd;rw[show stN x d n+(n+c - stN x d n)=n+c by omega]at this;exact this
  ·have e2:(stQ (x::r) d c).1=false:=by simp only[stQ];rw[hx.gt ua];rfl
   refine .zjf ?_ e2;simp only[stL];by_cases h3:200<stN x d n
   ·rw[uw h3];omega
   ·rw[ur h3];have:=zpU r d (stN x d n) ua ua;omega
theorem zbV: ∀(l:List Sm) (d c:Int),0<=c->c<=200->zkI (stP l d c) (stL l d 0) c
 |l,d,c,h0,h1=>by
  unfold stP;by_cases hd:60<d
  ·by_cases hl:0<(l.length:Int)
   ·rw[uw (by simp[hl,hd];omega),zn9 hl hd];exact .zjf ua rfl
   ·have:l=[]:=tr ua;subst this;rw[ur ue];exact .of_le (by simp only[stL];omega) (by simp only[stQ,stL];exact oN rfl (by simp only;omega))
  ·rw[ur (by simp[hd])];have:=zeT l d c 0 ua h0 ua ua;rw[Int.zero_add]at this;exact this
end
mutual
theorem zeU: ∀(s:Sm) (d c:Int),0<=c-> -1<=(stB s d c).2/\(stB s d c).2<=c/\((stB s d c).1=true->0<=(stB s d c).2)
 | .mk op s e l els,d,c,h=>by
   have eB:stB (.mk op s e l els) d c=if(decide (0<=c - 1)&&(za6 (.mk op s e l els)&&e.all yE))=true then
    (if(stP l (d+1) (c - 1)).1=true then stP els (d+1) (stP l (d+1) (c - 1)).2 else(false,(stP l (d+1) (c - 1)).2))else(false,c - 1):=rfl
   rw[eB];by_cases hc:(decide (0<=c - 1)&&(za6 (.mk op s e l els)&&e.all yE))=true
   ·rw[uw hc];have h0:0<=c - 1:=by simp only[um,uq]at hc;exact hc.1
    have h1:=zbW l (d+1) (c - 1) h0;by_cases h2:(stP l (d+1) (c - 1)).1=true
    ·rw[uw h2];have h3:=zbW els (d+1) _ (h1.2.2 h2);exact⟨h3.1,ua,h3.2.2⟩
    ·rw[ur h2];exact⟨h1.1,by simp only;omega,λe=>by cases e⟩
   ·rw[ur hc];exact⟨by simp only;omega,by simp only;omega,λe=>by cases e⟩
theorem zeV: ∀(l:List Sm) (d c:Int),0<=c-> -1<=(stQ l d c).2/\(stQ l d c).2<=c/\((stQ l d c).1=true->0<=(stQ l d c).2)
 | [],d,c,h=>by simp only[stQ];exact⟨ua,ua,λ_=>h⟩
 |x::r,d,c,h=>by
  have h1:=zeU x d c h;simp only[stQ];by_cases h2:(stB x d c).1=true
  ·rw[uw h2];have h3:=zeV r d _ (h1.2.2 h2);exact⟨h3.1,ua,h3.2.2⟩
  ·rw[ur h2];exact⟨h1.1,h1.2.1,λe=>by cases e⟩
theorem zbW: ∀(l:List Sm) (d c:Int),0<=c-> -1<=(stP l d c).2/\(stP l d c).2<=c/\((stP l d c).1=true->0<=(stP l d c).2)
 |l,d,c,h=>by
  unfold stP;by_cases h2:(decide (0<(l.length:Int))&&decide (60<d))=true
  ·rw[uw h2];exact⟨by simp only;omega,by simp only;omega,λe=>by cases e⟩
  ·rw[ur h2];exact zeV l d c h
end
def zkK(x:Ex):zf Tryz.prog 214 [zr (yp x)] [] (.bq (!yE x)) []:=by
 refine gO T Tryz.func214 λC hC=>?_
 repeat' first|refine gG ?_|refine gB ?_ ?_<;>intro h|refine gC (yU _) ?_|refine gQ ?_
 rfl
theorem zrd(l:List Ex):(l.any λx=> !yE x)= !l.all yE:=by
 induction l with
 |nil=>rfl
 |cons a l ih=>simp only[qn,tN,ih,Ux]
set_option maxHeartbeats 1000000 in
theorem zgs: ∀(N:Nat) (l:List Sm) (d c:Int),sizeOf l<N->0<=d->d<=61->0<=c->c<=200->zf Tryz.prog 158 [pS (yF l),I d,.one (.bx 0 0)] [(0,.box [.p (ki c)])] (.bq (stP l d c).1) [(0,.box [.p (ki (stP l d c).2)])]:=by
 intro N
 induction N with
 |zero=>intro l d c h;omega
 |succ N ih=>
  intro l d c hN hd1 hd2 hc1 hc2;refine gO T Tryz.func158 λC hC=>?_;refine wi 0 rfl λhlen=>?_;rw[uk]at hlen
  repeat' first|refine gG ?_|refine gB ?_ ?_<;>intro h
  all_goals (try simp only[uk]at*)
  ·have e:stP l d c=(false,c):=by unfold stP;rw[uw (by simp_all)]
   rw[e];exact zi ⟨.inl rfl,id,_,rfl,.qb rfl,⟨rfl,uh⟩,rfl,rfl⟩
  all_goals
   have J:l=[]\/d<=60:=by
    by_cases hz:d<=60
    ·exact .inr hz
    ·left;have: ¬0<(l.length:Int):=λh0=>by simp_all<;>omega
     exact tr ua
   have e:stP l d c=stQ l d c:=by
    unfold stP;rcases J with rfl|J
    ·rw[ur ue]
    ·rw[ur ug]
   rw[e];clear e h;generalize hR:stQ l d c=RES
   refine zn (λq:Nat×Int=>q.1<=l.length/\0<=q.2/\q.2<=200/\stQ (l.drop q.1) d q.2=RES) (λq=>([(1,I d),(2,.one (.bx 0 0)),(16,pS (yF l)),(17,I l.length),(18,I q.1)],[(0,some (.box [.p (ki q.2)]))])) (λq=>l.length - q.1) hC
    (0,c) ⟨uE _,hc1,hc2,hR⟩ id gM ?_
   clear hR;rintro⟨i,q⟩ ⟨hi,hq1,hq2,U⟩;simp only at hi hq1 hq2 U;refine zm T hC true 200 rfl ?_;refine zp rfl ?_ ?_<;>intro h
   rotate_left
   ·have hge: ¬i<l.length:=by simpa using h
    rw[uC ua]at U;simp only[stQ]at U;subst U
    repeat' first|refine gG ?_|refine gB ?_ ?_<;>intro h|refine ze ?_
    exact zi ⟨.inl rfl,id,_,rfl,.qb rfl,⟨rfl,uh⟩,rfl,rfl⟩
   have hlt:i<l.length:=by simpa using h
   clear h
   have hd:d<=60:=by
    rcases J with rfl|J
    ·simp at hlt
    ·exact J
   obtain⟨x,hx⟩:=zb hlt;have hsz:=zgg hx;have hss:=zhK x;have hbs:=zeU x d q hq1;rw[drop_at hx]at U;simp only[stQ]at U
   have no: ∀r:Bool×Int,r.1=false->stB x d q=r->r=RES:=λr h1 h2=>by
    rw[h2,ur (by rw[h1];simp)]at U;rw[<-U];exact oN h1 rfl
   have eB:=zpT x d q;have w1:IntKind.i64.wrap (d+1)=d+1:=wrap64 ua;have hA:=zkA 214 x.e (λy=> !yE y) (λy _=>zkK y);rw[zrd]at hA;have b1:=λh0=>zbW x.l (d+1) (q - 1) h0
   have nn:(!decide (0<=q - 1))=false->0<=q - 1:=λh=>by simpa using h
   have k1:=λ(h0:(!decide (0<=q - 1))=false)=>ih x.l (d+1) (q - 1) ua ua ua (nn h0) ua
   have k2:=λ(h0:(!decide (0<=q - 1))=false) (h1:(!(stP x.l (d+1) (q - 1)).1)=false)=>ih x.els (d+1) (stP x.l (d+1) (q - 1)).2 ua ua ua ((b1 (nn h0)).2.2 (by simpa using h1)) (by have:=(b1 (nn h0)).2.1;omega)
   clear ih hsz hss;generalize hr1:stP x.l (d+1) (q - 1)=r1 at*;generalize hr2:stP x.els (d+1) r1.2=r2 at*;generalize hsb:stB x d q=sb at*
   repeat' first|refine gG ?_|refine gB ?_ ?_<;>intro h|refine gXT ?_|refine yh hC (zkE q ua ua) (nm [0]) rfl rfl (zI.refl _) rfl rfl rfl rfl rfl rfl rfl rfl ?_|refine gC (zgp _) ?_|refine gC hA ?_|rw[w1]|refine yh hC (k1 uf) (nm [0]) rfl rfl (zI.refl _) rfl rfl rfl rfl rfl rfl rfl rfl ?_|refine yh hC (k2 uf uf) (nm [0]) rfl rfl (zI.refl _) rfl rfl rfl rfl rfl rfl rfl rfl ?_|refine zl ?_
   all_goals clear k1 k2 hA w1 hx hr1 hr2 hsb b1 nn
   all_goals first
    |(have e:sb=(false,q - 1):=by clear U no hbs J;rw[eB];clear eB;exact ur (λhcc=>by simp only[um,uq]at hcc;obtain⟨hk1,hk2,hk3⟩:=hcc;simp_all[-List.all_eq_true, -List.all_eq_false]<;>omega)
      have e2:=no _ rfl e;subst e2
      exact zi ⟨.inl rfl,id,_,rfl,.qb rfl,⟨rfl,uh⟩,rfl,rfl⟩)
    |(have e:sb=(false,r1.2):=by clear U no hbs J;rw[eB];clear eB;rw[uw (by simp_all[-List.all_eq_true, -List.all_eq_false]),ur (by simp_all[-List.all_eq_true, -List.all_eq_false])]
      have e2:=no _ rfl e;subst e2
      exact zi ⟨.inl rfl,id,_,rfl,.qb rfl,⟨rfl,uh⟩,rfl,rfl⟩)
    |(have e:sb=r2:=by clear U no hbs J;rw[eB];clear eB;rw[uw (by simp_all[-List.all_eq_true, -List.all_eq_false]),uw (by simp_all[-List.all_eq_true, -List.all_eq_false])]
      have h2:r2.1=false:=by simpa using h
      have e2:=no _ h2 e;have e3:RES=(false,r2.2):=by rw[<-e2];exact oN h2 rfl
      subst e3
      exact zi ⟨.inl rfl,id,_,rfl,.qb rfl,⟨rfl,uh⟩,rfl,rfl⟩)
    |(have e:sb=r2:=by clear U no hbs J;rw[eB];clear eB;rw[uw (by simp_all[-List.all_eq_true, -List.all_eq_false]),uw (by simp_all[-List.all_eq_true, -List.all_eq_false])]
      have h2:r2.1=true:=by simpa using h
      rw[e,uw h2]at U;rw[e]at hbs;rw[vi ua]
      exact zh (i+1,r2.2) ⟨by simp only;omega,hbs.2.2 h2,by simp only;omega,U⟩ id (by simp only;omega) gM)
def zeW(s:Str):zf Tryz.prog 154 [Sr s] [] (.bq (isType s)) []:=by
 refine gO T Tryz.func154 λC hC=>?_
 repeat' first|refine gG ?_|refine gB ?_ ?_<;>intro h|refine gC (yt _) ?_|refine gQ ?_|refine gL ?_
 all_goals simp_all[isType]
def zcQ(s:Str):zf Tryz.prog 155 [Sr s] [] (.bq (zhH s)) []:=by
 refine gO T Tryz.func155 λC hC=>?_
 repeat' first|refine gG ?_|refine gB ?_ ?_<;>intro h|refine gC (yt _) ?_|refine gQ ?_|refine gL ?_
 all_goals simp_all[zhH]
def zjg(f:Fld):zf Tryz.prog 153 [zr (zG f)] [] (.bq (!zdB f)) []:=by
 refine gO T Tryz.func153 λC hC=>?_
 repeat' first|refine gG ?_|refine gB ?_ ?_<;>intro h|refine gC (yt _) ?_|refine gC (zeW _) ?_|refine gQ ?_|refine gL ?_
 all_goals simp_all[zdB]
variable {α:Type}
theorem vx(p:α->Bool)(l:List α):(l.any λx=> !p x)= !l.all p:=by
 induction l with
 |nil=>rfl
 |cons a l ih=>simp only[qn,tN,ih,Ux]
def jd(l:List Fld)(m:Int):zf Tryz.prog 109 [pS (zC l),I m] [] (.bq (xh l m)) []:=by
 have J:=zcO 153 l (λy=> !zdB y) (λy _=>zjg y);rw[vx]at J;refine gO T Tryz.func109 λC hC=>?_
 repeat' first|refine gG ?_|refine gB ?_ ?_<;>intro h|refine gC J ?_|refine gQ ?_|refine gL ?_
 all_goals (try simp only[uk]at*)
 all_goals (simp_all[xh, -List.all_eq_true, -List.all_eq_false]<;>(intros;omega))
def zbX(p:Pr):zf Tryz.prog 114 [zr (zJ p)] [] (.bq (zaf p)) []:=by
 have J:=zbV p.body 1 200 ua ua;refine gO T Tryz.func114 λC hC=>?_
 repeat' first|refine gG ?_|refine gB ?_ ?_<;>intro h|refine gC (yt _) ?_|refine gC (jd _ _) ?_|refine gC (zeW _) ?_|refine yh hC (zgs (sizeOf p.body+1) p.body 1 200 ua ua ua ua ua) (nm [1030]) rfl rfl (zI.refl _) rfl rfl rfl rfl rfl rfl rfl rfl ?_|refine gL ?_|refine gQ ?_
 all_goals (have hc1:=J.1;clear J;simp_all[zaf])
def zeX(b:Bd):zf Tryz.prog 157 [zr (wm b)] [] (.bq (!zaJ b)) []:=by
 refine gO T Tryz.func157 λC hC=>?_
 repeat' first|refine gG ?_|refine gB ?_ ?_<;>intro h|refine gC (yt _) ?_|refine gC (yU b.x) ?_|refine gQ ?_|refine gL ?_
 all_goals simp_all[zaJ]
def zgt(a b t:Int):decide (t<zet a b)=(decide (t<a)||decide (t<b)):=by
 unfold zet;by_cases h:b>a
 ·rw[uw h];by_cases h2:t<b<;>simp[h2];omega
 ·rw[ur h];by_cases h2:t<a<;>simp[h2];omega
def vy(d:zg):Bool:= !decide (12<(d.measures.length:Int))&& !decide (12<(d.invs.length:Int))&& !decide (12<(d.pots.length:Int))&& !decide (12<(d.bounds.length:Int))
def zhM(d:zg):decide (12<zet (zet (zet (d.measures.length:Int) (d.invs.length:Int)) (d.pots.length:Int)) (d.bounds.length:Int))= !vy d:=by
 rw[zgt,zgt,zgt];simp only[vy,Ux,Uy]
def zcw(d:zg):zf Tryz.prog 110 [zr (zA d)] [] (.bq (vy d&&yr d)) []:=by
 have hA:=zjc 157 d.bounds (λy=> !zaJ y) (λy _=>zeX y);rw[vx]at hA;refine gO T Tryz.func110 λC hC=>?_
 repeat' first|refine gG ?_|refine gB ?_ ?_<;>intro h|refine ztW hC rfl rfl rfl rfl rfl rfl ?_|refine gL ?_
 ·simp only[uk]at h;rw[zhM]at h;have:vy d=false:=by simpa using h
  rw[this];rfl
 ·simp only[uk]at h;rw[zhM]at h;have hsz:vy d=true:=by simpa using h
  rw[hsz,tn];simp only[vy,um,uy,uu]at hsz;obtain⟨⟨⟨hl1,hl2⟩,hl3⟩,hl4⟩:=hsz;clear h;rw[uk]
  refine zn (λi:Nat=>i<=(d.measures).length/\((d.measures).take i).all (vP)=true) (λi=>([(1,.one (.bx 1001 0)),(24,.one (.p (.sl 7 (d.measures.map yI)))),(25,I d.measures.length),(26,I i)],[(1001,some (.box ((zA d).map V.p)))])) (λi=>(d.measures).length - i) hC
   0 ⟨uE _,ue⟩ id gM ?_
  rintro i ⟨hi,U⟩;refine zm T hC true 200 rfl ?_;refine zp rfl ?_ ?_<;>intro h
  ·have J:i<(d.measures).length:=by first|simpa using h|(have h':=uj h;simp only[uk,td]at h' ⊢; omega)
   clear h;obtain⟨x,hx⟩:=zb J
   repeat' first|refine gG ?_|refine gB ?_ ?_<;>intro h|refine gX ?_|refine gC (yt _) ?_|refine gC (yU x.x) ?_|refine zl ?_|refine gL ?_
   all_goals first
    |(have hp:(vP) x=true:=by clear U hx J hi;simp_all[vP, -List.all_eq_true, -List.all_eq_false]<;>omega
      have hlt':=J
      try simp only[td,qy]at hlt'
      rw[wrap64 ua];refine zh (i+1) ⟨ua,?_⟩ id ua gM
      rw[xV (p:=vP) hx,U,tn];exact hp)
    |(have hp:(vP) x=false:=by clear U hx J hi;simp_all[vP, -List.all_eq_true, -List.all_eq_false]<;>omega
      have hno:=zah (p:=vP) hx hp
      simp only[yr,hno,tJ])
  have hge: ¬i<(d.measures).length:=by first|simpa using h|(have h':=uo h;simp only[uk,td]at h' ⊢; omega)
  have hall:(d.measures).all (vP)=true:=jb (p:=vP) ua U;clear h hge U hi
  repeat' first|refine gG ?_|refine gB ?_ ?_<;>intro h|refine ze ?_
  rw[uk]
  refine zn (λi:Nat=>i<=(d.invs).length/\((d.invs).take i).all (zbO)=true) (λi=>([(1,.one (.bx 1001 0)),(58,.one (.p (.sl 6 (d.invs.map zpJ)))),(59,I d.invs.length),(60,I i)],[(1001,some (.box ((zA d).map V.p)))])) (λi=>(d.invs).length - i) hC
   0 ⟨uE _,ue⟩ id gM ?_
  rintro i ⟨hi,U⟩;refine zm T hC true 200 rfl ?_;refine zp rfl ?_ ?_<;>intro h
  ·have J:i<(d.invs).length:=by first|simpa using h|(have h':=uj h;simp only[uk,td]at h' ⊢; omega)
   clear h;obtain⟨x,hx⟩:=zb J
   repeat' first|refine gG ?_|refine gB ?_ ?_<;>intro h|refine gX ?_|refine gC (yt _) ?_|refine gC (zcQ _) ?_|refine gC (yU x.x) ?_|refine zl ?_|refine gL ?_
   all_goals first
    |(have hp:(zbO) x=true:=by clear U hx J hi;simp_all[zbO, -List.all_eq_true, -List.all_eq_false]<;>omega
      have hlt':=J
      try simp only[td,qy]at hlt'
      rw[wrap64 ua];refine zh (i+1) ⟨ua,?_⟩ id ua gM
      rw[xV (p:=zbO) hx,U,tn];exact hp)
    |(have hp:(zbO) x=false:=by clear U hx J hi;simp_all[zbO, -List.all_eq_true, -List.all_eq_false]<;>omega
      have hno:=zah (p:=zbO) hx hp
      simp only[yr,hno,tJ,qI])
  have hge: ¬i<(d.invs).length:=by first|simpa using h|(have h':=uo h;simp only[uk,td]at h' ⊢; omega)
  have hall:(d.invs).all (zbO)=true:=jb (p:=zbO) ua U;clear h hge U hi;rename_i hall1
  repeat' first|refine gG ?_|refine gB ?_ ?_<;>intro h|refine ze ?_
  rw[uk]
  refine zn (λi:Nat=>i<=(d.pots).length/\((d.pots).take i).all (zbP)=true) (λi=>([(1,.one (.bx 1001 0)),(82,.one (.p (.sl 5 (d.pots.map zhB)))),(83,I d.pots.length),(84,I i)],[(1001,some (.box ((zA d).map V.p)))])) (λi=>(d.pots).length - i) hC
   0 ⟨uE _,ue⟩ id gM ?_
  rintro i ⟨hi,U⟩;refine zm T hC true 200 rfl ?_;refine zp rfl ?_ ?_<;>intro h
  ·have J:i<(d.pots).length:=by first|simpa using h|(have h':=uj h;simp only[uk,td]at h' ⊢; omega)
   clear h;obtain⟨x,hx⟩:=zb J
   repeat' first|refine gG ?_|refine gB ?_ ?_<;>intro h|refine gX ?_|refine gC (zcQ _) ?_|refine gC (yU x.x) ?_|refine zl ?_|refine gL ?_
   all_goals first
    |(have hp:(zbP) x=true:=by clear U hx J hi;simp_all[zbP, -List.all_eq_true, -List.all_eq_false]<;>omega
      have hlt':=J
      try simp only[td,qy]at hlt'
      rw[wrap64 ua];refine zh (i+1) ⟨ua,?_⟩ id ua gM
      rw[xV (p:=zbP) hx,U,tn];exact hp)
    |(have hp:(zbP) x=false:=by clear U hx J hi;simp_all[zbP, -List.all_eq_true, -List.all_eq_false]<;>omega
      have hno:=zah (p:=zbP) hx hp
      simp only[yr,hno,tJ,qI])
  have hge: ¬i<(d.pots).length:=by first|simpa using h|(have h':=uo h;simp only[uk,td]at h' ⊢; omega)
  have hall:(d.pots).all (zbP)=true:=jb (p:=zbP) ua U;clear h hge U hi;rename_i hall2
  repeat' first|refine gG ?_|refine gB ?_ ?_<;>intro h|refine ze ?_|refine gC hA ?_|refine gQ ?_
  simp only[yr,hall,hall1,hall2,tn,Uy]
def zkL(t:z7):zf Tryz.prog 111 [zr (zW t)] [] (.bq (!zag t)) []:=by
 refine gO T Tryz.func111 λC hC=>?_
 repeat' first|refine gG ?_|refine gB ?_ ?_<;>intro h|refine gC (yt _) ?_|refine gC (jd _ _) ?_|refine gQ ?_|refine gL ?_
 all_goals simp_all[zag]
def zkM(p:Pr):zf Tryz.prog 113 [zr (zJ p)] [] (.bq (!zaf p)) []:=by
 refine gO T Tryz.func113 λC hC=>?_
 repeat' first|refine gG ?_|refine gB ?_ ?_<;>intro h|refine gC (zbX p) ?_|refine gQ ?_
 rfl
def wM(d:zg):zf Tryz.prog 67 [zr (zA d)] [] (.bq (yl d)) []:=by
 have J:=zkC 111 d.types (λy=> !zag y) (λy _=>zkL y);rw[vx]at J;have U:=zkD 113 d.procs (λy=> !zaf y) (λy _=>zkM y);rw[vx]at U
 have hv:yl d=(isName d.n&& !decide (12<(d.types.length:Int))&&xh d.globals 8&& !decide (40<(d.procs.length:Int))&&(vy d&&yr d)&&d.types.all zag&&d.procs.all zaf):=by
  simp only[yl,jx,vy];generalize isName d.n=a1;generalize decide (12<(d.types.length:Int))=a2;generalize xh d.globals 8=a3;generalize decide (40<(d.procs.length:Int))=a4;generalize yr d=a5;generalize d.types.all zag=a6;generalize d.procs.all zaf=a7;generalize decide (12<(d.measures.length:Int))=a8;generalize decide (12<(d.invs.length:Int))=a9;generalize decide (12<(d.pots.length:Int))=a10;generalize decide (12<(d.bounds.length:Int))=a11;cases a1<;>cases a3<;>cases a5<;>cases a6<;>cases a7<;>simp[Bool.and_assoc]
 rw[hv];refine gO T Tryz.func67 λC hC=>?_
 repeat' first|refine gG ?_|refine gB ?_ ?_<;>intro h|refine gC (yt _) ?_|refine gC (jd _ _) ?_|refine gC (zcw _) ?_|refine gC J ?_|refine gC U ?_|refine gQ ?_|refine gL ?_
 all_goals (try simp only[uk]at*)
 all_goals clear J U hv
 all_goals try generalize (vy d&&yr d)=q at*
 all_goals (simp_all[-List.all_eq_true, -List.all_eq_false]<;>(intros;omega))
def entsF(k:Nat):List z7->List (Str×PV)
 | []=>[]
 |t::r=>(t.n,ki k)::entsF (k+1) r
def tm(d:zg):List (Str×PV):=entsF 0 d.types
def tyD(d:zg)(s:Str):Int:=if vd d s<0 then 0 else vd d s
def idxOf_cons(p:α->Bool)(x:α)(xs:List α):idxOf p (x::xs)=if p x=true then 0 else if idxOf p xs<0 then -1 else idxOf p xs+1:=by
 simp only[idxOf];by_cases h:p x=true
 ·rw[uw h,uw h]
 ·rw[ur h,ur h];cases e:idxOf p xs with
  |ofNat n=>rw[ur (by first|omega|simp)];rfl
  |negSucc n=>
   rcases wz (p:=p) (l:=xs)with J|⟨i,x,J,_⟩
   ·rw[e]at J;rw[uw (by rw[J];omega)];exact J
   ·rw[e]at J;omega
theorem zaL(s:Str): ∀(l:List z7) (k:Nat),getK (entsF k l) s=if idxOf (λt=>decide (t.n=s)) l<0 then none else some (ki (k+idxOf (λt=>decide (t.n=s)) l))
 | [],k=>rfl
 |t::r,k=>by
  simp only[entsF,getK];by_cases h:t.n=s
  ·have e:idxOf (λt:z7=>decide (t.n=s)) (t::r)=0:=by rw[idxOf_cons,uw (uT h)]
   rw[uw h,e,ur ua,Int.add_zero]
  ·rw[ur h,zaL s r (k+1)];have U: ¬(decide (t.n=s)=true):=by simp[h]
   rcases wz (p:=λt:z7=>decide (t.n=s)) (l:=r)with J|⟨i,x,J,_⟩
   ·have e:idxOf (λt:z7=>decide (t.n=s)) (t::r)= -1:=by rw[idxOf_cons,ur U,J];rfl
    rw[J,e];rfl
   ·have e:idxOf (λt:z7=>decide (t.n=s)) (t::r)=(i:Int)+1:=by rw[idxOf_cons,ur U,J,ur ua]
    rw[J,e,ur ua,ur ua];have:((k+1:Nat):Int)+(i:Int)=(k:Int)+((i:Int)+1):=by omega
    rw[this]
def zkN(d:zg)(s:Str):getK (tm d) s=if vd d s<0 then none else some (ki (vd d s)):=by
 have:=zaL s d.types 0;rw[show((0:Nat):Int)=0 from rfl,Int.zero_add]at this;exact this
def zkO(d:zg)(s:Str):(getK (tm d) s).isSome= !decide (vd d s<0):=by
 rw[zkN];by_cases h:vd d s<0<;>simp[h]
def zkP(d:zg)(s:Str):(getK (tm d) s).getD (.k (.int .i64 0))=ki (tyD d s):=by
 rw[zkN,tyD];by_cases h:vd d s<0<;>simp[h]
theorem zcR(x:z7): ∀(l:List z7) (k:Nat),entsF k (l++[x])=entsF k l++[(x.n,ki (k+l.length))]
 | [],k=>by simp[entsF]
 |t::r,k=>by
  have:((k+1:Nat):Int)+(r.length:Int)=(k:Int)+((r.length+1:Nat):Int):=by omega
  simp only[uL,entsF,zcR x r (k+1),uW,this]
variable {i:Nat}
def yc{l:List α}{x:α}(h:l[i]?=some x):l.take (i+1)=l.take i++[x]:=by
 rw[qc,h];rfl
def zbY(p:α->Bool)(l:List α):decide (idxOf p l<0)= !l.any p:=by
 rcases wz (p:=p) (l:=l)with J|⟨i,x,J,h2,h3,_⟩
 ·rw[J];cases h:l.any p with
  |false=>rfl
  |true=>
   exfalso;rw[List.any_eq_true]at h;obtain⟨x,U,hp⟩:=h
   induction l with
   |nil=>cases U
   |cons y ys ih=>
    rw[idxOf_cons]at J;by_cases hy:p y=true
    ·rw[uw hy]at J;omega
    ·rw[ur hy]at J;rcases uI.1 U with rfl|U
     ·exact hy hp
     ·by_cases hh:idxOf p ys<0
      ·rcases wz (p:=p) (l:=ys)with h4|⟨i,_,h4,_⟩
       ·exact ih h4 U
       ·omega
      ·rw[ur hh]at J;omega
 ·rw[J,zgf h2 h3,uF ua];rfl
def zhN(s:Str):zf Tryz.prog 70 [Sr s] [] (.bq (jS s)) []:=by
 refine gO T Tryz.func70 λC hC=>?_
 repeat' first|refine gG ?_|refine gB ?_ ?_<;>intro h|refine gQ ?_|refine gL ?_
 all_goals simp_all[jS]
def zoa(d:zg)(s:Str):zf Tryz.prog 71 [.one (.mp 0),Sr s] [(0,.map (yP zQ (tm d)))] (.bq (!decide (vd d s<0))) [(0,.map (yP zQ (tm d)))]:=by
 refine gO T Tryz.func71 λC hC=>?_
 repeat' first|refine gG ?_|refine gB ?_ ?_<;>intro h|refine zeY zQ hC (kt:=9) (et:=3) (c0:= .int .i64 0) rfl rfl rfl ud ud ud rfl (zkP d s) (zkO d s) rfl rfl ?_
 exact zi ⟨.inl rfl,id,_,rfl,.qq rfl,⟨rfl,uh⟩,rfl,rfl⟩
def zkQ(d:zg)(f:Fld):zf Tryz.prog 69 [zr (zG f),.one (.bx 1 0)] [(0,.map (yP zQ (tm d))),(1,.box [.mp 0])] (.bq (!known d f)) [(0,.map (yP zQ (tm d))),(1,.box [.mp 0])]:=by
 refine gO T Tryz.func69 λC hC=>?_
 repeat' first|refine gG ?_|refine gB ?_ ?_<;>intro h|refine gC (zhN _) ?_|refine gR (zoa d _) (nm [0]) ?_
 all_goals first
  |exact zi ⟨.inl rfl,id,_,rfl,.qb (by simp_all[known]),⟨rfl,rfl,uh⟩,rfl,rfl⟩
  |exact zi ⟨.inl rfl,id,_,rfl,.qq (by simp_all[known]),⟨rfl,rfl,uh⟩,rfl,rfl⟩
def zjh(f:FuncId)(d:zg)(l:List Fld)(p:Fld->Unit->Bool)(nx:Fld->Unit->Unit)(inv:Unit->Prop)
 (hf: ∀x∈l,∀s:Unit,inv s->zf Tryz.prog f [zr (zG x),.one (.bx 1 0)] [(0,.map (yP zQ (tm d))),(1,.box [.mp 0])] (.bq (p x s)) ((λs:Unit=>[(0,.map (yP zQ (tm d))),(1,.box [.mp 0])]) (nx x s))/\(p x s=false->inv (nx x s))) (s:Unit) (hs:inv s):
 zf Tryz.prog 97 [pS (.sl 2 (l.map zG)),.one (.cl f [] [.bx 1 0])] [(0,.map (yP zQ (tm d))),(1,.box [.mp 0])] (I (idxR p nx l 0 s).1) ((λs:Unit=>[(0,.map (yP zQ (tm d))),(1,.box [.mp 0])]) (idxR p nx l 0 s).2):=by
 refine gO T Tryz.func97 λC hC=>?_;have hs0:=hs;refine wi 0 rfl λhl=>?_;rw[uk]at hl
 repeat' first|refine gG ?_|refine gB ?_ ?_<;>intro h
 rw[uk]
 refine zn (λq:Nat×Unit=>q.1<=l.length/\inv q.2/\idxR p nx (l.drop q.1) q.1 q.2=idxR p nx l 0 s) (λq=>(λs:Unit=>([(0,pS (.sl 2 (l.map zG))),(1,.one (.cl f [] [.bx 1 0])),(7,I l.length),(8,I q.1)],[(0,some (.map (yP zQ (tm d)))),(1,some (.box [.mp 0]))])) q.2) (λq=>l.length - q.1) hC
  (0,s) ⟨uE _,hs,rfl⟩ id gM ?_
 generalize idxR p nx l 0 s=res;clear hs hs0;rintro⟨i,s⟩ ⟨hi,hv,J⟩;simp only at hi hv J;refine zm T hC true 200 rfl ?_;refine zp rfl ?_ ?_<;>intro hh
 ·have hlt:i<l.length:=by simpa using hh
  clear hh;obtain⟨x,hx⟩:=zb hlt;rw[drop_at hx]at J;simp only[idxR]at J;have hv2:=(hf x (uv hx) s hv).2
  repeat' first|refine gG ?_|refine gB ?_ ?_<;>intro h|refine gI T (zq hx) ?_|refine yh hC (hf x (uv hx) s hv).1 id rfl rfl (zI.refl _) rfl rfl rfl rfl rfl rfl rfl rfl ?_|refine zl ?_
  ·rw[uw uf]at J;subst J;exact gE
  ·have U:p x s=false:=by assumption
   rw[U]at J;simp only[uB,uM]at J;rw[wrap64 ua];exact zh (i+1,nx x s) ⟨by simp only;omega,hv2 U,J⟩ id (by simp only;omega) gM
 ·have hge: ¬i<l.length:=by simpa using hh
  rw[uC ua]at J;simp only[idxR]at J;subst J
  repeat' first|refine gG ?_|refine gB ?_ ?_<;>intro h|refine ze ?_
  exact gE
def zji(f:FuncId)(d:zg)(l:List Fld)(p:Fld->Unit->Bool)(nx:Fld->Unit->Unit)(inv:Unit->Prop)
 (hf: ∀x∈l,∀s:Unit,inv s->zf Tryz.prog f [zr (zG x),.one (.bx 1 0)] [(0,.map (yP zQ (tm d))),(1,.box [.mp 0])] (.bq (p x s)) ((λs:Unit=>[(0,.map (yP zQ (tm d))),(1,.box [.mp 0])]) (nx x s))/\(p x s=false->inv (nx x s))) (s:Unit) (J:inv s):
 zf Tryz.prog 59 [pS (.sl 2 (l.map zG)),.one (.cl f [] [.bx 1 0])] [(0,.map (yP zQ (tm d))),(1,.box [.mp 0])] (.bq (anyR p nx l s).1) ((λs:Unit=>[(0,.map (yP zQ (tm d))),(1,.box [.mp 0])]) (anyR p nx l s).2):=by
 refine gO T Tryz.func59 λC hC=>?_
 repeat' first|refine gG ?_|refine gB ?_ ?_<;>intro h|refine gR (zjh f d l p nx inv hf s J) (nm [0,1]) ?_
 exact zi ⟨.inl rfl,id,_,rfl,.qq (za4 p nx l 0 s),by rw[<-za5 p nx l 0 s];exact⟨rfl,rfl,uh⟩,rfl,rfl⟩
def zhO(d:zg)(l:List Fld):zf Tryz.prog 68 [pS (zC l),.one (.bx 1 0)] [(0,.map (yP zQ (tm d))),(1,.box [.mp 0])] (.bq (l.all (known d))) [(0,.map (yP zQ (tm d))),(1,.box [.mp 0])]:=by
 have J:=zji 69 d l (λy _=> !known d y) (λ_ s=>s) (λ_=>True) (λy _ _ _=>⟨zkQ d y,λ_=>trivial⟩) () trivial;rw[zbT,vx]at J;refine gO T Tryz.func68 λC hC=>?_
 repeat' first|refine gG ?_|refine gB ?_ ?_<;>intro h|refine gR J (nm [0,1]) ?_
 exact zi ⟨.inl rfl,id,_,rfl,.qq ue,⟨rfl,rfl,uh⟩,rfl,rfl⟩
def zob(d:zg)(t:z7):zf Tryz.prog 73 [zr (zW t),.one (.bx 2 0)] [(0,.map (yP zQ (tm d))),(1,.box [.mp 0]),(2,.box [.cl 68 [] [.bx 1 0]])] (.bq (!t.f.all (known d)))
 [(0,.map (yP zQ (tm d))),(1,.box [.mp 0]),(2,.box [.cl 68 [] [.bx 1 0]])]:=by
 refine gO T Tryz.func73 λC hC=>?_
 repeat' first|refine gG ?_|refine gB ?_ ?_<;>intro h|refine gR (zhO d t.f) (nm [0,1]) ?_
 exact zi ⟨.inl rfl,id,_,rfl,.qq rfl,⟨rfl,rfl,rfl,uh⟩,rfl,rfl⟩
def zkR(f:FuncId)(d:zg)(l:List z7)(p:z7->Unit->Bool)(nx:z7->Unit->Unit)(inv:Unit->Prop)
 (hf: ∀x∈l,∀s:Unit,inv s->zf Tryz.prog f [zr (zW x),.one (.bx 2 0)] [(0,.map (yP zQ (tm d))),(1,.box [.mp 0]),(2,.box [.cl 68 [] [.bx 1 0]])] (.bq (p x s)) ((λs:Unit=>[(0,.map (yP zQ (tm d))),(1,.box [.mp 0]),(2,.box [.cl 68 [] [.bx 1 0]])]) (nx x s))/\(p x s=false->inv (nx x s))) (s:Unit) (hs:inv s):
 zf Tryz.prog 115 [pS (.sl 2 (l.map zW)),.one (.cl f [] [.bx 2 0])] [(0,.map (yP zQ (tm d))),(1,.box [.mp 0]),(2,.box [.cl 68 [] [.bx 1 0]])] (I (idxR p nx l 0 s).1) ((λs:Unit=>[(0,.map (yP zQ (tm d))),(1,.box [.mp 0]),(2,.box [.cl 68 [] [.bx 1 0]])]) (idxR p nx l 0 s).2):=by
 refine gO T Tryz.func115 λC hC=>?_;have hs0:=hs;refine wi 0 rfl λhl=>?_;rw[uk]at hl
 repeat' first|refine gG ?_|refine gB ?_ ?_<;>intro h
 rw[uk]
 refine zn (λq:Nat×Unit=>q.1<=l.length/\inv q.2/\idxR p nx (l.drop q.1) q.1 q.2=idxR p nx l 0 s) (λq=>(λs:Unit=>([(0,pS (.sl 2 (l.map zW))),(1,.one (.cl f [] [.bx 2 0])),(7,I l.length),(8,I q.1)],[(0,some (.map (yP zQ (tm d)))),(1,some (.box [.mp 0])),(2,some (.box [.cl 68 [] [.bx 1 0]]))])) q.2) (λq=>l.length - q.1) hC
  (0,s) ⟨uE _,hs,rfl⟩ id gM ?_
 generalize idxR p nx l 0 s=res;clear hs hs0;rintro⟨i,s⟩ ⟨hi,hv,J⟩;simp only at hi hv J;refine zm T hC true 200 rfl ?_;refine zp rfl ?_ ?_<;>intro hh
 ·have hlt:i<l.length:=by simpa using hh
  clear hh;obtain⟨x,hx⟩:=zb hlt;rw[drop_at hx]at J;simp only[idxR]at J;have hv2:=(hf x (uv hx) s hv).2
  repeat' first|refine gG ?_|refine gB ?_ ?_<;>intro h|refine gI T (zq hx) ?_|refine yh hC (hf x (uv hx) s hv).1 id rfl rfl (zI.refl _) rfl rfl rfl rfl rfl rfl rfl rfl ?_|refine zl ?_
  ·rw[uw uf]at J;subst J;exact gE
  ·have U:p x s=false:=by assumption
   rw[U]at J;simp only[uB,uM]at J;rw[wrap64 ua];exact zh (i+1,nx x s) ⟨by simp only;omega,hv2 U,J⟩ id (by simp only;omega) gM
 ·have hge: ¬i<l.length:=by simpa using hh
  rw[uC ua]at J;simp only[idxR]at J;subst J
  repeat' first|refine gG ?_|refine gB ?_ ?_<;>intro h|refine ze ?_
  exact gE
def zkS(f:FuncId)(d:zg)(l:List z7)(p:z7->Unit->Bool)(nx:z7->Unit->Unit)(inv:Unit->Prop)
 (hf: ∀x∈l,∀s:Unit,inv s->zf Tryz.prog f [zr (zW x),.one (.bx 2 0)] [(0,.map (yP zQ (tm d))),(1,.box [.mp 0]),(2,.box [.cl 68 [] [.bx 1 0]])] (.bq (p x s)) ((λs:Unit=>[(0,.map (yP zQ (tm d))),(1,.box [.mp 0]),(2,.box [.cl 68 [] [.bx 1 0]])]) (nx x s))/\(p x s=false->inv (nx x s))) (s:Unit) (J:inv s):
 zf Tryz.prog 72 [pS (.sl 2 (l.map zW)),.one (.cl f [] [.bx 2 0])] [(0,.map (yP zQ (tm d))),(1,.box [.mp 0]),(2,.box [.cl 68 [] [.bx 1 0]])] (.bq (anyR p nx l s).1) ((λs:Unit=>[(0,.map (yP zQ (tm d))),(1,.box [.mp 0]),(2,.box [.cl 68 [] [.bx 1 0]])]) (anyR p nx l s).2):=by
 refine gO T Tryz.func72 λC hC=>?_
 repeat' first|refine gG ?_|refine gB ?_ ?_<;>intro h|refine gR (zkR f d l p nx inv hf s J) (nm [0,1,2]) ?_
 exact zi ⟨.inl rfl,id,_,rfl,.qq (za4 p nx l 0 s),by rw[<-za5 p nx l 0 s];exact⟨rfl,rfl,rfl,uh⟩,rfl,rfl⟩
def stepF{α:Type}(bad:α->Bool)(f:α->Int->Int):List α->Int->Int
 | [],n=>n
 |x::r,n=>if 0<=n then(if bad x then -1 else stepF bad f r (f x n))else n
variable {bad:α->Bool}{f:α->Int->Int}
theorem je{l:List α}{n:Int}(h:n<0):stepF bad f l n=n:=by
 cases l with
 |nil=>rfl
 |cons e es=>simp only[stepF];rw[ur ua]
theorem xP{α:Type}{bad:α->Bool}{f:α->Int->Int}(hf: ∀x n,0<=n-> -1<=f x n/\f x n<=n): ∀ {l:List α} {n:Int}, -1<=n-> -1<=stepF bad f l n/\stepF bad f l n<=n
 | [],n,h=>by simp only[stepF];omega
 |x::r,n,h=>by
  simp only[stepF];by_cases J:0<=n
  ·rw[uw J];by_cases U:bad x=true
   ·rw[uw U];omega
   ·rw[ur U];have h1:=hf x n J;have h2:=xP (bad:=bad) hf (l:=r) h1.1;omega
  ·rw[ur J];omega
def long(s:Str):Bool:=decide (100<(s.size:Int))
def zkT(t:z7):Bool:=long t.n||zeJ t.f
def zre(p:Pr):Bool:=long p.n||long p.res||zeJ p.params||zeJ p.locs
def zrf(m:Ms):Bool:=long m.n||long m.t
def zrg(m:Iv):Bool:=long m.n||long m.t
def zrh(m:Pt):Bool:=long m.t
def zri(m:Bd):Bool:=long m.p
def pF(p:Pr)(n:Int):Int:=laS p.body 65 n
def mF(m:Ms)(n:Int):Int:=leftS m.x 65 n
def iF(m:Iv)(n:Int):Int:=leftS m.x 65 n
def oF(m:Pt)(n:Int):Int:=leftS m.x 65 n
def bF(m:Bd)(n:Int):Int:=leftS m.x 65 n
def zxn(x:Pr)(n:Int)(h:0<=n): -1<=pF x n/\pF x n<=n:=zku h
def zxo(x:Ms)(n:Int)(h:0<=n): -1<=mF x n/\mF x n<=n:=xj _ _ _ ua
def zxp(x:Iv)(n:Int)(h:0<=n): -1<=iF x n/\iF x n<=n:=xj _ _ _ ua
def zxq(x:Pt)(n:Int)(h:0<=n): -1<=oF x n/\oF x n<=n:=xj _ _ _ ua
def zxr(x:Bd)(n:Int)(h:0<=n): -1<=bF x n/\bF x n<=n:=xj _ _ _ ua
def st1(d:zg)(n:Int):Int:=stepF zre pF d.procs n
def st2(d:zg)(n:Int):Int:=stepF zrf mF d.measures (st1 d n)
def st3(d:zg)(n:Int):Int:=stepF zrg iF d.invs (st2 d n)
def st4(d:zg)(n:Int):Int:=stepF zrh oF d.pots (st3 d n)
def st5(d:zg)(n:Int):Int:=stepF zri bF d.bounds (st4 d n)
def zdE(d:zg):Bool:=long d.n||decide (60<(d.types.length:Int))||decide (60<(d.procs.length:Int))||decide (60<(d.measures.length:Int))||decide (60<(d.invs.length:Int))||
 decide (60<(d.pots.length:Int))||decide (60<(d.bounds.length:Int))||zeJ d.globals
def zkU(d:zg)(n:Int):Bool:=zdE d|| !(d.types.all λt=> !zkT t)||decide (st5 d n<0)
def zgu(d:zg)(n:Int)(hn1:0<=n)(hn2:n<=1000000):zf Tryz.prog 47 [zr (zA d),I n] [] (.bq (zkU d n)) []:=by
 refine gO T Tryz.func47 λC hC=>?_
 repeat' first|refine gG ?_|refine gB ?_ ?_<;>intro h|refine gC (zgh _) ?_|refine gL ?_
 all_goals (try simp only[uk]at*)
 rotate_right
 ·rename_i h1 h2 h3 h4 h5 h6 h7;have hpre:zdE d=false:=by simp_all[zdE,long]
  have hv:zkU d n=(!(d.types.all λt=> !zkT t)||decide (st5 d n<0)):=by simp only[zkU,hpre,tw]
  rw[hv];have l1: ¬60<(d.types.length:Int):=uo uf;have l2: ¬60<(d.procs.length:Int):=uo uf;have l3: ¬60<(d.measures.length:Int):=uo uf;have l4: ¬60<(d.invs.length:Int):=uo uf;have l5: ¬60<(d.pots.length:Int):=uo uf;have l6: ¬60<(d.bounds.length:Int):=uo uf;clear h h1 h2 h3 h4 h5 h6 h7 hpre hv
  repeat' first|refine gG ?_|refine gB ?_ ?_<;>intro h
  refine zn (λi:Nat=>i<=(d.types).length/\((d.types).take i).all (λt=> !zkT t)=true) (λi=>([(1,I n),(2,.one (.bx 1002 0)),(5,I i)],[(1002,some (.box ((zA d).map V.p)))])) (λi=>(d.types).length - i) hC
   0 ⟨uE _,ue⟩ id gM ?_
  rintro i ⟨hi,hn⟩;refine zm T hC true 200 rfl ?_;refine zp rfl ?_ ?_<;>intro h
  ·have hlt:i<(d.types).length:=by first|simpa using h|(have h':=uj h;simp only[uk,td]at h' ⊢; omega)
   clear h;obtain⟨x,hx⟩:=zb hlt
   repeat' first|refine gG ?_|refine gB ?_ ?_<;>intro h|refine gX ?_|refine gC (zgh _) ?_|refine zl ?_|refine gL ?_
   all_goals first
    |(have hp:(λt=> !zkT t) x=true:=by clear hn hx hlt hi;simp_all[zkT,long, -List.all_eq_true, -List.all_eq_false]<;>omega
      have hlt':=hlt
      try simp only[td,qy]at hlt'
      rw[wrap64 ua];refine zh (i+1) ⟨ua,?_⟩ id ua gM
      rw[xV (p:=λt=> !zkT t) hx,hn,tn];exact hp)
    |(have hp:(λt=> !zkT t) x=false:=by clear hn hx hlt hi;simp_all[zkT,long, -List.all_eq_true, -List.all_eq_false]<;>omega
      have hno:=zah (p:=λt=> !zkT t) hx hp
      rw[hno];rfl)
  have hge: ¬i<(d.types).length:=by first|simpa using h|(have h':=uo h;simp only[uk,td]at h' ⊢; omega)
  have hall:(d.types).all (λt=> !zkT t)=true:=jb (p:=λt=> !zkT t) ua hn;clear h hge hn hi;rw[hall,qm,tw]
  repeat' first|refine gG ?_|refine gB ?_ ?_<;>intro h|refine ze ?_
  have c1: -1<=st1 d n/\st1 d n<=n:=xP zxn ua;have c2: -1<=st2 d n/\st2 d n<=st1 d n:=xP zxo ua;have c3: -1<=st3 d n/\st3 d n<=st2 d n:=xP zxp ua;have c4: -1<=st4 d n/\st4 d n<=st3 d n:=xP zxq ua;have c5: -1<=st5 d n/\st5 d n<=st4 d n:=xP zxr ua;have e1:stepF zre pF d.procs n=st1 d n:=rfl;have e2:stepF zrf mF d.measures (st1 d n)=st2 d n:=rfl;have e3:stepF zrg iF d.invs (st2 d n)=st3 d n:=rfl;have e4:stepF zrh oF d.pots (st3 d n)=st4 d n:=rfl;have e5:stepF zri bF d.bounds (st4 d n)=st5 d n:=rfl;generalize st1 d n=A1 at*;generalize st2 d n=A2 at*;generalize st3 d n=A3 at*;generalize st4 d n=A4 at*;generalize st5 d n=A5 at*;clear hall;refine jT [(1,I A1),(2,.one (.bx 1002 0))] [(1002,some (.box ((zA d).map V.p)))] hC ?_ ?_
  ·refine zn (λp:Nat×Int=>p.1<=(d.procs).length/\ -1<=p.2/\p.2<=1000000/\stepF zre pF ((d.procs).drop p.1) p.2=A1) (λp=>([(1,I p.2),(2,.one (.bx 1002 0)),(6,I p.1)],[(1002,some (.box ((zA d).map V.p)))])) (λp=>(d.procs).length - p.1) hC
    (0,n) ⟨uE _,by simp only;omega,by simp only;omega,e1⟩ id gM ?_
   rintro⟨k,q⟩ ⟨hk,hq1,hq2,J⟩;simp only at hk hq1 hq2 J;refine zm T hC true 1 rfl ?_
   repeat' first|refine gG ?_|refine gB ?_ ?_<;>intro h|refine ze ?_
   ·rename_i hlt0;have hlt2:k<(d.procs).length:=by simpa using hlt0
    have hq0:0<=q:=uj h;clear hlt0 h;obtain⟨x,hx⟩:=zb hlt2;rw[drop_at hx]at J;simp only[stepF,uw hq0]at J;have hb:=zxn x q hq0
    repeat' first|refine gG ?_|refine gB ?_ ?_<;>intro h|refine gX ?_|refine gC (zgh _) ?_|refine vg hC (zi9 (sizeOf x.body+1) x.body 65 q ua ua ua hq0 hq2) rfl rfl (zI.refl _) rfl rfl rfl ?_|refine g_cutUR ?_|refine gL ?_|refine zl ?_
    all_goals first
     |(have U:zre x=true:=by clear J;simp_all[zre,long]
       rw[uw U]at J
       exact(uT ua).symm)
     |(have U:zre x=false:=by clear J;simp_all[zre,long]
       rw[U]at J;simp only[uB,uM]at J;simp only;rw[vi ua]
       exact zh (k+1,pF x q) ⟨by simp only;omega,by simp only;omega,by simp only;omega,J⟩ id (by simp only;omega) gM)
   ·have hqa:q=A1:=by rw[je (qV.1 (uo h))]at J;exact J
    subst hqa;exact y8 id gM
   ·have hge: ¬k<(d.procs).length:=by simpa using h
    have hqa:q=A1:=by rw[uC ua]at J;exact J
    subst hqa;exact y8 id gM
  repeat' first|refine gG ?_|refine gB ?_ ?_<;>intro h
  refine jT [(1,I A2),(2,.one (.bx 1002 0))] [(1002,some (.box ((zA d).map V.p)))] hC ?_ ?_
  ·refine zn (λp:Nat×Int=>p.1<=(d.measures).length/\ -1<=p.2/\p.2<=1000000/\stepF zrf mF ((d.measures).drop p.1) p.2=A2) (λp=>([(1,I p.2),(2,.one (.bx 1002 0)),(8,I p.1)],[(1002,some (.box ((zA d).map V.p)))])) (λp=>(d.measures).length - p.1) hC
    (0,A1) ⟨uE _,by simp only;omega,by simp only;omega,e2⟩ id gM ?_
   rintro⟨k,q⟩ ⟨hk,hq1,hq2,J⟩;simp only at hk hq1 hq2 J;refine zm T hC true 1 rfl ?_
   repeat' first|refine gG ?_|refine gB ?_ ?_<;>intro h|refine ze ?_
   ·rename_i hlt0;have hlt2:k<(d.measures).length:=by simpa using hlt0
    have hq0:0<=q:=uj h;clear hlt0 h;obtain⟨x,hx⟩:=zb hlt2;rw[drop_at hx]at J;simp only[stepF,uw hq0]at J;have hb:=zxo x q hq0
    repeat' first|refine gG ?_|refine gB ?_ ?_<;>intro h|refine gX ?_|refine vg hC (zaj x.x 65 q ua ua hq1 hq2) rfl rfl (zI.refl _) rfl rfl rfl ?_|refine g_cutUR ?_|refine gL ?_|refine zl ?_
    all_goals first
     |(have U:zrf x=true:=by clear J;simp_all[zrf,long]
       rw[uw U]at J
       exact(uT ua).symm)
     |(have U:zrf x=false:=by clear J;simp_all[zrf,long]
       rw[U]at J;simp only[uB,uM]at J;simp only;rw[vi ua]
       exact zh (k+1,mF x q) ⟨by simp only;omega,by simp only;omega,by simp only;omega,J⟩ id (by simp only;omega) gM)
   ·have hqa:q=A2:=by rw[je (qV.1 (uo h))]at J;exact J
    subst hqa;exact y8 id gM
   ·have hge: ¬k<(d.measures).length:=by simpa using h
    have hqa:q=A2:=by rw[uC ua]at J;exact J
    subst hqa;exact y8 id gM
  repeat' first|refine gG ?_|refine gB ?_ ?_<;>intro h
  refine jT [(1,I A3),(2,.one (.bx 1002 0))] [(1002,some (.box ((zA d).map V.p)))] hC ?_ ?_
  ·refine zn (λp:Nat×Int=>p.1<=(d.invs).length/\ -1<=p.2/\p.2<=1000000/\stepF zrg iF ((d.invs).drop p.1) p.2=A3) (λp=>([(1,I p.2),(2,.one (.bx 1002 0)),(9,I p.1)],[(1002,some (.box ((zA d).map V.p)))])) (λp=>(d.invs).length - p.1) hC
    (0,A2) ⟨uE _,by simp only;omega,by simp only;omega,e3⟩ id gM ?_
   rintro⟨k,q⟩ ⟨hk,hq1,hq2,J⟩;simp only at hk hq1 hq2 J;refine zm T hC true 1 rfl ?_
   repeat' first|refine gG ?_|refine gB ?_ ?_<;>intro h|refine ze ?_
   ·rename_i hlt0;have hlt2:k<(d.invs).length:=by simpa using hlt0
    have hq0:0<=q:=uj h;clear hlt0 h;obtain⟨x,hx⟩:=zb hlt2;rw[drop_at hx]at J;simp only[stepF,uw hq0]at J;have hb:=zxp x q hq0
    repeat' first|refine gG ?_|refine gB ?_ ?_<;>intro h|refine gX ?_|refine vg hC (zaj x.x 65 q ua ua hq1 hq2) rfl rfl (zI.refl _) rfl rfl rfl ?_|refine g_cutUR ?_|refine gL ?_|refine zl ?_
    all_goals first
     |(have U:zrg x=true:=by clear J;simp_all[zrg,long]
       rw[uw U]at J
       exact(uT ua).symm)
     |(have U:zrg x=false:=by clear J;simp_all[zrg,long]
       rw[U]at J;simp only[uB,uM]at J;simp only;rw[vi ua]
       exact zh (k+1,iF x q) ⟨by simp only;omega,by simp only;omega,by simp only;omega,J⟩ id (by simp only;omega) gM)
   ·have hqa:q=A3:=by rw[je (qV.1 (uo h))]at J;exact J
    subst hqa;exact y8 id gM
   ·have hge: ¬k<(d.invs).length:=by simpa using h
    have hqa:q=A3:=by rw[uC ua]at J;exact J
    subst hqa;exact y8 id gM
  repeat' first|refine gG ?_|refine gB ?_ ?_<;>intro h
  refine jT [(1,I A4),(2,.one (.bx 1002 0))] [(1002,some (.box ((zA d).map V.p)))] hC ?_ ?_
  ·refine zn (λp:Nat×Int=>p.1<=(d.pots).length/\ -1<=p.2/\p.2<=1000000/\stepF zrh oF ((d.pots).drop p.1) p.2=A4) (λp=>([(1,I p.2),(2,.one (.bx 1002 0)),(10,I p.1)],[(1002,some (.box ((zA d).map V.p)))])) (λp=>(d.pots).length - p.1) hC
    (0,A3) ⟨uE _,by simp only;omega,by simp only;omega,e4⟩ id gM ?_
   rintro⟨k,q⟩ ⟨hk,hq1,hq2,J⟩;simp only at hk hq1 hq2 J;refine zm T hC true 1 rfl ?_
   repeat' first|refine gG ?_|refine gB ?_ ?_<;>intro h|refine ze ?_
   ·rename_i hlt0;have hlt2:k<(d.pots).length:=by simpa using hlt0
    have hq0:0<=q:=uj h;clear hlt0 h;obtain⟨x,hx⟩:=zb hlt2;rw[drop_at hx]at J;simp only[stepF,uw hq0]at J;have hb:=zxq x q hq0
    repeat' first|refine gG ?_|refine gB ?_ ?_<;>intro h|refine gX ?_|refine vg hC (zaj x.x 65 q ua ua hq1 hq2) rfl rfl (zI.refl _) rfl rfl rfl ?_|refine g_cutUR ?_|refine gL ?_|refine zl ?_
    all_goals first
     |(have U:zrh x=true:=by clear J;simp_all[zrh,long]
       rw[uw U]at J
       exact(uT ua).symm)
     |(have U:zrh x=false:=by clear J;simp_all[zrh,long]
       rw[U]at J;simp only[uB,uM]at J;simp only;rw[vi ua]
       exact zh (k+1,oF x q) ⟨by simp only;omega,by simp only;omega,by simp only;omega,J⟩ id (by simp only;omega) gM)
   ·have hqa:q=A4:=by rw[je (qV.1 (uo h))]at J;exact J
    subst hqa;exact y8 id gM
   ·have hge: ¬k<(d.pots).length:=by simpa using h
    have hqa:q=A4:=by rw[uC ua]at J;exact J
    subst hqa;exact y8 id gM
  repeat' first|refine gG ?_|refine gB ?_ ?_<;>intro h
  refine jT [(1,I A5),(2,.one (.bx 1002 0))] [(1002,some (.box ((zA d).map V.p)))] hC ?_ ?_
  ·refine zn (λp:Nat×Int=>p.1<=(d.bounds).length/\ -1<=p.2/\p.2<=1000000/\stepF zri bF ((d.bounds).drop p.1) p.2=A5) (λp=>([(1,I p.2),(2,.one (.bx 1002 0)),(11,I p.1)],[(1002,some (.box ((zA d).map V.p)))])) (λp=>(d.bounds).length - p.1) hC
    (0,A4) ⟨uE _,by simp only;omega,by simp only;omega,e5⟩ id gM ?_
   rintro⟨k,q⟩ ⟨hk,hq1,hq2,J⟩;simp only at hk hq1 hq2 J;refine zm T hC true 1 rfl ?_
   repeat' first|refine gG ?_|refine gB ?_ ?_<;>intro h|refine ze ?_
   ·rename_i hlt0;have hlt2:k<(d.bounds).length:=by simpa using hlt0
    have hq0:0<=q:=uj h;clear hlt0 h;obtain⟨x,hx⟩:=zb hlt2;rw[drop_at hx]at J;simp only[stepF,uw hq0]at J;have hb:=zxr x q hq0
    repeat' first|refine gG ?_|refine gB ?_ ?_<;>intro h|refine gX ?_|refine vg hC (zaj x.x 65 q ua ua hq1 hq2) rfl rfl (zI.refl _) rfl rfl rfl ?_|refine g_cutUR ?_|refine gL ?_|refine zl ?_
    all_goals first
     |(have U:zri x=true:=by clear J;simp_all[zri,long]
       rw[uw U]at J
       exact(uT ua).symm)
     |(have U:zri x=false:=by clear J;simp_all[zri,long]
       rw[U]at J;simp only[uB,uM]at J;simp only;rw[vi ua]
       exact zh (k+1,bF x q) ⟨by simp only;omega,by simp only;omega,by simp only;omega,J⟩ id (by simp only;omega) gM)
   ·have hqa:q=A5:=by rw[je (qV.1 (uo h))]at J;exact J
    subst hqa;exact y8 id gM
   ·have hge: ¬k<(d.bounds).length:=by simpa using h
    have hqa:q=A5:=by rw[uC ua]at J;exact J
    subst hqa;exact y8 id gM
  repeat' first|refine gG ?_|refine gB ?_ ?_<;>intro h
  refine zhA T (.inl rfl) rfl ?_;rfl
 all_goals (simp_all[zkU,zdE,long])
def zkV(d:zg):Bool:=zkU d 2000
def zoc(d:zg):zf Tryz.prog 24 [zr (zA d)] [] (.bq (zkV d)) []:=by
 refine gO T Tryz.func24 λC hC=>?_
 repeat' first|refine gG ?_|refine gB ?_ ?_<;>intro h|refine vg hC (zgu d 2000 ua ua) rfl rfl (zI.refl _) rfl rfl rfl ?_|refine gQ ?_
 rfl
theorem zkW{l:List α}{x:α×Nat}(h:l.zipIdx[i]?=some x):l[i]?=some x.1/\x.2=i:=by
 rw[oA]at h;cases e:l[i]? with
 |none=>rw[e]at h;cases h
 |some y=>rw[e]at h;simp at h;subst h;exact⟨rfl,rfl⟩
def zhP{β:Type}{l:List α}{r:List β}{x:α×β}(h:(l.zip r)[i]?=some x):l[i]?=some x.1/\r[i]?=some x.2:=by
 rw[tl]at h;exact h
def zvT(d:zg)(x:z7×Nat):Bool:=decide (vd d x.1.n=(x.2:Int))&&x.1.f.all (known d)
def yj(d:zg):Bool:=yl d&&d.globals.all (known d)&&d.types.zipIdx.all (zvT d)
def xb(d:zg)(x:Nd):Bool:= !decide (x.t<0)&& !decide ((d.types.length:Int)<=x.t)&&decide ((d.types[x.t.toNat]?).map (λt=>t.f.length)=some x.f.length)
def za7(d:zg)(m:Hp)(p:Fld×Int):Bool:=zcM d m p.1.t p.2
def we(d:zg)(m:Hp)(x:Nd):Bool:=((((d.types[x.t.toNat]?).map (λt=>t.f)).getD []).zip x.f).all (za7 d m)
def zZ(d:zg)(m:Hp):Bool:=yj d&&decide ((m.g.length:Int)=(d.globals.length:Int))&& !decide (4096<(m.n.length:Int))&&m.n.all (xb d)&&(d.globals.zip m.g).all (za7 d m)&&m.n.all (we d m)
variable {d:zg}
def wg{x:Nd}(h:xb d x=true):0<=x.t/\ ∃ty,d.types[x.t.toNat]?=some ty/\ty.f.length=x.f.length:=by
 simp only[xb,um,uy,uu,uq,uR]at h;obtain⟨⟨h1,_⟩,ty,h3,h4⟩:=h;exact⟨ua,ty,h3,h4⟩
def zal{x:z7}(U:d.types[i]?=some x):(d.types.take i).any (λt=>decide (t.n=x.n))=false↔vd d x.n=(i:Int):=by
 constructor
 ·exact λh=>zhR U (uT rfl) h
 ·intro h;rcases wz (p:=λt:z7=>decide (t.n=x.n)) (l:=d.types)with J|⟨j,y,J,_,_,h4⟩
  ·simp only[vd]at h;rw[J]at h;omega
  ·simp only[vd]at h;rw[J]at h;obtain rfl:j=i:=by omega
   exact h4
def zeZ(d:zg):Bool:=d.types.zipIdx.all λx=>decide (vd d x.1.n=(x.2:Int))
theorem zgv(p q:α->Bool)(l:List α):(l.all λx=>p x&&q x)=(l.all p&&l.all q):=by
 induction l with
 |nil=>rfl
 |cons a l ih=>
  simp only[tN,ih];cases p a<;>cases q a<;>cases l.all p<;>cases l.all q<;>rfl
theorem zcS{α:Type}(p:α->Bool): ∀(l:List α) (k:Nat),((l.zipIdx k).all λx=>p x.1)=l.all p
 | [],_=>rfl
 |a::l,k=>by simp only[List.zipIdx_cons,tN,zcS p l (k+1)]
def zbZ(d:zg):yj d=(yl d&&zeZ d&&d.globals.all (known d)&&d.types.all λt=>t.f.all (known d)):=by
 have:d.types.zipIdx.all (zvT d)=(zeZ d&&d.types.all λt=>t.f.all (known d)):=by
  have e:zvT d=λx:z7×Nat=>decide (vd d x.1.n=(x.2:Int))&&x.1.f.all (known d):=rfl
  rw[e,zgv,zcS (λt:z7=>t.f.all (known d))];rfl
 rw[yj,this];cases yl d<;>cases zeZ d<;>cases d.globals.all (known d)<;>cases(d.types.all λt=>t.f.all (known d))<;>rfl
def zod{x:z7}(J:d.types[i]?=some x)(h:(d.types.take i).any (λt=>decide (t.n=x.n))=true):zeZ d=false:=by
 have: ¬vd d x.n=(i:Int):=λe=>by rw[(zal J).2 e]at h;cases h
 refine zah (l:=d.types.zipIdx) (i:=i) (x:=(x,i)) ?_ (uF this);rw[oA,J];simp
def zkX(h: ∀i x,d.types[i]?=some x->(d.types.take i).any (λt=>decide (t.n=x.n))=false):zeZ d=true:=by
 rw[zeZ,List.all_eq_true];rintro⟨x,i⟩ U;obtain⟨j,hj⟩:=tY.1 U;obtain⟨J,h2⟩:=zkW hj;simp only at J h2;subst h2;exact uT ((zal J).1 (h _ _ J))
def jF(s:Str)(l:List z7)(k:Nat):(getK (entsF k l) s).isSome=l.any λt=>decide (t.n=s):=by
 rw[zaL];have:=zbY (λt:z7=>decide (t.n=s)) l;by_cases h:idxOf (λt:z7=>decide (t.n=s)) l<0
 ·rw[uw h];rw[uT h]at this;cases e:(l.any λt=>decide (t.n=s))with
  |false=>rfl
  |true=>rw[e]at this;cases this
 ·rw[ur h];rw[uF h]at this;cases e:(l.any λt=>decide (t.n=s))with
  |true=>rfl
  |false=>rw[e]at this;cases this
def isSome_none{o:Option α}(h:o.isSome=false):o=none:=by cases o with|none=>rfl|some _=>cases h
def zcx(d:zg):S:=if yj d=true then .one (.mp 0)else .one (.p (.k (.map none)))
def znC(d:zg):RL:=if yj d=true then [(0,.map (yP zQ (tm d)))]else []
def zcT(d:zg):zf Tryz.prog 45 [zr (zA d)] [] (zcx d) (znC d):=by
 have no:yj d=false->zcx d= .one (.p (.k (.map none)))/\znC d=[]:=λh=>by simp[zcx,znC,h]
 have yes:yj d=true->zcx d= .one (.mp 0)/\znC d=[(0,.map (yP zQ (tm d)))]:=λh=>by simp[zcx,znC,h]
 have J:=zbZ d;have hB:=zkS 73 d d.types (λy _=> !y.f.all (known d)) (λ_ s=>s) (λ_=>True) (λy _ _ _=>⟨zob d y,λ_=>trivial⟩) () trivial;rw[zbT,vx]at hB;refine gO T Tryz.func45 λC hC=>?_;refine vN rfl 0 1 rfl rfl λhlen=>?_;rw[uk]at hlen
 have fail: ∀ {n sl tab},yj d=false->sg sl 2=some (.one (.p (.k (.map none))))->Goal Tryz.prog C (.fin .ret) [] n sl tab (zdm T [.tmp 2] [] (zcx d) (znC d)):=λh h2=>by
  obtain⟨e1,e2⟩:=no h;rw[e1,e2];exact zi ⟨.inl rfl,id,[.one (.p (.k (.map none)))],by simp only[rvsOf,rvOf,h2],.refl _,trivial,rfl,rfl⟩
 repeat' first|refine gG ?_|refine gB ?_ ?_<;>intro h|refine gC (wM d) ?_|refine ze0 zQ hC rfl rfl rfl ?_
 ·have hv:yl d=false:=by simpa using h
  refine fail (by rw[J,hv];rfl) rfl
 ·have hv:yl d=true:=by simpa using h
  clear h;rw[hv,tn]at J;rw[uk]
  refine zn (λi:Nat=>i<=d.types.length/\ ∀j x,j<i->d.types[j]?=some x->(d.types.take j).any (λt=>decide (t.n=x.n))=false) (λi=>([(1,.one (.bx 1001 0)),(3,.one (.bx 1003 0)),(14,.one (.p (.sl 2 (d.types.map zW)))),(15,I d.types.length),(16,I i)],[(1001,some (.box ((zA d).map V.p))),(1003,some (.box [.mp 1012])),(1012,some (.map (yP zQ (entsF 0 (d.types.take i)))))])) (λi=>d.types.length - i) hC
   0 ⟨uE _,λj x hj=>by omega⟩ id gM ?_
  rintro i ⟨hi,hn⟩;refine zm T hC true 200 rfl ?_;refine zp rfl ?_ ?_<;>intro h
  ·have hlt:i<d.types.length:=by simpa using h
   clear h;obtain⟨x,hx⟩:=zb hlt;have U:(d.types.take i).length=i:=by rw[tj];omega
   repeat' first|refine gG ?_|refine gB ?_ ?_<;>intro h|refine gX ?_|refine zeY zQ hC (kt:=9) (et:=3) (c0:= .int .i64 0) rfl rfl rfl ud ud ud rfl rfl (jF x.n _ _) rfl rfl ?_|refine zl ?_
   ·exact fail (by rw[J,zod hx h];rfl) rfl
   ·have hnone:getK (entsF 0 (d.types.take i)) x.n=none:=isSome_none (by rw[jF];exact h);refine zhS zQ hC (kt:=9) (et:=3) (l':=entsF 0 (d.types.take (i+1))) rfl rfl rfl rfl ud ud ?_ rfl ?_
    ·rw[zdF hnone,yc hx,zcR,U];simp
    ·repeat' first|refine gG ?_|refine gB ?_ ?_<;>intro h
     rw[vi ua];refine zh (i+1) ⟨ua,λj y hj hy=>?_⟩ id ua gM;by_cases hji:j<i
     ·exact hn j y hji hy
     ·obtain rfl:j=i:=by omega
      rw[hx]at hy;simp only[ui]at hy;subst hy;exact h
  ·have hge: ¬i<d.types.length:=by simpa using h
   have hnd:zeZ d=true:=zkX λj x hx=>hn j x (by have:=(ux.1 hx).1;omega) hx
   rw[hnd,tn]at J;rw[uQ ua];have htm:entsF 0 d.types=tm d:=rfl;rw[htm];clear h
   repeat' first|refine gG ?_|refine gB ?_ ?_<;>intro h|refine ze ?_|refine gR (zhO d d.globals) (nm [1012,1003]) ?_|refine gR hB (nm [1012,1003,1008]) ?_
   ·exact fail (by rw[J];simp_all[-List.all_eq_true, -List.all_eq_false]) rfl
   ·exact fail (by rw[J];simp_all[-List.all_eq_true, -List.all_eq_false]) rfl
   ·obtain⟨e1,e2⟩:=yes (by rw[J];simp_all[-List.all_eq_true, -List.all_eq_false]);rw[e1,e2];exact gW [1012]
abbrev ztg(d:zg):RL:=[(0,.map (yP zQ (tm d)))]
def zcU(d:zg)(m:Hp)(t:Str)(v:Int):Bool:=
 if t=(⟨#[105,110,116]⟩:UB)then decide (-1099511627776<=v)&&decide (v<=1099511627776)
 else if t=(⟨#[98,111,111,108]⟩:UB)then decide (v=0)||decide (v=1)
 else decide (v=0)||(decide (0<v)&&decide (v<=m.n.length)&&decide ((m.n[(v - 1).toNat]?).map (·.t)=some (tyD d t)))
variable {m:Hp}
def vAt{v:Int}(hl:m.n.length<=9223372036854775807)(J:decide (0<v)=true)(h2:decide (v<=((m.n.map xL).length:Int))=true):IntKind.i64.wrap (v - 1)=v - 1/\0<=v - 1/\ ∃x,m.n[(v - 1).toNat]?=some x:=by
 have e1:=uj J;have U:=uj h2;rw[uk]at U;exact⟨wrap64 ua,ua,zb ua⟩
def zjj(d:zg)(m:Hp)(t:Str)(v:Int):zf Tryz.prog 117 [.one (.mp 0),zr (yS m),Sr t,I v] (ztg d) (.bq (zcU d m t v)) (ztg d):=by
 refine gO T Tryz.func117 λC hC=>?_;refine vN rfl 1 1 rfl rfl λJ=>?_;rw[uk]at J
 repeat' first|refine zny T hC true 400 rfl rfl ?_|refine zdD rfl (λh=>?_) (λh=>?_)|refine zi2 T hC ud ?_|refine j5 (λh=>?_) (λh=>?_)|refine j6 rfl rfl rfl (λh=>?_) (λh=>?_)|refine j7 rfl rfl (λh=>?_) (λh=>?_)|refine ze1 zQ hC (kt:=9) (et:=3) (c0:= .int .i64 0) rfl rfl rfl ud ud ud rfl (zkP d t) rfl rfl ?_|(obtain⟨hw,U,x,hx⟩:=vAt (m:=m) (v:=v) J uf uf;rw[hw];refine xX T hC rfl rfl rfl U (yV hx) rfl rfl ?_)
 all_goals (try simp only[uk]at*)
 all_goals first
  |exact zi ⟨.inl rfl,id,_,rfl,.qb (by simp_all[zcU]<;>(intros;omega)),⟨rfl,uh⟩,rfl,rfl⟩
  |exact zi ⟨.inl rfl,id,_,rfl,.qq (by simp_all[zcU]<;>(intros;omega)),⟨rfl,uh⟩,rfl,rfl⟩
def zb0(d:zg)(m:Hp)(p:Fld×Int):Bool:=zcU d m p.1.t p.2
def zcy(d:zg)(m:Hp)(l:List Fld)(v:List Int):Bool:=decide ((l.length:Int)=(v.length:Int))&&(l.zip v).all (zb0 d m)
def ze2(d:zg)(m:Hp)(l:List Fld)(v:List Int):zf Tryz.prog 76 [.one (.mp 0),zr (yS m),pS (zC l),pS (yZ v)] (ztg d) (.bq (zcy d m l v)) (ztg d):=by
 refine gO T Tryz.func76 λC hC=>?_;refine wi 2 rfl λU=>?_;rw[uk]at U
 repeat' first|refine gG ?_|refine gB ?_ ?_<;>intro h
 all_goals (try simp only[uk]at*)
 ·have:zcy d m l v=false:=by simp only[zcy];rw[qS];left;simpa using h
  rw[this];exact zi ⟨.inl rfl,id,_,rfl,.qb rfl,⟨rfl,uh⟩,rfl,rfl⟩
 ·have hlv:(l.length:Int)=(v.length:Int):=by simpa using h
  have hv:zcy d m l v=(l.zip v).all (zb0 d m):=by simp only[zcy,uT hlv,tn]
  rw[hv];clear h hv
  refine zn (λi:Nat=>i<=(l.zip v).length/\((l.zip v).take i).all (zb0 d m)=true) (λi=>([(0,.one (.mp 0)),(3,pS (yZ v)),(5,.one (.bx 1005 0)),(16,pS (zC l)),(17,I l.length),(18,I i)],[(0,some (.map (yP zQ (tm d)))),(1005,some (.box ((yS m).map V.p)))])) (λi=>(l.zip v).length - i) hC
   0 ⟨uE _,ue⟩ id gM ?_
  rintro i ⟨hi,hn⟩;refine zm T hC true 200 rfl ?_;refine zp rfl ?_ ?_<;>intro h
  ·have J:i<(l.zip v).length:=by first|simpa using h|(have h':=uj h;simp only[uk,td]at h' ⊢; omega)
   clear h;obtain⟨x,hx⟩:=zb J;obtain⟨hx1,hx2⟩:=zhP hx
   repeat' first|refine gG ?_|refine gB ?_ ?_<;>intro h|refine gX ?_|refine gR (zjj d m _ _) (nm [0]) ?_|refine zl ?_
   all_goals first
    |(have hp:(zb0 d m) x=true:=by clear hn hx J hi;simp_all[zb0, -List.all_eq_true, -List.all_eq_false]<;>omega
      have hlt':=J
      try simp only[td,qy]at hlt'
      rw[wrap64 ua];refine zh (i+1) ⟨ua,?_⟩ id ua gM
      rw[xV (p:=zb0 d m) hx,hn,tn];exact hp)
    |(have hp:(zb0 d m) x=false:=by clear hn hx J hi;simp_all[zb0, -List.all_eq_true, -List.all_eq_false]<;>omega
      have hno:=zah (p:=zb0 d m) hx hp
      (rw[hno];exact zi ⟨.inl rfl,id,_,rfl,.qb rfl,⟨rfl,uh⟩,rfl,rfl⟩))
  have hge: ¬i<(l.zip v).length:=by first|simpa using h|(have h':=uo h;simp only[uk,td]at h' ⊢; omega)
  have hall:(l.zip v).all (zb0 d m)=true:=jb (p:=zb0 d m) ua hn;clear h hge hn hi;rw[hall]
  repeat' first|refine gG ?_|refine gB ?_ ?_<;>intro h|refine ze ?_
  exact zi ⟨.inl rfl,id,_,rfl,.qb rfl,⟨rfl,uh⟩,rfl,rfl⟩
def zam(d:zg)(x:Nd):Bool:=decide (x.t<0)||decide ((d.types.length:Int)<=x.t)
def zgw(d:zg)(x:Nd):zf Tryz.prog 75 [zr (xL x),.one (.bx 0 0)] [(0,.box ((zA d).map V.p))] (.bq (zam d x)) [(0,.box ((zA d).map V.p))]:=by
 refine gO T Tryz.func75 λC hC=>?_
 repeat' first|refine gG ?_|refine gB ?_ ?_<;>intro h
 all_goals (try simp only[uk]at*)
 all_goals first
  |exact zi ⟨.inl rfl,id,_,rfl,.qb (by simp_all[zam]<;>(intros;omega)),⟨rfl,uh⟩,rfl,rfl⟩
  |exact zi ⟨.inl rfl,id,_,rfl,.qq (by simp_all[zam]<;>(intros;omega)),⟨rfl,uh⟩,rfl,rfl⟩
def zkY(f:FuncId)(d:zg)(l:List Nd)(p:Nd->Unit->Bool)(nx:Nd->Unit->Unit)(inv:Unit->Prop)
 (hf: ∀x∈l,∀s:Unit,inv s->zf Tryz.prog f [zr (xL x),.one (.bx 0 0)] [(0,.box ((zA d).map V.p))] (.bq (p x s)) ((λs:Unit=>[(0,.box ((zA d).map V.p))]) (nx x s))/\(p x s=false->inv (nx x s))) (s:Unit) (hs:inv s):
 zf Tryz.prog 116 [pS (.sl 2 (l.map xL)),.one (.cl f [] [.bx 0 0])] [(0,.box ((zA d).map V.p))] (I (idxR p nx l 0 s).1) ((λs:Unit=>[(0,.box ((zA d).map V.p))]) (idxR p nx l 0 s).2):=by
 refine gO T Tryz.func116 λC hC=>?_;have hs0:=hs;refine wi 0 rfl λhl=>?_;rw[uk]at hl
 repeat' first|refine gG ?_|refine gB ?_ ?_<;>intro h
 rw[uk]
 refine zn (λq:Nat×Unit=>q.1<=l.length/\inv q.2/\idxR p nx (l.drop q.1) q.1 q.2=idxR p nx l 0 s) (λq=>(λs:Unit=>([(0,pS (.sl 2 (l.map xL))),(1,.one (.cl f [] [.bx 0 0])),(7,I l.length),(8,I q.1)],[(0,some (.box ((zA d).map V.p)))])) q.2) (λq=>l.length - q.1) hC
  (0,s) ⟨uE _,hs,rfl⟩ id gM ?_
 generalize idxR p nx l 0 s=res;clear hs hs0;rintro⟨i,s⟩ ⟨hi,hv,J⟩;simp only at hi hv J;refine zm T hC true 200 rfl ?_;refine zp rfl ?_ ?_<;>intro hh
 ·have hlt:i<l.length:=by simpa using hh
  clear hh;obtain⟨x,hx⟩:=zb hlt;rw[drop_at hx]at J;simp only[idxR]at J;have hv2:=(hf x (uv hx) s hv).2
  repeat' first|refine gG ?_|refine gB ?_ ?_<;>intro h|refine gI T (zq hx) ?_|refine yh hC (hf x (uv hx) s hv).1 id rfl rfl (zI.refl _) rfl rfl rfl rfl rfl rfl rfl rfl ?_|refine zl ?_
  ·rw[uw uf]at J;subst J;exact gE
  ·have U:p x s=false:=by assumption
   rw[U]at J;simp only[uB,uM]at J;rw[wrap64 ua];exact zh (i+1,nx x s) ⟨by simp only;omega,hv2 U,J⟩ id (by simp only;omega) gM
 ·have hge: ¬i<l.length:=by simpa using hh
  rw[uC ua]at J;simp only[idxR]at J;subst J
  repeat' first|refine gG ?_|refine gB ?_ ?_<;>intro h|refine ze ?_
  exact gE
def zkZ(f:FuncId)(d:zg)(l:List Nd)(p:Nd->Unit->Bool)(nx:Nd->Unit->Unit)(inv:Unit->Prop)
 (hf: ∀x∈l,∀s:Unit,inv s->zf Tryz.prog f [zr (xL x),.one (.bx 0 0)] [(0,.box ((zA d).map V.p))] (.bq (p x s)) ((λs:Unit=>[(0,.box ((zA d).map V.p))]) (nx x s))/\(p x s=false->inv (nx x s))) (s:Unit) (J:inv s):
 zf Tryz.prog 74 [pS (.sl 2 (l.map xL)),.one (.cl f [] [.bx 0 0])] [(0,.box ((zA d).map V.p))] (.bq (anyR p nx l s).1) ((λs:Unit=>[(0,.box ((zA d).map V.p))]) (anyR p nx l s).2):=by
 refine gO T Tryz.func74 λC hC=>?_
 repeat' first|refine gG ?_|refine gB ?_ ?_<;>intro h|refine gR (zkY f d l p nx inv hf s J) (nm [0]) ?_
 exact zi ⟨.inl rfl,id,_,rfl,.qq (za4 p nx l 0 s),by rw[<-za5 p nx l 0 s];exact⟨rfl,uh⟩,rfl,rfl⟩
def wC(d:zg)(m:Hp)(x:Nd):Bool:=zcy d m (((d.types[x.t.toNat]?).map (λt=>t.f)).getD []) x.f
def zgx(d:zg)(m:Hp)(x:Nd)(U:zam d x=false):zf Tryz.prog 77 [zr (xL x),.one (.bx 1 0),.one (.bx 2 0),.one (.bx 3 0)] [(0,.map (yP zQ (tm d))),(1,.box [.mp 0]),(2,.box ((yS m).map V.p)),(3,.box ((zA d).map V.p))] (.bq (!wC d m x))
 [(0,.map (yP zQ (tm d))),(1,.box [.mp 0]),(2,.box ((yS m).map V.p)),(3,.box ((zA d).map V.p))]:=by
 simp only[zam,u0,uu]at U;obtain⟨ty,J⟩:=zb (l:=d.types) (i:=x.t.toNat) ua;have hv:wC d m x=zcy d m ty.f x.f:=by simp[wC,J]
 rw[hv];refine gO T Tryz.func77 λC hC=>?_
 repeat' first|refine gG ?_|refine gB ?_ ?_<;>intro h|refine xX T hC rfl rfl rfl (Int.not_lt.1 U.1) (yV J) rfl rfl ?_|refine gR (ze2 d m ty.f x.f) (nm [0]) ?_
 exact zi ⟨.inl rfl,id,_,rfl,.qq rfl,⟨rfl,rfl,rfl,rfl,uh⟩,rfl,rfl⟩
def zk0(f:FuncId)(d:zg)(m:Hp)(l:List Nd)(p:Nd->Unit->Bool)(nx:Nd->Unit->Unit)(inv:Unit->Prop)
 (hf: ∀x∈l,∀s:Unit,inv s->zf Tryz.prog f [zr (xL x),.one (.bx 1 0),.one (.bx 2 0),.one (.bx 3 0)] [(0,.map (yP zQ (tm d))),(1,.box [.mp 0]),(2,.box ((yS m).map V.p)),(3,.box ((zA d).map V.p))] (.bq (p x s)) ((λs:Unit=>[(0,.map (yP zQ (tm d))),(1,.box [.mp 0]),(2,.box ((yS m).map V.p)),(3,.box ((zA d).map V.p))]) (nx x s))/\(p x s=false->inv (nx x s))) (s:Unit) (hs:inv s):
 zf Tryz.prog 116 [pS (.sl 2 (l.map xL)),.one (.cl f [] [.bx 1 0,.bx 2 0,.bx 3 0])] [(0,.map (yP zQ (tm d))),(1,.box [.mp 0]),(2,.box ((yS m).map V.p)),(3,.box ((zA d).map V.p))] (I (idxR p nx l 0 s).1) ((λs:Unit=>[(0,.map (yP zQ (tm d))),(1,.box [.mp 0]),(2,.box ((yS m).map V.p)),(3,.box ((zA d).map V.p))]) (idxR p nx l 0 s).2):=by
 refine gO T Tryz.func116 λC hC=>?_;have hs0:=hs;refine wi 0 rfl λhl=>?_;rw[uk]at hl
 repeat' first|refine gG ?_|refine gB ?_ ?_<;>intro h
 rw[uk]
 refine zn (λq:Nat×Unit=>q.1<=l.length/\inv q.2/\idxR p nx (l.drop q.1) q.1 q.2=idxR p nx l 0 s) (λq=>(λs:Unit=>([(0,pS (.sl 2 (l.map xL))),(1,.one (.cl f [] [.bx 1 0,.bx 2 0,.bx 3 0])),(7,I l.length),(8,I q.1)],[(0,some (.map (yP zQ (tm d)))),(1,some (.box [.mp 0])),(2,some (.box ((yS m).map V.p))),(3,some (.box ((zA d).map V.p)))])) q.2) (λq=>l.length - q.1) hC
  (0,s) ⟨uE _,hs,rfl⟩ id gM ?_
 generalize idxR p nx l 0 s=res;clear hs hs0;rintro⟨i,s⟩ ⟨hi,hv,J⟩;simp only at hi hv J;refine zm T hC true 200 rfl ?_;refine zp rfl ?_ ?_<;>intro hh
 ·have hlt:i<l.length:=by simpa using hh
  clear hh;obtain⟨x,hx⟩:=zb hlt;rw[drop_at hx]at J;simp only[idxR]at J;have hv2:=(hf x (uv hx) s hv).2
  repeat' first|refine gG ?_|refine gB ?_ ?_<;>intro h|refine gI T (zq hx) ?_|refine yh hC (hf x (uv hx) s hv).1 id rfl rfl (zI.refl _) rfl rfl rfl rfl rfl rfl rfl rfl ?_|refine zl ?_
  ·rw[uw uf]at J;subst J;exact gE
  ·have U:p x s=false:=by assumption
   rw[U]at J;simp only[uB,uM]at J;rw[wrap64 ua];exact zh (i+1,nx x s) ⟨by simp only;omega,hv2 U,J⟩ id (by simp only;omega) gM
 ·have hge: ¬i<l.length:=by simpa using hh
  rw[uC ua]at J;simp only[idxR]at J;subst J
  repeat' first|refine gG ?_|refine gB ?_ ?_<;>intro h|refine ze ?_
  exact gE
def zk1(f:FuncId)(d:zg)(m:Hp)(l:List Nd)(p:Nd->Unit->Bool)(nx:Nd->Unit->Unit)(inv:Unit->Prop)
 (hf: ∀x∈l,∀s:Unit,inv s->zf Tryz.prog f [zr (xL x),.one (.bx 1 0),.one (.bx 2 0),.one (.bx 3 0)] [(0,.map (yP zQ (tm d))),(1,.box [.mp 0]),(2,.box ((yS m).map V.p)),(3,.box ((zA d).map V.p))] (.bq (p x s)) ((λs:Unit=>[(0,.map (yP zQ (tm d))),(1,.box [.mp 0]),(2,.box ((yS m).map V.p)),(3,.box ((zA d).map V.p))]) (nx x s))/\(p x s=false->inv (nx x s))) (s:Unit) (J:inv s):
 zf Tryz.prog 74 [pS (.sl 2 (l.map xL)),.one (.cl f [] [.bx 1 0,.bx 2 0,.bx 3 0])] [(0,.map (yP zQ (tm d))),(1,.box [.mp 0]),(2,.box ((yS m).map V.p)),(3,.box ((zA d).map V.p))] (.bq (anyR p nx l s).1) ((λs:Unit=>[(0,.map (yP zQ (tm d))),(1,.box [.mp 0]),(2,.box ((yS m).map V.p)),(3,.box ((zA d).map V.p))]) (anyR p nx l s).2):=by
 refine gO T Tryz.func74 λC hC=>?_
 repeat' first|refine gG ?_|refine gB ?_ ?_<;>intro h|refine gR (zk0 f d m l p nx inv hf s J) (nm [0,1,2,3]) ?_
 exact zi ⟨.inl rfl,id,_,rfl,.qq (za4 p nx l 0 s),by rw[<-za5 p nx l 0 s];exact⟨rfl,rfl,rfl,rfl,uh⟩,rfl,rfl⟩
def zb1(d:zg)(m:Hp):Bool:= !decide (4096<(m.n.length:Int))&& !m.n.any (zam d)&&zcy d m d.globals m.g&&m.n.all (wC d m)
def zk2(d:zg)(m:Hp):zf Tryz.prog 46 [.one (.mp 0),zr (zA d),zr (yS m)] (ztg d) (.bq (zb1 d m)) (ztg d):=by
 have J:=zkZ 75 d m.n (λy _=>zam d y) (λ_ s=>s) (λ_=>True) (λy _ _ _=>⟨zgw d y,λ_=>trivial⟩) () trivial;rw[zbT]at J;have U:=λ(ho:m.n.any (zam d)=false)=>zk1 77 d m m.n (λy _=> !wC d m y) (λ_ s=>s) (λ_=>True) (λy hy _ _=>⟨zgx d m y (by rw[List.any_eq_false]at ho;simpa using ho y hy),λ_=>trivial⟩) () trivial
 rw[zbT,vx]at U;refine gO T Tryz.func46 λC hC=>?_
 repeat' first|refine gG ?_|refine gB ?_ ?_<;>intro h|refine zhT hC (kt:=9) (et:=3) rfl rfl ud rfl rfl ?_|refine gR J (nm [1004]) ?_|refine gR (ze2 d m _ _) (nm [0]) ?_|refine yh hC (U uf) (nm [0,1003,1005,1004]) rfl rfl (zI.refl _) rfl rfl rfl rfl rfl rfl rfl rfl ?_
 all_goals (try simp only[uk]at*)
 all_goals clear J U
 all_goals first
  |exact zi ⟨.inl rfl,id,_,rfl,.qb (by simp_all[zb1, -List.all_eq_true, -List.all_eq_false, -List.any_eq_true, -List.any_eq_false]),⟨rfl,uh⟩,rfl,rfl⟩
  |exact zi ⟨.inl rfl,id,_,rfl,.qq (by simp_all[zb1, -List.all_eq_true, -List.all_eq_false, -List.any_eq_true, -List.any_eq_false]),⟨rfl,uh⟩,rfl,rfl⟩
def zk3(d:zg)(m:Hp):zf Tryz.prog 46 [.one (.p (.k (.map none))),zr (zA d),zr (yS m)] [] (.bq false) []:=by
 refine gO T Tryz.func46 λC hC=>?_
 repeat' first|refine gG ?_|refine gB ?_ ?_<;>intro h|refine ze3 hC (kt:=9) (et:=3) rfl ud rfl rfl ?_
 exact zi ⟨.inl rfl,id,_,rfl,.qb rfl,trivial,rfl,rfl⟩
def zoe{t:Str}{v:Int}(h:(jS t|| !decide (vd d t<0))=true):zcU d m t v=zcM d m t v:=by
 simp only[zcU,zcM];by_cases J:t=(⟨#[105,110,116]⟩:UB)
 ·rw[uw J,uw J]
 ·rw[ur J,ur J];by_cases h2:t=(⟨#[98,111,111,108]⟩:UB)
  ·rw[uw h2,uw h2]
  ·rw[ur h2,ur h2]
   have: ¬vd d t<0:=by
    intro h3;rw[uT h3]at h;simp[jS,J,h2]at h
   have e:tyD d t=vd d t:=by rw[tyD,ur this]
   rw[e];by_cases U:0<v
   ·rw[uT U,uT (show(1:Int)<=v by omega)]
   ·rw[uF U,uF (show ¬(1:Int)<=v by omega)]
theorem all_congr{p q:α->Bool}{l:List α}(h: ∀x∈l,p x=q x):l.all p=l.all q:=by
 induction l with
 |nil=>rfl
 |cons a l ih=>simp only[tN,h a ue,ih λx J=>h x (by simp[J])]
theorem za8{α β:Type}{x:α×β}: ∀ {l:List α} {r:List β},x∈l.zip r->x.1∈l
 | [],_,h=>by simp at h
 |_::_,[],h=>by simp at h
 |a::l,b::r,h=>by
  simp only[List.zip_cons_cons,uI]at h⊢;rcases h with rfl|h
  ·exact .inl rfl
  ·exact .inr (za8 h)
def zk4{l:List Fld}{v:List Int}(h:l.all (known d)=true):zcy d m l v=(decide ((l.length:Int)=(v.length:Int))&&(l.zip v).all (za7 d m)):=by
 simp only[zcy]
 congr 1
 refine all_congr λx J=>?_;exact zoe (List.all_eq_true.1 h _ (za8 J))
theorem zof(p:α->Bool)(l:List α):(!l.any p)=l.all λx=> !p x:=by
 induction l with
 |nil=>rfl
 |cons a l ih=>simp only[qn,tN,Bool.not_or,ih]
def jG(h:yj d=true):yl d=true/\zeZ d=true/\d.globals.all (known d)=true/\ ∀t∈d.types,t.f.all (known d)=true:=by
 rw[zbZ]at h;simp only[um]at h;exact⟨h.1.1.1,h.1.1.2,h.1.2,λt J=>List.all_eq_true.1 h.2 t J⟩
def zk5(h:yj d=true):zb1 d m=zZ d m:=by
 obtain⟨_,_,hg,ht⟩:=jG h
 have e1:(!m.n.any (zam d)&&m.n.all (wC d m))=(m.n.all (xb d)&&m.n.all (we d m)):=by
  rw[zof,<-zgv,<-zgv];refine all_congr λx _=>?_;by_cases U:zam d x=true
  ·have:xb d x=false:=by
    simp only[zam,uO]at U;simp only[xb];rcases U with U|U<;>rw[U]<;>simp
   rw[U,this];rfl
  ·have ho':zam d x=false:=by simpa using U
   have hh:=ho';simp only[zam,u0,uu]at hh;obtain⟨ty,J⟩:=zb (l:=d.types) (i:=x.t.toNat) ua;have hk:=ht ty (uv J)
   have e2:wC d m x=(decide ((ty.f.length:Int)=(x.f.length:Int))&&(ty.f.zip x.f).all (za7 d m)):=by
    simp only[wC,J,uH,Option.getD_some];exact zk4 hk
   have e3:xb d x=decide ((ty.f.length:Int)=(x.f.length:Int)):=by
    simp only[xb,J,uH,ui];rw[uF hh.1,uF hh.2];simp only[qA,tn];exact qZ.2 ua
   have e4:we d m x=(ty.f.zip x.f).all (za7 d m):=by simp[we,J]
   rw[ho',e2,e3,e4];rfl
 have e2:decide ((d.globals.length:Int)=(m.g.length:Int))=decide ((m.g.length:Int)=(d.globals.length:Int)):=qZ.2 ua;simp only[zb1,zZ,h,zk4 hg,e2,tn];clear e2;generalize decide (4096<(m.n.length:Int))=a at*;generalize (d.globals.zip m.g).all (za7 d m)=b at*;generalize decide ((m.g.length:Int)=(d.globals.length:Int))=c at*
 revert e1
 generalize (!m.n.any (zam d))=e;generalize m.n.all (wC d m)=f;generalize m.n.all (xb d)=g;generalize m.n.all (we d m)=i
 revert a b c e f g i;decide
theorem yW(d:zg)(m:Hp):zf Tryz.prog 23 [zr (zA d),zr (yS m)] [] (.bq (zZ d m)) []:=by
 have hT:=zcT d;cases h:yj d with
 |true=>
  simp only[zcx,znC,h,uX]at hT;rw[<-zk5 h];refine gO T Tryz.func23 λC hC=>?_
  repeat' first|refine gG ?_|refine gB ?_ ?_<;>intro h|(refine gR hT (nm [1006]) ?_)|refine gR (zk2 d m) (nm [1006]) ?_
  exact zi ⟨.inl rfl,id,_,rfl,.qq rfl,trivial,rfl,rfl⟩
 |false=>
  simp only[zcx,znC,h,uB,uM]at hT;have e:zZ d m=false:=by simp[zZ,h]
  rw[e];refine gO T Tryz.func23 λC hC=>?_
  repeat' first|refine gG ?_|refine gB ?_ ?_<;>intro h|refine gC hT ?_|refine gC (zk3 d m) ?_
  exact zi ⟨.inl rfl,id,_,rfl,.qq rfl,trivial,rfl,rfl⟩
def zhU(d:zg):S:=if yj d=true then .tup [zr (yS (zn0 d)),I 0]else .tup [zr (yS ⟨[],[]⟩),I 1]
theorem zjk(d:zg):zf Tryz.prog 22 [zr (zA d)] [] (zhU d) []:=by
 have hT:=zcT d;cases h:yj d with
 |true=>
  simp only[zcx,znC,h,uX]at hT;simp only[zhU,h,uX]
  have hlen:d.globals.length<=8:=by
   have:=(jG h).1;simp only[yl,jx,xh,um,uq]at this;have:=this.1.1.1.1.1.1.1.1.2.1;omega
  refine gO T Tryz.func22 λC hC=>?_
  repeat' first|refine gG ?_|refine gB ?_ ?_<;>intro h|(refine gR hT (nm [1005]) ?_)|refine zhT hC (kt:=9) (et:=3) rfl rfl ud rfl rfl ?_
  rw[uk];refine zrj T hC (bytes:=8) d.globals.length rfl rfl rfl rfl rfl rfl ud rfl ua rfl rfl ?_;refine zwu 11 rfl (s':=pS (yZ (List.replicate d.globals.length 0))) (u5 (λr=>S.one (.p (.sl 1 r))) (newRow _)) ?_
  repeat' first|refine gG ?_|refine gB ?_ ?_<;>intro h
  exact zi ⟨.inl rfl,id,_,rfl,LeS.tup (.cons (LeS.agg (.cons (.refl _) (.cons (.nil 2) .nil))) (.cons (.refl _) .nil)),trivial,rfl,rfl⟩
 |false=>
  simp only[zcx,znC,h,uB,uM]at hT;simp only[zhU,h,uB,uM];refine gO T Tryz.func22 λC hC=>?_
  repeat' first|refine gG ?_|refine gB ?_ ?_<;>intro h|refine gC hT ?_|refine ze3 hC (kt:=9) (et:=3) rfl ud rfl rfl ?_
  exact zi ⟨.inl rfl,id,_,rfl,LeS.tup (.cons (LeS.agg (.cons (.nil 1) (.cons (.nil 2) .nil))) (.cons (.refl _) .nil)),trivial,rfl,rfl⟩
structure SS where
 order:List Int
 again:Int
def zdG(d:zg)(t:Int):List Fld:=((d.types[t.toNat]?).map (λt=>t.f)).getD []
def pairsOf(d:zg)(m:Hp)(n:Int):List (Fld×Int):=match m.n[(n - 1).toNat]? with
 |some x=>(zdG d x.t).zip x.f
 |none=>[]
def isRef(p:Fld×Int):Bool:= !jS p.1.t&& !decide (p.2=0)
def enterS:Nat->zg->Hp->Int->SS->SS
 |0,_,_,_,s=>s
 |k+1,d,m,n,s=>if(s.order.any λx=>decide (x=n))=true then⟨s.order,if s.again=0 then n else s.again⟩
  else(pairsOf d m n).foldl (λs p=>if isRef p=true then enterS k d m p.2 s else s) ⟨s.order++[n],s.again⟩
def zcz(k:Nat)(d:zg)(m:Hp)(ps:List (Fld×Int))(s:SS):SS:=ps.foldl (λs p=>if isRef p=true then enterS k d m p.2 s else s) s
def zaM(k:Nat)(d:zg)(m:Hp)(p:Fld×Int)(ps:List (Fld×Int))(s:SS):zcz k d m (p::ps) s=zcz k d m ps (if isRef p=true then enterS k d m p.2 s else s):=rfl
def zcV{k:Nat}{n:Int}{s:SS}(h:(s.order.any λx=>decide (x=n))=false):enterS (k+1) d m n s=zcz k d m (pairsOf d m n) ⟨s.order++[n],s.again⟩:=by
 simp only[enterS,h,uB,uM];rfl
def zaN{k:Nat}{n:Int}{s:SS}(h:(s.order.any λx=>decide (x=n))=true):enterS (k+1) d m n s=⟨s.order,if s.again=0 then n else s.again⟩:=by
 simp only[enterS,h,uX]
def entsI:Int->List Int->List (Int×PV)
 |_,[]=>[]
 |k,v::r=>(v,ki k)::entsI (k+1) r
def ztX(l:List Int)(v:Int):Int:=idxOf (λx=>decide (x=v)) l+1
theorem zaO(v:Int): ∀(l:List Int) (k:Int),getK (entsI k l) v=if idxOf (λx=>decide (x=v)) l<0 then none else some (ki (k+idxOf (λx=>decide (x=v)) l))
 | [],k=>rfl
 |a::r,k=>by
  simp only[entsI,getK];by_cases h:a=v
  ·have e:idxOf (λx:Int=>decide (x=v)) (a::r)=0:=by rw[idxOf_cons,uw (uT h)]
   rw[uw h,e,ur ua,Int.add_zero]
  ·rw[ur h,zaO v r (k+1)];have U: ¬(decide (a=v)=true):=by simp[h]
   rcases wz (p:=λx:Int=>decide (x=v)) (l:=r)with J|⟨i,x,J,_⟩
   ·have e:idxOf (λx:Int=>decide (x=v)) (a::r)= -1:=by rw[idxOf_cons,ur U,J];rfl
    rw[J,e];rfl
   ·have e:idxOf (λx:Int=>decide (x=v)) (a::r)=(i:Int)+1:=by rw[idxOf_cons,ur U,J,ur ua]
    rw[J,e,ur ua,ur ua];have:k+1+(i:Int)=k+((i:Int)+1):=by omega
    rw[this]
def zog(l:List Int)(v:Int):(getK (entsI 1 l) v).getD (.k (.int .i64 0))=ki (ztX l v):=by
 rw[zaO,ztX];rcases wz (p:=λx:Int=>decide (x=v)) (l:=l)with J|⟨i,x,J,_⟩
 ·rw[J];rfl
 ·rw[J,ur ua];simp only[Option.getD_some];rw[Int.add_comm]
def zoh(l:List Int)(v:Int):(!decide (ztX l v=0))=l.any λx=>decide (x=v):=by
 have h:=zbY (λx:Int=>decide (x=v)) l
 have e:decide (ztX l v=0)=decide (idxOf (λx=>decide (x=v)) l<0):=by
  rw[ztX];rcases wz (p:=λx:Int=>decide (x=v)) (l:=l)with J|⟨i,x,J,_⟩
  ·rw[J];rfl
  ·rw[J];exact qZ.2 ua
 rw[e,h,Uy]
theorem zcW(x:Int): ∀(l:List Int) (k:Int),entsI k (l++[x])=entsI k l++[(x,ki (k+l.length))]
 | [],k=>by simp[entsI]
 |t::r,k=>by
  have:k+1+(r.length:Int)=k+((r.length+1:Nat):Int):=by omega
  simp only[uL,entsI,zcW x r (k+1),uW,this]
def w6{l:List Int}{v:Int}(h:(l.any λx=>decide (x=v))=false):getK (entsI 1 l) v=none:=by
 rw[zaO,uw];have:=zbY (λx:Int=>decide (x=v)) l;rw[h]at this;exact uj this
structure zgy (m:Hp) (s:SS):Prop where
 nodup:s.order.Nodup
 inr: ∀x∈s.order,1<=x/\x<=(m.n.length:Int)
theorem zhV: ∀(N:Nat) (l:List Int),l.Nodup->(∀x∈l,1<=x/\x<=(N:Int))->l.length<=N
 |0,l,_,h=>by
  cases l with
  |nil=>simp
  |cons a l=>have:=h a ue;omega
 |N+1,l,hn,h=>by
  by_cases U:((N+1:Nat):Int)∈l
  ·have h1:=zhV N (l.erase ((N+1:Nat):Int)) (hn.erase _) (λx J=>by
    have h2:=(List.Nodup.mem_erase_iff hn).1 J;have:=h x h2.2;have:=h2.1
    omega)
   rw[List.length_erase_of_mem U]at h1;omega
  ·have:=zhV N l hn (λx J=>by
    have:=h x J;have:x≠((N+1:Nat):Int):=λe=>U (e ▸ J)
    omega)
   omega
def zgy.le{s:SS}(h:zgy m s):s.order.length<=m.n.length:=zhV _ _ h.nodup h.inr
def zrk{l:List Int}{n:Int}:(l.any λx=>decide (x=n))=true↔n∈l:=by simp
def zgy.snoc{s:SS}{n:Int}(h:zgy m s)(h1:1<=n)(h2:n<=(m.n.length:Int))(hn:(s.order.any λx=>decide (x=n))=false)(a:Int):zgy m ⟨s.order++[n],a⟩:=by
 have U:n∉s.order:=λe=>by rw[zrk.2 e]at hn;cases hn
 refine⟨?_,λx J=>?_⟩
 ·rw[List.nodup_append];refine⟨h.nodup,ue,λa ha b hb=>?_⟩;simp only[tv]at hb;subst hb;rintro rfl;exact U ha
 ·rcases tp.1 J with J|J
  ·exact h.inr x J
  ·simp only[tv]at J;subst J;exact⟨h1,h2⟩
def zgz(m:Hp)(p:Fld×Int):Prop:=isRef p=true->1<=p.2/\p.2<=(m.n.length:Int)
structure WF (d:zg) (m:Hp):Prop where
 small:m.n.length<=4096
 node: ∀x∈m.n,0<=x.t/\ ∃ty,d.types[x.t.toNat]?=some ty/\ty.f.length=x.f.length/\ ∀p∈ty.f.zip x.f,zgz m p
def WF.zwv(h:WF d m)(n:Int): ∀p∈pairsOf d m n,zgz m p:=by
 intro p J;unfold pairsOf at J;split at J
 ·rename_i x U;obtain⟨_,ty,h1,_,h2⟩:=h.node x (uv U);simp only[zdG,h1,uH,Option.getD_some]at J;exact h2 p J
 ·cases J
theorem jU{d:zg}{m:Hp}(hw:WF d m): ∀(k:Nat) (n:Int) (s:SS),1<=n->n<=(m.n.length:Int)->zgy m s->zgy m (enterS k d m n s)/\s.order.length<=(enterS k d m n s).order.length
 |0,n,s,_,_,h=>⟨h,uJ _⟩
 |k+1,n,s,h1,h2,h=>by
  cases hb:(s.order.any λx=>decide (x=n))with
  |true=>rw[zaN hb];exact⟨⟨h.nodup,h.inr⟩,uJ _⟩
  |false=>
   rw[zcV hb]
   have: ∀(ps:List (Fld×Int)) (s:SS),(∀p∈ps,zgz m p)->zgy m s->zgy m (zcz k d m ps s)/\s.order.length<=(zcz k d m ps s).order.length:=by
    intro ps
    induction ps with
    |nil=>exact λs _ h=>⟨h,uJ _⟩
    |cons p ps ih=>
     intro s J h;rw[zaM];by_cases U:isRef p=true
     ·rw[uw U];have hv:=J p ue U;have e:=jU hw k p.2 s hv.1 hv.2 h;have f:=ih _ (λq hq=>J q (by simp[hq])) e.1;exact⟨f.1,tQ e.2 f.2⟩
     ·rw[ur U];exact ih s (λq hq=>J q (by simp[hq])) h
   have e:=this (pairsOf d m n) ⟨s.order++[n],s.again⟩ (hw.zwv n) (h.snoc h1 h2 hb _);refine⟨e.1,?_⟩;have:=e.2;simp only[uP,uU]at this;omega
def mv(a b i:Nat):Nat:=match Nat.beq i a with
 |true=>b
 |false=>i
def zpV{a b:Nat}(ha:100<=a)(hi:i<100):mv a b i=i:=by
 unfold mv;rw[xB ua]
def zpW(d:zg)(m:Hp)(again:Int)(a:Nat):List V:=(zA d).map V.p++((yS m).map V.p++[.ar a,.mp 2,.p (ki again)])
def sRL(d:zg)(m:Hp)(s:SS)(a:Nat):RL:=[(0,.box (zpW d m s.again a)),(a,.arr 1 (s.order.map z8)),(2,.map (yP (ze4 .i64) (entsI 1 s.order)))]
def zxL(d:zg)(m:Hp)(s:SS)(a:Nat):Tab:=[(0,some (.box (zpW d m s.again a))),(a,some (.arr 1 (s.order.map z8))),(2,some (.map (yP (ze4 .i64) (entsI 1 s.order))))]
def zk6(d:zg)(m:Hp)(k:Nat):Prop:= ∀(n:Int) (s:SS),1<=n->n<=(m.n.length:Int)->zgy m s->m.n.length - s.order.length<k->
 zf Tryz.prog 189 [.one (.bx 0 0),I n] (sRL d m s 1) (.tup []) (sRL d m (enterS k d m n s) 3)
def look_ok(hw:WF d m){k:Nat}(hE:zk6 d m k)(l:List Fld)(v:List Int)(hlv:l.length=v.length)(s:SS)(hp: ∀p∈l.zip v,zgz m p)(U:zgy m s)(hk:m.n.length - s.order.length<k):
 zf Tryz.prog 130 [.one (.bx 0 0),pS (zC l),pS (yZ v)] (sRL d m s 1) (.tup []) (sRL d m (zcz k d m (l.zip v) s) 3):=by
 refine gO T Tryz.func130 λC hC=>?_;refine wi 1 rfl λhlen=>?_;rw[uk]at hlen
 repeat' first|refine gG ?_|refine gB ?_ ?_<;>intro h
 rw[uk];generalize hR:zcz k d m (l.zip v) s=RES
 refine zn (λq:Nat×SS=>q.1<=l.length/\zgy m q.2/\m.n.length - q.2.order.length<k/\zcz k d m ((l.zip v).drop q.1) q.2=RES)
  (λq=>([(0,.one (.bx 0 0)),(2,pS (yZ v)),(8,pS (zC l)),(9,I l.length),(10,I q.1)],zxL d m q.2 150)) (λq=>l.length - q.1) hC
  (0,s) ⟨uE _,U,hk,hR⟩ (mv 150 1) ⟨rfl,⟨rfl,rfl,rfl,rfl,rfl,uh⟩,⟨rfl,rfl,rfl,uh⟩,rfl,λi hi=>zpV ua hi⟩ ?_
 clear hR U hk;rintro⟨i,s⟩ ⟨hi,U,hk,J⟩;simp only at hi U hk J;refine zm T hC true 200 rfl ?_;refine zp rfl ?_ ?_<;>intro h
 rotate_left
 ·have hge: ¬i<l.length:=by simpa using h
  rw[uC (by rw[td];omega)]at J;have hn':s=RES:=J;subst hn'
  repeat' first|refine gG ?_|refine gB ?_ ?_<;>intro h|refine ze ?_
  exact zi ⟨.inr rfl,mv 3 150,[],rfl,.refl _,⟨rfl,rfl,rfl,uh⟩,rfl,rfl⟩
 have hlt:i<l.length:=by simpa using h
 clear h;obtain⟨x,hx⟩:=zb (l:=l.zip v) (i:=i) (by rw[td];omega);obtain⟨hx1,hx2⟩:=zhP hx;rw[drop_at hx,zaM]at J;have hrx:=hp x (uv hx)
 repeat' first|refine gG ?_|refine gB ?_ ?_<;>intro h|refine gX ?_|refine gC (zhN _) ?_
 ·rename_i hpl;have hr:isRef x=true:=by simp only[isRef,hpl,h,Bool.and_self]
  rw[uw hr]at J;have hv:=hrx hr;have hkeep:=jU hw k x.2 s hv.1 hv.2 U
  repeat' first|refine gG ?_|refine gB ?_ ?_<;>intro h|refine gR (hE x.2 s hv.1 hv.2 U hk) (nm [0,150,2,160]) ?_
  rw[vi ua];exact zh (i+1,enterS k d m x.2 s) ⟨by simp only;omega,hkeep.1,by simp only;omega,J⟩ (mv 150 160) (by simp only;omega) ⟨rfl,⟨rfl,rfl,rfl,rfl,rfl,uh⟩,⟨rfl,rfl,rfl,uh⟩,rfl,λi hi=>zpV ua hi⟩
 all_goals
  have hr:isRef x=false:=by simp only[isRef,h,tJ,qI]
  rw[hr]at J;simp only[uB,uM]at J;simp only;rw[vi ua];exact zh (i+1,s) ⟨by simp only;omega,U,hk,J⟩ id (by simp only;omega) gM
theorem zoi(hw:WF d m): ∀k,zk6 d m k:=by
 intro k
 induction k with
 |zero=>intro n s _ _ _ h;omega
 |succ k ih=>
  intro n s h1 h2 hs hk;have hsm:=hw.small;have hle:=hs.le;obtain⟨x,hx⟩:=zb (l:=m.n) (i:=(n - 1).toNat) ua;obtain⟨ht,ty,hty,hlen,hrefs⟩:=hw.node x (uv hx);have U:pairsOf d m n=ty.f.zip x.f:=by simp only[pairsOf,hx,zdG,hty,uH,Option.getD_some]
  have J:=zoh s.order n;refine gO T Tryz.func189 λC hC=>?_
  repeat' first|refine gG ?_|refine gB ?_ ?_<;>intro h|refine ze1 (ze4 .i64) hC (kt:=3) (et:=3) (c0:= .int .i64 0) rfl rfl rfl ud ud ud rfl (zog s.order n) rfl rfl ?_
  ·rename_i h0;rw[J]at h0;rw[zaN h0,uw (uj h)];exact zi ⟨.inl rfl,mv 3 1,[],rfl,.refl _,⟨rfl,rfl,rfl,uh⟩,rfl,rfl⟩
  ·rename_i h0;rw[J]at h0;rw[zaN h0,ur (uo h)];exact zi ⟨.inl rfl,mv 3 1,[],rfl,.refl _,⟨rfl,rfl,rfl,uh⟩,rfl,rfl⟩
  ·rw[J]at h;have hs':=hs.snoc h1 h2 h s.again;have hle':=hs'.le;simp only[uP,uU]at hle';rw[zcV h,U];have hL:=look_ok hw ih ty.f x.f hlen ⟨s.order++[n],s.again⟩ hrefs hs' (by simp only[uP,uU];omega);have w1:IntKind.i64.wrap (n - 1)=n - 1:=wrap64 ua;have hlen2:(s.order.map z8).length=s.order.length:=uk _
   repeat' first|refine gG ?_|refine gB ?_ ?_<;>intro h|refine gT ?_|refine gY T 101 ((s.order++[n]).map z8) 8 ?_
   refine zhS (ze4 .i64) hC (kt:=3) (et:=3) (l':=entsI 1 (s.order++[n])) rfl rfl rfl rfl ud ud ?_ rfl ?_
   ·rw[zdF (w6 h),zcW];simp only[uk,uP,uU];rw[show((s.order.length+1:Nat):Int)=1+(s.order.length:Int) by omega]
   ·repeat' first|refine gG ?_|refine gB ?_ ?_<;>intro h|(rw[w1];refine gI T (yV hx) ?_)|refine xX T hC rfl rfl rfl ht (yV hty) rfl rfl ?_|refine gR hL (nm [0,101,2,170]) ?_
    exact zi ⟨.inr rfl,mv 3 170,[],rfl,.refl _,⟨rfl,rfl,rfl,uh⟩,rfl,rfl⟩
def vz(d:zg)(m:Hp):SS:=zcz (m.n.length+1) d m (d.globals.zip m.g) ⟨[],0⟩
structure WG (d:zg) (m:Hp):Prop extends WF d m where
 glen:d.globals.length=m.g.length
 gref: ∀p∈d.globals.zip m.g,zgz m p
def zgA(J:WG d m):zf Tryz.prog 87 [zr (zA d),zr (yS m)] [] (.one (.bx 0 0)) (sRL d m (vz d m) 1):=by
 have U:=look_ok J.toWF (zoi J.toWF (m.n.length+1)) d.globals m.g J.glen ⟨[],0⟩ J.gref ⟨ue,ue⟩ ue;refine gO T Tryz.func87 λC hC=>?_
 repeat' first|refine gG ?_|refine gB ?_ ?_<;>intro h|refine ze0 (ze4 .i64) hC rfl rfl rfl ?_
 refine zj8 hC rfl 101 1 rfl [] uh [(1010,(zA d).map V.p++((yS m).map V.p++[.ar 101,.mp 1008,.p (ki 0)]))] ⟨⟨_,rfl,ub,?_⟩,uh⟩ ?_
 ·exact .cons (.refl _) (.cons (.refl _) (.cons (.refl _) (.cons (.refl _) (.cons (.refl _) (.cons (.refl _) (.cons (.refl _) (.cons (.refl _) (.cons (.refl _) (.cons (.refl _) (.cons .nil (.cons (.refl _) (.cons (.refl _) .nil))))))))))))
 repeat' first|refine gG ?_|refine gB ?_ ?_<;>intro h|refine gR U (nm [1010,101,1008,160]) ?_
 exact gW [1010,160,1008]
def jy(v:List Int)(hv:v.length<=1000000):zf Tryz.prog 42 [pS (yZ v)] [] (.one (.ar 0)) [(0,.arr 1 (v.map z8))]:=by
 refine gO T Tryz.func42 λC hC=>?_;have hl:(v.map z8).length=v.length:=uk _
 repeat' first|refine gG ?_|refine gB ?_ ?_<;>intro h
 refine zrl (rows:=v.map z8) (e:=1) (et:=3) rfl ud rfl (λb U=>?_)
 repeat' first|refine gG ?_|refine gB ?_ ?_<;>intro h
 ·have J:v=[]:=List.map_eq_nil_iff.1 (U h);subst J;refine gA 101 1 [(2,.one (.ar 101))] [] ?_;exact gW [101]
 ·refine ztY T hC rfl rfl rfl rfl rfl ?_
  repeat' first|refine gG ?_|refine gB ?_ ?_<;>intro h|refine gY T 102 (v.map z8) 8 ?_
  exact gW [102]
def zpX{p:Fld×Int}(h:za7 d m p=true):zgz m p:=by
 intro J;simp only[isRef,um,uy,uu,jS,u0]at J;obtain⟨⟨U,h2⟩,h3⟩:=J;simp only[za7,zcM,U,h2,h3,uM,qE,tw,um,uq]at h;exact⟨h.1.1,h.1.2⟩
def ztZ(h:zZ d m=true):WG d m:=by
 simp only[zZ,um,uq,uy,uu]at h;obtain⟨⟨⟨⟨⟨_,hg⟩,hn⟩,hs⟩,hp⟩,hr⟩:=h;refine⟨⟨ua,λx hx=>?_⟩,ua,λp J=>zpX (List.all_eq_true.1 hp p J)⟩;obtain⟨h0,ty,U,hle⟩:=wg (List.all_eq_true.1 hs x hx);refine⟨h0,ty,U,hle,λp J=>zpX (d:=d) ?_⟩;have:=List.all_eq_true.1 hr x hx;simp only[we,U,uH,Option.getD_some]at this;exact List.all_eq_true.1 this p J
def ze5(h:zZ d m=true):zgy m (vz d m):=by
 have hw:=ztZ h
 have: ∀(ps:List (Fld×Int)) (s:SS),(∀p∈ps,zgz m p)->zgy m s->zgy m (zcz (m.n.length+1) d m ps s):=by
  intro ps
  induction ps with
  |nil=>exact λs _ h=>h
  |cons p ps ih=>
   intro s J h;rw[zaM];by_cases U:isRef p=true
   ·rw[uw U];have hv:=J p ue U;exact ih _ (λq hq=>J q (by simp[hq])) (jU hw.toWF _ p.2 s hv.1 hv.2 h).1
   ·rw[ur U];exact ih s (λq hq=>J q (by simp[hq])) h
 exact this _ _ hw.gref ⟨ue,ue⟩
def ze6(J:zZ d m=false):zf Tryz.prog 52 [zr (zA d),zr (yS m)] [] (.tup [pS (yZ []),I 1]) []:=by
 refine gO T Tryz.func52 λC hC=>?_
 repeat' first|refine gG ?_|refine gB ?_ ?_<;>intro h|refine gC (yW d m) ?_
 ·exact zi ⟨.inl rfl,id,_,rfl,LeS.tup (.cons (.one (.nil 1)) (.cons (.refl _) .nil)),trivial,rfl,rfl⟩
 ·rw[J]at h;cases h
def ze7(J:zZ d m=true):zf Tryz.prog 52 [zr (zA d),zr (yS m)] [] (.tup [pS (yZ (vz d m).order),I 0]) []:=by
 refine gO T Tryz.func52 λC hC=>?_
 repeat' first|refine gG ?_|refine gB ?_ ?_<;>intro h|refine gC (yW d m) ?_|refine gR (zgA (ztZ J)) (nm [150,151,152]) ?_
 ·rw[J]at h;cases h
 ·refine gZ 151 [(4,pS (yZ (vz d m).order))] [] ?_;exact gF
end Hw.Gm.Ps
namespace Hw
open Go
def modeOf:Option Value->FrameMode
 |none=> .returning
 |some v=> .panicking (chn v)
def rcV:Option Value->Value
 |none=> .nilIface
 |some v=>v
def rcS(rv:Option Value):S:= .one (.p (.k (rcV rv)))
def zt0(P:Program)(f:FuncId)(args:List S)(R:RL)(rv:Option Value)(R':RL):Prop:=
 jC P f/\ ∀(M:Mem) (ρ:Nat->Value) (w:World) (xs:List Value),RepSs M ρ args xs->xY M ρ w (tb R)->Imm M w->GOk M w->
  CallsD P f xs.toArray (modeOf rv) w λe u' w'=>(∃v,e= .returned v)/\settle u'= .returning/\ ∃M' ρ',Ret M ρ w R .un R' undef M' ρ' w'
variable {C:Ctx}{P:Program}{Q:Exit->St->Prop}{all:Array Oper}{ch:List PanicEntry}{m:Nat}{rest:List Oper}{tab:Tab}
section
variable {k:List Frm} {n:Nat} {sl:zd}
def gU(g:Goal P C (.fin (.panic ch)) [] n sl tab Q):Goal P C (.fin (.panic ch)) k n sl tab Q:=
 λM ρ a w U=>let ⟨st,M',ρ',hq,J⟩:=g M ρ a w U;⟨st,M',ρ',zbI hq,J⟩
def zcX{α:Type}{φ:α->Prop}{T:α->zd×Tab}{μ:α->Nat}(g:Goal P C (.fin (.panic ch)) k n sl tab Q):Goal P C (.fin (.panic ch)) [] n sl tab (ze8 φ T μ n m (unw P C k Q)):=g
end
variable {R R':RL}{res:S}
def zhW(h0:C.tab0=tb R){st:St}{M':Mem}{ρ':Nat->Value}{a:Act}{w':World}(J:Holds C st M' ρ' a w'){σ:Nat->Nat}{v:Value}(hv:RepS M' ρ' (res.ren σ) v)
 (h3:mR σ st.tab R') (h4:injB σ R'.ids=true) (h5:allB (λi=>Nat.beq (σ i) i) R.ids=true):Ret C.M0 C.ρ0 C.w0 R res R' v M' (λi=>ρ' (σ i)) w':=by
 have frb: ∀b,¬C.fr b->C.w0.heap.size<=b\/zbo (tb R) C.ρ0 b:=λb U=>by
  rcases tu b C.w0.heap.size with h|h
  ·exact .inr (tC λhn=>U ⟨h,by rw[h0];exact hn⟩)
  ·exact .inl h
 have tk: ∀i r,tg (tb R') i=some r->tg st.tab (σ i)=some (r.ren σ):=λi r h=>zcK h3 (zK h)
 have ti: ∀i r,tg (tb R') i=some r->i∈R'.ids:=λi r h=>zL (zK h)
 refine⟨(RepS.ren _ _).1 hv,⟨λi r hr=>(J.zH.res _ _ (tk i r hr)).ren,?_,?_⟩,J.run.imm,J.run.base,λb o u hu=>(J.run.newM b o u hu).imp id (frb b),?_,λb U hn=>J.run.fram b ⟨U,by rw[h0];exact hn⟩,
  J.run.size,J.run.os,J.run.tape,J.run.output,?_⟩
 ·intro i j ri rj b e1 e2 hne hb1 hb2;exact J.zH.dis _ _ _ _ b (tk i ri e1) (tk j rj e2) (yB h4 i j (ti i ri e1) (ti j rj e2) hne) hb1 hb2
 ·intro i r b e1 U;exact J.zH.own _ _ b (tk i r e1) U
 ·rintro b ⟨i,r,e1,U⟩;exact frb b (J.ownf _ _ b (tk i r e1) U)
 ·intro id hid;have e:=uA (zE h5 id hid);rw[e];obtain⟨r,hr⟩:=vZ hid;exact J.keep id r (by rw[h0];exact hr)
variable {M:Mem}{args:List S}{w:World}{ρ:Nat->Value}
def vA{xs:List Value}(J:allB (λi=>Nat.blt i 100) R.ids=true)(hn:Nat.ble args.length m=true)
 (hx:RepSs M ρ args xs) (hT:xY M ρ w (tb R)) (hI:Imm M w) (hG:GOk M w):
 ∃C:Ctx,C.low/\C.w0=w/\C.M0=M/\C.ρ0=ρ/\C.tab0=tb R/\C.df=[]/\Holds C ⟨m,enum 0 args,tb R⟩ M ρ { tmps:=xs.toArray++Array.replicate (m - xs.toArray.size) undef,defers:=[] } w:=by
 have hlen:=hx.length;have hnn:args.length<=m:=uS hn
 have U: ∀p∈G2,¬zbo (tb R) ρ p.1:=λp hp ⟨id,r,h1,h2⟩=>by
  obtain⟨v,hv⟩:=zkb p hp;have:=hG.le _ _ _ hv;rw[hT.own id r p.1 h1 h2 0]at this;cases this
 refine⟨⟨w,M,ρ,tb R,hG,U,[]⟩,λi r h=>by
  have:=zE J i (zL (zK h));simp_all,rfl,rfl,rfl,rfl,rfl,?_⟩
 refine⟨rfl,ug,λk s hk=>?_,hT,λid r b h1 h2 h3=>h3.2 ⟨id,r,h1,h2⟩,⟨hI,λ_ _=>rfl,uJ _,MLe.refl _,λ_ _ _ h=> .inl h,rfl,rfl,rfl⟩,λ_ _ _=>rfl⟩;have:=(jt (n:=m - xs.toArray.size) hx hk).2;simpa using this
variable {cs:List Frame}
theorem zgB(rv:Option Value){c0:Frame}(h:c0.mode=modeOf rv):
 (match rv with
   |none=>recoverD (c0::cs)=none
   |some v=> ∃J,settle J= .returning/\recoverD (c0::cs)=some (v,{ c0 with mode:=J }::cs)):=by
 cases rv with
 |none=>simp only[modeOf]at h;simp only[recoverD,h]
 |some v=>
  simp only[modeOf,chn]at h;exact⟨.panicking [{ v:=v,recovered:=true }],rfl,by simp only[recoverD,h]⟩
variable {af:Array Edge}{d:Option Nat}{g:Option (Nat×Bool)}{ps:String}{ts:Array TypeId}
def zb2{ρ:Operand->Value}{ty:TypeId}:
 (execOp ρ ⟨d,.call ⟨.builtin .recover,#[],ts⟩,ty,ps,af,g⟩).run P w= .ok .recover w:=by
 simp[execOp,resolve];rfl
variable {x:Operand}
def zb3{ρ:Operand->Value}{ty:TypeId}:
 (execOp ρ ⟨d,.assign x,ty,ps,af,g⟩).run P w= .ok (.value (ρ x)) w:=by
 simp[execOp]
theorem zhX{P:Program}{C:Ctx}{Q:Exit->St->Prop}{e:Exit}(J:e≠ .normal): ∀ {l:List Code} {st:St},unw P C (l.map Frm.seq) Q e st->Q e st
 | [],_,h=>h
 |b::l,st,h=>zhX J (l:=l) (by
  cases e with
  |normal=>exact absurd rfl J
  |_=>exact h)
def leftCut:Code->Code×List Code
 | .seq a b=>((leftCut a).1,(leftCut a).2++[b])
 |c=>(c,[])
def chainS(P:Program)(Q:Exit->Act->List Frame->World->Prop):List Code->Act->List Frame->World->Prop
 | []=>Q .normal
 |b::l=>b.wpS P (Exit.thenS (chainS P Q l) Q)
def zaP(Q:Exit->Act->List Frame->World->Prop):Exit.thenS (Q .normal) Q=Q:=by
 funext e a cs w;cases e<;>rfl
def zcY(K K2:Act->List Frame->World->Prop)(Q:Exit->Act->List Frame->World->Prop):Exit.thenS K (Exit.thenS K2 Q)=Exit.thenS K Q:=by
 funext e a cs w;cases e<;>rfl
theorem zb4(P:Program)(Q:Exit->Act->List Frame->World->Prop)(b:Code): ∀l:List Code,chainS P Q (l++[b])=chainS P (Exit.thenS (b.wpS P Q) Q) l
 | []=>by simp only[tR,chainS,zaP];rfl
 |x::l=>by simp only[uL,chainS,zb4 P Q b l,zcY]
theorem zoj: ∀(c:Code) {Q:Exit->Act->List Frame->World->Prop} {a:Act} {cs:List Frame} {w:World},(leftCut c).1.wpS P (Exit.thenS (chainS P Q (leftCut c).2) Q) a cs w->c.wpS P Q a cs w:=by
 intro c
 induction c with
 |seq x y ihx _=>
  intro Q a cs w h;simp only[leftCut,zb4]at h;refine wpS_seq (ihx ?_);rw[zcY];exact h
 |_=>
  intro Q a cs w h;simp only[leftCut,chainS,zaP]at h;exact h
theorem zhY{P:Program}{C:Ctx}{Q:Exit->St->Prop}{W:Exit->Act->List Frame->World->Prop}{cs:List Frame}(U: ∀e a w,lift C Q e a w->W e a cs w): ∀ {l:List Code} {c:Code} {st:St} {M:Mem} {ρ:Nat->Value} {a:Act} {w:World},
 Tri P C c st (unw P C (l.map Frm.seq) Q)->Holds C st M ρ a w->chainS P W (c::l) a cs w
 | [],c,st,M,ρ,a,w,h,hH=>by
   simp only[chainS,zaP];exact wpS_of_wp (wp_mono (h M ρ a w hH) λe a' w' hl=>U e a' w' hl)
 |b::l,c,st,M,ρ,a,w,h,hH=>by
  simp only[chainS];refine wpS_of_wp (wp_mono (h M ρ a w hH) λe a' w' hl=>?_);obtain⟨st',M',ρ',hq,J⟩:=hl;cases e with
  |normal=>exact zhY U (l:=l) hq J
  |_=>exact U _ a' w' ⟨st',M',ρ',zhX (l:=b::l) ue hq,J⟩
variable {c:Code}{f:FuncId}{fn:Func}
theorem zrm(T:Ty P){id:Nat}{r1:Code}{rs:List Code}(rv:Option Value){J t2:Nat}{ty ty2:TypeId}{ps2:String}{af2:Array Edge}
 (hf:P.funcs[f]?=some fn) (hname:(fn.name== "runtime.NumGoroutine")=false) (hb:fn.body=some c)
 (hc:leftCut c=(.region id #[⟨some J,.call ⟨.builtin .recover,#[],ts⟩,ty,ps,af,none⟩,⟨some t2,.assign (.tmp J),ty2,ps2,af2,none⟩] false,r1::rs))
 (hres:fn.results=([]:List ResultVar).toArray) (hlow:allB (λi=>Nat.blt i 100) R.ids=true) (hn:Nat.ble args.length fn.ntmps=true) (h7:Nat.blt J fn.ntmps=true) (h2:Nat.blt t2 fn.ntmps=true) (hp:(rcV rv).oneCell'=true)
 (body: ∀C:Ctx,C.low->Goal P C (.code r1) (rs.map Frm.seq) fn.ntmps ((t2,rcS rv)::(J,rcS rv)::enum 0 args) (tb R) (zdm T [] R .un R')):zt0 P f args R rv R':=by
 refine⟨⟨fn,hf,hname,by rw[hb];rfl⟩,λM ρ w xs hx hT hI hG=>?_⟩;obtain⟨C,hC,e1,e2,e3,e4,e5,hH⟩:=vA hlow hn hx hT hI hG;refine callsD_of_wpS hf hb λc0 cs hu=>?_;have h7':J<fn.ntmps:=by simpa [tI]using h7
 have h2':t2<fn.ntmps:=by simpa [tI]using h2
 generalize hA:({ tmps:=xs.toArray++Array.replicate (fn.ntmps - xs.toArray.size) undef,defers:=[] }:Act)=a at hH⊢;have rep: ∀(M:Mem) (ρ:Nat->Value),RepS M ρ (rcS rv) (rcV rv):=λM ρ=>by simp only[rcS,RepS,RepV,RepPV];exact⟨uh,hp⟩
 have key: ∀(cs':List Frame),(∃u',settle u'= .returning/\cs'={ c0 with mode:=u' }::cs)->
  chainS P (bodyPostS P fn c0 cs λe u' w'=>(∃v,e= .returned v)/\settle u'= .returning/\ ∃M' ρ',Ret M ρ w R .un R' undef M' ρ' w') (r1::rs) ((a.put (some J) (rcV rv)).put (some t2) (rcV rv)) cs' w:=by
  rintro cs' ⟨u',hu1,rfl⟩;have hH2:=(hH.put (d:=J) h7' (rep M ρ)).put (d:=t2) (s:=rcS rv) (x:=rcV rv) h2' (rep M ρ);refine zhY (C:=C) (λe a' w' ⟨st,M',ρ',hq,hH'⟩=>?_) (body C hC) hH2;obtain⟨he,σ,ss,g1,g2,g3,g4,g5⟩:=hq;obtain⟨v,hv,hrep⟩:=wN T hres hH' g1;have hret:=zhW (res:= .un) (v:=undef) e4 hH' (σ:=σ) (by simp only[S.ren,RepS]) g3 g4 g5;rw[e1,e2,e3]at hret
  have fin:a'.defers=[]/\ ∃u'',{ c0 with mode:=u' }::cs={ c0 with mode:=u'' }::cs/\ ∃v,(results fn a'.tmps).run P w'= .ok v w'/\(∃v',Ending.returned v= .returned v')/\settle u''= .returning/\ ∃M' ρ',Ret M ρ w R .un R' undef M' ρ' w':=
   ⟨by rw[<-e5];exact hH'.dfr,u',rfl,v,hv,⟨v,rfl⟩,hu1,M',_,hret⟩
  rcases he with rfl|rfl<;>exact fin
 refine zoj c ?_;rw[hc];refine wpS_region ?_
 have U:(a.put (some J) (rcV rv)).eval (.tmp J)=rcV rv:=by
  simp only[Act.eval];exact y3 (by rw[hH.sz];exact h7')
 have hr:List.range (#[(⟨some J,.call ⟨.builtin .recover,#[],ts⟩,ty,ps,af,none⟩:Oper),⟨some t2,.assign (.tmp J),ty2,ps2,af2,none⟩]).size=[0,1]:=rfl;rw[hr];have hrec:=zgB rv (c0:=c0) (cs:=cs) hu;cases rv with
 |none=>
  simp only[rcV]at key U;simp only[wpOpsS,tq,List.getElem?_cons_zero,uZ,Region.wanted,uX,zb2,hrec,zb3,Oper.upon,U,Exit.thenS];exact key _ ⟨c0.mode,by rw[hu];rfl,rfl⟩
 |some v=>
  obtain⟨u',h1,h2⟩:=hrec;simp only[rcV]at key U;simp only[wpOpsS,tq,List.getElem?_cons_zero,uZ,Region.wanted,uX,zb2,h2,zb3,Oper.upon,U,Exit.thenS]
  simp_all
def cutSeq:Nat->Code->List Code×Code
 |0,c=>([],c)
 |n+1,.seq a b=>(a::(cutSeq n b).1,(cutSeq n b).2)
 |_+1,c=>([],c)
theorem zb5: ∀(n:Nat) (c:Code),c=(cutSeq n c).1.foldr Code.seq (cutSeq n c).2
 |0,_=>rfl
 |n+1,c=>by
  cases c with
  |seq a b=>simp only[cutSeq,List.foldr_cons];rw[<-zb5 n b]
  |_=>rfl
theorem zk7{P:Program}{C:Ctx}{Q:Exit->St->Prop}{r:Code}{W:Exit->Act->World->Prop}
 (hQ: ∀a w,lift C Q .normal a w->r.wp P W a w) (hE: ∀e a w,e≠ .normal->lift C Q e a w->W e a w): ∀ {l:List Code} {c:Code} {st:St} {M:Mem} {ρ:Nat->Value} {a:Act} {w:World},
 Tri P C c st (unw P C (l.map Frm.seq) Q)->Holds C st M ρ a w->(Code.seq c (l.foldr Code.seq r)).wp P W a w
 | [],c,st,M,ρ,a,w,h,hH=>wp_seq (wp_mono (h M ρ a w hH) λe U w' hl=>by
   cases e with
   |normal=>exact hQ U w' hl
   |_=>exact hE _ U w' ue hl)
 |b::l,c,st,M,ρ,a,w,h,hH=>wp_seq (wp_mono (h M ρ a w hH) λe U w' hl=>by
  obtain⟨st',M',ρ',hq,J⟩:=hl;cases e with
  |normal=>exact zk7 hQ hE (l:=l) hq J
  |_=>exact hE _ U w' ue ⟨st',M',ρ',zhX (l:=b::l) ue hq,J⟩)
def dfQ(T:Ty P)(rv:List ResultVar)(R:RL)(res:S)(R':RL)(g:FuncId)(caps:List V):Exit->St->Prop:=λe st=>
 ∃(rq:Option Value) (args:List S) (R1 R1':RL) (σ:Nat->Nat),(match rq with|none=>e= .ret\/e= .normal|some v=>e= .panic (chn v))/\zt0 P g args R1 rq R1'/\
  zI (ones caps) (Ss.ren σ args)/\okT (R1.ren σ) st/\injB σ R1.ids=true/\injB σ R1'.ids=true/\allB (λid=>Nat.ble 100 id&&freshB id st) ((zP R1 R1').map σ)=true/\xH (R1.ids++R1'.ids) R1'=true/\
  zdm T rv R res R' .ret ⟨st.n,st.sl,(tb (R1'.ren σ)++xp (R1.ids.map σ))++st.tab⟩
def dfA(T:Ty P)(rv:List ResultVar)(R:RL)(res:S)(R':RL)(n:Nat)(sl1:zd)(Rm:RL):Exit->St->Prop
 | .normal,st=> ∃σ:Nat->Nat,st.n=n/\mS σ st sl1/\mR σ st.tab Rm/\injB σ Rm.ids=true/\allB (λi=>Nat.beq (σ i) i) R.ids=true
 |e,st=>zdm T rv R res R' e st
def Holds.up{C':Ctx}{st1 st:St}{M1:Mem}{ρ1:Nat->Value}{a1 a:Act}{w1:World}(J:Holds C st1 M1 ρ1 a1 w1)(hw:C'.w0=w1)(hM:C'.M0=M1)(U: ∀b,C.fr b->C'.fr b)(h:Holds C' st M ρ a w)
 (hk: ∀id r,tg C.tab0 id=some r->ρ id=C.ρ0 id):Holds { C with df:=C'.df } st M ρ a w where
 dfr:=h.dfr
 sz:=h.sz
 slots:=h.slots
 zH:=h.zH
 ownf:=λid r b hr hb hn=>h.ownf id r b hr hb (U b hn)
 run:=⟨h.run.imm,λb hb=>by rw[h.run.fram b (U b hb),hw];exact J.run.fram b hb,tQ J.run.size (by rw[<-hw];exact h.run.size),J.run.base.trans (by rw[<-hM];exact h.run.base),
  λb o v hv=>(h.run.newM b o v hv).elim (λe=>J.run.newM b o v (by simp_all)) (λhn=> .inr λhf=>hn (U b hf)),h.run.os.trans (by rw[hw];exact J.run.os),h.run.tape.trans (by rw[hw];exact J.run.tape),h.run.output.trans (by rw[hw];exact J.run.output)⟩
 keep:=hk
variable {rv:List ResultVar}
def zhZ(T:Ty P){c0:Code}{cs:List Code}{id:Nat}{tm:Nat}{g:FuncId}{lo:List Operand}{ty ty2:TypeId}{ps2:String}{af2:Array Edge}{cB:Code}
 {ss:List S} {caps:List V} {sl1:zd} {Rm:RL}
 (hf:P.funcs[f]?=some fn) (hname:(fn.name== "runtime.NumGoroutine")=false) (hb:fn.body=some c)
 (hc:cutSeq m c=(c0::cs,.seq (.region id #[⟨some tm,.makeFunc (.func g) #[] lo.toArray,ty,ps,af,none⟩,⟨none,.defer ⟨.value (.tmp tm),#[],ts⟩,ty2,ps2,af2,none⟩] false) cB))
 (hrv:fn.results=rv.toArray) (hlow:allB (λi=>Nat.blt i 100) R.ids=true) (hn:Nat.ble args.length fn.ntmps=true) (htm:Nat.blt tm fn.ntmps=true)
 (hl:evs sl1 lo=some ss) (hcp:onesOf ss=some caps) (hlm:allB (λi=>Nat.blt i 100) Rm.ids=true) (hin:allB (λi=>hasB i Rm.ids) R.ids=true) (hcc:cloVs Rm.ids caps=true)
 (hA: ∀C:Ctx,C.low->Goal P C (.code c0) (cs.map Frm.seq) fn.ntmps (enum 0 args) (tb R) (dfA T rv R res R' fn.ntmps sl1 Rm))
 (hB: ∀C:Ctx,C.low->Goal P C (.code cB) [] fn.ntmps ((tm,.one (.cl g [] caps))::sl1) (tb Rm) (dfQ T rv R res R' g caps)):zf P f args R res R':=by
 refine⟨⟨fn,hf,hname,by rw[hb];rfl⟩,λM ρ w xs hx hT hI hG=>?_⟩;obtain⟨C,hC,e1,e2,e3,e4,e5,hH⟩:=vA hlow hn hx hT hI hG;have htm':tm<fn.ntmps:=by simpa [tI]using htm
 refine calls_of_wp_defers hf hb ?_;generalize ({ tmps:=xs.toArray++Array.replicate (fn.ntmps - xs.toArray.size) undef,defers:=[] }:Act)=a at hH⊢;rw[zb5 m c,hc];simp only[List.foldr_cons]
 have fin: ∀ {C':Ctx} {st:St} {M':Mem} {ρ':Nat->Value} {U:Act} {w':World},C'.tab0=tb R->C'.w0=w->C'.M0=M->C'.ρ0=ρ->Holds C' st M' ρ' U w'->zdm T rv R res R' .ret st->
  ∃v,(results fn U.tmps).run P w'= .ok v w'/\ ∃v' M' ρ',Ending.returned v= .returned v'/\Ret M ρ w R res R' v' M' ρ' w':=λ{C' st M' ρ' U w'} k1 k2 k3 k4 J hq=>by
  obtain⟨he,σ,ss,g1,g2,g3,g4,g5⟩:=hq;obtain⟨v,hv,hrep⟩:=wN T hrv J g1;have hret:=zhW k1 J (σ:=σ) (g2 _ _ _ hrep) g3 g4 g5;rw[k2,k3,k4]at hret;exact⟨v,hv,v,M',_,rfl,hret⟩
 refine zk7 (C:=C) ?_ ?_ (hA C hC) hH
 ·rintro U w' ⟨st,M',ρ',⟨σ,hsn,hms,hmr,hinj,hfix⟩,J⟩;have tk: ∀i r,tg (tb Rm) i=some r->tg st.tab (σ i)=some (r.ren σ):=λi r h=>zcK hmr (zK h)
  have ti: ∀i r,tg (tb Rm) i=some r->i∈Rm.ids:=λi r h=>zL (zK h)
  -- the context of what comes behind
  have hTm:xY M' (λi=>ρ' (σ i)) w' (tb Rm):=⟨λi r hr=>(J.zH.res _ _ (tk i r hr)).ren,λi j ri rj b h1 h2 hne hb1 hb2=>J.zH.dis _ _ _ _ b (tk i ri h1) (tk j rj h2) (yB hinj i j (ti i ri h1) (ti j rj h2) hne) hb1 hb2,
   λi r b h1 hb=>J.zH.own _ _ b (tk i r h1) hb⟩
  have hgf: ∀p∈G2,¬zbo (tb Rm) (λi=>ρ' (σ i)) p.1:=λp hp ⟨id,r,h1,h2⟩=>by
   obtain⟨v,hv⟩:=zkb p hp;have:=J.gok.le _ _ _ hv;rw[hTm.own id r p.1 h1 h2 0]at this;cases this
  have hvs:=(show RepVs M' (λi=>ρ' (σ i)) caps (lo.map U.eval) from by
   have hsl: ∀k s,sg sl1 k=some s->RepS M' (λi=>ρ' (σ i)) s (U.tmps.getD k undef):=λk s hk=>(RepS.ren s _).1 (J.slots k _ (ze9 hms (za9 hk)))
   have hX:Holds ⟨w',M',λi=>ρ' (σ i),tb Rm,J.gok,hgf,U.defers⟩ ⟨fn.ntmps,sl1,tb Rm⟩ M' (λi=>ρ' (σ i)) U w':=
    ⟨rfl,by rw[<-hsn];exact J.sz,hsl,hTm,λid r b h1 h2 h3=>h3.2 ⟨id,r,h1,h2⟩,⟨J.run.imm,λ_ _=>rfl,uJ _,MLe.refl _,λ_ _ _ h=> .inl h,rfl,rfl,rfl⟩,λ_ _ _=>rfl⟩
   have he:=xl (st:=⟨fn.ntmps,sl1,tb Rm⟩) hl
   exact xG hcp (hX.zhu (wU he.1 he.2)))
  refine wp_seq (wp_region ?_);have hr:List.range (#[(⟨some tm,.makeFunc (.func g) #[] lo.toArray,ty,ps,af,none⟩:Oper),⟨none,.defer ⟨.value (.tmp tm),#[],ts⟩,ty2,ps2,af2,none⟩]).size=[0,1]:=rfl;rw[hr];have hmk:(execOp U.eval ⟨some tm,.makeFunc (.func g) #[] lo.toArray,ty,ps,af,none⟩).run P w'= .ok (.value (.func (.func g) #[] (lo.map U.eval).toArray)) w':=by simp[execOp,Instr.makeFunc]
  generalize lo.map U.eval=ys at hvs hmk
  have htv:(U.put (some tm) (.func (.func g) #[] ys.toArray)).eval (.tmp tm)= .func (.func g) #[] ys.toArray:=by
   simp only[Act.eval];exact y3 (by rw[J.sz,hsn];exact htm')
  have hdf:(execOp (U.put (some tm) (.func (.func g) #[] ys.toArray)).eval ⟨none,.defer ⟨.value (.tmp tm),#[],ts⟩,ty2,ps2,af2,none⟩).run P w'= .ok (.defer ⟨.fn (.func g) ys.toArray,#[]⟩) w':=by
   simp[execOp,resolve,Deferred.ofValue,htv]
  let C1:Ctx:=⟨w',M',λi=>ρ' (σ i),tb Rm,J.gok,hgf,[⟨.fn (.func g) ys.toArray,#[]⟩]⟩
  have hC1:C1.low:=λi r h=>by
   have:=zE hlm i (zL (zK h));simpa [tI]using this
  have hH1:Holds C1 ⟨fn.ntmps,(tm,.one (.cl g [] caps))::sl1,tb Rm⟩ M' (λi=>ρ' (σ i)) ⟨(U.put (some tm) (.func (.func g) #[] ys.toArray)).tmps,⟨.fn (.func g) ys.toArray,#[]⟩::(U.put (some tm) (.func (.func g) #[] ys.toArray)).defers⟩ w':=by
   have hsl: ∀k s,sg sl1 k=some s->RepS M' (λi=>ρ' (σ i)) s (U.tmps.getD k undef):=λk s hk=>(RepS.ren s _).1 (J.slots k _ (ze9 hms (za9 hk)))
   have hd:U.defers=[]:=by rw[J.dfr,e5]
   have hX:Holds ⟨w',M',λi=>ρ' (σ i),tb Rm,J.gok,hgf,[]⟩ ⟨fn.ntmps,sl1,tb Rm⟩ M' (λi=>ρ' (σ i)) U w':=
    ⟨hd,by rw[<-hsn];exact J.sz,hsl,hTm,λid r b h1 h2 h3=>h3.2 ⟨id,r,h1,h2⟩,⟨J.run.imm,λ_ _=>rfl,uJ _,MLe.refl _,λ_ _ _ h=> .inl h,rfl,rfl,rfl⟩,λ_ _ _=>rfl⟩
   have hY:=hX.put (d:=tm) (s:= .one (.cl g [] caps)) (x:= .func (.func g) #[] ys.toArray) htm' (by
    simp only[RepS,RepV];exact⟨[],ys,rfl,by simp only[RepVs],hvs⟩)
   exact⟨by show _::U.defers=_;rw[hd],hY.sz,hY.slots,hY.zH,hY.ownf,⟨hY.run.imm,hY.run.fram,hY.run.size,hY.run.base,hY.run.newM,hY.run.os,hY.run.tape,hY.run.output⟩,hY.keep⟩
  have hup: ∀ {st2:St} {M2:Mem} {ρ2:Nat->Value} {a2:Act} {w2:World},Holds C1 st2 M2 ρ2 a2 w2->Holds { C with df:=C1.df } st2 M2 ρ2 a2 w2:=λ{st2 M2 ρ2 a2 w2} h=>by
   refine Holds.up J rfl rfl (λb hb=>⟨qJ hb.1 J.run.size,λ⟨i,r,h1,h2⟩=>J.ownf _ _ b (tk i r h1) h2 hb⟩) h λi r hr=>?_;rw[e4]at hr;have hi:=zL (zK hr);obtain⟨r2,hr2⟩:=vZ (z1 (zE hin i hi));have k1:ρ2 i=ρ' (σ i):=h.keep i r2 hr2;rw[k1,uA (zE hfix i hi)];exact J.keep i r (by rw[e4];exact hr)
  simp only[wpOps,tq,List.getElem?_cons_zero,uZ,Region.wanted,uX,hmk,hdf,Oper.upon,Oper.wp,Exit.then];refine .inl (.inl (wp_mono (hB C1 hC1 M' _ _ w' hH1) λe a2 w2 hl2=>?_));obtain⟨st2,M2,ρ2,hq,hH2⟩:=hl2;simp only[unw]at hq;obtain⟨rq,args1,R1,R1',σ1,hex,hfd,hle,hT1,hi1,hi2,hfr1,hcl,hend⟩:=hq;have hd2:a2.defers=[⟨.fn (.func g) ys.toArray,#[]⟩]:=hH2.dfr
  have hcv:RepVs M2 ρ2 caps ys:=by
   refine RepVs.agree (X:=λi=>i∉Rm.ids) (ρ:=λi=>ρ' (σ i)) (λi hi=>?_) caps ys (λi hi=>xQ hi caps hcc) (RepVs.mono hH2.run.base _ _ hvs);obtain⟨r2,hr2⟩:=vZ (tP.1 hi);exact hH2.keep i r2 hr2
  have e6:RepSs M2 (λi=>ρ2 (σ1 i)) args1 ys:=(RepSs.ren _ _).1 (hle _ _ _ (yA hcv));have tk1: ∀i r,tg (tb R1) i=some r->tg st2.tab (σ1 i)=some (r.ren σ1):=λi r hm=>xi hT1 (zbH (zK hm))
  have e7:xY M2 (λi=>ρ2 (σ1 i)) w2 (tb R1):=⟨λi r hr=>(hH2.zH.res _ _ (tk1 i r hr)).ren,
   λi j ri rj b h1 h2 hne hb1 hb2=>hH2.zH.dis _ _ _ _ b (tk1 i ri h1) (tk1 j rj h2) (yB hi1 i j (zL (zK h1)) (zL (zK h2)) hne) hb1 hb2,
   λi r b h1 hb=>hH2.zH.own _ _ b (tk1 i r h1) hb⟩
  have hi3:injB σ1 (zP R1 R1')=true:=by
   have key: ∀(l:List Nat) (p:Nat->Bool),injB σ1 l=true->injB σ1 (l.filter p)=true:=by
    intro l p
    induction l with
    |nil=>exact λh=>h
    |cons y ys ih=>
     intro h;simp only[injB,um,List.all_eq_true]at h;simp only[qY];split
     ·simp only[injB,um,List.all_eq_true];exact⟨λz hz=>h.1 z (qN.1 hz).1,ih h.2⟩
     ·exact ih h.2
   exact key _ _ hi2
  have hinv:(invoke (.fn (.func g) ys.toArray) #[]).run P w2= .ok (.enter g ys.toArray) w2:=by
   obtain⟨fng,k1,k2,k3⟩:=hfd.1;have hn': ¬(fng.name= "runtime.NumGoroutine"):=by simpa using k2
   have hp:program.run P w2= .ok P w2:=rfl;have hb': ¬fng.body=none:=λe=>by rw[e]at k3;cases k3
   simp[invoke,callFunc,k1,hn',hb',hp]
  have hcall:=hfd.2 M2 _ w2 ys e6 e7 hH2.run.imm hH2.gok
  have done:Leaves P fn a2.tmps (λe w'=> ∃v' M' ρ',e=Ending.returned v'/\Ret M ρ w R res R' v' M' ρ' w') [⟨.fn (.func g) ys.toArray,#[]⟩] (modeOf rq) w2:=by
   refine leaves_cons (by cases rq<;>simp[modeOf]) hinv (hcall.mono λe u' w3 ⟨⟨v,hv⟩,hu,M3,ρ3,hret⟩=>?_);subst hv;simp only[hu];obtain⟨ρ4,h4⟩:=hH2.called (d:=none) hret hT1 hi3 hi2 (zan hC1 hfr1) rfl hcl rfl;exact fin (C':={ C with df:=C1.df }) e4 e1 e2 e3 (hup h4) hend
  cases rq with
  |none=>
   rcases hex with rfl|rfl
   ·simp only[bodyPostD,hd2];exact done
   ·simp only[bodyPostD,hd2];exact done
  |some v=>
   have hex:e= .panic (chn v):=hex;subst hex;simp only[bodyPostD,hd2];exact done
 ·rintro e U w' hne ⟨st,M',ρ',hq,J⟩
  have hq':zdm T rv R res R' e st:=by
   cases e with
   |normal=>exact absurd rfl hne
   |_=>exact hq
  obtain⟨he,hq2⟩:=hq';have hd:U.defers=[]:=by rw[J.dfr,e5]
  have:=fin e4 e1 e2 e3 J ⟨.inl rfl,hq2⟩;rcases he with rfl|rfl
  ·simp only[bodyPostD,hd,Leaves];exact this
  simp_all
variable {g0:Option (Nat×Bool)}{gs:zd}{pv:Value}{t:TypeId}
section
variable {k:List Frm} {n:Nat} {sl:zd}
def zt1{o:Oper}{rs:zd}{rt:RL}{fr:List Nat}{wt:Tab}(hC:C.low)(U:zpG P all o rs rt fr pv wt)(hS:okS rs ⟨n,sl,tab⟩)(hT:okT rt ⟨n,sl,tab⟩)(hF:allB (λid=>Nat.ble 100 id&&freshB id ⟨n,sl,tab⟩) fr=true)
 (g:Goal P C (.fin (.panic (chn pv))) k n sl (wt++tab) Q):Goal P C (.ops all (o::rest) none) k n sl tab Q:=
 λM ρ a w hH=>wpList_step λK _=>U C ⟨n,sl,tab⟩ M ρ a w hH hS hT (zan hC hF) K _ λM' ρ' w' J=>g M' ρ' a w' J
def zo{l:List Operand}{ty:TypeId}(hC:C.low){ss:List S}{first caps:List V}
 (h:zU P f args R pv R') (σ:Nat->Nat) (hx:ev sl x=some (.one (.cl f first caps))) (hl:evs sl l=some ss) (ha:zI (ones first++ss++ones caps) (Ss.ren σ args)) (hi:injB σ R.ids=true) (J:injB σ R'.ids=true)
 (U:xH (R.ids++R'.ids) R'=true) (hT:rdT tab (R.ren σ)=R.ren σ) (hfr:allB (λid=>Nat.ble 100 id&&freshB id ⟨n,sl,tab⟩) ((zP R R').map σ)=true) (hm:metL all sl g0=some gs)
 (g:Goal P C (.fin (.panic (chn pv))) k n sl ((tb (R'.ren σ)++xp (R.ids.map σ))++tab) Q):
 Goal P C (.ops all (⟨d,.call ⟨.value x,l.toArray,ts⟩,ty,ps,af,g0⟩::rest) none) k n sl tab Q:=by
 have e1:=zu (st:=⟨n,sl,tab⟩) hx;have e2:=xl (st:=⟨n,sl,tab⟩) hl;have:=zdn hm (zf3 (ty:=ty) (ps:=ps) (af:=af) (g:=g0) (d:=d) (ts:=ts) h σ e1.1 e2.1 ha hi J U) (n:=n) (tab:=tab);exact zt1 hC this.1 (by rw[za,za];simp_all) (vW hT) hfr g
def xw{v:Value}{ty:TypeId}(hC:C.low)(J:ev sl x=some (.one (.p (.k (.iface t v)))))(U:metL all sl g0=some gs)
 (g:Goal P C (.fin (.panic (chn (.iface t v)))) k n sl tab Q):Goal P C (.ops all (⟨d,.panic x,ty,ps,af,g0⟩::rest) none) k n sl tab Q:=by
 have e1:=zu (st:=⟨n,sl,tab⟩) J;have:=zdn U (zq1 (P:=P) (ty:=ty) (ps:=ps) (af:=af) (g:=g0) (d:=d) e1.1) (n:=n) (tab:=tab);exact zt1 (wt:=[]) hC this.1 (by rw[za];simp_all) trivial rfl g
end
variable {pe:Value}
section
variable {ty:TypeId}
theorem zk8{M:Mem}{ρ:Nat->Value}: ∀ {vs cs:List Value},RepVs M ρ (vs.map λv=>V.p (.k v)) cs->cs=vs/\ ∀v∈vs,v.oneCell'=true
 | [],[],_=>⟨rfl,λ_ h=>by cases h⟩
 | [],_::_,h=>by simp only[qv,RepVs]at h
 |_::_,[],h=>by simp only[uN,RepVs]at h
 |v::vs,c::cs,h=>by
  simp only[uN,RepVs,RepV,RepPV]at h;obtain⟨⟨rfl,h1⟩,h2⟩:=h;obtain⟨rfl,h3⟩:=zk8 h2
  simp_all
theorem zcZ{M:Mem}{ρ:Nat->Value}: ∀ {vs:List Value},(∀v∈vs,v.oneCell'=true)->RepVs M ρ (vs.map λv=>V.p (.k v)) vs
 | [],_=>by simp only[qv,RepVs]
 |v::vs,h=>by
  simp only[uN,RepVs,RepV,RepPV];exact⟨⟨uh,h v ue⟩,zcZ λx J=>h x (by simp[J])⟩
def notIfc(P:Program)(t:TypeId):Bool:=match P.underlying t with
 |some (.interface _)=>false
 |some _=>true
 |none=>false
def zb6(h:notIfc P t=true): ∃u,P.underlying t=some u/\ ∀ms,u≠ .interface ms:=by
 unfold notIfc at h
 grind
def zwx{vs:List Value}(hx:okc x (.agg (vs.map λv=> .p (.k v))))(hu:notIfc P t=true):
 Snd P ⟨d,.makeInterface t x,ty,ps,af,g⟩ (rq x (.agg (vs.map λv=> .p (.k v)))) [] [] (.one (.p (.k (.iface t (.agg vs.toArray))))) []:=
 zk λC st M ρ a w hH h1 hT=>by
  have U:=hH.evS (zt hx h1);simp only[RepS]at U;obtain⟨cs,e2,e3⟩:=U;obtain⟨rfl,_⟩:=zk8 e3;obtain⟨u,J,hu2⟩:=zb6 hu
  exact⟨.iface t (.agg cs.toArray),by
   cases u with
   |interface ms=>simp_all
   |_=>simp[execOp,e2,Instr.makeInterface,run_underlying J,Result.andThen],by simp only[RepS,RepV,RepPV];exact⟨uh,rfl⟩⟩
def zwy{xT:TypeId}{vs:List Value}(hx:okc x (.one (.p (.k (.iface t (.agg vs.toArray))))))(hu:notIfc P t=true)(hv:vs.all Value.oneCell'=true):
 Snd P ⟨d,.typeAssert x xT t true,ty,ps,af,g⟩ (rq x (.one (.p (.k (.iface t (.agg vs.toArray)))))) [] [] (.tup [.agg (vs.map λv=> .p (.k v)),Bo true]) []:=
 zk λC st M ρ a w hH h1 hT=>by
  have e1:=hH.evS (zt hx h1);simp only[RepS,RepV,RepPV]at e1;obtain⟨u,J,hu2⟩:=zb6 hu;refine⟨.tuple #[.agg vs.toArray,.bool true],?_,?_⟩
  ·rw[show execOp a.eval ⟨d,.typeAssert x xT t true,ty,ps,af,g⟩=Instr.typeAssert (a.eval x) xT t true >>= λv=>pure (.value v) from by simp[execOp]];rw[e1.1];cases u with
   |interface ms=>simp_all
   |_=>simp[Instr.typeAssert,run_underlying J,go_sem,Result.andThen]
  ·simp only[RepS];refine⟨[.agg vs.toArray,.bool true],rfl,?_⟩;simp only[RepSs,RepS,RepV,RepPV];exact⟨⟨vs,rfl,zcZ λv U=>List.all_eq_true.1 hv v U⟩,⟨uh,rfl⟩,uh⟩
def zwz{t' te:TypeId}{neg:Bool}(hx:okc x (.one (.p (.k (.iface te pe)))))(J:isIfc P t=true):
 Snd P ⟨d,.binOp (if neg=true then .neq else .eql) t x (.const .nilIface) t',ty,ps,af,g⟩ (rq x (.one (.p (.k (.iface te pe))))) [] [] (Bo neg) []:=
 zk λC st M ρ a w hH h1 hT=>by
  obtain⟨ms,J⟩:=zaF J;have U:=hH.evS (zt hx h1);simp only[RepS,RepV,RepPV]at U;have h: ∀q:Nat,(Op.equalIn (q+1) t (.iface te pe) .nilIface).run P w= .ok false w:=λq=>by simp[Op.equalIn,run_underlying J]
  have e0:a.eval (.const .nilIface)= .nilIface:=rfl;refine⟨.bool neg,?_,ztb neg⟩;cases neg with
  |true=>
   simp only[execOp,uX,U.1,e0,Sem.run_bind];simp[eqGuard,binOp,Op.equal,Op.maxDepth,h 9999,Sem.run_pure]
  |false=>
   simp only[execOp,uB,uM,U.1,e0,Sem.run_bind];simp[eqGuard,binOp,Op.equal,Op.maxDepth,h 9999,Sem.run_pure]
end
variable {md:Mode}
section
variable {k:List Frm} {n:Nat} {sl:zd}
def zb7{d:Nat}{ty:TypeId}(hC:C.low)(vs:List Value)(J:ev sl x=some (.agg (vs.map λv=> .p (.k v))))(U:notIfc P t=true)(hm:metL all sl g0=some gs)(hd:Nat.blt d n=true)
 (g:Goal P C (.ops all rest (nx md ⟨some d,gs++rq x (.agg (vs.map λv=> .p (.k v))),[],[],.one (.p (.k (.iface t (.agg vs.toArray)))),[]⟩)) k n ((d,.one (.p (.k (.iface t (.agg vs.toArray)))))::sl) tab Q):
 Goal P C (.ops all (⟨some d,.makeInterface t x,ty,ps,af,g0⟩::rest) md) k n sl tab Q:=by
 have e1:=zu (st:=⟨n,sl,tab⟩) J;have:=zj hm (zwx (P:=P) (ty:=ty) (ps:=ps) (af:=af) (g:=g0) (d:=some d) (t:=t) e1.1 U) (n:=n) (tab:=tab);exact zN (L:=⟨some d,gs++rq x (.agg (vs.map λv=> .p (.k v))),[],[],.one (.p (.k (.iface t (.agg vs.toArray)))),[]⟩) hC this.1 rfl ⟨by rw[za];simp_all,trivial,rfl,hd⟩ g
def zrn{d:Nat}{xT ty:TypeId}(hC:C.low)(vs:List Value)(J:ev sl x=some (.one (.p (.k (.iface t (.agg vs.toArray))))))(U:notIfc P t=true)(hv:vs.all Value.oneCell'=true)(hm:metL all sl g0=some gs)(hd:Nat.blt d n=true)
 (g:Goal P C (.ops all rest (nx md ⟨some d,gs++rq x (.one (.p (.k (.iface t (.agg vs.toArray))))),[],[],.tup [.agg (vs.map λv=> .p (.k v)),Bo true],[]⟩)) k n ((d,.tup [.agg (vs.map λv=> .p (.k v)),Bo true])::sl) tab Q):
 Goal P C (.ops all (⟨some d,.typeAssert x xT t true,ty,ps,af,g0⟩::rest) md) k n sl tab Q:=by
 have e1:=zu (st:=⟨n,sl,tab⟩) J;have:=zj hm (zwy (P:=P) (ty:=ty) (ps:=ps) (af:=af) (g:=g0) (d:=some d) (xT:=xT) e1.1 U hv) (n:=n) (tab:=tab);exact zN (L:=⟨some d,gs++rq x (.one (.p (.k (.iface t (.agg vs.toArray))))),[],[],.tup [.agg (vs.map λv=> .p (.k v)),Bo true],[]⟩) hC this.1 rfl ⟨by rw[za];simp_all,trivial,rfl,hd⟩ g
def zk9{d:Nat}{t' te ty:TypeId}(hC:C.low)(J:ev sl x=some (.one (.p (.k (.iface te pe)))))(U:isIfc P t=true)(hm:metL all sl g0=some gs)(hd:Nat.blt d n=true)
 (g:Goal P C (.ops all rest (nx md ⟨some d,gs++rq x (.one (.p (.k (.iface te pe)))),[],[],Bo true,[]⟩)) k n ((d,Bo true)::sl) tab Q):
 Goal P C (.ops all (⟨some d,.binOp .neq t x (.const .nilIface) t',ty,ps,af,g0⟩::rest) md) k n sl tab Q:=by
 have e1:=zu (st:=⟨n,sl,tab⟩) J;have:=zj hm (zwz (P:=P) (ty:=ty) (ps:=ps) (af:=af) (g:=g0) (d:=some d) (t':=t') (neg:=true) e1.1 U) (n:=n) (tab:=tab);exact zN (L:=⟨some d,gs++rq x (.one (.p (.k (.iface te pe)))),[],[],Bo true,[]⟩) hC this.1 rfl ⟨by rw[za];simp_all,trivial,rfl,hd⟩ g
end
section
variable {k:List Frm} {n:Nat} {sl:zd} {cur:Cur}
def zro(id:Nat){ids:List Nat}{e:Nat}{rows:List (List PC)}(U:lst cur=true)(J:tg tab id=some (.vw ids e rows))(g:rows.length<=9223372036854775807->Goal P C cur k n sl tab Q):Goal P C cur k n sl tab Q:=
 zh0 (λa r p e=>by subst e;cases U) (λ{M ρ a w} h=>by
  obtain⟨_,_,_,h1,h2,_⟩:=h.zH.res id _ J
  omega) g
def zla(id:Nat){e:Nat}{rows:List (List PV)}(U:lst cur=true)(J:tg tab id=some (.arr e rows))(g:rows.length<=9223372036854775807->Goal P C cur k n sl tab Q):Goal P C cur k n sl tab Q:=
 zh0 (λa r p e=>by subst e;cases U) (λ{M ρ a w} h=>by
  obtain⟨_,_,_,h1,h2,_⟩:=h.zH.res id _ J
  omega) g
end
def zwA(T:Ty P)(rv:List ResultVar)(R:RL):End->Exit->St->Prop
 | .ok res R'=>zdm T rv R res R'
 | .pn pv R'=>zwh pv R R'
 | .no=>λ_ _=>True
theorem zxs(T:Ty P){en:End}(hf:P.funcs[f]?=some fn)
 (J:(fn.name== "runtime.NumGoroutine")=false) (hb:fn.body=some c) (hrv:fn.results=rv.toArray) (U:allB (λi=>Nat.blt i 100) R.ids=true)
 (hn:Nat.ble args.length fn.ntmps=true) (body: ∀C:Ctx,C.low->Goal P C (.code c) [] fn.ntmps (enum 0 args) (tb R) (zwA T rv R en)):FnX P f args R en:=by
 cases en with
 |ok res R'=>exact zqY T hf J hb hrv U hn body
 |pn pv R'=>exact zR T hf J hb U hn body
 |no=>trivial
section
variable {n:Nat} {sl:zd} {T:Ty P}
def zdH{e:Exit}(h:zdm T rv R res R' e ⟨n,sl,tab⟩):Goal P C (.fin e) [] n sl tab (zwA T rv R (.ok res R')):=zi h
def zfa{e:Exit}(h:zwh pv R R' e ⟨n,sl,tab⟩):Goal P C (.fin e) [] n sl tab (zwA T rv R (.pn pv R')):=zi h
end
end Hw
namespace Hw.Gm
open Go Go.Proofs Hw.M Ps
def idxI:Option Nat->Int
 |some i=>i
 |none=> -1
def jz(f:FuncId)(l:List Fld)(p:Fld->Str->Bool)(nx:Fld->Str->Str)(inv:Str->Prop)
 (hf: ∀x∈l,∀s:Str,inv s->zf Tryz.prog f [zr (zG x),.one (.bx 0 0)] [(0,.box [.p (ks s)])] (.bq (p x s)) ((λs:Str=>[(0,.box [.p (ks s)])]) (nx x s))/\(p x s=false->inv (nx x s))) (s:Str) (hs:inv s):
 zf Tryz.prog 97 [pS (.sl 2 (l.map zG)),.one (.cl f [] [.bx 0 0])] [(0,.box [.p (ks s)])] (I (idxR p nx l 0 s).1) ((λs:Str=>[(0,.box [.p (ks s)])]) (idxR p nx l 0 s).2):=by
 refine gO T Tryz.func97 λC hC=>?_;have hs0:=hs;refine wi 0 rfl λhl=>?_;rw[uk]at hl
 repeat' first|refine gG ?_|refine gB ?_ ?_<;>intro h
 rw[uk]
 refine zn (λq:Nat×Str=>q.1<=l.length/\inv q.2/\idxR p nx (l.drop q.1) q.1 q.2=idxR p nx l 0 s) (λq=>(λs:Str=>([(0,pS (.sl 2 (l.map zG))),(1,.one (.cl f [] [.bx 0 0])),(7,I l.length),(8,I q.1)],[(0,some (.box [.p (ks s)]))])) q.2) (λq=>l.length - q.1) hC
  (0,s) ⟨uE _,hs,rfl⟩ id gM ?_
 generalize idxR p nx l 0 s=res;clear hs hs0;rintro⟨i,s⟩ ⟨hi,hv,J⟩;simp only at hi hv J;refine zm T hC true 200 rfl ?_;refine zp rfl ?_ ?_<;>intro hh
 ·have hlt:i<l.length:=by simpa using hh
  clear hh;obtain⟨x,hx⟩:=zb hlt;rw[drop_at hx]at J;simp only[idxR]at J;have hv2:=(hf x (uv hx) s hv).2
  repeat' first|refine gG ?_|refine gB ?_ ?_<;>intro h|refine gI T (zq hx) ?_|refine yh hC (hf x (uv hx) s hv).1 id rfl rfl (zI.refl _) rfl rfl rfl rfl rfl rfl rfl rfl ?_|refine zl ?_
  ·rw[uw uf]at J;subst J;exact gE
  ·have U:p x s=false:=by assumption
   rw[U]at J;simp only[uB,uM]at J;rw[wrap64 ua];exact zh (i+1,nx x s) ⟨by simp only;omega,hv2 U,J⟩ id (by simp only;omega) gM
 ·have hge: ¬i<l.length:=by simpa using hh
  rw[uC ua]at J;simp only[idxR]at J;subst J
  repeat' first|refine gG ?_|refine gB ?_ ?_<;>intro h|refine ze ?_
  exact gE
def zlb(f:FuncId)(l:List z7)(p:z7->Str->Bool)(nx:z7->Str->Str)(inv:Str->Prop)
 (hf: ∀x∈l,∀s:Str,inv s->zf Tryz.prog f [zr (zW x),.one (.bx 0 0)] [(0,.box [.p (ks s)])] (.bq (p x s)) ((λs:Str=>[(0,.box [.p (ks s)])]) (nx x s))/\(p x s=false->inv (nx x s))) (s:Str) (hs:inv s):
 zf Tryz.prog 115 [pS (.sl 2 (l.map zW)),.one (.cl f [] [.bx 0 0])] [(0,.box [.p (ks s)])] (I (idxR p nx l 0 s).1) ((λs:Str=>[(0,.box [.p (ks s)])]) (idxR p nx l 0 s).2):=by
 refine gO T Tryz.func115 λC hC=>?_;have hs0:=hs;refine wi 0 rfl λhl=>?_;rw[uk]at hl
 repeat' first|refine gG ?_|refine gB ?_ ?_<;>intro h
 rw[uk]
 refine zn (λq:Nat×Str=>q.1<=l.length/\inv q.2/\idxR p nx (l.drop q.1) q.1 q.2=idxR p nx l 0 s) (λq=>(λs:Str=>([(0,pS (.sl 2 (l.map zW))),(1,.one (.cl f [] [.bx 0 0])),(7,I l.length),(8,I q.1)],[(0,some (.box [.p (ks s)]))])) q.2) (λq=>l.length - q.1) hC
  (0,s) ⟨uE _,hs,rfl⟩ id gM ?_
 generalize idxR p nx l 0 s=res;clear hs hs0;rintro⟨i,s⟩ ⟨hi,hv,J⟩;simp only at hi hv J;refine zm T hC true 200 rfl ?_;refine zp rfl ?_ ?_<;>intro hh
 ·have hlt:i<l.length:=by simpa using hh
  clear hh;obtain⟨x,hx⟩:=zb hlt;rw[drop_at hx]at J;simp only[idxR]at J;have hv2:=(hf x (uv hx) s hv).2
  repeat' first|refine gG ?_|refine gB ?_ ?_<;>intro h|refine gI T (zq hx) ?_|refine yh hC (hf x (uv hx) s hv).1 id rfl rfl (zI.refl _) rfl rfl rfl rfl rfl rfl rfl rfl ?_|refine zl ?_
  ·rw[uw uf]at J;subst J;exact gE
  ·have U:p x s=false:=by assumption
   rw[U]at J;simp only[uB,uM]at J;rw[wrap64 ua];exact zh (i+1,nx x s) ⟨by simp only;omega,hv2 U,J⟩ id (by simp only;omega) gM
 ·have hge: ¬i<l.length:=by simpa using hh
  rw[uC ua]at J;simp only[idxR]at J;subst J
  repeat' first|refine gG ?_|refine gB ?_ ?_<;>intro h|refine ze ?_
  exact gE
def zlc(f:FuncId)(l:List Pr)(p:Pr->Str->Bool)(nx:Pr->Str->Str)(inv:Str->Prop)
 (hf: ∀x∈l,∀s:Str,inv s->zf Tryz.prog f [zr (zJ x),.one (.bx 0 0)] [(0,.box [.p (ks s)])] (.bq (p x s)) ((λs:Str=>[(0,.box [.p (ks s)])]) (nx x s))/\(p x s=false->inv (nx x s))) (s:Str) (hs:inv s):
 zf Tryz.prog 56 [pS (.sl 5 (l.map zJ)),.one (.cl f [] [.bx 0 0])] [(0,.box [.p (ks s)])] (I (idxR p nx l 0 s).1) ((λs:Str=>[(0,.box [.p (ks s)])]) (idxR p nx l 0 s).2):=by
 refine gO T Tryz.func56 λC hC=>?_;have hs0:=hs;refine wi 0 rfl λhl=>?_;rw[uk]at hl
 repeat' first|refine gG ?_|refine gB ?_ ?_<;>intro h
 rw[uk]
 refine zn (λq:Nat×Str=>q.1<=l.length/\inv q.2/\idxR p nx (l.drop q.1) q.1 q.2=idxR p nx l 0 s) (λq=>(λs:Str=>([(0,pS (.sl 5 (l.map zJ))),(1,.one (.cl f [] [.bx 0 0])),(7,I l.length),(8,I q.1)],[(0,some (.box [.p (ks s)]))])) q.2) (λq=>l.length - q.1) hC
  (0,s) ⟨uE _,hs,rfl⟩ id gM ?_
 generalize idxR p nx l 0 s=res;clear hs hs0;rintro⟨i,s⟩ ⟨hi,hv,J⟩;simp only at hi hv J;refine zm T hC true 200 rfl ?_;refine zp rfl ?_ ?_<;>intro hh
 ·have hlt:i<l.length:=by simpa using hh
  clear hh;obtain⟨x,hx⟩:=zb hlt;rw[drop_at hx]at J;simp only[idxR]at J;have hv2:=(hf x (uv hx) s hv).2
  repeat' first|refine gG ?_|refine gB ?_ ?_<;>intro h|refine gI T (zq hx) ?_|refine yh hC (hf x (uv hx) s hv).1 id rfl rfl (zI.refl _) rfl rfl rfl rfl rfl rfl rfl rfl ?_|refine zl ?_
  ·rw[uw uf]at J;subst J;exact gE
  ·have U:p x s=false:=by assumption
   rw[U]at J;simp only[uB,uM]at J;rw[wrap64 ua];exact zh (i+1,nx x s) ⟨by simp only;omega,hv2 U,J⟩ id (by simp only;omega) gM
 ·have hge: ¬i<l.length:=by simpa using hh
  rw[uC ua]at J;simp only[idxR]at J;subst J
  repeat' first|refine gG ?_|refine gB ?_ ?_<;>intro h|refine ze ?_
  exact gE
def zld(x:Fld)(s:Str):zf Tryz.prog 291 [zr (zG x),.one (.bx 0 0)] [(0,.box [.p (ks s)])] (.bq (decide (x.n=s))) [(0,.box [.p (ks s)])]:=by
 refine gO T Tryz.func291 λC hC=>?_
 repeat' first|refine gG ?_|refine gB ?_ ?_<;>intro h
 all_goals exact gE
def zjl(x:Pr)(s:Str):zf Tryz.prog 259 [zr (zJ x),.one (.bx 0 0)] [(0,.box [.p (ks s)])] (.bq (decide (x.n=s))) [(0,.box [.p (ks s)])]:=by
 refine gO T Tryz.func259 λC hC=>?_
 repeat' first|refine gG ?_|refine gB ?_ ?_<;>intro h
 all_goals exact gE
def zjm(x:z7)(s:Str):zf Tryz.prog 297 [zr (zW x),.one (.bx 0 0)] [(0,.box [.p (ks s)])] (.bq (decide (x.n=s))) [(0,.box [.p (ks s)])]:=by
 refine gO T Tryz.func297 λC hC=>?_
 repeat' first|refine gG ?_|refine gB ?_ ?_<;>intro h
 all_goals exact gE
theorem zle{α σ:Type}(p:α->Bool): ∀(l:List α) (k:Nat) (s:σ),(idxR (λx _=>p x) (λ_ s=>s) l k s)=(match l.findIdx? p with|some i=>((k+i:Nat):Int)|none=> -1,s)
 | [],k,s=>rfl
 |x::r,k,s=>by
  simp only[idxR,List.findIdx?_cons];by_cases h:p x=true
  ·rw[uw h,uw h];rfl
  ·rw[ur h,ur h,zle p r (k+1) s];cases r.findIdx? p with
   |none=>rfl
   |some i=>simp only[uH];rw[show k+1+i=k+(i+1) by omega]
theorem yX{α σ:Type}(p:α->Bool)(l:List α)(s:σ):(idxR (λx _=>p x) (λ_ s=>s) l 0 s)=(idxI (l.findIdx? p),s):=by
 rw[zle];cases l.findIdx? p with
 |none=>rfl
 |some i=>simp only[tM,idxI]
def zdI(l:List Fld)(s:Str):zf Tryz.prog 275 [pS (zC l),Sr s] [] (I (idxI (ixF l s))) []:=by
 have J:=jz 291 l (λx _=>decide (x.n=s)) (λ_ s=>s) (λc=>c=s) (λx hx c U=>⟨by subst U;exact zld x c,λ_=>U⟩) s rfl;rw[yX]at J;refine gO T Tryz.func275 λC hC=>?_
 repeat' first|refine gG ?_|refine gB ?_ ?_<;>intro h|refine gR J (nm [1003]) ?_
 exact gF
def zb8(d:zg)(s:Str):zf Tryz.prog 230 [zr (zA d),Sr s] [] (I (idxI (zaZ d s))) []:=by
 have J:=zlc 259 d.procs (λx _=>decide (x.n=s)) (λ_ s=>s) (λc=>c=s) (λx hx c U=>⟨by subst U;exact zjl x c,λ_=>U⟩) s rfl;rw[yX]at J;refine gO T Tryz.func230 λC hC=>?_
 repeat' first|refine gG ?_|refine gB ?_ ?_<;>intro h|refine gR J (nm [1003]) ?_
 exact gF
def zgC(q:Int×Int×Int):List PV:=[ki q.1,ki q.2.1,ki q.2.2]
def mcC(d:zg)(fuel:Int)(m:Mc)(g n a:Nat):List V:=(zA d).map V.p++[.ar g,.ar n,.p (ki fuel),.p (ki m.ticks),.p (ki m.calls),.p (ki m.comps),.ar a]
abbrev mcR(d:zg)(fuel:Int)(m:Mc)(g n b a:Nat):RL:=[(0,.box (mcC d fuel m g n a)),(g,.arr 1 (m.g.map z8)),(n,.vw [b] 2 (wRows m.ns 0)),(b,.bag 1 (jR m.ns)),(a,.arr 3 (m.acc.map zgC))]
abbrev znD(e:Int):Value:= .iface 294 (.agg #[.int .i64 e])
def zlf(d:zg)(fuel:Int)(m:Mc)(s:Str):zf Tryz.prog 286 [.one (.bx 0 0),Sr s] (mcR d fuel m 1 2 3 4) (I (idxI (zq0 d s))) (mcR d fuel m 1 2 3 4):=by
 have J:=zlb 297 d.types (λx _=>decide (x.n=s)) (λ_ s=>s) (λc=>c=s) (λx hx c U=>⟨by subst U;exact zjm x c,λ_=>U⟩) s rfl;rw[yX]at J;refine gO T Tryz.func286 λC hC=>?_
 repeat' first|refine gG ?_|refine gB ?_ ?_<;>intro h|refine gR J (nm [1003]) ?_
 exact gE
def vB(e:Int):zU Tryz.prog 232 [.un,I e] [] (znD e) []:=by
 refine zR T Tryz.func232 ud rfl rfl rfl λC hC=>?_
 repeat' first|refine gG ?_|refine gB ?_ ?_<;>intro h|refine zb7 hC [.int .i64 e] rfl ud rfl rfl ?_
 refine xw hC rfl rfl ?_;exact zi ⟨rfl,id,trivial,rfl,rfl⟩
def jf(d:zg)(fuel:Int)(m:Mc)(k n f:Int)(h:m.acc.length<1099511627776):zf Tryz.prog 276 [.one (.bx 0 0),I k,I n,I f] (mcR d fuel m 1 2 3 4) (.tup []) (mcR d fuel { m with acc:=m.acc++[(k,n,f)] } 1 2 3 9):=by
 have happ:m.acc.map zgC++[zgC (k,n,f)]=(m.acc++[(k,n,f)]).map zgC:=by rw[u6];rfl
 refine gO T Tryz.func276 λC hC=>?_
 repeat' first|refine gG ?_|refine gB ?_ ?_<;>intro h|refine gT ?_|(refine gY T 109 ((m.acc++[(k,n,f)]).map zgC) 24 ?_)
 exact zi ⟨.inr rfl,nm [0,1,2,3,4,5,6,7,8,109],_,rfl,.refl _,⟨rfl,rfl,rfl,rfl,rfl,uh⟩,rfl,rfl⟩
end Hw.Gm
