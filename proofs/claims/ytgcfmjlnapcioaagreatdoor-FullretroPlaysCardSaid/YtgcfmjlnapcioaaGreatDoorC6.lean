import Derived.Test.YtgcfmjlnapcioaaGreatDoorC5
import Derived.Test.YtgcfmjlnapcioaaGreatDoorProg
import Derived.KernelRfl
import Derived.Shelf.Sort.Plain
import Derived.Test.YtgcfmjlnapcioaaGreatDoorC1
import Derived.Sort.Grow
import Derived.Shelf.Slices.In.SortNone
import Derived.Shelf.SlicesE.Delete
import Derived.Shelf.SlicesE.Reverse
import Derived.Shelf.Spec.SlicesInsertGrow
set_option linter.unusedVariables false
set_option linter.unusedSimpArgs false
namespace Hw.Fr.Md
open Go Go.Proofs Hw.M
def pk(k:Int)(x:Int):Bool:=wH x&& !(decide (k=6)&&(decide (x<0)||decide (255<x)))
theorem zt9(x:Int):pk 6 x=zdn x:=by
 unfold pk zdn wH
 rw[uK rfl,tr]
 by_cases h0:0<=x
 ·by_cases h1:x<=255
  ·rw[uK (by omega: -1048576<=x),uK (by omega:x<=1048576),uK h0,uK h1,uJ (by omega: ¬x<0),uJ (by omega: ¬255<x)];rfl
  ·rw[uJ h1,uK (by omega:255<x)];simp
 ·rw[uJ h0,uK (by omega:x<0)];simp
theorem zua{k:Int}(h:k≠6)(x:Int):pk k x=wH x:=by unfold pk;rw[uJ h];simp
variable {x:Int}
theorem zwN{k:Int}(h1:(!wH x)=false)(h2:k=6->decide (x<0)=false/\decide (255<x)=false):pk k x=true:=by
 unfold pk
 by_cases hk:k=6
 ·rw[(h2 hk).1,(h2 hk).2];simpa using h1
 ·rw[uJ hk];simpa using h1
theorem zwO{k:Int}(h:(!wH x)=true\/decide (k=6)=true/\(decide (x<0)=true\/decide (255<x)=true)):pk k x=false:=by
 unfold pk
 rcases h with h|⟨h1,h|h⟩
 ·rw[show wH x=false by simpa using h];rfl
 ·rw[h1,h];simp
 ·rw[h1,h];simp
variable {i:Nat}{w:Str×Int×Bool}
theorem zpx{k:Int}(hk:1<=k/\k<=6)(h:(yf k)[i]?=some w):(k=6/\(w.2.1= -1\/w.2.1=0))\/(k≠6/\0<=w.2.1/\w.2.1<=4):=by
 have hm:=List.mem_of_getElem? h
 clear h
 revert w
 rcases kinds hk with rfl|rfl|rfl|rfl|rfl|rfl<;>decide
theorem zpy{k c:Int}{ags:List Int}(hk:1<=k/\k<=6)(hc:1<=c)(hw:(yf k)[(c - 1).toNat]?=some w):
 okOp k ⟨c,ags⟩=(decide (ags.length<=64)&& !((decide (0<=w.2.1)&& !decide ((ags.length:Int)=w.2.1))||(decide (w.2.1<0)&&decide (ags.length=0)))&&ags.all (pk k)):=by
 unfold okOp
 simp only[hw]
 rw[uK hc,tr]
 rcases zpx hk hw with⟨rfl,h|h⟩|⟨h6,h0,h4⟩
 ·rw[show(pk 6)=zdn from funext zt9,h]
  by_cases h1:ags.length=0
  ·have:ags=[]:=uS.1 h1
   subst this;rfl
  ·simp[h1]
   by_cases h2:ags.length<=64
   ·have:1<=ags.length:=by omega
    simp[h2,this]
   ·simp[h2]
 ·rw[h]
  by_cases h1:ags.length=0
  ·have:ags=[]:=uS.1 h1
   subst this;rfl
  ·have:ags≠ []:=λe=>h1 (by rw[e];rfl)
   simp[this]
 ·rw[show(pk k)=wH from funext (zua h6),ur ua]
  by_cases h1:(ags.length:Int)=w.2.1
  ·rw[uK h1,uK (by omega:ags.length<=64),uK h0,uJ (by omega: ¬w.2.1<0)];simp
  ·rw[uJ h1,uK h0];simp
theorem zgO(k:Int)(o:OpT):zk Tryz.prog 72 [I k,zm (opR o)] [] (.bq (okOp k o)) []:=by
 obtain⟨c,ags⟩:=o
 by_cases hk:1<=k/\k<=6
 case neg=>
  rw[show okOp k ⟨c,ags⟩=false by unfold okOp;rw[zaY hk];simp]
  refine gO T Tryz.func72 λC hC=>?_
  repeat' first|refine gG ?_|exact gP|refine gB ?_ ?_<;>intro h|refine gQ ?_|refine gL ?_
  all_goals rfl
 have hW:=ze7 hk
 have hnl:=zmQ (k:=k)
 have h8:=vE (k:=k)
 by_cases hc:1<=c
 case neg=>
  rw[show okOp k ⟨c,ags⟩=false by unfold okOp;simp[hc]]
  refine gO T Tryz.func72 λC hC=>?_
  repeat' first|refine gG ?_|exact gP|refine gB ?_ ?_<;>intro h|refine gC hW ?_|refine gQ ?_|refine gL ?_
  all_goals rfl
 cases hw:(yf k)[(c - 1).toNat]? with
 |none=>
  have hge:=Um.1 hw
  rw[show okOp k ⟨c,ags⟩=false by unfold okOp;simp only[hw,qz]]
  refine gO T Tryz.func72 λC hC=>?_
  repeat' first|refine gG ?_|exact gP|refine gB ?_ ?_<;>intro h|refine gC hW ?_|refine gQ ?_|refine gL ?_
  all_goals rfl
 |some w=>
  have hlt:=(ui.1 hw).1
  have hA:=zmR hk hc hw
  rw[zpy hk hc hw]
  obtain⟨s,a,u⟩:=w
  simp only at hA
  simp only
  refine gO T Tryz.func72 λC hC=>?_
  refine jm rfl 1 1 rfl rfl λhlen=>?_
  rw[uj]at hlen
  simp only at hlen
  repeat' first|refine gG ?_|exact gP|refine gB ?_ ?_<;>intro h|refine gC hW ?_|refine gC hA ?_|refine gL ?_
  any_goals (clear hW hA;(try simp only[uj]at*);first|rfl|(simp;done)|(simp_all;done)|(simp_all;omega))
  all_goals
   clear hA hW hw hnl h8 hlt hk hc
   refine zn (λi:Nat=>i<=(ags).length/\(ags.take i).all (pk k)=true) (λi=>([(0,I k),(3,.one (.bx 1003 0)),(6,I i)],[(1003,some (.box ((opR ⟨c,ags⟩).map V.p)))])) (λi=>(ags).length - i) hC
    0 ⟨uA _,ue⟩ id gM ?_
   rintro i ⟨hi,hn⟩
   refine zr T hC true 200 rfl ?_
   refine zu rfl ?_ ?_<;>intro h
   ·have hlt:i<ags.length:=by simpa using h
    clear h
    obtain⟨x,hx⟩:=ze hlt
    repeat' first|refine gG ?_|refine gB ?_ ?_<;>intro h|refine gX ?_|refine gC (zt6 _) ?_|refine zx ?_|refine gL ?_
    all_goals first
     |(have hp:=zwN (k:=k) (x:=x) uf (λhk6=>by first|exact⟨uf,uf⟩|exact absurd hk6 (uq uf))
       rw[wrap64 ua]
       refine zf (i+1) ⟨ua,?_⟩ id ua gM
       rw[ya (p:=pk k) hx,hn,tr];exact hp)
     |(have hp:pk k x=false:=zwO (by first|exact .inl uf|exact .inr ⟨uf,.inl uf⟩|exact .inr ⟨uf,.inr uf⟩)
       rw[xJ (p:=pk k) hx hp,qz])
   have hge: ¬i<ags.length:=by simpa using h
   have hall:ags.all (pk k)=true:=xm (p:=pk k) ua hn
   clear h hge hn hi
   repeat' first|refine gG ?_|refine gB ?_ ?_<;>intro h|refine zj ?_|refine gL ?_
   rw[hall]
   simp only[uj]at*
   simp_all
   try omega
theorem zeA{l:List Int}(h:l[i]?=some x):l.drop i=x::l.drop (i+1):=by
 obtain⟨hi,rfl⟩:=ui.1 h
 exact tS hi
theorem zdG(a b:List Int):zk Tryz.prog 129 [pS (zA a),pS (zA b)] [] (I (cmpI a b)) []:=by
 refine gO T Tryz.func129 λC hC=>?_
 refine jq 0 rfl λhlen=>?_
 rw[uj]at hlen
 repeat' first|refine gG ?_|refine gB ?_ ?_<;>intro h
 rw[uj]
 refine zn (λi:Nat=>i<=a.length/\i<=b.length/\cmpI (a.drop i) (b.drop i)=cmpI a b) (λi=>([(0,pS (zA a)),(1,pS (zA b)),(9,pS (zA a)),(10,I a.length),(11,I i)],[])) (λi=>a.length - i) hC
  0 ⟨uA _,uA _,rfl⟩ id gM ?_
 rintro i ⟨hi,hj,hn⟩
 refine zr T hC true 200 rfl ?_
 refine zu rfl ?_ ?_<;>intro h
 ·have hlt:i<a.length:=by simpa using h
  clear h
  obtain⟨x,hx⟩:=ze hlt
  rw[zeA hx]at hn
  by_cases hb:i<b.length
  ·obtain⟨y,hy⟩:=ze hb
   rw[zeA hy]at hn
   simp only[cmpI]at hn
   repeat' first|refine gG ?_|exact gP|refine gB ?_ ?_<;>intro h|refine gI T (zg hx) ?_|refine gI T (zg hy) ?_|refine gC (zr4 _ _) ?_|refine zx ?_|refine gN ?_
   ·unfold zt5 at h⊢
    rw[<-hn]
    by_cases h1:x<y
    ·rw[uv h1,uv h1]
    ·rw[ur h1,ur h1]
     by_cases h2:y<x
     ·rw[uv h2,uv h2]
     ·rw[ur h1,ur h2]at h;simp at h
   ·have hxy:x=y:=by
     unfold zt5 at h
     by_cases h1:x<y
     ·rw[uv h1]at h;simp at h
     ·rw[ur h1]at h
      by_cases h2:y<x
      ·rw[uv h2]at h;simp at h
      ·omega
    subst hxy
    rw[ur ua,ur ua]at hn
    rw[zC ua]
    exact zf (i+1) ⟨ua,ua,hn⟩ id ua gM
  ·rw[tR (l:=b) ua]at hn
   simp only[cmpI]at hn
   repeat' first|refine gG ?_|exact gP|refine gB ?_ ?_<;>intro h|refine gI T (zg hx) ?_|refine zx ?_|refine gN ?_
   exact hn
 ·have hge: ¬i<a.length:=by simpa using h
  rw[tR (l:=a) ua]at hn
  by_cases hb:i<b.length
  ·obtain⟨y,hy⟩:=ze hb
   rw[zeA hy]at hn
   simp only[cmpI]at hn
   repeat' first|refine gG ?_|exact gP|refine gB ?_ ?_<;>intro h|refine zj ?_|refine gN ?_
   exact hn
  ·rw[tR ua]at hn
   simp only[cmpI]at hn
   repeat' first|refine gG ?_|exact gP|refine gB ?_ ?_<;>intro h|refine zj ?_|refine gN ?_
   exact hn
theorem ziV(a b:Rw):ltC 0 a b=false:=by cases a<;>cases b<;>rfl
theorem ziW(r key:Rw)(h:key.length<=r.length)(h2:key.length<=1000):zk Tryz.prog 157 [pS (zA r),pS (zA key)] [] (I (cmpI (r.take key.length) key)) []:=by
 have hX:=zdG (r.take key.length) key
 refine gO T Tryz.func157 λC hC=>?_
 repeat' first|refine gG ?_|refine gB ?_ ?_<;>intro h|(refine jx T hC ((r.take key.length).map zR) rfl rfl rfl (uw _) (by simp only[uj];omega) (by simp only[uj,uF,qM]) rfl rfl ?_)|refine gC hX ?_
 exact gF
variable {R:Rws}{c:Nat}{r:Rw}
theorem zr7{a:Rw}(h:R[yD c R a]?=some r):hasC c R a=decide (r.take c=a.take c):=by unfold hasC;rw[h]
theorem zpz(R:Rws)(key:Rw)(hk:key.length<=1000)(hR:R.length<=1000)(hw: ∀r∈R,key.length<=r.length)(hm: ∀(i j:Nat) r s,i<=j->R[i]?=some r->R[j]?=some s->ltC key.length s key=true->ltC key.length r key=true):
 zk Tryz.prog 156 [pS (yp R),pS (zA key),.one (.cl 157 [] [])] [] (.tup [I (yD key.length R key),.bq (hasC key.length R key)]) []:=by
 have key_take:key.take key.length=key:=tW
 have hcmp: ∀r∈R,(cmpI (r.take key.length) key<0↔ltC key.length r key=true)/\(cmpI (r.take key.length) key=0↔r.take key.length=key):=λr hr=>by
  have:=ziP key.length r key (hw r hr) (uG _)
  rw[key_take]at this
  exact this
 refine gO T Tryz.func156 λC hC=>?_
 repeat' first|refine gG ?_|refine gB ?_ ?_<;>intro h
 rw[uj]
 refine zn (λp:Nat×Nat=>p.1<=p.2/\p.2<=R.length/\(∀(t:Nat) r,t<p.1->R[t]?=some r->ltC key.length r key=true)/\(∀(t:Nat) r,p.2<=t->R[t]?=some r->ltC key.length r key=false)) (λp=>([(0,pS (yp R)),(1,pS (zA key)),(2,.one (.cl 157 [] [])),(8,I R.length),(9,I p.1),(10,I p.2)],[])) (λp=>p.2 - p.1) hC
  (0,R.length) ⟨uA _,uG _,λt r h=>absurd h (q8 _),λt r h hr=>absurd (ui.1 hr).1 ua⟩ id gM ?_
 rintro⟨i,j⟩ ⟨hij,hj,hb,ha⟩
 simp only at hij hj hb ha
 refine zr T hC true 200 rfl ?_
 refine zu rfl ?_ ?_<;>intro h
 ·have hlt:i<j:=by simpa using h
  clear h
  repeat' first|refine gG ?_|refine gB ?_ ?_<;>intro h|refine zrz hC rfl rfl ub ub rfl rfl ?_
  have hmid:IntKind.i64.wrap (IntKind.u64.wrap (IntKind.i64.wrap ((i:Int)+(j:Int))) / 2 ^ (1:Int).toNat)=(((i+j) / 2:Nat):Int):=by
   have e1:IntKind.i64.wrap ((i:Int)+(j:Int))=(i:Int)+(j:Int):=wrap64 ua
   rw[e1]
   have:IntKind.u64.wrap ((i:Int)+(j:Int))=((i+j:Nat):Int):=by
    unfold IntKind.wrap
    simp[IntKind.bits,IntKind.signed]
    omega
   rw[this]
   rw[show((i+j:Nat):Int) / 2 ^ (1:Int).toNat=(((i+j) / 2:Nat):Int) by
    rw[show(2:Int) ^ (1:Int).toNat=2 by decide];omega]
   exact wrap64 ua
  simp only
  rw[hmid]
  obtain⟨x,hx⟩:=ze (l:=R) (i:=(i+j) / 2) ua
  have hxm:=List.mem_of_getElem? hx
  have hF:=ziW x key (hw x hxm) hk
  have hcx:=(hcmp x hxm).1
  generalize hme:(i+j) / 2=m at*
  repeat' first|refine gG ?_|refine gB ?_ ?_<;>intro h|refine gI T (zg hx) ?_|refine gC hF ?_
  ·rw[zC ua]
   have h1:=hcx.1 (uo h)
   exact zf (m+1,j) ⟨by simp only;omega,hj,λt r ht hr=>hm t m r x (by simp only at ht;omega) hr hx h1,ha⟩ id (by simp only;omega) gM
  ·have h1:ltC key.length x key=false:=by
    cases h2:ltC key.length x key with
    |false=>rfl
    |true=>exact absurd (hcx.2 h2) (uq h)
   refine zf (i,m) ⟨by simp only;omega,by simp only;omega,hb,λt r ht hr=>?_⟩ id (by simp only;omega) gM
   cases h2:ltC key.length r key with
   |false=>rfl
   |true=>rw[hm m t x r ht hx hr h2]at h1;cases h1
 ·have hge:i=j:=by have:=uq h;simp only at this;omega
  subst hge
  clear h
  have hpos:yD key.length R key=i:=zmK (p:=λr=>ltC key.length r key) hj (λt r ht hr=>hb t r ht hr) λr hr=>ha i r (uG _) hr
  by_cases hlt:i<R.length
  ·obtain⟨x,hx⟩:=ze hlt
   have hxm:=List.mem_of_getElem? hx
   have hF:=ziW x key (hw x hxm) hk
   have hq:hasC key.length R key=decide (cmpI (x.take key.length) key=0):=by
    rw[zr7 (r:=x) (by rw[hpos];exact hx),key_take]
    exact ob.2 (hcmp x hxm).2.symm
   rw[hq,hpos]
   repeat' first|refine gG ?_|exact gP|refine gB ?_ ?_<;>intro h|refine zj ?_|refine gI T (zg hx) ?_|refine gC hF ?_
   exact gF
  ·have hq:hasC key.length R key=false:=by
    unfold hasC
    rw[hpos,tT ua]
   rw[hq,hpos]
   repeat' first|refine gG ?_|exact gP|refine gB ?_ ?_<;>intro h|refine zj ?_
   exact zt ⟨.inl rfl,id,_,rfl,LeS.tup (.cons (.refl _) (.cons (LeS.qb rfl) .nil)),trivial,rfl,rfl⟩
theorem zmS(R:Rws)(key:Rw)(hk:key.length<=1000)(hR:R.length<=1000)(hw: ∀r∈R,key.length<=r.length)(hm: ∀(i j:Nat) r s,i<=j->R[i]?=some r->R[j]?=some s->ltC key.length s key=true->ltC key.length r key=true):
 zk Tryz.prog 134 [pS (yp R),pS (zA key)] [] (.tup [I (yD key.length R key),.bq (hasC key.length R key)]) []:=by
 have hX:=zpz R key hk hR hw hm
 refine gO T Tryz.func134 λC hC=>?_
 repeat' first|refine gG ?_|refine gB ?_ ?_<;>intro h|refine gC hX ?_
 exact gF
def rowOk(w:Nat)(p:Rw->Rw->Bool)(R:Rws)(i:Nat):Bool:=match R[i]? with
 |none=>true
 |some r=>decide (r.length=w)&&r.all wH&&match i with
  |0=>true
  |j+1=>match R[j]? with
   |none=>true
   |some q=>p q r
variable {p:Rw->Rw->Bool}
theorem zhG{w:Nat}(h:R[0]?=some r):rowOk w p R 0=(decide (r.length=w)&&r.all wH):=by
 unfold rowOk;rw[h];simp
theorem zeB{w:Nat}{q:Rw}(hi:0<i)(h:R[i]?=some r)(hq:R[i - 1]?=some q):rowOk w p R i=(decide (r.length=w)&&r.all wH&&p q r):=by
 cases i with
 |zero=>omega
 |succ j=>unfold rowOk;rw[h];simp only[Nat.add_sub_cancel]at hq;simp only[hq]
theorem zhH(w:Nat)(p:Rw->Rw->Bool)(R:Rws):tableB w p R=(List.range R.length).all (rowOk w p R):=by
 rw[og]
 unfold tableB
 simp only[uu,List.all_eq_true,oP,jQ]
 constructor
 ·rintro⟨h1,h2⟩ i hi
  obtain⟨r,hr⟩:=ze hi
  have h3:=h1 r (List.mem_of_getElem? hr)
  rcases qA i with rfl|h0
  ·rw[zhG hr];simpa using h3
  ·obtain⟨q,hq⟩:=ze (l:=R) (i:=i - 1) ua
   rw[zeB h0 hr hq]
   have h4:=h2 (i - 1) q r hq (by rw[show i - 1+1=i by omega];exact hr)
   simp only[uu,List.all_eq_true]
   exact⟨⟨h3.1,h3.2⟩,h4⟩
 ·intro h
  refine⟨λr hr=>?_,λi a b ha hb=>?_⟩
  ·obtain⟨i,hi⟩:=tj.1 hr
   have hlt:=(ui.1 hi).1
   have h3:=h i hlt
   rcases qA i with rfl|h0
   ·rw[zhG hi]at h3;simpa using h3
   ·obtain⟨q,hq⟩:=ze (l:=R) (i:=i - 1) ua
    rw[zeB h0 hi hq]at h3
    simp only[uu,List.all_eq_true]at h3
    exact h3.1
  ·have hlt:=(ui.1 hb).1
   have h3:=h (i+1) hlt
   rw[zeB ua hb (by simpa using ha)]at h3
   simp only[uu]at h3
   exact h3.2
theorem jd{n:Nat}(h:i<n):(List.range n)[i]?=some i:=by rw[qg h]
theorem zr8{w:Nat}{j:Nat}(h:((List.range R.length).take i).all (rowOk w p R)=true)(hj:j<i)(hr:R[j]?=some r):r.length=w:=by
 have hlt:=(ui.1 hr).1
 have h1:rowOk w p R j=true:=List.all_eq_true.1 h j (by
  rw[tj]
  exact⟨j,by rw[uZ,uv hj];exact jd hlt⟩)
 unfold rowOk at h1
 simp only[hr,uu,ux]at h1
 exact h1.1.1
theorem ziX: ∀(c:Nat) {a b:Rw},ltC c a b=true->ltC c b a=false:=λc a b h=>by
 cases h2:ltC c b a with
 |false=>rfl
 |true=>have:=jG c h h2;rw[zhx]at this;cases this
theorem ziY: ∀(a b:List Int),cmpI b a= - cmpI a b
 | [],[]=>rfl
 | [],_::_=>rfl
 |_::_,[]=>rfl
 |x::a,y::b=>by
  simp only[cmpI]
  by_cases h1:x<y
  ·rw[uv h1,ur ua,uv h1];rfl
  ·rw[ur h1]
   by_cases h2:y<x
   ·rw[uv h2,ur h1,uv h2]
   ·rw[ur h2,ur h1,ur h2];exact ziY a b
def pT(c:Nat)(s:Bool)(a b:Rw):Bool:=if c=0 then true else !((s&& !ltC c a b)||ltC c b a)
theorem zfU(h:c≠0):pT c true=ltC c:=by
 funext a b
 unfold pT
 rw[ur h]
 cases h1:ltC c a b with
 |true=>rw[ziX c h1];rfl
 |false=>simp
theorem zr9(h:c≠0):pT c false=λa b=> !ltC c b a:=by
 funext a b
 unfold pT
 rw[ur h];simp
theorem zsa(s:Bool):pT 0 s=λ_ _=>true:=by funext a b;unfold pT;rw[uv rfl]
def wK(k:Int):Nat:=if k=1 then 2 else if k=5 then 3 else 1
def cK(k:Int):Nat:=if k=1 then 1 else if k=5 then 2 else if k=2 then 1 else 0
def sK(k:Int):Bool:=decide (k≠2)
theorem zpA(k:Int):zk Tryz.prog 127 [I k] [] (.tup [I (wK k),I (cK k)]) []:=by
 have hcs:k=1\/k=5\/k=2\/(k≠1/\k≠5/\k≠2):=by omega
 rcases hcs with rfl|rfl|rfl|⟨h1,h5,h2⟩
 ·refine gO T Tryz.func127 λC hC=>?_
  repeat' first|refine gG ?_|exact gD|refine gB ?_ ?_<;>intro h
  exact gF
 ·refine gO T Tryz.func127 λC hC=>?_
  repeat' first|refine gG ?_|exact gD|refine gB ?_ ?_<;>intro h
  exact gF
 ·refine gO T Tryz.func127 λC hC=>?_
  repeat' first|refine gG ?_|exact gD|refine gB ?_ ?_<;>intro h
  exact gF
 ·have e1:wK k=1:=by unfold wK;rw[ur h1,ur h5]
  have e2:cK k=0:=by unfold cK;rw[ur h1,ur h5,ur h2]
  rw[e1,e2]
  refine gO T Tryz.func127 λC hC=>?_
  repeat' first|refine gG ?_|exact gP|refine gB ?_ ?_<;>intro h
  exact gF
theorem zpB(n:Int):zk Tryz.prog 128 [I n] [] (.bq (!wH n)) []:=by
 have hX:=zfT n
 generalize wH n=q at hX⊢
 refine gO T Tryz.func128 λC hC=>?_
 repeat' first|refine gG ?_|refine gB ?_ ?_<;>intro h|refine gC hX ?_|refine gQ ?_|refine gL ?_
 all_goals rfl
theorem zpC(n:Int):zk Tryz.prog 93 [I n] [] (.bq (!zdn n)) []:=by
 have hX:=zbH n
 generalize zdn n=q at hX⊢
 refine gO T Tryz.func93 λC hC=>?_
 repeat' first|refine gG ?_|refine gB ?_ ?_<;>intro h|refine gC hX ?_|refine gQ ?_|refine gL ?_
 all_goals rfl
theorem zub(k:Int):cK k<=wK k:=by unfold cK wK;repeat' split
                                  all_goals omega
theorem zvT(k:Int):wK k<=3:=by unfold wK;repeat' split
                               all_goals omega
theorem zuc{k:Int}{q:Rw}(hq:q.length=wK k)(hr:r.length=wK k)(hc:cK k≠0)(hk:k=1\/k=5\/k=2):
 pT (cK k) (sK k) q r= !(decide (0<cmpI (q.take (cK k)) (r.take (cK k)))||(decide (cmpI (q.take (cK k)) (r.take (cK k))=0)&& !decide (k=2))):=by
 have hcw:=zub k
 have h1:=(ziP (cK k) q r ua ua).1
 have h2:=(ziP (cK k) r q ua ua).1
 rw[ziY (q.take (cK k)) (r.take (cK k))]at h2
 generalize cmpI (q.take (cK k)) (r.take (cK k))=z at h1 h2⊢
 unfold pT
 rw[ur hc]
 have hs:sK k= !decide (k=2):=by unfold sK;by_cases h:k=2<;>simp[h]
 rw[hs]
 have e1:ltC (cK k) q r=decide (z<0):=by
  cases h:ltC (cK k) q r with
  |true=>exact(uK (h1.2 h)).symm
  |false=>exact(uJ λhz=>by rw[h1.1 hz]at h;cases h).symm
 have e2:ltC (cK k) r q=decide (0<z):=by
  cases h:ltC (cK k) r q with
  |true=>exact(uK (by have:=h2.2 h;omega)).symm
  |false=>exact(uJ λhz=>by rw[h2.1 ua]at h;cases h).symm
 rw[e1,e2]
 rcases Int.lt_trichotomy z 0 with hz|hz|hz
 ·rw[uK hz,uJ (by omega: ¬0<z),uJ (by omega: ¬z=0)];simp
 ·subst hz;simp
 ·rw[uK hz,uJ (by omega: ¬z<0),uJ (by omega: ¬z=0)];simp
theorem zfV{k:Int}(R:Rws):zk Tryz.prog 90 [zm (stR k R)] [] (.bq (decide (R.length<=500)&&tableB (wK k) (pT (cK k) (sK k)) R)) []:=by
 by_cases hR:R.length<=500
 case neg=>
  rw[uJ hR]
  refine gO T Tryz.func90 λC hC=>?_
  repeat' first|refine gG ?_|exact gP|refine gB ?_ ?_<;>intro h|refine gL ?_
  all_goals rfl
 rw[uK hR,tr,zhH]
 have hW:=zpA k
 have hcw:=zub k
 have hw3:=zvT k
 refine gO T Tryz.func90 λC hC=>?_
 repeat' first|refine gG ?_|exact gP|refine gB ?_ ?_<;>intro h|refine gC hW ?_
 rw[uj]
 refine zn (λi:Nat=>i<=R.length/\((List.range R.length).take i).all (rowOk (wK k) (pT (cK k) (sK k)) R)=true) (λi=>([(1,.one (.bx 1001 0)),(3,I (wK k)),(4,I (cK k)),(19,pS (yp R)),(20,I R.length),(21,I i)],[(1001,some (.box ((stR k R).map V.p)))])) (λi=>R.length - i) hC
  0 ⟨uA _,ue⟩ id gM ?_
 clear hW
 rintro i ⟨hi,hn⟩
 refine zr T hC true 200 rfl ?_
 refine zu rfl ?_ ?_<;>intro h
 rotate_left
 ·have hge: ¬i<R.length:=by simpa using h
  repeat' first|refine gG ?_|refine gB ?_ ?_<;>intro h|refine zj ?_|refine gL ?_
  rw[uT (by rw[tV];omega)]at hn
  exact hn.symm
 have hlt:i<R.length:=by simpa using h
 clear h
 obtain⟨r,hx⟩:=ze hlt
 have hN:=zb7 128 r (λn=> !wH n) (λn _=>zpB n)
 rw[zcG]at hN
 by_cases hlen:r.length=wK k
 case neg=>
  have hbad:rowOk (wK k) (pT (cK k) (sK k)) R i=false:=by unfold rowOk;simp only[hx];rw[uJ hlen];rfl
  repeat' first|refine gG ?_|exact gP|refine gB ?_ ?_<;>intro h|refine gX ?_|refine zx ?_|refine gL ?_
  exact(xJ (jd hlt) hbad).symm
 cases hall:r.all wH with
 |false=>
  have hbad:rowOk (wK k) (pT (cK k) (sK k)) R i=false:=by unfold rowOk;simp only[hx];rw[hall,qz];rfl
  rw[hall]at hN
  repeat' first|refine gG ?_|exact gP|exact gD|refine gB ?_ ?_<;>intro h|refine gX ?_|refine gC hN ?_|refine zx ?_|refine gL ?_
  exact(xJ (jd hlt) hbad).symm
 |true=>
  rw[hall]at hN
  by_cases hi0:0<i
  ·obtain⟨q,hq⟩:=ze (l:=R) (i:=i - 1) ua
   have hok:rowOk (wK k) (pT (cK k) (sK k)) R i=pT (cK k) (sK k) q r:=by rw[zeB hi0 hx hq,uK hlen,hall];rfl
   have hql:=zr8 hn ua hq
   have w1:IntKind.i64.wrap ((i:Int) - 1)=(i:Int) - 1:=wrap64 ua
   have hq':R[((i:Int) - 1).toNat]?=some q:=by rw[show((i:Int) - 1).toNat=i - 1 by omega];exact hq
   by_cases hc0:cK k=0
   ·have hp:rowOk (wK k) (pT (cK k) (sK k)) R i=true:=by rw[hok];unfold pT;rw[uv hc0]
    repeat' first|refine gG ?_|exact gP|exact gD|refine gB ?_ ?_<;>intro h|refine gX ?_|refine gC hN ?_
    all_goals
     rw[zC ua]
     refine zf (i+1) ⟨ua,?_⟩ id ua gM
     rw[ya (p:=rowOk (wK k) (pT (cK k) (sK k)) R) (jd hlt),hn,tr];exact hp
   ·have hkk:k=1\/k=5\/k=2:=by
     unfold cK at hc0
     by_cases h1:k=1
     ·exact .inl h1
     ·by_cases h5:k=5
      ·exact .inr (.inl h5)
      ·by_cases h2:k=2
       ·exact .inr (.inr h2)
       ·rw[ur h1,ur h5,ur h2]at hc0;exact absurd rfl hc0
    have hp:rowOk (wK k) (pT (cK k) (sK k)) R i=_:=hok.trans (zuc hql hlen hc0 hkk)
    have hK:=zdG (q.take (cK k)) (r.take (cK k))
    generalize cmpI (q.take (cK k)) (r.take (cK k))=z at hK hp
    repeat' first|refine gG ?_|exact gP|exact gD|refine gB ?_ ?_<;>intro h|(rw[w1];refine gI T (yg hq') ?_)|refine gI T (zg hx) ?_|refine gC hN ?_|(refine jx T hC (rows:=q.map zR) ((q.take (cK k)).map zR) rfl rfl rfl (uw _) (by simp only[uj];omega) (by simp only[uF,qM]) rfl rfl ?_)|(refine jx T hC (rows:=r.map zR) ((r.take (cK k)).map zR) rfl rfl rfl (uw _) (by simp only[uj];omega) (by simp only[uF,qM]) rfl rfl ?_)|refine gC hK ?_|refine zx ?_|refine gL ?_
    all_goals first
     |(have hbad:rowOk (wK k) (pT (cK k) (sK k)) R i=false:=by rw[hp];clear hn hK hN hx hq hq' hok hp hcw hw3 hlen hql hall hkk hc0 w1;simp_all
       exact(xJ (jd hlt) hbad).symm)
     |(have hgood:rowOk (wK k) (pT (cK k) (sK k)) R i=true:=by rw[hp];clear hn hK hN hx hq hq' hok hp hcw hw3 hlen hql hall hkk hc0 w1;simp_all
       rw[zC ua]
       refine zf (i+1) ⟨ua,?_⟩ id ua gM
       rw[ya (p:=rowOk (wK k) (pT (cK k) (sK k)) R) (jd hlt),hn,tr];exact hgood)
  ·obtain rfl:i=0:=by omega
   have hp:rowOk (wK k) (pT (cK k) (sK k)) R 0=true:=by rw[zhG hx,uK hlen,hall];rfl
   repeat' first|refine gG ?_|exact gP|exact gD|refine gB ?_ ?_<;>intro h|refine gX ?_|refine gC hN ?_
   all_goals
    rw[zC ua]
    refine zf (0+1) ⟨ua,?_⟩ id ua gM
    rw[ya (p:=rowOk (wK k) (pT (cK k) (sK k)) R) (jd hlt),hn,tr];exact hp
end Hw.Fr.Md
namespace Hw.Fr
open Go Go.Proofs Go.Shelf
def zfW:Go.Shelf.Ren:=⟨λ|189=>130|125=>155|257=>154|128=>199|129=>200|294=>190|295=>191|296=>192|297=>193|298=>194|299=>195|216=>196|300=>197|301=>198|328=>240|329=>241|330=>242|331=>243|332=>244|215=>89|343=>279|n=>n,λ|28=>31|3=>3|46=>178|0=>0|51=>284|53=>286|4=>4|183=>278|182=>277|131=>98|5=>5|9=>9|218=>319|222=>323|228=>352|229=>188|n=>n,λ|n=>n⟩
theorem ziZ:Go.Proofs.Lays.n189 Tryz.prog zfW where
 mixed:=by kernel_rfl
 f125:=Tryz.func155.trans (uR some ud)
 f128:=Tryz.func199.trans (uR some ud)
 f129:=Tryz.func200.trans (uR some ud)
 f189:=Tryz.func130.trans (uR some ud)
 f215:=Tryz.func89.trans (uR some ud)
 f216:=Tryz.func196.trans (uR some ud)
 f257:=Tryz.func154.trans (uR some ud)
 f294:=Tryz.func190.trans (uR some ud)
 f295:=Tryz.func191.trans (uR some ud)
 f296:=Tryz.func192.trans (uR some ud)
 f297:=Tryz.func193.trans (uR some ud)
 f298:=Tryz.func194.trans (uR some ud)
 f299:=Tryz.func195.trans (uR some ud)
 f300:=Tryz.func197.trans (uR some ud)
 f301:=Tryz.func198.trans (uR some ud)
 f328:=Tryz.func240.trans (uR some ud)
 f329:=Tryz.func241.trans (uR some ud)
 f330:=Tryz.func242.trans (uR some ud)
 f331:=Tryz.func243.trans (uR some ud)
 f332:=Tryz.func244.trans (uR some ud)
 f343:=Tryz.func279.trans (uR some ud)
 t0:=Tryz.underlying0
 a0:=Tryz.isAgg0
 z0:=Tryz.sizeOf0
 v0:=Tryz.zeroValue0
 t3:=Tryz.underlying3
 a3:=Tryz.isAgg3
 z3:=Tryz.sizeOf3
 v3:=Tryz.zeroValue3
 t4:=Tryz.underlying4
 a4:=Tryz.isAgg4
 z4:=Tryz.sizeOf4
 v4:=Tryz.zeroValue4
 t5:=Tryz.underlying5
 a5:=Tryz.isAgg5
 z5:=Tryz.sizeOf5
 v5:=Tryz.zeroValue5
 t9:=Tryz.underlying9
 a9:=Tryz.isAgg9
 z9:=Tryz.sizeOf9
 v9:=Tryz.zeroValue9
 t28:=Tryz.underlying31
 a28:=Tryz.isAgg31
 z28:=Tryz.sizeOf31
 v28:=Tryz.zeroValue31
 t46:=Tryz.underlying178
 a46:=Tryz.isAgg178
 z46:=Tryz.sizeOf178
 v46:=Tryz.zeroValue178
 t51:=Tryz.underlying284
 a51:=Tryz.isAgg284
 z51:=Tryz.sizeOf284
 v51:=Tryz.zeroValue284
 t53:=Tryz.underlying286
 a53:=Tryz.isAgg286
 z53:=Tryz.sizeOf286
 v53:=Tryz.zeroValue286
 t131:=Tryz.underlying98
 a131:=Tryz.isAgg98
 z131:=Tryz.sizeOf98
 v131:=Tryz.zeroValue98
 t182:=Tryz.underlying277
 a182:=Tryz.isAgg277
 z182:=Tryz.sizeOf277
 v182:=Tryz.zeroValue277
 t183:=Tryz.underlying278
 a183:=Tryz.isAgg278
 z183:=Tryz.sizeOf278
 v183:=Tryz.zeroValue278
 t218:=Tryz.underlying319
 a218:=Tryz.isAgg319
 z218:=Tryz.sizeOf319
 v218:=Tryz.zeroValue319
 t222:=Tryz.underlying323
 a222:=Tryz.isAgg323
 z222:=Tryz.sizeOf323
 v222:=Tryz.zeroValue323
 t228:=Tryz.underlying352
 a228:=Tryz.isAgg352
 z228:=Tryz.sizeOf352
 v228:=Tryz.zeroValue352
 t229:=Tryz.underlying188
 a229:=Tryz.isAgg188
 z229:=Tryz.sizeOf188
 v229:=Tryz.zeroValue188
end Hw.Fr
namespace Hw
open Go Go.Proofs Go.Sort
variable {M:Mem}{res:S}{w:World}
theorem zhI{ρ ρ':Nat->Value}{w':World}{R R':RL}{v:Value}(hT:ji M ρ w (tb R))(hI:Imm M w)(hrep:RepS M ρ' res v)(hres: ∀i r,tg (tb R') i=some r->zH M ρ' w' i r)
 (hdis: ∀i j ri rj b,tg (tb R') i=some ri->tg (tb R') j=some rj->i≠j->Bk (ρ' i) b->Bk (ρ' j) b->False)
 (hown: ∀i r b,tg (tb R') i=some r->Bk (ρ' i) b->w.heap.size<=b\/zdo (tb R) ρ b) (hf: ∀b,b<w.heap.size-> ¬zdo (tb R) ρ b->w'.heap[b]?=w.heap[b]?)
 (hs:w.heap.size<=w'.heap.size) (h1:w'.os=w.os) (h2:w'.tape=w.tape) (h3:w'.output=w.output) (hk: ∀id,id∈R.ids->ρ' id=ρ id):Ret M ρ w R res R' v M ρ' w':=by
 refine⟨hrep,⟨hres,hdis,λi r b hi hb q=>?_⟩,λb q u hu=>?_,MLe.refl M,λb q u hu=> .inl hu,λb ⟨i,r,hi,hb⟩=>hown i r b hi hb,hf,hs,h1,h2,h3,hk⟩
 ·rcases hown i r b hi hb with h|⟨j,s,hj,hjb⟩
  ·cases hm:M b q with
   |none=>rfl
   |some u=>have:=xN (hI b q u hm);omega
  ·exact hT.own j s b hj hjb q
 ·have hbl:=xN (hI b q u hu)
  rw[cell_of_heap (hf b hbl λ⟨j,s,hj,hjb⟩=>by rw[hT.own j s b hj hjb q]at hu;cases hu)]
  exact hI b q u hu
theorem zi0{ρ:Nat->Value}{w':World}{R R':RL}{v:Value}(hT:ji M ρ w (tb R))(hI:Imm M w)(hrep:RepS M ρ res v)(hsub: ∀i r,tg (tb R') i=some r-> ∃r0,tg (tb R) i=some r0)(hres: ∀i r,tg (tb R') i=some r->zH M ρ w' i r)
 (hf: ∀b,b<w.heap.size-> ¬zdo (tb R) ρ b->w'.heap[b]?=w.heap[b]?) (hs:w.heap.size<=w'.heap.size) (h1:w'.os=w.os) (h2:w'.tape=w.tape) (h3:w'.output=w.output):Ret M ρ w R res R' v M ρ w':=
 zhI hT hI hrep hres (λi j ri rj b hi hj hne hb hb'=>let ⟨r0,e0⟩:=hsub i ri hi;let ⟨r1,e1⟩:=hsub j rj hj;hT.dis i j r0 r1 b e0 e1 hne hb hb')
  (λi r b hi hb=>let ⟨r0,e0⟩:=hsub i r hi; .inr ⟨i,r0,e0,hb⟩) hf hs h1 h2 h3 λ_ _=>rfl
variable {cs:Array Value}{el:TypeId}{fz:Nat×Nat}{α:Type}
section
variable [Inhabited α]
theorem zcX(enc:α->Value)(w:World)(b off:Nat)(d:Array α)(h:w.heap[b]?=some (.cells cs el fz)):(putRow enc w b off d).heap[b]?=some (.cells (putCells enc off d cs) el fz):=by
 unfold putRow mapBlock
 simp only[qY,qx,h,qh,onCells]
theorem zbn(enc:α->Value)(w:World)(b off:Nat)(d:Array α){k:Nat}(h:k≠b):(putRow enc w b off d).heap[k]?=w.heap[k]?:=by
 unfold putRow mapBlock
 simp only[qY]
 rw[ur λe=>h e.symm]
theorem je(enc:α->Value)(w:World)(b off:Nat)(d:Array α):(putRow enc w b off d).heap.size=w.heap.size:=by
 unfold putRow mapBlock;simp
theorem xj(enc:α->Value)(off:Nat)(d:Array α)(c:Array Value):(putCells enc off d c).size=c.size:=by simp[putCells]
theorem zaz(enc:α->Value)(off:Nat)(d:Array α)(c:Array Value){j:Nat}{x:α}(hx:d[j]?=some x)(hc:off+j<c.size):(putCells enc off d c)[off+j]?=some (enc x):=by
 obtain⟨hj,rfl⟩:=qN.1 hx
 simp only[putCells,UD]
 rw[qj hc,qh,uv ⟨ua,ua⟩,show off+j - off=j by omega,getElem!_pos d j hj]
end
theorem holds_of[Inhabited α]{enc:α->Value}{b o:Nat}{d:Array α}(h:w.heap[b]?=some (.cells cs el fz))(hU:xy fz cs.size)(hc: ∀j x,d[j]?=some x->cs[o+j]?=some (enc x)):Sort.Holds enc w b o d:=by
 intro j hj
 have h1:=hc j d[j] (qj hj)
 have hlt:=(qN.1 h1).1
 refine⟨?_,?_⟩
 ·rw[getElem!_pos d j hj]
  simp[World.cell?,h,h1]
 ·simp only[World.frozen?,h]
  exact hU _ hlt
end Hw
namespace Hw.Fr.Md
open Go Go.Proofs Go.Shelf Hw.M
abbrev iv(x:Int):Value:= .int .i64 x
theorem zi1(M:Mem)(ρ:Nat->Value): ∀l:List Int,RepVs M ρ ((l.map zR).flatten.map V.p) (l.map iv)
 | []=>by simp only[oE,List.flatten_nil,RepVs]
 |a::l=>by
  have ih:=zi1 M ρ l
  simp only[tK,tF,zR,oq,RepVs,RepV,RepPV]
  exact⟨⟨uh,rfl⟩,ih⟩
theorem zpD(l:List Int): ∀r∈l.map zR,r.length=1:=λr hr=>by obtain⟨x,_,rfl⟩:=ql.1 hr;rfl
variable {M:Mem}{g:Nat->Option Value}{o:Nat}
theorem zsb{l:List Int}(h: ∀j c,(l.map iv)[j]?=some c->g (o+j)=some c):RowsIn M g 1 (l.map zR) o:=
 zle (zpD l) (zi1 M _ l) h
theorem zsc{l:List Int}(h:RowsIn M g 1 (l.map zR) o): ∀j c,(l.map iv)[j]?=some c->g (o+j)=some c:=λj c hj=>by
 rw[uE]at hj
 simp only[uH]at hj
 obtain⟨x,hx,rfl⟩:=hj
 have:=(h.get (i:=j) (by rw[uE,hx];rfl)).2
 rw[qS]at this
 simp only[zR,RowIn,RepPV]at this
 obtain⟨⟨c,h1,h2⟩,_⟩:=this
 rw[h1,h2.1]
def xk(l:List Int):List Int:=l.mergeSort λx y=>decide (x<=y)
theorem xM(l:List Int):(xk l).Perm l:=List.mergeSort_perm l _
theorem vF(l:List Int):(xk l).Pairwise (· <= ·):=by
 have:=List.pairwise_mergeSort (le:=λx y:Int=>decide (x<=y)) (λa b c h1 h2=>by simp at *; omega) (λa b=>by simp;omega) l
 exact this.imp λh=>by simpa using h
theorem zfX(l:List Int):(xk l).length=l.length:=(xM l).length_eq
theorem zmT(l:List Int)(hl:l.length<=1000000):zk Tryz.prog 130 [.one (.ar 0)] [(0,.arr 1 (l.map zR))] .un [(0,.arr 1 ((xk l).map zR))]:=by
 refine⟨⟨_,Tryz.func130,ud,ud⟩,λM ρ w xs hx hT hI hG=>?_⟩
 match xs,hx with
 | [x0],hx=>
   simp only[RepSs,RepS,RepV]at hx
   obtain⟨⟨rfl,_⟩,_⟩:=hx
   obtain⟨a,cap,e0,e1,e2,e3⟩:=hT.res 0 _ rfl
   rw[uj]at e0 e1
   have one: ∀ {r:Res} i q,tg (tb [(0,r)]) i=some q->i=0/\q=r:=λ{r} i q hi=>by
    simp only[tb,zX]at hi
    split at hi
    ·rename_i e;exact⟨e.symm,(uy hi).symm⟩
    ·cases hi
   by_cases h0:l.length=0
   ·have hl0:l=[]:=uS.1 h0
    subst hl0
    rw[e0]
    refine(Any.slices_Sort_int_none ziZ a cap w).mono ?_
    rintro e w' ⟨rfl,rfl⟩
    exact⟨_,M,ρ,rfl,zi0 hT hI (by simp only[RepS]) (λi r hi=>by obtain⟨rfl,_⟩:=one i r hi;exact⟨_,rfl⟩) (λi r hi=>by obtain⟨rfl,rfl⟩:=one i r hi;rw[show xk []=[] by simp[xk]];exact hT.res 0 _ rfl) (λ_ _ _=>rfl) (uG _) rfl rfl rfl⟩
   ·rcases e3 with⟨_,h⟩|⟨b,o,cs,el,fz,rfl,h6,h6',h7,h8⟩
    ·omega
    rw[qS]at h7
    have hcl:=zsc h8
    have hb:b<w.heap.size:=(qN.1 h6).1
    have hH:Sort.Holds (Value.int .i64) w b o l.toArray:=holds_of h6 h6' λj x hx=>hcl j _ (by rw[uE];simp at hx;rw[hx];rfl)
    rw[e0]
    refine(Any.slices_Sort_int ziZ b o cap l w hH hb ua).mono ?_
    rintro e w' ⟨rfl,q,os,rfl⟩
    rw[show(l.mergeSort λx y=>decide (x<=y))=xk l from rfl]
    have hsz:(xk l).length=l.length:=zfX l
    have heap: ∀k,k<w.heap.size->(Sort.grow (Sort.putRow (Value.int .i64) (Sort.ahead w q) b o (xk l).toArray) os).heap[k]?=(Sort.putRow (Value.int .i64) (Sort.ahead w q) b o (xk l).toArray).heap[k]?:=λk hk=>by
     show((Sort.putRow (Value.int .i64) (Sort.ahead w q) b o (xk l).toArray).heap++os)[k]?=_
     rw[tN (by rw[je];exact hk)]
    refine⟨_,M,ρ,rfl,zi0 hT hI (by simp only[RepS]) (λi r hi=>by obtain⟨rfl,_⟩:=one i r hi;exact⟨_,rfl⟩) (λi r hi=>?_) (λk hk hn=>?_) ?_ rfl rfl rfl⟩
    ·obtain⟨rfl,rfl⟩:=one i r hi
     refine⟨_,cap,by rw[uj,hsz];exact e0,by rw[uj,hsz];exact e1,e2,.inr ⟨b,o,Sort.putCells (Value.int .i64) o (xk l).toArray cs,el,fz,rfl,?_,?_,?_,zsb λj c hj=>?_⟩⟩
     ·rw[heap b hb]
      exact zcX (Value.int .i64) (Sort.ahead w q) b o (xk l).toArray h6
     ·rw[xj];exact h6'
     ·rw[xj,qS];exact h7
     ·rw[uE,uH]at hj
      obtain⟨x,hx,rfl⟩:=hj
      have hlt:=(ui.1 hx).1
      exact zaz _ o _ cs (by simpa using hx) ua
    ·rw[heap k hk]
     exact zbn _ _ b o _ λe=>hn ⟨0,_,rfl,by rw[e0,e];rfl⟩
    ·show w.heap.size<=((Sort.putRow (Value.int .i64) (Sort.ahead w q) b o (xk l).toArray).heap++os).size
     rw[qE,je]
     exact Nat.le_add_right _ _
 | [],hx=>simp[RepSs]at hx
 |_::_::_,hx=>simp[RepSs]at hx
def mvU(a b i:Nat):Nat:=match Nat.beq i a with
 |true=>b
 |false=>i
variable {i:Nat}
theorem zS{a b:Nat}(ha:100<=a)(hi:i<100):mvU a b i=i:=by
 unfold mvU;rw[y5 ua]
theorem zi2: ∀ {l m:List Int},l.Nodup->(∀x∈l,x∈m)->m.length<=l.length->l.Perm m
 | [],m,_,_,h=>by
   have:m=[]:=uS.1 (by simpa using h)
   rw[this]
 |x::l,m,hn,hs,h=>by
  have hn':=List.nodup_cons.1 hn
  have hx:=hs x (tQ ..)
  have hp:=List.perm_cons_erase hx
  have hl:(m.erase x).length=m.length - 1:=List.length_erase_of_mem hx
  have ih:=zi2 (l:=l) (m:=m.erase x) hn'.2 (λy hy=>(List.mem_erase_of_ne λe=>hn'.1 (by rw[<-e];exact hy)).2 (hs y (td _ hy))) (by rw[hl];simp only[uI]at h;omega)
  exact(ih.cons x).trans hp.symm
def vG(n:Nat):List Int:=(List.range n).map λi:Nat=>(i:Int)
theorem zdH(n:Nat):(vG n).length=n:=by simp[vG]
theorem zmU{n:Nat}(h:i<n):(vG n)[i]?=some (i:Int):=by simp[vG,h]
variable {x:Int}
theorem zdI{n:Nat}:x∈vG n↔0<=x/\x<(n:Int):=by
 simp only[vG,ql,oP]
 constructor
 ·rintro⟨i,hi,rfl⟩;omega
 ·rintro⟨h1,h2⟩;exact⟨x.toNat,ua,ua⟩
theorem zdJ(n:Nat):(vG n).Pairwise (· < ·):=by
 rw[vG,ou]
 exact List.pairwise_lt_range.imp λh=>by omega
theorem zfY(n:Nat):(vG n).Nodup:=(zdJ n).imp λh=>by omega
theorem zkw{F:List Int}:xk F=vG F.length↔(∀x∈F,0<=x/\x<(F.length:Int))/\F.Nodup:=by
 constructor
 ·intro h
  have hp:=(xM F).symm
  rw[h]at hp
  exact⟨λx hx=>zdI.1 (hp.mem_iff.1 hx),hp.nodup_iff.2 (zfY _)⟩
 ·rintro⟨h1,h2⟩
  have hp:F.Perm (vG F.length):=zi2 h2 (λx hx=>zdI.2 (h1 x hx)) (by rw[zdH];exact uG _)
  exact zaV ((xM F).trans hp) (vF F) (ztT (zdJ _))
structure zfZ (R:Rws) (i:Nat):Prop where
 ne: ∀(j:Nat) r,j<i->R[j]?=some r->r≠ []
 asc: ∀(j:Nat) r,j<i->R[j]?=some r->r.Pairwise (· < ·)
 fst: ∀(j:Nat) q r,j+1<i->R[j]?=some q->R[j+1]?=some r->at0 q 0<at0 r 0
theorem zfZ.zero(R:Rws):zfZ R 0:=⟨λ_ _ h=>absurd h (q8 _),λ_ _ h=>absurd h (q8 _),λ_ _ _ h=>absurd h (q8 _)⟩
variable {R:Rws}{r:Rw}
theorem zfZ.next(h:zfZ R i)(hr:R[i]?=some r)(h1:r≠ [])(h2:r.Pairwise (· < ·))(h3: ∀q,0<i->R[i - 1]?=some q->at0 q 0<at0 r 0):zfZ R (i+1):=by
 refine⟨λj s hj hs=>?_,λj s hj hs=>?_,λj q s hj hq hs=>?_⟩
 ·rcases Nat.lt_or_ge j i with hlt|hge
  ·exact h.ne j s hlt hs
  ·obtain rfl:j=i:=by omega
   rw[hr]at hs;rw[<-uy hs];exact h1
 ·rcases Nat.lt_or_ge j i with hlt|hge
  ·exact h.asc j s hlt hs
  ·obtain rfl:j=i:=by omega
   rw[hr]at hs;rw[<-uy hs];exact h2
 ·rcases Nat.lt_or_ge (j+1) i with hlt|hge
  ·exact h.fst j q s hlt hq hs
  ·obtain rfl:i=j+1:=by omega
   rw[hr]at hs;rw[<-uy hs];exact h3 q ua (by simpa using hq)
theorem yN.of(h:zfZ R R.length)(ht:R.flatten.length<=500)(hr: ∀x∈R.flatten,0<=x/\x<(R.flatten.length:Int))(hn:R.flatten.Nodup):yN R:=by
 refine⟨ht,λr hr=>?_,λr hr=>?_,?_,hr,hn⟩
 ·obtain⟨j,hj⟩:=tj.1 hr
  exact h.ne j r (ui.1 hj).1 hj
 ·obtain⟨j,hj⟩:=tj.1 hr
  exact h.asc j r (ui.1 hj).1 hj
 ·rw[ou]
  have:=(vl (p:=λa b=>decide (at0 a 0<at0 b 0)) (R:=R) λa b d _ _ _ h h2=>by
   have:=uo h;have:=uo h2;exact uK ua).1 (jQ.2 λi a b ha hb=>uK (h.fst i a b (ui.1 hb).1 ha hb))
  exact this.imp λh=>uo h
theorem yN.len(h:yN R):R.length<=500:=qn (zqO h.ne) h.tot
theorem yN.zvU(h:yN R){q:Rw}(hq:R[i]?=some q)(hr:R[i+1]?=some r):at0 q 0<at0 r 0:=by
 have:=h.fst
 rw[ou,tu]at this
 obtain⟨h1,rfl⟩:=ui.1 hq
 obtain⟨h2,rfl⟩:=ui.1 hr
 exact this i (i+1) h1 h2 ua
theorem zsd(i:Nat):(R.take i).flatten.length<=R.flatten.length:=by
 have:R.flatten=(R.take i).flatten++(R.drop i).flatten:=by rw[<-tY,tv]
 rw[this,uB];omega
theorem zmV(h:R[i]?=some r):(R.take (i+1)).flatten=(R.take i).flatten++r:=by
 rw[tG,h];simp
theorem zaZ(h: ¬yN R):zbj R=false:=Bool.eq_false_iff.2 λe=>h (zaW.1 e)
def zse(r:Rw)(k:Nat):Prop:= ∀(j:Nat) a b,j+1<k->r[j]?=some a->r[j+1]?=some b->a<b
theorem zse.all(h:zse r r.length):r.Pairwise (· < ·):=by
 have: ∀(n j:Nat) a b,r[j]?=some a->r[j+1+n]?=some b->a<b:=λn=>by
  induction n with
  |zero=>exact λj a b ha hb=>h j a b (ui.1 hb).1 ha hb
  |succ n ih=>
   intro j a b ha hb
   have hlt:=(ui.1 hb).1
   obtain⟨c,hc⟩:=ze (l:=r) (i:=j+1+n) ua
   have h1:=ih j a c ha hc
   have h2:=h (j+1+n) c b ua hc (by rw[show j+1+n+1=j+1+(n+1) by omega];exact hb)
   omega
 rw[tu]
 intro i j hi hj hij
 exact this (j - i - 1) i _ _ (uM hi) (by rw[show i+1+(j - i - 1)=j by omega];exact uM hj)
theorem zvV(h:r.Pairwise (· < ·)){j:Nat}{a b:Int}(ha:r[j]?=some a)(hb:r[j+1]?=some b):a<b:=by
 rw[tu]at h
 obtain⟨h1,rfl⟩:=ui.1 ha
 obtain⟨h2,rfl⟩:=ui.1 hb
 exact h j (j+1) h1 h2 ua
theorem zeC(h:r[0]?=some x):at0 r 0=x:=ztQ h
set_option maxHeartbeats 1000000 in
theorem zf0(R:Rws)(hw: ∀r∈R,r.length<=1000000):zk Tryz.prog 91 [pS (yp R)] [] (.bq (zbj R)) []:=by
 by_cases hR:R.length<=500
 case neg=>
  rw[zaZ λh=>hR h.len]
  refine gO T Tryz.func91 λC hC=>?_
  repeat' first|refine gG ?_|exact gP|refine gB ?_ ?_<;>intro h|refine gL ?_
  all_goals rfl
 refine gO T Tryz.func91 λC hC=>?_
 repeat' first|refine gG ?_|exact gP|refine gB ?_ ?_<;>intro h
 rw[uj]
 refine gA 101 1 [(3,.one (.ar 101))] [] ?_
 refine zn (λi:Nat=>i<=R.length/\zfZ R i/\(R.take i).flatten.length<=500) (λi=>([(0,pS (yp R)),(3,.one (.ar 101)),(12,pS (yp R)),(13,I R.length),(14,I i)],[(101,some (Res.arr 1 ((R.take i).flatten.map zR)))])) (λi=>R.length - i) hC
  0 ⟨uA _,zfZ.zero R,ue⟩ id gM ?_
 clear h
 rintro i ⟨hi,hA,ht⟩
 refine zr T hC true 200 rfl ?_
 refine zu rfl ?_ ?_<;>intro h
 ·have hlt:i<R.length:=by simpa using h
  clear h
  obtain⟨r,hx⟩:=ze hlt
  have hfl:=zmV hx
  have hrw:=hw r (List.mem_of_getElem? hx)
  cases r with
  |nil=>
   have hbad: ¬yN R:=λh=>h.ne [] (List.mem_of_getElem? hx) rfl
   rw[zaZ hbad]
   repeat' first|refine gG ?_|exact gD|exact gP|refine gB ?_ ?_<;>intro h|refine gI T (zg hx) ?_|refine zx ?_|refine gL ?_
   all_goals rfl
  |cons x0 r0=>
   generalize hr:x0::r0=r at hx hfl hrw
   have hr0:r[0]?=some x0:=by rw[<-hr];rfl
   have hrl:0<r.length:=by rw[<-hr];simp
   have hne:r≠ []:=by rw[<-hr];simp
   have hlm:((R.take i).flatten.map zR).length=(R.take i).flatten.length:=uj _
   have w3:IntKind.i64.wrap (((R.take i).flatten.length:Int)+(r.length:Int))=((R.take i).flatten.length:Int)+(r.length:Int):=wrap64 ua
   by_cases h500:(R.take i).flatten.length+r.length<=500
   case neg=>
    have hbad: ¬yN R:=λh=>h500 (by
     have:=zsd (R:=R) (i+1)
     rw[hfl,uB]at this
     exact qn this h.tot)
    rw[zaZ hbad]
    repeat' first|refine gG ?_|exact gP|(exfalso;have h2:=uq h;rw[uj,uj,w3]at h2;omega)|refine gB ?_ ?_<;>intro h|refine gI T (zg hx) ?_|refine zx ?_|refine gL ?_
    all_goals rfl
   have hfst: ∀q,0<i->R[i - 1]?=some q-> ¬at0 q 0<at0 r 0-> ¬yN R:=λq h0 hq hn h=>hn (h.zvU hq (by rw[show i - 1+1=i by omega];exact hx))
   have w1:IntKind.i64.wrap ((i:Int) - 1)=(i:Int) - 1:=wrap64 ua
   by_cases hi0:0<i/\ ∃q,R[i - 1]?=some q/\ ¬at0 q 0<at0 r 0
   ·obtain⟨h0,q,hq,hn⟩:=hi0
    rw[zaZ (hfst q h0 hq hn)]
    have hq':R[((i:Int) - 1).toNat]?=some q:=by rw[show((i:Int) - 1).toNat=i - 1 by omega];exact hq
    have hqn:q≠ []:=hA.ne (i - 1) q ua hq
    obtain⟨y0,hy⟩:=ze (l:=q) (i:=0) (qV.2 hqn)
    rw[zeC hr0,zeC hy]at hn
    repeat' first|refine gG ?_|exact gP|(exfalso;have h2:=uo h;rw[uj,uj,w3]at h2;omega)|refine gB ?_ ?_<;>intro h|refine gI T (zg hx) ?_|(rw[w1];refine gI T (yg hq') ?_)|refine gI T (yg hy) ?_|refine gI T (yg hr0) ?_|refine zx ?_|refine gL ?_
    all_goals rfl
   have hstep: ∀q,0<i->R[i - 1]?=some q->at0 q 0<at0 r 0:=λq h0 hq=>by
    by_cases h:at0 q 0<at0 r 0
    ·exact h
    ·exact absurd ⟨h0,q,hq,h⟩ hi0
   have hop:(∃q y0,R[((i:Int) - 1).toNat]?=some q/\q[0]?=some y0/\y0<x0/\0<i)\/ ¬0<i:=by
    by_cases h0:0<i
    ·obtain⟨q,hq⟩:=ze (l:=R) (i:=i - 1) ua
     have hlt2:=hstep q h0 hq
     have hq':R[((i:Int) - 1).toNat]?=some q:=by rw[show((i:Int) - 1).toNat=i - 1 by omega];exact hq
     have hqn:q≠ []:=hA.ne (i - 1) q ua hq
     obtain⟨y0,hy⟩:=ze (l:=q) (i:=0) (qV.2 hqn)
     rw[zeC hr0,zeC hy]at hlt2
     exact .inl ⟨q,y0,hq',hy,hlt2,h0⟩
    ·exact .inr h0
   rcases hop with⟨q,y0,hq',hy,hlt2,h0⟩|h0
   all_goals
    repeat' first|refine gG ?_|exact gP|(exfalso;have h2:=uo h;rw[uj,uj,w3]at h2;omega)|refine gB ?_ ?_<;>intro h|refine gI T (zg hx) ?_|(rw[w1];refine gI T (yg hq') ?_)|refine gI T (yg hy) ?_|refine gI T (yg hr0) ?_
    refine zn (λk:Nat=>1<=k/\k<=r.length/\zse r k) (λk=>([(0,pS (yp R)),(3,.one (.ar 101)),(5,pS (zA r)),(6,I k),(12,pS (yp R)),(13,I R.length),(14,I i)],[(101,some (Res.arr 1 ((R.take i).flatten.map zR)))])) (λk=>r.length - k) hC
     1 ⟨uG _,hrl,λj a b hj=>absurd hj ua⟩ id gM ?_
    clear h
    rintro k ⟨hk1,hkl,hka⟩
    refine zr T hC true 200 rfl ?_
    refine zu rfl ?_ ?_<;>intro h
    ·have hkt:k<r.length:=by simpa using h
     clear h
     obtain⟨a,ha⟩:=ze (l:=r) (i:=k - 1) ua
     obtain⟨b,hb⟩:=ze hkt
     have w2:IntKind.i64.wrap ((k:Int) - 1)=(k:Int) - 1:=wrap64 ua
     have ha':r[((k:Int) - 1).toNat]?=some a:=by rw[show((k:Int) - 1).toNat=k - 1 by omega];exact ha
     repeat' first|refine gG ?_|refine gB ?_ ?_<;>intro h|(rw[w2];refine gI T (yg ha') ?_)|refine gI T (zg hb) ?_|refine zx ?_|refine zx ?_|refine gL ?_
     ·have hge:=uo h
      rw[zaZ λhS=>absurd (zvV (hS.asc r (List.mem_of_getElem? hx)) ha (by rw[show k - 1+1=k by omega];exact hb)) ua]
     ·have hlt3:=uq h
      rw[zC ua]
      refine zf (k+1) ⟨ua,ua,λj c d hj hc hd=>?_⟩ id ua gM
      rcases Nat.lt_or_ge (j+1) k with h1|h1
      ·exact hka j c d h1 hc hd
      ·obtain rfl:k=j+1:=by omega
       rw[show j+1 - 1=j by omega,hc]at ha
       rw[hd]at hb
       obtain rfl:=uy ha
       obtain rfl:=uy hb
       omega
    ·have hge: ¬k<r.length:=by simpa using h
     have hkr:k=r.length:=by omega
     subst hkr
     clear h
     repeat' first|refine gG ?_|refine gB ?_ ?_<;>intro h|refine zj ?_|(refine xa T 102 hC (rows:=(R.take i).flatten.map zR) (rows2:=r.map zR) (rows3:=(R.take (i+1)).flatten.map zR) (bytes:=8) rfl rfl rfl rfl (zae.sl (T.es_ok _ _ rfl)) (by rw[hfl,uY]) rfl rfl rfl ud (by simp only[uj];omega) (by simp only[uj];omega) rfl rfl rfl ?_)
     rw[zC ua]
     exact zf (i+1) ⟨ua,hA.next hx hne hka.all hstep,by rw[hfl,uB];exact h500⟩ (mvU 101 102) ua ⟨rfl,⟨rfl,rfl,rfl,rfl,rfl,uh⟩,⟨rfl,uh⟩,rfl,λi hi=>zS ua hi⟩
 ·have hge: ¬i<R.length:=by simpa using h
  have hiR:i=R.length:=by omega
  subst hiR
  rw[tW]at ht⊢
  clear h
  have hS:=zmT R.flatten ua
  have hsl:=zfX R.flatten
  have hres:zbj R=decide (xk R.flatten=vG R.flatten.length):=by
   rw[og,zaW,ux,zkw]
   exact⟨λh=>⟨h.rng,h.nd⟩,λh=>yN.of hA ht h.1 h.2⟩
  rw[hres]
  repeat' first|refine gG ?_|refine gB ?_ ?_<;>intro h|refine zj ?_|(refine gR hS (nm [101]) ?_;refine gZ 101 [(3,pS (zA (xk R.flatten)))] [] ?_)
  rw[uj,hsl]
  refine zn (λi:Nat=>i<=R.flatten.length/\(xk R.flatten).take i=(vG R.flatten.length).take i) (λi=>([(69,pS (zA (xk R.flatten))),(70,I R.flatten.length),(71,I i)],[])) (λi=>R.flatten.length - i) hC
   0 ⟨uA _,ue⟩ id gM ?_
  clear hS hA hi hge
  rintro i ⟨hi,hn⟩
  refine zr T hC true 200 rfl ?_
  refine zu rfl ?_ ?_<;>intro h
  ·have hlt:i<R.flatten.length:=by simpa using h
   clear h
   obtain⟨x,hx⟩:=ze (l:=xk R.flatten) (i:=i) ua
   have hy:=zmU hlt
   repeat' first|refine gG ?_|refine gB ?_ ?_<;>intro h|refine gI T (zg hx) ?_|refine zx ?_|refine gL ?_
   ·have hxy: ¬x=(i:Int):=by simpa using h
    exact(uJ λe=>hxy (by rw[e,hy]at hx;exact(uy hx).symm)).symm
   ·have hxy:x=(i:Int):=by simpa using h
    subst hxy
    rw[zC ua]
    exact zf (i+1) ⟨ua,zb9 hx hy hn⟩ id ua gM
  ·have hge: ¬i<R.flatten.length:=by simpa using h
   repeat' first|refine gG ?_|refine gB ?_ ?_<;>intro h|refine zj ?_|refine gL ?_
   rw[uT ua,uT (by rw[zdH];omega)]at hn
   exact(uK hn).symm
def zud(k:Int)(R:Rws):Bool:=decide (R.length<=500)&&tableB (wK k) (pT (cK k) (sK k)) R
theorem zue(R:Rws):zud 1 R=zJ 1 R:=by
 show(decide (R.length<=500)&&tableB 2 (pT 1 true) R)=(decide (R.length<=500)&&tableB 2 (ltC 1) R)
 rw[zfU ub]
theorem zuf(R:Rws):zud 2 R=zJ 2 R:=by
 show(decide (R.length<=500)&&tableB 1 (pT 1 false) R)=(decide (R.length<=500)&&tableB 1 (λa b=> !ltC 1 b a) R)
 rw[zr9 ub]
theorem zug(R:Rws):zud 3 R=zJ 3 R:=by
 show(decide (R.length<=500)&&tableB 1 (pT 0 true) R)=(decide (R.length<=500)&&tableB 1 (λ_ _=>true) R)
 rw[zsa]
theorem zuh(R:Rws):zud 5 R=zJ 5 R:=by
 show(decide (R.length<=500)&&tableB 3 (pT 2 true) R)=(decide (R.length<=500)&&tableB 3 (ltC 2) R)
 rw[zfU ub]
theorem zsf(R:Rws):zJ 4 R=zbj R:=by
 show(decide (R.length<=500)&&zbj R)=zbj R
 cases h:zbj R with
 |false=>exact qz _
 |true=>rw[uK (zaW.1 h).len];rfl
theorem zsg(R:Rws):zJ 6 R=textB R:=by
 show(decide (R.length<=500)&&textB R)=textB R
 match R with
 | []=>rfl
 | [r]=>rfl
 |a::b::c=>simp[textB]
theorem zpE{k:Int}(hk: ¬(1<=k/\k<=6))(R:Rws):zJ k R=false:=by
 unfold zJ
 rw[ur ua,ur ua,ur ua,ur ua,ur ua,ur ua,qz]
theorem zmW(k:Int)(R:Rws)(hw: ∀r∈R,r.length<=1000000)(hR:R.length<=1000000):zk Tryz.prog 64 [zm (stR k R)] [] (.bq (zJ k R)) []:=by
 by_cases hk:1<=k/\k<=6
 case neg=>
  rw[zpE hk]
  refine gO T Tryz.func64 λC hC=>?_
  repeat' first|refine gG ?_|exact gP|refine gB ?_ ?_<;>intro h|refine gL ?_
  all_goals rfl
 have hT:=zfV (k:=k) R
 rw[show(decide (R.length<=500)&&tableB (wK k) (pT (cK k) (sK k)) R)=zud k R from rfl]at hT
 rcases kinds hk with rfl|rfl|rfl|rfl|rfl|rfl
 ·rw[zue]at hT
  generalize zJ 1 R=q at hT⊢
  refine gO T Tryz.func64 λC hC=>?_
  repeat' first|refine gG ?_|exact gD|refine gB ?_ ?_<;>intro h|refine gC hT ?_|refine gQ ?_|refine gL ?_
  all_goals rfl
 ·rw[zuf]at hT
  generalize zJ 2 R=q at hT⊢
  refine gO T Tryz.func64 λC hC=>?_
  repeat' first|refine gG ?_|exact gD|refine gB ?_ ?_<;>intro h|refine gC hT ?_|refine gQ ?_|refine gL ?_
  all_goals rfl
 ·rw[zug]at hT
  generalize zJ 3 R=q at hT⊢
  refine gO T Tryz.func64 λC hC=>?_
  repeat' first|refine gG ?_|exact gD|refine gB ?_ ?_<;>intro h|refine gC hT ?_|refine gQ ?_|refine gL ?_
  all_goals rfl
 ·have hS:=zf0 R hw
  rw[zsf]
  generalize zbj R=q at hS⊢
  refine gO T Tryz.func64 λC hC=>?_
  repeat' first|refine gG ?_|exact gD|refine gB ?_ ?_<;>intro h|refine gC hS ?_|refine gQ ?_|refine gL ?_
  all_goals rfl
 ·rw[zuh]at hT
  generalize zJ 5 R=q at hT⊢
  refine gO T Tryz.func64 λC hC=>?_
  repeat' first|refine gG ?_|exact gD|refine gB ?_ ?_<;>intro h|refine gC hT ?_|refine gQ ?_|refine gL ?_
  all_goals rfl
 ·rw[zsg]
  clear hT
  match R,hw,hR with
  | [],_,_=>
    refine gO T Tryz.func64 λC hC=>?_
    repeat' first|refine gG ?_|exact gD|refine gB ?_ ?_<;>intro h|refine gQ ?_|refine gL ?_
    all_goals first|rfl|exact gD
  | [r],hw,_=>
    have hN:=zb7 93 r (λn=> !zdn n) (λn _=>zpC n)
    rw[zcG]at hN
    have hx:[r][0]?=some r:=rfl
    have hrl:=hw r (tP.2 rfl)
    rw[show textB [r]=(decide (1<=r.length)&&decide (r.length<=500)&&r.all zdn) from rfl]
    by_cases hr1:1<=r.length/\r.length<=500
    ·rw[uK hr1.1,uK hr1.2,tr,tr]
     generalize r.all zdn=q at hN⊢
     refine gO T Tryz.func64 λC hC=>?_
     repeat' first|refine gG ?_|exact gD|exact gP|refine gB ?_ ?_<;>intro h|refine yM T hC rfl rfl rfl ub (yg (l:=[r]) (f:=z8) hx) rfl rfl ?_|refine gC hN ?_|refine gQ ?_|refine gL ?_
     all_goals first|rfl|(simp;done)
    ·rw[show(decide (1<=r.length)&&decide (r.length<=500)&&r.all zdn)=false by
      by_cases h1:1<=r.length
      ·rw[uJ (by omega: ¬r.length<=500)];simp
      ·rw[uJ h1];rfl]
     refine gO T Tryz.func64 λC hC=>?_
     repeat' first|refine gG ?_|exact gD|exact gP|refine gB ?_ ?_<;>intro h|refine yM T hC rfl rfl rfl ub (yg (l:=[r]) (f:=z8) hx) rfl rfl ?_|refine gC hN ?_|refine gQ ?_|refine gL ?_
     all_goals first|rfl|(simp;done)
  |a::b::c,_,hR=>
   have hl:(a::b::c).length≠0/\(a::b::c).length≠1:=by simp
   rw[show textB (a::b::c)=false from rfl]
   generalize a::b::c=R at hl hR
   refine gO T Tryz.func64 λC hC=>?_
   repeat' first|refine gG ?_|exact gD|exact gP|refine gB ?_ ?_<;>intro h|refine gQ ?_|refine gL ?_
   all_goals rfl
end Hw.Fr.Md
namespace Hw.Fr
open Go Go.Proofs Go.Shelf
def zhJ:Go.Shelf.Ren:=⟨λ|45=>136|n=>n,λ|22=>48|23=>31|3=>3|4=>4|0=>0|n=>n,λ|n=>n⟩
theorem zsh:Go.Proofs.SlLaysE.n45 Tryz.prog zhJ where
 mixed:=by kernel_rfl
 f45:=⟨"slices.Delete[[][]int,[]int]",ub,Tryz.func136.trans (uR some ud)⟩
 t0:=Tryz.underlying0
 a0:=Tryz.isAgg0
 z0:=Tryz.sizeOf0
 v0:=Tryz.zeroValue0
 t3:=Tryz.underlying3
 a3:=Tryz.isAgg3
 z3:=Tryz.sizeOf3
 v3:=Tryz.zeroValue3
 t4:=Tryz.underlying4
 a4:=Tryz.isAgg4
 z4:=Tryz.sizeOf4
 v4:=Tryz.zeroValue4
 t22:=Tryz.underlying48
 a22:=Tryz.isAgg48
 z22:=Tryz.sizeOf48
 v22:=Tryz.zeroValue48
 a23:=Tryz.isAgg31
 z23:=Tryz.sizeOf31
def zhK:Go.Shelf.Ren:=⟨λ|35=>137|n=>n,λ|22=>48|23=>31|3=>3|4=>4|0=>0|n=>n,λ|n=>n⟩
theorem zmX:Go.Proofs.SlLaysE.n35 Tryz.prog zhK where
 mixed:=by kernel_rfl
 f35:=⟨"slices.Reverse[[][]int,[]int]",ub,Tryz.func137.trans (uR some ud)⟩
 t0:=Tryz.underlying0
 a0:=Tryz.isAgg0
 z0:=Tryz.sizeOf0
 v0:=Tryz.zeroValue0
 t3:=Tryz.underlying3
 a3:=Tryz.isAgg3
 z3:=Tryz.sizeOf3
 v3:=Tryz.zeroValue3
 t4:=Tryz.underlying4
 a4:=Tryz.isAgg4
 z4:=Tryz.sizeOf4
 v4:=Tryz.zeroValue4
 t22:=Tryz.underlying48
 a22:=Tryz.isAgg48
 z22:=Tryz.sizeOf48
 v22:=Tryz.zeroValue48
 a23:=Tryz.isAgg31
 z23:=Tryz.sizeOf31
end Hw.Fr
namespace Hw
open Go Go.Proofs
variable {cs:List Value}
theorem jV:zab cs↔cs.Pairwise λx y=> ∀b,blk x=some b->blk y≠some b:=by
 rw[tu]
 constructor
 ·intro h i j hi hj hij b hb hb'
  exact h i j b _ _ (uM hi) (uM hj) ua hb hb'
 ·intro h i j b x y hx hy hne hb hb'
  obtain⟨hi,rfl⟩:=ui.1 hx
  obtain⟨hj,rfl⟩:=ui.1 hy
  rcases Nat.lt_or_ge i j with h1|h1
  ·exact h i j hi hj h1 b hb hb'
  ·exact h j i hj hi ua b hb' hb
theorem zab.sub{ds:List Value}(h:zab cs)(hs:ds.Sublist cs):zab ds:=jV.2 ((jV.1 h).sublist hs)
theorem zab.perm{ds:List Value}(h:zab cs)(hs:cs.Perm ds):zab ds:=jV.2 ((hs.pairwise_iff λ{x y} h b hb hb'=>h b hb' hb).1 (jV.1 h))
theorem zab.cons{v:Value}(h:zab cs)(hv: ∀c∈cs,∀b,blk c=some b->blk v≠some b):zab (v::cs):=
 jV.2 (tU.2 ⟨λc hc b hb hb'=>hv c hc b hb' hb,jV.1 h⟩)
def zhL(w w':World)(b0:Option Nat)(ys:List Value)(v:Value):Prop:= ∃(B o cap:Nat) (cs:Array Value) (el:TypeId) (fz:Nat×Nat),v= .slice (some ⟨B,o,none⟩) ys.length cap/\w'.heap[B]?=some (.cells cs el fz)/\xy fz cs.size/\
 o+cap<=cs.size/\ys.length<=cap/\cap<=9223372036854775807/\(∀(j:Nat) u,ys[j]?=some u->cs[o+j]?=some u)/\(w.heap.size<=B\/b0=some B)/\(∀k,k<w.heap.size->b0≠some k->w'.heap[k]?=w.heap[k]?)/\
 w.heap.size<=w'.heap.size/\w'.os=w.os/\w'.tape=w.tape/\w'.output=w.output
variable {L:List (List (List PV))}{M:Mem}{ρ:Nat->Value}
theorem zi3{w w':World}{R:RL}{r0:Res}{io ib e:Nat}{ys:List Value}{v:Value}(hR:tg (tb R) 0=some r0)(hT:ji M ρ w (tb R))(hI:Imm M w)(hio:io∉R.ids)(hib:ib∉R.ids)(hne:io≠ib)
 (hD:zhL w w' (blk (ρ 0)) ys v) (h0: ∀b,blk (ρ 0)=some b->Bk (ρ 0) b) (hlen:ys.length=L.length) (hone: ∀c∈ys,c.oneCell'=true) (hin: ∀(j:Nat) rs,L[j]?=some rs-> ∃c,ys[j]?=some c/\wO M w c e rs) (hap:zab ys)
 (hys: ∀c∈ys,∀b,blk c=some b->b<w.heap.size/\blk (ρ 0)≠some b/\zdo (tb R) ρ b):
 Ret M ρ w R (.one (.ar io)) [(io,.vw [ib] 1 (gr L.length)),(ib,.bag e L)] v M (upd (upd ρ ib (.tuple ys.toArray)) io v) w':=by
 obtain⟨B,o,cap,cs,el,fz,rfl,g1,g2,g3,g4,g5,g6,g7,g8,g9,g10,g11,g12⟩:=hD
 have r1:upd (upd ρ ib (.tuple ys.toArray)) io (.slice (some ⟨B,o,none⟩) ys.length cap) io= .slice (some ⟨B,o,none⟩) ys.length cap:=zw _ _ _
 have r2:upd (upd ρ ib (.tuple ys.toArray)) io (.slice (some ⟨B,o,none⟩) ys.length cap) ib= .tuple ys.toArray:=by rw[zL (λe=>hne e.symm),zw]
 have two: ∀i r,tg (tb [(io,Res.vw [ib] 1 (gr L.length)),(ib,.bag e L)]) i=some r->(i=io/\r= .vw [ib] 1 (gr L.length))\/(i=ib/\r= .bag e L):=λi r hi=>by
  simp only[tb,zX]at hi
  split at hi
  ·rename_i e;exact .inl ⟨e.symm,(uy hi).symm⟩
  ·split at hi
   ·rename_i e;exact .inr ⟨e.symm,(uy hi).symm⟩
   ·cases hi
 have bkB: ∀b,Bk (.slice (some ⟨B,o,none⟩) ys.length cap) b->b=B:=λb hb=>by simp only[Bk,blk,um]at hb;exact hb.symm
 have bkY: ∀b,Bk (.tuple ys.toArray) b-> ∃c∈ys,blk c=some b:=λb hb=>by obtain⟨x,hx,h⟩:=hb;exact⟨x,by simpa using hx,h⟩
 have nB: ∀c∈ys,∀b,blk c=some b->b≠B:=λc hc b hb e=>by
  obtain⟨h1,h2,_⟩:=hys c hc b hb
  rcases g7 with h|h
  ·omega
  ·exact h2 (by rw[h,e])
 refine zhI hT hI (by simp only[RepS,RepV];exact⟨r1.symm,rfl⟩) (λi r hi=>?_) (λi j ri rj b hi hj hne2 hb hb'=>?_) (λi r b hi hb=>?_) (λb hb hn=>g8 b hb λe=>hn ⟨0,r0,hR,h0 b e⟩) g9 g10 g11 g12 λid hid=>?_
 ·rcases two i r hi with⟨rfl,rfl⟩|⟨rfl,rfl⟩
  ·refine⟨some ⟨B,o,none⟩,cap,by rw[xx,<-hlen];exact r1,by rw[xx,<-hlen];exact g4,g5,zam _,.inr ⟨B,o,cs,el,fz,rfl,g1,g2,by rw[qS];exact g3,λj x hj=>?_⟩⟩
   rw[gr,jc,uE,uH]at hj
   obtain⟨q,hq,rfl⟩:=hj
   have hlt:=(ui.1 hq).1
   rw[tV]at hlt
   rw[qg hlt]at hq
   obtain rfl:=uy hq
   have hy:ys[j]?=some ys[j]:=uM ua
   exact⟨_,g6 j _ hy,by simp only[toV,List.getElem?_cons_zero,RepV];exact⟨ys,r2,hy,hone _ (List.mem_of_getElem? hy)⟩⟩
  ·refine⟨ys,r2,hlen,λj rs hj=>?_,hap⟩
   obtain⟨c,c1,c2⟩:=hin j rs hj
   refine⟨c,c1,c2.world λb hb=>?_⟩
   obtain⟨h1,h2,_⟩:=hys c (List.mem_of_getElem? c1) b hb
   exact g8 b h1 h2
 ·rcases two i ri hi with⟨rfl,_⟩|⟨rfl,_⟩<;>rcases two j rj hj with⟨rfl,_⟩|⟨rfl,_⟩
  ·exact hne2 rfl
  ·rw[r1]at hb;rw[r2]at hb'
   obtain⟨c,hc,h⟩:=bkY b hb'
   exact nB c hc b h (bkB b hb)
  ·rw[r2]at hb;rw[r1]at hb'
   obtain⟨c,hc,h⟩:=bkY b hb
   exact nB c hc b h (bkB b hb')
  ·exact hne2 rfl
 ·rcases two i r hi with⟨rfl,_⟩|⟨rfl,_⟩
  ·rw[r1]at hb
   obtain rfl:=bkB b hb
   exact g7.imp id λh=>⟨0,r0,hR,h0 b h⟩
  ·rw[r2]at hb
   obtain⟨c,hc,h⟩:=bkY b hb
   exact .inr (hys c hc b h).2.2
 ·rw[zL (λe=>hio (by rw[<-e];exact hid)),zL (λe=>hib (by rw[<-e];exact hid))]
theorem zbo{w:World}{o id e:Nat}(ho:zH M ρ w o (.vw [id] 1 (gr L.length)))(hb:zH M ρ w id (.bag e L)):
 ∃(xs:List Value) (a:Option Addr) (cap:Nat),ρ id= .tuple xs.toArray/\xs.length=L.length/\(∀(j:Nat) rs,L[j]?=some rs-> ∃c,xs[j]?=some c/\wO M w c e rs)/\zab xs/\ρ o= .slice a xs.length cap/\xs.length<=cap/\cap<=9223372036854775807/\(∀c∈xs,c.oneCell'=true)/\
  ((a=none/\cap=0)\/ ∃(b oo:Nat) (cs:Array Value) (el:TypeId) (fz:Nat×Nat),a=some ⟨b,oo,none⟩/\w.heap[b]?=some (.cells cs el fz)/\xy fz cs.size/\oo+cap<=cs.size/\ ∀(j:Nat) u,xs[j]?=some u->cs[oo+j]?=some u):=by
 obtain⟨xs,h1,h2,h3,h4⟩:=hb
 obtain⟨a,cap,g1,g2,g3,_,g5⟩:=ho
 rw[xx]at g1 g2
 refine⟨xs,a,cap,h1,h2,h3,h4,by rw[h2];exact g1,ua,g3,λc hc=>?_,?_⟩
 ·obtain⟨j,hj⟩:=tj.1 hc
  have hjl:=(ui.1 hj).1
  obtain⟨c',c1,⟨_,_,c2,_⟩⟩:=h3 j _ (uM ua)
  rw[hj]at c1
  obtain rfl:=uy c1
  rw[c2];rfl
 ·rcases g5 with h|⟨b,oo,cs,el,fz,k1,k2,k3,k4,k5⟩
  ·exact .inl h
  ·refine .inr ⟨b,oo,cs,el,fz,k1,k2,k3,by rw[qS]at k4;exact k4,λj u hj=>?_⟩
   have hjl:=(ui.1 hj).1
   obtain⟨c,c1,c2⟩:=k5 j _ (zku ua)
   simp only[toV,List.getElem?_cons_zero,RepV]at c2
   obtain⟨xs',f1,f2,_⟩:=c2
   rw[h1]at f1
   have:xs'=xs:=by simp only[Value.tuple.injEq]at f1;have:=uR Array.toList f1;simpa using this.symm
   subst this
   rw[hj]at f2
   rw[c1,uy f2]
end Hw
namespace Hw.Fr.Md
open Go Go.Proofs Go.Shelf Hw.M
def bg(R:Rws):Res:= .bag 1 (R.map λr=>r.map zR)
def vg(j n:Nat):Res:= .vw [j] 1 (gr n)
theorem zmY(j:Nat)(R:Rws):vg j R.length= .vw [j] 1 (gr (R.map λr=>r.map zR).length):=by rw[uj];rfl
abbrev zvt:Type:={v:Value // v.oneCell'=true}
instance:Inhabited zvt:=⟨⟨.slice none 0 0,rfl⟩⟩
def zgz(x:zvt):Value:=x.1
theorem zi4:OneCell zgz:=λx=>x.2
theorem zmZ: ∀(xs:List Value),(∀c∈xs,c.oneCell'=true)-> ∃ds:List zvt,ds.map zgz=xs
 | [],_=>⟨[],rfl⟩
 |x::xs,h=>by
  obtain⟨ds,hd⟩:=zmZ xs λc hc=>h c (td _ hc)
  exact⟨⟨x,h x (tQ ..)⟩::ds,by simp[zgz,<-hd]⟩
theorem info_sl: ∃i0,Tryz.prog.info? 31=some i0/\i0.size=1/\i0.zero=some (.slice none 0 0)/\i0.bytes=24:=by
 have h:(Tryz.prog.info? 31).map (λi=>(decide (i.size=1)&&decide (i.bytes=24)&&(match i.zero with|some (.slice none 0 0)=>true|_=>false)))=some true:=by kernel_rfl
 obtain⟨i0,h1,h2⟩:=uH.1 h
 simp only[uu,ux]at h2
 refine⟨i0,h1,h2.1.1,?_,h2.1.2⟩
 have h3:=h2.2
 split at h3
 ·assumption
 ·cases h3
variable {M:Mem}{w:World}{xs:List Value}
theorem zf1{ρ:Nat->Value}{R:Rws}(hT:ji M ρ w (tb [(0,vg 1 R.length),(1,bg R)]))(h1:ρ 1= .tuple xs.toArray)(hA: ∀c∈xs,∀b,blk c=some b->b<w.heap.size)(h0: ∀b,blk (ρ 0)=some b->Bk (ρ 0) b):
 ∀c∈xs,∀b,blk c=some b->b<w.heap.size/\blk (ρ 0)≠some b/\zdo (tb [(0,vg 1 R.length),(1,bg R)]) ρ b:=λc hc b hb=>by
 have hB:Bk (ρ 1) b:=by rw[h1];exact⟨c,by simpa using hc,hb⟩
 exact⟨hA c hc b hb,λe=>hT.dis 0 1 _ _ b rfl rfl ub (h0 b e) hB,1,_,rfl,hB⟩
theorem zm0{L:List (List (List PV))}{e:Nat}(hl:xs.length=L.length)(h: ∀(j:Nat) rs,L[j]?=some rs-> ∃c,xs[j]?=some c/\wO M w c e rs): ∀c∈xs,∀b,blk c=some b->b<w.heap.size:=λc hc b hb=>by
 obtain⟨j,hj⟩:=tj.1 hc
 have hjl:=(ui.1 hj).1
 obtain⟨c',c1,c2⟩:=h j _ (uM ua)
 rw[hj]at c1
 obtain rfl:=uy c1
 exact c2.lt hb
theorem zcY{α β:Type}(f:α->β): ∀(l:List α) (i:Nat),(l.eraseIdx i).map f=(l.map f).eraseIdx i
 | [],_=>rfl
 |_::_,0=>rfl
 |x::l,i+1=>by simp only[Ur,tK,zcY f l i]
theorem zi5(R:Rws)(i:Nat)(hi:i<R.length)(hR:R.length<=1000000):zk Tryz.prog 136 [.one (.ar 0),I i,I ((i+1:Nat):Int)] [(0,vg 1 R.length),(1,bg R)] (.one (.ar 2)) [(2,vg 3 (R.length - 1)),(3,bg (R.eraseIdx i))]:=by
 refine⟨⟨_,Tryz.func136,ud,ud⟩,λM ρ w vs hx hT hI hG=>?_⟩
 match vs,hx with
 | [x0,x1,x2],hx=>
   simp only[RepSs,RepS,RepV,RepPV]at hx
   obtain⟨⟨rfl,_⟩,⟨rfl,_⟩,⟨rfl,_⟩,_⟩:=hx
   have hv:=hT.res 0 (vg 1 R.length) rfl
   rw[zmY]at hv
   obtain⟨xs,a,cap,h1,h2,h3,h4,g1,g2,g3,g4,g5⟩:=zbo hv (hT.res 1 (bg R) rfl)
   rw[uj]at h2
   rcases g5 with⟨_,hc⟩|⟨b,o,cs,el,fz,rfl,k1,k2,k3,k4⟩
   ·omega
   obtain⟨ds,hds⟩:=zmZ xs g4
   have hdl:ds.length=xs.length:=by rw[<-hds,uj]
   have hH:Sort.Holds zgz w b o ds.toArray:=holds_of k1 k2 λj x hx=>k4 j _ (by rw[<-hds,uE];simp at hx;rw[hx];rfl)
   obtain⟨i0,hi0,hz1,_,_⟩:=info_sl
   have h0: ∀q,blk (ρ 0)=some q->Bk (ρ 0) q:=λq hq=>by rw[g1]at hq ⊢; exact hq
   have hcall:=AnyE.slices_Delete zsh zgz zi4 (default:zvt) (λw=>by exact Tryz.zeroValue31 w) i0 hi0 hz1 b o cap i (i+1) ds.toArray w hH (by simpa [hdl]using g2) g3 (Nat.le_succ i) ug
   rw[show ds.toArray.size=xs.length by simp[hdl]]at hcall
   rw[g1]
   refine hcall.mono ?_
   rintro e w' ⟨rfl,q,rfl⟩
   have hyl:(xs.eraseIdx i).length=xs.length - (i+1 - i):=by rw[qm ua];omega
   have hD:zhL w (Sort.putRow zgz (Sort.ahead w q) b o (ds.toArray.toList.take i++ds.toArray.toList.drop (i+1)++List.replicate (i+1 - i) default).toArray) (blk (ρ 0)) (xs.eraseIdx i) (.slice (some ⟨b,o,none⟩) (xs.length - (i+1 - i)) cap):=by
    refine⟨b,o,cap,_,el,fz,by rw[hyl],zcX zgz (Sort.ahead w q) b o _ k1,by rw[xj];exact k2,by rw[xj];exact k3,ua,g3,λj u hj=>?_,.inr (by rw[g1];rfl),λk hk hne=>?_,by rw[je];exact uG _,rfl,rfl,rfl⟩
    ·have hjl:=(ui.1 hj).1
     rw[<-hds,<-zcY,uE,uH]at hj
     obtain⟨d,hd,rfl⟩:=hj
     refine zaz zgz o _ cs ?_ ua
     rw[tp,uP ug]
     rw[tZ]at hd
     exact hd
    ·exact zbn zgz _ b o _ λe=>hne (by rw[g1,e];rfl)
   have hL:(R.map λr=>r.map zR).eraseIdx i=(R.eraseIdx i).map λr=>r.map zR:=(zcY _ R i).symm
   have:=zi3 (io:=2) (ib:=3) (e:=1) (L:=(R.eraseIdx i).map λr=>r.map zR) rfl hT hI (by simp[RL.ids]) (by simp[RL.ids]) ub hD h0
    (by rw[uj,hyl,qm ua];omega) (λc hc=>g4 c ((qC ..).subset hc))
    (λj rs hj=>by
      rw[<-hL]at hj
      rcases Nat.lt_or_ge j i with hlt|hge
      ·rw[oZ hlt]at hj
       obtain⟨c,c1,c2⟩:=h3 j rs hj
       exact⟨c,by rw[oZ hlt];exact c1,c2⟩
      ·rw[o7 hge]at hj
       obtain⟨c,c1,c2⟩:=h3 (j+1) rs hj
       exact⟨c,by rw[o7 hge];exact c1,c2⟩)
    (h4.sub (qC ..)) (λc hc=>zf1 hT h1 (zm0 (by rw[uj];exact h2) h3) h0 c ((qC ..).subset hc))
   rw[uj,qm hi]at this
   exact⟨_,M,_,rfl,this⟩
 | [],hx=>simp[RepSs]at hx
 | [_],hx=>simp[RepSs]at hx
 | [_,_],hx=>simp[RepSs]at hx
 |_::_::_::_::_,hx=>simp[RepSs]at hx
variable {α:Type}
def zbp(l:List α)(a m:Nat):List α:=l.take a++((l.drop a).take m).reverse++l.drop (a+m)
theorem vH(l:List α)(a m:Nat):(zbp l a m).Perm l:=by
 have e:l=l.take a++((l.drop a).take m++(l.drop a).drop m):=by rw[tv,tv]
 conv=>rhs;rw[e]
 rw[zbp,tL,qD]
 exact oR _ (oM _ (List.reverse_perm _))
theorem zi6(l:List α)(a m:Nat):(zbp l a m).length=l.length:=(vH l a m).length_eq
theorem zpF{β:Type}(f:α->β)(l:List α)(a m:Nat):(zbp l a m).map f=zbp (l.map f) a m:=by
 simp only[zbp,uY,qM,oa,List.map_reverse]
theorem zhM{l:List α}{a m:Nat}(h:a+m<=l.length)(j:Nat):(zbp l a m)[j]?=if a<=j/\j<a+m then l[a+(m - 1 - (j - a))]? else l[j]?:=by
 have h1:(l.take a).length=a:=by rw[uz];omega
 have h2:((l.drop a).take m).length=m:=by rw[uz,uQ];omega
 have h3:(((l.drop a).take m).reverse).length=m:=by rw[qO];exact h2
 unfold zbp
 by_cases hj:j<a
 ·rw[ur ua,tL,uP ua,uZ,uv hj]
 ·by_cases hj2:j<a+m
  ·rw[uv ⟨ua,hj2⟩,uP (by rw[uB];omega),uO ua,h1,oT ua,h2,uZ,uv ua,uD]
  ·rw[ur ua,uO (by rw[uB];omega),uB,h1,h3,uD,show a+m+(j - (a+m))=j by omega]
theorem zui(R:Rws)(a m:Nat)(ha:a+m<=R.length)(hR:R.length<=1000000):zk Tryz.prog 137 [.one (.sv 0 (a*1) m)] [(0,vg 1 R.length),(1,bg R)] .un [(0,vg 2 R.length),(2,bg (zbp R a m))]:=by
 refine⟨⟨_,Tryz.func137,ud,ud⟩,λM ρ w vs hx hT hI hG=>?_⟩
 match vs,hx with
 | [x0],hx=>
   simp only[RepSs,RepS,RepV]at hx
   obtain⟨hx0,_⟩:=hx
   have hv:=hT.res 0 (vg 1 R.length) rfl
   rw[zmY]at hv
   obtain⟨xs,ad,cap,h1,h2,h3,h4,g1,g2,g3,g4,g5⟩:=zbo hv (hT.res 1 (bg R) rfl)
   rw[uj]at h2
   have h0: ∀q,blk (ρ 0)=some q->Bk (ρ 0) q:=λq hq=>by rw[g1]at hq ⊢; exact hq
   have inn:=zf1 hT h1 (zm0 (by rw[uj];exact h2) h3) h0
   have hlr:=zi6 xs a m
   have hlR:=zi6 R a m
   have two: ∀i r,tg (tb [(0,vg 2 R.length),(2,bg (zbp R a m))]) i=some r->(i=0/\r=vg 2 R.length)\/(i=2/\r=bg (zbp R a m)):=λi r hi=>by
    simp only[tb,zX]at hi
    split at hi
    ·rename_i e;exact .inl ⟨e.symm,(uy hi).symm⟩
    ·split at hi
     ·rename_i e;exact .inr ⟨e.symm,(uy hi).symm⟩
     ·cases hi
   -- what is left, wherever the outer cells lie
   have fin: ∀ {e:Ending} {w':World},e= .returned (.tuple #[])->(∀k,k<w.heap.size->blk (ρ 0)≠some k->w'.heap[k]?=w.heap[k]?)->w.heap.size<=w'.heap.size->w'.os=w.os->w'.tape=w.tape->w'.output=w.output->
    ((ad=none/\cap=0)\/ ∃(b o:Nat) (cs:Array Value) (el:TypeId) (fz:Nat×Nat),ad=some ⟨b,o,none⟩/\w'.heap[b]?=some (.cells cs el fz)/\xy fz cs.size/\o+cap<=cs.size/\ ∀(j:Nat) u,(zbp xs a m)[j]?=some u->cs[o+j]?=some u)->
    ∃v M' ρ',e= .returned v/\Ret M ρ w [(0,vg 1 R.length),(1,bg R)] .un [(0,vg 2 R.length),(2,bg (zbp R a m))] v M' ρ' w':=λ{e w'} he hf hs ho ht hp hcells=>by
    have r0:upd ρ 2 (.tuple (zbp xs a m).toArray) 0=ρ 0:=zL ub
    have r2:upd ρ 2 (.tuple (zbp xs a m).toArray) 2= .tuple (zbp xs a m).toArray:=zw _ _ _
    refine⟨_,M,upd ρ 2 (.tuple (zbp xs a m).toArray),he,zhI hT hI (by simp only[RepS]) (λi r hi=>?_) (λi j ri rj b hi hj hne hb hb'=>?_) (λi r b hi hb=>?_) (λb hb hn=>hf b hb λe=>hn ⟨0,_,rfl,h0 b e⟩) hs ho ht hp λid hid=>zL (by simp only[RL.ids,uV,List.mem_nil_iff,Uq]at hid;omega)⟩
    ·rcases two i r hi with⟨rfl,rfl⟩|⟨rfl,rfl⟩
     ·refine⟨ad,cap,by rw[xx,r0,<-h2];exact g1,by rw[xx,<-h2];exact g2,g3,zam _,?_⟩
      rcases hcells with h|⟨b,o,cs,el,fz,k1,k2,k3,k4,k5⟩
      ·exact .inl h
      ·refine .inr ⟨b,o,cs,el,fz,k1,k2,k3,by rw[qS];exact k4,λj x hj=>?_⟩
       rw[gr,jc,uE,uH]at hj
       obtain⟨q,hq,rfl⟩:=hj
       have hlt:=(ui.1 hq).1
       rw[tV]at hlt
       rw[qg hlt]at hq
       obtain rfl:=uy hq
       have hy:(zbp xs a m)[j]?=some (zbp xs a m)[j]:=uM ua
       exact⟨_,k5 j _ hy,by simp only[toV,List.getElem?_cons_zero,RepV];exact⟨_,r2,hy,g4 _ ((vH xs a m).mem_iff.1 (List.mem_of_getElem? hy))⟩⟩
     ·refine⟨zbp xs a m,r2,by rw[hlr,uj,hlR];exact h2,λj rs hj=>?_,h4.perm (vH xs a m).symm⟩
      rw[zpF,zhM (by rw[uj];exact ha)]at hj
      have: ∃c,(zbp xs a m)[j]?=some c/\wO M w c 1 rs:=by
       rw[zhM ua]
       split
       ·rename_i hc;rw[uv hc]at hj;exact h3 _ rs hj
       ·rename_i hc;rw[ur hc]at hj;exact h3 _ rs hj
      obtain⟨c,c1,c2⟩:=this
      have hcm:=(vH xs a m).mem_iff.1 (List.mem_of_getElem? c1)
      exact⟨c,c1,c2.world λb hb=>hf b (inn c hcm b hb).1 (inn c hcm b hb).2.1⟩
    ·have key: ∀b,Bk (ρ 0) b->Bk (.tuple (zbp xs a m).toArray) b->False:=λb hb hb'=>by
      obtain⟨c,hc,h⟩:=hb'
      exact(inn c ((vH xs a m).mem_iff.1 (by simpa using hc)) b h).2.1 (by rw[g1]at hb ⊢; exact hb)
     rcases two i ri hi with⟨rfl,_⟩|⟨rfl,_⟩<;>rcases two j rj hj with⟨rfl,_⟩|⟨rfl,_⟩
     ·exact hne rfl
     ·rw[r0]at hb;rw[r2]at hb';exact key b hb hb'
     ·rw[r2]at hb;rw[r0]at hb';exact key b hb' hb
     ·exact hne rfl
    ·rcases two i r hi with⟨rfl,_⟩|⟨rfl,_⟩
     ·rw[r0]at hb;exact .inr ⟨0,_,rfl,hb⟩
     ·rw[r2]at hb
      obtain⟨c,hc,h⟩:=hb
      exact .inr (inn c ((vH xs a m).mem_iff.1 (by simpa using hc)) b h).2.2
   have same:zbp xs a m=xs->w.heap.size<=w.heap.size:=λ_=>uG _
   by_cases hm:m=0
   ·subst hm
    have hrx:zbp xs a 0=xs:=by simp[zbp]
    obtain⟨a',c',rfl⟩: ∃(a':Option Addr) (c':Nat),x0= .slice a' 0 c':=by
     rcases hx0 with⟨_,h⟩|⟨b,o,N,cap',c',_,h,_⟩
     ·exact h
     ·exact⟨_,_,h⟩
    refine(AnyE.slices_Reverse_empty zmX a' c' w).mono ?_
    rintro e w' ⟨rfl,rfl⟩
    exact fin rfl (λ_ _ _=>rfl) (uG _) rfl rfl rfl (by rw[hrx];exact g5)
   ·rcases hx0 with⟨h,_⟩|⟨b,o,N,cap',c',e1,rfl,e3,e4⟩
    ·exact absurd h hm
    rcases g5 with⟨rfl,_⟩|⟨b',o',cs,el,fz,rfl,k1,k2,k3,k4⟩
    ·rw[g1]at e1;cases e1
    rw[g1]at e1
    simp only[Value.slice.injEq,um,Addr.mk.injEq]at e1
    obtain⟨⟨rfl,rfl,_⟩,rfl,rfl⟩:=e1
    rw[qS]
    obtain⟨ds,hds⟩:=zmZ ((xs.drop a).take m) λc hc=>g4 c (tE (u6 hc))
    have hdl:ds.length=m:=by
     have:=uR List.length hds
     rw[uj,uz,uQ]at this;omega
    have hH:Sort.Holds zgz w b' (o'+a) ds.toArray:=holds_of k1 k2 λj x hx=>by
     have hj:((xs.drop a).take m)[j]?=some (zgz x):=by rw[<-hds,uE];simp at hx;rw[hx];rfl
     rw[uZ]at hj
     split at hj
     ·rw[uD]at hj
      rw[th];exact k4 _ _ hj
     ·cases hj
    have hcall:=AnyE.slices_Reverse zmX zgz zi4 b' (o'+a) c' ds w hH ua
    rw[hdl]at hcall
    refine hcall.mono ?_
    rintro e w' ⟨rfl,q,rfl⟩
    refine fin rfl (λk hk hne=>zbn zgz _ b' _ _ λe=>hne (by rw[g1,e];rfl)) (by rw[je];exact uG _) rfl rfl rfl (.inr ⟨b',o',_,el,fz,rfl,zcX zgz (Sort.ahead w q) b' _ _ k1,by rw[xj];exact k2,by rw[xj];exact k3,λj u hj=>?_⟩)
    have hjl:=(ui.1 hj).1
    rw[zhM ua]at hj
    split at hj
    ·rename_i hc
     have hd:ds.reverse[j - a]?=ds[m - 1 - (j - a)]?:=by rw[oT ua,hdl]
     have hx:(ds.map zgz)[m - 1 - (j - a)]?=some u:=by
      rw[hds,uZ,uv ua,uD];exact hj
     rw[uE,uH]at hx
     obtain⟨d,hd2,rfl⟩:=hx
     have:=zaz zgz (o'+a) ds.reverse.toArray cs (j:=j - a) (x:=d) (by rw[tp,hd];exact hd2) ua
     rw[show o'+a+(j - a)=o'+j by omega]at this
     exact this
    ·rename_i hc
     have h5:=k4 j u hj
     unfold Sort.putCells
     rw[UD,h5,qh,ur (by simp only[uW,qO];omega)]
 | [],hx=>simp[RepSs]at hx
 |_::_::_,hx=>simp[RepSs]at hx
end Hw.Fr.Md
namespace Hw.Fr.Md
open Go Go.Proofs Go.Shelf Go.RowKit Go.Lib Hw.M
abbrev zot(xs:List Value)(i:Nat)(v:Value):List Value:=xs.take i++v::xs.drop i
set_option maxHeartbeats 4000000 in
set_option maxRecDepth 100000 in
theorem zm1(a:Option Addr)(n c vb vc:Nat)(v v':Value)(w w':World)(hnc:n<=c)(hc63:c<=9223372036854775807)
 (hrun: ∀ty,(Builtin.append_ #[48,48] ty #[.slice a n c,.slice (some ⟨vb,0,none⟩) 1 vc]).run Tryz.prog w= .ok v' w'):
 Calls Tryz.prog 135 #[.slice a n c,.int .i64 n,.slice (some ⟨vb,0,none⟩) 1 vc] w λe w2=>e= .returned v'/\w2=w':=by
 have t3:=Tryz.underlying3;have a3:=Tryz.isAgg3;have z3:=Tryz.sizeOf3;have v3:=Tryz.zeroValue3
 have t4:=Tryz.underlying4;have a4:=Tryz.isAgg4;have z4:=Tryz.sizeOf4;have v4:=Tryz.zeroValue4
 have t22:=Tryz.underlying48;have a22:=Tryz.isAgg48;have z22:=Tryz.sizeOf48;have v22:=Tryz.zeroValue48
 have u3:=run_underlying Tryz.underlying3;have u4:=run_underlying Tryz.underlying4;have u22:=run_underlying Tryz.underlying48
 have mixed:Tryz.prog.follows .mixedOrders=true:=by kernel_rfl
 go_enter Tryz.func135,Tryz.ntmps135
 cases a with
 |none=>
  go_wp2_with (at_builtin;refine Lib.wpList_append_run _ rfl _ _ _ _ rfl _ _ rfl rfl _ _ (hrun _) ?_)
  all_goals (go_ret;exact⟨rfl,rfl⟩)
 |some ad=>
  obtain⟨ab,ao,asp⟩:=ad
  go_wp2_with (at_builtin;refine Lib.wpList_append_run _ rfl _ _ _ _ rfl _ _ rfl rfl _ _ (hrun _) ?_)
  all_goals (go_ret;exact⟨rfl,rfl⟩)
set_option maxHeartbeats 4000000 in
set_option maxRecDepth 100000 in
theorem zm2(b off n c i vb vc:Nat)(xs:List Value)(v:Value)(w:World)(hi:i<n)(hroom:n+1<=c)(hc63:c<=9223372036854775807)(hvb:vb≠b)(hcl:xs.length=n)
 (hcs: ∀(j:Nat) u,xs[j]?=some u->w.cell? ⟨b,off+j,none⟩=some u) (hsp: ∀j,j<n+1->(w.cell? ⟨b,off+j,none⟩).isSome=true) (hfz: ∀j,j<n+1->w.frozen? ⟨b,off+j,none⟩=false)
 (hv:w.cell? ⟨vb,0,none⟩=some v) (h1c: ∀u∈xs,u.oneCell'=true) (h1v:v.oneCell'=true)
 (tA tB:TypeId) (kA kB:Nat) (hsa:w.shape? vb=some (tA,kA)) (hsb:w.shape? b=some (tB,kB)) (hkB:kB≠0) (hfa:w.frozen? ⟨vb,0,none⟩=false) (hfe:w.frozen? ⟨vb,kA,none⟩=false):
 Calls Tryz.prog 135 #[.slice (some ⟨b,off,none⟩) n c,.int .i64 i,.slice (some ⟨vb,0,none⟩) 1 vc] w λe w'=>
  e= .returned (.slice (some ⟨b,off,none⟩) (n+1) c)/\w'=(w.drew.setCells b (off+(i+1)) (xs.drop i)).setCells b (off+i) [v]:=by
 have t3:=Tryz.underlying3;have a3:=Tryz.isAgg3;have z3:=Tryz.sizeOf3;have v3:=Tryz.zeroValue3
 have t4:=Tryz.underlying4;have a4:=Tryz.isAgg4;have z4:=Tryz.sizeOf4;have v4:=Tryz.zeroValue4
 have t22:=Tryz.underlying48;have a22:=Tryz.isAgg48;have z22:=Tryz.sizeOf48;have v22:=Tryz.zeroValue48
 have u3:=run_underlying Tryz.underlying3;have u4:=run_underlying Tryz.underlying4;have u22:=run_underlying Tryz.underlying48
 have mixed:Tryz.prog.follows .mixedOrders=true:=by kernel_rfl
 obtain⟨i0,hi0,hz1,_,_⟩:=info_sl
 have hsz:(Tryz.prog.info? 31).map (·.size)=some 1:=by rw[hi0,<-hz1];rfl
 have hn1: ¬((i:Int)=(n:Int)):=by omega
 have hov: ∀lb cb,(callFunc 158 #[.slice (some ⟨vb,0,none⟩) 1 vc,.slice (some ⟨b,off+(i+1),none⟩) lb cb]).run Tryz.prog w= .ok (.value (.bool false)) w:=λlb cb=>by
  rw[run_callFunc_extern Tryz.func158 ud ud ud (e:=Extern.SlicesOverlaps.overlaps #[48,48] #[4]) ud,
   Lib.run_overlaps_apart w 48 4 31 Tryz.underlying48 1 Tryz.sizeOf31 ⟨vb,0,none⟩ ⟨b,off+(i+1),none⟩ 1 vc lb cb hvb tA tB kA kB hsa hsb hkB hfa hfe]
  rfl
 have hdl:(xs.drop i).length=n - i:=by rw[uQ,hcl]
 have hb1:(0:Int)<=(i:Int)+1:=by omega
 have hin:i<=n:=by omega
 have htn:((i:Int)+1).toNat=i+1:=by omega
 have hwr:IntKind.i64.wrap ((i:Int)+1)=(i:Int)+1:=by rw[IntKind.wrap_i64];omega
 have hb2: ¬(c=i+1):=by omega
 have hb3:(i:Int)<=(n:Int)+1:=by omega
 have hb4: ¬(c=i):=by omega
 have hcp1: ∀ty dc sc,(Builtin.copy_ #[48,48] ty #[.slice (some ⟨b,off+(i+1),none⟩) (n - i) dc,.slice (some ⟨b,off+i,none⟩) (n+1 - i) sc]).run Tryz.prog w.drew= .ok (goInt (xs.drop i).length) (w.drew.setCells b (off+(i+1)) (xs.drop i)):=λty dc sc=>
  run_copy_cells w.drew _ _ ty 31 b (off+(i+1)) (n - i) dc ⟨b,off+i,none⟩ (n+1 - i) sc (xs.drop i) Tryz.underlying48 hsz (by rw[hdl];simp only[oD];split<;>omega)
   (λj u hj=>by rw[Addr.add_lit,th];exact hcs (i+j) u (by rwa [uD]at hj))
   (λj hj=>by rw[th];exact hsp _ ua) (λj hj=>by rw[th];exact hfz _ ua) (λu hu=>h1c u (tE hu))
 obtain⟨W1,hW1⟩: ∃W1,W1=w.drew.setCells b (off+(i+1)) (xs.drop i):=⟨_,rfl⟩
 have hsp1: ∀k,k<n+1->(W1.cell? ⟨b,off+k,none⟩).isSome=true:=λk hk=>by
  rw[hW1]
  exact isSome_setCells b _ _ _ (λj hj=>by rw[th];exact hsp _ ua) _ (hsp k hk)
 have hcp2: ∀(W:World),(∀x,W.cell? x=W1.cell? x)->(∀x,W.frozen? x=W1.frozen? x)-> ∀ty dc,(Builtin.copy_ #[48,48] ty #[.slice (some ⟨b,off+i,none⟩) (n+1 - i) dc,.slice (some ⟨vb,0,none⟩) 1 vc]).run Tryz.prog W= .ok (goInt [v].length) (W.setCells b (off+i) [v]):=λW hWc hWf ty dc=>
  run_copy_cells W _ _ ty 31 b (off+i) (n+1 - i) dc ⟨vb,0,none⟩ 1 vc [v] Tryz.underlying48 hsz (by simp only[uC,oD];split<;>omega)
   (λj u hj=>by
     rw[Addr.add_lit,hWc,hW1,World.cell?_setCells_out b _ _ _ _ (λh _=>absurd h hvb)]
     match j,hj with
     |0,hj=>simp only[List.getElem?_cons_zero,um]at hj;subst hj;exact hv)
   (λj hj=>by rw[hWc,th];exact hsp1 _ (by simp at hj;omega)) (λj hj=>by rw[hWf,hW1,World.frozen?_setCells,th];exact hfz _ (by simp at hj;omega)) (λu hu=>by rw[tP.1 hu];exact h1v)
 rw[<-hW1]at hcp1
 go_enter Tryz.func135,Tryz.ntmps135
 go_wp2_with (simp only[hov])
 go_region_law_o (refine step_copy_runI rfl _ _ 48 48 rfl _ _ (by simp[Act.eval,Act.put]) (by simp[Act.eval,Act.put]) (hcp1 _ _ _) ?_)
 go_wp2_with (at_builtin;refine wpList_copy_runI _ rfl _ _ 48 48 rfl _ _ rfl rfl (hcp2 _ (λ_=>rfl) (λ_=>rfl) _ _) ?_)
 go_ret
 first|exact⟨rfl,rfl⟩|exact⟨rfl,by rw[hW1]⟩
set_option maxHeartbeats 4000000 in
set_option maxRecDepth 100000 in
theorem zpG(b off n c i vb vc:Nat)(xs:List Value)(v:Value)(w:World)(hi:i<n)(hnc:n<=c)(hroom:c<n+1)(hbig:(n+1)*24<=140737488355328)(hcl:xs.length=n)
 (hcs: ∀(j:Nat) u,xs[j]?=some u->w.cell? ⟨b,off+j,none⟩=some u) (hv:w.cell? ⟨vb,0,none⟩=some v) (h1c: ∀u∈xs,u.oneCell'=true) (h1v:v.oneCell'=true):
 Calls Tryz.prog 135 #[.slice (some ⟨b,off,none⟩) n c,.int .i64 i,.slice (some ⟨vb,0,none⟩) 1 vc] w λe w'=>
  e= .returned (.slice (some ⟨w.heap.size,0,none⟩) (n+1) (grownCap w (n+1) c 31))/\
  w'=(((w.alloc (.cells ((xs.take i).toArray++Builtin.zeroCells (Value.slice none 0 0).cells (n+1 - i)++Builtin.zeroCells (Value.slice none 0 0).cells (grownCap w (n+1) c 31 - (n+1))) 31)).drew.setCells w.heap.size i [v]).drew).setCells w.heap.size (i+1) (xs.drop i):=by
 have t3:=Tryz.underlying3;have a3:=Tryz.isAgg3;have z3:=Tryz.sizeOf3;have v3:=Tryz.zeroValue3
 have t4:=Tryz.underlying4;have a4:=Tryz.isAgg4;have z4:=Tryz.sizeOf4;have v4:=Tryz.zeroValue4
 have t22:=Tryz.underlying48;have a22:=Tryz.isAgg48;have z22:=Tryz.sizeOf48;have v22:=Tryz.zeroValue48
 have u3:=run_underlying Tryz.underlying3;have u4:=run_underlying Tryz.underlying4;have u22:=run_underlying Tryz.underlying48
 have mixed:Tryz.prog.follows .mixedOrders=true:=by kernel_rfl
 obtain⟨i0,hi0,hzs,hz0,hzb⟩:=info_sl
 have hn1: ¬((i:Int)=(n:Int)):=by omega
 have hn2:(c:Int)<(n:Int)+1:=by omega
 have hsz:(Tryz.prog.info? 31).map (·.size)=some 1:=by rw[hi0,<-hzs];rfl
 have hbw:b<w.heap.size:=block_lt_of_cell (hcs 0 _ (uM ua))
 have hvw:vb<w.heap.size:=block_lt_of_cell hv
 have hkk:(n:Int)+1 - (i:Int)=((n+1 - i:Nat):Int):=by omega
 have hik:i+(n+1 - i)=n+1:=by omega
 have hold:(Builtin.firstCells i0.size i (.slice (some ⟨b,off,none⟩) i c)).run Tryz.prog w.drew= .ok (xs.take i).toArray w.drew:=by
  rw[hzs]
  exact run_firstCells_some w.drew 1 i ⟨b,off,none⟩ i c (xs.take i) (by rw[uz];omega) (λj u hj=>by
   rw[Addr.add_lit]
   rw[uZ]at hj
   split at hj
   ·exact hcs j u hj
   ·cases hj)
 have hrz: ∀ty,(Builtin.append_ #[48,3] ty #[.slice (some ⟨b,off,none⟩) i c,.int .i64 ((n:Int)+1 - (i:Int))]).run Tryz.prog w=
  .ok (.slice (some ⟨w.heap.size,0,none⟩) (n+1) (grownCap w (n+1) c 31)) (w.drew.alloc (.cells ((xs.take i).toArray++Builtin.zeroCells (Value.slice none 0 0).cells (n+1 - i)++Builtin.zeroCells (Value.slice none 0 0).cells (grownCap w (n+1) c 31 - (n+1))) 31)):=λty=>by
  have h:=Lib.run_append_grow_zeros w 48 3 ty 31 i0 _ .i64 .i64 Tryz.underlying48 Tryz.underlying3 hi0 hz0 (some ⟨b,off,none⟩) i c (xs.take i) hold (n+1 - i) ua ua ua ua (by rw[hzb];omega) (by rw[hzb,hik];exact growslice_fits hroom hbig)
  rw[hik]at h
  rw[hkk]
  exact h
 obtain⟨G,hG⟩: ∃G,G=grownCap w (n+1) c 31:=⟨_,rfl⟩
 obtain⟨ROW,hROW⟩: ∃ROW:Array Value,ROW=(xs.take i).toArray++Builtin.zeroCells (Value.slice none 0 0).cells (n+1 - i)++Builtin.zeroCells (Value.slice none 0 0).cells (G - (n+1)):=⟨_,rfl⟩
 rw[<-hG]at hrz⊢
 rw[<-hROW]at hrz⊢
 have hRl:n+1<=ROW.size:=by
  rw[hROW]
  simp[Builtin.zeroCells,Value.cells]
  omega
 obtain⟨W1,hW1⟩: ∃W1,W1=w.drew.alloc (.cells ROW 31):=⟨_,rfl⟩
 rw[<-hW1]at hrz
 have hN: ∀j,j<n+1->(W1.cell? ⟨w.heap.size,j,none⟩).isSome=true:=λj hj=>by
  rw[hW1,World.cell?_alloc_at (w:=w.drew) ROW _ w.heap.size j rfl,qj ua];rfl
 have hNf: ∀j,W1.frozen? ⟨w.heap.size,j,none⟩=false:=λj=>by rw[hW1];exact World.frozen?_alloc_at (w:=w.drew) ROW _ w.heap.size j rfl
 have hOb: ∀j u,w.cell? ⟨b,j,none⟩=some u->W1.cell? ⟨b,j,none⟩=some u:=λj u h=>by rw[hW1,World.cell?_alloc_past (w:=w.drew) _ b j hbw];exact h
 have hOv: ∀j u,w.cell? ⟨vb,j,none⟩=some u->W1.cell? ⟨vb,j,none⟩=some u:=λj u h=>by rw[hW1,World.cell?_alloc_past (w:=w.drew) _ vb j hvw];exact h
 have hcpA: ∀(W:World),(∀x,W.cell? x=W1.cell? x)->(∀x,W.frozen? x=W1.frozen? x)-> ∀ty dc,(Builtin.copy_ #[48,48] ty #[.slice (some ⟨w.heap.size,i,none⟩) (n+1 - i) dc,.slice (some ⟨vb,0,none⟩) 1 vc]).run Tryz.prog W= .ok (goInt [v].length) (W.setCells w.heap.size i [v]):=λW hWc hWf ty dc=>
  run_copy_cells W _ _ ty 31 w.heap.size i (n+1 - i) dc ⟨vb,0,none⟩ 1 vc [v] Tryz.underlying48 hsz (by simp only[uC,oD];split<;>omega)
   (λj u hj=>by
     rw[Addr.add_lit,hWc]
     match j,hj with
     |0,hj=>simp only[List.getElem?_cons_zero,um]at hj;subst hj;exact hOv _ _ hv)
   (λj hj=>by rw[hWc];exact hN _ (by simp at hj;omega)) (λj hj=>by rw[hWf];exact hNf _) (λu hu=>by rw[tP.1 hu];exact h1v)
 have hGn:n+1<=G:=by rw[hG];exact grownCap_ge w _ _ _
 have hG63:G<=9223372036854775807:=by
  have:=grownCap_le_maxLen w (n+1) c 31 (by unfold maxLen;omega)
  rw[<-hG]at this
  unfold maxLen at this
  omega
 have hGi: ¬(G=i):=by omega
 have hGim: ¬(G=i+1):=by omega
 have hci: ¬(c=i):=by omega
 have hbN:b≠w.heap.size:=by omega
 have hdl:(xs.drop i).length=n - i:=by rw[uQ,hcl]
 have hcpB: ∀(W:World),(∀x,W.cell? x=(W1.setCells w.heap.size i [v]).cell? x)->(∀x,W.frozen? x=(W1.setCells w.heap.size i [v]).frozen? x)-> ∀ty dc sc,(Builtin.copy_ #[48,48] ty #[.slice (some ⟨w.heap.size,i+1,none⟩) (n+1 - (i+1)) dc,.slice (some ⟨b,off+i,none⟩) (n - i) sc]).run Tryz.prog W= .ok (goInt (xs.drop i).length) (W.setCells w.heap.size (i+1) (xs.drop i)):=λW hWc hWf ty dc sc=>
  run_copy_cells W _ _ ty 31 w.heap.size (i+1) (n+1 - (i+1)) dc ⟨b,off+i,none⟩ (n - i) sc (xs.drop i) Tryz.underlying48 hsz (by rw[hdl];simp only[oD];split<;>omega)
   (λj u hj=>by
     rw[Addr.add_lit,hWc,World.cell?_setCells_out _ _ _ _ _ (λh _=>absurd h hbN),th]
     exact hOb _ u (hcs (i+j) u (by rwa [uD]at hj)))
   (λj hj=>by rw[hWc];exact isSome_setCells _ _ _ _ (λt ht=>hN _ (by simp at ht;omega)) _ (hN _ ua))
   (λj hj=>by rw[hWf,World.frozen?_setCells];exact hNf _) (λu hu=>h1c u (tE hu))
 subst hW1
 have hE1: ∀x,((w.alloc (.cells ROW 31)).drew).cell? x=(w.drew.alloc (.cells ROW 31)).cell? x:=λx=>rfl
 have hE2: ∀x,((w.alloc (.cells ROW 31)).drew).frozen? x=(w.drew.alloc (.cells ROW 31)).frozen? x:=λx=>rfl
 have hF1: ∀x,(((w.alloc (.cells ROW 31)).drew.setCells w.heap.size i [v]).drew).cell? x=((w.drew.alloc (.cells ROW 31)).setCells w.heap.size i [v]).cell? x:=λx=>rfl
 have hF2: ∀x,(((w.alloc (.cells ROW 31)).drew.setCells w.heap.size i [v]).drew).frozen? x=((w.drew.alloc (.cells ROW 31)).setCells w.heap.size i [v]).frozen? x:=λx=>rfl
 have hb1:(0:Int)<=(i:Int)+1:=by omega
 have hin:i<=n:=by omega
 have htn:((i:Int)+1).toNat=i+1:=by omega
 have hwr:IntKind.i64.wrap ((i:Int)+1)=(i:Int)+1:=by rw[IntKind.wrap_i64];omega
 have hb3:(i:Int)<=(n:Int):=by omega
 clear hkk hik hold hROW hG hRl
 go_enter Tryz.func135,Tryz.ntmps135
 go_wp2_with (first
  |(at_builtin;refine Lib.wpList_append_run _ rfl _ _ _ _ rfl _ _ rfl rfl _ _ (hrz _) ?_)
  |(at_builtin;refine wpList_copy_runI _ rfl _ _ 48 48 rfl _ _ rfl rfl (hcpA _ hE1 hE2 _ _) ?_)
  |(at_builtin;refine wpList_copy_runI _ rfl _ _ 48 48 rfl _ _ rfl rfl (hcpB _ (λ_=>rfl) (λ_=>rfl) _ _ _) ?_))
 go_region_law_o (refine step_copy_runI rfl _ _ 48 48 rfl (.slice (some ⟨w.heap.size,i+1,none⟩) (n+1 - (i+1)) (G - (i+1))) (.slice (some ⟨b,off+i,none⟩) (n - i) (c - i)) (by simp[Act.eval,Act.put]) (by simp[Act.eval,Act.put]) (hcpB _ hF1 hF2 3 (G - (i+1)) (c - i)) ?_)
 go_wp2
 go_ret
 exact⟨rfl,rfl⟩
end Hw.Fr.Md
namespace Hw.Fr.Md
open Go Go.Proofs Go.Shelf Go.RowKit Hw.M
variable {i:Nat}{xs:List Value}
theorem zi7{v:Value}(h:i<=xs.length):(zot xs i v).length=xs.length+1:=by simp only[zot,uB,uz,uI,uQ];omega
theorem zhN{v:Value}(h:i<=xs.length){j:Nat}{u:Value}(hj:(zot xs i v)[j]?=some u):(j<i/\xs[j]?=some u)\/(j=i/\u=v)\/(i<j/\xs[j - 1]?=some u):=by
 have htl:(xs.take i).length=i:=by rw[uz];omega
 unfold zot at hj
 rcases Nat.lt_or_ge j i with h1|h1
 ·rw[uP ua,uZ,uv h1]at hj
  exact .inl ⟨h1,hj⟩
 ·rw[uO ua,htl]at hj
  rcases Nat.eq_or_lt_of_le h1 with h2|h2
  ·subst h2
   rw[qv,List.getElem?_cons_zero]at hj
   exact .inr (.inl ⟨rfl,(uy hj).symm⟩)
  ·rw[show j - i=(j - i - 1)+1 by omega,qL,uD,show i+(j - i - 1)=j - 1 by omega]at hj
   exact .inr (.inr ⟨h2,hj⟩)
theorem zsi{w:World}{a:Option Addr}{cap vb vc:Nat}{v:Value}(hi:i<=xs.length)(hl:xs.length<=1000000)(hnc:xs.length<=cap)(hc63:cap<=9223372036854775807)(h1c: ∀u∈xs,u.oneCell'=true)(h1v:v.oneCell'=true)
 (hrow:(a=none/\cap=0)\/ ∃(b o:Nat) (cs:Array Value) (el:TypeId) (fz:Nat×Nat),a=some ⟨b,o,none⟩/\w.heap[b]?=some (.cells cs el fz)/\xy fz cs.size/\o+cap<=cs.size/\ ∀(j:Nat) u,xs[j]?=some u->cs[o+j]?=some u)
 {elv:TypeId} (hbox:w.heap[vb]?=some (.cells #[v] elv (0,0))) (hne: ∀b,blk (.slice a xs.length cap)=some b->vb≠b) (hvc:1<=vc):
 Calls Tryz.prog 135 #[.slice a xs.length cap,.int .i64 i,.slice (some ⟨vb,0,none⟩) 1 vc] w λe w'=> ∃r,e= .returned r/\zhL w w' (blk (.slice a xs.length cap)) (zot xs i v) r:=by
 obtain⟨i0,hi0,hzs,hz0,hzb⟩:=info_sl
 have hv:w.cell? ⟨vb,0,none⟩=some v:=by simp[World.cell?,hbox]
 have hil:=zi7 (v:=v) hi
 have hz1:(Value.slice none 0 0).cells.size=1:=rfl
 have hsrc:Src Tryz.prog 1 48 (.slice (some ⟨vb,0,none⟩) 1 vc) 1 [v] w:=Src.ofSlice w Tryz.underlying48 ⟨vb,0,none⟩ 1 vc [v] rfl (λj u hj=>by
  match j,hj with
  |0,hj=>simp only[List.getElem?_cons_zero,um]at hj;subst hj;exact hv) (λu hu=>by rw[tP.1 hu];exact h1v)
 rcases Nat.eq_or_lt_of_le hi with rfl|hlt
 · -- at the end
   have hins:zot xs xs.length v=xs++[v]:=by simp[zot]
   rcases Nat.lt_or_ge cap (xs.length+1)with hroom|hroom
   ·have hold:(Builtin.firstCells i0.size xs.length (.slice a xs.length cap)).run Tryz.prog w.drew= .ok xs.toArray w.drew:=by
     rw[hzs]
     rcases hrow with⟨rfl,hc⟩|⟨b,o,cs,el,fz,rfl,k1,k2,k3,k4⟩
     ·have h0:xs=[]:=uS.1 ua
      subst h0
      exact run_firstCells_none w.drew 1 0 0 cap
     ·exact run_firstCells_some w.drew 1 xs.length ⟨b,o,none⟩ xs.length cap xs ua (λj u hj=>by
       rw[Addr.add_lit]
       have k1':w.drew.heap[b]?=some (.cells cs el fz):=k1
       simp[World.cell?,k1',k4 j u hj])
    have hrun: ∀ty,(Builtin.append_ #[48,48] ty #[.slice a xs.length cap,.slice (some ⟨vb,0,none⟩) 1 vc]).run Tryz.prog w=_:=λty=>
     run_append_grow_src w 48 48 ty 31 i0 _ Tryz.underlying48 hi0 hz0 a xs.length cap xs hold _ 1 [v] (by rw[hzs];exact hsrc) hroom ua (by rw[hzb];exact growslice_fits hroom ua)
    refine(zm1 a xs.length cap vb vc v _ w _ hnc hc63 hrun).mono ?_
    rintro e w' ⟨he,rfl⟩
    have hcap:=grownCap_ge w (xs.length+1) cap 31
    have hmx:=grownCap_le_maxLen w (xs.length+1) cap 31 (by unfold maxLen;omega)
    unfold maxLen at hmx
    refine⟨_,he,w.heap.size,0,grownCap w (xs.length+1) cap 31,_,31,(0,0),by rw[hil],zP w.drew _,λi _=>by simp,?_,by rw[hil];exact hcap,ua,λj u hj=>?_,.inl (uG _),λk hk _=>z7 w.drew _ k hk,ue,rfl,rfl,rfl⟩
    ·simp only[qE,uW,uB,uC,size_zeroCells,hz1]
     omega
    ·rw[hins]at hj
     have hjl:=(ui.1 hj).1
     rw[tI,tN (by simp at hjl ⊢; omega)]
     simpa using hj
   ·rcases hrow with⟨rfl,hc⟩|⟨b,o,cs,el,fz,rfl,k1,k2,k3,k4⟩
    ·omega
    have hrun: ∀ty,(Builtin.append_ #[48,48] ty #[.slice (some ⟨b,o,none⟩) xs.length cap,.slice (some ⟨vb,0,none⟩) 1 vc]).run Tryz.prog w= .ok (.slice (some ⟨b,o,none⟩) (xs.length+1) cap) (w.setRow b (setAt cs.toList (o+xs.length) [v]).toArray):=λty=>by
     have hst:=zY (P:=Tryz.prog) b (o+xs.length*1) el fz [v] 0 cs w k1 k2 ug hsrc.one
     have hl:=hsrc.len w
     have hc:=hsrc.cells
     rw[qS]at hst
     simp[Builtin.append_,run_underlying Tryz.underlying48,Go.sizeOf,typeInfo,hi0,hzs,hl,hc,hroom,yq,hst]
    refine(zm1 (some ⟨b,o,none⟩) xs.length cap vb vc v _ w _ hnc hc63 hrun).mono ?_
    rintro e w' ⟨he,rfl⟩
    have hsl:(setAt cs.toList (o+xs.length) [v]).length=cs.size:=by rw[zK _ _ _ ug];simp
    refine⟨_,he,b,o,cap,_,el,fz,by rw[hil],setRow_heap w b cs _ el fz k1,by simp only[uW,hsl];exact k2,by simp only[uW,hsl];exact k3,by rw[hil];exact hroom,hc63,λj u hj=>?_,.inr rfl,λk hk hne=>yj w b _ k λe=>hne (by rw[e];rfl),by simp[World.setRow],rfl,rfl,rfl⟩
    simp only[tp]
    rw[zW _ _ _ _ ug]
    simp only[uC]
    rcases zhN hi hj with⟨h1,h2⟩|⟨rfl,rfl⟩|⟨h1,h2⟩
    ·rw[uv ua];simpa using k4 j u h2
    ·rw[ur ua,uv ua,qv];rfl
    ·have:=(ui.1 h2).1;omega
 · -- within
   rcases hrow with⟨rfl,hc⟩|⟨b,o,cs,el,fz,rfl,k1,k2,k3,k4⟩
   ·omega
   have hcell: ∀(j:Nat) u,xs[j]?=some u->w.cell? ⟨b,o+j,none⟩=some u:=λj u hj=>by simp[World.cell?,k1,k4 j u hj]
   have hvb:vb≠b:=hne b rfl
   have hdl:(xs.drop i).length=xs.length - i:=uQ
   rcases Nat.lt_or_ge cap (xs.length+1)with hroom|hroom
   ·refine(zpG b o xs.length cap i vb vc xs v w hlt hnc hroom ua rfl hcell hv h1c h1v).mono ?_
    rintro e w' ⟨he,rfl⟩
    have hcap:=grownCap_ge w (xs.length+1) cap 31
    have hmx:=grownCap_le_maxLen w (xs.length+1) cap 31 (by unfold maxLen;omega)
    unfold maxLen at hmx
    generalize grownCap w (xs.length+1) cap 31=G at*
    have htk:(xs.take i).length=i:=by rw[uz];omega
    generalize hcur:((xs.take i).toArray++Builtin.zeroCells (Value.slice none 0 0).cells (xs.length+1 - i)++Builtin.zeroCells (Value.slice none 0 0).cells (G - (xs.length+1)))=cur
    have hcs:cur.size=G:=by
     rw[<-hcur];simp only[qE,uW,htk,size_zeroCells,hz1,qS];omega
    have hcl: ∀j,j<i->cur[j]?=xs[j]?:=λj hj=>by
     rw[<-hcur,tN (by simp only[qE,uW,htk];omega),tN (by simp only[uW,htk];exact hj),tp,uZ,uv hj]
    have w1:(w.alloc (.cells cur 31)).drew.heap[w.heap.size]?=some (.cells cur 31 (0,0)):=zP w _
    have r1:=ye w.heap.size _ (0,0) [v] i cur _ w1 (by rw[hcs];simp;omega)
    rw[r1]
    have hs1:(setAt cur.toList i [v]).length=G:=by rw[zK _ _ _ (by simp[hcs];omega)];simpa using hcs
    have w2:((w.alloc (.cells cur 31)).drew.setRow w.heap.size (setAt cur.toList i [v]).toArray).drew.heap[w.heap.size]?=some (.cells (setAt cur.toList i [v]).toArray 31 (0,0)):=setRow_heap _ _ cur _ _ _ w1
    have r2:=ye w.heap.size _ (0,0) (xs.drop i) (i+1) _ _ w2 (by simp only[uW,hs1,hdl];omega)
    rw[r2]
    have hs2:(setAt (setAt cur.toList i [v]) (i+1) (xs.drop i)).length=G:=by rw[zK _ _ _ (by rw[hs1,hdl];omega)];exact hs1
    refine⟨_,he,w.heap.size,0,G,_,31,(0,0),by rw[hil],setRow_heap _ _ _ _ _ _ w2,λi _=>by simp,by simp only[uW,hs2];omega,by rw[hil];exact hcap,ua,λj u hj=>?_,.inl (uG _),λk hk _=>?_,?_,rfl,rfl,rfl⟩
    ·simp only[tp,tI]
     rw[zW _ _ _ _ (by rw[hs1];omega),zW _ _ _ _ (by simp[hcs];omega)]
     simp only[uC,hdl]
     rcases zhN hi hj with⟨g1,g2⟩|⟨rfl,rfl⟩|⟨g1,g2⟩
     ·rw[uv ua,uv g1];rw[<-hcl j g1]at g2;simpa using g2
     ·rw[uv ua,ur ua,uv ua,qv];rfl
     ·have:=(ui.1 g2).1
      rw[ur ua,uv ua,uD,show i+(j - (i+1))=j - 1 by omega];exact g2
    ·rw[yj _ _ _ _ ua]
     show((w.alloc (.cells cur 31)).drew.setRow w.heap.size (setAt cur.toList i [v]).toArray).heap[k]?=_
     rw[yj _ _ _ _ ua]
     exact z7 w _ k hk
    ·simp[World.setRow]
   ·refine(zm2 b o xs.length cap i vb vc xs v w hlt hroom hc63 hvb rfl hcell (λj hj=>by simp[World.cell?,k1];omega) (λj hj=>by simp only[World.frozen?,k1];exact k2 _ ua) hv h1c h1v elv el 1 cs.size
     (by simp[World.shape?,hbox]) (by simp[World.shape?,k1]) ua (by simp[World.frozen?,hbox]) (by simp[World.frozen?,hbox])).mono ?_
    rintro e w' ⟨he,rfl⟩
    have w1:w.drew.heap[b]?=some (.cells cs el fz):=k1
    have r1:=ye b _ fz (xs.drop i) (o+(i+1)) cs _ w1 (by rw[hdl];omega)
    rw[r1]
    have hs1:(setAt cs.toList (o+(i+1)) (xs.drop i)).length=cs.size:=by rw[zK _ _ _ (by rw[hdl];simp;omega)];simp
    have w2:=setRow_heap w.drew b cs (setAt cs.toList (o+(i+1)) (xs.drop i)).toArray _ _ w1
    have r2:=ye b _ fz [v] (o+i) _ _ w2 (by simp only[uW,hs1,uC];omega)
    rw[r2]
    have hs2:(setAt (setAt cs.toList (o+(i+1)) (xs.drop i)) (o+i) [v]).length=cs.size:=by rw[zK _ _ _ (by rw[hs1,uC];omega)];exact hs1
    refine⟨_,he,b,o,cap,_,el,fz,by rw[hil],setRow_heap _ b _ _ _ _ w2,by simp only[uW,hs2];exact k2,by simp only[uW,hs2];exact k3,by rw[hil];exact hroom,hc63,λj u hj=>?_,.inr rfl,λk hk hne=>?_,by simp[World.setRow],rfl,rfl,rfl⟩
    ·simp only[tp]
     rw[zW _ _ _ _ (by rw[hs1];omega),zW _ _ _ _ ug]
     simp only[uC,hdl]
     rcases zhN hi hj with⟨g1,g2⟩|⟨rfl,rfl⟩|⟨g1,g2⟩
     ·rw[uv ua,uv ua];simpa using k4 j u g2
     ·rw[ur ua,uv ua,qv];rfl
     ·have:=(ui.1 g2).1
      rw[ur ua,ur ua,ur ua,uv ua,uD,show i+(o+j - (o+(i+1)))=j - 1 by omega];exact g2
    ·have hkb:k≠b:=λe=>hne (by rw[e];rfl)
     rw[yj _ _ _ _ hkb,yj _ _ _ _ hkb];rfl
end Hw.Fr.Md
namespace Hw.Fr.Md
open Go Go.Proofs Go.Shelf Hw.M
variable {i:Nat}
theorem zm3{α:Type}{l:List α}{x:α}(hi:i<=l.length)(j:Nat):(l.take i++x::l.drop i)[j]?=if j<i then l[j]? else if j=i then some x else l[j - 1]?:=by
 have htl:(l.take i).length=i:=by rw[uz];omega
 by_cases h1:j<i
 ·rw[uv h1,uP ua,uZ,uv h1]
 ·rw[ur h1,uO ua,htl]
  by_cases h2:j=i
  ·subst h2;rw[uv rfl,qv];rfl
  ·rw[ur h2,show j - i=(j - i - 1)+1 by omega,qL,uD,show i+(j - i - 1)=j - 1 by omega]
theorem jW{R:Rws}{x:Rw}(h:i<=R.length):(ju R i x).length=R.length+1:=by simp only[ju,uB,uz,uI,uQ];omega
theorem zpH(R:Rws)(i:Nat)(x:Rw):((ju R i x).map λr=>r.map zR)=(R.map λr=>r.map zR).take i++x.map zR::(R.map λr=>r.map zR).drop i:=by
 simp only[ju,uY,tK,qM,oa]
theorem zm4(R:Rws)(i:Nat)(x:Rw)(hi:i<=R.length)(hR:R.length<=1000000):
 zk Tryz.prog 135 [.one (.ar 0),I i,.one (.bs 4 0 1)] [(0,vg 1 R.length),(1,bg R),(4,.box [.ar 5]),(5,.arr 1 (x.map zR))] (.one (.ar 2)) [(2,vg 3 (R.length+1)),(3,bg (ju R i x))]:=by
 refine⟨⟨_,Tryz.func135,ud,ud⟩,λM ρ w vs hx hT hI hG=>?_⟩
 match vs,hx with
 | [x0,x1,x2],hx=>
   simp only[RepSs,RepS,RepV,RepPV]at hx
   obtain⟨⟨rfl,_⟩,⟨rfl,_⟩,⟨vb,vc,hb1,rfl,hvc⟩,_⟩:=hx
   have hv:=hT.res 0 (vg 1 R.length) rfl
   rw[zmY]at hv
   obtain⟨xs,a,cap,h1,h2,h3,h4,g1,g2,g3,g4,g5⟩:=zbo hv (hT.res 1 (bg R) rfl)
   rw[uj]at h2
   have h0: ∀q,blk (ρ 0)=some q->Bk (ρ 0) q:=λq hq=>by rw[g1]at hq ⊢; exact hq
   obtain⟨vb',cs2,el2,f1,f2,f3⟩:=hT.res 4 (.box [.ar 5]) rfl
   rw[hb1]at f1
   simp only[Value.pointer.injEq,um,Addr.mk.injEq]at f1
   obtain⟨rfl,_⟩:=f1
   match cs2,f3 with
   | [u],f3=>
   simp only[RepVs,RepV]at f3
   obtain⟨⟨rfl,hu1⟩,_⟩:=f3
   have hA5:wO M w (ρ 5) 1 (x.map zR):=hT.res 5 (.arr 1 (x.map zR)) rfl
   have hB5: ∀b,blk (ρ 5)=some b->Bk (ρ 5) b:=λb hb=>by
    obtain⟨a5,c5,e5,_⟩:=hA5
    rw[e5]at hb ⊢; exact hb
   have hxl:=zm0 (by rw[uj];exact h2) h3
   have own1: ∀c∈xs,∀b,blk c=some b->b<w.heap.size/\blk (ρ 0)≠some b/\zdo (tb [(0,vg 1 R.length),(1,bg R),(4,.box [.ar 5]),(5,.arr 1 (x.map zR))]) ρ b:=λc hc b hb=>by
    have hB:Bk (ρ 1) b:=by rw[h1];exact⟨c,by simpa using hc,hb⟩
    exact⟨hxl c hc b hb,λe=>hT.dis 0 1 _ _ b rfl rfl ub (h0 b e) hB,1,_,rfl,hB⟩
   have own5: ∀b,blk (ρ 5)=some b->b<w.heap.size/\blk (ρ 0)≠some b/\zdo (tb [(0,vg 1 R.length),(1,bg R),(4,.box [.ar 5]),(5,.arr 1 (x.map zR))]) ρ b:=λb hb=>
    ⟨hA5.lt hb,λe=>hT.dis 0 5 _ _ b rfl rfl ub (h0 b e) (hB5 b hb),5,_,rfl,hB5 b hb⟩
   have hcall:=zsi (w:=w) (a:=a) (cap:=cap) (vb:=vb) (vc:=vc) (i:=i) (xs:=xs) (v:=ρ 5) ua ua g2 g3 g4 hu1 g5 f2 (λb hb e=>hT.dis 0 4 _ _ b rfl rfl ub (h0 b (by rw[g1];exact hb)) (by rw[hb1,e];rfl)) hvc
   rw[<-g1]at hcall
   refine hcall.mono ?_
   rintro e w' ⟨r,rfl,hD⟩
   have hperm:(zot xs i (ρ 5)).Perm (ρ 5::xs):=List.perm_middle.trans (by rw[tv])
   have hmem: ∀c∈zot xs i (ρ 5),c=ρ 5\/c∈xs:=λc hc=>uV.1 (hperm.mem_iff.1 hc)
   have hap:zab (zot xs i (ρ 5)):=(h4.cons λc hc b hb hb'=>(hT.dis 1 5 _ _ b rfl rfl ub (by rw[h1];exact⟨c,by simpa using hc,hb⟩) (hB5 b hb'))).perm hperm.symm
   have:=zi3 (io:=2) (ib:=3) (e:=1) (L:=(ju R i x).map λr=>r.map zR) rfl hT hI (by simp[RL.ids]) (by simp[RL.ids]) ub hD h0
    (by rw[uj,jW hi,zi7 ua];omega) (λc hc=>(hmem c hc).elim (λe=>by rw[e];exact hu1) (g4 c))
    (λj rs hj=>by
      rw[zpH,zm3 (by rw[uj];exact hi)]at hj
      have: ∃c,(xs.take i++ρ 5::xs.drop i)[j]?=some c/\wO M w c 1 rs:=by
       rw[zm3 ua]
       by_cases c1:j<i
       ·rw[uv c1]at hj ⊢; exact h3 _ rs hj
       ·rw[ur c1]at hj⊢
        by_cases c2:j=i
        ·rw[uv c2]at hj⊢
         rw[<-uy hj];exact⟨_,rfl,hA5⟩
        ·rw[ur c2]at hj ⊢; exact h3 _ rs hj
      exact this)
    hap (λc hc b hb=>(hmem c hc).elim (λe=>own5 b (by rw[<-e];exact hb)) λh=>own1 c h b hb)
   rw[uj,jW hi]at this
   exact⟨_,M,_,rfl,this⟩
   | [],f3=>simp[RepVs]at f3
   |_::_::_,f3=>simp[RepVs]at f3
 | [],hx=>simp[RepSs]at hx
 | [_],hx=>simp[RepSs]at hx
 | [_,_],hx=>simp[RepSs]at hx
 |_::_::_::_::_,hx=>simp[RepSs]at hx
end Hw.Fr.Md
namespace Hw
open Go
theorem RwR.zvs{F:(Nat->Value)->Prop}{a b n:Nat}(h: ∀j,j<n->RwV F (.nv a j) (.nv b j)):RwR F (.vw [a] 1 (gr n)) (.vw [b] 1 (gr n)):=RwR.vw rfl (zam n) λj x' hj=>by
 rw[gr,jc,uE,uH]at hj
 obtain⟨q,hq,rfl⟩:=hj
 have hlt:=(ui.1 hq).1
 rw[tV]at hlt
 rw[qg hlt]at hq
 obtain rfl:=uy hq
 exact⟨_,zku hlt,by simpa [toV]using h j hlt⟩
theorem TkF.arr{id id2 id' m n:Nat}(h:n=m):RwV (TkF id id2 id' m) (.ar id2) (.nv id' n):=by subst h;exact TkF.ar
theorem zhO(n:Nat):gr (n+1)=gr n++[[PC.n 0 n]]:=by simp only[gr,grJ,UE,uY,tK,oE]
variable {rows:List (List PC)}
theorem zm5{e:Nat}{row:List PC}(j:Nat)(x':PC)(h:rows.length*e=rows.flatten.length):(j<rows.length*e->(rows++[row]).flatten[j]?=some x'->rows.flatten[j]?=some x')/\((rows++[row]).flatten[rows.length*e+j]?=some x'->[row].flatten[j]?=some x'):=by
 rw[tY,h]
 refine⟨λhj he=>by rwa [uP hj]at he,λhe=>?_⟩
 rwa [uO ua,oJ]at he
theorem zeD(h: ∀r∈rows,r.length=1):rows.length*1=rows.flatten.length:=by
 induction rows with
 |nil=>rfl
 |cons r l ih=>
  have:=h r (tQ ..)
  have:=ih λx hx=>h x (td _ hx)
  simp only[uI,tF,uB];omega
section
variable {P:Program} {C:Ctx} {k:List Frm} {n:Nat} {sl:zl} {tab:Tab} {Q:Exit->St->Prop} {all:Array Oper} {rest:List Oper}
theorem zf2(T:Ty P)(id':Nat){d:Nat}{x y:Operand}{t tx ty:TypeId}{ps:String}{af:Array Edge}{g0:Option (Nat×Bool)}{gs:zl}{md:Mode}(hC:C.low){id ib i2 m bytes:Nat}{el:TypeId}{z:List V}
 (hx:ev sl x=some (.one (.ar id))) (hy:ev sl y=some (.one (.ar i2))) (hT:tg tab id=some (.vw [ib] 1 (gr m))) (hT2:tg tab i2=some (.vw [ib] 1 [[PC.n 0 m]])) (hes:T.es tx=some (el,1)) (hm1:mentI id' [ib]=false)
 (he:T.es t=some (el,1)) (hz:T.zs el=some z) (hzl:Nat.beq z.length 1=true) (hby:(P.info? el).map (·.bytes)=some bytes) (hb:(m+1)*bytes<=140737488355328) (hlen:m+1<=9223372036854775807)
 (hm:metL all sl g0=some gs) (hd:Nat.blt d n=true) (hf:(Nat.ble 100 id'&&freshB id' ⟨n,sl,tab⟩)=true)
 (g:Goal P C (.ops all rest (nx md ⟨some d,gs++(rq x (.one (.ar id))++rq y (.one (.ar i2))),[(id,.vw [ib] 1 (gr m)),(i2,.vw [ib] 1 [[PC.n 0 m]])],[id'],.one (.ar id'),[(id',some (.vw [ib] 1 (gr (m+1)))),(id,none)]⟩)) k n ((d,.one (.ar id'))::sl) ([(id',some (.vw [ib] 1 (gr (m+1)))),(id,none)]++tab) Q):
 Goal P C (.ops all (⟨some d,.call ⟨.builtin .append,#[x,y],#[t,tx]⟩,ty,ps,af,g0⟩::rest) md) k n sl tab Q:=by
 refine zfO T id' hC (rows:=gr m) (rows2:=[[PC.n 0 m]]) (ids:=[ib]) (ids2:=[ib]) [ib] (gr (m+1)) hx hy hT (rt2:=[(i2,.vw [ib] 1 [[PC.n 0 m]])]) (by simp[rdT,hT2]) (zqQ.vw (T.es_ok _ _ hes)) hm1 (by rw[xx,xx];rfl) (zam _) (λj x' hj hx'=>?_) (λj x' hx'=>?_) he hz hzl hby (by rw[xx];exact hb) (by rw[xx];exact hlen) hm hd hf g
 ·rw[zhO]at hx'
  exact⟨x',(zm5 (e:=1) j x' (zeD (zam m))).1 hj hx',rfl⟩
 ·rw[zhO]at hx'
  exact⟨x',(zm5 (e:=1) j x' (zeD (zam m))).2 hx',rfl⟩
end
end Hw
namespace Hw.Fr.Md
open Go Go.Proofs Go.Shelf Hw.M
theorem zeE(l:List Int)(hl:l.length<=1000000):zk Tryz.prog 52 [pS (zA l)] [] (.one (.ar 0)) [(0,.arr 1 (l.map zR))]:=by
 refine gO T Tryz.func52 λC hC=>?_
 have hlm:(l.map zR).length=l.length:=uj _
 repeat' first|refine gG ?_|refine gB ?_ ?_<;>intro h
 refine zcQ (rows:=l.map zR) (e:=1) (et:=3) rfl ud rfl (λb hb=>?_)
 repeat' first|refine gG ?_|refine gB ?_ ?_<;>intro h
 ·have hv0:l=[]:=Ud.1 (hb h)
  subst hv0
  refine gA 101 1 [(2,.one (.ar 101))] [] ?_
  exact gW [101]
 ·refine zaU T hC rfl rfl rfl rfl rfl ?_
  repeat' first|refine gG ?_|refine gB ?_ ?_<;>intro h|refine gY T 102 (l.map zR) 8 ?_
  exact gW [102]
theorem yL(n:Int):zk Tryz.prog 132 [I n] [] (zm (rsR (okR n))) []:=by
 refine gO T Tryz.func132 λC hC=>?_
 repeat' first|refine gG ?_|refine gB ?_ ?_<;>intro h
 exact gF
theorem vI(n:Int):zk Tryz.prog 133 [I n] [] (zm (rsR (erR n))) []:=by
 refine gO T Tryz.func133 λC hC=>?_
 repeat' first|refine gG ?_|refine gB ?_ ?_<;>intro h
 exact gF
variable {R:Rws}
theorem zuj{B:RL}{o id:Nat}(ho:(o,vg id R.length)∈B)(hid:(id,bg R)∈B):LnV B (.ar o) (.p (yp R)):=by
 have:=LnV.zvs (e:=1) (L:=R.map λr=>r.map zR) (by rw[uj];exact ho) hid
 rw[oi]at this
 exact this
theorem zhP(R:Rws)(x:Rw):(R.map λr=>r.map zR)++[x.map zR]=(R++[x]).map λr=>r.map zR:=by simp
def mv2(a b c d i:Nat):Nat:=match Nat.beq i a with
 |true=>b
 |false=>match Nat.beq i c with
  |true=>d
  |false=>i
variable {c d i:Nat}
theorem zm6{a b:Nat}(ha:100<=a)(hc:100<=c)(hi:i<100):mv2 a b c d i=i:=by
 unfold mv2;rw[y5 ua,y5 ua]
theorem zcR(R:Rws)(hR:R.length<=1000000)(hw: ∀r∈R,r.length<=1000000):zk Tryz.prog 68 [pS (yp R)] [] (.one (.ar 0)) [(0,vg 1 R.length),(1,bg R)]:=by
 refine gO T Tryz.func68 λC hC=>?_
 repeat' first|refine gG ?_|refine gB ?_ ?_<;>intro h
 rw[uj]
 refine gA 103 1 [(3,.one (.ar 103))] [] ?_
 refine ztX hC rfl 102 1 rfl ?_
 refine zt0 rfl 103 [102] (e:=1) (rows:=[]) (rows':=gr 0) rfl rfl ?_
 refine zn (λi:Nat=>i<=R.length) (λi=>([(3,.one (.ar 101)),(6,pS (yp R)),(7,I R.length),(8,I i)],[(101,some (vg 102 i)),(102,some (bg (R.take i)))])) (λi=>R.length - i) hC
  0 (uA _) (mvU 101 103) ⟨rfl,⟨rfl,rfl,rfl,rfl,uh⟩,⟨rfl,rfl,uh⟩,rfl,λi hi=>zS ua hi⟩ ?_
 intro i hi
 refine zr T hC true 200 rfl ?_
 refine zu rfl ?_ ?_<;>intro h
 ·have hlt:i<R.length:=by simpa using h
  clear h
  obtain⟨r,hx⟩:=ze hlt
  have hC1:=zeE r (hw r (List.mem_of_getElem? hx))
  have htl:(R.take i).length=i:=by rw[uz];omega
  have hbl:((R.take i).map λr=>r.map zR).length=i:=by rw[uj,htl]
  have htk:R.take i++[r]=R.take (i+1):=by rw[tG,hx];rfl
  repeat' first|refine gG ?_|refine gB ?_ ?_<;>intro h|refine gI T (zg hx) ?_|(refine gR hC1 (nm [104]) ?_;refine ziT hC rfl 102 104 105 (e:=1) (L:=(R.take i).map λr=>r.map zR) (rs:=r.map zR) rfl rfl rfl rfl [(14,.one (.nv 105 i))] ⟨⟨_,rfl,RwS.one (TkF.arr hbl.symm)⟩,uh⟩ [(101,vg 105 i)] ⟨⟨_,rfl,rfl,RwR.zvs λj _=>TkF.nv⟩,uh⟩ ?_;rw[zhP,htk])|(refine zfP T hC [PC.n 0 i] [105] rfl rfl rfl rfl rfl rfl rfl rfl rfl rfl rfl rfl ?_)|(refine zf2 T 106 hC (ib:=105) (m:=i) (bytes:=24) rfl rfl rfl rfl rfl rfl rfl rfl rfl ud ua ua rfl rfl rfl ?_)
  rw[zC ua]
  exact zf (i+1) ua (mv2 101 106 102 105) ua ⟨rfl,⟨rfl,rfl,rfl,rfl,uh⟩,⟨rfl,by rw[<-htk];rfl,uh⟩,rfl,λi hi=>zm6 ua ua hi⟩
 ·have hge:i=R.length:=by
   have: ¬i<R.length:=by simpa using h
   omega
  subst hge
  clear h
  rw[tW]
  repeat' first|refine gG ?_|refine gB ?_ ?_<;>intro h|refine zj ?_
  exact gW [101,102]
variable {af:Array Edge}{el t:TypeId}{g0:Option (Nat×Bool)}{gs:zl}{ib q:Nat}{md:Mode}{ps:String}{r:Rw}{x:Operand}
section
variable {P:Program} {C:Ctx} {k:List Frm} {n:Nat} {sl:zl} {tab:Tab} {Q:Exit->St->Prop} {all:Array Oper} {rest:List Oper}
theorem ztq(T:Ty P){ty:TypeId}(hC:C.low){id m:Nat}{e:Nat}
 (hx:ev sl x=some (.one (.ar id))) (hT:tg tab id=some (vg ib m)) (he:T.es t=some (el,e)) (he1:e=1) (hm:metL all sl g0=some gs) (hd:Nat.blt d n=true)
 (g:Goal P C (.ops all rest (nx md ⟨some d,gs++rq x (.one (.ar id)),[(id,vg ib m)],[],I m,[]⟩)) k n ((d,I m)::sl) tab Q):
 Goal P C (.ops all (⟨some d,.call ⟨.builtin .len,#[x],#[t]⟩,ty,ps,af,g0⟩::rest) md) k n sl tab Q:=by
 refine ztY T hC hx hT he hm hd ?_
 rw[xx]
 exact g
theorem jo(T:Ty P){y:Operand}{ty:TypeId}(hC:C.low){id m:Nat}{z:Int}(i:Nat)
 (hx:ev sl x=some (.one (.ar id))) (hy:ev sl y=some (I z)) (hz:z=i) (hT:tg tab id=some (vg ib m)) (he:T.es t=some (el,1)) (hi:i<m) (hm:metL all sl g0=some gs) (hd:Nat.blt d n=true)
 (g:Goal P C (.ops all rest (nx md ⟨some d,gs++(rq x (.one (.ar id))++rq y (I i)),[(id,vg ib m)],[],.one (.el id i),[]⟩)) k n ((d,.one (.el id i))::sl) tab Q):
 Goal P C (.ops all (⟨some d,.indexAddr t x y,ty,ps,af,g0⟩::rest) md) k n sl tab Q:=by
 subst hz
 refine zqR T hC hx hy hT he (uw _) (by rw[xx];omega) hm hd ?_
 rw[uF,qS]
 exact g
theorem we(T:Ty P){ty:TypeId}(hC:C.low){id m:Nat}
 (hx:ev sl x=some (.one (.el id i))) (hT:tg tab id=some (vg ib m)) (hsh:T.sh t=some none) (hi:i<m) (hm:metL all sl g0=some gs) (hd:Nat.blt d n=true)
 (g:Goal P C (.ops all rest (nx md ⟨some d,gs++rq x (.one (.el id i)),[(id,vg ib m)],[],.one (.nv ib i),[]⟩)) k n ((d,.one (.nv ib i))::sl) tab Q):
 Goal P C (.ops all (⟨some d,.load t x,ty,ps,af,g0⟩::rest) md) k n sl tab Q:=by
 refine zey T hC [.nv ib i] hx hT hsh (λj v hj=>?_) rfl hm hd g
 match j,hj with
 |0,hj=>exact⟨_,zku hi,by simp at hj;rw[<-hj];rfl⟩
 |j+1,hj=>simp at hj
theorem zeF(r:Rw):(r.map zR).flatten=r.map ki:=by
 induction r with
 |nil=>rfl
 |cons a l ih=>simp only[tK,tF,ih];rfl
theorem zhQ(h:R[q]?=some r):(R.map λr=>r.map zR)[q]?=some (r.map zR):=by rw[uE,h];rfl
theorem zqX(T:Ty P){ty:TypeId}(hC:C.low){e:Nat}
 (hq:R[q]?=some r) (hx:ev sl x=some (.one (.nv ib q))) (hT:tg tab ib=some (bg R)) (he:T.es t=some (el,e)) (hm:metL all sl g0=some gs) (hd:Nat.blt d n=true)
 (g:Goal P C (.ops all rest (nx md ⟨some d,gs++rq x (.one (.nv ib q)),[(ib,bg R)],[],I r.length,[]⟩)) k n ((d,I r.length)::sl) tab Q):
 Goal P C (.ops all (⟨some d,.call ⟨.builtin .len,#[x],#[t]⟩,ty,ps,af,g0⟩::rest) md) k n sl tab Q:=by
 refine ztU T hC hx hT (zhQ hq) he hm hd ?_
 rw[uj]
 exact g
theorem vJ(T:Ty P){y:Operand}{ty:TypeId}(hC:C.low)(c:Nat)
 (hq:R[q]?=some r) (hc:c<r.length) (hx:ev sl x=some (.one (.nv ib q))) (hy:ev sl y=some (I c)) (hT:tg tab ib=some (bg R)) (he:T.es t=some (el,1)) (hm:metL all sl g0=some gs) (hd:Nat.blt d n=true)
 (g:Goal P C (.ops all rest (nx md ⟨some d,gs++(rq x (.one (.nv ib q))++rq y (I c)),[(ib,bg R)],[],.one (.np ib q c),[]⟩)) k n ((d,.one (.np ib q c))::sl) tab Q):
 Goal P C (.ops all (⟨some d,.indexAddr t x y,ty,ps,af,g0⟩::rest) md) k n sl tab Q:=by
 refine ztV T hC hx hy hT (zhQ hq) he (uw _) (by rw[uj];omega) hm hd ?_
 rw[uF,qS]
 exact g
theorem vu(T:Ty P){ty:TypeId}(hC:C.low){v:Int}
 (hq:R[q]?=some r) (hv:r[c]?=some v) (hx:ev sl x=some (.one (.np ib q c))) (hT:tg tab ib=some (bg R)) (hsh:T.sh t=some none) (hm:metL all sl g0=some gs) (hd:Nat.blt d n=true)
 (g:Goal P C (.ops all rest (nx md ⟨some d,gs++rq x (.one (.np ib q c)),[(ib,bg R)],[],I v,[]⟩)) k n ((d,I v)::sl) tab Q):
 Goal P C (.ops all (⟨some d,.load t x,ty,ps,af,g0⟩::rest) md) k n sl tab Q:=by
 refine zr1 T hC [ki v] hx hT (zhQ hq) hsh (λj p hj=>?_) rfl hm hd g
 match j,hj with
 |0,hj=>rw[zeF,uN,uE,hv];exact hj
 |j+1,hj=>simp at hj
theorem zqY(R:Rws)(q:Nat)(r:Rw):(R.map λr=>r.map zR).set q (r.map zR)=(R.set q r).map λr=>r.map zR:=by rw[UF]
theorem zca(T:Ty P){y:Operand}{ty:TypeId}(hC:C.low){v:Int}
 (hq:R[q]?=some r) (hc:c<r.length) (hx:ev sl x=some (.one (.np ib q c))) (hy:ev sl y=some (I v)) (hT:tg tab ib=some (bg R)) (hsh:T.sh t=some none) (hm:metL all sl g0=some gs)
 (g:Goal P C (.ops all rest (nx md ⟨none,gs++(rq x (.one (.np ib q c))++rq y (I v)),[(ib,bg R)],[],.un,[(ib,some (bg (R.set q (r.set c v))))]⟩)) k n sl ((ib,some (bg (R.set q (r.set c v))))::tab) Q):
 Goal P C (.ops all (⟨none,.store t x y,ty,ps,af,g0⟩::rest) md) k n sl tab Q:=by
 refine zpl T hC ((r.set c v).map zR) (us:=[ki v]) hx hy hT hsh rfl rfl (zhQ hq) (by rw[uj,uj,tq]) (λr hr=>by obtain⟨_,_,rfl⟩:=ql.1 hr;rfl) (by rw[uj];simp only[uI,qt];omega) (λm p hp=>?_) hm ?_
 ·rw[zeF,uE,uH]at hp
  obtain⟨z,hz,rfl⟩:=hp
  by_cases hmc:m=c
  ·subst hmc
   rw[qH hc]at hz
   refine .inl ⟨uG _,by rw[qv,<-uy hz];rfl⟩
  ·rw[qi (λe=>hmc e.symm)]at hz
   refine .inr ⟨by simp only[uI,qt];omega,by rw[zeF,uE,hz];rfl⟩
 ·rw[zqY]
  exact g
end
theorem zf3(o id:Nat)(R:Rws):LnV [(o,vg id R.length),(id,bg R)] (.ar o) (.p (yp R)):=zuj (id:=id) (.head _) (.tail _ (.head _))
theorem zvW(R:Rws)(hR:R.length<=500):zk Tryz.prog 99 [.one (.ar 0),zm [ki 8,zA []]] [(0,vg 1 R.length),(1,bg R)] (.tup [.one (.ar 2),zm (rsR (okR R.length))]) [(2,vg 3 R.length),(3,bg R)]:=by
 have hN:=yL R.length
 refine gO T Tryz.func99 λC hC=>?_
 repeat' first|refine gG ?_|exact gP|refine gB ?_ ?_<;>intro h|refine gJ ?_|refine gC hN ?_
 all_goals exact gW [0,1,0,1]
theorem zvX(R:Rws)(hR:R.length<=500)(i:Nat)(r:Rw)(v:Int)(hq:R[i]?=some r)(hil:i<R.length)(hrl:0<r.length)(hv:r[0]?=some v):zk Tryz.prog 99 [.one (.ar 0),zm [ki 7,zA [(i:Int)]]] [(0,vg 1 R.length),(1,bg R)] (.tup [.one (.ar 2),zm (rsR (okR v))]) [(2,vg 3 R.length),(3,bg R)]:=by
 have hN:=yL v
 refine gO T Tryz.func99 λC hC=>?_
 repeat' first|refine gG ?_|exact gP|refine gB ?_ ?_<;>intro h|refine gJ ?_|refine gV ?_|(refine jo T hC (i) rfl rfl rfl rfl rfl ua rfl rfl ?_;refine we T hC rfl rfl rfl ua rfl rfl ?_)|(refine vJ T hC 0 hq ua rfl rfl rfl rfl rfl rfl ?_;refine vu T hC hq hv rfl rfl rfl rfl rfl ?_)|refine gC hN ?_
 all_goals exact gW [0,1,0,1]
theorem zuk(R:Rws)(hR:R.length<=500)(a:Int)(ha:a<0\/(R.length:Int)<=a):zk Tryz.prog 99 [.one (.ar 0),zm [ki 7,zA [a]]] [(0,vg 1 R.length),(1,bg R)] (.tup [.one (.ar 2),zm (rsR (erR 2))]) [(2,vg 3 R.length),(3,bg R)]:=by
 have hN:=vI 2
 refine gO T Tryz.func99 λC hC=>?_
 repeat' first|refine gG ?_|exact gP|refine gB ?_ ?_<;>intro h|refine gJ ?_|refine gV ?_|refine gC hN ?_
 all_goals exact gW [0,1,0,1]
inductive MK (R:Rws) (a:Int) (i:Nat):Bool->Int->List Int->Rws->RsT->Prop
 |k6 (q:Bool):MK R a i q 6 [a] R (okR i)
 |k4y:MK R a i true 4 [a] R (okR a)
 |k4n (hi:i=0):MK R a i false 4 [a] R (erR 12)
 |k4 (j:Nat) (r:Rw) (v:Int) (hi:i=j+1) (hq:R[j]?=some r) (hv:r[0]?=some v):MK R a i false 4 [a] R (okR v)
 |k5n (q:Bool) (hi:i=R.length):MK R a i q 5 [a] R (erR 12)
 |k5 (q:Bool) (r:Rw) (v:Int) (hq:R[i]?=some r) (hv:r[0]?=some v):MK R a i q 5 [a] R (okR v)
 |k2n:MK R a i false 2 [a] R (erR 12)
 |k3n:MK R a i false 3 [a] R (erR 12)
 |k2 (r:Rw) (v:Int) (hq:R[i]?=some r) (hv:r[1]?=some v):MK R a i true 2 [a] R (okR v)
 |k3 (r:Rw) (v:Int) (hq:R[i]?=some r) (hv:r[1]?=some v):MK R a i true 3 [a] (R.eraseIdx i) (okR v)
 |k1f (b:Int) (h5:R.length=500):MK R a i false 1 [a,b] R (erR 4)
 |k1y (b:Int) (r:Rw) (hq:R[i]?=some r) (hl:1<r.length):MK R a i true 1 [a,b] (R.set i (r.set 1 b)) (okR 1)
 |k1 (b:Int) (hi:i<=R.length) (h5:R.length<500):MK R a i false 1 [a,b] (ju R i [a,b]) (okR 0)
set_option maxHeartbeats 4000000 in
theorem va(hR:R.length<=500){a:Int}{q:Bool}{c:Int}{l:List Int}{R2:Rws}{rs:RsT}(H:MK R a i q c l R2 rs)(hX:zk Tryz.prog 134 [pS (yp R),pS (zA [a])] [] (.tup [I i,.bq q]) []):zk Tryz.prog 99 [.one (.ar 0),zm [ki c,zA l]] [(0,vg 1 R.length),(1,bg R)] (.tup [.one (.ar 2),zm (rsR rs)]) [(2,vg 3 R2.length),(3,bg R2)]:=by
 rcases H with _|_|hi|⟨j,r,v,rfl,hq,hv⟩|⟨_,hi⟩|⟨_,r,v,hq,hv⟩|_|_|⟨r,v,hq,hv⟩|⟨r,v,hq,hv⟩|⟨b,h5⟩|⟨b,r,hq,hrl⟩|⟨b,hi,h5⟩
 all_goals
  try have hil:=(ui.1 hq).1
  try have hrl:=(ui.1 hv).1
  try (have hsub:IntKind.i64.wrap (((j+1:Nat):Int) - 1)=(j:Int):=by rw[wrap64 ua];omega)
  try have hD:=zi5 R i hil ua
  try (have hCl:=zeE [a,b] ue;have hI:=zm4 R i [a,b] hi ua)
  try simp only[qm hil]
  try simp only[tq]
  try simp only[jW hi]
  refine gO T Tryz.func99 λC hC=>?_
  repeat' first|refine gG ?_|exact gP|refine gB ?_ ?_<;>intro h|refine gJ ?_|refine gV ?_|refine jx T hC ([a].map zR) rfl rfl rfl ub ue rfl rfl rfl ?_|refine wF hC hX [(0,vg 1 R.length),(1,bg R)] rfl rfl (zac.cons (LnS.one (zf3 0 1 R)) (zac.refl _)) rfl rfl rfl rfl ?_|(refine jo T hC (i) rfl rfl rfl rfl rfl ua rfl rfl ?_;refine we T hC rfl rfl rfl ua rfl rfl ?_)|(refine jo T hC (j) rfl rfl hsub rfl rfl ua rfl rfl ?_;refine we T hC rfl rfl rfl ua rfl rfl ?_)|(refine vJ T hC 0 hq hrl rfl rfl rfl rfl rfl rfl ?_;refine vu T hC hq hv rfl rfl rfl rfl rfl ?_)|(refine vJ T hC 1 hq hrl rfl rfl rfl rfl rfl rfl ?_;refine vu T hC hq hv rfl rfl rfl rfl rfl ?_)|(refine vJ T hC 1 hq hrl rfl rfl rfl rfl rfl rfl ?_;refine zca T hC hq hrl rfl rfl rfl rfl rfl ?_)|(rw[zC ua];refine gR hD (nm [0,1,102,103]) ?_)|refine gR hCl (nm [104]) ?_|(refine zh8 T hC rfl rfl rfl rfl rfl rfl rfl rfl rfl rfl rfl ?_)|refine gR hI (nm [0,1,102,103,1076,104]) ?_|refine gC (yL _) ?_|refine gC (vI _) ?_
  all_goals first|exact gW [0,1,0,1]|exact gW [0,1,102,103]
theorem zeG: ∀(c:Nat) (r a:Rw),ltC c r (a.take c)=ltC c r a
 |0,r,a=>by rw[ziV,ziV]
 |c+1,[],a=>by cases a<;>rfl
 |c+1,x::r,[]=>rfl
 |c+1,x::r,y::a=>by simp only[tX,ltC,zeG c r a]
theorem zcb(c:Nat)(R:Rws)(a:Rw):yD c R (a.take c)=yD c R a:=by
 unfold yD
 rw[show(λr=>ltC c r (a.take c))=λr=>ltC c r a from funext λr=>zeG c r a]
theorem zeH(c:Nat)(R:Rws)(a:Rw):hasC c R (a.take c)=hasC c R a:=by
 unfold hasC
 rw[zcb,oc,UT]
theorem jX{a:Rw}(h:hasC c R a=true): ∃r,R[yD c R a]?=some r/\yD c R a<R.length/\r.take c=a.take c:=by
 unfold hasC at h
 split at h
 ·rename_i r hr;exact⟨r,hr,(ui.1 hr).1,uo h⟩
 ·cases h
theorem zi8{w:Nat}{p:Rw->Rw->Bool}(h:yP w p R)(hp: ∀r s a:Rw,r.length=w->s.length=w->p r s=true->ltC c s a=true->ltC c r a=true)(key:Rw):
 ∀(i j:Nat) r s,i<=j->R[i]?=some r->R[j]?=some s->ltC c s key=true->ltC c r key=true:=λi j r s hij hi hj hs=>by
 rcases Nat.eq_or_lt_of_le hij with rfl|hlt
 ·rw[hi]at hj;obtain rfl:=uy hj;exact hs
 ·have:=h.asc
  rw[tu]at this
  obtain⟨g1,g2⟩:=ui.1 hi
  obtain⟨g3,g4⟩:=ui.1 hj
  exact hp r s key (h.wide r (List.mem_of_getElem? hi)) (h.wide s (List.mem_of_getElem? hj)) (by rw[<-g2,<-g4];exact this _ _ g1 g3 hlt) hs
theorem zf4(h:zJ 1 R=true):R.length<=500/\yP 2 (ltC 1) R:=by
 simp only[zJ,uv,uu,ux]at h
 exact⟨h.1,(w8 (zrZ 1 2)).1 h.2⟩
theorem zi9(h:zJ 2 R=true):R.length<=500/\yP 1 (λa b=> !ltC 1 b a) R:=by
 have h':(decide (R.length<=500)&&tableB 1 (λa b=> !ltC 1 b a) R)=true:=h
 simp only[uu,ux]at h'
 exact⟨h'.1,(w8 ztS).1 h'.2⟩
theorem zdK(h:zJ 3 R=true):R.length<=500/\yP 1 (λ_ _=>true) R:=by
 have h':(decide (R.length<=500)&&tableB 1 (λ_ _=>true) R)=true:=h
 simp only[uu,ux]at h'
 exact⟨h'.1,(w8 (zqN 1)).1 h'.2⟩
theorem zf5(h:zJ 4 R=true):R.length<=500/\yN R:=by
 have h':(decide (R.length<=500)&&zbj R)=true:=h
 simp only[uu,ux]at h'
 exact⟨h'.1,zaW.1 h'.2⟩
theorem zul(h:zJ 5 R=true):R.length<=500/\yP 3 (ltC 2) R:=by
 have h':(decide (R.length<=500)&&tableB 3 (ltC 2) R)=true:=h
 simp only[uu,ux]at h'
 exact⟨h'.1,(w8 (zrZ 2 3)).1 h'.2⟩
theorem zum(h:zJ 6 R=true):R=[]\/ ∃r,R=[r]/\1<=r.length/\r.length<=500/\ ∀x∈r,zdn x=true:=by
 have h':(decide (R.length<=500)&&textB R)=true:=h
 simp only[uu,ux]at h'
 match R,h'.2 with
 | [],_=>exact .inl rfl
 | [r],h=>simp only[textB,uu,ux,List.all_eq_true]at h;exact .inr ⟨r,rfl,h.1.1,h.1.2,h.2⟩
 |_::_::_,h=>simp[textB]at h
theorem zun{l:List Int}(h:l.length=0):l=[]:=uS.1 h
theorem zsj{l:List Int}(h:l.length=1): ∃a,l=[a]:=List.length_eq_one_iff.1 h
theorem zqZ{l:List Int}(h:l.length=2): ∃a b,l=[a,b]:=by
 match l,h with
 | [a,b],_=>exact⟨a,b,rfl⟩
variable {o:OpT}
theorem za0{k:Int}(h:okOp k o=true): ∃w,1<=o.code/\o.code<=(yf k).length/\(yf k)[(o.code - 1).toNat]?=some w/\(0<=w.2.1->(o.args.length:Int)=w.2.1/\ ∀x∈o.args,wH x=true)/\(w.2.1<0->1<=o.args.length/\o.args.length<=64/\ ∀x∈o.args,zdn x=true):=by
 unfold okOp at h
 simp only[uu,ux]at h
 obtain⟨h1,h2⟩:=h
 split at h2
 ·cases h2
 ·rename_i w hw
  have:=(ui.1 hw).1
  refine⟨w,h1,ua,hw,λh0=>?_,λh0=>?_⟩
  ·rw[ur ua]at h2
   simpa only[uu,ux,List.all_eq_true]using h2
  ·rw[uv h0]at h2
   have:(1<=o.args.length/\o.args.length<=64)/\ ∀x∈o.args,zdn x=true:=by simpa only[uu,ux,List.all_eq_true]using h2
   exact⟨this.1.1,this.1.2,this.2⟩
theorem op1(h:okOp 1 o=true):(o=⟨8,[]⟩)\/(∃a,(o=⟨2,[a]⟩\/o=⟨3,[a]⟩\/o=⟨4,[a]⟩\/o=⟨5,[a]⟩\/o=⟨6,[a]⟩\/o=⟨7,[a]⟩)/\wH a=true)\/ ∃a b,o=⟨1,[a,b]⟩/\wH a=true/\wH b=true:=by
 obtain⟨w,h1,h2,hw,h3, -⟩:=za0 h
 obtain⟨c,l⟩:=o
 have hc:c=1\/c=2\/c=3\/c=4\/c=5\/c=6\/c=7\/c=8:=by
  have:(yf 1).length=8:=rfl
  simp only at h1 h2;omega
 rcases hc with rfl|rfl|rfl|rfl|rfl|rfl|rfl|rfl<;>(obtain rfl:=uy hw;obtain⟨hl,hn⟩:=h3 ub;simp only at hl hn)
 ·obtain⟨a,b,rfl⟩:=zqZ (l:=l) ua
  exact .inr (.inr ⟨a,b,rfl,hn a ue,hn b ue⟩)
 iterate 6
  ·obtain⟨a,rfl⟩:=zsj (l:=l) ua
   exact .inr (.inl ⟨a,ue,hn a ue⟩)
 ·obtain rfl:=zun (l:=l) ua
  exact .inl rfl
theorem zsk(R:Rws)(o:OpT)(hv:zJ 1 R=true)(ho:okOp 1 o=true):
 zk Tryz.prog 99 [.one (.ar 0),zm (opR o)] [(0,vg 1 R.length),(1,bg R)] (.tup [.one (.ar 2),zm (rsR (zT R o).2)]) [(2,vg 3 (zT R o).1.length),(3,bg (zT R o).1)]:=by
 obtain⟨hR,hT⟩:=zf4 hv
 have hX: ∀a:Int,zk Tryz.prog 134 [pS (yp R),pS (zA [a])] [] (.tup [I (yD 1 R [a]),.bq (hasC 1 R [a])]) []:=λa=>
  zmS R [a] ue ua (λr hr=>by rw[hT.wide r hr];simp) (zi8 hT zfJ [a])
 have hrow: ∀(i:Nat),i<R.length->R[i]?=some (yo R i)/\(yo R i).length=2:=λi hi=>⟨ym hi,hT.wide _ (List.mem_of_getElem? (ym hi))⟩
 have hcell: ∀(i j:Nat),i<R.length->j<2->(yo R i)[j]?=some (at0 (yo R i) j):=λi j hi hj=>vD (by rw[(hrow i hi).2];exact hj)
 rcases op1 ho with rfl|⟨a,hc,ha⟩|⟨a,b,rfl,ha,hb⟩
 ·exact zvW R hR
 ·have hle:=jb 1 R [a]
  have hXa:=hX a
  have h7:zk Tryz.prog 99 [.one (.ar 0),zm (opR ⟨7,[a]⟩)] [(0,vg 1 R.length),(1,bg R)] (.tup [.one (.ar 2),zm (rsR (zT R ⟨7,[a]⟩).2)]) [(2,vg 3 (zT R ⟨7,[a]⟩).1.length),(3,bg (zT R ⟨7,[a]⟩).1)]:=by
   by_cases h0:0<=a/\a<R.length
   ·have e:zT R ⟨7,[a]⟩=(R,okR (at0 (yo R a.toNat) 0)):=by simp[zT,at0,h0]
    rw[e]
    have hlt:a.toNat<R.length:=by omega
    have:=zvX R hR a.toNat _ _ (hrow _ hlt).1 hlt (by rw[(hrow _ hlt).2];omega) (hcell _ 0 hlt ua)
    rw[Int.toNat_of_nonneg h0.1]at this
    exact this
   ·have e:zT R ⟨7,[a]⟩=(R,erR 2):=by
     simp only[zT]
     rw[ur ub,uv trivial]
     exact ur h0
    rw[e]
    exact zuk R hR a ua
  have hyes:=jX (c:=1) (R:=R) (a:=[a])
  cases hq:hasC 1 R [a]with
  |true=>
   rw[hq]at hXa
   obtain⟨r,hr,hlt,_⟩:=hyes hq
   obtain⟨h1,h2⟩:=hrow _ hlt
   rcases hc with rfl|rfl|rfl|rfl|rfl|rfl
   ·have e:zT R ⟨2,[a]⟩=(R,okR (at0 (yo R (yD 1 R [a])) 1)):=by simp[zT,hq]
    rw[e]
    exact va hR (.k2 _ _ h1 (hcell _ 1 hlt ua)) hXa
   ·have e:zT R ⟨3,[a]⟩=(R.eraseIdx (yD 1 R [a]),okR (at0 (yo R (yD 1 R [a])) 1)):=by simp[zT,hq]
    rw[e]
    exact va hR (.k3 _ _ h1 (hcell _ 1 hlt ua)) hXa
   ·have e:zT R ⟨4,[a]⟩=(R,okR a):=by simp[zT,hq,at0]
    rw[e]
    exact va hR .k4y hXa
   ·have e:zT R ⟨5,[a]⟩=(R,okR (at0 (yo R (yD 1 R [a])) 0)):=by simp[zT,Nat.ne_of_lt hlt]
    rw[e]
    exact va hR (.k5 _ _ _ h1 (hcell _ 0 hlt ua)) hXa
   ·exact va hR (.k6 _) hXa
   ·exact h7
  |false=>
   rw[hq]at hXa
   rcases hc with rfl|rfl|rfl|rfl|rfl|rfl
   ·have e:zT R ⟨2,[a]⟩=(R,erR 12):=by simp[zT,hq]
    rw[e]
    exact va hR .k2n hXa
   ·have e:zT R ⟨3,[a]⟩=(R,erR 12):=by simp[zT,hq]
    rw[e]
    exact va hR .k3n hXa
   ·by_cases h0:yD 1 R [a]=0
    ·have e:zT R ⟨4,[a]⟩=(R,erR 12):=by simp[zT,hq,h0]
     rw[e]
     exact va hR (.k4n h0) hXa
    ·obtain⟨i,hi⟩: ∃i,yD 1 R [a]=i+1:=⟨yD 1 R [a] - 1,ua⟩
     have e:zT R ⟨4,[a]⟩=(R,okR (at0 (yo R i) 0)):=by simp[zT,hq,hi]
     rw[e]
     rw[hi]at hXa
     exact va hR (.k4 i _ _ rfl (hrow i ua).1 (hcell _ 0 ua ua)) hXa
   ·by_cases h0:yD 1 R [a]=R.length
    ·have e:zT R ⟨5,[a]⟩=(R,erR 12):=by simp[zT,h0]
     rw[e]
     exact va hR (.k5n _ h0) hXa
    ·have hlt:yD 1 R [a]<R.length:=by omega
     have e:zT R ⟨5,[a]⟩=(R,okR (at0 (yo R (yD 1 R [a])) 0)):=by simp[zT,h0]
     rw[e]
     exact va hR (.k5 _ _ _ (hrow _ hlt).1 (hcell _ 0 hlt ua)) hXa
   ·exact va hR (.k6 _) hXa
   ·exact h7
 ·have hXa:=hX a
  have hp:yD 1 R [a,b]=yD 1 R [a]:=(zcb 1 R [a,b]).symm
  have hh:hasC 1 R [a,b]=hasC 1 R [a]:=(zeH 1 R [a,b]).symm
  have hle:=jb 1 R [a]
  cases hq:hasC 1 R [a]with
  |true=>
   rw[hq]at hXa
   obtain⟨r,hr,hlt,_⟩:=jX hq
   have e:zT R ⟨1,[a,b]⟩=(R.set (yD 1 R [a]) ((yo R (yD 1 R [a])).set 1 b),okR 1):=by simp[zT,hp,hh,hq,at0]
   rw[e]
   exact va hR (.k1y b _ (hrow _ hlt).1 (by rw[(hrow _ hlt).2];omega)) hXa
  |false=>
   rw[hq]at hXa
   by_cases h5:R.length=500
   ·have e:zT R ⟨1,[a,b]⟩=(R,erR 4):=by simp[zT,hh,hq,h5]
    rw[e]
    exact va hR (.k1f b h5) hXa
   ·have e:zT R ⟨1,[a,b]⟩=(ju R (yD 1 R [a]) [a,b],okR 0):=by simp[zT,hp,hh,hq,h5]
    rw[e]
    exact va hR (.k1 b hle ua) hXa
end Hw.Fr.Md
namespace Hw
open Go
variable {rows:List (List PV)}
theorem zH.zuo{M:Mem}{ρ:Nat->Value}{w:World}{id e:Nat}{ids:List Nat}(h:zH M ρ w id (.vw ids e (rows.map (·.map PC.p)))):zH M ρ w id (.arr e rows):=by
 obtain⟨a,cap,h1,h2,h3,hl,h4⟩:=h
 have hfl:(rows.map (·.map PC.p)).flatten=rows.flatten.map PC.p:=by rw[List.map_flatten]
 rw[uj]at h1 h2
 refine⟨a,cap,h1,h2,h3,?_⟩
 rcases h4 with h4|⟨b,o,cs,el,fz,h5,h6,h6',h7,h8⟩
 ·exact .inl h4
 ·refine .inr ⟨b,o,cs,el,fz,h5,h6,h6',h7,?_⟩
  obtain⟨ds,k9,k10⟩:=wi (M:=M) (ρ:=ρ) (vs:=rows.flatten.map V.p) (g:=λj=>cs[o+j]?) λj v hj=>by
   rw[uE,uH]at hj
   obtain⟨x,hx,rfl⟩:=hj
   obtain⟨c,c1,c2⟩:=h8 j (PC.p x) (by rw[hfl,uE,hx];rfl)
   exact⟨c,c1,c2⟩
  exact RowsIn.yx (ρ:=ρ) (λr hr=>by
   have:=hl (r.map PC.p) (ql.2 ⟨r,hr,rfl⟩)
   rwa [uj]at this) k9 λj c hj=>k10 j c hj
variable {C:Ctx}{P:Program}{Q:Exit->St->Prop}{tab:Tab}
section
variable {k:List Frm} {n:Nat} {sl:zl} {cur:Cur}
theorem zup(hc:lst cur=true)(id:Nat){ids:List Nat}{e:Nat}{rows':List (List PC)}(rows:List (List PV))(hid:tg tab id=some (.vw ids e rows'))(hr:rows.map (·.map PC.p)=rows')(g:Goal P C cur k n sl ((id,some (.arr e rows))::tab) Q):Goal P C cur k n sl tab Q:=by
 subst hr
 exact zt1 hc hid (λ_ _ _ h=>h.zuo) g
end
variable {af:Array Edge}{el:TypeId}{ps:String}
section
variable {d:Option Nat} {ty:TypeId} {g:Option (Nat×Bool)} {x y z:Operand} {t:TypeId}
theorem zuq{id e:Nat}{i j:Int}{k k':IntKind}(hx:okc x (.one (.ar id)))(hy:okc y (Kk k i))(hz:okc z (Kk k' j))(he:elemSz P t=some (el,e))(h0:0<=i)(h1:i<=j)(h2:j<=rows.length):
 Snd P ⟨d,.slice t x (some y) (some z) none,ty,ps,af,g⟩ (rq x (.one (.ar id))++rq y (Kk k i)++rq z (Kk k' j)) [(id,.arr e rows)] [] (.one (.sv id (i.toNat*e) (j.toNat - i.toNat))) []:=
 zo λC st M ρ b w hH hs hT=>by
  rw[zd,zd]at hs
  have e1:=hH.evS (zI hx hs.1.1)
  have e2:=hH.k (zI hy hs.1.2)
  have e3:=hH.k (zI hz hs.2)
  simp only[RepS,RepV]at e1
  have hR:zH M ρ w id (.vw [] e (rows.map (·.map PC.p))):=(show zH M ρ w id (.arr e rows) from hH.yh.res id _ hT.1).ztZ []
  obtain⟨a,cap,f1,f2,f3,_⟩:=hH.yh.res id _ hT.1
  obtain⟨hu,hsz⟩:=zcj he
  refine⟨sliced a i.toNat j.toNat cap e,?_,by simp only[RepS];exact zqT hR (by rw[uj];exact f1) ua (by rw[uj];omega)⟩
  simp only[execOp,e1.1,f1,e2,e3,qP,qh,Sem.run_bind,run_sliceAt_slice w t _ _ _ _ hu,run_slice_lh w t a rows.length cap hu k k' i j h0 h1 ua,hsz,Result.andThen_ok,Sem.run_pure]
end
section
variable {k:List Frm} {n:Nat} {sl:zl} {all:Array Oper} {rest:List Oper}
theorem zur(T:Ty P){d:Nat}{x y z:Operand}{t ty:TypeId}{g0:Option (Nat×Bool)}{gs:zl}{md:Mode}(hC:C.low){id e:Nat}{i j:Int}{k0 k1:IntKind}
 (hx:ev sl x=some (.one (.ar id))) (hy:ev sl y=some (Kk k0 i)) (hz:ev sl z=some (Kk k1 j)) (hT:tg tab id=some (.arr e rows)) (he:T.es t=some (el,e)) (h0:0<=i) (h1:i<=j) (h2:j<=rows.length) (hm:metL all sl g0=some gs) (hd:Nat.blt d n=true)
 (g:Goal P C (.ops all rest (nx md ⟨some d,gs++(rq x (.one (.ar id))++rq y (Kk k0 i)++rq z (Kk k1 j)),[(id,.arr e rows)],[],.one (.sv id (i.toNat*e) (j.toNat - i.toNat)),[]⟩)) k n ((d,.one (.sv id (i.toNat*e) (j.toNat - i.toNat)))::sl) tab Q):
 Goal P C (.ops all (⟨some d,.slice t x (some y) (some z) none,ty,ps,af,g0⟩::rest) md) k n sl tab Q:=by
 have e1:=zQ (st:=⟨n,sl,tab⟩) hx
 have e2:=zQ (st:=⟨n,sl,tab⟩) hy
 have e3:=zQ (st:=⟨n,sl,tab⟩) hz
 have:=zp hm (zuq (P:=P) (rows:=rows) (ty:=ty) (ps:=ps) (af:=af) (g:=g0) (d:=some d) (t:=t) e1.1 e2.1 e3.1 (T.es_ok _ _ he) h0 h1 h2) (n:=n) (tab:=tab)
 exact yk (L:=⟨some d,gs++(rq x (.one (.ar id))++rq y (Kk k0 i)++rq z (Kk k1 j)),[(id,.arr e rows)],[],.one (.sv id (i.toNat*e) (j.toNat - i.toNat)),[]⟩) hC this.1 rfl ⟨by rw[zd,zd,zd];exact⟨this.2,⟨e1.2,e2.2⟩,e3.2⟩,⟨hT,uh⟩,rfl,hd⟩ g
end
end Hw
namespace Hw.Fr.Md
open Go Go.Proofs Go.Shelf Hw.M
inductive HK (R:Rws):Int->List Int->Rws->RsT->Prop
 |k4:HK R 4 [] R (okR R.length)
 |k1f (a:Int) (h5:R.length=500):HK R 1 [a] R (erR 4)
 |k1 (a:Int) (i:Nat) (q:Bool) (hX:zk Tryz.prog 134 [pS (yp R),pS (zA [a])] [] (.tup [I i,.bq q]) []) (hi:i<=R.length) (h5:R.length<500):HK R 1 [a] (ju R i [a]) (okR 0)
 |k2e (h0:R.length=0):HK R 2 [] R (erR 14)
 |k3e (h0:R.length=0):HK R 3 [] R (erR 14)
 |k2 (r:Rw) (v:Int) (hq:R[0]?=some r) (hv:r[0]?=some v):HK R 2 [] R (okR v)
 |k3 (r:Rw) (v:Int) (hq:R[0]?=some r) (hv:r[0]?=some v):HK R 3 [] (R.eraseIdx 0) (okR v)
variable {R R2:Rws}{c:Int}{rs:RsT}
set_option maxHeartbeats 4000000 in
theorem zcZ(hR:R.length<=500){l:List Int}(H:HK R c l R2 rs):zk Tryz.prog 100 [.one (.ar 0),zm [ki c,zA l]] [(0,vg 1 R.length),(1,bg R)] (.tup [.one (.ar 2),zm (rsR rs)]) [(2,vg 3 R2.length),(3,bg R2)]:=by
 rcases H with _|⟨a,h5⟩|⟨a,i,q,hX,hi,h5⟩|h0|h0|⟨r,v,hq,hv⟩|⟨r,v,hq,hv⟩
 all_goals
  try have hil:=(ui.1 hq).1
  try have hrl:=(ui.1 hv).1
  try have hD:zk Tryz.prog 136 [.one (.ar 0),I 0,I 1] [(0,vg 1 R.length),(1,bg R)] (.one (.ar 2)) [(2,vg 3 (R.length - 1)),(3,bg (R.eraseIdx 0))]:=zi5 R 0 hil ua
  try (have hCl:=zeE [a] ue;have hI:=zm4 R i [a] hi ua)
  try simp only[qm hil]
  try simp only[jW hi]
  refine gO T Tryz.func100 λC hC=>?_
  repeat' first|refine gG ?_|exact gP|refine gB ?_ ?_<;>intro h|refine gJ ?_|refine wF hC hX [(0,vg 1 R.length),(1,bg R)] rfl rfl (zac.cons (LnS.one (zf3 0 1 R)) (zac.refl _)) rfl rfl rfl rfl ?_|(refine jo T hC (0) rfl rfl rfl rfl rfl ua rfl rfl ?_;refine we T hC rfl rfl rfl ua rfl rfl ?_)|(refine vJ T hC 0 hq hrl rfl rfl rfl rfl rfl rfl ?_;refine vu T hC hq hv rfl rfl rfl rfl rfl ?_)|refine gR hCl (nm [104]) ?_|(refine zh8 T hC rfl rfl rfl rfl rfl rfl rfl rfl rfl rfl rfl ?_)|refine gR hI (nm [0,1,102,103,1036,104]) ?_|refine gR hD (nm [0,1,102,103]) ?_|refine gC (yL _) ?_|refine gC (vI _) ?_
  all_goals first|exact gW [0,1,0,1]|exact gW [0,1,102,103]
inductive SK (R:Rws):Int->List Int->Rws->RsT->Prop
 |k7:SK R 7 [] R (okR R.length)
 |k1e (a b:Int) (h0:a<0\/(R.length:Int)<a):SK R 1 [a,b] R (erR 2)
 |k5e (a b:Int) (h0:a<0\/b<a\/(R.length:Int)<b):SK R 5 [a,b] R (erR 2)
 |k6e (a b:Int) (h0:a<0\/b<a\/(R.length:Int)<b):SK R 6 [a,b] R (erR 2)
 |k2e (a:Int) (h0:a<0\/(R.length:Int)<=a):SK R 2 [a] R (erR 2)
 |k3e (a:Int) (h0:a<0\/(R.length:Int)<=a):SK R 3 [a] R (erR 2)
 |k4e (a b:Int) (h0:a<0\/(R.length:Int)<=a):SK R 4 [a,b] R (erR 2)
 |k1f (i:Nat) (b:Int) (hi:i<=R.length) (h5:R.length=500):SK R 1 [(i:Int),b] R (erR 4)
 |k1 (i:Nat) (b:Int) (hi:i<=R.length) (h5:R.length<500):SK R 1 [(i:Int),b] (ju R i [b]) (okR 0)
 |k3 (i:Nat) (r:Rw) (v:Int) (hq:R[i]?=some r) (hv:r[0]?=some v):SK R 3 [(i:Int)] R (okR v)
 |k2 (i:Nat) (r:Rw) (v:Int) (hq:R[i]?=some r) (hv:r[0]?=some v):SK R 2 [(i:Int)] (R.eraseIdx i) (okR v)
set_option maxHeartbeats 4000000 in
theorem zc0(hR:R.length<=500){l:List Int}(H:SK R c l R2 rs):zk Tryz.prog 101 [.one (.ar 0),zm [ki c,zA l]] [(0,vg 1 R.length),(1,bg R)] (.tup [.one (.ar 2),zm (rsR rs)]) [(2,vg 3 R2.length),(3,bg R2)]:=by
 rcases H with _|⟨a,b,h0⟩|⟨a,b,h0⟩|⟨a,b,h0⟩|⟨a,h0⟩|⟨a,h0⟩|⟨a,b,h0⟩|⟨i,b,hi,h5⟩|⟨i,b,hi,h5⟩|⟨i,r,v,hq,hv⟩|⟨i,r,v,hq,hv⟩
 all_goals
  try have hil:=(ui.1 hq).1
  try have hrl:=(ui.1 hv).1
  try have hD:=zi5 R i hil ua
  try have hI:=zm4 R i [b] hi ua
  try simp only[qm hil]
  try simp only[jW hi]
  refine gO T Tryz.func101 λC hC=>?_
  repeat' first|refine gG ?_|exact gP|refine gB ?_ ?_<;>intro h|refine gJ ?_|refine gV ?_|(refine jo T hC (i) rfl rfl rfl rfl rfl ua rfl rfl ?_;refine we T hC rfl rfl rfl ua rfl rfl ?_)|(refine vJ T hC 0 hq hrl rfl rfl rfl rfl rfl rfl ?_;refine vu T hC hq hv rfl rfl rfl rfl rfl ?_)|(refine zfP T hC [PC.p (ki b)] [] rfl rfl rfl rfl rfl rfl rfl rfl rfl rfl rfl rfl ?_;refine zup rfl 1105 [[ki b]] rfl rfl ?_)|(refine zh8 T hC rfl rfl rfl rfl rfl rfl rfl rfl rfl rfl rfl ?_)|refine gR hI (nm [0,1,102,103,1106,1105]) ?_|(rw[zC ua];refine gR hD (nm [0,1,102,103]) ?_)|refine gC (yL _) ?_|refine gC (vI _) ?_
  all_goals first|exact gW [0,1,0,1]|exact gW [0,1,102,103]
theorem zwP(R:Rws)(hR:R.length<=500)(a m:Nat)(ham:a+m<=R.length):zk Tryz.prog 101 [.one (.ar 0),zm [ki 6,zA [(a:Int),((a+m:Nat):Int)]]] [(0,vg 1 R.length),(1,bg R)] (.tup [.one (.ar 2),zm (rsR (okR 0))]) [(2,vg 3 R.length),(3,bg (zhw R a (a+m)))]:=by
 have hN:=yL 0
 have hV:zhw R a (a+m)=zbp R a m:=by rw[zhw,zbp,List.drop_take,oJ]
 have hD:=zui R a m ham ua
 refine gO T Tryz.func101 λC hC=>?_
 repeat' first|refine gG ?_|exact gP|refine gB ?_ ?_<;>intro h|refine gJ ?_|refine gV ?_|(refine zqU T hC rfl rfl rfl rfl rfl (uw _) ua (by rw[xx];omega) rfl rfl ?_;rw[show((a:Nat):Int).toNat*1=a*1 by rw[uF],show((a+m:Nat):Int).toNat - ((a:Nat):Int).toNat=m by rw[uF,uF];omega])|(refine gR hD (nm [0,1,102]) ?_)|refine gC hN ?_
 rw[hV]
 all_goals exact gW [0,1,0,102]
theorem zwQ(R:Rws)(hR:R.length<=500)(i:Nat)(b:Int)(r:Rw)(v:Int)(hq:R[i]?=some r)(hil:i<R.length)(hrl:0<r.length)(hv:r[0]?=some v):zk Tryz.prog 101 [.one (.ar 0),zm [ki 4,zA [(i:Int),b]]] [(0,vg 1 R.length),(1,bg R)] (.tup [.one (.ar 2),zm (rsR (okR v))]) [(2,vg 3 R.length),(3,bg (R.set i (r.set 0 b)))]:=by
 have hN:=yL v
 refine gO T Tryz.func101 λC hC=>?_
 repeat' first|refine gG ?_|exact gP|refine gB ?_ ?_<;>intro h|refine gJ ?_|refine gV ?_|(refine jo T hC (i) rfl rfl rfl rfl rfl ua rfl rfl ?_;refine we T hC rfl rfl rfl ua rfl rfl ?_)|(refine vJ T hC 0 hq ua rfl rfl rfl rfl rfl rfl ?_;refine vu T hC hq hv rfl rfl rfl rfl rfl ?_)|(refine vJ T hC 0 hq ua rfl rfl rfl rfl rfl rfl ?_)|(refine zca T hC hq ua rfl rfl rfl rfl rfl ?_)|refine gC hN ?_
 all_goals exact gW [0,1,0,1]
theorem zc1(l:Rws)(r:Rw):zdE (l++[r])=zdE l+at0 r 0:=by simp[zdE]
theorem jY: ∀ {l:Rws} {n:Nat},l.length<=n->(∀r∈l, -1048576<=at0 r 0/\at0 r 0<=1048576)-> -(1048576*(n:Int))<=zdE l/\zdE l<=1048576*(n:Int)
 | [],n,_,_=>by simp only[zdE,oE,List.sum_nil];omega
 |r::l,0,h,_=>by simp at h
 |r::l,n+1,h,hb=>by
  have h1:=hb r (tQ ..)
  have h2:=jY (l:=l) (n:=n) (by simpa using h) λx hx=>hb x (td _ hx)
  simp only[zdE,tK,List.sum_cons]at h2⊢
  omega
theorem wz{α:Type}{l:List α}{i:Nat}{x:α}(h:l[i]?=some x):l.take (i+1)=l.take i++[x]:=by rw[tG,h];rfl
theorem zwR(R:Rws)(hR:R.length<=500)(a m:Nat)(ham:a+m<=R.length)(hn: ∀r∈R,0<r.length/\ -1048576<=at0 r 0/\at0 r 0<=1048576):
 zk Tryz.prog 101 [.one (.ar 0),zm [ki 5,zA [(a:Int),((a+m:Nat):Int)]]] [(0,vg 1 R.length),(1,bg R)] (.tup [.one (.ar 2),zm (rsR (okR (zdE ((R.take (a+m)).drop a))))]) [(2,vg 3 R.length),(3,bg R)]:=by
 have hLl:((R.take (a+m)).drop a).length=m:=by rw[uQ,uz];omega
 have hLa: ∀i,i<m->((R.take (a+m)).drop a)[i]?=R[a+i]?:=λi hi=>by rw[uD,uZ,uv ua]
 have hLb: ∀r∈(R.take (a+m)).drop a, -1048576<=at0 r 0/\at0 r 0<=1048576:=λr hr=>(hn r (u6 (tE hr))).2
 generalize (R.take (a+m)).drop a=L at hLl hLa hLb
 refine gO T Tryz.func101 λC hC=>?_
 repeat' first|refine gG ?_|exact gP|refine gB ?_ ?_<;>intro h|refine gJ ?_|refine gV ?_|(refine zqU T hC rfl rfl rfl rfl rfl (uw _) ua (by rw[xx];omega) rfl rfl ?_;rw[show((a:Nat):Int).toNat*1=a*1 by rw[uF],show((a+m:Nat):Int).toNat - ((a:Nat):Int).toNat=m by rw[uF,uF];omega])|refine zqV T hC rfl rfl rfl rfl ?_
 refine zn (λi:Nat=>i<=m) (λi=>([(0,.one (.ar 0)),(5,.one (.bx 1005 0)),(8,I (zdE (L.take i))),(60,.one (.sv 0 (a*1) m)),(61,I m),(62,I i)],[(0,some (vg 1 R.length)),(1,some (bg R)),(1005,some (.box [.p (ki 0),.p (ki 0),.p (.k (.slice none 0 0))]))])) (λi=>m - i) hC
  0 (uA _) id gM ?_
 intro i hi
 refine zr T hC true 200 rfl ?_
 refine zu rfl ?_ ?_<;>intro h
 ·have hlt:i<m:=by simpa using h
  clear h
  have hail:a+i<R.length:=by omega
  obtain⟨r,hq⟩:=ze hail
  obtain⟨h0,h1,h2⟩:=hn r (List.mem_of_getElem? hq)
  have hv:r[0]?=some (at0 r 0):=vD h0
  have hb:=jY (l:=L.take i) (n:=500) (by rw[uz];omega) λx hx=>hLb x (u6 hx)
  have hsn:=wz (l:=L) (i:=i) (x:=r) (by rw[hLa i hlt];exact hq)
  repeat' first|refine gG ?_|refine gB ?_ ?_<;>intro h|(refine zmO T hC rfl rfl rfl (uw _) ua rfl rfl ?_;rw[show a*1+((i:Nat):Int).toNat*1=a+i by rw[uF];omega])|(refine we T hC rfl rfl rfl ua rfl rfl ?_)|(refine vJ T hC 0 hq h0 rfl rfl rfl rfl rfl rfl ?_)|(refine vu T hC hq hv rfl rfl rfl rfl rfl ?_)
  rw[zC ua,wrap64 (n:=zdE (L.take i)+at0 r 0) ua,<-zc1,<-hsn]
  exact zf (i+1) ua id ua gM
 ·have hge: ¬i<m:=by simpa using h
  have hN:=yL (zdE (L.take i))
  have e:L.take i=L:=uT ua
  rw[e]at hN⊢
  repeat' first|refine gG ?_|refine gB ?_ ?_<;>intro h|refine zj ?_|refine gC hN ?_
  exact gW [0,1,0,1]
def sumB(A:Rw)(l:Rws):Int:=((l.filter (zrW A)).map λr=>at0 r 2).sum
end Hw.Fr.Md
