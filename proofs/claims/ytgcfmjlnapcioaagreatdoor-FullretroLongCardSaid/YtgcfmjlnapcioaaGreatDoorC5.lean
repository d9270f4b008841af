import Derived.Test.YtgcfmjlnapcioaaGreatDoorC1
import Derived.Test.YtgcfmjlnapcioaaGreatDoorE3
set_option linter.unusedVariables false
set_option linter.unusedSimpArgs false
namespace Hw.Fr.Md
open Go Go.Proofs Hw.M
abbrev Rw:=List Int
abbrev Rws:=List (List Int)
structure OpT where
 code:Int
 args:List Int
structure RsT where
 e:Int
 n:Int
 deriving DecidableEq
def opR(o:OpT):List PV:=[ki o.code,zA o.args]
def rsR(r:RsT):List PV:=[ki r.e,ki r.n,.k (.slice none 0 0)]
def z8(r:Rw):List PV:=[zA r]
def yp(R:Rws):PV:= .sl 1 (R.map z8)
def stR(k:Int)(R:Rws):List PV:=[ki k,yp R]
def zvI(l:List OpT):PV:= .sl 2 (l.map opR)
def okR(n:Int):RsT:=⟨0,n⟩
def erR(e:Int):RsT:=⟨e,0⟩
def at0(l:List Int)(i:Nat):Int:=(l[i]?).getD 0
variable {i:Nat}
theorem ztQ{l:List Int}{x:Int}(h:l[i]?=some x):at0 l i=x:=by unfold at0;rw[h];rfl
theorem vD{l:List Int}(h:i<l.length):l[i]?=some (at0 l i):=by unfold at0;rw[uM h];rfl
def yo(R:Rws)(i:Nat):Rw:=(R[i]?).getD []
variable {R:Rws}
theorem yK{r:Rw}(h:R[i]?=some r):yo R i=r:=by unfold yo;rw[h];rfl
theorem ym(h:i<R.length):R[i]?=some (yo R i):=by unfold yo;rw[uM h];rfl
def wH(n:Int):Bool:=decide (-1048576<=n)&&decide (n<=1048576)
def zdn(n:Int):Bool:=decide (0<=n)&&decide (n<=255)
def yf(k:Int):List (Str×Int×Bool):=
 if k=1 then [((⟨#[112,117,116]⟩:UW),2,true),((⟨#[103,101,116]⟩:UW),1,false),((⟨#[114,101,109,111,118,101]⟩:UW),1,true),((⟨#[102,108,111,111,114]⟩:UW),1,false),((⟨#[99,101,105,108,105,110,103]⟩:UW),1,false),((⟨#[114,97,110,107]⟩:UW),1,false),((⟨#[115,101,108,101,99,116]⟩:UW),1,false),((⟨#[115,105,122,101]⟩:UW),0,false)]
 else if k=2 then [((⟨#[105,110,115,101,114,116]⟩:UW),1,true),((⟨#[109,105,110]⟩:UW),0,false),((⟨#[100,101,108,101,116,101,109,105,110]⟩:UW),0,true),((⟨#[115,105,122,101]⟩:UW),0,false)]
 else if k=3 then [((⟨#[105,110,115,101,114,116]⟩:UW),2,true),((⟨#[114,101,109,111,118,101]⟩:UW),1,true),((⟨#[103,101,116]⟩:UW),1,false),((⟨#[115,101,116]⟩:UW),2,true),((⟨#[115,117,109]⟩:UW),2,false),((⟨#[114,101,118,101,114,115,101]⟩:UW),2,true),((⟨#[115,105,122,101]⟩:UW),0,false)]
 else if k=4 then [((⟨#[109,97,107,101]⟩:UW),0,true),((⟨#[117,110,105,111,110]⟩:UW),2,true),((⟨#[115,97,109,101]⟩:UW),2,false),((⟨#[115,105,122,101]⟩:UW),1,false),((⟨#[99,111,117,110,116]⟩:UW),0,false)]
 else if k=5 then [((⟨#[97,100,100]⟩:UW),3,true),((⟨#[114,101,109,111,118,101]⟩:UW),2,true),((⟨#[99,111,117,110,116]⟩:UW),4,false),((⟨#[115,117,109]⟩:UW),4,false),((⟨#[115,105,122,101]⟩:UW),0,false)]
 else if k=6 then [((⟨#[97,112,112,101,110,100]⟩:UW), -1,true),((⟨#[99,111,117,110,116]⟩:UW), -1,false),((⟨#[102,105,110,100]⟩:UW), -1,false),((⟨#[115,105,122,101]⟩:UW),0,false)]
 else []
def zfH(w:Str×Int×Bool):List PV:=[ks w.1,ki w.2.1,.k (.bool w.2.2)]
def okOp(k:Int)(o:OpT):Bool:=decide (1<=o.code)&&match(yf k)[(o.code - 1).toNat]? with
 |none=>false
 |some w=>if w.2.1<0 then decide (1<=o.args.length)&&decide (o.args.length<=64)&&o.args.all zdn else decide ((o.args.length:Int)=w.2.1)&&o.args.all wH
def ltC:Nat->Rw->Rw->Bool
 |0,_,_=>false
 |c+1,a::r,b::s=>if a=b then ltC c r s else decide (a<b)
 |_,_,_=>false
def ascB(p:Rw->Rw->Bool):Rws->Bool
 |a::b::r=>p a b&&ascB p (b::r)
 |_=>true
def tableB(w:Nat)(p:Rw->Rw->Bool)(R:Rws):Bool:=R.all (λr=>decide (r.length=w)&&r.all wH)&&ascB p R
def ascI(l:List Int):Bool:=match l with
 |a::b::r=>decide (a<b)&&ascI (b::r)
 |_=>true
def zbj(R:Rws):Bool:=decide (R.flatten.length<=500)&&R.all (λr=> !decide (r=[])&&ascI r)&&ascB (λa b=>decide (at0 a 0<at0 b 0)) R
 &&R.flatten.all (λx=>decide (0<=x)&&decide (x<R.flatten.length))&&decide R.flatten.Nodup
def textB(R:Rws):Bool:=match R with
 | []=>true
 | [r]=>decide (1<=r.length)&&decide (r.length<=500)&&r.all zdn
 |_=>false
def zJ(k:Int)(R:Rws):Bool:=decide (R.length<=500)&&
 if k=1 then tableB 2 (ltC 1) R else if k=2 then tableB 1 (λa b=> !ltC 1 b a) R else if k=3 then tableB 1 (λ_ _=>true) R
 else if k=4 then zbj R else if k=5 then tableB 3 (ltC 2) R else if k=6 then textB R else false
def yD(c:Nat)(R:Rws)(a:Rw):Nat:=(R.takeWhile λr=>ltC c r a).length
def hasC(c:Nat)(R:Rws)(a:Rw):Bool:=match R[yD c R a]? with
 |some r=>decide (r.take c=a.take c)
 |none=>false
def ju(R:Rws)(i:Nat)(x:Rw):Rws:=R.take i++x::R.drop i
def zT(R:Rws)(o:OpT):Rws×RsT:=
 if o.code=8 then(R,okR R.length)
 else if o.code=7 then(if 0<=at0 o.args 0/\at0 o.args 0<R.length then(R,okR (at0 (yo R (at0 o.args 0).toNat) 0))else(R,erR 2))
 else
  let i:=yD 1 R o.args
  let ok:=hasC 1 R o.args
  if o.code=1 then(if ok=true then(R.set i ((yo R i).set 1 (at0 o.args 1)),okR 1)else if R.length=500 then(R,erR 4)else(ju R i o.args,okR 0))
  else if o.code=6 then(R,okR i)
  else if o.code=4 then(if ok=true then(R,okR (at0 o.args 0))else if i=0 then(R,erR 12)else(R,okR (at0 (yo R (i - 1)) 0)))
  else if o.code=5 then(if i=R.length then(R,erR 12)else(R,okR (at0 (yo R i) 0)))
  else if ok=true then(if o.code=3 then R.eraseIdx i else R,okR (at0 (yo R i) 1))else(R,erR 12)
def xi(R:Rws)(o:OpT):Rws×RsT:=
 if o.code=4 then(R,okR R.length)
 else if o.code=1 then(if R.length=500 then(R,erR 4)else(ju R (yD 1 R o.args) o.args,okR 0))
 else if R.length=0 then(R,erR 14)else(if o.code=3 then R.eraseIdx 0 else R,okR (at0 (yo R 0) 0))
def zdE(R:Rws):Int:=(R.map λr=>at0 r 0).sum
def zhw(R:Rws)(a b:Nat):Rws:=R.take a++((R.take b).drop a).reverse++R.drop b
def xp(R:Rws)(o:OpT):Rws×RsT:=
 let a:=at0 o.args 0
 let b:=at0 o.args 1
 if o.code=7 then(R,okR R.length)
 else if o.code=5\/o.code=6 then
  (if a<0\/b<a\/(R.length:Int)<b then(R,erR 2)else if o.code=6 then(zhw R a.toNat b.toNat,okR 0)else(R,okR (zdE ((R.take b.toNat).drop a.toNat))))
 else if o.code=1 then(if a<0\/(R.length:Int)<a then(R,erR 2)else if R.length=500 then(R,erR 4)else(ju R a.toNat [b],okR 0))
 else if a<0\/(R.length:Int)<=a then(R,erR 2)
 else(if o.code=2 then R.eraseIdx a.toNat else if o.code=4 then R.set a.toNat ((yo R a.toNat).set 0 b)else R,okR (at0 (yo R a.toNat) 0))
def clsI(x:Int):Rws->Nat->Int
 | [],_=> -1
 |r::R,k=>if x∈r then k else clsI x R (k+1)
def mergeI:List Int->List Int->List Int
 | [],b=>b
 |a,[]=>a
 |x::a,y::b=>if x<y then x::mergeI a (y::b)else y::mergeI (x::a) b
termination_by a b=>a.length+b.length
def yv(R:Rws)(o:OpT):Rws×RsT:=
 if o.code=5 then(R,okR R.length)
 else if o.code=1 then(if R.flatten.length=500 then(R,erR 4)else(R++[[(R.flatten.length:Int)]],okR R.flatten.length))
 else
  let a:=clsI (at0 o.args 0) R 0
  if o.code=4 then(if a<0 then(R,erR 12)else(R,okR (yo R a.toNat).length))
  else
   let b:=clsI (at0 o.args 1) R 0
   if a<0\/b<0 then(R,erR 12)else if o.code=3 then(R,okR (if a=b then 1 else 0))else if a=b then(R,okR 0)
   else((R.set (min a b).toNat (mergeI (yo R a.toNat) (yo R b.toNat))).eraseIdx (max a b).toNat,okR 1)
def zrW(a r:Rw):Bool:=decide (at0 a 0<=at0 r 0)&&decide (at0 r 0<=at0 a 1)&&decide (at0 a 2<=at0 r 1)&&decide (at0 r 1<=at0 a 3)
def zrX(R:Rws)(o:OpT):Rws×RsT:=
 if o.code=5 then(R,okR R.length)
 else if o.code=3 then(R,okR (R.filter (zrW o.args)).length)
 else if o.code=4 then(R,okR (((R.filter (zrW o.args)).map λr=>at0 r 2).sum))
 else
  let i:=yD 2 R o.args
  let ok:=hasC 2 R o.args
  if o.code=1 then(if ok=true then(R,erR 15)else if R.length=500 then(R,erR 4)else(ju R i o.args,okR 0))
  else if ok=true then(R.eraseIdx i,okR (at0 (yo R i) 2))else(R,erR 12)
def zwM(l p:List Int)(k:Nat):Bool:=decide (((l.drop k).take p.length)=p)
def occs(l p:List Int):List Nat:=(List.range l.length).filter (zwM l p)
def textS(R:Rws)(o:OpT):Rws×RsT:=
 let s:=yo R 0
 if o.code=4 then(R,okR s.length)
 else if o.code=1 then(if 500<s.length+o.args.length then(R,erR 4)else([s++o.args],okR 0))
 else if o.code=2 then(R,okR (occs s o.args).length)
 else match(occs s o.args).head? with
  |some i=>(R,okR i)
  |none=>(R,erR 12)
def wq(k:Int)(R:Rws)(o:OpT):Rws×RsT:=
 if k=1 then zT R o else if k=2 then xi R o else if k=3 then xp R o else if k=4 then yv R o else if k=5 then zrX R o else textS R o
def cmpI:List Int->List Int->Int
 | [],[]=>0
 | [],_::_=> -1
 |_::_,[]=>1
 |a::r,b::s=>if a<b then -1 else if b<a then 1 else cmpI r s
theorem ziP: ∀(c:Nat) (r a:Rw),c<=r.length->c<=a.length->(cmpI (r.take c) (a.take c)<0↔ltC c r a=true)/\(cmpI (r.take c) (a.take c)=0↔r.take c=a.take c)
 |0,r,a,_,_=>by simp[cmpI,ltC]
 |c+1,[],a,h,_=>by simp at h
 |c+1,x::r,[],_,h=>by simp at h
 |c+1,x::r,y::a,h1,h2=>by
  have ih:=ziP c r a (by simpa using h1) (by simpa using h2)
  simp only[tX,cmpI,ltC]
  by_cases hlt:x<y
  ·rw[uv hlt,ur ua,uK hlt]
   refine⟨ub,⟨(λh=>by cases h),λh=>?_⟩⟩
   have:=(UO h).1;omega
  ·rw[ur hlt]
   by_cases hgt:y<x
   ·rw[uv hgt,ur ua,uJ hlt]
    refine⟨⟨(λh=>absurd h ub),(λh=>by cases h)⟩,⟨(λh=>by cases h),λh=>?_⟩⟩
    have:=(UO h).1;omega
   ·obtain rfl:x=y:=by omega
    rw[ur hgt,uv rfl]
    refine⟨ih.1,ih.2.trans ⟨λh=>by rw[h],λh=>(UO h).2⟩⟩
theorem jG: ∀(c:Nat) {a b d:Rw},ltC c a b=true->ltC c b d=true->ltC c a d=true
 |0,_,_,_,h,_=>by simp[ltC]at h
 |c+1,[],_,_,h,_=>by simp[ltC]at h
 |c+1,_::_,[],_,h,_=>by simp[ltC]at h
 |c+1,_::_,_::_,[],_,h=>by simp[ltC]at h
 |c+1,x::a,y::b,z::d,h,h2=>by
  simp only[ltC]at h h2⊢
  by_cases e1:x=y
  ·subst e1
   rw[uv rfl]at h
   by_cases e2:x=z
   ·rw[uv e2]at h2 ⊢; exact jG c h h2
   ·rw[ur e2]at h2 ⊢; exact h2
  ·rw[ur e1,ux]at h
   by_cases e2:y=z
   ·subst e2;rw[ur e1];exact uK h
   ·rw[ur e2,ux]at h2
    rw[ur ua];exact uK ua
theorem zhx: ∀(c:Nat) (a:Rw),ltC c a a=false
 |0,_=>rfl
 |c+1,[]=>rfl
 |c+1,x::a=>by simp only[ltC,qx];exact zhx c a
theorem zhy: ∀(c:Nat) {a b:Rw},c<=a.length->c<=b.length->ltC c a b=false->a.take c≠b.take c->ltC c b a=true
 |0,_,_,_,_,_,h=>absurd ue h
 |c+1,[],_,h,_,_,_=>by simp at h
 |c+1,_::_,[],_,h,_,_=>by simp at h
 |c+1,x::a,y::b,h1,h2,h,hn=>by
  simp only[ltC]at h⊢
  by_cases e:x=y
  ·subst e
   rw[uv rfl]at h⊢
   exact zhy c (by simpa using h1) (by simpa using h2) h λe=>hn (by simp[e])
  ·rw[ur e]at h
   rw[ur λe'=>e e'.symm]
   have:=uq h
   exact uK ua
theorem zew: ∀(c:Nat) (a b d:Rw),a.take c=b.take c->c<=a.length->c<=b.length->ltC c a d=ltC c b d
 |0,_,_,_,_,_,_=>rfl
 |c+1,[],_,_,_,h,_=>by simp at h
 |c+1,_::_,[],_,_,_,h=>by simp at h
 |c+1,x::a,y::b,[],_,_,_=>rfl
 |c+1,x::a,y::b,z::d,h,h1,h2=>by
  simp only[tX,Ub]at h
  obtain⟨rfl,h⟩:=h
  simp only[ltC]
  rw[zew c a b d h (by simpa using h1) (by simpa using h2)]
theorem vt{a b:Rw}(ha:a≠ [])(hb:b≠ []):ltC 1 a b=decide (at0 a 0<at0 b 0):=by
 cases a with
 |nil=>exact absurd rfl ha
 |cons x a=>cases b with
  |nil=>exact absurd rfl hb
  |cons y b=>
   simp only[ltC,at0,List.getElem?_cons_zero,Option.getD_some]
   by_cases e:x=y
   ·subst e;simp
   ·rw[ur e];exact ob.2 Iff.rfl
theorem zmK{α:Type}{p:α->Bool}: ∀ {l:List α} {i:Nat},i<=l.length->(∀j x,j<i->l[j]?=some x->p x=true)->(∀x,l[i]?=some x->p x=false)->(l.takeWhile p).length=i
 | [],i,h,_,_=>by simp at h;simp[h]
 |x::l,0,_,_,h=>by rw[qw,ur (by rw[h x rfl];simp)];rfl
 |x::l,i+1,hi,h1,h2=>by
  rw[qw,uv (h1 0 x ua rfl),uI]
  rw[zmK (i:=i) (by simpa using hi) (λj y hj hy=>h1 (j+1) y ua (by simpa using hy)) λy hy=>h2 y (by simpa using hy)]
theorem ztR{α:Type}{p:α->Bool}: ∀(l:List α),(l.takeWhile p).length<=l.length
 | []=>by simp
 |x::l=>by
  rw[qw];split
  ·simp only[uI];have:=ztR (p:=p) l;omega
  ·simp
theorem zfI{α:Type}{p:α->Bool}: ∀ {l:List α} {j:Nat} {x:α},j<(l.takeWhile p).length->l[j]?=some x->p x=true
 | [],j,x,h,_=>by simp at h
 |y::l,j,x,h,hx=>by
  rw[qw]at h
  split at h
  ·rename_i hp
   cases j with
   |zero=>simp only[List.getElem?_cons_zero,um]at hx;rw[<-hx];exact hp
   |succ j=>exact zfI (by simpa using h) (by simpa using hx)
  ·simp at h
theorem zrY{α:Type}{p:α->Bool}: ∀ {l:List α} {x:α},l[(l.takeWhile p).length]?=some x->p x=false
 | [],x,h=>by simp at h
 |y::l,x,h=>by
  rw[qw]at h
  split at h
  ·rename_i hp;exact zrY (by simpa using h)
  ·rename_i hp
   simp only[qt,List.getElem?_cons_zero,um]at h
   rw[<-h];simpa using hp
theorem jb(c:Nat)(R:Rws)(a:Rw):yD c R a<=R.length:=ztR R
theorem jQ{p:Rw->Rw->Bool}: ∀ {R:Rws},ascB p R=true↔ ∀(i:Nat) a b,R[i]?=some a->R[i+1]?=some b->p a b=true
 | []=>⟨λ_ i a b h=>by simp at h,λ_=>rfl⟩
 | [x]=>⟨λ_ i a b _ h=>by simp at h,λ_=>rfl⟩
 |x::y::r=>by
  have ih:=jQ (p:=p) (R:=y::r)
  simp only[ascB,uu,ih]
  constructor
  ·rintro⟨h1,h2⟩ i a b ha hb
   cases i with
   |zero=>simp at ha hb;rw[<-ha,<-hb];exact h1
   |succ i=>exact h2 i a b (by simpa using ha) (by simpa using hb)
  ·exact λh=>⟨h 0 x y rfl rfl,λi a b ha hb=>h (i+1) a b (by simpa using ha) (by simpa using hb)⟩
theorem ziQ{p:Rw->Rw->Bool}{R:Rws}(ht: ∀a b d,a∈R->b∈R->d∈R->p a b=true->p b d=true->p a d=true)(h:ascB p R=true): ∀(n i:Nat) a b,R[i]?=some a->R[i+1+n]?=some b->p a b=true
 |0,i,a,b,ha,hb=>jQ.1 h i a b ha hb
 |n+1,i,a,b,ha,hb=>by
  have hlt:=(ui.1 hb).1
  obtain⟨d,hd⟩:=ze (l:=R) (i:=i+1+n) ua
  exact ht a d b (List.mem_of_getElem? ha) (List.mem_of_getElem? hd) (List.mem_of_getElem? hb) (ziQ ht h n i a d ha hd) (jQ.1 h (i+1+n) d b hd (by rw[show i+1+n+1=i+1+(n+1) by omega];exact hb))
variable {p:Rw->Rw->Bool}
theorem vl(ht: ∀a b d,a∈R->b∈R->d∈R->p a b=true->p b d=true->p a d=true):ascB p R=true↔R.Pairwise λa b=>p a b=true:=by
 constructor
 ·intro h
  rw[tu]
  intro i j hi hj hij
  exact ziQ ht h (j - i - 1) i _ _ (uM hi) (by rw[show i+1+(j - i - 1)=j by omega];exact uM hj)
 ·intro h
  rw[tu]at h
  refine jQ.2 λi a b ha hb=>?_
  obtain⟨h1,rfl⟩:=ui.1 ha
  obtain⟨h2,rfl⟩:=ui.1 hb
  exact h i (i+1) h1 h2 ua
theorem zpj{n:Int}:wH n=true↔ -1048576<=n/\n<=1048576:=by simp[wH]
structure yP (w:Nat) (p:Rw->Rw->Bool) (R:Rws):Prop where
 wide: ∀r∈R,r.length=w
 nums: ∀r∈R,∀x∈r,wH x=true
 asc:R.Pairwise λa b=>p a b=true
def TrW(w:Nat)(p:Rw->Rw->Bool):Prop:= ∀a b d:Rw,a.length=w->b.length=w->d.length=w->p a b=true->p b d=true->p a d=true
variable {w:Nat}
theorem w8(ht:TrW w p):tableB w p R=true↔yP w p R:=by
 unfold tableB
 simp only[uu,List.all_eq_true,ux]
 constructor
 ·rintro⟨h1,h2⟩
  exact⟨λr hr=>(h1 r hr).1,λr hr=>(h1 r hr).2,(vl λa b d ha hb hd=>ht a b d (h1 a ha).1 (h1 b hb).1 (h1 d hd).1).1 h2⟩
 ·rintro⟨h1,h2,h3⟩
  exact⟨λr hr=>⟨h1 r hr,h2 r hr⟩,(vl λa b d ha hb hd=>ht a b d (h1 a ha) (h1 b hb) (h1 d hd)).2 h3⟩
theorem yP.sub{R':Rws}(h:yP w p R)(hs:R'.Sublist R):yP w p R':=
 ⟨λr hr=>h.wide r (hs.subset hr),λr hr=>h.nums r (hs.subset hr),h.asc.sublist hs⟩
theorem yP.ins(h:yP w p R){x:Rw}(hw:x.length=w)(hn: ∀y∈x,wH y=true)(h1: ∀r∈R.take i,p r x=true)(h2: ∀r∈R.drop i,p x r=true):yP w p (ju R i x):=by
 have hm: ∀r∈ju R i x,r∈R\/r=x:=λr hr=>by
  simp only[ju,u7,uV]at hr
  rcases hr with hr|rfl|hr
  ·exact .inl (u6 hr)
  ·exact .inr rfl
  ·exact .inl (tE hr)
 have hs:(R.take i++R.drop i).Pairwise λa b=>p a b=true:=by rw[tv];exact h.asc
 rw[List.pairwise_append]at hs
 refine⟨λr hr=>?_,λr hr=>?_,?_⟩
 ·rcases hm r hr with hr|rfl
  ·exact h.wide r hr
  ·exact hw
 ·rcases hm r hr with hr|rfl
  ·exact h.nums r hr
  ·exact hn
 ·rw[ju,List.pairwise_append]
  refine⟨hs.1,tU.2 ⟨h2,hs.2.1⟩,λa ha b hb=>?_⟩
  rcases uV.1 hb with rfl|hb
  ·exact h1 a ha
  ·exact hs.2.2 a ha b hb
theorem zrZ(c w:Nat):TrW w (ltC c):=λ_ _ _ _ _ _ h h2=>jG c h h2
theorem ztS:TrW 1 λa b=> !ltC 1 b a:=λa b d ha hb hd h h2=>by
 have na:a≠ []:=λe=>by subst e;simp at ha
 have nb:b≠ []:=λe=>by subst e;simp at hb
 have nd:d≠ []:=λe=>by subst e;simp at hd
 simp only[vt nb na,vt nd nb,vt nd na,tH,uX]at h h2⊢
 omega
theorem zqN(w:Nat):TrW w λ_ _=>true:=λ_ _ _ _ _ _ _ _=>rfl
theorem w9{c:Nat}(h:yP w p R)(hp: ∀r s a:Rw,r.length=w->s.length=w->p r s=true->ltC c s a=true->ltC c r a=true)(a:Rw):
 (∀r∈R.take (yD c R a),ltC c r a=true)/\(∀r∈R.drop (yD c R a),ltC c r a=false):=by
 constructor
 ·intro r hr
  obtain⟨j,hj⟩:=tj.1 hr
  rw[uZ]at hj
  split at hj
  ·rename_i hlt;exact zfI (p:=λr=>ltC c r a) hlt hj
  ·cases hj
 ·intro r hr
  obtain⟨j,hj⟩:=tj.1 hr
  rw[uD]at hj
  have hlt:=(ui.1 hj).1
  obtain⟨s,hs⟩:=ze (l:=R) (i:=yD c R a) ua
  have h0:ltC c s a=false:=zrY (p:=λr=>ltC c r a) hs
  cases j with
  |zero=>rw[uN,hs]at hj;obtain rfl:=uy hj;exact h0
  |succ j=>
   cases h1:ltC c r a with
   |false=>rfl
   |true=>
    have hps:p s r=true:=by
     have:=h.asc
     rw[tu]at this
     obtain⟨g1,g2⟩:=ui.1 hs
     obtain⟨g3,g4⟩:=ui.1 hj
     rw[<-g2,<-g4]
     exact this _ _ g1 g3 ua
    rw[hp s r a (h.wide s (List.mem_of_getElem? hs)) (h.wide r (List.mem_of_getElem? hj)) hps h1]at h0
    cases h0
theorem zfJ{c:Nat}: ∀r s a:Rw,r.length=w->s.length=w->ltC c r s=true->ltC c s a=true->ltC c r a=true:=λ_ _ _ _ _ h h2=>jG c h h2
theorem ziR: ∀r s a:Rw,r.length=1->s.length=1->(!ltC 1 s r)=true->ltC 1 s a=true->ltC 1 r a=true:=λr s a hr hs h h2=>by
 have nr:r≠ []:=λe=>by subst e;simp at hr
 have ns:s≠ []:=λe=>by subst e;simp at hs
 have na:a≠ []:=λe=>by subst e;cases s<;>simp[ltC]at h2
 simp only[vt ns nr,vt ns na,vt nr na,tH,uX,ux]at h h2⊢
 omega
theorem zr0{c:Nat}(h:yP w (ltC c) R)(hcw:c<=w){a:Rw}(ha:c<=a.length)(hn:hasC c R a=false): ∀r∈R.drop (yD c R a),ltC c a r=true:=by
 intro r hr
 have h1:=(w9 h zfJ a).2 r hr
 have hm:=tE hr
 refine zhy c (by rw[h.wide r hm];exact hcw) ha h1 λe=>?_
 obtain⟨j,hj⟩:=tj.1 hr
 rw[uD]at hj
 have hlt:=(ui.1 hj).1
 obtain⟨s,hs⟩:=ze (l:=R) (i:=yD c R a) ua
 have hsm:=List.mem_of_getElem? hs
 have hne:s.take c≠a.take c:=λe=>by
  unfold hasC at hn
  rw[hs]at hn
  exact absurd e (uq hn)
 cases j with
 |zero=>rw[uN,hs]at hj;obtain rfl:=uy hj;exact hne e
 |succ j=>
  have hps:ltC c s r=true:=by
   have:=h.asc
   rw[tu]at this
   obtain⟨g1,g2⟩:=ui.1 hs
   obtain⟨g3,g4⟩:=ui.1 hj
   rw[<-g2,<-g4]
   exact this _ _ g1 g3 ua
  have h0:ltC c s a=false:=zrY (p:=λr=>ltC c r a) hs
  have:=zhy c (by rw[h.wide s hsm];exact hcw) ha h0 hne
  -- a before s before r, and r's first columns are a's
  have h2:=jG c this hps
  rw[<-zew c r a r e (by rw[h.wide r hm];exact hcw) ha,zhx]at h2
  cases h2
theorem xH: ∀(n:Nat) (a b:List Int),a.length+b.length<=n->(mergeI a b).Perm (a++b)
 |_,[],b,_=>by rw[mergeI];exact .refl _
 |_,x::a,[],_=>by rw[mergeI,qo];simp
 |0,x::a,y::b,h=>by simp at h
 |n+1,x::a,y::b,h=>by
  simp only[uI]at h
  rw[mergeI]
  split
  ·exact(xH n a (y::b) (by simp only[uI];omega)).cons x
  ·exact((xH n (x::a) b (by simp only[uI];omega)).cons y).trans List.perm_middle.symm
theorem jR(a:List Int):mergeI a []=a:=by cases a<;>simp[mergeI]
theorem jS: ∀(n:Nat) (a b:List Int),a.length+b.length<=n->a.Pairwise (· < ·)->b.Pairwise (· < ·)->(∀x∈a,x∉b)->(mergeI a b).Pairwise (· < ·)
 |_,[],b,_,_,h,_=>by rw[mergeI];exact h
 |_,x::a,[],_,h,_,_=>by rw[jR];exact h
 |0,x::a,y::b,h,_,_,_=>by simp at h
 |n+1,x::a,y::b,h,ha,hb,hd=>by
  simp only[uI]at h
  have ha':=tU.1 ha
  have hb':=tU.1 hb
  rw[mergeI]
  split
  ·rename_i hlt
   refine tU.2 ⟨λz hz=>?_,jS n a (y::b) (by simp only[uI];omega) ha'.2 hb λz hz=>hd z (td _ hz)⟩
   rcases u7.1 ((xH _ a (y::b) (uG _)).mem_iff.1 hz)with hz|hz
   ·exact ha'.1 z hz
   ·rcases uV.1 hz with rfl|hz
    ·exact hlt
    ·have:=hb'.1 z hz;omega
  ·rename_i hge
   have hne:x≠y:=λe=>hd x (tQ ..) (by rw[e];exact tQ ..)
   refine tU.2 ⟨λz hz=>?_,jS n (x::a) b (by simp only[uI];omega) ha hb'.2 λz hz hm=>hd z hz (td _ hm)⟩
   rcases u7.1 ((xH _ (x::a) b (uG _)).mem_iff.1 hz)with hz|hz
   ·rcases uV.1 hz with rfl|hz
    ·omega
    ·have:=ha'.1 z hz;omega
   ·exact hb'.1 z hz
theorem ziS: ∀ {l:List Int},ascI l=true↔l.Pairwise (· < ·)
 | []=>by simp[ascI]
 | [x]=>by simp[ascI]
 |x::y::l=>by
  have ih:=ziS (l:=y::l)
  simp only[ascI,uu,ux,ih]
  rw[tU (a:=x)]
  constructor
  ·rintro⟨h1,h2⟩
   refine⟨λz hz=>?_,h2⟩
   rcases uV.1 hz with rfl|hz
   ·exact h1
   ·have:=(tU.1 h2).1 z hz;omega
  ·exact λ⟨h1,h2⟩=>⟨h1 y (tQ ..),h2⟩
theorem zaV: ∀ {a b:List Int},a.Perm b->a.Pairwise (· <= ·)->b.Pairwise (· <= ·)->a=b
 | [],b,h,_,_=>h.nil_eq
 |x::a,[],h,_,_=>by have:=h.length_eq;simp at this
 |x::a,y::b,h,ha,hb=>by
  have ha':=tU.1 ha
  have hb':=tU.1 hb
  have h1:x=y:=by
   have hx:=h.mem_iff.1 (tQ .. :x∈x::a)
   have hy:=h.mem_iff.2 (tQ .. :y∈y::b)
   rcases uV.1 hx with hx|hx
   ·exact hx
   ·rcases uV.1 hy with hy|hy
    ·exact hy.symm
    ·have:=ha'.1 y hy;have:=hb'.1 x hx;omega
  subst h1
  rw[zaV (h.cons_inv) ha'.2 hb'.2]
theorem ztT{l:List Int}(h:l.Pairwise (· < ·)):l.Pairwise (· <= ·):=h.imp λh=>by omega
structure yN (R:Rws):Prop where
 tot:R.flatten.length<=500
 ne: ∀r∈R,r≠ []
 asc: ∀r∈R,r.Pairwise (· < ·)
 fst:(R.map λr=>at0 r 0).Pairwise (· < ·)
 rng: ∀x∈R.flatten,0<=x/\x<(R.flatten.length:Int)
 nd:R.flatten.Nodup
theorem zaW:zbj R=true↔yN R:=by
 unfold zbj
 have hp:=vl (p:=λa b=>decide (at0 a 0<at0 b 0)) (R:=R) λa b d _ _ _ h h2=>by
  have:=uo h;have:=uo h2;exact uK ua
 simp only[uu,List.all_eq_true,ux,hp,tH,uX,ziS]
 constructor
 ·rintro⟨⟨⟨⟨h1,h2⟩,h3⟩,h4⟩,h5⟩
  exact⟨h1,λr hr=>(h2 r hr).1,λr hr=>(h2 r hr).2,by rw[ou];exact h3,h4,h5⟩
 ·rintro⟨h1,h2,h3,h4,h5,h6⟩
  exact⟨⟨⟨⟨h1,λr hr=>⟨h2 r hr,h3 r hr⟩⟩,by rw[ou]at h4;exact h4⟩,h5⟩,h6⟩
theorem zqO: ∀ {R:Rws},(∀r∈R,r≠ [])->R.length<=R.flatten.length
 | [],_=>uG _
 |r::R,h=>by
  have h1:r≠ []:=h r (tQ ..)
  have:=qV.2 h1
  have:=zqO (R:=R) λx hx=>h x (td _ hx)
  simp only[tF,uB,uI];omega
theorem yN.make(h:yN R)(hn:R.flatten.length≠500):yN (R++[[(R.flatten.length:Int)]]):=by
 have hf:(R++[[(R.flatten.length:Int)]]).flatten=R.flatten++[(R.flatten.length:Int)]:=by simp
 have hl:(R++[[(R.flatten.length:Int)]]).flatten.length=R.flatten.length+1:=by rw[hf];simp
 have ht:=h.tot
 refine⟨ua,λr hr=>?_,λr hr=>?_,?_,λx hx=>?_,?_⟩
 ·rcases u7.1 hr with hr|hr
  ·exact h.ne r hr
  ·rw[tP.1 hr];simp
 ·rcases u7.1 hr with hr|hr
  ·exact h.asc r hr
  ·rw[tP.1 hr];simp
 ·rw[uY,List.pairwise_append]
  refine⟨h.fst,ue,λa ha b hb=>?_⟩
  obtain⟨r,hr,rfl⟩:=ql.1 ha
  simp only[tK,oE,tP]at hb
  subst hb
  have hr0:=h.ne r hr
  cases r with
  |nil=>exact absurd rfl hr0
  |cons x r=>
   have:=(h.rng x (List.mem_flatten.2 ⟨_,hr,tQ ..⟩)).2
   simpa [at0]using this
 ·rw[hl]
  rw[hf]at hx
  rcases u7.1 hx with hx|hx
  ·have:=h.rng x hx;omega
  ·rw[tP.1 hx];omega
 ·rw[hf,q5]
  refine⟨h.nd,ue,λa ha b hb e=>?_⟩
  have:=(h.rng a ha).2
  rw[tP.1 hb]at e
  omega
theorem zfK{a b:Nat}{A B:Rw}(ha:R[a]?=some A)(hb:R[b]?=some B)(hab:a<b): ∃Pr Qr Sr:Rws,R=Pr++A::(Qr++B::Sr)/\ ∀M:Rw,(R.set a M).eraseIdx b=Pr++M::(Qr++Sr):=by
 obtain⟨ha1,ha2⟩:=ui.1 ha
 obtain⟨hb1,hb2⟩:=ui.1 hb
 have e1:R=R.take a++A::R.drop (a+1):=by
  rw[<-ha2,<-tS ha1,tv]
 have hd:(R.drop (a+1))[b - a - 1]?=some B:=by rw[uD,show a+1+(b - a - 1)=b by omega];exact hb
 obtain⟨hd1,hd2⟩:=ui.1 hd
 have e2:R.drop (a+1)=(R.drop (a+1)).take (b - a - 1)++B::(R.drop (a+1)).drop (b - a - 1+1):=by
  rw[<-hd2,<-tS hd1,tv]
 have hlp:(R.take a).length=a:=by rw[uz];omega
 have hlq:((R.drop (a+1)).take (b - a - 1)).length=b - a - 1:=by rw[uz,uQ];omega
 refine⟨R.take a,(R.drop (a+1)).take (b - a - 1),(R.drop (a+1)).drop (b - a - 1+1),by rw[<-e2];exact e1,λM=>?_⟩
 generalize R.take a=Pr at e1 hlp
 generalize (R.drop (a+1)).take (b - a - 1)=Qr at e2 hlq
 generalize (R.drop (a+1)).drop (b - a - 1+1)=Sr at e2
 rw[e1,e2]
 rw[UC _ _ ua,hlp,qv,List.set_cons_zero,oI ua,hlp,show b - a=(b - a - 1)+1 by omega,Ur,oI ua,hlq,qv]
 rfl
theorem zpk(Pr Qr Sr:Rws)(A B M:Rw)(h:M.Perm (A++B)):(Pr++M::(Qr++Sr)).flatten.Perm (Pr++A::(Qr++B::Sr)).flatten:=by
 simp only[tY,tF]
 refine oR _ ?_
 refine(oM _ h).trans ?_
 rw[tL]
 refine oR _ ?_
 rw[<-tL,<-tL]
 exact oM _ oS
theorem yN.union(h:yN R){a b:Nat}{A B:Rw}(ha:R[a]?=some A)(hb:R[b]?=some B)(hab:a<b):yN ((R.set a (mergeI A B)).eraseIdx b):=by
 obtain⟨Pr,Qr,Sr,e1,e2⟩:=zfK ha hb hab
 have hA:A∈R:=List.mem_of_getElem? ha
 have hB:B∈R:=List.mem_of_getElem? hb
 have hperm:=zpk Pr Qr Sr A B _ (xH _ A B (uG _))
 rw[<-e1]at hperm
 rw[e2]
 have hdis: ∀x∈A,x∉B:=λx hx hy=>by
  have:=h.nd
  rw[e1]at this
  simp only[tY,tF]at this
  have h1:=(q5.1 this).2.1
  have h2:=(q5.1 h1).2.2 x hx x (by simp[hy])
  exact h2 rfl
 have hf:at0 (mergeI A B) 0=at0 A 0:=by
  have hlt:at0 A 0<at0 B 0:=by
   have:=h.fst
   rw[e1]at this
   simp only[uY,tK]at this
   have h1:=(List.pairwise_append.1 this).2.1
   exact(tU.1 h1).1 _ ue
  cases A with
  |nil=>exact absurd rfl (h.ne _ hA)
  |cons x A=>cases B with
   |nil=>rw[jR]
   |cons y B=>
    rw[mergeI,uv (by simpa [at0]using hlt)]
    rfl
 have hmem: ∀r∈Pr++mergeI A B::(Qr++Sr),r=mergeI A B\/r∈R:=λr hr=>by
  rw[e1]
  simp only[u7,uV]at hr⊢
  rcases hr with hr|hr|hr|hr<;>simp[hr]
 refine⟨by rw[hperm.length_eq];exact h.tot,λr hr=>?_,λr hr=>?_,?_,λx hx=>?_,(hperm.nodup_iff).2 h.nd⟩
 ·rcases hmem r hr with rfl|hr
  ·intro e
   have:=(xH _ A B (uG _)).length_eq
   rw[e]at this
   have h1:=qV.2 (h.ne _ hA)
   simp at this
   omega
  ·exact h.ne r hr
 ·rcases hmem r hr with rfl|hr
  ·exact jS _ A B (uG _) (h.asc _ hA) (h.asc _ hB) hdis
  ·exact h.asc r hr
 ·have:=h.fst
  rw[e1]at this
  refine this.sublist ?_
  simp only[uY,tK,hf]
  refine(List.Sublist.refl _).append ((List.Sublist.append (List.Sublist.refl _) ?_).cons_cons _)
  exact List.sublist_cons_self _ _
 ·rw[hperm.length_eq]
  exact h.rng x (hperm.mem_iff.1 hx)
theorem zd9(i:Nat):(i:Int)+1=((i+1:Nat):Int):=by omega
theorem zC(h:i<9223372036854775807):IntKind.i64.wrap ((i:Int)+1)=((i+1:Nat):Int):=by rw[zd9];exact wrap64 ua
end Hw.Fr.Md
namespace Hw
open Go
variable {L:List (List (List PV))}{M:Mem}{id q:Nat}{rs:List (List PV)}{w:World}{ρ:Nat->Value}
theorem jH{e:Nat}(h:zH M ρ w id (.bag e L))(hq:L[q]?=some rs){v:Value}{xs:List Value}(hx:ρ id= .tuple xs.toArray)(hv:xs[q]?=some v):wO M w v e rs:=by
 obtain⟨cs,h2,_,hc,_⟩:=h
 rw[h2]at hx
 simp only[Value.tuple.injEq]at hx
 have f3:xs=cs:=by have:=uR Array.toList hx;simpa using this.symm
 subst f3
 obtain⟨c,c1,c2⟩:=hc q _ hq
 rw[hv]at c1
 obtain rfl:=uy c1
 exact c2
variable {P:Program}{af:Array Edge}{as':Array TypeId}{el t:TypeId}{g:Option (Nat×Bool)}{i:Int}{kk:Nat}{ps:String}{x y:Operand}
section
variable {d:Option Nat} {ty:TypeId}
theorem zmL{e:Nat}{n:Nat}(hx:okc x (.one (.nv id q)))(hq:L[q]?=some rs)(ha:as'[0]?=some t)(h:elemSz P t=some (el,n)):
 Snd P ⟨d,.call ⟨.builtin .len,#[x],as'⟩,ty,ps,af,g⟩ (rq x (.one (.nv id q))) [(id,.bag e L)] [] (I rs.length) []:=
 zo λC st M ρ a w hH h1 ht=>by
  have e':=hH.evS (zI hx h1)
  simp only[RepS,RepV]at e'
  obtain⟨xs,f1,f2,_⟩:=e'
  obtain⟨a',cap,h3,_⟩:=jH (hH.yh.res id _ ht.1) hq f1 f2
  obtain⟨ii,hu,hinf,hsz⟩:=zB h
  exact⟨.int .i64 rs.length,by simp[execOp,resolve,invoke,builtin,Builtin.len_,ha,h3,run_underlying hu,goInt],zlc _ _⟩
theorem zhz{e:Nat}{k:IntKind}(hx:okc x (.one (.nv id q)))(hy:okc y (Kk k i))(hq:L[q]?=some rs)(h:elemSz P t=some (el,e))(h0:0<=i)(hi:i<rs.length):
 Snd P ⟨d,.indexAddr t x y,ty,ps,af,g⟩ (rq x (.one (.nv id q))++rq y (Kk k i)) [(id,.bag e L)] [] (.one (.np id q (i.toNat*e))) []:=
 zo λC st M ρ a w hH h1 ht=>by
  rw[zd]at h1
  have e1:=hH.evS (zI hx h1.1)
  have e2:=hH.k (zI hy h1.2)
  simp only[RepS,RepV]at e1
  obtain⟨xs,f1,f2,_⟩:=e1
  obtain⟨a',cap,h3,h4,h5,h6⟩:=jH (hH.yh.res id _ ht.1) hq f1 f2
  obtain⟨ii,hu,hinf,hsz⟩:=zB h
  rcases h6 with⟨h6,h7⟩|⟨b,o,arr,el',fz,h6,_⟩
  ·subst h7;omega
  ·subst h6
   refine⟨.pointer (some ⟨b,o+i.toNat*e,none⟩),?_,by simp only[RepS,RepV];exact⟨_,b,o,_,_,f1,by rw[f2,h3],rfl⟩⟩
   simp only[execOp,h3,e2,Instr.indexAt,asIntOf,Sem.run_bind,Sem.run_pure,Result.andThen_ok,run_underlying hu]
   rw[uv ⟨h0,hi⟩]
   simp only[Sem.run_bind,Sem.run_pure,Result.andThen_ok,run_sizeOf hinf,yq,hsz]
theorem zkp{e:Nat}{vs:List PV}{s:Option Nat}{v:S}(hx:okc x (.one (.np id q kk)))(hq:L[q]?=some rs)(h:shp P t=some s)
 (hvs: ∀j p,vs[j]?=some p->rs.flatten[kk+j]?=some p) (hv:ofCells s (vs.map V.p)=some v):
 Snd P ⟨d,.load t x,ty,ps,af,g⟩ (rq x (.one (.np id q kk))) [(id,.bag e L)] [] v []:=
 zo λC st M ρ a w hH h1 ht=>by
  have e1:=hH.evS (zI hx h1)
  simp only[RepS,RepV]at e1
  obtain⟨xs,b,o,m,cap,f1,f2,e2⟩:=e1
  obtain⟨a',cap',h3,h4,h5,h6⟩:=jH (hH.yh.res id _ ht.1) hq f1 f2
  simp only[Value.slice.injEq]at h3
  rcases h6 with⟨h6,_⟩|⟨b',o',arr,el,fz,h6,h7,h7',h8,h9⟩
  ·rw[h6]at h3;cases h3.1
  ·rw[h6]at h3
   have hb:b=b'/\o=o':=by have:=h3.1;simp at this;exact this
   obtain⟨rfl,rfl⟩:=hb
   obtain⟨us,g1,_,g3⟩:=h9.cells (ρ:=ρ)
   obtain⟨ds,k9,k10⟩:=wi (M:=M) (ρ:=ρ) (vs:=vs.map V.p) (g:=λj=>arr[o+(kk+j)]?) λj u hj=>by
    rw[uE,uH]at hj
    obtain⟨p,hp,rfl⟩:=hj
    obtain⟨c,hc,hr⟩:=xz g1 (m:=kk+j) (v:= .p p) (by rw[uE,hvs j p hp];rfl)
    exact⟨c,g3 _ c hc,hr⟩
   obtain⟨u,hu,hr⟩:=yw (w:=w) (b:=b) (o:=o+kk) h k9 (λq c hc=>by
    have:=k10 q c hc
    simp only[<-th]at this
    simp[World.cell?,h7,this]) hv
   exact⟨u,by simp only[execOp,e2,Sem.run_bind,Instr.loadAt,Instr.sureAddr,Sem.run_pure,Result.andThen_ok,hu],hr⟩
theorem zhA{e:Nat}{rs':List (List PV)}{us:List PV}{s:S}{sh:Option Nat}(hx:okc x (.one (.np id q kk)))(hy:okc y s)(h:shp P t=some sh)(hc:cellsOf s=some (us.map V.p))(hl:us.length=sh.getD 1)
 (hq:L[q]?=some rs) (hrl:rs'.length=rs.length) (hre: ∀r∈rs',r.length=e) (hb:kk+us.length<=rs.length*e)
 (hn: ∀m p,rs'.flatten[m]?=some p->(kk<=m/\us[m - kk]?=some p)\/((m<kk\/kk+us.length<=m)/\rs.flatten[m]?=some p)):
 Snd P ⟨d,.store t x y,ty,ps,af,g⟩ (rq x (.one (.np id q kk))++rq y s) [(id,.bag e L)] [] .un [(id,some (.bag e (L.set q rs')))]:=by
 intro C st M ρ a w hH h1 ht _ hd k Q hk
 rw[zd]at h1
 have e0:=hH.evS (zI hx h1.1)
 have ey:=yE hc (hH.evS (zI hy h1.2))
 simp only[RepS,RepV]at e0
 obtain⟨xs,b,o,m,cap,f1,f2,e2⟩:=e0
 obtain⟨cs,g1,gn,gc,gap⟩:=hH.yh.res id _ ht.1
 have f1':=f1
 rw[g1]at f1
 simp only[Value.tuple.injEq]at f1
 have f3:xs=cs:=by have:=uR Array.toList f1;simpa using this.symm
 subst f3
 obtain⟨c0,c1,c2⟩:=gc q _ hq
 rw[f2]at c1
 obtain rfl:=uy c1
 obtain⟨ai,capi,i1,i2,i3,i6⟩:=c2
 simp only[Value.slice.injEq]at i1
 rcases i6 with⟨i6,_⟩|⟨b',o',arr,el,fz,i6,i7,i7',i8,i9⟩
 ·rw[i6]at i1;cases i1.1
 rw[i6]at i1
 have hbo:b=b'/\o=o':=by have:=i1.1;simp at this;exact this
 obtain⟨rfl,rfl⟩:=hbo
 have hm:m=rs.length:=i1.2.1
 have hcp:cap=capi:=i1.2.2
 subst hm;subst hcp
 obtain⟨ii,hinf,hs⟩:=zaX h
 have hlen:(a.eval y).cells.toList.length=us.length:=by rw[ey.length,uj]
 have hie:rs.length*e<=cap*e:=qF e i2
 have hst:=zY (P:=P) b (o+kk) el fz (a.eval y).cells.toList 0 arr w i7 i7' (by rw[hlen];omega) ey.one
 have hrun:(execOp a.eval ⟨d,.store t x y,ty,ps,af,g⟩).run P w= .ok .skip (w.setRow b (setAt arr.toList (o+kk) (a.eval y).cells.toList).toArray):=by
  have hsz: ¬((a.eval y).cells.size≠ii.size):=by rw[hs,<-hl,<-hlen];simp
  simp only[execOp,e2,Instr.storeAt,Instr.sureAddr,Sem.run_bind,Sem.run_pure,Result.andThen_ok,storeVar,run_sizeOf hinf,ur hsz]
  simp only[hst,Result.andThen_ok,uN]
 unfold Oper.wp
 rw[hrun,Oper.upon_skip]
 have hcsl:o+kk+(a.eval y).cells.toList.length<=arr.toList.length:=by rw[hlen];simp;omega
 have hsz:(setAt arr.toList (o+kk) (a.eval y).cells.toList).toArray.size=arr.size:=by simp[zK _ _ _ hcsl]
 have hget: ∀m:Nat,(setAt arr.toList (o+kk) (a.eval y).cells.toList).toArray[o+m]?=if o+m<o+kk then arr[o+m]? else if o+m<o+kk+us.length then(a.eval y).cells.toList[o+m - (o+kk)]? else arr[o+m]?:=λm=>by
  rw[tp,zW _ _ _ _ ua,hlen];simp
 generalize hW:setAt arr.toList (o+kk) (a.eval y).cells.toList=narr at*
 have hoB: ∀k:Nat,k≠b->(w.setRow b narr.toArray).heap[k]?=w.heap[k]?:=λk hk=>setRow_other w b k _ hk
 have hnB:(w.setRow b narr.toArray).heap[b]?=some (.cells narr.toArray el fz):=setRow_heap w b _ _ el _ i7
 -- the array anew
 have hinner:wO M (w.setRow b narr.toArray) (.slice (some ⟨b,o,none⟩) rs.length cap) e rs':=by
  refine⟨some ⟨b,o,none⟩,cap,by rw[hrl],ua,i3,.inr ⟨b,o,narr.toArray,el,fz,rfl,hnB,by rw[hsz];exact i7',by rw[hsz];exact i8,?_⟩⟩
  obtain⟨u1,u2,_,u4⟩:=i9.cells (ρ:=ρ)
  obtain⟨ds,k9,k10⟩:=wi (M:=M) (ρ:=ρ) (vs:=rs'.flatten.map V.p) (g:=λj=>narr.toArray[o+j]?) λj v hj=>by
   rw[uE,uH]at hj
   obtain⟨p,hp,rfl⟩:=hj
   rcases hn j p hp with⟨n1,n2⟩|⟨n1,n2⟩
   ·have hlt:j - kk<us.length:=(ui.1 n2).1
    obtain⟨c,v1,v2⟩:=xz ey (m:=j - kk) (v:= .p p) (by rw[uE,n2];rfl)
    refine⟨c,?_,v2⟩
    rw[hget,ur ua,uv ua,<-v1];congr 1;omega
   ·obtain⟨c,v1,v2⟩:=xz u2 (m:=j) (v:= .p p) (by rw[uE,n2];rfl)
    refine⟨c,?_,v2⟩
    rw[hget]
    rcases n1 with n1|n1
    ·rw[uv ua];exact u4 _ c v1
    ·rw[ur ua,ur ua];exact u4 _ c v1
  exact RowsIn.yx (ρ:=ρ) hre k9 λj c hc=>k10 j c hc
 have hblk:blk (.slice (some ⟨b,o,none⟩) rs.length cap)=some b:=rfl
 have hap2: ∀j c,j≠q->xs[j]?=some c-> ∀b2,blk c=some b2->b2≠b:=λj c hne hj b2 hb2 e=>by
  subst e
  exact gap j q b2 c _ hj f2 hne hb2 hblk
 refine hk _ _ M ρ (hH.turn ht.1 (λk hk=>hoB k λe=>hk (by rw[e,g1];exact zfL f2 hblk)) ue rfl rfl rfl
  ⟨xs,g1,by rw[tq];exact gn,λj p hj=>?_,gap⟩ (by simp only[RepS]) hd)
 rw[ov]at hj
 split at hj
 ·rename_i hjq
  subst hjq
  split at hj
  ·obtain rfl:=uy hj
   exact⟨_,f2,hinner⟩
  ·cases hj
 ·rename_i hjq
  obtain⟨c,v1,v2⟩:=gc j p hj
  exact⟨c,v1,v2.world λb2 hb2=>hoB b2 (hap2 j c (λe=>hjq e.symm) v1 b2 hb2)⟩
end
variable {C:Ctx}{Q:Exit->St->Prop}{d m:Nat}{g0:Option (Nat×Bool)}{gs:zl}{k0:IntKind}{md:Mode}{rest:List Oper}{tab:Tab}
section
variable {k:List Frm} {n:Nat} {sl:zl} {all:Array Oper}
theorem ztU(T:Ty P){ty:TypeId}(hC:C.low){e:Nat}
 (hx:ev sl x=some (.one (.nv id q))) (hT:tg tab id=some (.bag e L)) (hq:L[q]?=some rs) (he:T.es t=some (el,m)) (hm:metL all sl g0=some gs) (hd:Nat.blt d n=true)
 (g:Goal P C (.ops all rest (nx md ⟨some d,gs++rq x (.one (.nv id q)),[(id,.bag e L)],[],I rs.length,[]⟩)) k n ((d,I rs.length)::sl) tab Q):
 Goal P C (.ops all (⟨some d,.call ⟨.builtin .len,#[x],#[t]⟩,ty,ps,af,g0⟩::rest) md) k n sl tab Q:=by
 have e1:=zQ (st:=⟨n,sl,tab⟩) hx
 have:=zp hm (zmL (e:=e) (L:=L) (as':= #[t]) (ty:=ty) (ps:=ps) (af:=af) (g:=g0) (d:=some d) e1.1 hq rfl (T.es_ok _ _ he)) (n:=n) (tab:=tab)
 exact yk (L:=⟨some d,gs++rq x (.one (.nv id q)),[(id,.bag e L)],[],I rs.length,[]⟩) hC this.1 rfl ⟨by rw[zd];exact⟨this.2,e1.2⟩,⟨hT,uh⟩,rfl,hd⟩ g
theorem ztV(T:Ty P){ty:TypeId}(hC:C.low){e:Nat}
 (hx:ev sl x=some (.one (.nv id q))) (hy:ev sl y=some (Kk k0 i)) (hT:tg tab id=some (.bag e L)) (hq:L[q]?=some rs) (he:T.es t=some (el,e)) (h0:0<=i) (hi:i<rs.length) (hm:metL all sl g0=some gs) (hd:Nat.blt d n=true)
 (g:Goal P C (.ops all rest (nx md ⟨some d,gs++(rq x (.one (.nv id q))++rq y (Kk k0 i)),[(id,.bag e L)],[],.one (.np id q (i.toNat*e)),[]⟩)) k n ((d,.one (.np id q (i.toNat*e)))::sl) tab Q):
 Goal P C (.ops all (⟨some d,.indexAddr t x y,ty,ps,af,g0⟩::rest) md) k n sl tab Q:=by
 have e1:=zQ (st:=⟨n,sl,tab⟩) hx
 have e2:=zQ (st:=⟨n,sl,tab⟩) hy
 have:=zp hm (zhz (e:=e) (L:=L) (ty:=ty) (ps:=ps) (af:=af) (g:=g0) (d:=some d) e1.1 e2.1 hq (T.es_ok _ _ he) h0 hi) (n:=n) (tab:=tab)
 exact yk (L:=⟨some d,gs++(rq x (.one (.nv id q))++rq y (Kk k0 i)),[(id,.bag e L)],[],.one (.np id q (i.toNat*e)),[]⟩) hC this.1 rfl ⟨by rw[zd,zd];exact⟨this.2,e1.2,e2.2⟩,⟨hT,uh⟩,rfl,hd⟩ g
theorem zr1(T:Ty P){ty:TypeId}(hC:C.low){e:Nat}(vs:List PV){s:Option Nat}{v:S}
 (hx:ev sl x=some (.one (.np id q kk))) (hT:tg tab id=some (.bag e L)) (hq:L[q]?=some rs) (hsh:T.sh t=some s) (hvs: ∀j p,vs[j]?=some p->rs.flatten[kk+j]?=some p) (hv:ofCells s (vs.map V.p)=some v) (hm:metL all sl g0=some gs) (hd:Nat.blt d n=true)
 (g:Goal P C (.ops all rest (nx md ⟨some d,gs++rq x (.one (.np id q kk)),[(id,.bag e L)],[],v,[]⟩)) k n ((d,v)::sl) tab Q):
 Goal P C (.ops all (⟨some d,.load t x,ty,ps,af,g0⟩::rest) md) k n sl tab Q:=by
 have e1:=zQ (st:=⟨n,sl,tab⟩) hx
 have:=zp hm (zkp (e:=e) (L:=L) (ty:=ty) (ps:=ps) (af:=af) (g:=g0) (d:=some d) e1.1 hq (T.sh_ok _ _ hsh) hvs hv) (n:=n) (tab:=tab)
 exact yk (L:=⟨some d,gs++rq x (.one (.np id q kk)),[(id,.bag e L)],[],v,[]⟩) hC this.1 rfl ⟨by rw[zd];exact⟨this.2,e1.2⟩,⟨hT,uh⟩,rfl,hd⟩ g
theorem zpl(T:Ty P){ty:TypeId}(hC:C.low){e:Nat}(rs':List (List PV)){us:List PV}{s:S}{sh:Option Nat}
 (hx:ev sl x=some (.one (.np id q kk))) (hy:ev sl y=some s) (hT:tg tab id=some (.bag e L)) (hsh:T.sh t=some sh) (hc:cellsOf s=some (us.map V.p)) (hl:us.length=sh.getD 1)
 (hq:L[q]?=some rs) (hrl:rs'.length=rs.length) (hre: ∀r∈rs',r.length=e) (hb:kk+us.length<=rs.length*e)
 (hn: ∀m p,rs'.flatten[m]?=some p->(kk<=m/\us[m - kk]?=some p)\/((m<kk\/kk+us.length<=m)/\rs.flatten[m]?=some p)) (hm:metL all sl g0=some gs)
 (g:Goal P C (.ops all rest (nx md ⟨none,gs++(rq x (.one (.np id q kk))++rq y s),[(id,.bag e L)],[],.un,[(id,some (.bag e (L.set q rs')))]⟩)) k n sl ((id,some (.bag e (L.set q rs')))::tab) Q):
 Goal P C (.ops all (⟨none,.store t x y,ty,ps,af,g0⟩::rest) md) k n sl tab Q:=by
 have e1:=zQ (st:=⟨n,sl,tab⟩) hx
 have e2:=zQ (st:=⟨n,sl,tab⟩) hy
 have:=zp hm (zhA (ty:=ty) (ps:=ps) (af:=af) (g:=g0) (d:=none) e1.1 e2.1 (T.sh_ok _ _ hsh) hc hl hq hrl hre hb hn) (n:=n) (tab:=tab)
 exact yk (L:=⟨none,gs++(rq x (.one (.np id q kk))++rq y s),[(id,.bag e L)],[],.un,[(id,some (.bag e (L.set q rs')))]⟩) hC this.1 rfl ⟨by rw[zd,zd];exact⟨this.2,e1.2,e2.2⟩,⟨hT,uh⟩,rfl,rfl⟩ g
end
def RwV(F:(Nat->Value)->Prop)(v v':V):Prop:= ∀M ρ x,F ρ->RepV M ρ v x->RepV M ρ v' x
def zpm(F:(Nat->Value)->Prop)(v v':List V):Prop:= ∀M ρ x,F ρ->RepVs M ρ v x->RepVs M ρ v' x
def RwS(F:(Nat->Value)->Prop)(v v':S):Prop:= ∀M ρ x,F ρ->RepS M ρ v x->RepS M ρ v' x
def RwR(F:(Nat->Value)->Prop)(r r':Res):Prop:= ∀M ρ w i,F ρ->zH M ρ w i r->zH M ρ w i r'
variable {F:(Nat->Value)->Prop}
theorem RwV.refl(v:V):RwV F v v:=λ_ _ _ _ h=>h
theorem zpm.nil:zpm F [] []:=λ_ _ _ _ h=>h
theorem zpm.refl(v:List V):zpm F v v:=λ_ _ _ _ h=>h
theorem zpm.cons{v v':V}{vs vs':List V}(h:RwV F v v')(hs:zpm F vs vs'):zpm F (v::vs) (v'::vs'):=λM ρ x hf hr=>by
 cases x with
 |nil=>simp only[RepVs]at hr
 |cons c cs=>simp only[RepVs]at hr ⊢; exact⟨h _ _ _ hf hr.1,hs _ _ _ hf hr.2⟩
theorem RwS.refl(v:S):RwS F v v:=λ_ _ _ _ h=>h
theorem RwS.one{v v':V}(h:RwV F v v'):RwS F (.one v) (.one v'):=λM ρ x hf hr=>by simp only[RepS]at hr ⊢; exact h _ _ _ hf hr
theorem RwS.agg{v v':List V}(h:zpm F v v'):RwS F (.agg v) (.agg v'):=λM ρ x hf hr=>by
 simp only[RepS]at hr ⊢; obtain⟨cs,h1,h2⟩:=hr;exact⟨cs,h1,h _ _ _ hf h2⟩
theorem RwR.refl(r:Res):RwR F r r:=λ_ _ _ _ _ h=>h
theorem RwR.box{vs vs':List V}(h:zpm F vs vs'):RwR F (.box vs) (.box vs'):=λ_ _ _ _ hr ⟨b,cs,el,e1,e2,e3⟩=>⟨b,cs,el,e1,e2,h _ _ _ hr e3⟩
theorem RwR.vw{ids ids':List Nat}{e:Nat}{rows rows':List (List PC)}(hl:rows'.length=rows.length)(hle: ∀r∈rows',r.length=e)
 (h: ∀(j:Nat) (x':PC),rows'.flatten[j]?=some x'-> ∃x,rows.flatten[j]?=some x/\RwV F (toV ids x) (toV ids' x')):RwR F (.vw ids e rows) (.vw ids' e rows'):=λM ρ w i hF hr=>by
 obtain⟨a,cap,h1,h2,h3,_,h4⟩:=hr
 refine⟨a,cap,by rw[hl];exact h1,ua,h3,hle,?_⟩
 rcases h4 with h4|⟨b,o,cs,el,fz,h5,h6,h6',h7,h8⟩
 ·exact .inl h4
 ·refine .inr ⟨b,o,cs,el,fz,h5,h6,h6',h7,λj x' hj=>?_⟩
  obtain⟨x,hx,hv⟩:=h j x' hj
  obtain⟨c,c1,c2⟩:=h8 j x hx
  exact⟨c,c1,hv _ _ _ hF c2⟩
def upW(F:(Nat->Value)->Prop)(olds news:List Nat)(tab:Tab):List (Nat×Res)->Prop
 | []=>True
 |(i,r')::l=>(∃r,tg tab i=some r/\((hasB i olds||hasB i news)=false/\RwR F r r'))/\upW F olds news tab l
theorem zqP{F:(Nat->Value)->Prop}{olds news:List Nat}{tab b:Tab}: ∀ {ups:List (Nat×Res)},upW F olds news tab ups-> ∀ {k:Nat} {r:Res},tg (zld ups++b) k=some r->
 tg b k=some r\/ ∃r0,tg tab k=some r0/\k∉olds/\k∉news/\RwR F r0 r
 | [],_,k,r,h=> .inl h
 |(t,s')::l,hu,k,r,h=>by
  simp only[zld,ta,zX]at h
  split at h
  ·rename_i e;subst e;simp only[um]at h;subst h
   obtain⟨r0,h1,h2,h3⟩:=hu.1
   simp only[tD]at h2
   have n1:t∉olds:=λhm=>by have:=zb4 hm;rw[h2.1]at this;cases this
   have n2:t∉news:=λhm=>by have:=zb4 hm;rw[h2.2]at this;cases this
   exact .inr ⟨r0,h1,n1,n2,h3⟩
  ·exact zqP hu.2 h
structure ztW (M:Mem) (ρ ρ':Nat->Value) (w:World) (tab:Tab) (olds:List Nat) (news:RL):Prop where
 agr: ∀i,i∉news.ids->ρ' i=ρ i
 res: ∀i r,tg (tb news) i=some r->zH M ρ' w i r
 blk: ∀i r b,tg (tb news) i=some r->Bk (ρ' i) b-> ∃j s,j∈olds/\tg tab j=some s/\Bk (ρ j) b
 dis: ∀i j ri rj b,tg (tb news) i=some ri->tg (tb news) j=some rj->i≠j->Bk (ρ' i) b->Bk (ρ' j) b->False
variable {b:Tab}
theorem zfM{l:RL}{i:Nat}{r:Res}(h:tg (tb l++b) i=some r):tg (tb l) i=some r\/(i∉l.ids/\tg b i=some r):=by
 induction l with
 |nil=>exact .inr ⟨by simp[RL.ids],h⟩
 |cons x l ih=>
  obtain⟨j,s⟩:=x
  simp only[tb,ta,zX]at h⊢
  split at h
  ·rename_i e;rw[uv e];exact .inl h
  ·rename_i e
   rw[ur e]
   rcases ih h with h1|⟨h1,h2⟩
   ·exact .inl h1
   ·exact .inr ⟨by simp only[RL.ids,uV,UU];exact⟨λh=>e h.symm,h1⟩,h2⟩
variable {cur:Cur}
section
variable {k:List Frm} {n:Nat} {sl:zl}
theorem zb5(hC:C.low)(hc:lst cur=true)(olds:List Nat)(news:RL)(F:(Nat->Value)->Prop)(hf:allB (λid=>Nat.ble 100 id&&freshB id ⟨n,sl,tab⟩) news.ids=true)
 (hmk: ∀ {M ρ w},ji M ρ w tab-> ∃ρ',F ρ'/\ztW M ρ ρ' w tab olds news)
 (ups:zl) (hS:upS (RwS F) sl ups) (bs:List (Nat×Res)) (hB:upW F olds news.ids tab bs) (g:Goal P C cur k n (ups++sl) (zld bs++(tb news++(ze0 olds++tab))) Q):Goal P C cur k n sl tab Q:=by
 refine zdF hc (λ{M ρ a w} h=>?_) g
 obtain⟨ρ',hF,hR⟩:=hmk h.yh
 have fresh: ∀i∈news.ids,zbk C i ⟨n,sl,tab⟩:=λi hi=>by
  have:=wy hf i hi
  simp only[uu]at this
  exact wP this.2 (hC.none (tz this.1))
 have hX:zex (λi=>i∈news.ids) ρ ρ':=λi hi=>hR.agr i hi
 have hsl: ∀k s,sg sl k=some s->RepS M ρ' s (a.tmps.getD k undef):=λk s hk=>RepS.agree hX _ _ (λi hi=>(fresh i hi).1 k s hk) (h.slots k s hk)
 have hold: ∀i r,tg tab i=some r->zH M ρ' w i r:=λi r hi=>
  (h.yh.res i r hi).agree hX (λhm=>((fresh i hm).2.1 i r hi).1 rfl) (λj hj=>((fresh j hj).2.1 i r hi).2)
 have nn: ∀i r,tg tab i=some r->i∉news.ids:=λi r hi hm=>((fresh i hm).2.1 i r hi).1 rfl
 -- what an entry of the new table is
 have htab: ∀i r,tg (zld bs++(tb news++(ze0 olds++tab))) i=some r->(i∈news.ids/\tg (tb news) i=some r)\/(i∉olds/\i∉news.ids/\ ∃r0,tg tab i=some r0/\(r=r0\/RwR F r0 r)):=λi r hi=>by
  rcases zqP hB hi with h1|⟨r0,h1,h2,h3,h4⟩
  ·rcases zfM h1 with h2|⟨h2,h3⟩
   ·exact .inl ⟨xI (xT h2),h2⟩
   ·have:=zhB h3
    exact .inr ⟨this.1,h2,r,this.2,.inl rfl⟩
  ·exact .inr ⟨h2,h3,r0,h1,.inr h4⟩
 have bkold: ∀i,i∉news.ids-> ∀b,Bk (ρ' i) b->Bk (ρ i) b:=λi hi b hb=>by rw[hR.agr i hi]at hb;exact hb
 have cross: ∀i j ri b,tg (tb news) i=some ri->j∉olds->j∉news.ids->(∃rj,tg tab j=some rj)->Bk (ρ' i) b->Bk (ρ' j) b->False:=λi j ri b hi hjo hjn ⟨rj,hj⟩ hbi hbj=>by
  obtain⟨q,s,hq,hs,hbq⟩:=hR.blk i ri b hi hbi
  exact h.yh.dis q j s rj b hs hj (λe=>hjo (e ▸ hq)) hbq (bkold j hjn b hbj)
 refine⟨M,ρ',h.dfr,h.sz,λk s hk=>?_,⟨λi r hi=>?_,λi j ri rj b hi hj hne hbi hbj=>?_,λi r b hi hb o=>?_⟩,λi r b hi hb=>?_,h.run,λi r hi=>?_⟩
 ·rcases zfN hS hk with h1|⟨s0,h1,h2⟩
  ·exact hsl k s h1
  ·exact h2 _ _ _ hF (hsl k s0 h1)
 ·rcases htab i r hi with⟨_,h1⟩|⟨_,_,r0,h1,h2⟩
  ·exact hR.res i r h1
  ·rcases h2 with rfl|h2
   ·exact hold i r h1
   ·exact h2 _ _ _ _ hF (hold i r0 h1)
 ·rcases htab i ri hi with⟨_,h1⟩|⟨i1,i2,r0,h1,_⟩<;>rcases htab j rj hj with⟨_,h2⟩|⟨j1,j2,s0,h2,_⟩
  ·exact hR.dis i j ri rj b h1 h2 hne hbi hbj
  ·exact cross i j ri b h1 j1 j2 ⟨s0,h2⟩ hbi hbj
  ·exact cross j i rj b h2 i1 i2 ⟨r0,h1⟩ hbj hbi
  ·exact h.yh.dis i j r0 s0 b h1 h2 hne (bkold i i2 b hbi) (bkold j j2 b hbj)
 ·rcases htab i r hi with⟨_,h1⟩|⟨i1,i2,r0,h1,_⟩
  ·obtain⟨q,s,_,hs,hbq⟩:=hR.blk i r b h1 hb
   exact h.yh.own q s b hs hbq o
  ·exact h.yh.own i r0 b h1 (bkold i i2 b hb) o
 ·rcases htab i r hi with⟨_,h1⟩|⟨i1,i2,r0,h1,_⟩
  ·obtain⟨q,s,_,hs,hbq⟩:=hR.blk i r b h1 hb
   exact h.ownf q s b hs hbq
  ·exact h.ownf i r0 b h1 (bkold i i2 b hb)
 ·rw[hR.agr i λhm=>by have:=(fresh i hm).2.2;rw[hi]at this;cases this]
  exact h.keep i r hi
def TkF(id id2 id' m:Nat)(ρ:Nat->Value):Prop:= ∃cs:List Value,ρ id= .tuple cs.toArray/\cs.length=m/\(ρ id2).oneCell'=true/\ρ id'= .tuple (cs++[ρ id2]).toArray
theorem TkF.nv{id id2 id' m j:Nat}:RwV (TkF id id2 id' m) (.nv id j) (.nv id' j):=λM ρ x hF hr=>by
 obtain⟨cs,h1,h2,h3,h4⟩:=hF
 simp only[RepV]at hr⊢
 obtain⟨xs,f1,f2,f3⟩:=hr
 rw[h1]at f1
 have:xs=cs:=by simp only[Value.tuple.injEq]at f1;have:=uR Array.toList f1;simpa using this.symm
 subst this
 exact⟨_,h4,by rw[uP (ui.1 f2).1];exact f2,f3⟩
theorem TkF.ar{id id2 id' m:Nat}:RwV (TkF id id2 id' m) (.ar id2) (.nv id' m):=λM ρ x hF hr=>by
 obtain⟨cs,h1,h2,h3,h4⟩:=hF
 simp only[RepV]at hr⊢
 exact⟨_,h4,by rw[uO ua,h2,qv,hr.1];rfl,hr.2⟩
theorem zkq{cs:List Value}{v:Value}(h:zab cs)(hv: ∀(j b:Nat) z,cs[j]?=some z->blk z=some b->blk v≠some b):zab (cs++[v]):=by
 have get: ∀(i:Nat) z,(cs++[v])[i]?=some z->cs[i]?=some z\/(i=cs.length/\z=v):=λi z hz=>by
  rcases Nat.lt_or_ge i cs.length with hlt|hge
  ·rw[uP hlt]at hz;exact .inl hz
  ·rw[uO hge]at hz
   have h0:i - cs.length=0:=by have:=(ui.1 hz).1;simp at this;omega
   rw[h0]at hz
   simp only[List.getElem?_cons_zero,um]at hz
   exact .inr ⟨ua,hz.symm⟩
 intro i j b p q hp hq hne hbp hbq
 rcases get i p hp with hi|⟨rfl,rfl⟩<;>rcases get j q hq with hj|⟨rfl,rfl⟩
 ·exact h i j b p q hi hj hne hbp hbq
 ·exact hv i b p hi hbp hbq
 ·exact hv j b q hj hbq hbp
 ·exact hne rfl
theorem ziT(hC:C.low)(hc:lst cur=true)(id id2 id':Nat){e:Nat}(hid:tg tab id=some (.bag e L))(hid2:tg tab id2=some (.arr e rs))(hne:Nat.beq id id2=false)
 (hf:(Nat.ble 100 id'&&freshB id' ⟨n,sl,tab⟩)=true)
 (ups:zl) (hS:upS (RwS (TkF id id2 id' L.length)) sl ups) (bs:List (Nat×Res)) (hB:upW (TkF id id2 id' L.length) [id,id2] [id'] tab bs)
 (g:Goal P C cur k n (ups++sl) (zld bs++((id',some (.bag e (L++[rs])))::(id,none)::(id2,none)::tab)) Q):Goal P C cur k n sl tab Q:=by
 have hne':id≠id2:=λe=>by subst e;rw[wQ]at hne;cases hne
 refine zb5 hC hc [id,id2] [(id',.bag e (L++[rs]))] (TkF id id2 id' L.length) (by simp only[RL.ids,allB,hf,qJ]) (λ{M ρ w} hT=>?_) ups hS bs hB g
 simp only[uu]at hf
 have nid: ∀i r,tg tab i=some r->i≠id':=λi r hi e=>by
  have:=(wP (C:=C) hf.2 (hC.none (tz hf.1))).2.1 i r hi
  exact this.1 e
 obtain⟨cs,h1,h2,h3,h4⟩:=hT.res id _ hid
 have hA:wO M w (ρ id2) e rs:=hT.res id2 _ hid2
 obtain⟨a2,cap2,g1,_⟩:=hA
 have hA:wO M w (ρ id2) e rs:=hT.res id2 _ hid2
 have n1:=nid id _ hid
 have n2:=nid id2 _ hid2
 have bk2: ∀q,blk (ρ id2)=some q->Bk (ρ id2) q:=λq hq=>by rw[g1]at hq ⊢; exact hq
 have only: ∀i r,tg (tb [(id',Res.bag e (L++[rs]))]) i=some r->i=id'/\r= .bag e (L++[rs]):=λi r hi=>by
  simp only[tb,zX]at hi
  split at hi
  ·rename_i e;exact⟨e.symm,(uy hi).symm⟩
  ·cases hi
 refine⟨upd ρ id' (.tuple (cs++[ρ id2]).toArray),⟨cs,by rw[zL n1];exact h1,h2,by rw[zL n2,g1];rfl,by rw[zw,zL n2]⟩,λi hi=>zL (by simpa [RL.ids]using hi),λi r hi=>?_,λi r b hi hb=>?_,λi j ri rj b hi hj hne _ _=>?_⟩
 ·obtain⟨rfl,rfl⟩:=only i r hi
  refine⟨_,zw _ _ _,by simp[h2],λj rs' hj=>?_,zkq h4 λj b z hj hz hv=>hT.dis id id2 _ _ b hid hid2 hne' (by rw[h1];exact zfL hj hz) (bk2 b hv)⟩
  rcases Nat.lt_or_ge j L.length with hlt|hge
  ·rw[uP hlt]at hj
   obtain⟨c,c1,c2⟩:=h3 j rs' hj
   exact⟨c,by rw[uP ua];exact c1,c2⟩
  ·rw[uO hge]at hj
   have h0:j - L.length=0:=by have:=(ui.1 hj).1;simp at this;omega
   rw[h0]at hj
   simp only[List.getElem?_cons_zero,um]at hj
   subst hj
   exact⟨ρ id2,by rw[uO ua,show j - cs.length=0 by omega];rfl,hA⟩
 ·obtain⟨rfl,_⟩:=only i r hi
  rw[zw]at hb
  obtain⟨x,hx,hxb⟩:=hb
  have hx':x∈cs\/x=ρ id2:=by simpa using hx
  rcases hx' with hx'|rfl
  ·obtain⟨j,hj⟩:=tj.1 hx'
   exact⟨id,_,ue,hid,by rw[h1];exact zfL hj hxb⟩
  ·exact⟨id2,_,ue,hid2,bk2 b hxb⟩
 ·obtain⟨rfl,_⟩:=only i ri hi
  obtain⟨rfl,_⟩:=only j rj hj
  exact hne rfl
theorem ztX(hC:C.low)(hc:lst cur=true)(id' e:Nat)(hf:(Nat.ble 100 id'&&freshB id' ⟨n,sl,tab⟩)=true)(g:Goal P C cur k n sl ((id',some (.bag e []))::tab) Q):Goal P C cur k n sl tab Q:=by
 refine zb5 hC hc [] [(id',.bag e [])] (λ_=>True) (by simp only[RL.ids,allB,hf,qJ]) (λ{M ρ w} hT=>?_) [] uh [] uh g
 have only: ∀i r,tg (tb [(id',Res.bag e [])]) i=some r->i=id'/\r= .bag e []:=λi r hi=>by
  simp only[tb,zX]at hi
  split at hi
  ·rename_i e;exact⟨e.symm,(uy hi).symm⟩
  ·cases hi
 refine⟨upd ρ id' (.tuple ([]:List Value).toArray),trivial,λi hi=>zL (by simpa [RL.ids]using hi),λi r hi=>?_,λi r b hi hb=>?_,λi j ri rj b hi hj hne _ _=>?_⟩
 ·obtain⟨rfl,rfl⟩:=only i r hi
  exact⟨[],zw _ _ _,rfl,λj rs hj=>by simp at hj,λi j b x y hx=>by simp at hx⟩
 ·obtain⟨rfl,_⟩:=only i r hi
  rw[zw]at hb
  obtain⟨x,hx,_⟩:=hb
  simp at hx
 ·obtain⟨rfl,_⟩:=only i ri hi
  obtain⟨rfl,_⟩:=only j rj hj
  exact hne rfl
end
variable {rows rows':List (List PC)}{rt2:RL}{sy:S}{us vs z:List V}
section
variable {d:Option Nat} {ty:TypeId}
theorem zkr{e:Nat}{ids:List Nat}{k:IntKind}(hx:okc x (.one (.ar id)))(hy:okc y (Kk k i))
 (h:elemSz P t=some (el,e)) (h0:0<=i) (hi:i<rows.length):
 Snd P ⟨d,.indexAddr t x y,ty,ps,af,g⟩ (rq x (.one (.ar id))++rq y (Kk k i)) [(id,.vw ids e rows)] [] (.one (.el id (i.toNat*e))) []:=
 zo λC st M ρ a w hH h1 ht=>by
  rw[zd]at h1
  have e':=hH.evS (zI hx h1.1)
  have e2:=hH.k (zI hy h1.2)
  simp only[RepS,RepV]at e'
  obtain⟨a',cap,h3,h4,h5,_,h6⟩:=hH.yh.res id _ ht.1
  obtain⟨ii,hu,hinf,hsz⟩:=zB h
  rcases h6 with⟨h6,h7⟩|⟨b,o,cs,el',fz,h6,_⟩
  ·subst h7;omega
  ·subst h6
   refine⟨.pointer (some ⟨b,o+i.toNat*e,none⟩),?_,by simp only[RepS,RepV];exact⟨b,o,_,_,h3,rfl⟩⟩
   rw[h3]at e'
   simp only[execOp,e'.1,e2,Instr.indexAt,asIntOf,Sem.run_bind,Sem.run_pure,Result.andThen_ok,run_underlying hu]
   rw[uv ⟨h0,hi⟩]
   simp only[Sem.run_bind,Sem.run_pure,Result.andThen_ok,run_sizeOf hinf,yq,hsz]
theorem zpn{e:Nat}{ids:List Nat}{n:Nat}(hx:okc x (.one (.ar id)))(ha:as'[0]?=some t)(h:elemSz P t=some (el,n)):
 Snd P ⟨d,.call ⟨.builtin .len,#[x],as'⟩,ty,ps,af,g⟩ (rq x (.one (.ar id))) [(id,.vw ids e rows)] [] (I rows.length) []:=
 zo λC st M ρ a w hH h1 ht=>by
  have e':=hH.evS (zI hx h1)
  simp only[RepS,RepV]at e'
  obtain⟨a',cap,h3,h4,h5,_,h6⟩:=hH.yh.res id _ ht.1
  obtain⟨ii,hu,hinf,hsz⟩:=zB h
  rw[h3]at e'
  exact⟨.int .i64 rows.length,by simp[execOp,resolve,invoke,builtin,Builtin.len_,ha,e'.1,run_underlying hu,goInt],zlc _ _⟩
theorem zmM{e:Nat}{ids:List Nat}{s:Option Nat}{v:S}(hx:okc x (.one (.el id kk)))(h:shp P t=some s)
 (hvs: ∀j v,vs[j]?=some v-> ∃p,rows.flatten[kk+j]?=some p/\toV ids p=v) (hv:ofCells s vs=some v):
 Snd P ⟨d,.load t x,ty,ps,af,g⟩ (rq x (.one (.el id kk))) [(id,.vw ids e rows)] [] v []:=
 zo λC st M ρ a w hH h1 ht=>by
  have e':=hH.evS (zI hx h1)
  simp only[RepS,RepV]at e'
  obtain⟨b,o,m,cap,e1,e2⟩:=e'
  obtain⟨a',cap',h2,h3,h4,_,h5⟩:=hH.yh.res id _ ht.1
  rw[e1]at h2
  simp only[Value.slice.injEq]at h2
  rcases h5 with⟨h5,_⟩|⟨b',o',cs,el,fz,h5,h6,h6',h7,h8⟩
  ·rw[h5]at h2;cases h2.1
  ·rw[h5]at h2
   have hb:b=b'/\o=o':=by have:=h2.1;simp at this;exact this
   obtain⟨rfl,rfl⟩:=hb
   obtain⟨ds,h9,h10⟩:=wi (M:=M) (ρ:=ρ) (vs:=vs) (g:=λj=>cs[o+(kk+j)]?) λj u hj=>by
    obtain⟨p,hp,e⟩:=hvs j u hj
    obtain⟨c,hc,hr⟩:=h8 _ p hp
    exact⟨c,hc,e ▸ hr⟩
   obtain⟨u,hu,hr⟩:=yw (w:=w) (b:=b) (o:=o+kk) h h9 (λq c hc=>by
    have:=h10 q c hc
    simp only[<-th]at this
    simp[World.cell?,h6,this]) hv
   exact⟨u,by simp only[execOp,e2,Sem.run_bind,Instr.loadAt,Instr.sureAddr,Sem.run_pure,Result.andThen_ok,hu],hr⟩
theorem zks{e:Nat}{ids ids':List Nat}{s:S}{sh:Option Nat}(hx:okc x (.one (.el id kk)))(hy:okc y s)(h:shp P t=some sh)
 (hc:cellsOf s=some us) (hl:us.length=sh.getD 1) (hln:rows'.length=rows.length) (hle: ∀r∈rows',r.length=e) (hb:kk+us.length<=rows.length*e)
 (hn: ∀q p,rows'.flatten[q]?=some p->(kk<=q/\us[q - kk]?=some (toV ids' p))\/((q<kk\/kk+us.length<=q)/\ ∃p0,rows.flatten[q]?=some p0/\toV ids p0=toV ids' p)):
 Snd P ⟨d,.store t x y,ty,ps,af,g⟩ (rq x (.one (.el id kk))++rq y s) [(id,.vw ids e rows)] [] .un [(id,some (.vw ids' e rows'))]:=by
 intro C st M ρ a w hH h1 ht _ hd k Q hk
 rw[zd]at h1
 have e0:=hH.evS (zI hx h1.1)
 have e':=yE hc (hH.evS (zI hy h1.2))
 simp only[RepS,RepV]at e0
 obtain⟨b,o,m,cap,e1,e2⟩:=e0
 obtain⟨a',cap',h2,h3,h4,hl0,h5⟩:=hH.yh.res id _ ht.1
 have h2':=h2
 rw[e1]at h2
 simp only[Value.slice.injEq]at h2
 rcases h5 with⟨h5,_⟩|⟨b',o',cs,el,fz,h5,h6,h6',h7,h8⟩
 ·rw[h5]at h2;cases h2.1
 ·rw[h5]at h2
  have hbo:b=b'/\o=o':=by have:=h2.1;simp at this;exact this
  obtain⟨rfl,rfl⟩:=hbo
  obtain⟨ii,hinf,hs⟩:=zaX h
  have hlen:(a.eval y).cells.toList.length=us.length:=by rw[e'.length]
  have hie:rows.length*e<=cap'*e:=qF e h3
  have hst:=zY (P:=P) b (o+kk) el fz (a.eval y).cells.toList 0 cs w h6 h6' (by rw[hlen];omega) e'.one
  have hrun:(execOp a.eval ⟨d,.store t x y,ty,ps,af,g⟩).run P w= .ok .skip (w.setRow b (setAt cs.toList (o+kk) (a.eval y).cells.toList).toArray):=by
   have hsz: ¬((a.eval y).cells.size≠ii.size):=by rw[hs,<-hl,<-hlen];simp
   simp only[execOp,e2,Instr.storeAt,Instr.sureAddr,Sem.run_bind,Sem.run_pure,Result.andThen_ok,storeVar,run_sizeOf hinf,ur hsz]
   simp only[hst,Result.andThen_ok,uN]
  unfold Oper.wp
  rw[hrun,Oper.upon_skip]
  have hcsl:o+kk+(a.eval y).cells.toList.length<=cs.toList.length:=by rw[hlen];simp;omega
  have hsz:(setAt cs.toList (o+kk) (a.eval y).cells.toList).toArray.size=cs.size:=by simp[zK _ _ _ hcsl]
  refine hk _ _ M ρ (hH.turn ht.1 (λk hk=>setRow_other w b k _ (λe=>hk (by simp[h2',h5,Bk,blk,e]))) ue rfl rfl rfl
   ⟨a',cap',by rw[hln];exact h2',ua,ua,hle,.inr ⟨b,o,_,el,fz,h5,setRow_heap w b _ _ el _ h6,by rw[hsz];exact h6',by rw[hsz];exact h7,λq p hq=>?_⟩⟩ (by simp only[RepS]) hd)
  have hget:(setAt cs.toList (o+kk) (a.eval y).cells.toList).toArray[o+q]?=if o+q<o+kk then cs[o+q]? else if o+q<o+kk+us.length then(a.eval y).cells.toList[o+q - (o+kk)]? else cs[o+q]?:=by
   rw[tp,zW _ _ _ _ ua,hlen];simp
  rcases hn q p hq with⟨g1,g2⟩|⟨g1,p0,g2,g3⟩
  ·have hlt:q - kk<us.length:=(ui.1 g2).1
   obtain⟨c,c1,c2⟩:=xz e' g2
   refine⟨c,?_,c2⟩
   rw[hget,ur ua,uv ua,<-c1];congr 1;omega
  ·obtain⟨c,c1,c2⟩:=h8 q p0 g2
   refine⟨c,?_,g3 ▸ c2⟩
   rw[hget]
   rcases g1 with g1|g1
   ·rw[uv ua];exact c1
   ·rw[ur ua,ur ua];exact c1
def zqQ(P:Program)(e:Nat)(tx:TypeId)(s:S)(rt:RL)(rows:List (List PC))(ids:List Nat):Prop:=
 ∀(C:Ctx) (st:St) (M:Mem) (ρ:Nat->Value) (a:Act) (w:World) (v:Value),Holds C st M ρ a w->RepS M ρ s v->okT rt st->
  ∃news,Src P e tx v rows.length news w/\(∀(j:Nat) (p:PC),rows.flatten[j]?=some p-> ∃c,news[j]?=some c/\RepV M ρ (toV ids p) c)/\ ∀r∈rows,r.length=e
theorem zqQ.vw{e:Nat}{tx el:TypeId}{id:Nat}{rows:List (List PC)}{ids:List Nat}(h:elemSz P tx=some (el,e)):zqQ P e tx (.one (.ar id)) [(id,.vw ids e rows)] rows ids:=by
 intro C st M ρ a w v hH hr ht
 obtain⟨_,hu,_,_⟩:=zB h
 obtain⟨b,cap,h1,h2,h3,hl,h4⟩:=hH.yh.res id _ ht.1
 simp only[RepS,RepV]at hr
 rw[h1]at hr;rw[hr.1]
 rcases h4 with⟨rfl,hc⟩|⟨b',o,cs,el',fz,rfl,h6,_,_,h8⟩
 ·have:rows=[]:=uS.1 ua
  subst this
  exact⟨[],Src.ofNil w hu cap,ue,ue⟩
 ·obtain⟨us,h9,h10⟩:=wi (M:=M) (ρ:=ρ) (vs:=rows.flatten.map (toV ids)) (g:=λj=>cs[o+j]?) λj u hj=>by
   rw[uE,uH]at hj
   obtain⟨p,hp,rfl⟩:=hj
   exact h8 j p hp
  refine⟨us,Src.ofSlice w hu _ _ cap us (by rw[h9.length,uj,jT hl]) (λj u hj=>by rw[yq];have:=h10 j u hj;simp[World.cell?,h6,this]) h9.one,λj p hj=>?_,hl⟩
  exact xz h9 (m:=j) (by rw[uE,hj];rfl)
theorem zhC{id' e bytes:Nat}{rows2 rows3:List (List PC)}{ids ids2 ids':List Nat}{tx:TypeId}(hx:okc x (.one (.ar id)))(hy:okc y sy)(hs:zqQ P e tx sy rt2 rows2 ids2)(hm1:mentI id' ids'=false)(h3l:rows3.length=rows.length+rows2.length)(h3e: ∀r∈rows3,r.length=e)
 (h31: ∀(j:Nat) (x':PC),j<rows.length*e->rows3.flatten[j]?=some x'-> ∃x,rows.flatten[j]?=some x/\toV ids x=toV ids' x') (h32: ∀(j:Nat) (x':PC),rows3.flatten[rows.length*e+j]?=some x'-> ∃x,rows2.flatten[j]?=some x/\toV ids2 x=toV ids' x')
 (he:elemSz P t=some (el,e)) (hz:zeroV P el=some z) (hzl:z.length=e) (hby:(P.info? el).map (·.bytes)=some bytes) (hb:(rows.length+rows2.length)*bytes<=140737488355328) (hlen:rows.length+rows2.length<=9223372036854775807):
 Snd P ⟨d,.call ⟨.builtin .append,#[x,y],#[t,tx]⟩,ty,ps,af,g⟩ (rq x (.one (.ar id))++rq y sy) ((id,.vw ids e rows)::rt2) [id'] (.one (.ar id')) [(id',some (.vw ids' e rows3)),(id,none)]:=by
 intro C st M ρ a w hH h1 hT hF hd k Q hk
 rw[zd]at h1
 have e1:=hH.evS (zI hx h1.1)
 have e2:=hH.evS (zI hy h1.2)
 obtain⟨b,cap,h2,h3,h4,hl0,h5⟩:=hH.yh.res id _ hT.1
 simp only[RepS,RepV]at e1
 obtain⟨ii,hu,hinf,hsz⟩:=zB he
 obtain⟨news,hsrc,hnews,hlen2⟩:=hs C st M ρ a w _ hH e2 hT.2
 obtain⟨i',zv,hi',hzv,hzs⟩:=wm hz
 rw[hinf]at hi';simp only[um]at hi';subst hi'
 rw[hinf]at hby;simp only[qh,um]at hby
 have hnl:news.length=rows2.length*e:=hsrc.newsLen
 have hfr:=jT hl0
 -- cells of the old and the new, as the new name says them
 have hnew: ∀(val:Value) (f:Nat->Option Value),(∀j p,rows.flatten[j]?=some p-> ∃c,f j=some c/\RepV M ρ (toV ids p) c)->(∀j c,news[j]?=some c->f (rows.length*e+j)=some c)->
  ∀j p,rows3.flatten[j]?=some p-> ∃c,f j=some c/\RepV M (upd ρ id' val) (toV ids' p) c:=λval f hf1 hf2 j p hj=>by
  rcases Nat.lt_or_ge j (rows.length*e)with hlt|hge
  ·obtain⟨x,hx,he⟩:=h31 j p hlt hj
   obtain⟨c,c1,c2⟩:=hf1 j x hx
   refine⟨c,c1,?_⟩
   rw[he]at c2
   exact RepV.agree (yZ ρ id' val) _ _ (λi hi=>by subst hi;exact zb6 hm1 p) c2
  ·have e3:rows.length*e+(j - rows.length*e)=j:=by omega
   obtain⟨x,hx,he⟩:=h32 (j - rows.length*e) p (by rw[e3];exact hj)
   obtain⟨c,c1,c2⟩:=hnews _ x hx
   refine⟨c,by have:=hf2 _ c c1;rwa [e3]at this,?_⟩
   rw[he]at c2
   exact RepV.agree (yZ ρ id' val) _ _ (λi hi=>by subst hi;exact zb6 hm1 _) c2
 have hcall:execOp a.eval ⟨d,.call ⟨.builtin .append,#[x,y],#[t,tx]⟩,ty,ps,af,g⟩=(do pure (.value (<-Builtin.append_ #[t,tx] ty #[a.eval x,a.eval y]))):=by
  simp[execOp,resolve,invoke,builtin]
 have fin: ∀ {val:Value} {w':World},(Builtin.append_ #[t,tx] ty #[a.eval x,a.eval y]).run P w= .ok val w'->
  (∀b',b'<w.heap.size->(∀i r,(some id)=some i->tg st.tab i=some r-> ¬Bk (ρ i) b')->w'.heap[b']?=w.heap[b']?)->w.heap.size<=w'.heap.size->w'.os=w.os->w'.tape=w.tape->w'.output=w.output->
  (∀b',Bk val b'->w.heap.size<=b'\/ ∃i r,(some id)=some i/\tg st.tab i=some r/\Bk (ρ i) b')->zH M (upd ρ id' val) w' id' (.vw ids' e rows3)->val.oneCell'=true->
  Oper.wp P ⟨d,.call ⟨.builtin .append,#[x,y],#[t,tx]⟩,ty,ps,af,g⟩ a w k Q:=λ{val w'} hrun g1 g2 g3 g4 g5 g6 g7 g8=>by
  unfold Oper.wp
  rw[hcall]
  simp only[Sem.run_bind,hrun,Result.andThen_ok,Sem.run_pure,Oper.upon_value]
  exact hk _ _ _ _ (hH.step (some id) g1 g2 g3 g4 g5 g6 hF.1 g7 (by simp only[RepS,RepV];exact⟨(zw _ _ _).symm,g8⟩) hd)
 have hex:a.eval x= .slice b rows.length cap:=e1.1.trans h2
 rcases Nat.lt_or_ge cap (rows.length+rows2.length)with hlt|hge
 · -- a new row
   have hold: ∃olds:List Value,(Builtin.firstCells ii.size rows.length (.slice b rows.length cap)).run P w.drew= .ok olds.toArray w.drew/\(∀(j:Nat) (p:PC),rows.flatten[j]?=some p-> ∃c,olds[j]?=some c/\RepV M ρ (toV ids p) c)/\olds.length=rows.length*e:=by
    rcases h5 with⟨rfl,hc⟩|⟨b',o,cs,el',fz,rfl,h6,_,_,h8⟩
    ·have:rows=[]:=uS.1 ua
     subst this
     exact⟨[],run_firstCells_none w.drew _ _ _ _,ue,ue⟩
    ·obtain⟨us,h9,h10⟩:=wi (M:=M) (ρ:=ρ) (vs:=rows.flatten.map (toV ids)) (g:=λj=>cs[o+j]?) λj u hj=>by
      rw[uE,uH]at hj
      obtain⟨p,hp,rfl⟩:=hj
      exact h8 j p hp
     have hul:us.length=rows.length*e:=by rw[h9.length,uj,hfr]
     refine⟨us,?_,λj p hj=>xz h9 (m:=j) (by rw[uE,hj];rfl),hul⟩
     rw[hsz]
     exact run_firstCells_some w.drew e rows.length ⟨b',o,none⟩ _ cap us hul (λj u hj=>by
      rw[yq]
      have:=h10 j u hj
      have h6':w.drew.heap[b']?=some (.cells cs el' fz):=h6
      simp[World.cell?,h6',this])
   obtain⟨olds,ho1,ho2,ho3⟩:=hold
   have hrun:=run_append_grow_src (P:=P) w t tx ty el ii zv hu hinf hzv b rows.length cap olds ho1 (a.eval y) rows2.length news (by rw[hsz];exact hsrc) hlt ua (growslice_fits hlt (by rw[hby];exact hb))
   rw[<-hex]at hrun
   have hcap:=grownCap_ge w (rows.length+rows2.length) cap el
   refine fin hrun (λb' hb' _=>z7 w.drew _ b' hb') ue rfl rfl rfl (λb' hb'=> .inl ?_) ⟨some ⟨w.heap.size,0,none⟩,grownCap w (rows.length+rows2.length) cap el,by rw[zw,h3l],by rw[h3l];exact hcap,(by have:=grownCap_le_maxLen w (rows.length+rows2.length) cap el (by unfold maxLen;omega);unfold maxLen at this;omega),h3e,.inr
    ⟨w.heap.size,0,_,el,(0,0),rfl,zP w.drew _,λi _=>by simp,?_,?_⟩⟩ rfl
   ·simp only[Bk,blk,um]at hb';omega
   ·simp only[qE,uW,uB,size_zeroCells,hzs,hzl,ho3,hnl,<-qk,tI]
    apply qF;omega
   ·refine hnew _ _ (λj p hj=>?_) (λj c hj=>?_)
    ·obtain⟨c,c1,c2⟩:=ho2 j p hj
     have hjl:j<olds.length:=(ui.1 c1).1
     refine⟨c,?_,c2⟩
     rw[tI,tN ug]
     simp only[tp]
     rw[uP hjl];exact c1
    ·have hjl:j<news.length:=(ui.1 hj).1
     rw[tI,tN ug]
     simp only[tp]
     rw[uO ua,ho3]
     rw[show rows.length*e+j - rows.length*e=j by omega];exact hj
 · -- room
   rcases h5 with⟨rfl,hc⟩|⟨b',o,cs,el',fz,rfl,h6,h6',h7,h8⟩
   ·have e3:rows2=[]:=uS.1 ua
    have e4:rows=[]:=uS.1 ua
    subst e3;subst e4;subst hc
    have hn0:news=[]:=qK (by simpa using hnl)
    subst hn0
    have hrun:(Builtin.append_ #[t,tx] ty #[a.eval x,a.eval y]).run P w= .ok (.slice none 0 0) w:=by
     rw[hex]
     have hl:(Builtin.lenOf (a.eval y)).run P w= .ok 0 w:=hsrc.len w
     have hc:(Builtin.firstCells e 0 (a.eval y)).run P w= .ok #[] w:=hsrc.cells
     rcases hsrc.kind with⟨e',hk'⟩|hk'<;>simp[Builtin.append_,run_underlying hu,run_underlying hk',Go.sizeOf,typeInfo,hinf,hl,hsz,hc]
    exact fin hrun (λ_ _ _=>rfl) (uG _) rfl rfl rfl (λb' hb'=>by simp[Bk,blk]at hb') ⟨none,0,by rw[zw,h3l];rfl,by rw[h3l];simp,ue,h3e,.inl ⟨rfl,rfl⟩⟩ rfl
   ·have hfit:o+rows.length*e+0+news.length<=cs.size:=by
     rw[hnl]
     have:(rows.length+rows2.length)*e<=cap*e:=qF _ hge
     rw[qk]at this
     omega
    have hst:=zY (P:=P) b' (o+rows.length*e) el' fz news 0 cs w h6 h6' hfit hsrc.one
    have hrun:(Builtin.append_ #[t,tx] ty #[a.eval x,a.eval y]).run P w= .ok (.slice (some ⟨b',o,none⟩) (rows.length+rows2.length) cap) (w.setRow b' (setAt cs.toList (o+rows.length*e+0) news).toArray):=by
     rw[hex]
     have hl:=hsrc.len w
     have hc:=hsrc.cells
     rcases hsrc.kind with⟨e',hk'⟩|hk'<;>simp[Builtin.append_,run_underlying hu,run_underlying hk',Go.sizeOf,typeInfo,hinf,hl,hsz,hc,hge,yq,hst]
    have hob:Bk (ρ id) b':=by rw[h2];rfl
    have hsl:(setAt cs.toList (o+rows.length*e+0) news).length=cs.size:=by rw[zK _ _ _ (by simpa using hfit)];simp
    refine fin hrun (λb2 hb2 hne=>yj w b' _ b2 λe=>hne id _ rfl hT.1 (e ▸ hob)) (by simp[World.setRow]) rfl rfl rfl
     (λb2 hb2=> .inr ⟨id,_,rfl,hT.1,by simp only[Bk,blk,um]at hb2;rw[<-hb2];exact hob⟩)
     ⟨some ⟨b',o,none⟩,cap,by rw[zw,h3l],by rw[h3l];exact hge,h4,h3e,.inr ⟨b',o,_,el',fz,rfl,setRow_heap w b' cs _ el' fz h6,?_,?_,?_⟩⟩ rfl
    ·simp only[uW,hsl];exact h6'
    ·simp only[uW,hsl];exact h7
    ·refine hnew _ _ (λj p hj=>?_) (λj c hj=>?_)
     ·obtain⟨c,c1,c2⟩:=h8 j p hj
      have hjl:j<rows.flatten.length:=(ui.1 hj).1
      refine⟨c,?_,c2⟩
      simp only[tp]
      rw[zW _ _ _ _ ug,uv ua];simpa using c1
     ·have hjl:j<news.length:=(ui.1 hj).1
      simp only[tp]
      rw[zW _ _ _ _ ug,ur ua,uv ua]
      rw[show o+(rows.length*e+j) - (o+rows.length*e+0)=j by omega]
      exact hj
theorem zpo{e:Nat}{row:List PC}{ids:List Nat}{s:S}(hx:okc x s)(hc:cellsOf s=some us)(hus:row.map (toV ids)=us)(hrl:row.length=e)(hm:mentI id ids=false)
 (he:elemSz P t=some (el,e)) (hz:zeroV P el=some z) (he0:0<e) (heb:e<=16777216):
 Snd P ⟨d,.buildSlice t 1 #[(0,x)],ty,ps,af,g⟩ (rq x s) [] [id] (.one (.ar id)) [(id,some (.vw ids e [row]))]:=by
 intro C st M ρ a w hH h1 hT hF hd k Q hk
 have e':=yE hc (hH.evS (zI hx h1))
 obtain⟨ii,hu,hinf,hsz⟩:=zB he
 obtain⟨i',zv,hi',hzv,hzs⟩:=wm hz
 rw[hinf]at hi';simp only[um]at hi';subst hi'
 have hul:us.length=e:=by rw[<-hus,uj,hrl]
 have hcl:(a.eval x).cells.size=e:=by have:=e'.length;simp at this;omega
 have hfill: ∀cur:Array Value,cur.size=e->Instr.fill (λi=>some (i*e,e)) cur [(0,a.eval x)]=some (a.eval x).cells:=λcur hcur=>by
  simp only[Instr.fill]
  have hcond: ¬((a.eval x).cells.size≠e||0*e+(a.eval x).cells.size>cur.size)=true:=by
   simp only[ne_eq,tM,ux];omega
  have hfold:=wW cur (0*e) (a.eval x).cells.toList 0 cur ug
  have hfold':(a.eval x).cells.zipIdx.foldl (λcs (p:Value×Nat)=>cs.setIfInBounds (0*e+p.2) p.1) cur=(setAt cur.toList (0*e) (a.eval x).cells.toList).toArray:=by
   rw[<-oF]
   simpa using hfold
  rw[ur hcond,hfold']
  congr 1
  unfold setAt
  have:cur.toList.drop (0*e+(a.eval x).cells.toList.length)=[]:=by apply tf;simp;omega
  rw[this];simp
 have hrun:(execOp a.eval ⟨d,.buildSlice t 1 #[(0,x)],ty,ps,af,g⟩).run P w= .ok (.value (.slice (some ⟨w.heap.size,0,none⟩) 1 1)) (w.alloc (.cells (a.eval x).cells el)):=by
  have hn: ¬16777216<e:=by omega
  have h0: ¬e=0:=by omega
  have hf:=hfill ((Array.range (1*e)).map λx=>zv.cells[x % zv.cells.size]!) ue
  have hzrun:(zeroValue el).run P w= .ok zv w:=by simp[zeroValue,typeInfo,hinf,hzv]
  simp[execOp,Instr.buildSlice,run_underlying hu,run_sizeOf hinf,hsz,hn,h0,newRow,hzrun]at hf⊢
  simp[hf]
 unfold Oper.wp
 rw[hrun,Oper.upon_value]
 refine hk _ _ M _ (hH.alloc (val:= .slice (some ⟨w.heap.size,0,none⟩) 1 1) (λb hb=>by simp only[Bk,blk,um]at hb;exact hb.symm) hF.1
  ⟨some ⟨w.heap.size,0,none⟩,1,zw _ _ _,ue,ue,by simp[hrl],.inr ⟨w.heap.size,0,(a.eval x).cells,el,(0,0),rfl,zP w _,λi hi=>by simp,ua,λj p hj=>?_⟩⟩ (by simp only[RepS,RepV];exact⟨(zw _ _ _).symm,rfl⟩) hd)
 simp only[tF,List.flatten_nil,qo]at hj
 obtain⟨c,c1,c2⟩:=xz e' (m:=j) (v:=toV ids p) (by rw[<-hus,uE,hj];rfl)
 refine⟨c,by rw[tI];simpa using c1,RepV.agree (yZ ρ id _) _ _ (λi hi=>by subst hi;exact zb6 hm p) c2⟩
end
section
variable {k:List Frm} {n:Nat} {sl:zl} {all:Array Oper}
theorem zqR(T:Ty P){ty:TypeId}(hC:C.low){e:Nat}{ids:List Nat}
 (hx:ev sl x=some (.one (.ar id))) (hy:ev sl y=some (Kk k0 i)) (hT:tg tab id=some (.vw ids e rows)) (he:T.es t=some (el,e)) (h0:0<=i) (hi:i<rows.length) (hm:metL all sl g0=some gs) (hd:Nat.blt d n=true)
 (g:Goal P C (.ops all rest (nx md ⟨some d,gs++(rq x (.one (.ar id))++rq y (Kk k0 i)),[(id,.vw ids e rows)],[],.one (.el id (i.toNat*e)),[]⟩)) k n ((d,.one (.el id (i.toNat*e)))::sl) tab Q):
 Goal P C (.ops all (⟨some d,.indexAddr t x y,ty,ps,af,g0⟩::rest) md) k n sl tab Q:=by
 have e1:=zQ (st:=⟨n,sl,tab⟩) hx
 have e2:=zQ (st:=⟨n,sl,tab⟩) hy
 have:=zp hm (zkr (ids:=ids) (ty:=ty) (ps:=ps) (af:=af) (g:=g0) (d:=some d) e1.1 e2.1 (T.es_ok _ _ he) h0 hi) (n:=n) (tab:=tab)
 exact yk (L:=⟨some d,gs++(rq x (.one (.ar id))++rq y (Kk k0 i)),[(id,.vw ids e rows)],[],.one (.el id (i.toNat*e)),[]⟩) hC this.1 rfl ⟨by rw[zd,zd];exact⟨this.2,e1.2,e2.2⟩,⟨hT,uh⟩,rfl,hd⟩ g
theorem ztY(T:Ty P){ty:TypeId}(hC:C.low){e:Nat}{ids:List Nat}
 (hx:ev sl x=some (.one (.ar id))) (hT:tg tab id=some (.vw ids e rows)) (he:T.es t=some (el,m)) (hm:metL all sl g0=some gs) (hd:Nat.blt d n=true)
 (g:Goal P C (.ops all rest (nx md ⟨some d,gs++rq x (.one (.ar id)),[(id,.vw ids e rows)],[],I rows.length,[]⟩)) k n ((d,I rows.length)::sl) tab Q):
 Goal P C (.ops all (⟨some d,.call ⟨.builtin .len,#[x],#[t]⟩,ty,ps,af,g0⟩::rest) md) k n sl tab Q:=by
 have e1:=zQ (st:=⟨n,sl,tab⟩) hx
 have:=zp hm (zpn (e:=e) (rows:=rows) (ids:=ids) (as':= #[t]) (ty:=ty) (ps:=ps) (af:=af) (g:=g0) (d:=some d) e1.1 rfl (T.es_ok _ _ he)) (n:=n) (tab:=tab)
 exact yk (L:=⟨some d,gs++rq x (.one (.ar id)),[(id,.vw ids e rows)],[],I rows.length,[]⟩) hC this.1 rfl ⟨by rw[zd];exact⟨this.2,e1.2⟩,⟨hT,uh⟩,rfl,hd⟩ g
theorem zey(T:Ty P){ty:TypeId}(hC:C.low){e:Nat}{ids:List Nat}(vs:List V){s:Option Nat}{v:S}
 (hx:ev sl x=some (.one (.el id kk))) (hT:tg tab id=some (.vw ids e rows)) (hsh:T.sh t=some s) (hvs: ∀j v,vs[j]?=some v-> ∃p,rows.flatten[kk+j]?=some p/\toV ids p=v) (hv:ofCells s vs=some v) (hm:metL all sl g0=some gs) (hd:Nat.blt d n=true)
 (g:Goal P C (.ops all rest (nx md ⟨some d,gs++rq x (.one (.el id kk)),[(id,.vw ids e rows)],[],v,[]⟩)) k n ((d,v)::sl) tab Q):
 Goal P C (.ops all (⟨some d,.load t x,ty,ps,af,g0⟩::rest) md) k n sl tab Q:=by
 have e1:=zQ (st:=⟨n,sl,tab⟩) hx
 have:=zp hm (zmM (e:=e) (ty:=ty) (ps:=ps) (af:=af) (g:=g0) (d:=some d) e1.1 (T.sh_ok _ _ hsh) hvs hv) (n:=n) (tab:=tab)
 exact yk (L:=⟨some d,gs++rq x (.one (.el id kk)),[(id,.vw ids e rows)],[],v,[]⟩) hC this.1 rfl ⟨by rw[zd];exact⟨this.2,e1.2⟩,⟨hT,uh⟩,rfl,hd⟩ g
theorem zpp(T:Ty P){ty:TypeId}(hC:C.low){e:Nat}(rows':List (List PC)){ids:List Nat}(ids':List Nat){s:S}{sh:Option Nat}
 (hx:ev sl x=some (.one (.el id kk))) (hy:ev sl y=some s) (hT:tg tab id=some (.vw ids e rows)) (hsh:T.sh t=some sh) (hc:cellsOf s=some us) (hl:us.length=sh.getD 1) (hln:rows'.length=rows.length) (hle: ∀r∈rows',r.length=e) (hb:kk+us.length<=rows.length*e)
 (hn: ∀q p,rows'.flatten[q]?=some p->(kk<=q/\us[q - kk]?=some (toV ids' p))\/((q<kk\/kk+us.length<=q)/\ ∃p0,rows.flatten[q]?=some p0/\toV ids p0=toV ids' p)) (hm:metL all sl g0=some gs)
 (g:Goal P C (.ops all rest (nx md ⟨none,gs++(rq x (.one (.el id kk))++rq y s),[(id,.vw ids e rows)],[],.un,[(id,some (.vw ids' e rows'))]⟩)) k n sl ((id,some (.vw ids' e rows'))::tab) Q):
 Goal P C (.ops all (⟨none,.store t x y,ty,ps,af,g0⟩::rest) md) k n sl tab Q:=by
 have e1:=zQ (st:=⟨n,sl,tab⟩) hx
 have e2:=zQ (st:=⟨n,sl,tab⟩) hy
 have:=zp hm (zks (ty:=ty) (ps:=ps) (af:=af) (g:=g0) (d:=none) e1.1 e2.1 (T.sh_ok _ _ hsh) hc hl hln hle hb hn) (n:=n) (tab:=tab)
 exact yk (L:=⟨none,gs++(rq x (.one (.el id kk))++rq y s),[(id,.vw ids e rows)],[],.un,[(id,some (.vw ids' e rows'))]⟩) hC this.1 rfl ⟨by rw[zd,zd];exact⟨this.2,e1.2,e2.2⟩,⟨hT,uh⟩,rfl,rfl⟩ g
theorem zfO(T:Ty P)(id':Nat){tx ty:TypeId}(hC:C.low){e bytes:Nat}{rows2:List (List PC)}{ids ids2:List Nat}(ids':List Nat)(rows3:List (List PC))
 (hx:ev sl x=some (.one (.ar id))) (hy:ev sl y=some sy) (hT:tg tab id=some (.vw ids e rows)) (hT2:rdT tab rt2=rt2) (hs:zqQ P e tx sy rt2 rows2 ids2) (hm1:mentI id' ids'=false) (h3l:rows3.length=rows.length+rows2.length) (h3e: ∀r∈rows3,r.length=e)
 (h31: ∀(j:Nat) (x':PC),j<rows.length*e->rows3.flatten[j]?=some x'-> ∃x,rows.flatten[j]?=some x/\toV ids x=toV ids' x') (h32: ∀(j:Nat) (x':PC),rows3.flatten[rows.length*e+j]?=some x'-> ∃x,rows2.flatten[j]?=some x/\toV ids2 x=toV ids' x')
 (he:T.es t=some (el,e)) (hz:T.zs el=some z) (hzl:Nat.beq z.length e=true) (hby:(P.info? el).map (·.bytes)=some bytes)
 (hb:(rows.length+rows2.length)*bytes<=140737488355328) (hlen:rows.length+rows2.length<=9223372036854775807) (hm:metL all sl g0=some gs) (hd:Nat.blt d n=true) (hf:(Nat.ble 100 id'&&freshB id' ⟨n,sl,tab⟩)=true)
 (g:Goal P C (.ops all rest (nx md ⟨some d,gs++(rq x (.one (.ar id))++rq y sy),(id,.vw ids e rows)::rt2,[id'],.one (.ar id'),[(id',some (.vw ids' e rows3)),(id,none)]⟩)) k n ((d,.one (.ar id'))::sl) ([(id',some (.vw ids' e rows3)),(id,none)]++tab) Q):
 Goal P C (.ops all (⟨some d,.call ⟨.builtin .append,#[x,y],#[t,tx]⟩,ty,ps,af,g0⟩::rest) md) k n sl tab Q:=by
 have e1:=zQ (st:=⟨n,sl,tab⟩) hx
 have e2:=zQ (st:=⟨n,sl,tab⟩) hy
 have:=zp hm (zhC (P:=P) (ty:=ty) (ps:=ps) (af:=af) (g:=g0) (d:=some d) (id':=id') e1.1 e2.1 hs hm1 h3l h3e h31 h32 (T.es_ok _ _ he) (T.zs_ok _ _ hz) (u0 hzl) hby hb hlen) (n:=n) (tab:=tab)
 exact yk (L:=⟨some d,gs++(rq x (.one (.ar id))++rq y sy),(id,.vw ids e rows)::rt2,[id'],.one (.ar id'),[(id',some (.vw ids' e rows3)),(id,none)]⟩) hC this.1 rfl
  ⟨by rw[zd,zd];exact⟨this.2,e1.2,e2.2⟩,⟨hT,zcT hT2⟩,zcf hf,hd⟩ g
theorem zfP(T:Ty P){ty:TypeId}(hC:C.low){e:Nat}(row:List PC)(ids:List Nat){s:S}
 (hx:ev sl x=some s) (hc:cellsOf s=some us) (hus:row.map (toV ids)=us) (hrl:row.length=e) (hmx:mentI (1000+d) ids=false) (he:T.es t=some (el,e)) (hz:T.zs el=some z) (he0:Nat.blt 0 e=true) (heb:Nat.ble e 16777216=true)
 (hm:metL all sl g0=some gs) (hd:Nat.blt d n=true) (hf:(Nat.ble 100 (1000+d)&&freshB (1000+d) ⟨n,sl,tab⟩)=true)
 (g:Goal P C (.ops all rest (nx md ⟨some d,gs++rq x s,[],[1000+d],.one (.ar (1000+d)),[(1000+d,some (.vw ids e [row]))]⟩)) k n ((d,.one (.ar (1000+d)))::sl) ((1000+d,some (.vw ids e [row]))::tab) Q):
 Goal P C (.ops all (⟨some d,.buildSlice t 1 #[(0,x)],ty,ps,af,g0⟩::rest) md) k n sl tab Q:=by
 have e1:=zQ (st:=⟨n,sl,tab⟩) hx
 have:=zp hm (zpo (P:=P) (ty:=ty) (ps:=ps) (af:=af) (g:=g0) (d:=some d) (id:=1000+d) e1.1 hc hus hrl hmx (T.es_ok _ _ he) (T.zs_ok _ _ hz) (by simpa [o8]using he0) (tz heb)) (n:=n) (tab:=tab)
 exact yk (L:=⟨some d,gs++rq x s,[],[1000+d],.one (.ar (1000+d)),[(1000+d,some (.vw ids e [row]))]⟩) hC this.1 rfl ⟨by rw[zd];exact⟨this.2,e1.2⟩,trivial,zcf hf,hd⟩ g
theorem zH.ztZ{e:Nat}(ids:List Nat){rows:List (List PV)}(h:zH M ρ w id (.arr e rows)):zH M ρ w id (.vw ids e (rows.map (·.map PC.p))):=by
 obtain⟨a,cap,h1,h2,h3,hl,h4⟩:=h.toV
 have hfl:(rows.map (·.map PC.p)).flatten=rows.flatten.map PC.p:=by rw[List.map_flatten]
 refine⟨a,cap,by rw[uj];exact h1,by rw[uj];exact h2,h3,λr hr=>?_,?_⟩
 ·obtain⟨r0,h0,rfl⟩:=ql.1 hr
  rw[uj];exact hl r0 h0
 ·rcases h4 with h4|⟨b,o,cs,el,fz,h5,h6,h6',h7,h8⟩
  ·exact .inl h4
  ·refine .inr ⟨b,o,cs,el,fz,h5,h6,h6',h7,λj p hj=>?_⟩
   rw[hfl,uE,uH]at hj
   obtain⟨p,hp,rfl⟩:=hj
   exact h8 j p hp
theorem zt0(hc:lst cur=true)(id:Nat)(ids:List Nat){e:Nat}{rows:List (List PV)}(hid:tg tab id=some (.arr e rows))(hr:rows.map (·.map PC.p)=rows')(g:Goal P C cur k n sl ((id,some (.vw ids e rows'))::tab) Q):Goal P C cur k n sl tab Q:=by
 subst hr
 exact zt1 hc hid (λ_ _ _ h=>h.ztZ ids) g
theorem zmN{e:Nat}{ids ids2 ids':List Nat}{rows2 rows2':List (List PC)}(hl: ∀r∈rows,r.length=e)(hl2: ∀r∈rows2',r.length=e)(hn:rows2'.length=rows2.length)(hi: ∀x∈rows.flatten,toV ids x=toV ids' x)
 (h2: ∀(j:Nat) (x':PC),rows2'.flatten[j]?=some x'-> ∃x,rows2.flatten[j]?=some x/\toV ids2 x=toV ids' x'):
 (rows++rows2').length=rows.length+rows2.length/\(∀r∈rows++rows2',r.length=e)/\(∀(j:Nat) (x':PC),j<rows.length*e->(rows++rows2').flatten[j]?=some x'-> ∃x,rows.flatten[j]?=some x/\toV ids x=toV ids' x')/\
   ∀(j:Nat) (x':PC),(rows++rows2').flatten[rows.length*e+j]?=some x'-> ∃x,rows2.flatten[j]?=some x/\toV ids2 x=toV ids' x':=by
 have hf:=jT hl
 refine⟨by rw[uB,hn],λr hr=>(u7.1 hr).elim (hl r) (hl2 r),λj x' hj hx=>?_,λj x' hx=>?_⟩
 ·rw[tY,uP ua]at hx
  exact⟨x',hx,hi x' (List.mem_of_getElem? hx)⟩
 ·rw[tY,uO ua,hf,oJ]at hx
  exact h2 j x' hx
end
variable {B:RL}{f:FuncId}{res:S}{ts:Array TypeId}{v':V}
section
open Classical in
noncomputable def lentN(M:Mem)(ρ:Nat->Value)(w:World)(B:RL):Mem:=λb o=>match M b o with
 |some v=>some v
 |none=>if ∃i r,(i,r)∈B/\Bk (ρ i) b then w.cell? ⟨b,o,none⟩else none
def zcU(M:Mem)(ρ:Nat->Value)(w:World)(B:RL):Prop:=Imm M w/\ ∀i r,(i,r)∈B->zH M ρ w i r
theorem vm:MLe M (lentN M ρ w B):=λb o v hv=>by simp only[lentN,hv]
theorem zfQ(h:Imm M w):Imm (lentN M ρ w B) w:=λb o v hv=>by
 simp only[lentN]at hv
 split at hv
 ·rename_i u hu;simp only[um]at hv;subst hv;exact h b o u hu
 ·split at hv
  ·exact hv
  ·cases hv
theorem zfR{b o:Nat}{v:Value}(h:lentN M ρ w B b o=some v):M b o=some v\/ ∃i r,(i,r)∈B/\Bk (ρ i) b:=by
 simp only[lentN]at h
 split at h
 ·rename_i u hu;simp only[um]at h;subst h;exact .inl hu
 ·split at h
  ·rename_i hb;exact .inr hb
  ·cases h
theorem zbl(hI:Imm M w){b:Nat}(hb: ∃i r,(i,r)∈B/\Bk (ρ i) b){cs:Array Value}{fz:Nat×Nat}(hh:w.heap[b]?=some (.cells cs el fz))(i:Nat)(c:Value)(hc:cs[i]?=some c):lentN M ρ w B b i=some c:=by
 have hc':w.cell? ⟨b,i,none⟩=some c:=by simp[World.cell?,hh,hc]
 simp only[lentN]
 cases hm0:M b i with
 |none=>simp only;rw[uv hb];exact hc'
 |some u=>have:=hI b i u hm0;rw[hc']at this;exact this.symm
theorem ziU(hI:Imm M w){v:Value}{e:Nat}(h:wO M w v e rs)(hb: ∀b,blk v=some b-> ∃i r,(i,r)∈B/\Bk (ρ i) b):RepPV (lentN M ρ w B) (.sl e rs) v:=by
 obtain⟨a0,cap,h1,h2,h3,h4⟩:=h
 simp only[RepPV]
 refine⟨a0,cap,h1,h2,qn h2 h3,?_⟩
 rcases h4 with⟨rfl,hc⟩|⟨b,o,cs,el,fz,h5,h6,h6',h7,h8⟩
 ·exact .inl (uS.1 ua)
 ·exact .inr ⟨b,o,h5,RowsIn.mono vm (λi c hc=>zbl hI (hb b (by rw[h1,h5];rfl)) h6 i c hc) _ _ h8⟩
def LnV(B:RL)(v v':V):Prop:= ∀M ρ w u,zcU M ρ w B->RepV M ρ v u->RepV (lentN M ρ w B) ρ v' u
def zos(B:RL)(v v':List V):Prop:= ∀M ρ w u,zcU M ρ w B->RepVs M ρ v u->RepVs (lentN M ρ w B) ρ v' u
def LnS(B:RL)(v v':S):Prop:= ∀M ρ w u,zcU M ρ w B->RepS M ρ v u->RepS (lentN M ρ w B) ρ v' u
def zac(B:RL)(v v':List S):Prop:= ∀M ρ w u,zcU M ρ w B->RepSs M ρ v u->RepSs (lentN M ρ w B) ρ v' u
theorem LnV.le{v:V}(h:LeV v v'):LnV B v v':=λ_ _ _ _ _ hr=>h _ _ _ (RepV.mono vm _ _ hr)
theorem LnV.refl(v:V):LnV B v v:= .le (.refl v)
theorem LnS.le{v v':S}(h:LeS v v'):LnS B v v':=λ_ _ _ _ _ hr=>h _ _ _ (RepS.mono vm _ _ hr)
theorem LnS.refl(v:S):LnS B v v:= .le (.refl v)
theorem zos.nil:zos B [] []:=λ_ _ _ x _ hr=>by cases x<;>simp only[RepVs]at hr⊢
theorem zos.cons{v v':V}{vs vs':List V}(h:LnV B v v')(hs:zos B vs vs'):zos B (v::vs) (v'::vs'):=λM ρ w x hf hr=>by
 cases x with
 |nil=>simp only[RepVs]at hr
 |cons c cs=>simp only[RepVs]at hr ⊢; exact⟨h _ _ _ _ hf hr.1,hs _ _ _ _ hf hr.2⟩
theorem zos.refl: ∀v:List V,zos B v v
 | []=> .nil
 |v::vs=> .cons (.refl v) (zos.refl vs)
theorem LnS.one{v v':V}(h:LnV B v v'):LnS B (.one v) (.one v'):=λM ρ w x hf hr=>by simp only[RepS]at hr ⊢; exact h _ _ _ _ hf hr
theorem LnS.agg{v v':List V}(h:zos B v v'):LnS B (.agg v) (.agg v'):=λM ρ w x hf hr=>by
 simp only[RepS]at hr ⊢; obtain⟨cs,h1,h2⟩:=hr;exact⟨cs,h1,h _ _ _ _ hf h2⟩
theorem zac.nil:zac B [] []:=λ_ _ _ x _ hr=>by cases x<;>simp only[RepSs]at hr⊢
theorem zac.cons{v v':S}{vs vs':List S}(h:LnS B v v')(hs:zac B vs vs'):zac B (v::vs) (v'::vs'):=λM ρ w x hf hr=>by
 cases x with
 |nil=>simp only[RepSs]at hr
 |cons c cs=>simp only[RepSs]at hr ⊢; exact⟨h _ _ _ _ hf hr.1,hs _ _ _ _ hf hr.2⟩
theorem zac.refl: ∀v:List S,zac B v v
 | []=> .nil
 |v::vs=> .cons (.refl v) (zac.refl vs)
theorem LnV.ar{id e:Nat}{rows:List (List PV)}(hm:(id,.arr e rows)∈B):LnV B (.ar id) (.p (.sl e rows)):=λM ρ w u hH hr=>by
 simp only[RepV]at hr⊢
 have hA:wO M w (ρ id) e rows:=hH.2 id _ hm
 rw[hr.1]
 obtain⟨a,cap,h1,_⟩:=hA
 have hA:wO M w (ρ id) e rows:=hH.2 id _ hm
 exact ziU hH.1 hA λb hb=>⟨id,_,hm,by rw[h1]at hb ⊢; exact hb⟩
theorem LnV.nv{id e q:Nat}{L:List (List (List PV))}{rs:List (List PV)}(hm:(id,.bag e L)∈B)(hq:L[q]?=some rs):LnV B (.nv id q) (.p (.sl e rs)):=λM ρ w u hH hr=>by
 simp only[RepV]at hr⊢
 obtain⟨xs,f1,f2,_⟩:=hr
 exact ziU hH.1 (jH (hH.2 id _ hm) hq f1 f2) λb hb=>⟨id,_,hm,by rw[f1];exact zfL f2 hb⟩
theorem LnV.vw{id e:Nat}{ids:List Nat}{rows:List (List PC)}{rows':List (List PV)}(hm:(id,.vw ids e rows)∈B)(hl:rows'.length=rows.length)(hle: ∀r∈rows',r.length=e)
 (hc: ∀(j:Nat) (x':PV),rows'.flatten[j]?=some x'-> ∃x,rows.flatten[j]?=some x/\LnV B (toV ids x) (.p x')):LnV B (.ar id) (.p (.sl e rows')):=λM ρ w u hH hr=>by
 simp only[RepV,RepPV]at hr⊢
 obtain⟨a,cap,h1,h2,h3,_,h4⟩:=hH.2 id _ hm
 refine⟨a,cap,by rw[hl];exact hr.1.trans h1,ua,ua,?_⟩
 rcases h4 with⟨rfl,hcap⟩|⟨b,o,cs,el,fz,h5,h6,h6',h7,h8⟩
 ·exact .inl (uS.1 ua)
 ·refine .inr ⟨b,o,h5,?_⟩
  have hb: ∃i r,(i,r)∈B/\Bk (ρ i) b:=⟨id,_,hm,by rw[h1,h5];rfl⟩
  obtain⟨ds,k9,k10⟩:=wi (M:=lentN M ρ w B) (ρ:=ρ) (vs:=rows'.flatten.map V.p) (g:=λj=>cs[o+j]?) λj v hj=>by
   rw[uE,uH]at hj
   obtain⟨x',hx',rfl⟩:=hj
   obtain⟨x,hx,hv⟩:=hc j x' hx'
   obtain⟨c,c1,c2⟩:=h8 j x hx
   exact⟨c,c1,hv _ _ _ _ hH c2⟩
  exact RowsIn.mono (MLe.refl _) (λi c hcc=>zbl hH.1 hb h6 i c hcc) _ _ (RowsIn.yx (ρ:=ρ) hle k9 λj c hj=>k10 j c hj)
section
variable {d:Option Nat} {ty:TypeId}
theorem zr2{args:List S}(h:zk P f args [] res [])(B:RL){l:List Operand}{first caps:List V}{ss:List S}
 (hx:okc x (.one (.cl f first caps))) (hl:zjH l ss) (hle:zac B (ones first++ss++ones caps) args) (hf:flatS res=true):
 Snd P ⟨d,.call ⟨.value x,l.toArray,ts⟩,ty,ps,af,g⟩ (rq x (.one (.cl f first caps))++rqs l ss) B [] res []:=by
 intro C st M ρ a w hH h1 hT hF hd k Q hk
 rw[zd]at h1
 have e1:=hH.evS (zI hx h1.1)
 have e2:=hH.zlj (jv hl h1.2)
 simp only[RepS,RepV]at e1
 obtain⟨xs,ys,e3,e4,e5⟩:=e1
 have hall:zcU M ρ w B:=⟨hH.run.imm,λi r hm=>hH.yh.res i r (zbm hT hm)⟩
 have e6:RepSs (lentN M ρ w B) ρ args (xs++l.map a.eval++ys):=hle _ _ _ _ hall (y8 (y8 (wc e4) e2) (wc e5))
 have e7:ji (lentN M ρ w B) ρ w (tb []):=⟨λ_ _ h=>(by cases h),λ_ _ _ _ _ h=>(by cases h),λ_ _ _ h=>(by cases h)⟩
 unfold Oper.wp
 rw[zez h.1 e3,Oper.upon_enter]
 refine Calls.mono (h.2 (lentN M ρ w B) ρ w _ e6 e7 (zfQ hH.run.imm) (hH.gok.mono vm)) λe w' ⟨v,M',ρ',he,hr⟩=>?_
 subst he
 have hH':=hH.grow (w':=w') (λb hb=>hr.fram b hb (λ⟨i,r,h,_⟩=>by cases h)) hr.size hr.os hr.tape hr.output
 exact hk _ _ _ _ (hH'.zcV hd (zfS hf hr.rep))
end
section
variable {k:List Frm} {n:Nat} {sl:zl} {all:Array Oper}
theorem wF{l:List Operand}{ty:TypeId}(hC:C.low){args ss:List S}{first caps:List V}
 (h:zk P f args [] res []) (B:RL) (hx:ev sl x=some (.one (.cl f first caps))) (hl:evs sl l=some ss) (ha:zac B (ones first++ss++ones caps) args) (hc:flatS res=true) (hm:metL all sl g0=some gs) (hB:rdT tab B=B) (hd:Nat.blt d n=true)
 (g:Goal P C (.ops all rest (nx md ⟨some d,gs++(rq x (.one (.cl f first caps))++rqs l ss),B,[],res,[]⟩)) k n ((d,res)::sl) tab Q):
 Goal P C (.ops all (⟨some d,.call ⟨.value x,l.toArray,ts⟩,ty,ps,af,g0⟩::rest) md) k n sl tab Q:=by
 have e1:=zQ (st:=⟨n,sl,tab⟩) hx
 have e2:=jw (st:=⟨n,sl,tab⟩) hl
 have:=zp hm (zr2 (ty:=ty) (ps:=ps) (af:=af) (g:=g0) (d:=some d) (ts:=ts) h B e1.1 e2.1 ha hc) (n:=n) (tab:=tab)
 exact yk (L:=⟨some d,gs++(rq x (.one (.cl f first caps))++rqs l ss),B,[],res,[]⟩) hC this.1 rfl ⟨by rw[zd,zd];exact⟨this.2,e1.2,e2.2⟩,zcT hB,rfl,hd⟩ g
def LnR(B:RL)(r r':Res):Prop:= ∀M ρ w i,zcU M ρ w B->zH M ρ w i r->zH (lentN M ρ w B) ρ w i r'
theorem LnR.box{B:RL}{vs vs':List V}(h:zos B vs vs'):LnR B (.box vs) (.box vs'):=λ_ _ _ _ hr ⟨b,cs,el,e1,e2,e3⟩=>⟨b,cs,el,e1,e2,h _ _ _ _ hr e3⟩
def upN(B:RL)(tab:Tab):List (Nat×Res)->Prop
 | []=>True
 |(i,r')::l=>(∃r,tg tab i=some r/\(hasB i B.ids=false/\LnR B r r'))/\upN B tab l
theorem zqS{B:RL}{tab b:Tab}: ∀ {ups:List (Nat×Res)},upN B tab ups-> ∀ {k:Nat} {r:Res},tg (zld ups++b) k=some r->
 tg b k=some r\/ ∃r0,tg tab k=some r0/\k∉B.ids/\LnR B r0 r
 | [],_,k,r,h=> .inl h
 |(t,s')::l,hu,k,r,h=>by
  simp only[zld,ta,zX]at h
  split at h
  ·rename_i e;subst e;simp only[um]at h;subst h
   obtain⟨r0,h1,h2,h3⟩:=hu.1
   have n1:t∉B.ids:=λhm=>by have:=zb4 hm;rw[h2]at this;cases this
   exact .inr ⟨r0,h1,n1,h3⟩
  ·exact zqS hu.2 h
theorem zcW(hc:lst cur=true)(B:RL)(hBT:rdT tab B=B)(ups:zl)(hS:upS (LnS B) sl ups)(bs:List (Nat×Res))(hB:upN B tab bs)
 (g:Goal P C cur k n (ups++sl) (zld bs++(ze0 B.ids++tab)) Q):Goal P C cur k n sl tab Q:=by
 refine zdF hc (λ{M ρ a w} h=>?_) g
 have hTB:=zcT (n:=n) (sl:=sl) hBT
 have hall:zcU M ρ w B:=⟨h.run.imm,λi r hm=>h.yh.res i r (zbm hTB hm)⟩
 have htab: ∀i r,tg (zld bs++(ze0 B.ids++tab)) i=some r->i∉B.ids/\ ∃r0,tg tab i=some r0/\(r=r0\/LnR B r0 r):=λi r hi=>by
  rcases zqS hB hi with h1|⟨r0,h1,h2,h3⟩
  ·have:=zhB h1
   exact⟨this.1,r,this.2,.inl rfl⟩
  ·exact⟨h2,r0,h1,.inr h3⟩
 refine⟨lentN M ρ w B,ρ,h.dfr,h.sz,λk s hk=>?_,⟨λi r hi=>?_,λi j ri rj b hi hj hne hbi hbj=>?_,λi r b hi hb o=>?_⟩,λi r b hi hb=>?_,
  ⟨zfQ h.run.imm,h.run.fram,h.run.size,h.run.base.trans vm,λb o u hu=>?_,h.run.os,h.run.tape,h.run.output⟩,h.keep⟩
 ·rcases zfN hS hk with h1|⟨s0,h1,h2⟩
  ·exact RepS.mono vm _ _ (h.slots k s h1)
  ·exact h2 _ _ _ _ hall (h.slots k s0 h1)
 ·obtain⟨_,r0,h1,h2⟩:=htab i r hi
  rcases h2 with rfl|h2
  ·exact(h.yh.res i r h1).mono vm
  ·exact h2 _ _ _ _ hall (h.yh.res i r0 h1)
 ·obtain⟨_,r0,h1,_⟩:=htab i ri hi
  obtain⟨_,s0,h2,_⟩:=htab j rj hj
  exact h.yh.dis i j r0 s0 b h1 h2 hne hbi hbj
 ·obtain⟨i1,r0,h1,_⟩:=htab i r hi
  cases hm:lentN M ρ w B b o with
  |none=>rfl
  |some u=>
   rcases zfR hm with h3|⟨j,s,hj,hbj⟩
   ·rw[h.yh.own i r0 b h1 hb o]at h3;cases h3
   ·exact(h.yh.dis i j r0 s b h1 (zbm hTB hj) (λe=>i1 (e ▸ xI hj)) hb hbj).elim
 ·obtain⟨_,r0,h1,_⟩:=htab i r hi
  exact h.ownf i r0 b h1 hb
 ·rcases zfR hu with h3|⟨j,s,hj,hbj⟩
  ·exact h.run.newM b o u h3
  ·exact .inr (h.ownf j s b (zbm hTB hj) hbj)
end
end
section
variable {d:Option Nat} {ty:TypeId} {z:Operand}
theorem zqT{e:Nat}{ids:List Nat}{l h:Nat}{a:Option Addr}{cap:Nat}(hr:zH M ρ w id (.vw ids e rows))(hv:ρ id= .slice a rows.length cap)(h1:l<=h)(h2:h<=rows.length):
 RepV M ρ (.sv id (l*e) (h - l)) (sliced a l h cap e):=by
 obtain⟨a',cap',e1,e2,e3,_,e4⟩:=hr
 rw[hv]at e1
 simp only[Value.slice.injEq]at e1
 obtain⟨rfl,_,rfl⟩:=e1
 simp only[RepV]
 by_cases hc:cap=l
 ·left
  exact⟨ua,a,cap - l,by simp only[sliced,uv hc];congr 1;omega⟩
 ·rcases e4 with⟨rfl,rfl⟩|⟨b,o,cs,el,fz,rfl,_⟩
  ·omega
  ·right
   exact⟨b,o,_,cap,cap - l,hv,by simp[sliced,ur hc,Addr.add],ua,ua⟩
theorem zt2{e:Nat}{ids:List Nat}{j:Int}{k k':IntKind}(hx:okc x (.one (.ar id)))(hy:okc y (Kk k i))(hz:okc z (Kk k' j))(he:elemSz P t=some (el,e))(h0:0<=i)(h1:i<=j)(h2:j<=rows.length):
 Snd P ⟨d,.slice t x (some y) (some z) none,ty,ps,af,g⟩ (rq x (.one (.ar id))++rq y (Kk k i)++rq z (Kk k' j)) [(id,.vw ids e rows)] [] (.one (.sv id (i.toNat*e) (j.toNat - i.toNat))) []:=
 zo λC st M ρ b w hH hs hT=>by
  rw[zd,zd]at hs
  have e1:=hH.evS (zI hx hs.1.1)
  have e2:=hH.k (zI hy hs.1.2)
  have e3:=hH.k (zI hz hs.2)
  simp only[RepS,RepV]at e1
  have hR:=hH.yh.res id _ hT.1
  obtain⟨a,cap,f1,f2,f3,_⟩:=hH.yh.res id _ hT.1
  obtain⟨hu,hsz⟩:=zcj he
  refine⟨sliced a i.toNat j.toNat cap e,?_,by simp only[RepS];exact zqT hR f1 ua ua⟩
  simp only[execOp,e1.1,f1,e2,e3,qP,qh,Sem.run_bind,run_sliceAt_slice w t _ _ _ _ hu,run_slice_lh w t a rows.length cap hu k k' i j h0 h1 ua,hsz,Result.andThen_ok,Sem.run_pure]
theorem zpq{v:Value}(h:RepV M ρ (.sv id kk m) v): ∃a c,v= .slice a m c:=by
 simp only[RepV]at h
 rcases h with⟨rfl,a,c,h⟩|⟨b,o,N,cap,c,_,h,_⟩
 ·exact⟨a,c,h⟩
 ·exact⟨_,c,h⟩
theorem zpr{n:Nat}(hx:okc x (.one (.sv id kk m)))(ha:as'[0]?=some t)(h:elemSz P t=some (el,n)):
 Snd P ⟨d,.call ⟨.builtin .len,#[x],as'⟩,ty,ps,af,g⟩ (rq x (.one (.sv id kk m))) [] [] (I m) []:=
 zo λC st M ρ a w hH h1 ht=>by
  have e':=hH.evS (zI hx h1)
  simp only[RepS]at e'
  obtain⟨a',c,h3⟩:=zpq e'
  obtain⟨ii,hu,hinf,hsz⟩:=zB h
  exact⟨.int .i64 m,by simp[execOp,resolve,invoke,builtin,Builtin.len_,ha,h3,run_underlying hu,goInt],zlc _ _⟩
theorem zkt{e:Nat}{k:IntKind}(hx:okc x (.one (.sv id kk m)))(hy:okc y (Kk k i))(h:elemSz P t=some (el,e))(h0:0<=i)(hi:i<m):
 Snd P ⟨d,.indexAddr t x y,ty,ps,af,g⟩ (rq x (.one (.sv id kk m))++rq y (Kk k i)) [] [] (.one (.el id (kk+i.toNat*e))) []:=
 zo λC st M ρ a w hH h1 ht=>by
  rw[zd]at h1
  have e1:=hH.evS (zI hx h1.1)
  have e2:=hH.k (zI hy h1.2)
  simp only[RepS,RepV]at e1
  obtain⟨ii,hu,hinf,hsz⟩:=zB h
  rcases e1 with⟨rfl,_⟩|⟨b,o,N,cap,c,f1,f2,_⟩
  ·omega
  ·refine⟨.pointer (some ⟨b,o+kk+i.toNat*e,none⟩),?_,by simp only[RepS,RepV];exact⟨b,o,N,cap,f1,by rw[th]⟩⟩
   simp only[execOp,f2,e2,Instr.indexAt,asIntOf,Sem.run_bind,Sem.run_pure,Result.andThen_ok,run_underlying hu]
   rw[uv ⟨h0,hi⟩]
   simp only[Sem.run_bind,Sem.run_pure,Result.andThen_ok,run_sizeOf hinf,yq,hsz]
theorem zqQ.sv{e:Nat}{tx el:TypeId}{id l m:Nat}{ids:List Nat}{rows:List (List PC)}(h:elemSz P tx=some (el,e))(hl:l+m<=rows.length):zqQ P e tx (.one (.sv id (l*e) m)) [(id,.vw ids e rows)] ((rows.drop l).take m) ids:=by
 intro C st M ρ a w v hH hr ht
 obtain⟨_,hu,_,_⟩:=zB h
 have hlen:((rows.drop l).take m).length=m:=by rw[uz,uQ];omega
 obtain⟨b,cap,h1,h2,h3,hle,h4⟩:=hH.yh.res id _ ht.1
 have hle': ∀r∈(rows.drop l).take m,r.length=e:=λr hr=>hle r (tE (u6 hr))
 simp only[RepS,RepV]at hr
 rw[hlen]
 rcases hr with⟨rfl,a0,c0,rfl⟩|⟨b0,o0,N,cap0,c0,f1,rfl,f3,f4⟩
 ·refine⟨[],?_,ue,ue⟩
  cases a0 with
  |none=>exact Src.ofNil w hu c0
  |some ad=>exact Src.ofSlice w hu ad 0 c0 [] ue ue ue
 ·rcases h4 with⟨rfl,hc⟩|⟨b',o,cs,el',fz,rfl,h6,_,_,h8⟩
  ·rw[h1]at f1;simp at f1
  ·rw[h1]at f1
   simp only[Value.slice.injEq,um,Addr.mk.injEq]at f1
   obtain⟨⟨rfl,rfl,_⟩,_,rfl⟩:=f1
   have hfl:=jT hle'
   rw[hlen]at hfl
   have hat: ∀j x,((rows.drop l).take m).flatten[j]?=some x->rows.flatten[l*e+j]?=some x:=λj x hj=>by
    obtain⟨i,c,row,g1,g2,g3,g4⟩:=zps hle' hj
    have him:i<m:=by have:=(ui.1 g3).1;omega
    rw[uZ,uv him,uD]at g3
    have:=zhD hle (i:=l+i) (c:=c) g2
    rw[g3,qk]at this
    rw[g1,<-th,this];exact g4
   obtain⟨us,h9,h10⟩:=wi (M:=M) (ρ:=ρ) (vs:=((rows.drop l).take m).flatten.map (toV ids)) (g:=λj=>cs[o+(l*e+j)]?) λj u hj=>by
    rw[uE,uH]at hj
    obtain⟨p,hp,rfl⟩:=hj
    exact h8 _ p (hat j p hp)
   refine⟨us,Src.ofSlice w hu _ _ c0 us (by rw[h9.length,uj,hfl]) (λj u hj=>by rw[yq];have:=h10 j u hj;simp only[<-th]at this;simp[World.cell?,h6,this]) h9.one,λj p hj=>?_,hle'⟩
   exact xz h9 (m:=j) (by rw[uE,hj];rfl)
end
section
variable {k:List Frm} {n:Nat} {sl:zl} {all:Array Oper}
theorem zqU(T:Ty P){z:Operand}{ty:TypeId}(hC:C.low){e:Nat}{ids:List Nat}{j:Int}{k1:IntKind}
 (hx:ev sl x=some (.one (.ar id))) (hy:ev sl y=some (Kk k0 i)) (hz:ev sl z=some (Kk k1 j)) (hT:tg tab id=some (.vw ids e rows)) (he:T.es t=some (el,e)) (h0:0<=i) (h1:i<=j) (h2:j<=rows.length) (hm:metL all sl g0=some gs) (hd:Nat.blt d n=true)
 (g:Goal P C (.ops all rest (nx md ⟨some d,gs++(rq x (.one (.ar id))++rq y (Kk k0 i)++rq z (Kk k1 j)),[(id,.vw ids e rows)],[],.one (.sv id (i.toNat*e) (j.toNat - i.toNat)),[]⟩)) k n ((d,.one (.sv id (i.toNat*e) (j.toNat - i.toNat)))::sl) tab Q):
 Goal P C (.ops all (⟨some d,.slice t x (some y) (some z) none,ty,ps,af,g0⟩::rest) md) k n sl tab Q:=by
 have e1:=zQ (st:=⟨n,sl,tab⟩) hx
 have e2:=zQ (st:=⟨n,sl,tab⟩) hy
 have e3:=zQ (st:=⟨n,sl,tab⟩) hz
 have:=zp hm (zt2 (P:=P) (ids:=ids) (rows:=rows) (ty:=ty) (ps:=ps) (af:=af) (g:=g0) (d:=some d) (t:=t) e1.1 e2.1 e3.1 (T.es_ok _ _ he) h0 h1 h2) (n:=n) (tab:=tab)
 exact yk (L:=⟨some d,gs++(rq x (.one (.ar id))++rq y (Kk k0 i)++rq z (Kk k1 j)),[(id,.vw ids e rows)],[],.one (.sv id (i.toNat*e) (j.toNat - i.toNat)),[]⟩) hC this.1 rfl ⟨by rw[zd,zd,zd];exact⟨this.2,⟨e1.2,e2.2⟩,e3.2⟩,⟨hT,uh⟩,rfl,hd⟩ g
theorem zqV(T:Ty P){ty:TypeId}(hC:C.low){sz:Nat}
 (hx:ev sl x=some (.one (.sv id kk m))) (he:T.es t=some (el,sz)) (hm:metL all sl g0=some gs) (hd:Nat.blt d n=true)
 (g:Goal P C (.ops all rest (nx md ⟨some d,gs++rq x (.one (.sv id kk m)),[],[],I m,[]⟩)) k n ((d,I m)::sl) tab Q):
 Goal P C (.ops all (⟨some d,.call ⟨.builtin .len,#[x],#[t]⟩,ty,ps,af,g0⟩::rest) md) k n sl tab Q:=by
 have e1:=zQ (st:=⟨n,sl,tab⟩) hx
 have:=zp hm (zpr (as':= #[t]) (ty:=ty) (ps:=ps) (af:=af) (g:=g0) (d:=some d) e1.1 rfl (T.es_ok _ _ he)) (n:=n) (tab:=tab)
 exact yk (L:=⟨some d,gs++rq x (.one (.sv id kk m)),[],[],I m,[]⟩) hC this.1 rfl ⟨by rw[zd];exact⟨this.2,e1.2⟩,trivial,rfl,hd⟩ g
theorem zmO(T:Ty P){ty:TypeId}(hC:C.low){e:Nat}
 (hx:ev sl x=some (.one (.sv id kk m))) (hy:ev sl y=some (Kk k0 i)) (he:T.es t=some (el,e)) (h0:0<=i) (hi:i<m) (hm:metL all sl g0=some gs) (hd:Nat.blt d n=true)
 (g:Goal P C (.ops all rest (nx md ⟨some d,gs++(rq x (.one (.sv id kk m))++rq y (Kk k0 i)),[],[],.one (.el id (kk+i.toNat*e)),[]⟩)) k n ((d,.one (.el id (kk+i.toNat*e)))::sl) tab Q):
 Goal P C (.ops all (⟨some d,.indexAddr t x y,ty,ps,af,g0⟩::rest) md) k n sl tab Q:=by
 have e1:=zQ (st:=⟨n,sl,tab⟩) hx
 have e2:=zQ (st:=⟨n,sl,tab⟩) hy
 have:=zp hm (zkt (ty:=ty) (ps:=ps) (af:=af) (g:=g0) (d:=some d) e1.1 e2.1 (T.es_ok _ _ he) h0 hi) (n:=n) (tab:=tab)
 exact yk (L:=⟨some d,gs++(rq x (.one (.sv id kk m))++rq y (Kk k0 i)),[],[],.one (.el id (kk+i.toNat*e)),[]⟩) hC this.1 rfl ⟨by rw[zd,zd];exact⟨this.2,e1.2,e2.2⟩,trivial,rfl,hd⟩ g
end
def OpF(id id' id2 j:Nat)(ρ:Nat->Value):Prop:= ∃(cs:List Value) (v:Value),ρ id= .tuple cs.toArray/\cs[j]?=some v/\ρ id2=v/\ρ id'= .tuple (cs.set j (.slice none 0 0)).toArray
theorem OpF.nv{id id' id2 j i:Nat}(h:i≠j):RwV (OpF id id' id2 j) (.nv id i) (.nv id' i):=λM ρ x hF hr=>by
 obtain⟨cs,v,h1,h2,h3,h4⟩:=hF
 simp only[RepV]at hr⊢
 obtain⟨xs,f1,f2,f3⟩:=hr
 rw[h1]at f1
 have:xs=cs:=by simp only[Value.tuple.injEq]at f1;have:=uR Array.toList f1;simpa using this.symm
 subst this
 exact⟨_,h4,by rw[qi (λe=>h e.symm)];exact f2,f3⟩
theorem OpF.ar{id id' id2 j:Nat}:RwV (OpF id id' id2 j) (.nv id j) (.ar id2):=λM ρ x hF hr=>by
 obtain⟨cs,v,h1,h2,h3,h4⟩:=hF
 simp only[RepV]at hr⊢
 obtain⟨xs,f1,f2,f3⟩:=hr
 rw[h1]at f1
 have:xs=cs:=by simp only[Value.tuple.injEq]at f1;have:=uR Array.toList f1;simpa using this.symm
 subst this
 rw[h2]at f2
 exact⟨by rw[h3];exact(uy f2).symm,f3⟩
section
variable {k:List Frm} {n:Nat} {sl:zl}
theorem zt3(hC:C.low)(hc:lst cur=true)(id id' id2 j:Nat){e:Nat}(hid:tg tab id=some (.bag e L))(hj:L[j]?=some rs)(hne:Nat.beq id' id2=false)
 (hf:(Nat.ble 100 id'&&freshB id' ⟨n,sl,tab⟩)=true) (hf2:(Nat.ble 100 id2&&freshB id2 ⟨n,sl,tab⟩)=true)
 (ups:zl) (hS:upS (RwS (OpF id id' id2 j)) sl ups) (bs:List (Nat×Res)) (hB:upW (OpF id id' id2 j) [id] [id',id2] tab bs)
 (g:Goal P C cur k n (ups++sl) (zld bs++((id',some (.bag e (L.set j [])))::(id2,some (.arr e rs))::(id,none)::tab)) Q):Goal P C cur k n sl tab Q:=by
 have hne':id'≠id2:=λe=>by subst e;rw[wQ]at hne;cases hne
 refine zb5 hC hc [id] [(id',.bag e (L.set j [])),(id2,.arr e rs)] (OpF id id' id2 j) (by simp only[RL.ids,allB,hf,hf2,qJ]) (λ{M ρ w} hT=>?_) ups hS bs hB g
 simp only[uu]at hf hf2
 have nid:id≠id'/\id≠id2:=⟨((wP (C:=C) hf.2 (hC.none (tz hf.1))).2.1 id _ hid).1,((wP (C:=C) hf2.2 (hC.none (tz hf2.1))).2.1 id _ hid).1⟩
 obtain⟨cs,h1,h2,h3,h4⟩:=hT.res id _ hid
 obtain⟨v,v1,v2⟩:=h3 j rs hj
 have hjl:=(ui.1 v1).1
 obtain⟨av,capv,g1,_⟩:=v2
 obtain⟨v,v1,v2⟩:=h3 j rs hj
 have bkv: ∀q,Bk v q->blk v=some q:=λq hq=>by
  obtain⟨av,capv,g1,_⟩:=v2
  rw[g1]at hq ⊢; exact hq
 have two: ∀i r,tg (tb [(id',Res.bag e (L.set j [])),(id2,.arr e rs)]) i=some r->(i=id'/\r= .bag e (L.set j []))\/(i=id2/\i≠id'/\r= .arr e rs):=λi r hi=>by
  simp only[tb,zX]at hi
  split at hi
  ·rename_i e;exact .inl ⟨e.symm,(uy hi).symm⟩
  ·rename_i e0
   split at hi
   ·rename_i e;exact .inr ⟨e.symm,λh=>e0 h.symm,(uy hi).symm⟩
   ·cases hi
 let ρ':=upd (upd ρ id2 v) id' (.tuple (cs.set j (.slice none 0 0)).toArray)
 have r1:ρ' id'= .tuple (cs.set j (.slice none 0 0)).toArray:=zw _ _ _
 have r2:ρ' id2=v:=by simp only[ρ'];rw[zL (λe=>hne' e.symm),zw]
 have r3: ∀i,i≠id'->i≠id2->ρ' i=ρ i:=λi a b=>by simp only[ρ'];rw[zL a,zL b]
 -- the cells of the new bag
 have cell: ∀(i:Nat) z,(cs.set j (.slice none 0 0))[i]?=some z->(i=j/\z= .slice none 0 0)\/(i≠j/\cs[i]?=some z):=λi z hz=>by
  by_cases hij:j=i
  ·subst hij
   rw[qH hjl]at hz
   exact .inl ⟨rfl,(uy hz).symm⟩
  ·rw[qi hij]at hz
   exact .inr ⟨λe=>hij e.symm,hz⟩
 refine⟨ρ',⟨cs,v,by rw[r3 id nid.1 nid.2];exact h1,v1,r2,r1⟩,λi hi=>r3 i (by simp[RL.ids]at hi;exact hi.1) (by simp[RL.ids]at hi;exact hi.2),λi r hi=>?_,λi r b hi hb=>?_,λi i' ri rj b hi hj' hne2 hb1 hb2=>?_⟩
 ·rcases two i r hi with⟨rfl,rfl⟩|⟨rfl,_,rfl⟩
  ·refine⟨_,r1,by rw[tq,tq];exact h2,λq rq hq=>?_,λa b' q x y hx hy hab hbx hby=>?_⟩
   ·by_cases hqj:j=q
    ·subst hqj
     rw[qH ua]at hq
     obtain rfl:=uy hq
     exact⟨.slice none 0 0,by rw[qH hjl],none,0,rfl,ue,ue,.inl ⟨rfl,rfl⟩⟩
    ·rw[qi hqj]at hq
     obtain⟨c,c1,c2⟩:=h3 q rq hq
     exact⟨c,by rw[qi hqj];exact c1,c2⟩
   ·rcases cell a x hx with⟨_,rfl⟩|⟨_,hx'⟩
    ·simp[blk]at hbx
    ·rcases cell b' y hy with⟨_,rfl⟩|⟨_,hy'⟩
     ·simp[blk]at hby
     ·exact h4 a b' q x y hx' hy' hab hbx hby
  ·have hA:wO M w (ρ' i) e rs:=by rw[r2];exact v2
   exact hA
 ·rcases two i r hi with⟨rfl,rfl⟩|⟨rfl,_,rfl⟩
  ·rw[r1]at hb
   obtain⟨x,hx,hxb⟩:=hb
   obtain⟨q,hq⟩:=tj.1 (by simpa using hx:x∈cs.set j (.slice none 0 0))
   rcases cell q x hq with⟨_,rfl⟩|⟨_,hq'⟩
   ·simp[blk]at hxb
   ·exact⟨id,_,ue,hid,by rw[h1];exact zfL hq' hxb⟩
  ·rw[r2]at hb
   exact⟨id,_,ue,hid,by rw[h1];exact zfL v1 (bkv b hb)⟩
 ·have key: ∀q b,Bk (ρ' id') b->Bk (ρ' id2) b->q=b->False:=λq b hb1 hb2 _=>by
   rw[r1]at hb1
   rw[r2]at hb2
   obtain⟨x,hx,hxb⟩:=hb1
   obtain⟨q,hq⟩:=tj.1 (by simpa using hx:x∈cs.set j (.slice none 0 0))
   rcases cell q x hq with⟨_,rfl⟩|⟨hqj,hq'⟩
   ·simp[blk]at hxb
   ·exact h4 q j b x v hq' v1 hqj hxb (bkv b hb2)
  rcases two i ri hi with⟨rfl,_⟩|⟨rfl,_,_⟩<;>rcases two i' rj hj' with⟨rfl,_⟩|⟨rfl,_,_⟩
  ·exact hne2 rfl
  ·exact key b b hb1 hb2 rfl
  ·exact key b b hb2 hb1 rfl
  ·exact hne2 rfl
end
theorem zae.nv{e q:Nat}{tx el:TypeId}{id:Nat}{L:List (List (List PV))}{rs:List (List PV)}(h:elemSz P tx=some (el,e))(hq:L[q]?=some rs)(hl: ∀r∈rs,r.length=e):zae P e tx (.one (.nv id q)) [(id,.bag e L)] rs:=by
 intro C st M ρ a w v hH hr hT
 obtain⟨_,hu,_,_⟩:=zB h
 simp only[RepS,RepV]at hr
 obtain⟨xs,f1,f2,_⟩:=hr
 obtain⟨a',cap,rfl,h2,h3,h4⟩:=jH (hH.yh.res id _ hT.1) hq f1 f2
 rcases h4 with⟨rfl,hc⟩|⟨b',o,cs,el',fz,rfl,h6,_,_,h8⟩
 ·have:rs=[]:=uS.1 ua
  subst this
  exact⟨[],Src.ofNil w hu cap,by simp[RepVs],ue⟩
 ·obtain⟨us,g1,g2,g3⟩:=h8.cells (ρ:=ρ)
  exact⟨us,Src.ofSlice w hu _ _ cap us g2 (λj u hj=>by rw[yq];have:=g3 j u hj;simp[World.cell?,h6,this]) g1.one,g1,hl⟩
end Hw
namespace Hw
open Go Go.Proofs
def RbF(id id':Nat)(js:List Nat)(ρ:Nat->Value):Prop:= ∃cs ds:List Value,ρ id= .tuple cs.toArray/\ρ id'= .tuple ds.toArray/\ ∀(i q:Nat),js[i]?=some q->ds[i]?=cs[q]?
theorem RbF.nv{id id' i q:Nat}{js:List Nat}(h:js[i]?=some q):RwV (RbF id id' js) (.nv id q) (.nv id' i):=λM ρ x hF hr=>by
 obtain⟨cs,ds,h1,h2,h3⟩:=hF
 simp only[RepV]at hr⊢
 obtain⟨xs,f1,f2,f3⟩:=hr
 rw[h1]at f1
 have:xs=cs:=by simp only[Value.tuple.injEq]at f1;have:=uR Array.toList f1;simpa using this.symm
 subst this
 exact⟨ds,h2,by rw[h3 i q h];exact f2,f3⟩
variable {C:Ctx}{L:List (List (List PV))}{P:Program}{Q:Exit->St->Prop}{js:List Nat}{tab:Tab}
section
variable {k:List Frm} {n:Nat} {sl:zl} {cur:Cur}
theorem zr3(hC:C.low)(hc:lst cur=true)(id id':Nat)(js:List Nat){e:Nat}(L':List (List (List PV)))(hid:tg tab id=some (.bag e L))(hnd:js.Nodup)(hl:L'.length=js.length)
 (hat: ∀(i q:Nat),js[i]?=some q->q<L.length/\L'[i]?=L[q]?)
 (hf:(Nat.ble 100 id'&&freshB id' ⟨n,sl,tab⟩)=true)
 (ups:zl) (hS:upS (RwS (RbF id id' js)) sl ups) (bs:List (Nat×Res)) (hB:upW (RbF id id' js) [id] [id'] tab bs)
 (g:Goal P C cur k n (ups++sl) (zld bs++((id',some (.bag e L'))::(id,none)::tab)) Q):Goal P C cur k n sl tab Q:=by
 refine zb5 hC hc [id] [(id',.bag e L')] (RbF id id' js) (by simp only[RL.ids,allB,hf,qJ]) (λ{M ρ w} hT=>?_) ups hS bs hB g
 simp only[uu]at hf
 have nid:id≠id':=((wP (C:=C) hf.2 (hC.none (tz hf.1))).2.1 id _ hid).1
 obtain⟨cs,h1,h2,h3,h4⟩:=hT.res id _ hid
 have only: ∀i r,tg (tb [(id',Res.bag e L')]) i=some r->i=id'/\r= .bag e L':=λi r hi=>by
  simp only[tb,zX]at hi
  split at hi
  ·rename_i e;exact⟨e.symm,(uy hi).symm⟩
  ·cases hi
 let ds:List Value:=js.map λq=>(cs[q]?).getD undef
 have hds: ∀i q,js[i]?=some q->ds[i]?=cs[q]?:=λi q hi=>by
  have hq:=(hat i q hi).1
  show(js.map λq=>(cs[q]?).getD undef)[i]?=_
  rw[uE,hi,qh,uM (l:=cs) (i:=q) ua,Option.getD_some]
 have hds2: ∀(i:Nat) z,ds[i]?=some z-> ∃q,js[i]?=some q/\cs[q]?=some z:=λi z hz=>by
  have hlt:=(ui.1 hz).1
  have hlj:i<js.length:=by simpa [ds]using hlt
  exact⟨js[i],uM hlj,by rw[<-hds i _ (uM hlj)];exact hz⟩
 refine⟨upd ρ id' (.tuple ds.toArray),⟨cs,ds,by rw[zL nid];exact h1,zw _ _ _,hds⟩,λi hi=>zL (by simpa [RL.ids]using hi),λi r hi=>?_,λi r b hi hb=>?_,λi j ri rj b hi hj hne _ _=>?_⟩
 ·obtain⟨rfl,rfl⟩:=only i r hi
  refine⟨ds,zw _ _ _,by simp only[ds,uj];exact hl.symm,λj rs hj=>?_,λa b' q x y hx hy hab hbx hby=>?_⟩
  ·have hjl:=(ui.1 hj).1
   have hq:js[j]?=some js[j]:=uM ua
   rw[(hat j _ hq).2]at hj
   obtain⟨c,c1,c2⟩:=h3 _ rs hj
   exact⟨c,by rw[hds j _ hq];exact c1,c2⟩
  ·obtain⟨qa,ha1,ha2⟩:=hds2 a x hx
   obtain⟨qb,hb1,hb2⟩:=hds2 b' y hy
   refine h4 qa qb q x y ha2 hb2 (λe=>hab ?_) hbx hby
   subst e
   exact(List.getElem?_inj (ui.1 ha1).1 hnd).1 (ha1.trans hb1.symm)
 ·obtain⟨rfl,_⟩:=only i r hi
  rw[zw]at hb
  obtain⟨x,hx,hxb⟩:=hb
  obtain⟨j,hj⟩:=tj.1 (by simpa using hx:x∈ds)
  obtain⟨q,_,hq⟩:=hds2 j x hj
  exact⟨id,_,ue,hid,by rw[h1];exact zfL hq hxb⟩
 ·obtain⟨rfl,_⟩:=only i ri hi
  obtain⟨rfl,_⟩:=only j rj hj
  exact hne rfl
def grJ(js:List Nat):List (List PC):=js.map λq=>[PC.n 0 q]
def gr(n:Nat):List (List PC):=grJ (List.range n)
theorem zhE(js:List Nat):(grJ js).length=js.length:=uj _
theorem xx(n:Nat):(gr n).length=n:=by rw[gr,zhE,tV]
theorem zmP(js:List Nat): ∀r∈grJ js,r.length=1:=λr hr=>by obtain⟨_,_,rfl⟩:=ql.1 hr;rfl
theorem zam(n:Nat): ∀r∈gr n,r.length=1:=zmP _
theorem jc(js:List Nat):(grJ js).flatten=js.map (PC.n 0):=by
 induction js with
 |nil=>rfl
 |cons a l ih=>simp only[grJ,tK,tF]at ih ⊢; rw[ih];rfl
theorem zqW{i q:Nat}(h:js[i]?=some q):(grJ js).flatten[i]?=some (.n 0 q):=by rw[jc,uE,h];rfl
theorem zku{n i:Nat}(h:i<n):(gr n).flatten[i]?=some (.n 0 i):=zqW (by rw[qg h])
theorem zt4(hC:C.low)(hc:lst cur=true)(o id id':Nat)(js:List Nat){e:Nat}(L':List (List (List PV)))(ho:tg tab o=some (.vw [id] 1 (grJ js)))(hid:tg tab id=some (.bag e L))(hnd:js.Nodup)(hl:L'.length=js.length)
 (hat: ∀(i q:Nat),js[i]?=some q->q<L.length/\L'[i]?=L[q]?)
 (hf:(Nat.ble 100 id'&&freshB id' ⟨n,sl,tab⟩)=true) (hne:(hasB o [id]||hasB o [id'])=false)
 (g:Goal P C cur k n sl ((o,some (.vw [id'] 1 (gr js.length)))::(id',some (.bag e L'))::(id,none)::tab) Q):Goal P C cur k n sl tab Q:=by
 refine zr3 hC hc id id' js L' hid hnd hl hat hf [] uh [(o,.vw [id'] 1 (gr js.length))] ⟨⟨_,ho,hne,RwR.vw (by rw[zhE,xx]) (zam _) λj x' hj=>?_⟩,uh⟩ g
 rw[gr,jc,uE,uH]at hj
 obtain⟨q,hq,rfl⟩:=hj
 have hjl:=(ui.1 hq).1
 rw[tV]at hjl
 rw[qg hjl]at hq
 obtain rfl:=uy hq
 have h:js[j]?=some js[j]:=uM hjl
 exact⟨_,zqW h,RbF.nv h⟩
end
section
variable {d:Option Nat} {ty et:TypeId} {ps:String} {af:Array Edge} {g:Option (Nat×Bool)} {t t':TypeId} {x:Operand}
end
section
variable {k:List Frm} {n:Nat} {sl:zl} {all:Array Oper} {rest:List Oper}
end
section
variable {B:RL}
theorem LnV.zvs{o id e:Nat}(ho:(o,.vw [id] 1 (gr L.length))∈B)(hid:(id,.bag e L)∈B):LnV B (.ar o) (.p (.sl 1 (L.map λrs=>[.sl e rs]))):=
 LnV.vw ho (by rw[uj,xx]) (λr hr=>by obtain⟨_,_,rfl⟩:=ql.1 hr;rfl) λj x' hj=>by
  have hfl:(L.map λrs=>[PV.sl e rs]).flatten=L.map (PV.sl e):=by
   clear ho hid hj
   induction L with
   |nil=>rfl
   |cons a l ih=>simp only[tK,tF,oq]at ih ⊢; rw[ih]
  rw[hfl,uE,uH]at hj
  obtain⟨rs,hrs,rfl⟩:=hj
  have hlt:=(ui.1 hrs).1
  exact⟨_,zku hlt,LnV.nv hid hrs⟩
theorem LnV.sv{id e a m:Nat}{rows:List (List PV)}(hm:(id,.arr e rows)∈B)(hle: ∀r∈rows,r.length=e)(ha:a+m<=rows.length):LnV B (.sv id (a*e) m) (.p (.sl e ((rows.drop a).take m))):=λM ρ w u hH hr=>by
 simp only[RepV,RepPV]at hr⊢
 have hlen:((rows.drop a).take m).length=m:=by rw[uz,uQ];omega
 rcases hr with⟨rfl,a',c,rfl⟩|⟨b,o,N,cap,c,h1,rfl,h3,h4⟩
 ·exact⟨a',c,by rw[qZ];rfl,by rw[qZ];exact uA _,by rw[qZ];exact uA _,.inl (qZ)⟩
 ·refine⟨_,c,by rw[hlen],by rw[hlen];exact h3,by rw[hlen];omega,.inr ⟨b,_,rfl,?_⟩⟩
  have hA:wO M w (ρ id) e rows:=hH.2 id _ hm
  obtain⟨av,cap',g1,g2,g3,g4⟩:=hA
  rw[h1]at g1
  simp only[Value.slice.injEq]at g1
  rcases g4 with⟨g4,_⟩|⟨b',o',cs,el,fz,g5,g6,_,_,g8⟩
  ·rw[g4]at g1;cases g1.1
  ·rw[g5]at g1
   simp only[um,Addr.mk.injEq]at g1
   obtain⟨⟨rfl,rfl,_⟩,_⟩:=g1
   have hb: ∃i r,(i,r)∈B/\Bk (ρ i) b:=⟨id,_,hm,by rw[h1];rfl⟩
   have:=RowsIn.mono (M':=lentN M ρ w B) vm (λi c hc=>zbl hH.1 hb g6 i c hc) _ _ g8
   exact(this.drop a).take m
end
end Hw
namespace Hw.Fr.Md
open Go Go.Proofs Hw.M
variable {i:Nat}{α:Type}{x:α}
theorem drop_at{l:List α}(h:l[i]?=some x):l.drop i=x::l.drop (i+1):=by
 obtain⟨hi,rfl⟩:=ui.1 h
 exact tS hi
def idxR{α σ:Type}(p:α->σ->Bool)(nx:α->σ->σ):List α->Nat->σ->Int×σ
 | [],_,s=>(-1,s)
 |x::r,k,s=>if p x s=true then((k:Int),nx x s)else idxR p nx r (k+1) (nx x s)
def anyR{α σ:Type}(p:α->σ->Bool)(nx:α->σ->σ):List α->σ->Bool×σ
 | [],s=>(false,s)
 |x::r,s=>if p x s=true then(true,nx x s)else anyR p nx r (nx x s)
theorem zav{α σ:Type}(p:α->σ->Bool)(nx:α->σ->σ): ∀(l:List α) (k:Nat) (s:σ),∃i s',idxR p nx l k s=(i,s')/\anyR p nx l s=(decide (0<=i),s')
 | [],k,s=>⟨-1,s,rfl,rfl⟩
 |x::r,k,s=>by
  simp only[idxR,anyR]
  by_cases h:p x s=true
  ·exact⟨k,nx x s,uv h,by rw[uv h,uK ua]⟩
  ·rw[ur h,ur h];exact zav p nx r (k+1) (nx x s)
theorem zaR{σ:Type}(p:α->σ->Bool)(nx:α->σ->σ)(l:List α)(k:Nat)(s:σ):decide (0<=(idxR p nx l k s).1)=(anyR p nx l s).1:=by
 obtain⟨i,s',h1,h2⟩:=zav p nx l k s
 simp only[h1,h2]
theorem zaS{σ:Type}(p:α->σ->Bool)(nx:α->σ->σ)(l:List α)(k:Nat)(s:σ):(idxR p nx l k s).2=(anyR p nx l s).2:=by
 obtain⟨i,s',h1,h2⟩:=zav p nx l k s
 simp only[h1,h2]
theorem vX{α:Type}(p:α->Bool): ∀(l:List α) (s:Unit),(anyR (λx _=>p x) (λ_ s=>s) l s).1=l.any p
 | [],_=>rfl
 |x::r,s=>by
  simp only[anyR,qU]
  cases h:p x with
  |true=>rfl
  |false=>simp only[uU,tO,oG];exact vX p r s
theorem zpt(x:Int):zk Tryz.prog 89 [I x] [] (Bo false) []:=by
 refine gO T Tryz.func89 λC hC=>?_
 repeat' first|refine gG ?_|refine gB ?_ ?_<;>intro h
 exact zt ⟨.inl rfl,id,_,rfl,LeS.bq ue,trivial,rfl,rfl⟩
def zt5(x y:Int):Int:=if x<y then -1 else if y<x then 1 else 0
theorem zr4(x y:Int):zk Tryz.prog 57 [I x,I y] [] (I (zt5 x y)) []:=by
 refine gO T Tryz.func57 λC hC=>?_
 repeat' first|refine gG ?_|exact gD|refine gB ?_ ?_<;>intro h|refine gC (zpt _) ?_|refine gN ?_
 all_goals first
  |(have h2:=uo h;unfold zt5;first|(rw[uv h2];done)|(have h1:=uq (by assumption:decide (x<y)=false);rw[ur h1,uv h2];done))
  |(have h1:=uq (by assumption:decide (x<y)=false);have h2:=uq h;unfold zt5;rw[ur h1,ur h2];done)
  |(simp at h;done)
theorem zfT(n:Int):zk Tryz.prog 98 [I n] [] (.bq (wH n)) []:=by
 refine gO T Tryz.func98 λC hC=>?_
 repeat' first|refine gG ?_|refine gB ?_ ?_<;>intro h|refine gQ ?_|refine gL ?_
 all_goals (unfold wH;first|(rw[h];rfl)|(rename_i h1;rw[h1,h];rfl)|(simp_all;done))
theorem zt6(n:Int):zk Tryz.prog 108 [I n] [] (.bq (wH n)) []:=by
 refine gO T Tryz.func108 λC hC=>?_
 repeat' first|refine gG ?_|refine gB ?_ ?_<;>intro h|refine gQ ?_|refine gL ?_
 all_goals (unfold wH;first|(rw[h];rfl)|(rename_i h1;rw[h1,h];rfl)|(simp_all;done))
theorem zbH(n:Int):zk Tryz.prog 94 [I n] [] (.bq (zdn n)) []:=by
 refine gO T Tryz.func94 λC hC=>?_
 repeat' first|refine gG ?_|refine gB ?_ ?_<;>intro h|refine gQ ?_|refine gL ?_
 all_goals (unfold zdn;first|(rw[h];rfl)|(rename_i h1;rw[h1,h];rfl)|(simp_all;done))
theorem zpu(f:FuncId)(l:List Int)(p:Int->Unit->Bool)(nx:Int->Unit->Unit)(inv:Unit->Prop)
 (hf: ∀x∈l,∀s:Unit,inv s->zk Tryz.prog f [I x] [] (.bq (p x s)) ((λs:Unit=>[]) (nx x s))/\(p x s=false->inv (nx x s))) (s:Unit) (hs:inv s):
 zk Tryz.prog 131 [pS (.sl 1 (l.map zR)),.one (.cl f [] [])] [] (I (idxR p nx l 0 s).1) ((λs:Unit=>[]) (idxR p nx l 0 s).2):=by
 refine gO T Tryz.func131 λC hC=>?_
 have hs0:=hs
 refine jq 0 rfl λhl=>?_
 rw[uj]at hl
 repeat' first|refine gG ?_|refine gB ?_ ?_<;>intro h
 rw[uj]
 refine zn (λq:Nat×Unit=>q.1<=l.length/\inv q.2/\idxR p nx (l.drop q.1) q.1 q.2=idxR p nx l 0 s) (λq=>(λs:Unit=>([(0,pS (.sl 1 (l.map zR))),(1,.one (.cl f [] [])),(7,I l.length),(8,I q.1)],[])) q.2) (λq=>l.length - q.1) hC
  (0,s) ⟨uA _,hs,rfl⟩ id gM ?_
 generalize idxR p nx l 0 s=res
 clear hs hs0
 rintro⟨i,s⟩ ⟨hi,hv,hn⟩
 simp only at hi hv hn
 refine zr T hC true 200 rfl ?_
 refine zu rfl ?_ ?_<;>intro hh
 ·have hlt:i<l.length:=by simpa using hh
  clear hh
  obtain⟨x,hx⟩:=ze hlt
  rw[drop_at hx]at hn
  simp only[idxR]at hn
  have hv2:=(hf x (List.mem_of_getElem? hx) s hv).2
  repeat' first|refine gG ?_|refine gB ?_ ?_<;>intro h|refine gI T (zg hx) ?_|refine zy hC (hf x (List.mem_of_getElem? hx) s hv).1 id rfl rfl (yr.refl _) rfl rfl rfl rfl rfl rfl rfl rfl ?_|refine zx ?_
  ·rw[uv uf]at hn
   subst hn
   exact gF
  ·have hpf:p x s=false:=by assumption
   rw[hpf]at hn
   simp only[uU,tO]at hn
   rw[wrap64 ua]
   exact zf (i+1,nx x s) ⟨by simp only;omega,hv2 hpf,hn⟩ id (by simp only;omega) gM
 ·have hge: ¬i<l.length:=by simpa using hh
  rw[tf ua]at hn
  simp only[idxR]at hn
  subst hn
  repeat' first|refine gG ?_|refine gB ?_ ?_<;>intro h|refine zj ?_
  exact gF
theorem zpv(f:FuncId)(l:List Int)(p:Int->Unit->Bool)(nx:Int->Unit->Unit)(inv:Unit->Prop)
 (hf: ∀x∈l,∀s:Unit,inv s->zk Tryz.prog f [I x] [] (.bq (p x s)) ((λs:Unit=>[]) (nx x s))/\(p x s=false->inv (nx x s))) (s:Unit) (hs:inv s):
 zk Tryz.prog 92 [pS (.sl 1 (l.map zR)),.one (.cl f [] [])] [] (.bq (anyR p nx l s).1) ((λs:Unit=>[]) (anyR p nx l s).2):=by
 refine gO T Tryz.func92 λC hC=>?_
 repeat' first|refine gG ?_|refine gB ?_ ?_<;>intro h|refine gR (zpu f l p nx inv hf s hs) (nm []) ?_
 exact zt ⟨.inl rfl,id,_,rfl,.qq (zaR p nx l 0 s),by rw[<-zaS p nx l 0 s];exact uh,rfl,rfl⟩
theorem zb7(f:FuncId)(l:List Int)(p:Int->Bool)(hf: ∀x∈l,zk Tryz.prog f [I x] [] (.bq (p x)) []):zk Tryz.prog 92 [pS (zA l),.one (.cl f [] [])] [] (.bq (l.any p)) []:=by
 have:=zpv f l (λx _=>p x) (λ_ s=>s) (λ_=>True) (λx hx s _=>⟨hf x hx,λ_=>trivial⟩) () trivial
 rw[vX]at this
 exact this
def zt7(k:Int):PV:= .sl 3 ((yf k).map zfH)
theorem kinds{k:Int}(h:1<=k/\k<=6):k=1\/k=2\/k=3\/k=4\/k=5\/k=6:=by omega
theorem zb8{k:Int}(hk:1<=k/\k<=6):zk Tryz.prog 63 [I k] [] (pS (zt7 k)) []:=by
 rcases kinds hk with rfl|rfl|rfl|rfl|rfl|rfl
 all_goals
  refine gO T Tryz.func63 λC hC=>?_
  repeat' first|refine gG ?_|exact gD|refine gB ?_ ?_<;>intro h|refine gT ?_
  exact gF
theorem zpw{k:Int}(hk: ¬(1<=k/\k<=6)):zk Tryz.prog 63 [I k] [] (.one (.p (.k (.slice none 0 0)))) []:=by
 refine gO T Tryz.func63 λC hC=>?_
 repeat' first|refine gG ?_|(exfalso;have h2:=uo h;omega)|refine gB ?_ ?_<;>intro h
 exact gF
theorem zaY{k:Int}(hk: ¬(1<=k/\k<=6)):yf k=[]:=by
 unfold yf
 repeat rw[ur ua]
def zih(k:Int):List Str:=(yf k).map (·.1)
theorem ze7{k:Int}(hk:1<=k/\k<=6):zk Tryz.prog 106 [I k] [] (pS (zdg (zih k))) []:=by
 rcases kinds hk with rfl|rfl|rfl|rfl|rfl|rfl
 all_goals
  refine gO T Tryz.func106 λC hC=>?_
  repeat' first|refine gG ?_|exact gD|refine gB ?_ ?_<;>intro h|refine gT ?_
  exact gF
theorem vE{k:Int}:(yf k).length<=8:=by
 unfold yf
 repeat' split
 all_goals decide
theorem zmQ{k:Int}:(zih k).length=(yf k).length:=uj _
variable {w:Str×Int×Bool}
theorem zmR{k c:Int}(hk:1<=k/\k<=6)(hc:1<=c)(hw:(yf k)[(c - 1).toNat]?=some w):zk Tryz.prog 107 [I k,I c] [] (I w.2.1) []:=by
 have hlt:=(ui.1 hw).1
 have h8:=vE (k:=k)
 have w1:IntKind.i64.wrap (c - 1)=c - 1:=wrap64 ua
 have hx:((yf k).map λw=>w.2.1)[(c - 1).toNat]?=some w.2.1:=by rw[uE,hw];rfl
 rcases kinds hk with rfl|rfl|rfl|rfl|rfl|rfl
 all_goals
  refine gO T Tryz.func107 λC hC=>?_
  repeat' first|refine gG ?_|exact gD|refine gB ?_ ?_<;>intro h|refine gT ?_|(rw[w1];refine yM T hC rfl rfl rfl ua (yg (f:=zR) hx) rfl rfl ?_)
  exact gF
theorem zfa{k c:Int}(hk:1<=k/\k<=6)(hc:1<=c)(hw:(yf k)[(c - 1).toNat]?=some w):zk Tryz.prog 73 [I k,I c] [] (.bq w.2.2) []:=by
 have hlt:=(ui.1 hw).1
 have h8:=vE (k:=k)
 have hcs:c=1\/c=2\/c=3\/c=4\/c=5\/c=6\/c=7\/c=8:=by omega
 rcases kinds hk with rfl|rfl|rfl|rfl|rfl|rfl
 all_goals
  rcases hcs with rfl|rfl|rfl|rfl|rfl|rfl|rfl|rfl
  all_goals first
   |exact absurd hlt ub
   |(have hw2:=uy ((show _=some _ by rfl).symm.trans hw)
     subst hw2
     refine gO T Tryz.func73 λC hC=>?_
     repeat' first|refine gG ?_|exact gD|refine gB ?_ ?_<;>intro h|refine gQ ?_|refine gL ?_
     all_goals first|rfl|(simp;done)|(simp_all;done))
theorem zr5(n:Int):zk Tryz.prog 96 [I n] [] (.bq (!zdn n)) []:=by
 have h:=zbH n
 generalize zdn n=q at h⊢
 refine gO T Tryz.func96 λC hC=>?_
 repeat' first|refine gG ?_|refine gB ?_ ?_<;>intro h|refine gC h ?_|refine gQ ?_|refine gL ?_
 all_goals rfl
theorem zr6(n:Int):zk Tryz.prog 97 [I n] [] (.bq (!wH n)) []:=by
 have h:=zfT n
 generalize wH n=q at h⊢
 refine gO T Tryz.func97 λC hC=>?_
 repeat' first|refine gG ?_|refine gB ?_ ?_<;>intro h|refine gC h ?_|refine gQ ?_|refine gL ?_
 all_goals rfl
theorem zcG(p:α->Bool)(l:List α):(l.any λx=> !p x)= !l.all p:=by
 induction l with
 |nil=>rfl
 |cons x l ih=>rw[qU,qT,ih,Uz]
theorem jU(k:Int)(o:OpT):zk Tryz.prog 67 [I k,zm (opR o)] [] (.bq (okOp k o)) []:=by
 obtain⟨c,ags⟩:=o
 by_cases hk:1<=k/\k<=6
 ·have hW:=zb8 hk
  have h8:=vE (k:=k)
  have hA:=zb7 96 ags (λn=> !zdn n) (λn _=>zr5 n)
  have hB:=zb7 97 ags (λn=> !wH n) (λn _=>zr6 n)
  rw[zcG]at hA hB
  unfold okOp
  simp only
  generalize ags.all zdn=qa at hA⊢
  generalize ags.all wH=qb at hB⊢
  cases hw:(yf k)[(c - 1).toNat]? with
  |none=>
   have hge:=Um.1 hw
   have hcl:c<1\/((yf k).length:Int)<c:=by omega
   refine gO T Tryz.func67 λC hC=>?_
   repeat' first|refine gG ?_|exact gP|refine gB ?_ ?_<;>intro h|refine gC hW ?_|refine gQ ?_|refine gL ?_
   all_goals (try simp)
  |some w=>
   have hlt:=(ui.1 hw).1
   by_cases hc1:1<=c
   ·have w1:IntKind.i64.wrap (c - 1)=c - 1:=wrap64 ua
    obtain⟨s,a,u⟩:=w
    simp only
    refine gO T Tryz.func67 λC hC=>?_
    repeat' first|refine gG ?_|exact gP|refine gB ?_ ?_<;>intro h|refine gC hW ?_|refine gC hA ?_|refine gC hB ?_|(rw[w1];refine yM T hC rfl rfl rfl ua (yg (f:=zfH) hw) rfl rfl ?_)|refine gQ ?_|refine gL ?_
    all_goals (clear hW hA hB;try simp only[uj]at*)
    all_goals first
     |rfl
     |(simp;done)
     |(simp_all;done)
     |(simp_all;omega)
     |(intros;simp_all<;>omega)
   ·refine gO T Tryz.func67 λC hC=>?_
    repeat' first|refine gG ?_|exact gP|refine gB ?_ ?_<;>intro h|refine gC hW ?_|refine gQ ?_|refine gL ?_
    all_goals (simp[hc1])
 ·have hW:=zpw hk
  rw[show okOp k ⟨c,ags⟩=false by unfold okOp;rw[zaY hk];simp]
  refine gO T Tryz.func67 λC hC=>?_
  repeat' first|refine gG ?_|exact gP|refine gB ?_ ?_<;>intro h|refine gC hW ?_|refine gQ ?_|refine gL ?_
  all_goals (clear hW;try simp only[uj]at*)
  all_goals first
   |rfl
   |(simp;done)
   |(simp_all;done)
   |(simp_all;omega)
   |(intros;simp_all<;>omega)
theorem zb9{a b:List α}(hx:a[i]?=some x)(hy:b[i]?=some x)(h:a.take i=b.take i):a.take (i+1)=b.take (i+1):=by
 rw[tG,tG,hx,hy,h]
theorem zcw(a b:List Int):zk Tryz.prog 55 [pS (zA a),pS (zA b)] [] (.bq (decide (a=b))) []:=by
 refine gO T Tryz.func55 λC hC=>?_
 refine jq 0 rfl λhlen=>?_
 rw[uj]at hlen
 repeat' first|refine gG ?_|refine gB ?_ ?_<;>intro h|refine gL ?_
 all_goals (try simp only[uj]at*)
 ·have: ¬(a.length:Int)=(b.length:Int):=by simpa using h
  exact(uJ λe=>this (by rw[e])).symm
 ·have hab:a.length=b.length:=by have:(a.length:Int)=(b.length:Int):=by simpa using h
                                 omega
  refine zn (λi:Nat=>i<=a.length/\a.take i=b.take i) (λi=>([(0,pS (zA a)),(1,pS (zA b)),(5,I i)],[])) (λi=>a.length - i) hC
   0 ⟨uA _,ue⟩ id gM ?_
  rintro i ⟨hi,hn⟩
  refine zr T hC true 200 rfl ?_
  refine zu rfl ?_ ?_<;>intro h
  ·have hlt:i<a.length:=by simpa using h
   clear h
   obtain⟨x,hx⟩:=ze hlt
   obtain⟨y,hy⟩:=ze (hab ▸ hlt)
   repeat' first|refine gG ?_|refine gB ?_ ?_<;>intro h|refine gI T (zg hx) ?_|refine gI T (zg hy) ?_|refine zx ?_|refine gL ?_
   ·have hxy:x≠y:=by simpa using h
    exact(uJ λe=>hxy (by subst e;rw[hx]at hy;exact uy hy)).symm
   ·have hxy:x=y:=by simpa using h
    subst hxy
    rw[zC ua]
    exact zf (i+1) ⟨ua,zb9 hx hy hn⟩ id ua gM
  ·have hge: ¬i<a.length:=by simpa using h
   repeat' first|refine gG ?_|refine gB ?_ ?_<;>intro h|refine zj ?_|refine gL ?_
   rw[uT ua,uT ua]at hn
   exact(uK hn).symm
theorem zjM(a b:List Int):zk Tryz.prog 42 [pS (zA a),pS (zA b)] [] (.bq (decide (a=b))) []:=by
 refine gO T Tryz.func42 λC hC=>?_
 refine jq 0 rfl λhlen=>?_
 rw[uj]at hlen
 repeat' first|refine gG ?_|refine gB ?_ ?_<;>intro h|refine gL ?_
 all_goals (try simp only[uj]at*)
 ·have: ¬(a.length:Int)=(b.length:Int):=by simpa using h
  exact(uJ λe=>this (by rw[e])).symm
 ·have hab:a.length=b.length:=by have:(a.length:Int)=(b.length:Int):=by simpa using h
                                 omega
  refine zn (λi:Nat=>i<=a.length/\a.take i=b.take i) (λi=>([(0,pS (zA a)),(1,pS (zA b)),(12,I a.length),(13,I i)],[])) (λi=>a.length - i) hC
   0 ⟨uA _,ue⟩ id gM ?_
  rintro i ⟨hi,hn⟩
  refine zr T hC true 200 rfl ?_
  refine zu rfl ?_ ?_<;>intro h
  ·have hlt:i<a.length:=by simpa using h
   clear h
   obtain⟨x,hx⟩:=ze hlt
   obtain⟨y,hy⟩:=ze (hab ▸ hlt)
   repeat' first|refine gG ?_|refine gB ?_ ?_<;>intro h|refine gI T (zg hx) ?_|refine gI T (zg hy) ?_|refine zx ?_|refine gL ?_
   ·have hxy:x≠y:=by simpa using h
    exact(uJ λe=>hxy (by subst e;rw[hx]at hy;exact uy hy)).symm
   ·have hxy:x=y:=by simpa using h
    subst hxy
    rw[zC ua]
    exact zf (i+1) ⟨ua,zb9 hx hy hn⟩ id ua gM
  ·have hge: ¬i<a.length:=by simpa using h
   repeat' first|refine gG ?_|refine gB ?_ ?_<;>intro h|refine zj ?_|refine gL ?_
   rw[uT ua,uT ua]at hn
   exact(uK hn).symm
theorem zkv:zk Tryz.prog 55 [.one (.p (.k (.slice none 0 0))),.one (.p (.k (.slice none 0 0)))] [] (.bq true) []:=by
 refine gO T Tryz.func55 λC hC=>?_
 repeat' first|refine gG ?_|exact gD|refine gB ?_ ?_<;>intro h
 refine zn (λ_:Unit=>True) (λ_=>([(0,.one (.p (.k (.slice none 0 0)))),(5,I 0)],[])) (λ_=>0) hC () trivial id gM ?_
 rintro⟨⟩ _
 repeat' first|refine gG ?_|exact gD|refine gB ?_ ?_<;>intro h|refine zj ?_|refine gQ ?_|refine gL ?_
 all_goals rfl
theorem zvR(x y:RsT):decide (x=y)=(decide (x.e=y.e)&&decide (x.n=y.n)):=by
 rw[<-Bool.decide_and]
 exact ob.2 ⟨λh=>by subst h;exact⟨rfl,rfl⟩,λh=>by cases x;cases y;simp only at h;rw[h.1,h.2]⟩
theorem zjK(x y:RsT):zk Tryz.prog 33 [zm (rsR x),zm (rsR y)] [] (.bq (decide (x=y))) []:=by
 rw[zvR]
 have hN:=zkv
 refine gO T Tryz.func33 λC hC=>?_
 repeat' first|refine gG ?_|refine gB ?_ ?_<;>intro h|refine gC hN ?_|refine gQ ?_|refine gL ?_
 all_goals (clear hN;try simp only[uj]at*)
 all_goals first
  |rfl
  |(simp;done)
  |(simp_all;done)
  |(simp_all;omega)
  |(intros;simp_all<;>omega)
theorem zei(k k2:Int)(a b:Rws):zk Tryz.prog 21 [zm (stR k a),zm (stR k2 b)] [] (.bq (decide (k=k2)&&decide (a=b))) []:=by
 by_cases hk:k=k2
 case neg=>
  rw[uJ hk]
  refine gO T Tryz.func21 λC hC=>?_
  repeat' first|refine gG ?_|(exfalso;have h2:=uo h;simp[hk]at h2;done)|(exfalso;simp[hk]at h;done)|refine gB ?_ ?_<;>intro h|refine gL ?_
  all_goals rfl
 subst hk
 rw[uK rfl,tr]
 by_cases hab:a.length=b.length
 case neg=>
  have hne: ¬a=b:=λe=>hab (by rw[e])
  rw[uJ hne]
  have hab': ¬(a.length:Int)=(b.length:Int):=by omega
  refine gO T Tryz.func21 λC hC=>?_
  repeat' first|refine gG ?_|exact gD|exact gP|(exfalso;simp[hab]at h;done)|refine gB ?_ ?_<;>intro h|refine gL ?_
  all_goals rfl
 refine gO T Tryz.func21 λC hC=>?_
 refine jm rfl 1 1 rfl rfl λhlen=>?_
 rw[uj]at hlen
 repeat' first|refine gG ?_|exact gD|exact gP|(exfalso;simp[hab]at h;done)|refine gB ?_ ?_<;>intro h
 refine zn (λi:Nat=>i<=a.length/\a.take i=b.take i) (λi=>([(2,.one (.bx 1002 0)),(3,.one (.bx 1003 0)),(5,I i)],[(1002,some (.box ((stR k a).map V.p))),(1003,some (.box ((stR k b).map V.p)))])) (λi=>a.length - i) hC
  0 ⟨uA _,ue⟩ id gM ?_
 rintro i ⟨hi,hn⟩
 refine zr T hC true 200 rfl ?_
 refine zu rfl ?_ ?_<;>intro h
 ·have hlt:i<a.length:=by simpa using h
  clear h
  obtain⟨x,hx⟩:=ze hlt
  obtain⟨y,hy⟩:=ze (hab ▸ hlt)
  repeat' first|refine gG ?_|refine gB ?_ ?_<;>intro h|refine gI T (zg hx) ?_|refine gI T (zg hy) ?_|refine gC (zcw _ _) ?_|refine zx ?_|refine gL ?_
  ·have hxy:x≠y:=by simpa using h
   exact(uJ λe=>hxy (by subst e;rw[hx]at hy;exact uy hy)).symm
  ·have hxy:x=y:=by simpa using h
   subst hxy
   rw[zC ua]
   exact zf (i+1) ⟨ua,zb9 hx hy hn⟩ id ua gM
 ·have hge: ¬i<a.length:=by simpa using h
  repeat' first|refine gG ?_|refine gB ?_ ?_<;>intro h|refine zj ?_|refine gL ?_
  rw[uT ua,uT ua]at hn
  exact(uK hn).symm
def emp(k:Int):List PV:=[ki k,.k (.slice none 0 0)]
theorem LeS.emp(k:Int):LeS (zm (emp k)) (zm (stR k [])):=LeS.agg (.cons (.refl _) (.cons (.nil 1) .nil))
theorem zt8{k:Int}(hk:1<=k/\k<=6):zk Tryz.prog 34 [I k] [] (.tup [zm (stR k []),I 0]) []:=by
 have hW:=zb8 hk
 have hne:(yf k).map zfH≠ []:=by
  rcases kinds hk with rfl|rfl|rfl|rfl|rfl|rfl<;>decide
 refine gO T Tryz.func34 λC hC=>?_
 repeat' first|refine gG ?_|(exfalso;exact hne (hb h))|refine gB ?_ ?_<;>intro h|refine gC hW ?_|(refine zcQ (rows:=(yf k).map zfH) (e:=3) (et:=144) rfl ud rfl (λb hb=>?_))
 exact zt ⟨.inl rfl,id,_,rfl,LeS.tup (.cons (LeS.emp k) (.cons (.refl _) .nil)),trivial,rfl,rfl⟩
theorem zhF{k c:Int}(hk:1<=k/\k<=6)(hc:1<=c)(hw:(yf k)[(c - 1).toNat]?=some w):zk Tryz.prog 75 [I k,I c] [] (.tup [.bq w.2.2,I 0]) []:=by
 have hW:=zb8 hk
 have hlt:=(ui.1 hw).1
 have h8:=vE (k:=k)
 have w1:IntKind.i64.wrap (c - 1)=c - 1:=wrap64 ua
 have hne:(yf k).map zfH≠ []:=by
  rcases kinds hk with rfl|rfl|rfl|rfl|rfl|rfl<;>decide
 refine gO T Tryz.func75 λC hC=>?_
 repeat' first|refine gG ?_|(exfalso;exact hne (hb h))|exact gP|refine gB ?_ ?_<;>intro h|refine gC hW ?_|(refine zcQ (rows:=(yf k).map zfH) (e:=3) (et:=144) rfl ud rfl (λb hb=>?_))|(rw[w1];refine yM T hC rfl rfl rfl ua (yg (f:=zfH) hw) rfl rfl ?_)
 exact zt ⟨.inl rfl,id,_,rfl,LeS.tup (.cons (LeS.qb rfl) (.cons (.refl _) .nil)),trivial,rfl,rfl⟩
def zvS(r:Rw):Bool:=(decide (60<(r.length:Int))&&decide ((r.length:Int)<=500))||decide (600<(r.length:Int))
def zop(R:Rws):Bool:=(decide ((R.length:Int)<=60)||(decide (500<(R.length:Int))&&decide ((R.length:Int)<600)))&& !R.any zvS
end Hw.Fr.Md
