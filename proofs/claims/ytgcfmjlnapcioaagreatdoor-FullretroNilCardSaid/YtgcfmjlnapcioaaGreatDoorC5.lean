/- The engine and the contracts. -/
import Derived.Test.YtgcfmjlnapcioaaGreatDoorC4
import Derived.Test.YtgcfmjlnapcioaaGreatDoorC1
import Derived.Test.YtgcfmjlnapcioaaGreatDoorE3
set_option linter.unusedVariables false
set_option linter.unusedSimpArgs false
namespace Hw.Fr.Md
open Go Go.Proofs Hw.M
abbrev Rw:=List Int
abbrev Rws:=List (List Int)
structure OpT where
 code:Int
 args:List Int
structure RsT where
 e:Int
 n:Int
 deriving DecidableEq
def opR(o:OpT):List PV:=[ki o.code,zA o.args]
def rsR(r:RsT):List PV:=[ki r.e,ki r.n,.k (.slice none 0 0)]
def ze2(r:Rw):List PV:=[zA r]
def z8(R:Rws):PV:= .sl 1 (R.map ze2)
def stR(k:Int)(R:Rws):List PV:=[ki k,z8 R]
def zoi(l:List OpT):PV:= .sl 2 (l.map opR)
def zs5(l:List RsT):PV:= .sl 3 (l.map rsR)
def okR(n:Int):RsT:=⟨0,n⟩
def erR(e:Int):RsT:=⟨e,0⟩
def at0(l:List Int)(i:Nat):Int:=(l[i]?).getD 0
theorem zrh{l:List Int}{i:Nat}{x:Int}(h:l[i]?=some x):at0 l i=x:=by unfold at0;rw[h];rfl
theorem zed{l:List Int}{i:Nat}(h:i<l.length):l[i]?=some (at0 l i):=by unfold at0;rw[List.getElem?_eq_getElem h];rfl
def wC(R:Rws)(i:Nat):Rw:=(R[i]?).getD []
theorem xJ{R:Rws}{i:Nat}{r:Rw}(h:R[i]?=some r):wC R i=r:=by unfold wC;rw[h];rfl
theorem jF{R:Rws}{i:Nat}(h:i<R.length):R[i]?=some (wC R i):=by unfold wC;rw[List.getElem?_eq_getElem h];rfl
def vC(n:Int):Bool:=decide (-1048576≤n)&&decide (n≤1048576)
def zdE(n:Int):Bool:=decide (0≤n)&&decide (n≤255)
def yL(k:Int):List (Str×Int×Bool):=
 if k=1 then [((⟨#[112,117,116]⟩:ByteArray),2,true),((⟨#[103,101,116]⟩:ByteArray),1,false),((⟨#[114,101,109,111,118,101]⟩:ByteArray),1,true),((⟨#[102,108,111,111,114]⟩:ByteArray),1,false),((⟨#[99,101,105,108,105,110,103]⟩:ByteArray),1,false),((⟨#[114,97,110,107]⟩:ByteArray),1,false),((⟨#[115,101,108,101,99,116]⟩:ByteArray),1,false),((⟨#[115,105,122,101]⟩:ByteArray),0,false)]
 else if k=2 then [((⟨#[105,110,115,101,114,116]⟩:ByteArray),1,true),((⟨#[109,105,110]⟩:ByteArray),0,false),((⟨#[100,101,108,101,116,101,109,105,110]⟩:ByteArray),0,true),((⟨#[115,105,122,101]⟩:ByteArray),0,false)]
 else if k=3 then [((⟨#[105,110,115,101,114,116]⟩:ByteArray),2,true),((⟨#[114,101,109,111,118,101]⟩:ByteArray),1,true),((⟨#[103,101,116]⟩:ByteArray),1,false),((⟨#[115,101,116]⟩:ByteArray),2,true),((⟨#[115,117,109]⟩:ByteArray),2,false),((⟨#[114,101,118,101,114,115,101]⟩:ByteArray),2,true),((⟨#[115,105,122,101]⟩:ByteArray),0,false)]
 else if k=4 then [((⟨#[109,97,107,101]⟩:ByteArray),0,true),((⟨#[117,110,105,111,110]⟩:ByteArray),2,true),((⟨#[115,97,109,101]⟩:ByteArray),2,false),((⟨#[115,105,122,101]⟩:ByteArray),1,false),((⟨#[99,111,117,110,116]⟩:ByteArray),0,false)]
 else if k=5 then [((⟨#[97,100,100]⟩:ByteArray),3,true),((⟨#[114,101,109,111,118,101]⟩:ByteArray),2,true),((⟨#[99,111,117,110,116]⟩:ByteArray),4,false),((⟨#[115,117,109]⟩:ByteArray),4,false),((⟨#[115,105,122,101]⟩:ByteArray),0,false)]
 else if k=6 then [((⟨#[97,112,112,101,110,100]⟩:ByteArray), -1,true),((⟨#[99,111,117,110,116]⟩:ByteArray), -1,false),((⟨#[102,105,110,100]⟩:ByteArray), -1,false),((⟨#[115,105,122,101]⟩:ByteArray),0,false)]
 else []
def zee(w:Str×Int×Bool):List PV:=[ks w.1,ki w.2.1,.k (.bool w.2.2)]
def okOp(k:Int)(o:OpT):Bool:=decide (1≤o.code)&&match(yL k)[(o.code - 1).toNat]? with
 |none=>false
 |some w=>if w.2.1<0 then decide (1≤o.args.length)&&decide (o.args.length≤64)&&o.args.all zdE else decide ((o.args.length:Int)=w.2.1)&&o.args.all vC
def ltC:Nat→Rw→Rw→Bool
 |0,_,_=>false
 |c+1,a::r,b::s=>if a=b then ltC c r s else decide (a<b)
 |_,_,_=>false
def ascB(p:Rw→Rw→Bool):Rws→Bool
 |a::b::r=>p a b&&ascB p (b::r)
 |_=>true
def tableB(w:Nat)(p:Rw→Rw→Bool)(R:Rws):Bool:=R.all (fun r=>decide (r.length=w)&&r.all vC)&&ascB p R
def ascI(l:List Int):Bool:=match l with
 |a::b::r=>decide (a<b)&&ascI (b::r)
 |_=>true
def zao(R:Rws):Bool:=decide (R.flatten.length≤500)&&R.all (fun r=> !decide (r=[])&&ascI r)&&ascB (fun a b=>decide (at0 a 0<at0 b 0)) R
 &&R.flatten.all (fun x=>decide (0≤x)&&decide (x<R.flatten.length))&&decide R.flatten.Nodup
def textB(R:Rws):Bool:=match R with
 | []=>true
 | [r]=>decide (1≤r.length)&&decide (r.length≤500)&&r.all zdE
 |_=>false
def zU(k:Int)(R:Rws):Bool:=decide (R.length≤500)&&
 if k=1 then tableB 2 (ltC 1) R else if k=2 then tableB 1 (fun a b=> !ltC 1 b a) R else if k=3 then tableB 1 (fun _ _=>true) R
 else if k=4 then zao R else if k=5 then tableB 3 (ltC 2) R else if k=6 then textB R else false
def vA(c:Nat)(R:Rws)(a:Rw):Nat:=(R.takeWhile fun r=>ltC c r a).length
def hasC(c:Nat)(R:Rws)(a:Rw):Bool:=match R[vA c R a]? with
 |some r=>decide (r.take c=a.take c)
 |none=>false
def zaW(R:Rws)(i:Nat)(x:Rw):Rws:=R.take i++x::R.drop i
def yH(R:Rws)(o:OpT):Rws×RsT:=
 if o.code=8 then(R,okR R.length)
 else if o.code=7 then(if 0≤at0 o.args 0∧at0 o.args 0<R.length then(R,okR (at0 (wC R (at0 o.args 0).toNat) 0))else(R,erR 2))
 else
  let i:=vA 1 R o.args
  let ok:=hasC 1 R o.args
  if o.code=1 then(if ok=true then(R.set i ((wC R i).set 1 (at0 o.args 1)),okR 1)else if R.length=500 then(R,erR 4)else(zaW R i o.args,okR 0))
  else if o.code=6 then(R,okR i)
  else if o.code=4 then(if ok=true then(R,okR (at0 o.args 0))else if i=0 then(R,erR 12)else(R,okR (at0 (wC R (i - 1)) 0)))
  else if o.code=5 then(if i=R.length then(R,erR 12)else(R,okR (at0 (wC R i) 0)))
  else if ok=true then(if o.code=3 then R.eraseIdx i else R,okR (at0 (wC R i) 1))else(R,erR 12)
def wP(R:Rws)(o:OpT):Rws×RsT:=
 if o.code=4 then(R,okR R.length)
 else if o.code=1 then(if R.length=500 then(R,erR 4)else(zaW R (vA 1 R o.args) o.args,okR 0))
 else if R.length=0 then(R,erR 14)else(if o.code=3 then R.eraseIdx 0 else R,okR (at0 (wC R 0) 0))
def zia(R:Rws):Int:=(R.map fun r=>at0 r 0).sum
def zmS(R:Rws)(a b:Nat):Rws:=R.take a++((R.take b).drop a).reverse++R.drop b
def vW(R:Rws)(o:OpT):Rws×RsT:=
 let a:=at0 o.args 0
 let b:=at0 o.args 1
 if o.code=7 then(R,okR R.length)
 else if o.code=5∨o.code=6 then
  (if a<0∨b<a∨(R.length:Int)<b then(R,erR 2)else if o.code=6 then(zmS R a.toNat b.toNat,okR 0)else(R,okR (zia ((R.take b.toNat).drop a.toNat))))
 else if o.code=1 then(if a<0∨(R.length:Int)<a then(R,erR 2)else if R.length=500 then(R,erR 4)else(zaW R a.toNat [b],okR 0))
 else if a<0∨(R.length:Int)≤a then(R,erR 2)
 else(if o.code=2 then R.eraseIdx a.toNat else if o.code=4 then R.set a.toNat ((wC R a.toNat).set 0 b)else R,okR (at0 (wC R a.toNat) 0))
def clsI(x:Int):Rws→Nat→Int
 | [],_=> -1
 |r::R,k=>if x∈r then k else clsI x R (k+1)
def mergeI:List Int→List Int→List Int
 | [],b=>b
 |a,[]=>a
 |x::a,y::b=>if x<y then x::mergeI a (y::b)else y::mergeI (x::a) b
termination_by a b=>a.length+b.length
def x6(R:Rws)(o:OpT):Rws×RsT:=
 if o.code=5 then(R,okR R.length)
 else if o.code=1 then(if R.flatten.length=500 then(R,erR 4)else(R++[[(R.flatten.length:Int)]],okR R.flatten.length))
 else
  let a:=clsI (at0 o.args 0) R 0
  if o.code=4 then(if a<0 then(R,erR 12)else(R,okR (wC R a.toNat).length))
  else
   let b:=clsI (at0 o.args 1) R 0
   if a<0∨b<0 then(R,erR 12)else if o.code=3 then(R,okR (if a=b then 1 else 0))else if a=b then(R,okR 0)
   else((R.set (min a b).toNat (mergeI (wC R a.toNat) (wC R b.toNat))).eraseIdx (max a b).toNat,okR 1)
def zpw(a r:Rw):Bool:=decide (at0 a 0≤at0 r 0)&&decide (at0 r 0≤at0 a 1)&&decide (at0 a 2≤at0 r 1)&&decide (at0 r 1≤at0 a 3)
def zpx(R:Rws)(o:OpT):Rws×RsT:=
 if o.code=5 then(R,okR R.length)
 else if o.code=3 then(R,okR (R.filter (zpw o.args)).length)
 else if o.code=4 then(R,okR (((R.filter (zpw o.args)).map fun r=>at0 r 2).sum))
 else
  let i:=vA 2 R o.args
  let ok:=hasC 2 R o.args
  if o.code=1 then(if ok=true then(R,erR 15)else if R.length=500 then(R,erR 4)else(zaW R i o.args,okR 0))
  else if ok=true then(R.eraseIdx i,okR (at0 (wC R i) 2))else(R,erR 12)
def zuf(l p:List Int)(k:Nat):Bool:=decide (((l.drop k).take p.length)=p)
def occs(l p:List Int):List Nat:=(List.range l.length).filter (zuf l p)
def textS(R:Rws)(o:OpT):Rws×RsT:=
 let s:=wC R 0
 if o.code=4 then(R,okR s.length)
 else if o.code=1 then(if 500<s.length+o.args.length then(R,erR 4)else([s++o.args],okR 0))
 else if o.code=2 then(R,okR (occs s o.args).length)
 else match(occs s o.args).head? with
  |some i=>(R,okR i)
  |none=>(R,erR 12)
def xn(k:Int)(R:Rws)(o:OpT):Rws×RsT:=
 if k=1 then yH R o else if k=2 then wP R o else if k=3 then vW R o else if k=4 then x6 R o else if k=5 then zpx R o else textS R o
def runS(k:Int):Rws→List OpT→Rws×List RsT
 |R,[]=>(R,[])
 |R,o::l=>((runS k (xn k R o).1 l).1,(xn k R o).2::(runS k (xn k R o).1 l).2)
end Hw.Fr.Md
namespace Hw.Fr.Md
open Go Go.Proofs Hw.M
def cmpI:List Int→List Int→Int
 | [],[]=>0
 | [],_::_=> -1
 |_::_,[]=>1
 |a::r,b::s=>if a<b then -1 else if b<a then 1 else cmpI r s
theorem zgF: ∀(c:Nat) (r a:Rw),c≤r.length→c≤a.length→(cmpI (r.take c) (a.take c)<0↔ltC c r a=true)∧(cmpI (r.take c) (a.take c)=0↔r.take c=a.take c)
 |0,r,a,_,_=>by simp[cmpI,ltC]
 |c+1,[],a,h,_=>by simp at h
 |c+1,x::r,[],_,h=>by simp at h
 |c+1,x::r,y::a,h1,h2=>by
  have ih:=zgF c r a (by simpa using h1) (by simpa using h2)
  simp only[List.take_succ_cons,cmpI,ltC]
  by_cases hlt:x<y
  ·rw[if_pos hlt,if_neg (by omega),decide_eq_true hlt]
   refine⟨by decide,⟨(fun h=>by cases h),fun h=>?_⟩⟩
   have:=(List.cons.inj h).1;omega
  ·rw[if_neg hlt]
   by_cases hgt:y<x
   ·rw[if_pos hgt,if_neg (by omega),decide_eq_false hlt]
    refine⟨⟨(fun h=>absurd h (by decide)),(fun h=>by cases h)⟩,⟨(fun h=>by cases h),fun h=>?_⟩⟩
    have:=(List.cons.inj h).1;omega
   ·obtain rfl:x=y:=by omega
    rw[if_neg hgt,if_pos rfl]
    refine⟨ih.1,ih.2.trans ⟨fun h=>by rw[h],fun h=>(List.cons.inj h).2⟩⟩
theorem vI: ∀(c:Nat) {a b d:Rw},ltC c a b=true→ltC c b d=true→ltC c a d=true
 |0,_,_,_,h,_=>by simp[ltC]at h
 |c+1,[],_,_,h,_=>by simp[ltC]at h
 |c+1,_::_,[],_,h,_=>by simp[ltC]at h
 |c+1,_::_,_::_,[],_,h=>by simp[ltC]at h
 |c+1,x::a,y::b,z::d,h,h2=>by
  simp only[ltC]at h h2⊢
  by_cases e1:x=y
  ·subst e1
   rw[if_pos rfl]at h
   by_cases e2:x=z
   ·rw[if_pos e2]at h2 ⊢; exact vI c h h2
   ·rw[if_neg e2]at h2 ⊢; exact h2
  ·rw[if_neg e1,decide_eq_true_eq]at h
   by_cases e2:y=z
   ·subst e2;rw[if_neg e1];exact decide_eq_true h
   ·rw[if_neg e2,decide_eq_true_eq]at h2
    rw[if_neg (by omega)];exact decide_eq_true (by omega)
theorem zfM: ∀(c:Nat) (a:Rw),ltC c a a=false
 |0,_=>rfl
 |c+1,[]=>rfl
 |c+1,x::a=>by simp only[ltC,if_true];exact zfM c a
theorem zfN: ∀(c:Nat) {a b:Rw},c≤a.length→c≤b.length→ltC c a b=false→a.take c≠b.take c→ltC c b a=true
 |0,_,_,_,_,_,h=>absurd (by simp) h
 |c+1,[],_,h,_,_,_=>by simp at h
 |c+1,_::_,[],_,h,_,_=>by simp at h
 |c+1,x::a,y::b,h1,h2,h,hn=>by
  simp only[ltC]at h⊢
  by_cases e:x=y
  ·subst e
   rw[if_pos rfl]at h⊢
   exact zfN c (by simpa using h1) (by simpa using h2) h fun e=>hn (by simp[e])
  ·rw[if_neg e]at h
   rw[if_neg fun e'=>e e'.symm]
   have:=of_decide_eq_false h
   exact decide_eq_true (by omega)
theorem zdc: ∀(c:Nat) (a b d:Rw),a.take c=b.take c→c≤a.length→c≤b.length→ltC c a d=ltC c b d
 |0,_,_,_,_,_,_=>rfl
 |c+1,[],_,_,_,h,_=>by simp at h
 |c+1,_::_,[],_,_,_,h=>by simp at h
 |c+1,x::a,y::b,[],_,_,_=>rfl
 |c+1,x::a,y::b,z::d,h,h1,h2=>by
  simp only[List.take_succ_cons,List.cons.injEq]at h
  obtain⟨rfl,h⟩:=h
  simp only[ltC]
  rw[zdc c a b d h (by simpa using h1) (by simpa using h2)]
theorem zap{a b:Rw}(ha:a≠ [])(hb:b≠ []):ltC 1 a b=decide (at0 a 0<at0 b 0):=by
 cases a with
 |nil=>exact absurd rfl ha
 |cons x a=>cases b with
  |nil=>exact absurd rfl hb
  |cons y b=>
   simp only[ltC,at0,List.getElem?_cons_zero,Option.getD_some]
   by_cases e:x=y
   ·subst e;simp
   ·rw[if_neg e];exact decide_eq_decide.2 Iff.rfl
theorem zkc{α:Type}{p:α→Bool}: ∀ {l:List α} {i:Nat},i≤l.length→(∀j x,j<i→l[j]?=some x→p x=true)→(∀x,l[i]?=some x→p x=false)→(l.takeWhile p).length=i
 | [],i,h,_,_=>by simp at h;simp[h]
 |x::l,0,_,_,h=>by rw[List.takeWhile_cons,if_neg (by rw[h x rfl];simp)];rfl
 |x::l,i+1,hi,h1,h2=>by
  rw[List.takeWhile_cons,if_pos (h1 0 x (by omega) rfl),List.length_cons]
  rw[zkc (i:=i) (by simpa using hi) (fun j y hj hy=>h1 (j+1) y (by omega) (by simpa using hy)) fun y hy=>h2 y (by simpa using hy)]
theorem zri{α:Type}{p:α→Bool}: ∀(l:List α),(l.takeWhile p).length≤l.length
 | []=>by simp
 |x::l=>by
  rw[List.takeWhile_cons];split
  ·simp only[List.length_cons];have:=zri (p:=p) l;omega
  ·simp
theorem zef{α:Type}{p:α→Bool}: ∀ {l:List α} {j:Nat} {x:α},j<(l.takeWhile p).length→l[j]?=some x→p x=true
 | [],j,x,h,_=>by simp at h
 |y::l,j,x,h,hx=>by
  rw[List.takeWhile_cons]at h
  split at h
  ·rename_i hp
   cases j with
   |zero=>simp only[List.getElem?_cons_zero,Option.some.injEq]at hx;rw[←hx];exact hp
   |succ j=>exact zef (by simpa using h) (by simpa using hx)
  ·simp at h
theorem zpy{α:Type}{p:α→Bool}: ∀ {l:List α} {x:α},l[(l.takeWhile p).length]?=some x→p x=false
 | [],x,h=>by simp at h
 |y::l,x,h=>by
  rw[List.takeWhile_cons]at h
  split at h
  ·rename_i hp;exact zpy (by simpa using h)
  ·rename_i hp
   simp only[List.length_nil,List.getElem?_cons_zero,Option.some.injEq]at h
   rw[←h];simpa using hp
theorem zaq(c:Nat)(R:Rws)(a:Rw):vA c R a≤R.length:=zri R
theorem vX{p:Rw→Rw→Bool}: ∀ {R:Rws},ascB p R=true↔ ∀(i:Nat) a b,R[i]?=some a→R[i+1]?=some b→p a b=true
 | []=>⟨fun _ i a b h=>by simp at h,fun _=>rfl⟩
 | [x]=>⟨fun _ i a b _ h=>by simp at h,fun _=>rfl⟩
 |x::y::r=>by
  have ih:=vX (p:=p) (R:=y::r)
  simp only[ascB,Bool.and_eq_true,ih]
  constructor
  ·rintro⟨h1,h2⟩ i a b ha hb
   cases i with
   |zero=>simp at ha hb;rw[←ha,←hb];exact h1
   |succ i=>exact h2 i a b (by simpa using ha) (by simpa using hb)
  ·exact fun h=>⟨h 0 x y rfl rfl,fun i a b ha hb=>h (i+1) a b (by simpa using ha) (by simpa using hb)⟩
theorem zgG{p:Rw→Rw→Bool}{R:Rws}(ht: ∀a b d,a∈R→b∈R→d∈R→p a b=true→p b d=true→p a d=true)(h:ascB p R=true): ∀(n i:Nat) a b,R[i]?=some a→R[i+1+n]?=some b→p a b=true
 |0,i,a,b,ha,hb=>vX.1 h i a b ha hb
 |n+1,i,a,b,ha,hb=>by
  have hlt:=(List.getElem?_eq_some_iff.1 hb).1
  obtain⟨d,hd⟩:=zf (l:=R) (i:=i+1+n) (by omega)
  exact ht a d b (List.mem_of_getElem? ha) (List.mem_of_getElem? hd) (List.mem_of_getElem? hb) (zgG ht h n i a d ha hd) (vX.1 h (i+1+n) d b hd (by rw[show i+1+n+1=i+1+(n+1) by omega];exact hb))
theorem wJ{p:Rw→Rw→Bool}{R:Rws}(ht: ∀a b d,a∈R→b∈R→d∈R→p a b=true→p b d=true→p a d=true):ascB p R=true↔R.Pairwise fun a b=>p a b=true:=by
 constructor
 ·intro h
  rw[List.pairwise_iff_getElem]
  intro i j hi hj hij
  exact zgG ht h (j - i - 1) i _ _ (List.getElem?_eq_getElem hi) (by rw[show i+1+(j - i - 1)=j by omega];exact List.getElem?_eq_getElem hj)
 ·intro h
  rw[List.pairwise_iff_getElem]at h
  refine vX.2 fun i a b ha hb=>?_
  obtain⟨h1,rfl⟩:=List.getElem?_eq_some_iff.1 ha
  obtain⟨h2,rfl⟩:=List.getElem?_eq_some_iff.1 hb
  exact h i (i+1) h1 h2 (by omega)
end Hw.Fr.Md
namespace Hw.Fr.Md
open Go Go.Proofs Hw.M
theorem zmT{n:Int}:vC n=true↔ -1048576≤n∧n≤1048576:=by simp[vC]
structure xy (w:Nat) (p:Rw→Rw→Bool) (R:Rws):Prop where
 wide: ∀r∈R,r.length=w
 nums: ∀r∈R,∀x∈r,vC x=true
 asc:R.Pairwise fun a b=>p a b=true
def TrW(w:Nat)(p:Rw→Rw→Bool):Prop:= ∀a b d:Rw,a.length=w→b.length=w→d.length=w→p a b=true→p b d=true→p a d=true
theorem wx{w:Nat}{p:Rw→Rw→Bool}(ht:TrW w p){R:Rws}:tableB w p R=true↔xy w p R:=by
 unfold tableB
 simp only[Bool.and_eq_true,List.all_eq_true,decide_eq_true_eq]
 constructor
 ·rintro⟨h1,h2⟩
  exact⟨fun r hr=>(h1 r hr).1,fun r hr=>(h1 r hr).2,(wJ fun a b d ha hb hd=>ht a b d (h1 a ha).1 (h1 b hb).1 (h1 d hd).1).1 h2⟩
 ·rintro⟨h1,h2,h3⟩
  exact⟨fun r hr=>⟨h1 r hr,h2 r hr⟩,(wJ fun a b d ha hb hd=>ht a b d (h1 a ha) (h1 b hb) (h1 d hd)).2 h3⟩
theorem xy.sub{w:Nat}{p:Rw→Rw→Bool}{R R':Rws}(h:xy w p R)(hs:R'.Sublist R):xy w p R':=
 ⟨fun r hr=>h.wide r (hs.subset hr),fun r hr=>h.nums r (hs.subset hr),h.asc.sublist hs⟩
theorem xy.ins{w:Nat}{p:Rw→Rw→Bool}{R:Rws}(h:xy w p R){i:Nat}{x:Rw}(hw:x.length=w)(hn: ∀y∈x,vC y=true)(h1: ∀r∈R.take i,p r x=true)(h2: ∀r∈R.drop i,p x r=true):xy w p (zaW R i x):=by
 have hm: ∀r∈zaW R i x,r∈R∨r=x:=fun r hr=>by
  simp only[zaW,List.mem_append,List.mem_cons]at hr
  rcases hr with hr|rfl|hr
  ·exact .inl (List.mem_of_mem_take hr)
  ·exact .inr rfl
  ·exact .inl (List.mem_of_mem_drop hr)
 have hs:(R.take i++R.drop i).Pairwise fun a b=>p a b=true:=by rw[List.take_append_drop];exact h.asc
 rw[List.pairwise_append]at hs
 refine⟨fun r hr=>?_,fun r hr=>?_,?_⟩
 ·rcases hm r hr with hr|rfl
  ·exact h.wide r hr
  ·exact hw
 ·rcases hm r hr with hr|rfl
  ·exact h.nums r hr
  ·exact hn
 ·rw[zaW,List.pairwise_append]
  refine⟨hs.1,List.pairwise_cons.2 ⟨h2,hs.2.1⟩,fun a ha b hb=>?_⟩
  rcases List.mem_cons.1 hb with rfl|hb
  ·exact h1 a ha
  ·exact hs.2.2 a ha b hb
theorem zpz(c w:Nat):TrW w (ltC c):=fun _ _ _ _ _ _ h h2=>vI c h h2
theorem zrj:TrW 1 fun a b=> !ltC 1 b a:=fun a b d ha hb hd h h2=>by
 have na:a≠ []:=fun e=>by subst e;simp at ha
 have nb:b≠ []:=fun e=>by subst e;simp at hb
 have nd:d≠ []:=fun e=>by subst e;simp at hd
 simp only[zap nb na,zap nd nb,zap nd na,Bool.not_eq_true',decide_eq_false_iff_not]at h h2⊢
 omega
theorem zoj(w:Nat):TrW w fun _ _=>true:=fun _ _ _ _ _ _ _ _=>rfl
theorem jY{c w:Nat}{p:Rw→Rw→Bool}{R:Rws}(h:xy w p R)(hp: ∀r s a:Rw,r.length=w→s.length=w→p r s=true→ltC c s a=true→ltC c r a=true)(a:Rw):
 (∀r∈R.take (vA c R a),ltC c r a=true)∧(∀r∈R.drop (vA c R a),ltC c r a=false):=by
 constructor
 ·intro r hr
  obtain⟨j,hj⟩:=List.mem_iff_getElem?.1 hr
  rw[List.getElem?_take]at hj
  split at hj
  ·rename_i hlt;exact zef (p:=fun r=>ltC c r a) hlt hj
  ·cases hj
 ·intro r hr
  obtain⟨j,hj⟩:=List.mem_iff_getElem?.1 hr
  rw[List.getElem?_drop]at hj
  have hlt:=(List.getElem?_eq_some_iff.1 hj).1
  obtain⟨s,hs⟩:=zf (l:=R) (i:=vA c R a) (by omega)
  have h0:ltC c s a=false:=zpy (p:=fun r=>ltC c r a) hs
  cases j with
  |zero=>rw[Nat.add_zero,hs]at hj;obtain rfl:=Option.some.inj hj;exact h0
  |succ j=>
   cases h1:ltC c r a with
   |false=>rfl
   |true=>
    have hps:p s r=true:=by
     have:=h.asc
     rw[List.pairwise_iff_getElem]at this
     obtain⟨g1,g2⟩:=List.getElem?_eq_some_iff.1 hs
     obtain⟨g3,g4⟩:=List.getElem?_eq_some_iff.1 hj
     rw[←g2,←g4]
     exact this _ _ g1 g3 (by omega)
    rw[hp s r a (h.wide s (List.mem_of_getElem? hs)) (h.wide r (List.mem_of_getElem? hj)) hps h1]at h0
    cases h0
theorem zkd{c w:Nat}: ∀r s a:Rw,r.length=w→s.length=w→ltC c r s=true→ltC c s a=true→ltC c r a=true:=fun _ _ _ _ _ h h2=>vI c h h2
theorem zke: ∀r s a:Rw,r.length=1→s.length=1→(!ltC 1 s r)=true→ltC 1 s a=true→ltC 1 r a=true:=fun r s a hr hs h h2=>by
 have nr:r≠ []:=fun e=>by subst e;simp at hr
 have ns:s≠ []:=fun e=>by subst e;simp at hs
 have na:a≠ []:=fun e=>by subst e;cases s<;>simp[ltC]at h2
 simp only[zap ns nr,zap ns na,zap nr na,Bool.not_eq_true',decide_eq_false_iff_not,decide_eq_true_eq]at h h2⊢
 omega
theorem zpA{c w:Nat}{R:Rws}(h:xy w (ltC c) R)(hcw:c≤w){a:Rw}(ha:c≤a.length)(hn:hasC c R a=false): ∀r∈R.drop (vA c R a),ltC c a r=true:=by
 intro r hr
 have h1:=(jY h zkd a).2 r hr
 have hm:=List.mem_of_mem_drop hr
 refine zfN c (by rw[h.wide r hm];exact hcw) ha h1 fun e=>?_
 obtain⟨j,hj⟩:=List.mem_iff_getElem?.1 hr
 rw[List.getElem?_drop]at hj
 have hlt:=(List.getElem?_eq_some_iff.1 hj).1
 obtain⟨s,hs⟩:=zf (l:=R) (i:=vA c R a) (by omega)
 have hsm:=List.mem_of_getElem? hs
 have hne:s.take c≠a.take c:=fun e=>by
  unfold hasC at hn
  rw[hs]at hn
  exact absurd e (of_decide_eq_false hn)
 cases j with
 |zero=>rw[Nat.add_zero,hs]at hj;obtain rfl:=Option.some.inj hj;exact hne e
 |succ j=>
  have hps:ltC c s r=true:=by
   have:=h.asc
   rw[List.pairwise_iff_getElem]at this
   obtain⟨g1,g2⟩:=List.getElem?_eq_some_iff.1 hs
   obtain⟨g3,g4⟩:=List.getElem?_eq_some_iff.1 hj
   rw[←g2,←g4]
   exact this _ _ g1 g3 (by omega)
  have h0:ltC c s a=false:=zpy (p:=fun r=>ltC c r a) hs
  have:=zfN c (by rw[h.wide s hsm];exact hcw) ha h0 hne
  -- a before s before r, and r's first columns are a's
  have h2:=vI c this hps
  rw[←zdc c r a r e (by rw[h.wide r hm];exact hcw) ha,zfM]at h2
  cases h2
end Hw.Fr.Md
namespace Hw.Fr.Md
open Go Go.Proofs Hw.M
theorem xd: ∀(n:Nat) (a b:List Int),a.length+b.length≤n→(mergeI a b).Perm (a++b)
 |_,[],b,_=>by rw[mergeI];exact .refl _
 |_,x::a,[],_=>by rw[mergeI,List.append_nil];simp
 |0,x::a,y::b,h=>by simp at h
 |n+1,x::a,y::b,h=>by
  simp only[List.length_cons]at h
  rw[mergeI]
  split
  ·exact(xd n a (y::b) (by simp only[List.length_cons];omega)).cons x
  ·exact((xd n (x::a) b (by simp only[List.length_cons];omega)).cons y).trans List.perm_middle.symm
theorem zco(a:List Int):mergeI a []=a:=by cases a<;>simp[mergeI]
theorem vY: ∀(n:Nat) (a b:List Int),a.length+b.length≤n→a.Pairwise (· < ·)→b.Pairwise (· < ·)→(∀x∈a,x∉b)→(mergeI a b).Pairwise (· < ·)
 |_,[],b,_,_,h,_=>by rw[mergeI];exact h
 |_,x::a,[],_,h,_,_=>by rw[zco];exact h
 |0,x::a,y::b,h,_,_,_=>by simp at h
 |n+1,x::a,y::b,h,ha,hb,hd=>by
  simp only[List.length_cons]at h
  have ha':=List.pairwise_cons.1 ha
  have hb':=List.pairwise_cons.1 hb
  rw[mergeI]
  split
  ·rename_i hlt
   refine List.pairwise_cons.2 ⟨fun z hz=>?_,vY n a (y::b) (by simp only[List.length_cons];omega) ha'.2 hb fun z hz=>hd z (List.mem_cons_of_mem _ hz)⟩
   rcases List.mem_append.1 ((xd _ a (y::b) (Nat.le_refl _)).mem_iff.1 hz)with hz|hz
   ·exact ha'.1 z hz
   ·rcases List.mem_cons.1 hz with rfl|hz
    ·exact hlt
    ·have:=hb'.1 z hz;omega
  ·rename_i hge
   have hne:x≠y:=fun e=>hd x (List.mem_cons_self ..) (by rw[e];exact List.mem_cons_self ..)
   refine List.pairwise_cons.2 ⟨fun z hz=>?_,vY n (x::a) b (by simp only[List.length_cons];omega) ha hb'.2 fun z hz hm=>hd z hz (List.mem_cons_of_mem _ hm)⟩
   rcases List.mem_append.1 ((xd _ (x::a) b (Nat.le_refl _)).mem_iff.1 hz)with hz|hz
   ·rcases List.mem_cons.1 hz with rfl|hz
    ·omega
    ·have:=ha'.1 z hz;omega
   ·exact hb'.1 z hz
theorem zgH: ∀ {l:List Int},ascI l=true↔l.Pairwise (· < ·)
 | []=>by simp[ascI]
 | [x]=>by simp[ascI]
 |x::y::l=>by
  have ih:=zgH (l:=y::l)
  simp only[ascI,Bool.and_eq_true,decide_eq_true_eq,ih]
  rw[List.pairwise_cons (a:=x)]
  constructor
  ·rintro⟨h1,h2⟩
   refine⟨fun z hz=>?_,h2⟩
   rcases List.mem_cons.1 hz with rfl|hz
   ·exact h1
   ·have:=(List.pairwise_cons.1 h2).1 z hz;omega
  ·exact fun⟨h1,h2⟩=>⟨h1 y (List.mem_cons_self ..),h2⟩
theorem jZ: ∀ {a b:List Int},a.Perm b→a.Pairwise (· ≤ ·)→b.Pairwise (· ≤ ·)→a=b
 | [],b,h,_,_=>h.nil_eq
 |x::a,[],h,_,_=>by have:=h.length_eq;simp at this
 |x::a,y::b,h,ha,hb=>by
  have ha':=List.pairwise_cons.1 ha
  have hb':=List.pairwise_cons.1 hb
  have h1:x=y:=by
   have hx:=h.mem_iff.1 (List.mem_cons_self .. :x∈x::a)
   have hy:=h.mem_iff.2 (List.mem_cons_self .. :y∈y::b)
   rcases List.mem_cons.1 hx with hx|hx
   ·exact hx
   ·rcases List.mem_cons.1 hy with hy|hy
    ·exact hy.symm
    ·have:=ha'.1 y hy;have:=hb'.1 x hx;omega
  subst h1
  rw[jZ (h.cons_inv) ha'.2 hb'.2]
theorem zrk{l:List Int}(h:l.Pairwise (· < ·)):l.Pairwise (· ≤ ·):=h.imp fun h=>by omega
structure yM (R:Rws):Prop where
 tot:R.flatten.length≤500
 ne: ∀r∈R,r≠ []
 asc: ∀r∈R,r.Pairwise (· < ·)
 fst:(R.map fun r=>at0 r 0).Pairwise (· < ·)
 rng: ∀x∈R.flatten,0≤x∧x<(R.flatten.length:Int)
 nd:R.flatten.Nodup
theorem j4{R:Rws}:zao R=true↔yM R:=by
 unfold zao
 have hp:=wJ (p:=fun a b=>decide (at0 a 0<at0 b 0)) (R:=R) fun a b d _ _ _ h h2=>by
  have:=of_decide_eq_true h;have:=of_decide_eq_true h2;exact decide_eq_true (by omega)
 simp only[Bool.and_eq_true,List.all_eq_true,decide_eq_true_eq,hp,Bool.not_eq_true',decide_eq_false_iff_not,zgH]
 constructor
 ·rintro⟨⟨⟨⟨h1,h2⟩,h3⟩,h4⟩,h5⟩
  exact⟨h1,fun r hr=>(h2 r hr).1,fun r hr=>(h2 r hr).2,by rw[List.pairwise_map];exact h3,h4,h5⟩
 ·rintro⟨h1,h2,h3,h4,h5,h6⟩
  exact⟨⟨⟨⟨h1,fun r hr=>⟨h2 r hr,h3 r hr⟩⟩,by rw[List.pairwise_map]at h4;exact h4⟩,h5⟩,h6⟩
theorem zok: ∀ {R:Rws},(∀r∈R,r≠ [])→R.length≤R.flatten.length
 | [],_=>Nat.le_refl _
 |r::R,h=>by
  have h1:r≠ []:=h r (List.mem_cons_self ..)
  have:=List.length_pos_iff.2 h1
  have:=zok (R:=R) fun x hx=>h x (List.mem_cons_of_mem _ hx)
  simp only[List.flatten_cons,List.length_append,List.length_cons];omega
theorem yM.make{R:Rws}(h:yM R)(hn:R.flatten.length≠500):yM (R++[[(R.flatten.length:Int)]]):=by
 have hf:(R++[[(R.flatten.length:Int)]]).flatten=R.flatten++[(R.flatten.length:Int)]:=by simp
 have hl:(R++[[(R.flatten.length:Int)]]).flatten.length=R.flatten.length+1:=by rw[hf];simp
 have ht:=h.tot
 refine⟨by omega,fun r hr=>?_,fun r hr=>?_,?_,fun x hx=>?_,?_⟩
 ·rcases List.mem_append.1 hr with hr|hr
  ·exact h.ne r hr
  ·rw[List.mem_singleton.1 hr];simp
 ·rcases List.mem_append.1 hr with hr|hr
  ·exact h.asc r hr
  ·rw[List.mem_singleton.1 hr];simp
 ·rw[List.map_append,List.pairwise_append]
  refine⟨h.fst,by simp,fun a ha b hb=>?_⟩
  obtain⟨r,hr,rfl⟩:=List.mem_map.1 ha
  simp only[List.map_cons,List.map_nil,List.mem_singleton]at hb
  subst hb
  have hr0:=h.ne r hr
  cases r with
  |nil=>exact absurd rfl hr0
  |cons x r=>
   have:=(h.rng x (List.mem_flatten.2 ⟨_,hr,List.mem_cons_self ..⟩)).2
   simpa [at0]using this
 ·rw[hl]
  rw[hf]at hx
  rcases List.mem_append.1 hx with hx|hx
  ·have:=h.rng x hx;omega
  ·rw[List.mem_singleton.1 hx];omega
 ·rw[hf,List.nodup_append]
  refine⟨h.nd,by simp,fun a ha b hb e=>?_⟩
  have:=(h.rng a ha).2
  rw[List.mem_singleton.1 hb]at e
  omega
theorem zeg{R:Rws}{a b:Nat}{A B:Rw}(ha:R[a]?=some A)(hb:R[b]?=some B)(hab:a<b): ∃Pr Qr Sr:Rws,R=Pr++A::(Qr++B::Sr)∧ ∀M:Rw,(R.set a M).eraseIdx b=Pr++M::(Qr++Sr):=by
 obtain⟨ha1,ha2⟩:=List.getElem?_eq_some_iff.1 ha
 obtain⟨hb1,hb2⟩:=List.getElem?_eq_some_iff.1 hb
 have e1:R=R.take a++A::R.drop (a+1):=by
  rw[←ha2,←List.drop_eq_getElem_cons ha1,List.take_append_drop]
 have hd:(R.drop (a+1))[b - a - 1]?=some B:=by rw[List.getElem?_drop,show a+1+(b - a - 1)=b by omega];exact hb
 obtain⟨hd1,hd2⟩:=List.getElem?_eq_some_iff.1 hd
 have e2:R.drop (a+1)=(R.drop (a+1)).take (b - a - 1)++B::(R.drop (a+1)).drop (b - a - 1+1):=by
  rw[←hd2,←List.drop_eq_getElem_cons hd1,List.take_append_drop]
 have hlp:(R.take a).length=a:=by rw[List.length_take];omega
 have hlq:((R.drop (a+1)).take (b - a - 1)).length=b - a - 1:=by rw[List.length_take,List.length_drop];omega
 refine⟨R.take a,(R.drop (a+1)).take (b - a - 1),(R.drop (a+1)).drop (b - a - 1+1),by rw[←e2];exact e1,fun M=>?_⟩
 generalize R.take a=Pr at e1 hlp
 generalize (R.drop (a+1)).take (b - a - 1)=Qr at e2 hlq
 generalize (R.drop (a+1)).drop (b - a - 1+1)=Sr at e2
 rw[e1,e2]
 rw[List.set_append_right _ _ (by omega),hlp,Nat.sub_self,List.set_cons_zero,List.eraseIdx_append_of_length_le (by omega),hlp,show b - a=(b - a - 1)+1 by omega,List.eraseIdx_cons_succ,List.eraseIdx_append_of_length_le (by omega),hlq,Nat.sub_self]
 rfl
theorem zmU(Pr Qr Sr:Rws)(A B M:Rw)(h:M.Perm (A++B)):(Pr++M::(Qr++Sr)).flatten.Perm (Pr++A::(Qr++B::Sr)).flatten:=by
 simp only[List.flatten_append,List.flatten_cons]
 refine List.Perm.append_left _ ?_
 refine(List.Perm.append_right _ h).trans ?_
 rw[List.append_assoc]
 refine List.Perm.append_left _ ?_
 rw[←List.append_assoc,←List.append_assoc]
 exact List.Perm.append_right _ List.perm_append_comm
theorem yM.union{R:Rws}(h:yM R){a b:Nat}{A B:Rw}(ha:R[a]?=some A)(hb:R[b]?=some B)(hab:a<b):yM ((R.set a (mergeI A B)).eraseIdx b):=by
 obtain⟨Pr,Qr,Sr,e1,e2⟩:=zeg ha hb hab
 have hA:A∈R:=List.mem_of_getElem? ha
 have hB:B∈R:=List.mem_of_getElem? hb
 have hperm:=zmU Pr Qr Sr A B _ (xd _ A B (Nat.le_refl _))
 rw[←e1]at hperm
 rw[e2]
 have hdis: ∀x∈A,x∉B:=fun x hx hy=>by
  have:=h.nd
  rw[e1]at this
  simp only[List.flatten_append,List.flatten_cons]at this
  have h1:=(List.nodup_append.1 this).2.1
  have h2:=(List.nodup_append.1 h1).2.2 x hx x (by simp[hy])
  exact h2 rfl
 have hf:at0 (mergeI A B) 0=at0 A 0:=by
  have hlt:at0 A 0<at0 B 0:=by
   have:=h.fst
   rw[e1]at this
   simp only[List.map_append,List.map_cons]at this
   have h1:=(List.pairwise_append.1 this).2.1
   exact(List.pairwise_cons.1 h1).1 _ (by simp)
  cases A with
  |nil=>exact absurd rfl (h.ne _ hA)
  |cons x A=>cases B with
   |nil=>rw[zco]
   |cons y B=>
    rw[mergeI,if_pos (by simpa [at0]using hlt)]
    rfl
 have hmem: ∀r∈Pr++mergeI A B::(Qr++Sr),r=mergeI A B∨r∈R:=fun r hr=>by
  rw[e1]
  simp only[List.mem_append,List.mem_cons]at hr⊢
  rcases hr with hr|hr|hr|hr<;>simp[hr]
 refine⟨by rw[hperm.length_eq];exact h.tot,fun r hr=>?_,fun r hr=>?_,?_,fun x hx=>?_,(hperm.nodup_iff).2 h.nd⟩
 ·rcases hmem r hr with rfl|hr
  ·intro e
   have:=(xd _ A B (Nat.le_refl _)).length_eq
   rw[e]at this
   have h1:=List.length_pos_iff.2 (h.ne _ hA)
   simp at this
   omega
  ·exact h.ne r hr
 ·rcases hmem r hr with rfl|hr
  ·exact vY _ A B (Nat.le_refl _) (h.asc _ hA) (h.asc _ hB) hdis
  ·exact h.asc r hr
 ·have:=h.fst
  rw[e1]at this
  refine this.sublist ?_
  simp only[List.map_append,List.map_cons,hf]
  refine(List.Sublist.refl _).append ((List.Sublist.append (List.Sublist.refl _) ?_).cons_cons _)
  exact List.sublist_cons_self _ _
 ·rw[hperm.length_eq]
  exact h.rng x (hperm.mem_iff.1 hx)
end Hw.Fr.Md
namespace Hw.Fr.Md
open Go Go.Proofs Hw.M
theorem zcR(i:Nat):(i:Int)+1=((i+1:Nat):Int):=by omega
theorem yq{i:Nat}(h:i<9223372036854775807):IntKind.i64.wrap ((i:Int)+1)=((i+1:Nat):Int):=by rw[zcR];exact wrap64 (by omega)
end Hw.Fr.Md
/- The engine, part BD: a bag of arrays that the run owns: length, index, load, store. -/
namespace Hw
open Go
theorem vJ{M:Mem}{ρ:Nat→Value}{w:World}{id e q:Nat}{L:List (List (List PV))}{rs:List (List PV)}(h:zJ M ρ w id (.bag e L))(hq:L[q]?=some rs){v:Value}{xs:List Value}(hx:ρ id= .tuple xs.toArray)(hv:xs[q]?=some v):x7 M w v e rs:=by
 obtain⟨cs,h2,_,hc,_⟩:=h
 rw[h2]at hx
 simp only[Value.tuple.injEq]at hx
 have f3:xs=cs:=by have:=congrArg Array.toList hx;simpa using this.symm
 subst f3
 obtain⟨c,c1,c2⟩:=hc q _ hq
 rw[hv]at c1
 obtain rfl:=Option.some.inj c1
 exact c2
section
variable {P:Program} {d:Option Nat} {ty:TypeId} {ps:String} {af:Array Edge} {g:Option (Nat×Bool)} {x y:Operand} {t:TypeId}
theorem zkf{id e q:Nat}{L:List (List (List PV))}{rs:List (List PV)}{as':Array TypeId}{el:TypeId}{n:Nat}(hx:okc x (.one (.nv id q)))(hq:L[q]?=some rs)(ha:as'[0]?=some t)(h:elemSz P t=some (el,n)):
 Snd P ⟨d,.call ⟨.builtin .len,#[x],as'⟩,ty,ps,af,g⟩ (rq x (.one (.nv id q))) [(id,.bag e L)] [] (I rs.length) []:=
 zo fun C st M ρ a w hH h1 ht=>by
  have e':=hH.evS (zM hx h1)
  simp only[RepS,RepV]at e'
  obtain⟨xs,f1,f2,_⟩:=e'
  obtain⟨a',cap,h3,_⟩:=vJ (hH.yn.res id _ ht.1) hq f1 f2
  obtain⟨ii,hu,hinf,hsz⟩:=zF h
  exact⟨.int .i64 rs.length,by simp[execOp,resolve,invoke,builtin,Builtin.len_,ha,h3,run_underlying hu,goInt],zkg _ _⟩
theorem zfO{id e q:Nat}{L:List (List (List PV))}{rs:List (List PV)}{i:Int}{k:IntKind}{el:TypeId}(hx:okc x (.one (.nv id q)))(hy:okc y (Kk k i))(hq:L[q]?=some rs)(h:elemSz P t=some (el,e))(h0:0≤i)(hi:i<rs.length):
 Snd P ⟨d,.indexAddr t x y,ty,ps,af,g⟩ (rq x (.one (.nv id q))++rq y (Kk k i)) [(id,.bag e L)] [] (.one (.np id q (i.toNat*e))) []:=
 zo fun C st M ρ a w hH h1 ht=>by
  rw[zd]at h1
  have e1:=hH.evS (zM hx h1.1)
  have e2:=hH.k (zM hy h1.2)
  simp only[RepS,RepV]at e1
  obtain⟨xs,f1,f2,_⟩:=e1
  obtain⟨a',cap,h3,h4,h5,h6⟩:=vJ (hH.yn.res id _ ht.1) hq f1 f2
  obtain⟨ii,hu,hinf,hsz⟩:=zF h
  rcases h6 with⟨h6,h7⟩|⟨b,o,arr,el',fz,h6,_⟩
  ·subst h7;omega
  ·subst h6
   refine⟨.pointer (some ⟨b,o+i.toNat*e,none⟩),?_,by simp only[RepS,RepV];exact⟨_,b,o,_,_,f1,by rw[f2,h3],rfl⟩⟩
   simp only[execOp,h3,e2,Instr.indexAt,asIntOf,Sem.run_bind,Sem.run_pure,Result.andThen_ok,run_underlying hu]
   rw[if_pos ⟨h0,hi⟩]
   simp only[Sem.run_bind,Sem.run_pure,Result.andThen_ok,run_sizeOf hinf,yt,hsz]
theorem zib{id e q kk:Nat}{L:List (List (List PV))}{rs:List (List PV)}{vs:List PV}{s:Option Nat}{v:S}(hx:okc x (.one (.np id q kk)))(hq:L[q]?=some rs)(h:shp P t=some s)
 (hvs: ∀j p,vs[j]?=some p→rs.flatten[kk+j]?=some p) (hv:ofCells s (vs.map V.p)=some v):
 Snd P ⟨d,.load t x,ty,ps,af,g⟩ (rq x (.one (.np id q kk))) [(id,.bag e L)] [] v []:=
 zo fun C st M ρ a w hH h1 ht=>by
  have e1:=hH.evS (zM hx h1)
  simp only[RepS,RepV]at e1
  obtain⟨xs,b,o,m,cap,f1,f2,e2⟩:=e1
  obtain⟨a',cap',h3,h4,h5,h6⟩:=vJ (hH.yn.res id _ ht.1) hq f1 f2
  simp only[Value.slice.injEq]at h3
  rcases h6 with⟨h6,_⟩|⟨b',o',arr,el,fz,h6,h7,h7',h8,h9⟩
  ·rw[h6]at h3;cases h3.1
  ·rw[h6]at h3
   have hb:b=b'∧o=o':=by have:=h3.1;simp at this;exact this
   obtain⟨rfl,rfl⟩:=hb
   obtain⟨us,g1,_,g3⟩:=h9.cells (ρ:=ρ)
   obtain⟨ds,k9,k10⟩:=xN (M:=M) (ρ:=ρ) (vs:=vs.map V.p) (g:=fun j=>arr[o+(kk+j)]?) fun j u hj=>by
    rw[List.getElem?_map,Option.map_eq_some_iff]at hj
    obtain⟨p,hp,rfl⟩:=hj
    obtain⟨c,hc,hr⟩:=xb g1 (m:=kk+j) (v:= .p p) (by rw[List.getElem?_map,hvs j p hp];rfl)
    exact⟨c,g3 _ c hc,hr⟩
   obtain⟨u,hu,hr⟩:=yv (w:=w) (b:=b) (o:=o+kk) h k9 (fun q c hc=>by
    have:=k10 q c hc
    simp only[←Nat.add_assoc]at this
    simp[World.cell?,h7,this]) hv
   exact⟨u,by simp only[execOp,e2,Sem.run_bind,Instr.loadAt,Instr.sureAddr,Sem.run_pure,Result.andThen_ok,hu],hr⟩
theorem zfP{id e q kk:Nat}{L:List (List (List PV))}{rs rs':List (List PV)}{us:List PV}{s:S}{sh:Option Nat}(hx:okc x (.one (.np id q kk)))(hy:okc y s)(h:shp P t=some sh)(hc:cellsOf s=some (us.map V.p))(hl:us.length=sh.getD 1)
 (hq:L[q]?=some rs) (hrl:rs'.length=rs.length) (hre: ∀r∈rs',r.length=e) (hb:kk+us.length≤rs.length*e)
 (hn: ∀m p,rs'.flatten[m]?=some p→(kk≤m∧us[m - kk]?=some p)∨((m<kk∨kk+us.length≤m)∧rs.flatten[m]?=some p)):
 Snd P ⟨d,.store t x y,ty,ps,af,g⟩ (rq x (.one (.np id q kk))++rq y s) [(id,.bag e L)] [] .un [(id,some (.bag e (L.set q rs')))]:=by
 intro C st M ρ a w hH h1 ht _ hd k Q hk
 rw[zd]at h1
 have e0:=hH.evS (zM hx h1.1)
 have ey:=yB hc (hH.evS (zM hy h1.2))
 simp only[RepS,RepV]at e0
 obtain⟨xs,b,o,m,cap,f1,f2,e2⟩:=e0
 obtain⟨cs,g1,gn,gc,gap⟩:=hH.yn.res id _ ht.1
 have f1':=f1
 rw[g1]at f1
 simp only[Value.tuple.injEq]at f1
 have f3:xs=cs:=by have:=congrArg Array.toList f1;simpa using this.symm
 subst f3
 obtain⟨c0,c1,c2⟩:=gc q _ hq
 rw[f2]at c1
 obtain rfl:=Option.some.inj c1
 obtain⟨ai,capi,i1,i2,i3,i6⟩:=c2
 simp only[Value.slice.injEq]at i1
 rcases i6 with⟨i6,_⟩|⟨b',o',arr,el,fz,i6,i7,i7',i8,i9⟩
 ·rw[i6]at i1;cases i1.1
 rw[i6]at i1
 have hbo:b=b'∧o=o':=by have:=i1.1;simp at this;exact this
 obtain⟨rfl,rfl⟩:=hbo
 have hm:m=rs.length:=i1.2.1
 have hcp:cap=capi:=i1.2.2
 subst hm;subst hcp
 obtain⟨ii,hinf,hs⟩:=j6 h
 have hlen:(a.eval y).cells.toList.length=us.length:=by rw[ey.length,List.length_map]
 have hie:rs.length*e≤cap*e:=Nat.mul_le_mul_right e i2
 have hst:=yd (P:=P) b (o+kk) el fz (a.eval y).cells.toList 0 arr w i7 i7' (by rw[hlen];omega) ey.one
 have hrun:(execOp a.eval ⟨d,.store t x y,ty,ps,af,g⟩).run P w= .ok .skip (w.setRow b (setAt arr.toList (o+kk) (a.eval y).cells.toList).toArray):=by
  have hsz: ¬((a.eval y).cells.size≠ii.size):=by rw[hs,←hl,←hlen];simp
  simp only[execOp,e2,Instr.storeAt,Instr.sureAddr,Sem.run_bind,Sem.run_pure,Result.andThen_ok,storeVar,run_sizeOf hinf,if_neg hsz]
  simp only[hst,Result.andThen_ok,Nat.add_zero]
 unfold Oper.wp
 rw[hrun,Oper.upon_skip]
 have hcsl:o+kk+(a.eval y).cells.toList.length≤arr.toList.length:=by rw[hlen];simp;omega
 have hsz:(setAt arr.toList (o+kk) (a.eval y).cells.toList).toArray.size=arr.size:=by simp[zL _ _ _ hcsl]
 have hget: ∀m:Nat,(setAt arr.toList (o+kk) (a.eval y).cells.toList).toArray[o+m]?=if o+m<o+kk then arr[o+m]? else if o+m<o+kk+us.length then(a.eval y).cells.toList[o+m - (o+kk)]? else arr[o+m]?:=fun m=>by
  rw[List.getElem?_toArray,yb _ _ _ _ (by omega),hlen];simp
 generalize hW:setAt arr.toList (o+kk) (a.eval y).cells.toList=narr at*
 have hoB: ∀k:Nat,k≠b→(w.setRow b narr.toArray).heap[k]?=w.heap[k]?:=fun k hk=>setRow_other w b k _ hk
 have hnB:(w.setRow b narr.toArray).heap[b]?=some (.cells narr.toArray el fz):=setRow_heap w b _ _ el _ i7
 -- the array anew
 have hinner:x7 M (w.setRow b narr.toArray) (.slice (some ⟨b,o,none⟩) rs.length cap) e rs':=by
  refine⟨some ⟨b,o,none⟩,cap,by rw[hrl],by omega,i3,.inr ⟨b,o,narr.toArray,el,fz,rfl,hnB,by rw[hsz];exact i7',by rw[hsz];exact i8,?_⟩⟩
  obtain⟨u1,u2,_,u4⟩:=i9.cells (ρ:=ρ)
  obtain⟨ds,k9,k10⟩:=xN (M:=M) (ρ:=ρ) (vs:=rs'.flatten.map V.p) (g:=fun j=>narr.toArray[o+j]?) fun j v hj=>by
   rw[List.getElem?_map,Option.map_eq_some_iff]at hj
   obtain⟨p,hp,rfl⟩:=hj
   rcases hn j p hp with⟨n1,n2⟩|⟨n1,n2⟩
   ·have hlt:j - kk<us.length:=(List.getElem?_eq_some_iff.1 n2).1
    obtain⟨c,v1,v2⟩:=xb ey (m:=j - kk) (v:= .p p) (by rw[List.getElem?_map,n2];rfl)
    refine⟨c,?_,v2⟩
    rw[hget,if_neg (by omega),if_pos (by omega),←v1];congr 1;omega
   ·obtain⟨c,v1,v2⟩:=xb u2 (m:=j) (v:= .p p) (by rw[List.getElem?_map,n2];rfl)
    refine⟨c,?_,v2⟩
    rw[hget]
    rcases n1 with n1|n1
    ·rw[if_pos (by omega)];exact u4 _ c v1
    ·rw[if_neg (by omega),if_neg (by omega)];exact u4 _ c v1
  exact RowsIn.yA (ρ:=ρ) hre k9 fun j c hc=>k10 j c hc
 have hblk:blk (.slice (some ⟨b,o,none⟩) rs.length cap)=some b:=rfl
 have hap2: ∀j c,j≠q→xs[j]?=some c→ ∀b2,blk c=some b2→b2≠b:=fun j c hne hj b2 hb2 e=>by
  subst e
  exact gap j q b2 c _ hj f2 hne hb2 hblk
 refine hk _ _ M ρ (hH.turn ht.1 (fun k hk=>hoB k fun e=>hk (by rw[e,g1];exact zeh f2 hblk)) (by simp) rfl rfl rfl
  ⟨xs,g1,by rw[List.length_set];exact gn,fun j p hj=>?_,gap⟩ (by simp only[RepS]) hd)
 rw[List.getElem?_set]at hj
 split at hj
 ·rename_i hjq
  subst hjq
  split at hj
  ·obtain rfl:=Option.some.inj hj
   exact⟨_,f2,hinner⟩
  ·cases hj
 ·rename_i hjq
  obtain⟨c,v1,v2⟩:=gc j p hj
  exact⟨c,v1,v2.world fun b2 hb2=>hoB b2 (hap2 j c (fun e=>hjq e.symm) v1 b2 hb2)⟩
end
section
variable {P:Program} {C:Ctx} {k:List Frm} {n:Nat} {sl:zi} {tab:Tab} {Q:Exit→St→Prop} {all:Array Oper} {rest:List Oper}
theorem zrl(T:Ty P){d:Nat}{x:Operand}{t ty:TypeId}{ps:String}{af:Array Edge}{g0:Option (Nat×Bool)}{gs:zi}{md:Mode}(hC:C.low){id e q:Nat}{L:List (List (List PV))}{rs:List (List PV)}{el:TypeId}{m:Nat}
 (hx:ev sl x=some (.one (.nv id q))) (hT:tg tab id=some (.bag e L)) (hq:L[q]?=some rs) (he:T.es t=some (el,m)) (hm:metL all sl g0=some gs) (hd:Nat.blt d n=true)
 (g:Goal P C (.ops all rest (nx md ⟨some d,gs++rq x (.one (.nv id q)),[(id,.bag e L)],[],I rs.length,[]⟩)) k n ((d,I rs.length)::sl) tab Q):
 Goal P C (.ops all (⟨some d,.call ⟨.builtin .len,#[x],#[t]⟩,ty,ps,af,g0⟩::rest) md) k n sl tab Q:=by
 have e1:=zX (st:=⟨n,sl,tab⟩) hx
 have:=zq hm (zkf (e:=e) (L:=L) (as':= #[t]) (ty:=ty) (ps:=ps) (af:=af) (g:=g0) (d:=some d) e1.1 hq rfl (T.es_ok _ _ he)) (n:=n) (tab:=tab)
 exact yr (L:=⟨some d,gs++rq x (.one (.nv id q)),[(id,.bag e L)],[],I rs.length,[]⟩) hC this.1 rfl ⟨by rw[zd];exact⟨this.2,e1.2⟩,⟨hT,trivial⟩,rfl,hd⟩ g
theorem zrm(T:Ty P){d:Nat}{x y:Operand}{t ty:TypeId}{ps:String}{af:Array Edge}{g0:Option (Nat×Bool)}{gs:zi}{md:Mode}(hC:C.low){id e q:Nat}{L:List (List (List PV))}{rs:List (List PV)}{k0:IntKind}{i:Int}{el:TypeId}
 (hx:ev sl x=some (.one (.nv id q))) (hy:ev sl y=some (Kk k0 i)) (hT:tg tab id=some (.bag e L)) (hq:L[q]?=some rs) (he:T.es t=some (el,e)) (h0:0≤i) (hi:i<rs.length) (hm:metL all sl g0=some gs) (hd:Nat.blt d n=true)
 (g:Goal P C (.ops all rest (nx md ⟨some d,gs++(rq x (.one (.nv id q))++rq y (Kk k0 i)),[(id,.bag e L)],[],.one (.np id q (i.toNat*e)),[]⟩)) k n ((d,.one (.np id q (i.toNat*e)))::sl) tab Q):
 Goal P C (.ops all (⟨some d,.indexAddr t x y,ty,ps,af,g0⟩::rest) md) k n sl tab Q:=by
 have e1:=zX (st:=⟨n,sl,tab⟩) hx
 have e2:=zX (st:=⟨n,sl,tab⟩) hy
 have:=zq hm (zfO (e:=e) (L:=L) (ty:=ty) (ps:=ps) (af:=af) (g:=g0) (d:=some d) e1.1 e2.1 hq (T.es_ok _ _ he) h0 hi) (n:=n) (tab:=tab)
 exact yr (L:=⟨some d,gs++(rq x (.one (.nv id q))++rq y (Kk k0 i)),[(id,.bag e L)],[],.one (.np id q (i.toNat*e)),[]⟩) hC this.1 rfl ⟨by rw[zd,zd];exact⟨this.2,e1.2,e2.2⟩,⟨hT,trivial⟩,rfl,hd⟩ g
theorem zpB(T:Ty P){d:Nat}{x:Operand}{t ty:TypeId}{ps:String}{af:Array Edge}{g0:Option (Nat×Bool)}{gs:zi}{md:Mode}(hC:C.low){id e q kk:Nat}{L:List (List (List PV))}{rs:List (List PV)}(vs:List PV){s:Option Nat}{v:S}
 (hx:ev sl x=some (.one (.np id q kk))) (hT:tg tab id=some (.bag e L)) (hq:L[q]?=some rs) (hsh:T.sh t=some s) (hvs: ∀j p,vs[j]?=some p→rs.flatten[kk+j]?=some p) (hv:ofCells s (vs.map V.p)=some v) (hm:metL all sl g0=some gs) (hd:Nat.blt d n=true)
 (g:Goal P C (.ops all rest (nx md ⟨some d,gs++rq x (.one (.np id q kk)),[(id,.bag e L)],[],v,[]⟩)) k n ((d,v)::sl) tab Q):
 Goal P C (.ops all (⟨some d,.load t x,ty,ps,af,g0⟩::rest) md) k n sl tab Q:=by
 have e1:=zX (st:=⟨n,sl,tab⟩) hx
 have:=zq hm (zib (e:=e) (L:=L) (ty:=ty) (ps:=ps) (af:=af) (g:=g0) (d:=some d) e1.1 hq (T.sh_ok _ _ hsh) hvs hv) (n:=n) (tab:=tab)
 exact yr (L:=⟨some d,gs++rq x (.one (.np id q kk)),[(id,.bag e L)],[],v,[]⟩) hC this.1 rfl ⟨by rw[zd];exact⟨this.2,e1.2⟩,⟨hT,trivial⟩,rfl,hd⟩ g
theorem zmV(T:Ty P){x y:Operand}{t ty:TypeId}{ps:String}{af:Array Edge}{g0:Option (Nat×Bool)}{gs:zi}{md:Mode}(hC:C.low){id e q kk:Nat}{L:List (List (List PV))}{rs:List (List PV)}(rs':List (List PV)){us:List PV}{s:S}{sh:Option Nat}
 (hx:ev sl x=some (.one (.np id q kk))) (hy:ev sl y=some s) (hT:tg tab id=some (.bag e L)) (hsh:T.sh t=some sh) (hc:cellsOf s=some (us.map V.p)) (hl:us.length=sh.getD 1)
 (hq:L[q]?=some rs) (hrl:rs'.length=rs.length) (hre: ∀r∈rs',r.length=e) (hb:kk+us.length≤rs.length*e)
 (hn: ∀m p,rs'.flatten[m]?=some p→(kk≤m∧us[m - kk]?=some p)∨((m<kk∨kk+us.length≤m)∧rs.flatten[m]?=some p)) (hm:metL all sl g0=some gs)
 (g:Goal P C (.ops all rest (nx md ⟨none,gs++(rq x (.one (.np id q kk))++rq y s),[(id,.bag e L)],[],.un,[(id,some (.bag e (L.set q rs')))]⟩)) k n sl ((id,some (.bag e (L.set q rs')))::tab) Q):
 Goal P C (.ops all (⟨none,.store t x y,ty,ps,af,g0⟩::rest) md) k n sl tab Q:=by
 have e1:=zX (st:=⟨n,sl,tab⟩) hx
 have e2:=zX (st:=⟨n,sl,tab⟩) hy
 have:=zq hm (zfP (ty:=ty) (ps:=ps) (af:=af) (g:=g0) (d:=none) e1.1 e2.1 (T.sh_ok _ _ hsh) hc hl hq hrl hre hb hn) (n:=n) (tab:=tab)
 exact yr (L:=⟨none,gs++(rq x (.one (.np id q kk))++rq y s),[(id,.bag e L)],[],.un,[(id,some (.bag e (L.set q rs')))]⟩) hC this.1 rfl ⟨by rw[zd,zd];exact⟨this.2,e1.2,e2.2⟩,⟨hT,trivial⟩,rfl,rfl⟩ g
end
end Hw
/- The engine, part BE: resources that become one. -/
namespace Hw
open Go
def RwV(F:(Nat→Value)→Prop)(v v':V):Prop:= ∀M ρ x,F ρ→RepV M ρ v x→RepV M ρ v' x
def zmW(F:(Nat→Value)→Prop)(v v':List V):Prop:= ∀M ρ x,F ρ→RepVs M ρ v x→RepVs M ρ v' x
def RwS(F:(Nat→Value)→Prop)(v v':S):Prop:= ∀M ρ x,F ρ→RepS M ρ v x→RepS M ρ v' x
def RwR(F:(Nat→Value)→Prop)(r r':Res):Prop:= ∀M ρ w i,F ρ→zJ M ρ w i r→zJ M ρ w i r'
section
variable {F:(Nat→Value)→Prop}
theorem RwV.refl(v:V):RwV F v v:=fun _ _ _ _ h=>h
theorem zmW.nil:zmW F [] []:=fun _ _ _ _ h=>h
theorem zmW.refl(v:List V):zmW F v v:=fun _ _ _ _ h=>h
theorem zmW.cons{v v':V}{vs vs':List V}(h:RwV F v v')(hs:zmW F vs vs'):zmW F (v::vs) (v'::vs'):=fun M ρ x hf hr=>by
 cases x with
 |nil=>simp only[RepVs]at hr
 |cons c cs=>simp only[RepVs]at hr ⊢; exact⟨h _ _ _ hf hr.1,hs _ _ _ hf hr.2⟩
theorem RwS.refl(v:S):RwS F v v:=fun _ _ _ _ h=>h
theorem RwS.one{v v':V}(h:RwV F v v'):RwS F (.one v) (.one v'):=fun M ρ x hf hr=>by simp only[RepS]at hr ⊢; exact h _ _ _ hf hr
theorem RwS.agg{v v':List V}(h:zmW F v v'):RwS F (.agg v) (.agg v'):=fun M ρ x hf hr=>by
 simp only[RepS]at hr ⊢; obtain⟨cs,h1,h2⟩:=hr;exact⟨cs,h1,h _ _ _ hf h2⟩
theorem RwR.refl(r:Res):RwR F r r:=fun _ _ _ _ _ h=>h
theorem RwR.box{vs vs':List V}(h:zmW F vs vs'):RwR F (.box vs) (.box vs'):=fun _ _ _ _ hr ⟨b,cs,el,e1,e2,e3⟩=>⟨b,cs,el,e1,e2,h _ _ _ hr e3⟩
theorem RwR.vw{ids ids':List Nat}{e:Nat}{rows rows':List (List PC)}(hl:rows'.length=rows.length)(hle: ∀r∈rows',r.length=e)
 (h: ∀(j:Nat) (x':PC),rows'.flatten[j]?=some x'→ ∃x,rows.flatten[j]?=some x∧RwV F (toV ids x) (toV ids' x')):RwR F (.vw ids e rows) (.vw ids' e rows'):=fun M ρ w i hF hr=>by
 obtain⟨a,cap,h1,h2,h3,_,h4⟩:=hr
 refine⟨a,cap,by rw[hl];exact h1,by omega,h3,hle,?_⟩
 rcases h4 with h4|⟨b,o,cs,el,fz,h5,h6,h6',h7,h8⟩
 ·exact .inl h4
 ·refine .inr ⟨b,o,cs,el,fz,h5,h6,h6',h7,fun j x' hj=>?_⟩
  obtain⟨x,hx,hv⟩:=h j x' hj
  obtain⟨c,c1,c2⟩:=h8 j x hx
  exact⟨c,c1,hv _ _ _ hF c2⟩
end
def upW(F:(Nat→Value)→Prop)(olds news:List Nat)(tab:Tab):List (Nat×Res)→Prop
 | []=>True
 |(i,r')::l=>(∃r,tg tab i=some r∧((hasB i olds||hasB i news)=false∧RwR F r r'))∧upW F olds news tab l
theorem zol{F:(Nat→Value)→Prop}{olds news:List Nat}{tab b:Tab}: ∀ {ups:List (Nat×Res)},upW F olds news tab ups→ ∀ {k:Nat} {r:Res},tg (ziQ ups++b) k=some r→
 tg b k=some r∨ ∃r0,tg tab k=some r0∧k∉olds∧k∉news∧RwR F r0 r
 | [],_,k,r,h=> .inl h
 |(t,s')::l,hu,k,r,h=>by
  simp only[ziQ,List.cons_append,yc]at h
  split at h
  ·rename_i e;subst e;simp only[Option.some.injEq]at h;subst h
   obtain⟨r0,h1,h2,h3⟩:=hu.1
   simp only[Bool.or_eq_false_iff]at h2
   have n1:t∉olds:=fun hm=>by have:=za7 hm;rw[h2.1]at this;cases this
   have n2:t∉news:=fun hm=>by have:=za7 hm;rw[h2.2]at this;cases this
   exact .inr ⟨r0,h1,n1,n2,h3⟩
  ·exact zol hu.2 h
structure zrn (M:Mem) (ρ ρ':Nat→Value) (w:World) (tab:Tab) (olds:List Nat) (news:RL):Prop where
 agr: ∀i,i∉news.ids→ρ' i=ρ i
 res: ∀i r,tg (tb news) i=some r→zJ M ρ' w i r
 blk: ∀i r b,tg (tb news) i=some r→Bk (ρ' i) b→ ∃j s,j∈olds∧tg tab j=some s∧Bk (ρ j) b
 dis: ∀i j ri rj b,tg (tb news) i=some ri→tg (tb news) j=some rj→i≠j→Bk (ρ' i) b→Bk (ρ' j) b→False
theorem zei{l:RL}{b:Tab}{i:Nat}{r:Res}(h:tg (tb l++b) i=some r):tg (tb l) i=some r∨(i∉l.ids∧tg b i=some r):=by
 induction l with
 |nil=>exact .inr ⟨by simp[RL.ids],h⟩
 |cons x l ih=>
  obtain⟨j,s⟩:=x
  simp only[tb,List.cons_append,yc]at h⊢
  split at h
  ·rename_i e;rw[if_pos e];exact .inl h
  ·rename_i e
   rw[if_neg e]
   rcases ih h with h1|⟨h1,h2⟩
   ·exact .inl h1
   ·exact .inr ⟨by simp only[RL.ids,List.mem_cons,not_or];exact⟨fun h=>e h.symm,h1⟩,h2⟩
section
variable {P:Program} {C:Ctx} {k:List Frm} {n:Nat} {sl:zi} {tab:Tab} {Q:Exit→St→Prop} {cur:Cur}
theorem za8(hC:C.low)(hc:lst cur=true)(olds:List Nat)(news:RL)(F:(Nat→Value)→Prop)(hf:allB (fun id=>Nat.ble 100 id&&freshB id ⟨n,sl,tab⟩) news.ids=true)
 (hmk: ∀ {M ρ w},vx M ρ w tab→ ∃ρ',F ρ'∧zrn M ρ ρ' w tab olds news)
 (ups:zi) (hS:upS (RwS F) sl ups) (bs:List (Nat×Res)) (hB:upW F olds news.ids tab bs) (g:Goal P C cur k n (ups++sl) (ziQ bs++(tb news++(zdG olds++tab))) Q):Goal P C cur k n sl tab Q:=by
 refine zcp hc (fun {M ρ a w} h=>?_) g
 obtain⟨ρ',hF,hR⟩:=hmk h.yn
 have fresh: ∀i∈news.ids,zar C i ⟨n,sl,tab⟩:=fun i hi=>by
  have:=xT hf i hi
  simp only[Bool.and_eq_true]at this
  exact x8 this.2 (hC.none (Nat.le_of_ble_eq_true this.1))
 have hX:zdd (fun i=>i∈news.ids) ρ ρ':=fun i hi=>hR.agr i hi
 have hsl: ∀k s,sg sl k=some s→RepS M ρ' s (a.tmps.getD k undef):=fun k s hk=>RepS.agree hX _ _ (fun i hi=>(fresh i hi).1 k s hk) (h.slots k s hk)
 have hold: ∀i r,tg tab i=some r→zJ M ρ' w i r:=fun i r hi=>
  (h.yn.res i r hi).agree hX (fun hm=>((fresh i hm).2.1 i r hi).1 rfl) (fun j hj=>((fresh j hj).2.1 i r hi).2)
 have nn: ∀i r,tg tab i=some r→i∉news.ids:=fun i r hi hm=>((fresh i hm).2.1 i r hi).1 rfl
 -- what an entry of the new table is
 have htab: ∀i r,tg (ziQ bs++(tb news++(zdG olds++tab))) i=some r→(i∈news.ids∧tg (tb news) i=some r)∨(i∉olds∧i∉news.ids∧ ∃r0,tg tab i=some r0∧(r=r0∨RwR F r0 r)):=fun i r hi=>by
  rcases zol hB hi with h1|⟨r0,h1,h2,h3,h4⟩
  ·rcases zei h1 with h2|⟨h2,h3⟩
   ·exact .inl ⟨xe (xz h2),h2⟩
   ·have:=zfQ h3
    exact .inr ⟨this.1,h2,r,this.2,.inl rfl⟩
  ·exact .inr ⟨h2,h3,r0,h1,.inr h4⟩
 have bkold: ∀i,i∉news.ids→ ∀b,Bk (ρ' i) b→Bk (ρ i) b:=fun i hi b hb=>by rw[hR.agr i hi]at hb;exact hb
 have cross: ∀i j ri b,tg (tb news) i=some ri→j∉olds→j∉news.ids→(∃rj,tg tab j=some rj)→Bk (ρ' i) b→Bk (ρ' j) b→False:=fun i j ri b hi hjo hjn ⟨rj,hj⟩ hbi hbj=>by
  obtain⟨q,s,hq,hs,hbq⟩:=hR.blk i ri b hi hbi
  exact h.yn.dis q j s rj b hs hj (fun e=>hjo (e ▸ hq)) hbq (bkold j hjn b hbj)
 refine⟨M,ρ',h.dfr,h.sz,fun k s hk=>?_,⟨fun i r hi=>?_,fun i j ri rj b hi hj hne hbi hbj=>?_,fun i r b hi hb o=>?_⟩,fun i r b hi hb=>?_,h.run,fun i r hi=>?_⟩
 ·rcases zej hS hk with h1|⟨s0,h1,h2⟩
  ·exact hsl k s h1
  ·exact h2 _ _ _ hF (hsl k s0 h1)
 ·rcases htab i r hi with⟨_,h1⟩|⟨_,_,r0,h1,h2⟩
  ·exact hR.res i r h1
  ·rcases h2 with rfl|h2
   ·exact hold i r h1
   ·exact h2 _ _ _ _ hF (hold i r0 h1)
 ·rcases htab i ri hi with⟨_,h1⟩|⟨i1,i2,r0,h1,_⟩<;>rcases htab j rj hj with⟨_,h2⟩|⟨j1,j2,s0,h2,_⟩
  ·exact hR.dis i j ri rj b h1 h2 hne hbi hbj
  ·exact cross i j ri b h1 j1 j2 ⟨s0,h2⟩ hbi hbj
  ·exact cross j i rj b h2 i1 i2 ⟨r0,h1⟩ hbj hbi
  ·exact h.yn.dis i j r0 s0 b h1 h2 hne (bkold i i2 b hbi) (bkold j j2 b hbj)
 ·rcases htab i r hi with⟨_,h1⟩|⟨i1,i2,r0,h1,_⟩
  ·obtain⟨q,s,_,hs,hbq⟩:=hR.blk i r b h1 hb
   exact h.yn.own q s b hs hbq o
  ·exact h.yn.own i r0 b h1 (bkold i i2 b hb) o
 ·rcases htab i r hi with⟨_,h1⟩|⟨i1,i2,r0,h1,_⟩
  ·obtain⟨q,s,_,hs,hbq⟩:=hR.blk i r b h1 hb
   exact h.ownf q s b hs hbq
  ·exact h.ownf i r0 b h1 (bkold i i2 b hb)
 ·rw[hR.agr i fun hm=>by have:=(fresh i hm).2.2;rw[hi]at this;cases this]
  exact h.keep i r hi
def TkF(id id2 id' m:Nat)(ρ:Nat→Value):Prop:= ∃cs:List Value,ρ id= .tuple cs.toArray∧cs.length=m∧(ρ id2).oneCell'=true∧ρ id'= .tuple (cs++[ρ id2]).toArray
theorem TkF.nv{id id2 id' m j:Nat}:RwV (TkF id id2 id' m) (.nv id j) (.nv id' j):=fun M ρ x hF hr=>by
 obtain⟨cs,h1,h2,h3,h4⟩:=hF
 simp only[RepV]at hr⊢
 obtain⟨xs,f1,f2,f3⟩:=hr
 rw[h1]at f1
 have:xs=cs:=by simp only[Value.tuple.injEq]at f1;have:=congrArg Array.toList f1;simpa using this.symm
 subst this
 exact⟨_,h4,by rw[List.getElem?_append_left (List.getElem?_eq_some_iff.1 f2).1];exact f2,f3⟩
theorem TkF.ar{id id2 id' m:Nat}:RwV (TkF id id2 id' m) (.ar id2) (.nv id' m):=fun M ρ x hF hr=>by
 obtain⟨cs,h1,h2,h3,h4⟩:=hF
 simp only[RepV]at hr⊢
 exact⟨_,h4,by rw[List.getElem?_append_right (by omega),h2,Nat.sub_self,hr.1];rfl,hr.2⟩
theorem zic{cs:List Value}{v:Value}(h:jh cs)(hv: ∀(j b:Nat) z,cs[j]?=some z→blk z=some b→blk v≠some b):jh (cs++[v]):=by
 have get: ∀(i:Nat) z,(cs++[v])[i]?=some z→cs[i]?=some z∨(i=cs.length∧z=v):=fun i z hz=>by
  rcases Nat.lt_or_ge i cs.length with hlt|hge
  ·rw[List.getElem?_append_left hlt]at hz;exact .inl hz
  ·rw[List.getElem?_append_right hge]at hz
   have h0:i - cs.length=0:=by have:=(List.getElem?_eq_some_iff.1 hz).1;simp at this;omega
   rw[h0]at hz
   simp only[List.getElem?_cons_zero,Option.some.injEq]at hz
   exact .inr ⟨by omega,hz.symm⟩
 intro i j b p q hp hq hne hbp hbq
 rcases get i p hp with hi|⟨rfl,rfl⟩<;>rcases get j q hq with hj|⟨rfl,rfl⟩
 ·exact h i j b p q hi hj hne hbp hbq
 ·exact hv i b p hi hbp hbq
 ·exact hv j b q hj hbq hbp
 ·exact hne rfl
theorem zgI(hC:C.low)(hc:lst cur=true)(id id2 id':Nat){e:Nat}{L:List (List (List PV))}{rs:List (List PV)}(hid:tg tab id=some (.bag e L))(hid2:tg tab id2=some (.arr e rs))(hne:Nat.beq id id2=false)
 (hf:(Nat.ble 100 id'&&freshB id' ⟨n,sl,tab⟩)=true)
 (ups:zi) (hS:upS (RwS (TkF id id2 id' L.length)) sl ups) (bs:List (Nat×Res)) (hB:upW (TkF id id2 id' L.length) [id,id2] [id'] tab bs)
 (g:Goal P C cur k n (ups++sl) (ziQ bs++((id',some (.bag e (L++[rs])))::(id,none)::(id2,none)::tab)) Q):Goal P C cur k n sl tab Q:=by
 have hne':id≠id2:=fun e=>by subst e;rw[x9]at hne;cases hne
 refine za8 hC hc [id,id2] [(id',.bag e (L++[rs]))] (TkF id id2 id' L.length) (by simp only[RL.ids,allB,hf,Bool.and_true]) (fun {M ρ w} hT=>?_) ups hS bs hB g
 simp only[Bool.and_eq_true]at hf
 have nid: ∀i r,tg tab i=some r→i≠id':=fun i r hi e=>by
  have:=(x8 (C:=C) hf.2 (hC.none (Nat.le_of_ble_eq_true hf.1))).2.1 i r hi
  exact this.1 e
 obtain⟨cs,h1,h2,h3,h4⟩:=hT.res id _ hid
 have hA:x7 M w (ρ id2) e rs:=hT.res id2 _ hid2
 obtain⟨a2,cap2,g1,_⟩:=hA
 have hA:x7 M w (ρ id2) e rs:=hT.res id2 _ hid2
 have n1:=nid id _ hid
 have n2:=nid id2 _ hid2
 have bk2: ∀q,blk (ρ id2)=some q→Bk (ρ id2) q:=fun q hq=>by rw[g1]at hq ⊢; exact hq
 have only: ∀i r,tg (tb [(id',Res.bag e (L++[rs]))]) i=some r→i=id'∧r= .bag e (L++[rs]):=fun i r hi=>by
  simp only[tb,yc]at hi
  split at hi
  ·rename_i e;exact⟨e.symm,(Option.some.inj hi).symm⟩
  ·cases hi
 refine⟨upd ρ id' (.tuple (cs++[ρ id2]).toArray),⟨cs,by rw[zN n1];exact h1,h2,by rw[zN n2,g1];rfl,by rw[zt,zN n2]⟩,fun i hi=>zN (by simpa [RL.ids]using hi),fun i r hi=>?_,fun i r b hi hb=>?_,fun i j ri rj b hi hj hne _ _=>?_⟩
 ·obtain⟨rfl,rfl⟩:=only i r hi
  refine⟨_,zt _ _ _,by simp[h2],fun j rs' hj=>?_,zic h4 fun j b z hj hz hv=>hT.dis id id2 _ _ b hid hid2 hne' (by rw[h1];exact zeh hj hz) (bk2 b hv)⟩
  rcases Nat.lt_or_ge j L.length with hlt|hge
  ·rw[List.getElem?_append_left hlt]at hj
   obtain⟨c,c1,c2⟩:=h3 j rs' hj
   exact⟨c,by rw[List.getElem?_append_left (by omega)];exact c1,c2⟩
  ·rw[List.getElem?_append_right hge]at hj
   have h0:j - L.length=0:=by have:=(List.getElem?_eq_some_iff.1 hj).1;simp at this;omega
   rw[h0]at hj
   simp only[List.getElem?_cons_zero,Option.some.injEq]at hj
   subst hj
   exact⟨ρ id2,by rw[List.getElem?_append_right (by omega),show j - cs.length=0 by omega];rfl,hA⟩
 ·obtain⟨rfl,_⟩:=only i r hi
  rw[zt]at hb
  obtain⟨x,hx,hxb⟩:=hb
  have hx':x∈cs∨x=ρ id2:=by simpa using hx
  rcases hx' with hx'|rfl
  ·obtain⟨j,hj⟩:=List.mem_iff_getElem?.1 hx'
   exact⟨id,_,by simp,hid,by rw[h1];exact zeh hj hxb⟩
  ·exact⟨id2,_,by simp,hid2,bk2 b hxb⟩
 ·obtain⟨rfl,_⟩:=only i ri hi
  obtain⟨rfl,_⟩:=only j rj hj
  exact hne rfl
theorem zs6(hC:C.low)(hc:lst cur=true)(id' e:Nat)(hf:(Nat.ble 100 id'&&freshB id' ⟨n,sl,tab⟩)=true)(g:Goal P C cur k n sl ((id',some (.bag e []))::tab) Q):Goal P C cur k n sl tab Q:=by
 refine za8 hC hc [] [(id',.bag e [])] (fun _=>True) (by simp only[RL.ids,allB,hf,Bool.and_true]) (fun {M ρ w} hT=>?_) [] trivial [] trivial g
 have only: ∀i r,tg (tb [(id',Res.bag e [])]) i=some r→i=id'∧r= .bag e []:=fun i r hi=>by
  simp only[tb,yc]at hi
  split at hi
  ·rename_i e;exact⟨e.symm,(Option.some.inj hi).symm⟩
  ·cases hi
 refine⟨upd ρ id' (.tuple ([]:List Value).toArray),trivial,fun i hi=>zN (by simpa [RL.ids]using hi),fun i r hi=>?_,fun i r b hi hb=>?_,fun i j ri rj b hi hj hne _ _=>?_⟩
 ·obtain⟨rfl,rfl⟩:=only i r hi
  exact⟨[],zt _ _ _,rfl,fun j rs hj=>by simp at hj,fun i j b x y hx=>by simp at hx⟩
 ·obtain⟨rfl,_⟩:=only i r hi
  rw[zt]at hb
  obtain⟨x,hx,_⟩:=hb
  simp at hx
 ·obtain⟨rfl,_⟩:=only i ri hi
  obtain⟨rfl,_⟩:=only j rj hj
  exact hne rfl
end
end Hw
/- The engine, part BF: owned arrays whose cells may lead to other resources (Res.vw): index, length, load, store, append, literal. -/
namespace Hw
open Go
section
variable {P:Program} {d:Option Nat} {ty:TypeId} {ps:String} {af:Array Edge} {g:Option (Nat×Bool)} {x y:Operand} {t:TypeId}
theorem zid{id e:Nat}{rows:List (List PC)}{ids:List Nat}{i:Int}{k:IntKind}{el:TypeId}(hx:okc x (.one (.ar id)))(hy:okc y (Kk k i))
 (h:elemSz P t=some (el,e)) (h0:0≤i) (hi:i<rows.length):
 Snd P ⟨d,.indexAddr t x y,ty,ps,af,g⟩ (rq x (.one (.ar id))++rq y (Kk k i)) [(id,.vw ids e rows)] [] (.one (.el id (i.toNat*e))) []:=
 zo fun C st M ρ a w hH h1 ht=>by
  rw[zd]at h1
  have e':=hH.evS (zM hx h1.1)
  have e2:=hH.k (zM hy h1.2)
  simp only[RepS,RepV]at e'
  obtain⟨a',cap,h3,h4,h5,_,h6⟩:=hH.yn.res id _ ht.1
  obtain⟨ii,hu,hinf,hsz⟩:=zF h
  rcases h6 with⟨h6,h7⟩|⟨b,o,cs,el',fz,h6,_⟩
  ·subst h7;omega
  ·subst h6
   refine⟨.pointer (some ⟨b,o+i.toNat*e,none⟩),?_,by simp only[RepS,RepV];exact⟨b,o,_,_,h3,rfl⟩⟩
   rw[h3]at e'
   simp only[execOp,e'.1,e2,Instr.indexAt,asIntOf,Sem.run_bind,Sem.run_pure,Result.andThen_ok,run_underlying hu]
   rw[if_pos ⟨h0,hi⟩]
   simp only[Sem.run_bind,Sem.run_pure,Result.andThen_ok,run_sizeOf hinf,yt,hsz]
theorem zmX{id e:Nat}{rows:List (List PC)}{ids:List Nat}{as':Array TypeId}{el:TypeId}{n:Nat}(hx:okc x (.one (.ar id)))(ha:as'[0]?=some t)(h:elemSz P t=some (el,n)):
 Snd P ⟨d,.call ⟨.builtin .len,#[x],as'⟩,ty,ps,af,g⟩ (rq x (.one (.ar id))) [(id,.vw ids e rows)] [] (I rows.length) []:=
 zo fun C st M ρ a w hH h1 ht=>by
  have e':=hH.evS (zM hx h1)
  simp only[RepS,RepV]at e'
  obtain⟨a',cap,h3,h4,h5,_,h6⟩:=hH.yn.res id _ ht.1
  obtain⟨ii,hu,hinf,hsz⟩:=zF h
  rw[h3]at e'
  exact⟨.int .i64 rows.length,by simp[execOp,resolve,invoke,builtin,Builtin.len_,ha,e'.1,run_underlying hu,goInt],zkg _ _⟩
theorem zkh{id kk e:Nat}{rows:List (List PC)}{ids:List Nat}{vs:List V}{s:Option Nat}{v:S}(hx:okc x (.one (.el id kk)))(h:shp P t=some s)
 (hvs: ∀j v,vs[j]?=some v→ ∃p,rows.flatten[kk+j]?=some p∧toV ids p=v) (hv:ofCells s vs=some v):
 Snd P ⟨d,.load t x,ty,ps,af,g⟩ (rq x (.one (.el id kk))) [(id,.vw ids e rows)] [] v []:=
 zo fun C st M ρ a w hH h1 ht=>by
  have e':=hH.evS (zM hx h1)
  simp only[RepS,RepV]at e'
  obtain⟨b,o,m,cap,e1,e2⟩:=e'
  obtain⟨a',cap',h2,h3,h4,_,h5⟩:=hH.yn.res id _ ht.1
  rw[e1]at h2
  simp only[Value.slice.injEq]at h2
  rcases h5 with⟨h5,_⟩|⟨b',o',cs,el,fz,h5,h6,h6',h7,h8⟩
  ·rw[h5]at h2;cases h2.1
  ·rw[h5]at h2
   have hb:b=b'∧o=o':=by have:=h2.1;simp at this;exact this
   obtain⟨rfl,rfl⟩:=hb
   obtain⟨ds,h9,h10⟩:=xN (M:=M) (ρ:=ρ) (vs:=vs) (g:=fun j=>cs[o+(kk+j)]?) fun j u hj=>by
    obtain⟨p,hp,e⟩:=hvs j u hj
    obtain⟨c,hc,hr⟩:=h8 _ p hp
    exact⟨c,hc,e ▸ hr⟩
   obtain⟨u,hu,hr⟩:=yv (w:=w) (b:=b) (o:=o+kk) h h9 (fun q c hc=>by
    have:=h10 q c hc
    simp only[←Nat.add_assoc]at this
    simp[World.cell?,h6,this]) hv
   exact⟨u,by simp only[execOp,e2,Sem.run_bind,Instr.loadAt,Instr.sureAddr,Sem.run_pure,Result.andThen_ok,hu],hr⟩
theorem zie{id kk e:Nat}{rows rows':List (List PC)}{ids ids':List Nat}{us:List V}{s:S}{sh:Option Nat}(hx:okc x (.one (.el id kk)))(hy:okc y s)(h:shp P t=some sh)
 (hc:cellsOf s=some us) (hl:us.length=sh.getD 1) (hln:rows'.length=rows.length) (hle: ∀r∈rows',r.length=e) (hb:kk+us.length≤rows.length*e)
 (hn: ∀q p,rows'.flatten[q]?=some p→(kk≤q∧us[q - kk]?=some (toV ids' p))∨((q<kk∨kk+us.length≤q)∧ ∃p0,rows.flatten[q]?=some p0∧toV ids p0=toV ids' p)):
 Snd P ⟨d,.store t x y,ty,ps,af,g⟩ (rq x (.one (.el id kk))++rq y s) [(id,.vw ids e rows)] [] .un [(id,some (.vw ids' e rows'))]:=by
 intro C st M ρ a w hH h1 ht _ hd k Q hk
 rw[zd]at h1
 have e0:=hH.evS (zM hx h1.1)
 have e':=yB hc (hH.evS (zM hy h1.2))
 simp only[RepS,RepV]at e0
 obtain⟨b,o,m,cap,e1,e2⟩:=e0
 obtain⟨a',cap',h2,h3,h4,hl0,h5⟩:=hH.yn.res id _ ht.1
 have h2':=h2
 rw[e1]at h2
 simp only[Value.slice.injEq]at h2
 rcases h5 with⟨h5,_⟩|⟨b',o',cs,el,fz,h5,h6,h6',h7,h8⟩
 ·rw[h5]at h2;cases h2.1
 ·rw[h5]at h2
  have hbo:b=b'∧o=o':=by have:=h2.1;simp at this;exact this
  obtain⟨rfl,rfl⟩:=hbo
  obtain⟨ii,hinf,hs⟩:=j6 h
  have hlen:(a.eval y).cells.toList.length=us.length:=by rw[e'.length]
  have hie:rows.length*e≤cap'*e:=Nat.mul_le_mul_right e h3
  have hst:=yd (P:=P) b (o+kk) el fz (a.eval y).cells.toList 0 cs w h6 h6' (by rw[hlen];omega) e'.one
  have hrun:(execOp a.eval ⟨d,.store t x y,ty,ps,af,g⟩).run P w= .ok .skip (w.setRow b (setAt cs.toList (o+kk) (a.eval y).cells.toList).toArray):=by
   have hsz: ¬((a.eval y).cells.size≠ii.size):=by rw[hs,←hl,←hlen];simp
   simp only[execOp,e2,Instr.storeAt,Instr.sureAddr,Sem.run_bind,Sem.run_pure,Result.andThen_ok,storeVar,run_sizeOf hinf,if_neg hsz]
   simp only[hst,Result.andThen_ok,Nat.add_zero]
  unfold Oper.wp
  rw[hrun,Oper.upon_skip]
  have hcsl:o+kk+(a.eval y).cells.toList.length≤cs.toList.length:=by rw[hlen];simp;omega
  have hsz:(setAt cs.toList (o+kk) (a.eval y).cells.toList).toArray.size=cs.size:=by simp[zL _ _ _ hcsl]
  refine hk _ _ M ρ (hH.turn ht.1 (fun k hk=>setRow_other w b k _ (fun e=>hk (by simp[h2',h5,Bk,blk,e]))) (by simp) rfl rfl rfl
   ⟨a',cap',by rw[hln];exact h2',by omega,by omega,hle,.inr ⟨b,o,_,el,fz,h5,setRow_heap w b _ _ el _ h6,by rw[hsz];exact h6',by rw[hsz];exact h7,fun q p hq=>?_⟩⟩ (by simp only[RepS]) hd)
  have hget:(setAt cs.toList (o+kk) (a.eval y).cells.toList).toArray[o+q]?=if o+q<o+kk then cs[o+q]? else if o+q<o+kk+us.length then(a.eval y).cells.toList[o+q - (o+kk)]? else cs[o+q]?:=by
   rw[List.getElem?_toArray,yb _ _ _ _ (by omega),hlen];simp
  rcases hn q p hq with⟨g1,g2⟩|⟨g1,p0,g2,g3⟩
  ·have hlt:q - kk<us.length:=(List.getElem?_eq_some_iff.1 g2).1
   obtain⟨c,c1,c2⟩:=xb e' g2
   refine⟨c,?_,c2⟩
   rw[hget,if_neg (by omega),if_pos (by omega),←c1];congr 1;omega
  ·obtain⟨c,c1,c2⟩:=h8 q p0 g2
   refine⟨c,?_,g3 ▸ c2⟩
   rw[hget]
   rcases g1 with g1|g1
   ·rw[if_pos (by omega)];exact c1
   ·rw[if_neg (by omega),if_neg (by omega)];exact c1
def zpC(P:Program)(e:Nat)(tx:TypeId)(s:S)(rt:RL)(rows:List (List PC))(ids:List Nat):Prop:=
 ∀(C:Ctx) (st:St) (M:Mem) (ρ:Nat→Value) (a:Act) (w:World) (v:Value),Holds C st M ρ a w→RepS M ρ s v→okT rt st→
  ∃news,Src P e tx v rows.length news w∧(∀(j:Nat) (p:PC),rows.flatten[j]?=some p→ ∃c,news[j]?=some c∧RepV M ρ (toV ids p) c)∧ ∀r∈rows,r.length=e
theorem zpC.vw{e:Nat}{tx el:TypeId}{id:Nat}{rows:List (List PC)}{ids:List Nat}(h:elemSz P tx=some (el,e)):zpC P e tx (.one (.ar id)) [(id,.vw ids e rows)] rows ids:=by
 intro C st M ρ a w v hH hr ht
 obtain⟨_,hu,_,_⟩:=zF h
 obtain⟨b,cap,h1,h2,h3,hl,h4⟩:=hH.yn.res id _ ht.1
 simp only[RepS,RepV]at hr
 rw[h1]at hr;rw[hr.1]
 rcases h4 with⟨rfl,hc⟩|⟨b',o,cs,el',fz,rfl,h6,_,_,h8⟩
 ·have:rows=[]:=List.length_eq_zero_iff.1 (by omega)
  subst this
  exact⟨[],Src.ofNil w hu cap,by simp,by simp⟩
 ·obtain⟨us,h9,h10⟩:=xN (M:=M) (ρ:=ρ) (vs:=rows.flatten.map (toV ids)) (g:=fun j=>cs[o+j]?) fun j u hj=>by
   rw[List.getElem?_map,Option.map_eq_some_iff]at hj
   obtain⟨p,hp,rfl⟩:=hj
   exact h8 j p hp
  refine⟨us,Src.ofSlice w hu _ _ cap us (by rw[h9.length,List.length_map,j7 hl]) (fun j u hj=>by rw[yt];have:=h10 j u hj;simp[World.cell?,h6,this]) h9.one,fun j p hj=>?_,hl⟩
  exact xb h9 (m:=j) (by rw[List.getElem?_map,hj];rfl)
theorem zfR{id id' e bytes:Nat}{rows rows2 rows3:List (List PC)}{ids ids2 ids':List Nat}{sy:S}{rt2:RL}{tx el:TypeId}{z:List V}(hx:okc x (.one (.ar id)))(hy:okc y sy)(hs:zpC P e tx sy rt2 rows2 ids2)(hm1:mentI id' ids'=false)(h3l:rows3.length=rows.length+rows2.length)(h3e: ∀r∈rows3,r.length=e)
 (h31: ∀(j:Nat) (x':PC),j<rows.length*e→rows3.flatten[j]?=some x'→ ∃x,rows.flatten[j]?=some x∧toV ids x=toV ids' x') (h32: ∀(j:Nat) (x':PC),rows3.flatten[rows.length*e+j]?=some x'→ ∃x,rows2.flatten[j]?=some x∧toV ids2 x=toV ids' x')
 (he:elemSz P t=some (el,e)) (hz:zeroV P el=some z) (hzl:z.length=e) (hby:(P.info? el).map (·.bytes)=some bytes) (hb:(rows.length+rows2.length)*bytes≤140737488355328) (hlen:rows.length+rows2.length≤9223372036854775807):
 Snd P ⟨d,.call ⟨.builtin .append,#[x,y],#[t,tx]⟩,ty,ps,af,g⟩ (rq x (.one (.ar id))++rq y sy) ((id,.vw ids e rows)::rt2) [id'] (.one (.ar id')) [(id',some (.vw ids' e rows3)),(id,none)]:=by
 intro C st M ρ a w hH h1 hT hF hd k Q hk
 rw[zd]at h1
 have e1:=hH.evS (zM hx h1.1)
 have e2:=hH.evS (zM hy h1.2)
 obtain⟨b,cap,h2,h3,h4,hl0,h5⟩:=hH.yn.res id _ hT.1
 simp only[RepS,RepV]at e1
 obtain⟨ii,hu,hinf,hsz⟩:=zF he
 obtain⟨news,hsrc,hnews,hlen2⟩:=hs C st M ρ a w _ hH e2 hT.2
 obtain⟨i',zv,hi',hzv,hzs⟩:=wj hz
 rw[hinf]at hi';simp only[Option.some.injEq]at hi';subst hi'
 rw[hinf]at hby;simp only[Option.map_some,Option.some.injEq]at hby
 have hnl:news.length=rows2.length*e:=hsrc.newsLen
 have hfr:=j7 hl0
 -- cells of the old and the new, as the new name says them
 have hnew: ∀(val:Value) (f:Nat→Option Value),(∀j p,rows.flatten[j]?=some p→ ∃c,f j=some c∧RepV M ρ (toV ids p) c)→(∀j c,news[j]?=some c→f (rows.length*e+j)=some c)→
  ∀j p,rows3.flatten[j]?=some p→ ∃c,f j=some c∧RepV M (upd ρ id' val) (toV ids' p) c:=fun val f hf1 hf2 j p hj=>by
  rcases Nat.lt_or_ge j (rows.length*e)with hlt|hge
  ·obtain⟨x,hx,he⟩:=h31 j p hlt hj
   obtain⟨c,c1,c2⟩:=hf1 j x hx
   refine⟨c,c1,?_⟩
   rw[he]at c2
   exact RepV.agree (yO ρ id' val) _ _ (fun i hi=>by subst hi;exact za9 hm1 p) c2
  ·have e3:rows.length*e+(j - rows.length*e)=j:=by omega
   obtain⟨x,hx,he⟩:=h32 (j - rows.length*e) p (by rw[e3];exact hj)
   obtain⟨c,c1,c2⟩:=hnews _ x hx
   refine⟨c,by have:=hf2 _ c c1;rwa [e3]at this,?_⟩
   rw[he]at c2
   exact RepV.agree (yO ρ id' val) _ _ (fun i hi=>by subst hi;exact za9 hm1 _) c2
 have hcall:execOp a.eval ⟨d,.call ⟨.builtin .append,#[x,y],#[t,tx]⟩,ty,ps,af,g⟩=(do pure (.value (←Builtin.append_ #[t,tx] ty #[a.eval x,a.eval y]))):=by
  simp[execOp,resolve,invoke,builtin]
 have fin: ∀ {val:Value} {w':World},(Builtin.append_ #[t,tx] ty #[a.eval x,a.eval y]).run P w= .ok val w'→
  (∀b',b'<w.heap.size→(∀i r,(some id)=some i→tg st.tab i=some r→ ¬Bk (ρ i) b')→w'.heap[b']?=w.heap[b']?)→w.heap.size≤w'.heap.size→w'.os=w.os→w'.tape=w.tape→w'.output=w.output→
  (∀b',Bk val b'→w.heap.size≤b'∨ ∃i r,(some id)=some i∧tg st.tab i=some r∧Bk (ρ i) b')→zJ M (upd ρ id' val) w' id' (.vw ids' e rows3)→val.oneCell'=true→
  Oper.wp P ⟨d,.call ⟨.builtin .append,#[x,y],#[t,tx]⟩,ty,ps,af,g⟩ a w k Q:=fun {val w'} hrun g1 g2 g3 g4 g5 g6 g7 g8=>by
  unfold Oper.wp
  rw[hcall]
  simp only[Sem.run_bind,hrun,Result.andThen_ok,Sem.run_pure,Oper.upon_value]
  exact hk _ _ _ _ (hH.step (some id) g1 g2 g3 g4 g5 g6 hF.1 g7 (by simp only[RepS,RepV];exact⟨(zt _ _ _).symm,g8⟩) hd)
 have hex:a.eval x= .slice b rows.length cap:=e1.1.trans h2
 rcases Nat.lt_or_ge cap (rows.length+rows2.length)with hlt|hge
 · -- a new row
   have hold: ∃olds:List Value,(Builtin.firstCells ii.size rows.length (.slice b rows.length cap)).run P w.drew= .ok olds.toArray w.drew∧(∀(j:Nat) (p:PC),rows.flatten[j]?=some p→ ∃c,olds[j]?=some c∧RepV M ρ (toV ids p) c)∧olds.length=rows.length*e:=by
    rcases h5 with⟨rfl,hc⟩|⟨b',o,cs,el',fz,rfl,h6,_,_,h8⟩
    ·have:rows=[]:=List.length_eq_zero_iff.1 (by omega)
     subst this
     exact⟨[],run_firstCells_none w.drew _ _ _ _,by simp,by simp⟩
    ·obtain⟨us,h9,h10⟩:=xN (M:=M) (ρ:=ρ) (vs:=rows.flatten.map (toV ids)) (g:=fun j=>cs[o+j]?) fun j u hj=>by
      rw[List.getElem?_map,Option.map_eq_some_iff]at hj
      obtain⟨p,hp,rfl⟩:=hj
      exact h8 j p hp
     have hul:us.length=rows.length*e:=by rw[h9.length,List.length_map,hfr]
     refine⟨us,?_,fun j p hj=>xb h9 (m:=j) (by rw[List.getElem?_map,hj];rfl),hul⟩
     rw[hsz]
     exact run_firstCells_some w.drew e rows.length ⟨b',o,none⟩ _ cap us hul (fun j u hj=>by
      rw[yt]
      have:=h10 j u hj
      have h6':w.drew.heap[b']?=some (.cells cs el' fz):=h6
      simp[World.cell?,h6',this])
   obtain⟨olds,ho1,ho2,ho3⟩:=hold
   have hrun:=run_append_grow_src (P:=P) w t tx ty el ii zv hu hinf hzv b rows.length cap olds ho1 (a.eval y) rows2.length news (by rw[hsz];exact hsrc) hlt (by omega) (growslice_fits hlt (by rw[hby];exact hb))
   rw[←hex]at hrun
   have hcap:=grownCap_ge w (rows.length+rows2.length) cap el
   refine fin hrun (fun b' hb' _=>yf w.drew _ b' hb') (by simp) rfl rfl rfl (fun b' hb'=> .inl ?_) ⟨some ⟨w.heap.size,0,none⟩,grownCap w (rows.length+rows2.length) cap el,by rw[zt,h3l],by rw[h3l];exact hcap,(by have:=grownCap_le_maxLen w (rows.length+rows2.length) cap el (by unfold maxLen;omega);unfold maxLen at this;omega),h3e,.inr
    ⟨w.heap.size,0,_,el,(0,0),rfl,zW w.drew _,fun i _=>by simp,?_,?_⟩⟩ rfl
   ·simp only[Bk,blk,Option.some.injEq]at hb';omega
   ·simp only[Array.size_append,List.size_toArray,List.length_append,size_zeroCells,hzs,hzl,ho3,hnl,←Nat.add_mul,Nat.zero_add]
    apply Nat.mul_le_mul_right;omega
   ·refine hnew _ _ (fun j p hj=>?_) (fun j c hj=>?_)
    ·obtain⟨c,c1,c2⟩:=ho2 j p hj
     have hjl:j<olds.length:=(List.getElem?_eq_some_iff.1 c1).1
     refine⟨c,?_,c2⟩
     rw[Nat.zero_add,Array.getElem?_append_left (by simp;omega)]
     simp only[List.getElem?_toArray]
     rw[List.getElem?_append_left hjl];exact c1
    ·have hjl:j<news.length:=(List.getElem?_eq_some_iff.1 hj).1
     rw[Nat.zero_add,Array.getElem?_append_left (by simp;omega)]
     simp only[List.getElem?_toArray]
     rw[List.getElem?_append_right (by omega),ho3]
     rw[show rows.length*e+j - rows.length*e=j by omega];exact hj
 · -- room
   rcases h5 with⟨rfl,hc⟩|⟨b',o,cs,el',fz,rfl,h6,h6',h7,h8⟩
   ·have e3:rows2=[]:=List.length_eq_zero_iff.1 (by omega)
    have e4:rows=[]:=List.length_eq_zero_iff.1 (by omega)
    subst e3;subst e4;subst hc
    have hn0:news=[]:=List.eq_nil_of_length_eq_zero (by simpa using hnl)
    subst hn0
    have hrun:(Builtin.append_ #[t,tx] ty #[a.eval x,a.eval y]).run P w= .ok (.slice none 0 0) w:=by
     rw[hex]
     have hl:(Builtin.lenOf (a.eval y)).run P w= .ok 0 w:=hsrc.len w
     have hc:(Builtin.firstCells e 0 (a.eval y)).run P w= .ok #[] w:=hsrc.cells
     rcases hsrc.kind with⟨e',hk'⟩|hk'<;>simp[Builtin.append_,run_underlying hu,run_underlying hk',Go.sizeOf,typeInfo,hinf,hl,hsz,hc]
    exact fin hrun (fun _ _ _=>rfl) (Nat.le_refl _) rfl rfl rfl (fun b' hb'=>by simp[Bk,blk]at hb') ⟨none,0,by rw[zt,h3l];rfl,by rw[h3l];simp,by simp,h3e,.inl ⟨rfl,rfl⟩⟩ rfl
   ·have hfit:o+rows.length*e+0+news.length≤cs.size:=by
     rw[hnl]
     have:(rows.length+rows2.length)*e≤cap*e:=Nat.mul_le_mul_right _ hge
     rw[Nat.add_mul]at this
     omega
    have hst:=yd (P:=P) b' (o+rows.length*e) el' fz news 0 cs w h6 h6' hfit hsrc.one
    have hrun:(Builtin.append_ #[t,tx] ty #[a.eval x,a.eval y]).run P w= .ok (.slice (some ⟨b',o,none⟩) (rows.length+rows2.length) cap) (w.setRow b' (setAt cs.toList (o+rows.length*e+0) news).toArray):=by
     rw[hex]
     have hl:=hsrc.len w
     have hc:=hsrc.cells
     rcases hsrc.kind with⟨e',hk'⟩|hk'<;>simp[Builtin.append_,run_underlying hu,run_underlying hk',Go.sizeOf,typeInfo,hinf,hl,hsz,hc,hge,yt,hst]
    have hob:Bk (ρ id) b':=by rw[h2];rfl
    have hsl:(setAt cs.toList (o+rows.length*e+0) news).length=cs.size:=by rw[zL _ _ _ (by simpa using hfit)];simp
    refine fin hrun (fun b2 hb2 hne=>yp w b' _ b2 fun e=>hne id _ rfl hT.1 (e ▸ hob)) (by simp[World.setRow]) rfl rfl rfl
     (fun b2 hb2=> .inr ⟨id,_,rfl,hT.1,by simp only[Bk,blk,Option.some.injEq]at hb2;rw[←hb2];exact hob⟩)
     ⟨some ⟨b',o,none⟩,cap,by rw[zt,h3l],by rw[h3l];exact hge,h4,h3e,.inr ⟨b',o,_,el',fz,rfl,setRow_heap w b' cs _ el' fz h6,?_,?_,?_⟩⟩ rfl
    ·simp only[List.size_toArray,hsl];exact h6'
    ·simp only[List.size_toArray,hsl];exact h7
    ·refine hnew _ _ (fun j p hj=>?_) (fun j c hj=>?_)
     ·obtain⟨c,c1,c2⟩:=h8 j p hj
      have hjl:j<rows.flatten.length:=(List.getElem?_eq_some_iff.1 hj).1
      refine⟨c,?_,c2⟩
      simp only[List.getElem?_toArray]
      rw[yb _ _ _ _ (by simp;omega),if_pos (by omega)];simpa using c1
     ·have hjl:j<news.length:=(List.getElem?_eq_some_iff.1 hj).1
      simp only[List.getElem?_toArray]
      rw[yb _ _ _ _ (by simp;omega),if_neg (by omega),if_pos (by omega)]
      rw[show o+(rows.length*e+j) - (o+rows.length*e+0)=j by omega]
      exact hj
theorem zmY{id e:Nat}{row:List PC}{ids:List Nat}{s:S}{us:List V}{el:TypeId}{z:List V}(hx:okc x s)(hc:cellsOf s=some us)(hus:row.map (toV ids)=us)(hrl:row.length=e)(hm:mentI id ids=false)
 (he:elemSz P t=some (el,e)) (hz:zeroV P el=some z) (he0:0<e) (heb:e≤16777216):
 Snd P ⟨d,.buildSlice t 1 #[(0,x)],ty,ps,af,g⟩ (rq x s) [] [id] (.one (.ar id)) [(id,some (.vw ids e [row]))]:=by
 intro C st M ρ a w hH h1 hT hF hd k Q hk
 have e':=yB hc (hH.evS (zM hx h1))
 obtain⟨ii,hu,hinf,hsz⟩:=zF he
 obtain⟨i',zv,hi',hzv,hzs⟩:=wj hz
 rw[hinf]at hi';simp only[Option.some.injEq]at hi';subst hi'
 have hul:us.length=e:=by rw[←hus,List.length_map,hrl]
 have hcl:(a.eval x).cells.size=e:=by have:=e'.length;simp at this;omega
 have hfill: ∀cur:Array Value,cur.size=e→Instr.fill (fun i=>some (i*e,e)) cur [(0,a.eval x)]=some (a.eval x).cells:=fun cur hcur=>by
  simp only[Instr.fill]
  have hcond: ¬((a.eval x).cells.size≠e||0*e+(a.eval x).cells.size>cur.size)=true:=by
   simp only[ne_eq,Bool.or_eq_true,decide_eq_true_eq];omega
  have hfold:=wk cur (0*e) (a.eval x).cells.toList 0 cur (by simp;omega)
  have hfold':(a.eval x).cells.zipIdx.foldl (fun cs (p:Value×Nat)=>cs.setIfInBounds (0*e+p.2) p.1) cur=(setAt cur.toList (0*e) (a.eval x).cells.toList).toArray:=by
   rw[←Array.foldl_toList]
   simpa using hfold
  rw[if_neg hcond,hfold']
  congr 1
  unfold setAt
  have:cur.toList.drop (0*e+(a.eval x).cells.toList.length)=[]:=by apply List.drop_eq_nil_of_le;simp;omega
  rw[this];simp
 have hrun:(execOp a.eval ⟨d,.buildSlice t 1 #[(0,x)],ty,ps,af,g⟩).run P w= .ok (.value (.slice (some ⟨w.heap.size,0,none⟩) 1 1)) (w.alloc (.cells (a.eval x).cells el)):=by
  have hn: ¬16777216<e:=by omega
  have h0: ¬e=0:=by omega
  have hf:=hfill ((Array.range (1*e)).map fun x=>zv.cells[x % zv.cells.size]!) (by simp)
  have hzrun:(zeroValue el).run P w= .ok zv w:=by simp[zeroValue,typeInfo,hinf,hzv]
  simp[execOp,Instr.buildSlice,run_underlying hu,run_sizeOf hinf,hsz,hn,h0,newRow,hzrun]at hf⊢
  simp[hf]
 unfold Oper.wp
 rw[hrun,Oper.upon_value]
 refine hk _ _ M _ (hH.alloc (val:= .slice (some ⟨w.heap.size,0,none⟩) 1 1) (fun b hb=>by simp only[Bk,blk,Option.some.injEq]at hb;exact hb.symm) hF.1
  ⟨some ⟨w.heap.size,0,none⟩,1,zt _ _ _,by simp,by simp,by simp[hrl],.inr ⟨w.heap.size,0,(a.eval x).cells,el,(0,0),rfl,zW w _,fun i hi=>by simp,by omega,fun j p hj=>?_⟩⟩ (by simp only[RepS,RepV];exact⟨(zt _ _ _).symm,rfl⟩) hd)
 simp only[List.flatten_cons,List.flatten_nil,List.append_nil]at hj
 obtain⟨c,c1,c2⟩:=xb e' (m:=j) (v:=toV ids p) (by rw[←hus,List.getElem?_map,hj];rfl)
 refine⟨c,by rw[Nat.zero_add];simpa using c1,RepV.agree (yO ρ id _) _ _ (fun i hi=>by subst hi;exact za9 hm p) c2⟩
end
section
variable {P:Program} {C:Ctx} {k:List Frm} {n:Nat} {sl:zi} {tab:Tab} {Q:Exit→St→Prop} {all:Array Oper} {rest:List Oper} {cur:Cur}
theorem zom(T:Ty P){d:Nat}{x y:Operand}{t:TypeId}{ty:TypeId}{ps:String}{af:Array Edge}{g0:Option (Nat×Bool)}{gs:zi}{md:Mode}(hC:C.low){id e:Nat}{rows:List (List PC)}{ids:List Nat}{k0:IntKind}{i:Int}{el:TypeId}
 (hx:ev sl x=some (.one (.ar id))) (hy:ev sl y=some (Kk k0 i)) (hT:tg tab id=some (.vw ids e rows)) (he:T.es t=some (el,e)) (h0:0≤i) (hi:i<rows.length) (hm:metL all sl g0=some gs) (hd:Nat.blt d n=true)
 (g:Goal P C (.ops all rest (nx md ⟨some d,gs++(rq x (.one (.ar id))++rq y (Kk k0 i)),[(id,.vw ids e rows)],[],.one (.el id (i.toNat*e)),[]⟩)) k n ((d,.one (.el id (i.toNat*e)))::sl) tab Q):
 Goal P C (.ops all (⟨some d,.indexAddr t x y,ty,ps,af,g0⟩::rest) md) k n sl tab Q:=by
 have e1:=zX (st:=⟨n,sl,tab⟩) hx
 have e2:=zX (st:=⟨n,sl,tab⟩) hy
 have:=zq hm (zid (ids:=ids) (ty:=ty) (ps:=ps) (af:=af) (g:=g0) (d:=some d) e1.1 e2.1 (T.es_ok _ _ he) h0 hi) (n:=n) (tab:=tab)
 exact yr (L:=⟨some d,gs++(rq x (.one (.ar id))++rq y (Kk k0 i)),[(id,.vw ids e rows)],[],.one (.el id (i.toNat*e)),[]⟩) hC this.1 rfl ⟨by rw[zd,zd];exact⟨this.2,e1.2,e2.2⟩,⟨hT,trivial⟩,rfl,hd⟩ g
theorem zro(T:Ty P){d:Nat}{x:Operand}{t:TypeId}{ty:TypeId}{ps:String}{af:Array Edge}{g0:Option (Nat×Bool)}{gs:zi}{md:Mode}(hC:C.low){id e:Nat}{rows:List (List PC)}{ids:List Nat}{el:TypeId}{m:Nat}
 (hx:ev sl x=some (.one (.ar id))) (hT:tg tab id=some (.vw ids e rows)) (he:T.es t=some (el,m)) (hm:metL all sl g0=some gs) (hd:Nat.blt d n=true)
 (g:Goal P C (.ops all rest (nx md ⟨some d,gs++rq x (.one (.ar id)),[(id,.vw ids e rows)],[],I rows.length,[]⟩)) k n ((d,I rows.length)::sl) tab Q):
 Goal P C (.ops all (⟨some d,.call ⟨.builtin .len,#[x],#[t]⟩,ty,ps,af,g0⟩::rest) md) k n sl tab Q:=by
 have e1:=zX (st:=⟨n,sl,tab⟩) hx
 have:=zq hm (zmX (e:=e) (rows:=rows) (ids:=ids) (as':= #[t]) (ty:=ty) (ps:=ps) (af:=af) (g:=g0) (d:=some d) e1.1 rfl (T.es_ok _ _ he)) (n:=n) (tab:=tab)
 exact yr (L:=⟨some d,gs++rq x (.one (.ar id)),[(id,.vw ids e rows)],[],I rows.length,[]⟩) hC this.1 rfl ⟨by rw[zd];exact⟨this.2,e1.2⟩,⟨hT,trivial⟩,rfl,hd⟩ g
theorem jG(T:Ty P){d:Nat}{x:Operand}{t ty:TypeId}{ps:String}{af:Array Edge}{g0:Option (Nat×Bool)}{gs:zi}{md:Mode}(hC:C.low){id kk e:Nat}{rows:List (List PC)}{ids:List Nat}(vs:List V){s:Option Nat}{v:S}
 (hx:ev sl x=some (.one (.el id kk))) (hT:tg tab id=some (.vw ids e rows)) (hsh:T.sh t=some s) (hvs: ∀j v,vs[j]?=some v→ ∃p,rows.flatten[kk+j]?=some p∧toV ids p=v) (hv:ofCells s vs=some v) (hm:metL all sl g0=some gs) (hd:Nat.blt d n=true)
 (g:Goal P C (.ops all rest (nx md ⟨some d,gs++rq x (.one (.el id kk)),[(id,.vw ids e rows)],[],v,[]⟩)) k n ((d,v)::sl) tab Q):
 Goal P C (.ops all (⟨some d,.load t x,ty,ps,af,g0⟩::rest) md) k n sl tab Q:=by
 have e1:=zX (st:=⟨n,sl,tab⟩) hx
 have:=zq hm (zkh (e:=e) (ty:=ty) (ps:=ps) (af:=af) (g:=g0) (d:=some d) e1.1 (T.sh_ok _ _ hsh) hvs hv) (n:=n) (tab:=tab)
 exact yr (L:=⟨some d,gs++rq x (.one (.el id kk)),[(id,.vw ids e rows)],[],v,[]⟩) hC this.1 rfl ⟨by rw[zd];exact⟨this.2,e1.2⟩,⟨hT,trivial⟩,rfl,hd⟩ g
theorem zgJ(T:Ty P){x y:Operand}{t ty:TypeId}{ps:String}{af:Array Edge}{g0:Option (Nat×Bool)}{gs:zi}{md:Mode}(hC:C.low){id kk e:Nat}{rows:List (List PC)}(rows':List (List PC)){ids:List Nat}(ids':List Nat){us:List V}{s:S}{sh:Option Nat}
 (hx:ev sl x=some (.one (.el id kk))) (hy:ev sl y=some s) (hT:tg tab id=some (.vw ids e rows)) (hsh:T.sh t=some sh) (hc:cellsOf s=some us) (hl:us.length=sh.getD 1) (hln:rows'.length=rows.length) (hle: ∀r∈rows',r.length=e) (hb:kk+us.length≤rows.length*e)
 (hn: ∀q p,rows'.flatten[q]?=some p→(kk≤q∧us[q - kk]?=some (toV ids' p))∨((q<kk∨kk+us.length≤q)∧ ∃p0,rows.flatten[q]?=some p0∧toV ids p0=toV ids' p)) (hm:metL all sl g0=some gs)
 (g:Goal P C (.ops all rest (nx md ⟨none,gs++(rq x (.one (.el id kk))++rq y s),[(id,.vw ids e rows)],[],.un,[(id,some (.vw ids' e rows'))]⟩)) k n sl ((id,some (.vw ids' e rows'))::tab) Q):
 Goal P C (.ops all (⟨none,.store t x y,ty,ps,af,g0⟩::rest) md) k n sl tab Q:=by
 have e1:=zX (st:=⟨n,sl,tab⟩) hx
 have e2:=zX (st:=⟨n,sl,tab⟩) hy
 have:=zq hm (zie (ty:=ty) (ps:=ps) (af:=af) (g:=g0) (d:=none) e1.1 e2.1 (T.sh_ok _ _ hsh) hc hl hln hle hb hn) (n:=n) (tab:=tab)
 exact yr (L:=⟨none,gs++(rq x (.one (.el id kk))++rq y s),[(id,.vw ids e rows)],[],.un,[(id,some (.vw ids' e rows'))]⟩) hC this.1 rfl ⟨by rw[zd,zd];exact⟨this.2,e1.2,e2.2⟩,⟨hT,trivial⟩,rfl,rfl⟩ g
theorem zki(T:Ty P)(id':Nat){d:Nat}{x y:Operand}{t tx ty:TypeId}{ps:String}{af:Array Edge}{g0:Option (Nat×Bool)}{gs:zi}{md:Mode}(hC:C.low){id e bytes:Nat}{rows rows2:List (List PC)}{ids ids2:List Nat}(ids':List Nat)(rows3:List (List PC)){sy:S}{rt2:RL}{el:TypeId}{z:List V}
 (hx:ev sl x=some (.one (.ar id))) (hy:ev sl y=some sy) (hT:tg tab id=some (.vw ids e rows)) (hT2:rdT tab rt2=rt2) (hs:zpC P e tx sy rt2 rows2 ids2) (hm1:mentI id' ids'=false) (h3l:rows3.length=rows.length+rows2.length) (h3e: ∀r∈rows3,r.length=e)
 (h31: ∀(j:Nat) (x':PC),j<rows.length*e→rows3.flatten[j]?=some x'→ ∃x,rows.flatten[j]?=some x∧toV ids x=toV ids' x') (h32: ∀(j:Nat) (x':PC),rows3.flatten[rows.length*e+j]?=some x'→ ∃x,rows2.flatten[j]?=some x∧toV ids2 x=toV ids' x')
 (he:T.es t=some (el,e)) (hz:T.zs el=some z) (hzl:Nat.beq z.length e=true) (hby:(P.info? el).map (·.bytes)=some bytes)
 (hb:(rows.length+rows2.length)*bytes≤140737488355328) (hlen:rows.length+rows2.length≤9223372036854775807) (hm:metL all sl g0=some gs) (hd:Nat.blt d n=true) (hf:(Nat.ble 100 id'&&freshB id' ⟨n,sl,tab⟩)=true)
 (g:Goal P C (.ops all rest (nx md ⟨some d,gs++(rq x (.one (.ar id))++rq y sy),(id,.vw ids e rows)::rt2,[id'],.one (.ar id'),[(id',some (.vw ids' e rows3)),(id,none)]⟩)) k n ((d,.one (.ar id'))::sl) ([(id',some (.vw ids' e rows3)),(id,none)]++tab) Q):
 Goal P C (.ops all (⟨some d,.call ⟨.builtin .append,#[x,y],#[t,tx]⟩,ty,ps,af,g0⟩::rest) md) k n sl tab Q:=by
 have e1:=zX (st:=⟨n,sl,tab⟩) hx
 have e2:=zX (st:=⟨n,sl,tab⟩) hy
 have:=zq hm (zfR (P:=P) (ty:=ty) (ps:=ps) (af:=af) (g:=g0) (d:=some d) (id':=id') e1.1 e2.1 hs hm1 h3l h3e h31 h32 (T.es_ok _ _ he) (T.zs_ok _ _ hz) (Nat.eq_of_beq_eq_true hzl) hby hb hlen) (n:=n) (tab:=tab)
 exact yr (L:=⟨some d,gs++(rq x (.one (.ar id))++rq y sy),(id,.vw ids e rows)::rt2,[id'],.one (.ar id'),[(id',some (.vw ids' e rows3)),(id,none)]⟩) hC this.1 rfl
  ⟨by rw[zd,zd];exact⟨this.2,e1.2,e2.2⟩,⟨hT,zbI hT2⟩,zcc hf,hd⟩ g
theorem zgK(T:Ty P){d:Nat}{x:Operand}{t ty:TypeId}{ps:String}{af:Array Edge}{g0:Option (Nat×Bool)}{gs:zi}{md:Mode}(hC:C.low){e:Nat}(row:List PC)(ids:List Nat){s:S}{us:List V}{el:TypeId}{z:List V}
 (hx:ev sl x=some s) (hc:cellsOf s=some us) (hus:row.map (toV ids)=us) (hrl:row.length=e) (hmx:mentI (1000+d) ids=false) (he:T.es t=some (el,e)) (hz:T.zs el=some z) (he0:Nat.blt 0 e=true) (heb:Nat.ble e 16777216=true)
 (hm:metL all sl g0=some gs) (hd:Nat.blt d n=true) (hf:(Nat.ble 100 (1000+d)&&freshB (1000+d) ⟨n,sl,tab⟩)=true)
 (g:Goal P C (.ops all rest (nx md ⟨some d,gs++rq x s,[],[1000+d],.one (.ar (1000+d)),[(1000+d,some (.vw ids e [row]))]⟩)) k n ((d,.one (.ar (1000+d)))::sl) ((1000+d,some (.vw ids e [row]))::tab) Q):
 Goal P C (.ops all (⟨some d,.buildSlice t 1 #[(0,x)],ty,ps,af,g0⟩::rest) md) k n sl tab Q:=by
 have e1:=zX (st:=⟨n,sl,tab⟩) hx
 have:=zq hm (zmY (P:=P) (ty:=ty) (ps:=ps) (af:=af) (g:=g0) (d:=some d) (id:=1000+d) e1.1 hc hus hrl hmx (T.es_ok _ _ he) (T.zs_ok _ _ hz) (by simpa [Nat.blt_eq]using he0) (Nat.le_of_ble_eq_true heb)) (n:=n) (tab:=tab)
 exact yr (L:=⟨some d,gs++rq x s,[],[1000+d],.one (.ar (1000+d)),[(1000+d,some (.vw ids e [row]))]⟩) hC this.1 rfl ⟨by rw[zd];exact⟨this.2,e1.2⟩,trivial,zcc hf,hd⟩ g
theorem zJ.zrp{M:Mem}{ρ:Nat→Value}{w:World}{id e:Nat}(ids:List Nat){rows:List (List PV)}(h:zJ M ρ w id (.arr e rows)):zJ M ρ w id (.vw ids e (rows.map (·.map PC.p))):=by
 obtain⟨a,cap,h1,h2,h3,hl,h4⟩:=h.toV
 have hfl:(rows.map (·.map PC.p)).flatten=rows.flatten.map PC.p:=by rw[List.map_flatten]
 refine⟨a,cap,by rw[List.length_map];exact h1,by rw[List.length_map];exact h2,h3,fun r hr=>?_,?_⟩
 ·obtain⟨r0,h0,rfl⟩:=List.mem_map.1 hr
  rw[List.length_map];exact hl r0 h0
 ·rcases h4 with h4|⟨b,o,cs,el,fz,h5,h6,h6',h7,h8⟩
  ·exact .inl h4
  ·refine .inr ⟨b,o,cs,el,fz,h5,h6,h6',h7,fun j p hj=>?_⟩
   rw[hfl,List.getElem?_map,Option.map_eq_some_iff]at hj
   obtain⟨p,hp,rfl⟩:=hj
   exact h8 j p hp
theorem zs7(hc:lst cur=true)(id:Nat)(ids:List Nat){e:Nat}{rows:List (List PV)}{rows':List (List PC)}(hid:tg tab id=some (.arr e rows))(hr:rows.map (·.map PC.p)=rows')(g:Goal P C cur k n sl ((id,some (.vw ids e rows'))::tab) Q):Goal P C cur k n sl tab Q:=by
 subst hr
 exact zrq hc hid (fun _ _ _ h=>h.zrp ids) g
end
end Hw
/- The engine, part BH: resources lent to a call as memory that nobody writes; resources that are written no more. -/
namespace Hw
open Go
open Classical in
noncomputable def lentN(M:Mem)(ρ:Nat→Value)(w:World)(B:RL):Mem:=fun b o=>match M b o with
 |some v=>some v
 |none=>if ∃i r,(i,r)∈B∧Bk (ρ i) b then w.cell? ⟨b,o,none⟩else none
def zbJ(M:Mem)(ρ:Nat→Value)(w:World)(B:RL):Prop:=Imm M w∧ ∀i r,(i,r)∈B→zJ M ρ w i r
theorem wL{M:Mem}{ρ:Nat→Value}{w:World}{B:RL}:MLe M (lentN M ρ w B):=fun b o v hv=>by simp only[lentN,hv]
theorem zek{M:Mem}{ρ:Nat→Value}{w:World}{B:RL}(h:Imm M w):Imm (lentN M ρ w B) w:=fun b o v hv=>by
 simp only[lentN]at hv
 split at hv
 ·rename_i u hu;simp only[Option.some.injEq]at hv;subst hv;exact h b o u hu
 ·split at hv
  ·exact hv
  ·cases hv
theorem zel{M:Mem}{ρ:Nat→Value}{w:World}{B:RL}{b o:Nat}{v:Value}(h:lentN M ρ w B b o=some v):M b o=some v∨ ∃i r,(i,r)∈B∧Bk (ρ i) b:=by
 simp only[lentN]at h
 split at h
 ·rename_i u hu;simp only[Option.some.injEq]at h;subst h;exact .inl hu
 ·split at h
  ·rename_i hb;exact .inr hb
  ·cases h
theorem zas{M:Mem}{ρ:Nat→Value}{w:World}{B:RL}(hI:Imm M w){b:Nat}(hb: ∃i r,(i,r)∈B∧Bk (ρ i) b){cs:Array Value}{el:TypeId}{fz:Nat×Nat}(hh:w.heap[b]?=some (.cells cs el fz))(i:Nat)(c:Value)(hc:cs[i]?=some c):lentN M ρ w B b i=some c:=by
 have hc':w.cell? ⟨b,i,none⟩=some c:=by simp[World.cell?,hh,hc]
 simp only[lentN]
 cases hm0:M b i with
 |none=>simp only;rw[if_pos hb];exact hc'
 |some u=>have:=hI b i u hm0;rw[hc']at this;exact this.symm
theorem zgL{M:Mem}{ρ:Nat→Value}{w:World}{B:RL}(hI:Imm M w){v:Value}{e:Nat}{rs:List (List PV)}(h:x7 M w v e rs)(hb: ∀b,blk v=some b→ ∃i r,(i,r)∈B∧Bk (ρ i) b):RepPV (lentN M ρ w B) (.sl e rs) v:=by
 obtain⟨a0,cap,h1,h2,h3,h4⟩:=h
 simp only[RepPV]
 refine⟨a0,cap,h1,h2,Nat.le_trans h2 h3,?_⟩
 rcases h4 with⟨rfl,hc⟩|⟨b,o,cs,el,fz,h5,h6,h6',h7,h8⟩
 ·exact .inl (List.length_eq_zero_iff.1 (by omega))
 ·exact .inr ⟨b,o,h5,RowsIn.mono wL (fun i c hc=>zas hI (hb b (by rw[h1,h5];rfl)) h6 i c hc) _ _ h8⟩
def LnV(B:RL)(v v':V):Prop:= ∀M ρ w u,zbJ M ρ w B→RepV M ρ v u→RepV (lentN M ρ w B) ρ v' u
def zlX(B:RL)(v v':List V):Prop:= ∀M ρ w u,zbJ M ρ w B→RepVs M ρ v u→RepVs (lentN M ρ w B) ρ v' u
def LnS(B:RL)(v v':S):Prop:= ∀M ρ w u,zbJ M ρ w B→RepS M ρ v u→RepS (lentN M ρ w B) ρ v' u
def y4(B:RL)(v v':List S):Prop:= ∀M ρ w u,zbJ M ρ w B→RepSs M ρ v u→RepSs (lentN M ρ w B) ρ v' u
section
variable {B:RL}
theorem LnV.le{v v':V}(h:LeV v v'):LnV B v v':=fun _ _ _ _ _ hr=>h _ _ _ (RepV.mono wL _ _ hr)
theorem LnV.refl(v:V):LnV B v v:= .le (.refl v)
theorem LnS.le{v v':S}(h:LeS v v'):LnS B v v':=fun _ _ _ _ _ hr=>h _ _ _ (RepS.mono wL _ _ hr)
theorem LnS.refl(v:S):LnS B v v:= .le (.refl v)
theorem zlX.nil:zlX B [] []:=fun _ _ _ x _ hr=>by cases x<;>simp only[RepVs]at hr⊢
theorem zlX.cons{v v':V}{vs vs':List V}(h:LnV B v v')(hs:zlX B vs vs'):zlX B (v::vs) (v'::vs'):=fun M ρ w x hf hr=>by
 cases x with
 |nil=>simp only[RepVs]at hr
 |cons c cs=>simp only[RepVs]at hr ⊢; exact⟨h _ _ _ _ hf hr.1,hs _ _ _ _ hf hr.2⟩
theorem zlX.refl: ∀v:List V,zlX B v v
 | []=> .nil
 |v::vs=> .cons (.refl v) (zlX.refl vs)
theorem LnS.one{v v':V}(h:LnV B v v'):LnS B (.one v) (.one v'):=fun M ρ w x hf hr=>by simp only[RepS]at hr ⊢; exact h _ _ _ _ hf hr
theorem LnS.agg{v v':List V}(h:zlX B v v'):LnS B (.agg v) (.agg v'):=fun M ρ w x hf hr=>by
 simp only[RepS]at hr ⊢; obtain⟨cs,h1,h2⟩:=hr;exact⟨cs,h1,h _ _ _ _ hf h2⟩
theorem y4.nil:y4 B [] []:=fun _ _ _ x _ hr=>by cases x<;>simp only[RepSs]at hr⊢
theorem y4.cons{v v':S}{vs vs':List S}(h:LnS B v v')(hs:y4 B vs vs'):y4 B (v::vs) (v'::vs'):=fun M ρ w x hf hr=>by
 cases x with
 |nil=>simp only[RepSs]at hr
 |cons c cs=>simp only[RepSs]at hr ⊢; exact⟨h _ _ _ _ hf hr.1,hs _ _ _ _ hf hr.2⟩
theorem y4.refl: ∀v:List S,y4 B v v
 | []=> .nil
 |v::vs=> .cons (.refl v) (y4.refl vs)
theorem LnV.ar{id e:Nat}{rows:List (List PV)}(hm:(id,.arr e rows)∈B):LnV B (.ar id) (.p (.sl e rows)):=fun M ρ w u hH hr=>by
 simp only[RepV]at hr⊢
 have hA:x7 M w (ρ id) e rows:=hH.2 id _ hm
 rw[hr.1]
 obtain⟨a,cap,h1,_⟩:=hA
 have hA:x7 M w (ρ id) e rows:=hH.2 id _ hm
 exact zgL hH.1 hA fun b hb=>⟨id,_,hm,by rw[h1]at hb ⊢; exact hb⟩
theorem LnV.nv{id e q:Nat}{L:List (List (List PV))}{rs:List (List PV)}(hm:(id,.bag e L)∈B)(hq:L[q]?=some rs):LnV B (.nv id q) (.p (.sl e rs)):=fun M ρ w u hH hr=>by
 simp only[RepV]at hr⊢
 obtain⟨xs,f1,f2,_⟩:=hr
 exact zgL hH.1 (vJ (hH.2 id _ hm) hq f1 f2) fun b hb=>⟨id,_,hm,by rw[f1];exact zeh f2 hb⟩
theorem LnV.vw{id e:Nat}{ids:List Nat}{rows:List (List PC)}{rows':List (List PV)}(hm:(id,.vw ids e rows)∈B)(hl:rows'.length=rows.length)(hle: ∀r∈rows',r.length=e)
 (hc: ∀(j:Nat) (x':PV),rows'.flatten[j]?=some x'→ ∃x,rows.flatten[j]?=some x∧LnV B (toV ids x) (.p x')):LnV B (.ar id) (.p (.sl e rows')):=fun M ρ w u hH hr=>by
 simp only[RepV,RepPV]at hr⊢
 obtain⟨a,cap,h1,h2,h3,_,h4⟩:=hH.2 id _ hm
 refine⟨a,cap,by rw[hl];exact hr.1.trans h1,by omega,by omega,?_⟩
 rcases h4 with⟨rfl,hcap⟩|⟨b,o,cs,el,fz,h5,h6,h6',h7,h8⟩
 ·exact .inl (List.length_eq_zero_iff.1 (by omega))
 ·refine .inr ⟨b,o,h5,?_⟩
  have hb: ∃i r,(i,r)∈B∧Bk (ρ i) b:=⟨id,_,hm,by rw[h1,h5];rfl⟩
  obtain⟨ds,k9,k10⟩:=xN (M:=lentN M ρ w B) (ρ:=ρ) (vs:=rows'.flatten.map V.p) (g:=fun j=>cs[o+j]?) fun j v hj=>by
   rw[List.getElem?_map,Option.map_eq_some_iff]at hj
   obtain⟨x',hx',rfl⟩:=hj
   obtain⟨x,hx,hv⟩:=hc j x' hx'
   obtain⟨c,c1,c2⟩:=h8 j x hx
   exact⟨c,c1,hv _ _ _ _ hH c2⟩
  exact RowsIn.mono (MLe.refl _) (fun i c hcc=>zas hH.1 hb h6 i c hcc) _ _ (RowsIn.yA (ρ:=ρ) hle k9 fun j c hj=>k10 j c hj)
end
section
variable {P:Program} {d:Option Nat} {ty:TypeId} {ps:String} {af:Array Edge} {g:Option (Nat×Bool)}
theorem zpD{f:FuncId}{args:List S}{res:S}(h:zj P f args [] res [])(B:RL){x:Operand}{l:List Operand}{ts:Array TypeId}{first caps:List V}{ss:List S}
 (hx:okc x (.one (.cl f first caps))) (hl:ziN l ss) (hle:y4 B (ones first++ss++ones caps) args) (hf:flatS res=true):
 Snd P ⟨d,.call ⟨.value x,l.toArray,ts⟩,ty,ps,af,g⟩ (rq x (.one (.cl f first caps))++rqs l ss) B [] res []:=by
 intro C st M ρ a w hH h1 hT hF hd k Q hk
 rw[zd]at h1
 have e1:=hH.evS (zM hx h1.1)
 have e2:=hH.zlV (jk hl h1.2)
 simp only[RepS,RepV]at e1
 obtain⟨xs,ys,e3,e4,e5⟩:=e1
 have hall:zbJ M ρ w B:=⟨hH.run.imm,fun i r hm=>hH.yn.res i r (zat hT hm)⟩
 have e6:RepSs (lentN M ρ w B) ρ args (xs++l.map a.eval++ys):=hle _ _ _ _ hall (yV (yV (xK e4) e2) (xK e5))
 have e7:vx (lentN M ρ w B) ρ w (tb []):=⟨fun _ _ h=>(by cases h),fun _ _ _ _ _ h=>(by cases h),fun _ _ _ h=>(by cases h)⟩
 unfold Oper.wp
 rw[zde h.1 e3,Oper.upon_enter]
 refine Calls.mono (h.2 (lentN M ρ w B) ρ w _ e6 e7 (zek hH.run.imm) (hH.gok.mono wL)) fun e w' ⟨v,M',ρ',he,hr⟩=>?_
 subst he
 have hH':=hH.grow (w':=w') (fun b hb=>hr.fram b hb (fun⟨i,r,h,_⟩=>by cases h)) hr.size hr.os hr.tape hr.output
 exact hk _ _ _ _ (hH'.zbK hd (zem hf hr.rep))
end
section
variable {P:Program} {C:Ctx} {k:List Frm} {n:Nat} {sl:zi} {tab:Tab} {Q:Exit→St→Prop} {all:Array Oper} {rest:List Oper} {cur:Cur}
theorem yk{d:Nat}{x:Operand}{l:List Operand}{ts:Array TypeId}{ty:TypeId}{ps:String}{af:Array Edge}{g0:Option (Nat×Bool)}{gs:zi}{md:Mode}(hC:C.low){f:FuncId}{args ss:List S}{first caps:List V}{res:S}
 (h:zj P f args [] res []) (B:RL) (hx:ev sl x=some (.one (.cl f first caps))) (hl:evs sl l=some ss) (ha:y4 B (ones first++ss++ones caps) args) (hc:flatS res=true) (hm:metL all sl g0=some gs) (hB:rdT tab B=B) (hd:Nat.blt d n=true)
 (g:Goal P C (.ops all rest (nx md ⟨some d,gs++(rq x (.one (.cl f first caps))++rqs l ss),B,[],res,[]⟩)) k n ((d,res)::sl) tab Q):
 Goal P C (.ops all (⟨some d,.call ⟨.value x,l.toArray,ts⟩,ty,ps,af,g0⟩::rest) md) k n sl tab Q:=by
 have e1:=zX (st:=⟨n,sl,tab⟩) hx
 have e2:=jl (st:=⟨n,sl,tab⟩) hl
 have:=zq hm (zpD (ty:=ty) (ps:=ps) (af:=af) (g:=g0) (d:=some d) (ts:=ts) h B e1.1 e2.1 ha hc) (n:=n) (tab:=tab)
 exact yr (L:=⟨some d,gs++(rq x (.one (.cl f first caps))++rqs l ss),B,[],res,[]⟩) hC this.1 rfl ⟨by rw[zd,zd];exact⟨this.2,e1.2,e2.2⟩,zbI hB,rfl,hd⟩ g
def LnR(B:RL)(r r':Res):Prop:= ∀M ρ w i,zbJ M ρ w B→zJ M ρ w i r→zJ (lentN M ρ w B) ρ w i r'
theorem LnR.box{B:RL}{vs vs':List V}(h:zlX B vs vs'):LnR B (.box vs) (.box vs'):=fun _ _ _ _ hr ⟨b,cs,el,e1,e2,e3⟩=>⟨b,cs,el,e1,e2,h _ _ _ _ hr e3⟩
def upN(B:RL)(tab:Tab):List (Nat×Res)→Prop
 | []=>True
 |(i,r')::l=>(∃r,tg tab i=some r∧(hasB i B.ids=false∧LnR B r r'))∧upN B tab l
theorem zon{B:RL}{tab b:Tab}: ∀ {ups:List (Nat×Res)},upN B tab ups→ ∀ {k:Nat} {r:Res},tg (ziQ ups++b) k=some r→
 tg b k=some r∨ ∃r0,tg tab k=some r0∧k∉B.ids∧LnR B r0 r
 | [],_,k,r,h=> .inl h
 |(t,s')::l,hu,k,r,h=>by
  simp only[ziQ,List.cons_append,yc]at h
  split at h
  ·rename_i e;subst e;simp only[Option.some.injEq]at h;subst h
   obtain⟨r0,h1,h2,h3⟩:=hu.1
   have n1:t∉B.ids:=fun hm=>by have:=za7 hm;rw[h2]at this;cases this
   exact .inr ⟨r0,h1,n1,h3⟩
  ·exact zon hu.2 h
theorem zen(hc:lst cur=true)(B:RL)(hBT:rdT tab B=B)(ups:zi)(hS:upS (LnS B) sl ups)(bs:List (Nat×Res))(hB:upN B tab bs)
 (g:Goal P C cur k n (ups++sl) (ziQ bs++(zdG B.ids++tab)) Q):Goal P C cur k n sl tab Q:=by
 refine zcp hc (fun {M ρ a w} h=>?_) g
 have hTB:=zbI (n:=n) (sl:=sl) hBT
 have hall:zbJ M ρ w B:=⟨h.run.imm,fun i r hm=>h.yn.res i r (zat hTB hm)⟩
 have htab: ∀i r,tg (ziQ bs++(zdG B.ids++tab)) i=some r→i∉B.ids∧ ∃r0,tg tab i=some r0∧(r=r0∨LnR B r0 r):=fun i r hi=>by
  rcases zon hB hi with h1|⟨r0,h1,h2,h3⟩
  ·have:=zfQ h1
   exact⟨this.1,r,this.2,.inl rfl⟩
  ·exact⟨h2,r0,h1,.inr h3⟩
 refine⟨lentN M ρ w B,ρ,h.dfr,h.sz,fun k s hk=>?_,⟨fun i r hi=>?_,fun i j ri rj b hi hj hne hbi hbj=>?_,fun i r b hi hb o=>?_⟩,fun i r b hi hb=>?_,
  ⟨zek h.run.imm,h.run.fram,h.run.size,h.run.base.trans wL,fun b o u hu=>?_,h.run.os,h.run.tape,h.run.output⟩,h.keep⟩
 ·rcases zej hS hk with h1|⟨s0,h1,h2⟩
  ·exact RepS.mono wL _ _ (h.slots k s h1)
  ·exact h2 _ _ _ _ hall (h.slots k s0 h1)
 ·obtain⟨_,r0,h1,h2⟩:=htab i r hi
  rcases h2 with rfl|h2
  ·exact(h.yn.res i r h1).mono wL
  ·exact h2 _ _ _ _ hall (h.yn.res i r0 h1)
 ·obtain⟨_,r0,h1,_⟩:=htab i ri hi
  obtain⟨_,s0,h2,_⟩:=htab j rj hj
  exact h.yn.dis i j r0 s0 b h1 h2 hne hbi hbj
 ·obtain⟨i1,r0,h1,_⟩:=htab i r hi
  cases hm:lentN M ρ w B b o with
  |none=>rfl
  |some u=>
   rcases zel hm with h3|⟨j,s,hj,hbj⟩
   ·rw[h.yn.own i r0 b h1 hb o]at h3;cases h3
   ·exact(h.yn.dis i j r0 s b h1 (zat hTB hj) (fun e=>i1 (e ▸ xe hj)) hb hbj).elim
 ·obtain⟨_,r0,h1,_⟩:=htab i r hi
  exact h.ownf i r0 b h1 hb
 ·rcases zel hu with h3|⟨j,s,hj,hbj⟩
  ·exact h.run.newM b o u h3
  ·exact .inr (h.ownf j s b (zat hTB hj) hbj)
end
end Hw
/- The engine, part BK: parts of owned arrays. -/
namespace Hw
open Go
section
variable {P:Program} {d:Option Nat} {ty:TypeId} {ps:String} {af:Array Edge} {g:Option (Nat×Bool)} {x y z:Operand} {t:TypeId}
theorem zoo{M:Mem}{ρ:Nat→Value}{w:World}{id e:Nat}{ids:List Nat}{rows:List (List PC)}{l h:Nat}{a:Option Addr}{cap:Nat}(hr:zJ M ρ w id (.vw ids e rows))(hv:ρ id= .slice a rows.length cap)(h1:l≤h)(h2:h≤rows.length):
 RepV M ρ (.sv id (l*e) (h - l)) (sliced a l h cap e):=by
 obtain⟨a',cap',e1,e2,e3,_,e4⟩:=hr
 rw[hv]at e1
 simp only[Value.slice.injEq]at e1
 obtain⟨rfl,_,rfl⟩:=e1
 simp only[RepV]
 by_cases hc:cap=l
 ·left
  exact⟨by omega,a,cap - l,by simp only[sliced,if_pos hc];congr 1;omega⟩
 ·rcases e4 with⟨rfl,rfl⟩|⟨b,o,cs,el,fz,rfl,_⟩
  ·omega
  ·right
   exact⟨b,o,_,cap,cap - l,hv,by simp[sliced,if_neg hc,Addr.add],by omega,by omega⟩
theorem zrr{id e:Nat}{ids:List Nat}{rows:List (List PC)}{i j:Int}{k k':IntKind}{el:TypeId}(hx:okc x (.one (.ar id)))(hy:okc y (Kk k i))(hz:okc z (Kk k' j))(he:elemSz P t=some (el,e))(h0:0≤i)(h1:i≤j)(h2:j≤rows.length):
 Snd P ⟨d,.slice t x (some y) (some z) none,ty,ps,af,g⟩ (rq x (.one (.ar id))++rq y (Kk k i)++rq z (Kk k' j)) [(id,.vw ids e rows)] [] (.one (.sv id (i.toNat*e) (j.toNat - i.toNat))) []:=
 zo fun C st M ρ b w hH hs hT=>by
  rw[zd,zd]at hs
  have e1:=hH.evS (zM hx hs.1.1)
  have e2:=hH.k (zM hy hs.1.2)
  have e3:=hH.k (zM hz hs.2)
  simp only[RepS,RepV]at e1
  have hR:=hH.yn.res id _ hT.1
  obtain⟨a,cap,f1,f2,f3,_⟩:=hH.yn.res id _ hT.1
  obtain⟨hu,hsz⟩:=zcN he
  refine⟨sliced a i.toNat j.toNat cap e,?_,by simp only[RepS];exact zoo hR f1 (by omega) (by omega)⟩
  simp only[execOp,e1.1,f1,e2,e3,Option.map_none,Option.map_some,Sem.run_bind,run_sliceAt_slice w t _ _ _ _ hu,run_slice_lh w t a rows.length cap hu k k' i j h0 h1 (by omega),hsz,Result.andThen_ok,Sem.run_pure]
theorem zmZ{M:Mem}{ρ:Nat→Value}{id kk m:Nat}{v:Value}(h:RepV M ρ (.sv id kk m) v): ∃a c,v= .slice a m c:=by
 simp only[RepV]at h
 rcases h with⟨rfl,a,c,h⟩|⟨b,o,N,cap,c,_,h,_⟩
 ·exact⟨a,c,h⟩
 ·exact⟨_,c,h⟩
theorem zm0{id kk m:Nat}{as':Array TypeId}{el:TypeId}{n:Nat}(hx:okc x (.one (.sv id kk m)))(ha:as'[0]?=some t)(h:elemSz P t=some (el,n)):
 Snd P ⟨d,.call ⟨.builtin .len,#[x],as'⟩,ty,ps,af,g⟩ (rq x (.one (.sv id kk m))) [] [] (I m) []:=
 zo fun C st M ρ a w hH h1 ht=>by
  have e':=hH.evS (zM hx h1)
  simp only[RepS]at e'
  obtain⟨a',c,h3⟩:=zmZ e'
  obtain⟨ii,hu,hinf,hsz⟩:=zF h
  exact⟨.int .i64 m,by simp[execOp,resolve,invoke,builtin,Builtin.len_,ha,h3,run_underlying hu,goInt],zkg _ _⟩
theorem zif{id kk m e:Nat}{i:Int}{k:IntKind}{el:TypeId}(hx:okc x (.one (.sv id kk m)))(hy:okc y (Kk k i))(h:elemSz P t=some (el,e))(h0:0≤i)(hi:i<m):
 Snd P ⟨d,.indexAddr t x y,ty,ps,af,g⟩ (rq x (.one (.sv id kk m))++rq y (Kk k i)) [] [] (.one (.el id (kk+i.toNat*e))) []:=
 zo fun C st M ρ a w hH h1 ht=>by
  rw[zd]at h1
  have e1:=hH.evS (zM hx h1.1)
  have e2:=hH.k (zM hy h1.2)
  simp only[RepS,RepV]at e1
  obtain⟨ii,hu,hinf,hsz⟩:=zF h
  rcases e1 with⟨rfl,_⟩|⟨b,o,N,cap,c,f1,f2,_⟩
  ·omega
  ·refine⟨.pointer (some ⟨b,o+kk+i.toNat*e,none⟩),?_,by simp only[RepS,RepV];exact⟨b,o,N,cap,f1,by rw[Nat.add_assoc]⟩⟩
   simp only[execOp,f2,e2,Instr.indexAt,asIntOf,Sem.run_bind,Sem.run_pure,Result.andThen_ok,run_underlying hu]
   rw[if_pos ⟨h0,hi⟩]
   simp only[Sem.run_bind,Sem.run_pure,Result.andThen_ok,run_sizeOf hinf,yt,hsz]
theorem zpC.sv{e:Nat}{tx el:TypeId}{id l m:Nat}{ids:List Nat}{rows:List (List PC)}(h:elemSz P tx=some (el,e))(hl:l+m≤rows.length):zpC P e tx (.one (.sv id (l*e) m)) [(id,.vw ids e rows)] ((rows.drop l).take m) ids:=by
 intro C st M ρ a w v hH hr ht
 obtain⟨_,hu,_,_⟩:=zF h
 have hlen:((rows.drop l).take m).length=m:=by rw[List.length_take,List.length_drop];omega
 obtain⟨b,cap,h1,h2,h3,hle,h4⟩:=hH.yn.res id _ ht.1
 have hle': ∀r∈(rows.drop l).take m,r.length=e:=fun r hr=>hle r (List.mem_of_mem_drop (List.mem_of_mem_take hr))
 simp only[RepS,RepV]at hr
 rw[hlen]
 rcases hr with⟨rfl,a0,c0,rfl⟩|⟨b0,o0,N,cap0,c0,f1,rfl,f3,f4⟩
 ·refine⟨[],?_,by simp,by simp⟩
  cases a0 with
  |none=>exact Src.ofNil w hu c0
  |some ad=>exact Src.ofSlice w hu ad 0 c0 [] (by simp) (by simp) (by simp)
 ·rcases h4 with⟨rfl,hc⟩|⟨b',o,cs,el',fz,rfl,h6,_,_,h8⟩
  ·rw[h1]at f1;simp at f1
  ·rw[h1]at f1
   simp only[Value.slice.injEq,Option.some.injEq,Addr.mk.injEq]at f1
   obtain⟨⟨rfl,rfl,_⟩,_,rfl⟩:=f1
   have hfl:=j7 hle'
   rw[hlen]at hfl
   have hat: ∀j x,((rows.drop l).take m).flatten[j]?=some x→rows.flatten[l*e+j]?=some x:=fun j x hj=>by
    obtain⟨i,c,row,g1,g2,g3,g4⟩:=zm1 hle' hj
    have him:i<m:=by have:=(List.getElem?_eq_some_iff.1 g3).1;omega
    rw[List.getElem?_take,if_pos him,List.getElem?_drop]at g3
    have:=zfS hle (i:=l+i) (c:=c) g2
    rw[g3,Nat.add_mul]at this
    rw[g1,←Nat.add_assoc,this];exact g4
   obtain⟨us,h9,h10⟩:=xN (M:=M) (ρ:=ρ) (vs:=((rows.drop l).take m).flatten.map (toV ids)) (g:=fun j=>cs[o+(l*e+j)]?) fun j u hj=>by
    rw[List.getElem?_map,Option.map_eq_some_iff]at hj
    obtain⟨p,hp,rfl⟩:=hj
    exact h8 _ p (hat j p hp)
   refine⟨us,Src.ofSlice w hu _ _ c0 us (by rw[h9.length,List.length_map,hfl]) (fun j u hj=>by rw[yt];have:=h10 j u hj;simp only[←Nat.add_assoc]at this;simp[World.cell?,h6,this]) h9.one,fun j p hj=>?_,hle'⟩
   exact xb h9 (m:=j) (by rw[List.getElem?_map,hj];rfl)
end
section
variable {P:Program} {C:Ctx} {k:List Frm} {n:Nat} {sl:zi} {tab:Tab} {Q:Exit→St→Prop} {all:Array Oper} {rest:List Oper}
theorem zop(T:Ty P){d:Nat}{x y z:Operand}{t ty:TypeId}{ps:String}{af:Array Edge}{g0:Option (Nat×Bool)}{gs:zi}{md:Mode}(hC:C.low){id e:Nat}{ids:List Nat}{rows:List (List PC)}{i j:Int}{k0 k1:IntKind}{el:TypeId}
 (hx:ev sl x=some (.one (.ar id))) (hy:ev sl y=some (Kk k0 i)) (hz:ev sl z=some (Kk k1 j)) (hT:tg tab id=some (.vw ids e rows)) (he:T.es t=some (el,e)) (h0:0≤i) (h1:i≤j) (h2:j≤rows.length) (hm:metL all sl g0=some gs) (hd:Nat.blt d n=true)
 (g:Goal P C (.ops all rest (nx md ⟨some d,gs++(rq x (.one (.ar id))++rq y (Kk k0 i)++rq z (Kk k1 j)),[(id,.vw ids e rows)],[],.one (.sv id (i.toNat*e) (j.toNat - i.toNat)),[]⟩)) k n ((d,.one (.sv id (i.toNat*e) (j.toNat - i.toNat)))::sl) tab Q):
 Goal P C (.ops all (⟨some d,.slice t x (some y) (some z) none,ty,ps,af,g0⟩::rest) md) k n sl tab Q:=by
 have e1:=zX (st:=⟨n,sl,tab⟩) hx
 have e2:=zX (st:=⟨n,sl,tab⟩) hy
 have e3:=zX (st:=⟨n,sl,tab⟩) hz
 have:=zq hm (zrr (P:=P) (ids:=ids) (rows:=rows) (ty:=ty) (ps:=ps) (af:=af) (g:=g0) (d:=some d) (t:=t) e1.1 e2.1 e3.1 (T.es_ok _ _ he) h0 h1 h2) (n:=n) (tab:=tab)
 exact yr (L:=⟨some d,gs++(rq x (.one (.ar id))++rq y (Kk k0 i)++rq z (Kk k1 j)),[(id,.vw ids e rows)],[],.one (.sv id (i.toNat*e) (j.toNat - i.toNat)),[]⟩) hC this.1 rfl ⟨by rw[zd,zd,zd];exact⟨this.2,⟨e1.2,e2.2⟩,e3.2⟩,⟨hT,trivial⟩,rfl,hd⟩ g
theorem zoq(T:Ty P){d:Nat}{x:Operand}{t ty:TypeId}{ps:String}{af:Array Edge}{g0:Option (Nat×Bool)}{gs:zi}{md:Mode}(hC:C.low){id kk m:Nat}{el:TypeId}{sz:Nat}
 (hx:ev sl x=some (.one (.sv id kk m))) (he:T.es t=some (el,sz)) (hm:metL all sl g0=some gs) (hd:Nat.blt d n=true)
 (g:Goal P C (.ops all rest (nx md ⟨some d,gs++rq x (.one (.sv id kk m)),[],[],I m,[]⟩)) k n ((d,I m)::sl) tab Q):
 Goal P C (.ops all (⟨some d,.call ⟨.builtin .len,#[x],#[t]⟩,ty,ps,af,g0⟩::rest) md) k n sl tab Q:=by
 have e1:=zX (st:=⟨n,sl,tab⟩) hx
 have:=zq hm (zm0 (as':= #[t]) (ty:=ty) (ps:=ps) (af:=af) (g:=g0) (d:=some d) e1.1 rfl (T.es_ok _ _ he)) (n:=n) (tab:=tab)
 exact yr (L:=⟨some d,gs++rq x (.one (.sv id kk m)),[],[],I m,[]⟩) hC this.1 rfl ⟨by rw[zd];exact⟨this.2,e1.2⟩,trivial,rfl,hd⟩ g
theorem zkj(T:Ty P){d:Nat}{x y:Operand}{t ty:TypeId}{ps:String}{af:Array Edge}{g0:Option (Nat×Bool)}{gs:zi}{md:Mode}(hC:C.low){id kk m e:Nat}{k0:IntKind}{i:Int}{el:TypeId}
 (hx:ev sl x=some (.one (.sv id kk m))) (hy:ev sl y=some (Kk k0 i)) (he:T.es t=some (el,e)) (h0:0≤i) (hi:i<m) (hm:metL all sl g0=some gs) (hd:Nat.blt d n=true)
 (g:Goal P C (.ops all rest (nx md ⟨some d,gs++(rq x (.one (.sv id kk m))++rq y (Kk k0 i)),[],[],.one (.el id (kk+i.toNat*e)),[]⟩)) k n ((d,.one (.el id (kk+i.toNat*e)))::sl) tab Q):
 Goal P C (.ops all (⟨some d,.indexAddr t x y,ty,ps,af,g0⟩::rest) md) k n sl tab Q:=by
 have e1:=zX (st:=⟨n,sl,tab⟩) hx
 have e2:=zX (st:=⟨n,sl,tab⟩) hy
 have:=zq hm (zif (ty:=ty) (ps:=ps) (af:=af) (g:=g0) (d:=some d) e1.1 e2.1 (T.es_ok _ _ he) h0 hi) (n:=n) (tab:=tab)
 exact yr (L:=⟨some d,gs++(rq x (.one (.sv id kk m))++rq y (Kk k0 i)),[],[],.one (.el id (kk+i.toNat*e)),[]⟩) hC this.1 rfl ⟨by rw[zd,zd];exact⟨this.2,e1.2,e2.2⟩,trivial,rfl,hd⟩ g
end
end Hw
/- The engine, part BL: an array is taken out of a bag; arrays of a bag as what is appended. -/
namespace Hw
open Go
def OpF(id id' id2 j:Nat)(ρ:Nat→Value):Prop:= ∃(cs:List Value) (v:Value),ρ id= .tuple cs.toArray∧cs[j]?=some v∧ρ id2=v∧ρ id'= .tuple (cs.set j (.slice none 0 0)).toArray
theorem OpF.nv{id id' id2 j i:Nat}(h:i≠j):RwV (OpF id id' id2 j) (.nv id i) (.nv id' i):=fun M ρ x hF hr=>by
 obtain⟨cs,v,h1,h2,h3,h4⟩:=hF
 simp only[RepV]at hr⊢
 obtain⟨xs,f1,f2,f3⟩:=hr
 rw[h1]at f1
 have:xs=cs:=by simp only[Value.tuple.injEq]at f1;have:=congrArg Array.toList f1;simpa using this.symm
 subst this
 exact⟨_,h4,by rw[List.getElem?_set_ne (fun e=>h e.symm)];exact f2,f3⟩
theorem OpF.ar{id id' id2 j:Nat}:RwV (OpF id id' id2 j) (.nv id j) (.ar id2):=fun M ρ x hF hr=>by
 obtain⟨cs,v,h1,h2,h3,h4⟩:=hF
 simp only[RepV]at hr⊢
 obtain⟨xs,f1,f2,f3⟩:=hr
 rw[h1]at f1
 have:xs=cs:=by simp only[Value.tuple.injEq]at f1;have:=congrArg Array.toList f1;simpa using this.symm
 subst this
 rw[h2]at f2
 exact⟨by rw[h3];exact(Option.some.inj f2).symm,f3⟩
section
variable {P:Program} {C:Ctx} {k:List Frm} {n:Nat} {sl:zi} {tab:Tab} {Q:Exit→St→Prop} {cur:Cur}
theorem zor(hC:C.low)(hc:lst cur=true)(id id' id2 j:Nat){e:Nat}{L:List (List (List PV))}{rs:List (List PV)}(hid:tg tab id=some (.bag e L))(hj:L[j]?=some rs)(hne:Nat.beq id' id2=false)
 (hf:(Nat.ble 100 id'&&freshB id' ⟨n,sl,tab⟩)=true) (hf2:(Nat.ble 100 id2&&freshB id2 ⟨n,sl,tab⟩)=true)
 (ups:zi) (hS:upS (RwS (OpF id id' id2 j)) sl ups) (bs:List (Nat×Res)) (hB:upW (OpF id id' id2 j) [id] [id',id2] tab bs)
 (g:Goal P C cur k n (ups++sl) (ziQ bs++((id',some (.bag e (L.set j [])))::(id2,some (.arr e rs))::(id,none)::tab)) Q):Goal P C cur k n sl tab Q:=by
 have hne':id'≠id2:=fun e=>by subst e;rw[x9]at hne;cases hne
 refine za8 hC hc [id] [(id',.bag e (L.set j [])),(id2,.arr e rs)] (OpF id id' id2 j) (by simp only[RL.ids,allB,hf,hf2,Bool.and_true]) (fun {M ρ w} hT=>?_) ups hS bs hB g
 simp only[Bool.and_eq_true]at hf hf2
 have nid:id≠id'∧id≠id2:=⟨((x8 (C:=C) hf.2 (hC.none (Nat.le_of_ble_eq_true hf.1))).2.1 id _ hid).1,((x8 (C:=C) hf2.2 (hC.none (Nat.le_of_ble_eq_true hf2.1))).2.1 id _ hid).1⟩
 obtain⟨cs,h1,h2,h3,h4⟩:=hT.res id _ hid
 obtain⟨v,v1,v2⟩:=h3 j rs hj
 have hjl:=(List.getElem?_eq_some_iff.1 v1).1
 obtain⟨av,capv,g1,_⟩:=v2
 obtain⟨v,v1,v2⟩:=h3 j rs hj
 have bkv: ∀q,Bk v q→blk v=some q:=fun q hq=>by
  obtain⟨av,capv,g1,_⟩:=v2
  rw[g1]at hq ⊢; exact hq
 have two: ∀i r,tg (tb [(id',Res.bag e (L.set j [])),(id2,.arr e rs)]) i=some r→(i=id'∧r= .bag e (L.set j []))∨(i=id2∧i≠id'∧r= .arr e rs):=fun i r hi=>by
  simp only[tb,yc]at hi
  split at hi
  ·rename_i e;exact .inl ⟨e.symm,(Option.some.inj hi).symm⟩
  ·rename_i e0
   split at hi
   ·rename_i e;exact .inr ⟨e.symm,fun h=>e0 h.symm,(Option.some.inj hi).symm⟩
   ·cases hi
 let ρ':=upd (upd ρ id2 v) id' (.tuple (cs.set j (.slice none 0 0)).toArray)
 have r1:ρ' id'= .tuple (cs.set j (.slice none 0 0)).toArray:=zt _ _ _
 have r2:ρ' id2=v:=by simp only[ρ'];rw[zN (fun e=>hne' e.symm),zt]
 have r3: ∀i,i≠id'→i≠id2→ρ' i=ρ i:=fun i a b=>by simp only[ρ'];rw[zN a,zN b]
 -- the cells of the new bag
 have cell: ∀(i:Nat) z,(cs.set j (.slice none 0 0))[i]?=some z→(i=j∧z= .slice none 0 0)∨(i≠j∧cs[i]?=some z):=fun i z hz=>by
  by_cases hij:j=i
  ·subst hij
   rw[List.getElem?_set_self hjl]at hz
   exact .inl ⟨rfl,(Option.some.inj hz).symm⟩
  ·rw[List.getElem?_set_ne hij]at hz
   exact .inr ⟨fun e=>hij e.symm,hz⟩
 refine⟨ρ',⟨cs,v,by rw[r3 id nid.1 nid.2];exact h1,v1,r2,r1⟩,fun i hi=>r3 i (by simp[RL.ids]at hi;exact hi.1) (by simp[RL.ids]at hi;exact hi.2),fun i r hi=>?_,fun i r b hi hb=>?_,fun i i' ri rj b hi hj' hne2 hb1 hb2=>?_⟩
 ·rcases two i r hi with⟨rfl,rfl⟩|⟨rfl,_,rfl⟩
  ·refine⟨_,r1,by rw[List.length_set,List.length_set];exact h2,fun q rq hq=>?_,fun a b' q x y hx hy hab hbx hby=>?_⟩
   ·by_cases hqj:j=q
    ·subst hqj
     rw[List.getElem?_set_self (by omega)]at hq
     obtain rfl:=Option.some.inj hq
     exact⟨.slice none 0 0,by rw[List.getElem?_set_self hjl],none,0,rfl,by simp,by simp,.inl ⟨rfl,rfl⟩⟩
    ·rw[List.getElem?_set_ne hqj]at hq
     obtain⟨c,c1,c2⟩:=h3 q rq hq
     exact⟨c,by rw[List.getElem?_set_ne hqj];exact c1,c2⟩
   ·rcases cell a x hx with⟨_,rfl⟩|⟨_,hx'⟩
    ·simp[blk]at hbx
    ·rcases cell b' y hy with⟨_,rfl⟩|⟨_,hy'⟩
     ·simp[blk]at hby
     ·exact h4 a b' q x y hx' hy' hab hbx hby
  ·have hA:x7 M w (ρ' i) e rs:=by rw[r2];exact v2
   exact hA
 ·rcases two i r hi with⟨rfl,rfl⟩|⟨rfl,_,rfl⟩
  ·rw[r1]at hb
   obtain⟨x,hx,hxb⟩:=hb
   obtain⟨q,hq⟩:=List.mem_iff_getElem?.1 (by simpa using hx:x∈cs.set j (.slice none 0 0))
   rcases cell q x hq with⟨_,rfl⟩|⟨_,hq'⟩
   ·simp[blk]at hxb
   ·exact⟨id,_,by simp,hid,by rw[h1];exact zeh hq' hxb⟩
  ·rw[r2]at hb
   exact⟨id,_,by simp,hid,by rw[h1];exact zeh v1 (bkv b hb)⟩
 ·have key: ∀q b,Bk (ρ' id') b→Bk (ρ' id2) b→q=b→False:=fun q b hb1 hb2 _=>by
   rw[r1]at hb1
   rw[r2]at hb2
   obtain⟨x,hx,hxb⟩:=hb1
   obtain⟨q,hq⟩:=List.mem_iff_getElem?.1 (by simpa using hx:x∈cs.set j (.slice none 0 0))
   rcases cell q x hq with⟨_,rfl⟩|⟨hqj,hq'⟩
   ·simp[blk]at hxb
   ·exact h4 q j b x v hq' v1 hqj hxb (bkv b hb2)
  rcases two i ri hi with⟨rfl,_⟩|⟨rfl,_,_⟩<;>rcases two i' rj hj' with⟨rfl,_⟩|⟨rfl,_,_⟩
  ·exact hne2 rfl
  ·exact key b b hb1 hb2 rfl
  ·exact key b b hb2 hb1 rfl
  ·exact hne2 rfl
end
section
variable {P:Program}
theorem xj.nv{e q:Nat}{tx el:TypeId}{id:Nat}{L:List (List (List PV))}{rs:List (List PV)}(h:elemSz P tx=some (el,e))(hq:L[q]?=some rs)(hl: ∀r∈rs,r.length=e):xj P e tx (.one (.nv id q)) [(id,.bag e L)] rs:=by
 intro C st M ρ a w v hH hr hT
 obtain⟨_,hu,_,_⟩:=zF h
 simp only[RepS,RepV]at hr
 obtain⟨xs,f1,f2,_⟩:=hr
 obtain⟨a',cap,rfl,h2,h3,h4⟩:=vJ (hH.yn.res id _ hT.1) hq f1 f2
 rcases h4 with⟨rfl,hc⟩|⟨b',o,cs,el',fz,rfl,h6,_,_,h8⟩
 ·have:rs=[]:=List.length_eq_zero_iff.1 (by omega)
  subst this
  exact⟨[],Src.ofNil w hu cap,by simp[RepVs],by simp⟩
 ·obtain⟨us,g1,g2,g3⟩:=h8.cells (ρ:=ρ)
  exact⟨us,Src.ofSlice w hu _ _ cap us g2 (fun j u hj=>by rw[yt];have:=g3 j u hj;simp[World.cell?,h6,this]) g1.one,g1,hl⟩
end
end Hw
/- The engine, part BN: a bag's arrays numbered anew; grids: an owned array of owned arrays, row by row; grids lent and frozen. -/
namespace Hw
open Go Go.Proofs
def RbF(id id':Nat)(js:List Nat)(ρ:Nat→Value):Prop:= ∃cs ds:List Value,ρ id= .tuple cs.toArray∧ρ id'= .tuple ds.toArray∧ ∀(i q:Nat),js[i]?=some q→ds[i]?=cs[q]?
theorem RbF.nv{id id' i q:Nat}{js:List Nat}(h:js[i]?=some q):RwV (RbF id id' js) (.nv id q) (.nv id' i):=fun M ρ x hF hr=>by
 obtain⟨cs,ds,h1,h2,h3⟩:=hF
 simp only[RepV]at hr⊢
 obtain⟨xs,f1,f2,f3⟩:=hr
 rw[h1]at f1
 have:xs=cs:=by simp only[Value.tuple.injEq]at f1;have:=congrArg Array.toList f1;simpa using this.symm
 subst this
 exact⟨ds,h2,by rw[h3 i q h];exact f2,f3⟩
section
variable {P:Program} {C:Ctx} {k:List Frm} {n:Nat} {sl:zi} {tab:Tab} {Q:Exit→St→Prop} {cur:Cur}
theorem zpE(hC:C.low)(hc:lst cur=true)(id id':Nat)(js:List Nat){e:Nat}{L:List (List (List PV))}(L':List (List (List PV)))(hid:tg tab id=some (.bag e L))(hnd:js.Nodup)(hl:L'.length=js.length)
 (hat: ∀(i q:Nat),js[i]?=some q→q<L.length∧L'[i]?=L[q]?)
 (hf:(Nat.ble 100 id'&&freshB id' ⟨n,sl,tab⟩)=true)
 (ups:zi) (hS:upS (RwS (RbF id id' js)) sl ups) (bs:List (Nat×Res)) (hB:upW (RbF id id' js) [id] [id'] tab bs)
 (g:Goal P C cur k n (ups++sl) (ziQ bs++((id',some (.bag e L'))::(id,none)::tab)) Q):Goal P C cur k n sl tab Q:=by
 refine za8 hC hc [id] [(id',.bag e L')] (RbF id id' js) (by simp only[RL.ids,allB,hf,Bool.and_true]) (fun {M ρ w} hT=>?_) ups hS bs hB g
 simp only[Bool.and_eq_true]at hf
 have nid:id≠id':=((x8 (C:=C) hf.2 (hC.none (Nat.le_of_ble_eq_true hf.1))).2.1 id _ hid).1
 obtain⟨cs,h1,h2,h3,h4⟩:=hT.res id _ hid
 have only: ∀i r,tg (tb [(id',Res.bag e L')]) i=some r→i=id'∧r= .bag e L':=fun i r hi=>by
  simp only[tb,yc]at hi
  split at hi
  ·rename_i e;exact⟨e.symm,(Option.some.inj hi).symm⟩
  ·cases hi
 let ds:List Value:=js.map fun q=>(cs[q]?).getD undef
 have hds: ∀i q,js[i]?=some q→ds[i]?=cs[q]?:=fun i q hi=>by
  have hq:=(hat i q hi).1
  show(js.map fun q=>(cs[q]?).getD undef)[i]?=_
  rw[List.getElem?_map,hi,Option.map_some,List.getElem?_eq_getElem (l:=cs) (i:=q) (by omega),Option.getD_some]
 have hds2: ∀(i:Nat) z,ds[i]?=some z→ ∃q,js[i]?=some q∧cs[q]?=some z:=fun i z hz=>by
  have hlt:=(List.getElem?_eq_some_iff.1 hz).1
  have hlj:i<js.length:=by simpa [ds]using hlt
  exact⟨js[i],List.getElem?_eq_getElem hlj,by rw[←hds i _ (List.getElem?_eq_getElem hlj)];exact hz⟩
 refine⟨upd ρ id' (.tuple ds.toArray),⟨cs,ds,by rw[zN nid];exact h1,zt _ _ _,hds⟩,fun i hi=>zN (by simpa [RL.ids]using hi),fun i r hi=>?_,fun i r b hi hb=>?_,fun i j ri rj b hi hj hne _ _=>?_⟩
 ·obtain⟨rfl,rfl⟩:=only i r hi
  refine⟨ds,zt _ _ _,by simp only[ds,List.length_map];exact hl.symm,fun j rs hj=>?_,fun a b' q x y hx hy hab hbx hby=>?_⟩
  ·have hjl:=(List.getElem?_eq_some_iff.1 hj).1
   have hq:js[j]?=some js[j]:=List.getElem?_eq_getElem (by omega)
   rw[(hat j _ hq).2]at hj
   obtain⟨c,c1,c2⟩:=h3 _ rs hj
   exact⟨c,by rw[hds j _ hq];exact c1,c2⟩
  ·obtain⟨qa,ha1,ha2⟩:=hds2 a x hx
   obtain⟨qb,hb1,hb2⟩:=hds2 b' y hy
   refine h4 qa qb q x y ha2 hb2 (fun e=>hab ?_) hbx hby
   subst e
   exact(List.getElem?_inj (List.getElem?_eq_some_iff.1 ha1).1 hnd).1 (ha1.trans hb1.symm)
 ·obtain⟨rfl,_⟩:=only i r hi
  rw[zt]at hb
  obtain⟨x,hx,hxb⟩:=hb
  obtain⟨j,hj⟩:=List.mem_iff_getElem?.1 (by simpa using hx:x∈ds)
  obtain⟨q,_,hq⟩:=hds2 j x hj
  exact⟨id,_,by simp,hid,by rw[h1];exact zeh hq hxb⟩
 ·obtain⟨rfl,_⟩:=only i ri hi
  obtain⟨rfl,_⟩:=only j rj hj
  exact hne rfl
def grJ(js:List Nat):List (List PC):=js.map fun q=>[PC.n 0 q]
def gr(n:Nat):List (List PC):=grJ (List.range n)
theorem zfT(js:List Nat):(grJ js).length=js.length:=List.length_map _
theorem xY(n:Nat):(gr n).length=n:=by rw[gr,zfT,List.length_range]
theorem zkk(js:List Nat): ∀r∈grJ js,r.length=1:=fun r hr=>by obtain⟨_,_,rfl⟩:=List.mem_map.1 hr;rfl
theorem zbL(n:Nat): ∀r∈gr n,r.length=1:=zkk _
theorem vZ(js:List Nat):(grJ js).flatten=js.map (PC.n 0):=by
 induction js with
 |nil=>rfl
 |cons a l ih=>simp only[grJ,List.map_cons,List.flatten_cons]at ih ⊢; rw[ih];rfl
theorem zos{js:List Nat}{i q:Nat}(h:js[i]?=some q):(grJ js).flatten[i]?=some (.n 0 q):=by rw[vZ,List.getElem?_map,h];rfl
theorem zkl{n i:Nat}(h:i<n):(gr n).flatten[i]?=some (.n 0 i):=zos (by rw[List.getElem?_range h])
theorem zot(hC:C.low)(hc:lst cur=true)(o id id':Nat)(js:List Nat){e:Nat}{L:List (List (List PV))}(L':List (List (List PV)))(ho:tg tab o=some (.vw [id] 1 (grJ js)))(hid:tg tab id=some (.bag e L))(hnd:js.Nodup)(hl:L'.length=js.length)
 (hat: ∀(i q:Nat),js[i]?=some q→q<L.length∧L'[i]?=L[q]?)
 (hf:(Nat.ble 100 id'&&freshB id' ⟨n,sl,tab⟩)=true) (hne:(hasB o [id]||hasB o [id'])=false)
 (g:Goal P C cur k n sl ((o,some (.vw [id'] 1 (gr js.length)))::(id',some (.bag e L'))::(id,none)::tab) Q):Goal P C cur k n sl tab Q:=by
 refine zpE hC hc id id' js L' hid hnd hl hat hf [] trivial [(o,.vw [id'] 1 (gr js.length))] ⟨⟨_,ho,hne,RwR.vw (by rw[zfT,xY]) (zbL _) fun j x' hj=>?_⟩,trivial⟩ g
 rw[gr,vZ,List.getElem?_map,Option.map_eq_some_iff]at hj
 obtain⟨q,hq,rfl⟩:=hj
 have hjl:=(List.getElem?_eq_some_iff.1 hq).1
 rw[List.length_range]at hjl
 rw[List.getElem?_range hjl]at hq
 obtain rfl:=Option.some.inj hq
 have h:js[j]?=some js[j]:=List.getElem?_eq_getElem hjl
 exact⟨_,zos h,RbF.nv h⟩
end
section
variable {P:Program} {d:Option Nat} {ty et:TypeId} {ps:String} {af:Array Edge} {g:Option (Nat×Bool)} {t t':TypeId} {x:Operand}
end
section
variable {P:Program} {C:Ctx} {k:List Frm} {n:Nat} {sl:zi} {tab:Tab} {Q:Exit→St→Prop} {all:Array Oper} {rest:List Oper}
end
section
variable {B:RL}
theorem LnV.zsM{o id e:Nat}{L:List (List (List PV))}(ho:(o,.vw [id] 1 (gr L.length))∈B)(hid:(id,.bag e L)∈B):LnV B (.ar o) (.p (.sl 1 (L.map fun rs=>[.sl e rs]))):=
 LnV.vw ho (by rw[List.length_map,xY]) (fun r hr=>by obtain⟨_,_,rfl⟩:=List.mem_map.1 hr;rfl) fun j x' hj=>by
  have hfl:(L.map fun rs=>[PV.sl e rs]).flatten=L.map (PV.sl e):=by
   clear ho hid hj
   induction L with
   |nil=>rfl
   |cons a l ih=>simp only[List.map_cons,List.flatten_cons,List.singleton_append]at ih ⊢; rw[ih]
  rw[hfl,List.getElem?_map,Option.map_eq_some_iff]at hj
  obtain⟨rs,hrs,rfl⟩:=hj
  have hlt:=(List.getElem?_eq_some_iff.1 hrs).1
  exact⟨_,zkl hlt,LnV.nv hid hrs⟩
theorem LnV.sv{id e a m:Nat}{rows:List (List PV)}(hm:(id,.arr e rows)∈B)(hle: ∀r∈rows,r.length=e)(ha:a+m≤rows.length):LnV B (.sv id (a*e) m) (.p (.sl e ((rows.drop a).take m))):=fun M ρ w u hH hr=>by
 simp only[RepV,RepPV]at hr⊢
 have hlen:((rows.drop a).take m).length=m:=by rw[List.length_take,List.length_drop];omega
 rcases hr with⟨rfl,a',c,rfl⟩|⟨b,o,N,cap,c,h1,rfl,h3,h4⟩
 ·exact⟨a',c,by rw[List.take_zero];rfl,by rw[List.take_zero];exact Nat.zero_le _,by rw[List.take_zero];exact Nat.zero_le _,.inl (List.take_zero)⟩
 ·refine⟨_,c,by rw[hlen],by rw[hlen];exact h3,by rw[hlen];omega,.inr ⟨b,_,rfl,?_⟩⟩
  have hA:x7 M w (ρ id) e rows:=hH.2 id _ hm
  obtain⟨av,cap',g1,g2,g3,g4⟩:=hA
  rw[h1]at g1
  simp only[Value.slice.injEq]at g1
  rcases g4 with⟨g4,_⟩|⟨b',o',cs,el,fz,g5,g6,_,_,g8⟩
  ·rw[g4]at g1;cases g1.1
  ·rw[g5]at g1
   simp only[Option.some.injEq,Addr.mk.injEq]at g1
   obtain⟨⟨rfl,rfl,_⟩,_⟩:=g1
   have hb: ∃i r,(i,r)∈B∧Bk (ρ i) b:=⟨id,_,hm,by rw[h1];rfl⟩
   have:=RowsIn.mono (M':=lentN M ρ w B) wL (fun i c hc=>zas hH.1 hb g6 i c hc) _ _ g8
   exact(this.drop a).take m
end
end Hw
namespace Hw.Fr.Md
open Go Go.Proofs Hw.M
theorem drop_at{α:Type}{l:List α}{i:Nat}{x:α}(h:l[i]?=some x):l.drop i=x::l.drop (i+1):=by
 obtain⟨hi,rfl⟩:=List.getElem?_eq_some_iff.1 h
 exact List.drop_eq_getElem_cons hi
def idxR{α σ:Type}(p:α→σ→Bool)(nx:α→σ→σ):List α→Nat→σ→Int×σ
 | [],_,s=>(-1,s)
 |x::r,k,s=>if p x s=true then((k:Int),nx x s)else idxR p nx r (k+1) (nx x s)
def anyR{α σ:Type}(p:α→σ→Bool)(nx:α→σ→σ):List α→σ→Bool×σ
 | [],s=>(false,s)
 |x::r,s=>if p x s=true then(true,nx x s)else anyR p nx r (nx x s)
theorem jA{α σ:Type}(p:α→σ→Bool)(nx:α→σ→σ): ∀(l:List α) (k:Nat) (s:σ),∃i s',idxR p nx l k s=(i,s')∧anyR p nx l s=(decide (0≤i),s')
 | [],k,s=>⟨-1,s,rfl,rfl⟩
 |x::r,k,s=>by
  simp only[idxR,anyR]
  by_cases h:p x s=true
  ·exact⟨k,nx x s,if_pos h,by rw[if_pos h,decide_eq_true (by omega)]⟩
  ·rw[if_neg h,if_neg h];exact jA p nx r (k+1) (nx x s)
theorem jo{α σ:Type}(p:α→σ→Bool)(nx:α→σ→σ)(l:List α)(k:Nat)(s:σ):decide (0≤(idxR p nx l k s).1)=(anyR p nx l s).1:=by
 obtain⟨i,s',h1,h2⟩:=jA p nx l k s
 simp only[h1,h2]
theorem jq{α σ:Type}(p:α→σ→Bool)(nx:α→σ→σ)(l:List α)(k:Nat)(s:σ):(idxR p nx l k s).2=(anyR p nx l s).2:=by
 obtain⟨i,s',h1,h2⟩:=jA p nx l k s
 simp only[h1,h2]
theorem vj{α:Type}(p:α→Bool): ∀(l:List α) (s:Unit),(anyR (fun x _=>p x) (fun _ s=>s) l s).1=l.any p
 | [],_=>rfl
 |x::r,s=>by
  simp only[anyR,List.any_cons]
  cases h:p x with
  |true=>rfl
  |false=>simp only[Bool.false_eq_true,if_false,Bool.false_or];exact vj p r s
theorem zm2(x:Int):zj Tryz.prog 89 [I x] [] (Bo false) []:=by
 refine gO T Tryz.func89 fun C hC=>?_
 repeat' first|refine gG ?_|refine gB (fun h=>?_) (fun h=>?_)
 exact zg ⟨.inl rfl,id,_,rfl,LeS.bq (by simp),trivial,rfl,rfl⟩
def zou(x y:Int):Int:=if x<y then -1 else if y<x then 1 else 0
theorem zkm(x y:Int):zj Tryz.prog 57 [I x,I y] [] (I (zou x y)) []:=by
 refine gO T Tryz.func57 fun C hC=>?_
 repeat' first|refine gG ?_|(exfalso;simp at h;done)|refine gB (fun h=>?_) (fun h=>?_)|refine gC (zm2 _) ?_|refine gN ?_
 all_goals first
  |(have h2:=of_decide_eq_true h;unfold zou;first|(rw[if_pos h2];done)|(have h1:=of_decide_eq_false (by assumption:decide (x<y)=false);rw[if_neg h1,if_pos h2];done))
  |(have h1:=of_decide_eq_false (by assumption:decide (x<y)=false);have h2:=of_decide_eq_false h;unfold zou;rw[if_neg h1,if_neg h2];done)
  |(simp at h;done)
theorem zeo(n:Int):zj Tryz.prog 98 [I n] [] (.bq (vC n)) []:=by
 refine gO T Tryz.func98 fun C hC=>?_
 repeat' first|refine gG ?_|refine gB (fun h=>?_) (fun h=>?_)|refine gQ ?_|refine gL ?_
 all_goals (unfold vC;first|(rw[h];rfl)|(rename_i h1;rw[h1,h];rfl)|(simp_all;done))
theorem zaP(n:Int):zj Tryz.prog 94 [I n] [] (.bq (zdE n)) []:=by
 refine gO T Tryz.func94 fun C hC=>?_
 repeat' first|refine gG ?_|refine gB (fun h=>?_) (fun h=>?_)|refine gQ ?_|refine gL ?_
 all_goals (unfold zdE;first|(rw[h];rfl)|(rename_i h1;rw[h1,h];rfl)|(simp_all;done))
theorem zm3(f:FuncId)(l:List Int)(p:Int→Unit→Bool)(nx:Int→Unit→Unit)(inv:Unit→Prop)
 (hf: ∀x∈l,∀s:Unit,inv s→zj Tryz.prog f [I x] [] (.bq (p x s)) ((fun s:Unit=>[]) (nx x s))∧(p x s=false→inv (nx x s))) (s:Unit) (hs:inv s):
 zj Tryz.prog 131 [pS (.sl 1 (l.map zS)),.one (.cl f [] [])] [] (I (idxR p nx l 0 s).1) ((fun s:Unit=>[]) (idxR p nx l 0 s).2):=by
 refine gO T Tryz.func131 fun C hC=>?_
 have hs0:=hs
 refine w9 0 rfl fun hl=>?_
 rw[List.length_map]at hl
 repeat' first|refine gG ?_|refine gB (fun h=>?_) (fun h=>?_)
 rw[List.length_map]
 refine zy (fun q:Nat×Unit=>q.1≤l.length∧inv q.2∧idxR p nx (l.drop q.1) q.1 q.2=idxR p nx l 0 s) (fun q=>(fun s:Unit=>([(0,pS (.sl 1 (l.map zS))),(1,.one (.cl f [] [])),(7,I l.length),(8,I q.1)],[])) q.2) (fun q=>l.length - q.1) hC
  (0,s) ⟨Nat.zero_le _,hs,rfl⟩ id gM ?_
 generalize idxR p nx l 0 s=res
 clear hs hs0
 rintro⟨i,s⟩ ⟨hi,hv,hn⟩
 simp only at hi hv hn
 refine zI T hC true 200 rfl ?_
 refine zP rfl (fun hh=>?_) (fun hh=>?_)
 ·have hlt:i<l.length:=by simpa using hh
  clear hh
  obtain⟨x,hx⟩:=zf hlt
  rw[drop_at hx]at hn
  simp only[idxR]at hn
  have hv2:=(hf x (List.mem_of_getElem? hx) s hv).2
  repeat' first|refine gG ?_|refine gB (fun h=>?_) (fun h=>?_)|refine gI T (zu hx) ?_|refine zr hC (hf x (List.mem_of_getElem? hx) s hv).1 id rfl rfl (yJ.refl _) rfl rfl rfl rfl rfl rfl rfl rfl ?_|refine zT ?_
  ·rw[if_pos (by assumption)]at hn
   subst hn
   exact gF
  ·have hpf:p x s=false:=by assumption
   rw[hpf]at hn
   simp only[Bool.false_eq_true,if_false]at hn
   rw[wrap64 (by omega)]
   exact zh (i+1,nx x s) ⟨by simp only;omega,hv2 hpf,hn⟩ id (by simp only;omega) gM
 ·have hge: ¬i<l.length:=by simpa using hh
  rw[List.drop_eq_nil_of_le (by omega)]at hn
  simp only[idxR]at hn
  subst hn
  repeat' first|refine gG ?_|refine gB (fun h=>?_) (fun h=>?_)|refine zp ?_
  exact gF
theorem zm4(f:FuncId)(l:List Int)(p:Int→Unit→Bool)(nx:Int→Unit→Unit)(inv:Unit→Prop)
 (hf: ∀x∈l,∀s:Unit,inv s→zj Tryz.prog f [I x] [] (.bq (p x s)) ((fun s:Unit=>[]) (nx x s))∧(p x s=false→inv (nx x s))) (s:Unit) (hs:inv s):
 zj Tryz.prog 92 [pS (.sl 1 (l.map zS)),.one (.cl f [] [])] [] (.bq (anyR p nx l s).1) ((fun s:Unit=>[]) (anyR p nx l s).2):=by
 refine gO T Tryz.func92 fun C hC=>?_
 repeat' first|refine gG ?_|refine gB (fun h=>?_) (fun h=>?_)|refine gR (zm3 f l p nx inv hf s hs) (nm []) ?_
 exact zg ⟨.inl rfl,id,_,rfl,.qq (jo p nx l 0 s),by rw[←jq p nx l 0 s];exact trivial,rfl,rfl⟩
theorem zba(f:FuncId)(l:List Int)(p:Int→Bool)(hf: ∀x∈l,zj Tryz.prog f [I x] [] (.bq (p x)) []):zj Tryz.prog 92 [pS (zA l),.one (.cl f [] [])] [] (.bq (l.any p)) []:=by
 have:=zm4 f l (fun x _=>p x) (fun _ s=>s) (fun _=>True) (fun x hx s _=>⟨hf x hx,fun _=>trivial⟩) () trivial
 rw[vj]at this
 exact this
end Hw.Fr.Md
namespace Hw.Fr.Md
open Go Go.Proofs Hw.M
def zrs(k:Int):PV:= .sl 3 ((yL k).map zee)
theorem kinds{k:Int}(h:1≤k∧k≤6):k=1∨k=2∨k=3∨k=4∨k=5∨k=6:=by omega
theorem zbb{k:Int}(hk:1≤k∧k≤6):zj Tryz.prog 63 [I k] [] (pS (zrs k)) []:=by
 rcases kinds hk with rfl|rfl|rfl|rfl|rfl|rfl
 all_goals
  refine gO T Tryz.func63 fun C hC=>?_
  repeat' first|refine gG ?_|(exfalso;simp at h;done)|refine gB (fun h=>?_) (fun h=>?_)|refine ya T hC rfl rfl rfl rfl rfl rfl rfl rfl rfl ?_
  exact gF
theorem zm5{k:Int}(hk: ¬(1≤k∧k≤6)):zj Tryz.prog 63 [I k] [] (.one (.p (.k (.slice none 0 0)))) []:=by
 refine gO T Tryz.func63 fun C hC=>?_
 repeat' first|refine gG ?_|(exfalso;have h2:=of_decide_eq_true h;omega)|refine gB (fun h=>?_) (fun h=>?_)
 exact gF
theorem zbM{k:Int}(hk: ¬(1≤k∧k≤6)):yL k=[]:=by
 unfold yL
 repeat rw[if_neg (by omega)]
theorem zbN{k:Int}:(yL k).length≤8:=by
 unfold yL
 repeat' split
 all_goals decide
theorem zpF(n:Int):zj Tryz.prog 96 [I n] [] (.bq (!zdE n)) []:=by
 have h:=zaP n
 generalize zdE n=q at h⊢
 refine gO T Tryz.func96 fun C hC=>?_
 repeat' first|refine gG ?_|refine gB (fun h=>?_) (fun h=>?_)|refine gC h ?_|refine gQ ?_|refine gL ?_
 all_goals rfl
theorem zpG(n:Int):zj Tryz.prog 97 [I n] [] (.bq (!vC n)) []:=by
 have h:=zeo n
 generalize vC n=q at h⊢
 refine gO T Tryz.func97 fun C hC=>?_
 repeat' first|refine gG ?_|refine gB (fun h=>?_) (fun h=>?_)|refine gC h ?_|refine gQ ?_|refine gL ?_
 all_goals rfl
theorem zby{α:Type}(p:α→Bool)(l:List α):(l.any fun x=> !p x)= !l.all p:=by
 induction l with
 |nil=>rfl
 |cons x l ih=>rw[List.any_cons,List.all_cons,ih,Bool.not_and]
theorem wQ(k:Int)(o:OpT):zj Tryz.prog 67 [I k,zz (opR o)] [] (.bq (okOp k o)) []:=by
 obtain⟨c,ags⟩:=o
 by_cases hk:1≤k∧k≤6
 ·have hW:=zbb hk
  have h8:=zbN (k:=k)
  have hA:=zba 96 ags (fun n=> !zdE n) (fun n _=>zpF n)
  have hB:=zba 97 ags (fun n=> !vC n) (fun n _=>zpG n)
  rw[zby]at hA hB
  unfold okOp
  simp only
  generalize ags.all zdE=qa at hA⊢
  generalize ags.all vC=qb at hB⊢
  cases hw:(yL k)[(c - 1).toNat]? with
  |none=>
   have hge:=List.getElem?_eq_none_iff.1 hw
   have hcl:c<1∨((yL k).length:Int)<c:=by omega
   refine gO T Tryz.func67 fun C hC=>?_
   repeat' first|refine gG ?_|(exfalso;first|(simp only[decide_eq_true_eq,decide_eq_false_iff_not,List.length_map,Bool.not_eq_true',Bool.not_eq_false']at *; omega)|(simp at h;done))|refine gB (fun h=>?_) (fun h=>?_)|refine gC hW ?_|refine gQ ?_|refine gL ?_
   all_goals (try simp)
  |some w=>
   have hlt:=(List.getElem?_eq_some_iff.1 hw).1
   by_cases hc1:1≤c
   ·have w1:IntKind.i64.wrap (c - 1)=c - 1:=wrap64 (by omega)
    obtain⟨s,a,u⟩:=w
    simp only
    refine gO T Tryz.func67 fun C hC=>?_
    repeat' first|refine gG ?_|(exfalso;first|(simp only[decide_eq_true_eq,decide_eq_false_iff_not,List.length_map,Bool.not_eq_true',Bool.not_eq_false']at *; omega)|(simp at h;done))|refine gB (fun h=>?_) (fun h=>?_)|refine gC hW ?_|refine gC hA ?_|refine gC hB ?_|(rw[w1];refine yh T hC rfl rfl rfl (by omega) (xA (f:=zee) hw) rfl rfl ?_)|refine gQ ?_|refine gL ?_
    all_goals (clear hW hA hB;try simp only[List.length_map]at*)
    all_goals first
     |rfl
     |(simp;done)
     |(simp_all;done)
     |(simp_all;omega)
     |(intros;simp_all<;>omega)
   ·refine gO T Tryz.func67 fun C hC=>?_
    repeat' first|refine gG ?_|(exfalso;first|(simp only[decide_eq_true_eq,decide_eq_false_iff_not,List.length_map,Bool.not_eq_true',Bool.not_eq_false']at *; omega)|(simp at h;done))|refine gB (fun h=>?_) (fun h=>?_)|refine gC hW ?_|refine gQ ?_|refine gL ?_
    all_goals (simp[hc1])
 ·have hW:=zm5 hk
  rw[show okOp k ⟨c,ags⟩=false by unfold okOp;rw[zbM hk];simp]
  refine gO T Tryz.func67 fun C hC=>?_
  repeat' first|refine gG ?_|(exfalso;first|(simp only[decide_eq_true_eq,decide_eq_false_iff_not,List.length_map,Bool.not_eq_true',Bool.not_eq_false']at *; omega)|(simp at h;done))|refine gB (fun h=>?_) (fun h=>?_)|refine gC hW ?_|refine gQ ?_|refine gL ?_
  all_goals (clear hW;try simp only[List.length_map]at*)
  all_goals first
   |rfl
   |(simp;done)
   |(simp_all;done)
   |(simp_all;omega)
   |(intros;simp_all<;>omega)
end Hw.Fr.Md
namespace Hw.Fr.Md
open Go Go.Proofs Hw.M
theorem j8{α:Type}{a b:List α}{i:Nat}{x:α}(hx:a[i]?=some x)(hy:b[i]?=some x)(h:a.take i=b.take i):a.take (i+1)=b.take (i+1):=by
 rw[List.take_add_one,List.take_add_one,hx,hy,h]
theorem zfU(a b:List Int):zj Tryz.prog 55 [pS (zA a),pS (zA b)] [] (.bq (decide (a=b))) []:=by
 refine gO T Tryz.func55 fun C hC=>?_
 refine w9 0 rfl fun hlen=>?_
 rw[List.length_map]at hlen
 repeat' first|refine gG ?_|refine gB (fun h=>?_) (fun h=>?_)|refine gL ?_
 all_goals (try simp only[List.length_map]at*)
 ·have: ¬(a.length:Int)=(b.length:Int):=by simpa using h
  exact(decide_eq_false fun e=>this (by rw[e])).symm
 ·have hab:a.length=b.length:=by have:(a.length:Int)=(b.length:Int):=by simpa using h
                                 omega
  refine zy (fun i:Nat=>i≤a.length∧a.take i=b.take i) (fun i=>([(0,pS (zA a)),(1,pS (zA b)),(5,I i)],[])) (fun i=>a.length - i) hC
   0 ⟨Nat.zero_le _,by simp⟩ id gM ?_
  rintro i ⟨hi,hn⟩
  refine zI T hC true 200 rfl ?_
  refine zP rfl (fun h=>?_) (fun h=>?_)
  ·have hlt:i<a.length:=by simpa using h
   clear h
   obtain⟨x,hx⟩:=zf hlt
   obtain⟨y,hy⟩:=zf (hab ▸ hlt)
   repeat' first|refine gG ?_|refine gB (fun h=>?_) (fun h=>?_)|refine gI T (zu hx) ?_|refine gI T (zu hy) ?_|refine zT ?_|refine gL ?_
   ·have hxy:x≠y:=by simpa using h
    exact(decide_eq_false fun e=>hxy (by subst e;rw[hx]at hy;exact Option.some.inj hy)).symm
   ·have hxy:x=y:=by simpa using h
    subst hxy
    rw[yq (by omega)]
    exact zh (i+1) ⟨by omega,j8 hx hy hn⟩ id (by omega) gM
  ·have hge: ¬i<a.length:=by simpa using h
   repeat' first|refine gG ?_|refine gB (fun h=>?_) (fun h=>?_)|refine zp ?_|refine gL ?_
   rw[List.take_of_length_le (by omega),List.take_of_length_le (by omega)]at hn
   exact(decide_eq_true hn).symm
theorem zig(a b:List Int):zj Tryz.prog 42 [pS (zA a),pS (zA b)] [] (.bq (decide (a=b))) []:=by
 refine gO T Tryz.func42 fun C hC=>?_
 refine w9 0 rfl fun hlen=>?_
 rw[List.length_map]at hlen
 repeat' first|refine gG ?_|refine gB (fun h=>?_) (fun h=>?_)|refine gL ?_
 all_goals (try simp only[List.length_map]at*)
 ·have: ¬(a.length:Int)=(b.length:Int):=by simpa using h
  exact(decide_eq_false fun e=>this (by rw[e])).symm
 ·have hab:a.length=b.length:=by have:(a.length:Int)=(b.length:Int):=by simpa using h
                                 omega
  refine zy (fun i:Nat=>i≤a.length∧a.take i=b.take i) (fun i=>([(0,pS (zA a)),(1,pS (zA b)),(12,I a.length),(13,I i)],[])) (fun i=>a.length - i) hC
   0 ⟨Nat.zero_le _,by simp⟩ id gM ?_
  rintro i ⟨hi,hn⟩
  refine zI T hC true 200 rfl ?_
  refine zP rfl (fun h=>?_) (fun h=>?_)
  ·have hlt:i<a.length:=by simpa using h
   clear h
   obtain⟨x,hx⟩:=zf hlt
   obtain⟨y,hy⟩:=zf (hab ▸ hlt)
   repeat' first|refine gG ?_|refine gB (fun h=>?_) (fun h=>?_)|refine gI T (zu hx) ?_|refine gI T (zu hy) ?_|refine zT ?_|refine gL ?_
   ·have hxy:x≠y:=by simpa using h
    exact(decide_eq_false fun e=>hxy (by subst e;rw[hx]at hy;exact Option.some.inj hy)).symm
   ·have hxy:x=y:=by simpa using h
    subst hxy
    rw[yq (by omega)]
    exact zh (i+1) ⟨by omega,j8 hx hy hn⟩ id (by omega) gM
  ·have hge: ¬i<a.length:=by simpa using h
   repeat' first|refine gG ?_|refine gB (fun h=>?_) (fun h=>?_)|refine zp ?_|refine gL ?_
   rw[List.take_of_length_le (by omega),List.take_of_length_le (by omega)]at hn
   exact(decide_eq_true hn).symm
theorem zih:zj Tryz.prog 55 [.one (.p (.k (.slice none 0 0))),.one (.p (.k (.slice none 0 0)))] [] (.bq true) []:=by
 refine gO T Tryz.func55 fun C hC=>?_
 repeat' first|refine gG ?_|(exfalso;simp at h;done)|refine gB (fun h=>?_) (fun h=>?_)
 refine zy (fun _:Unit=>True) (fun _=>([(0,.one (.p (.k (.slice none 0 0)))),(5,I 0)],[])) (fun _=>0) hC () trivial id gM ?_
 rintro⟨⟩ _
 repeat' first|refine gG ?_|(exfalso;simp at h;done)|refine gB (fun h=>?_) (fun h=>?_)|refine zp ?_|refine gQ ?_|refine gL ?_
 all_goals rfl
theorem zs8(x y:RsT):decide (x=y)=(decide (x.e=y.e)&&decide (x.n=y.n)):=by
 rw[←Bool.decide_and]
 exact decide_eq_decide.2 ⟨fun h=>by subst h;exact⟨rfl,rfl⟩,fun h=>by cases x;cases y;simp only at h;rw[h.1,h.2]⟩
theorem zcq(x y:RsT):zj Tryz.prog 33 [zz (rsR x),zz (rsR y)] [] (.bq (decide (x=y))) []:=by
 rw[zs8]
 have hN:=zih
 refine gO T Tryz.func33 fun C hC=>?_
 repeat' first|refine gG ?_|refine gB (fun h=>?_) (fun h=>?_)|refine gC hN ?_|refine gQ ?_|refine gL ?_
 all_goals (clear hN;try simp only[List.length_map]at*)
 all_goals first
  |rfl
  |(simp;done)
  |(simp_all;done)
  |(simp_all;omega)
  |(intros;simp_all<;>omega)
theorem zii(x y:Rw):zj Tryz.prog 59 [pS (zA x),pS (zA y)] [] (.bq (decide (x=y))) []:=by
 have h:=zig x y
 generalize decide (x=y)=q at h⊢
 refine gO T Tryz.func59 fun C hC=>?_
 repeat' first|refine gG ?_|refine gB (fun h=>?_) (fun h=>?_)|refine gC h ?_|refine gQ ?_|refine gL ?_
 all_goals rfl
theorem zkn(a b:List Rw):zj Tryz.prog 58 [pS (z8 a),pS (z8 b),.one (.cl 59 [] [])] [] (.bq (decide (a=b))) []:=by
 refine gO T Tryz.func58 fun C hC=>?_
 refine w9 0 rfl fun hlen=>?_
 rw[List.length_map]at hlen
 repeat' first|refine gG ?_|refine gB (fun h=>?_) (fun h=>?_)|refine gL ?_
 all_goals (try simp only[List.length_map]at*)
 ·have: ¬(a.length:Int)=(b.length:Int):=by simpa using h
  exact(decide_eq_false fun e=>this (by rw[e])).symm
 ·have hab:a.length=b.length:=by have:(a.length:Int)=(b.length:Int):=by simpa using h
                                 omega
  refine zy (fun i:Nat=>i≤a.length∧a.take i=b.take i) (fun i=>([(1,pS (z8 b)),(2,.one (.cl 59 [] [])),(15,pS (z8 a)),(16,I a.length),(17,I i)],[])) (fun i=>a.length - i) hC
   0 ⟨Nat.zero_le _,by simp⟩ id gM ?_
  rintro i ⟨hi,hn⟩
  refine zI T hC true 200 rfl ?_
  refine zP rfl (fun h=>?_) (fun h=>?_)
  ·have hlt:i<a.length:=by simpa using h
   clear h
   obtain⟨x,hx⟩:=zf hlt
   obtain⟨y,hy⟩:=zf (hab ▸ hlt)
   repeat' first|refine gG ?_|refine gB (fun h=>?_) (fun h=>?_)|refine gI T (zu hx) ?_|refine gI T (zu hy) ?_|refine gC (zii _ _) ?_|refine zT ?_|refine gL ?_
   ·have hxy:x≠y:=by simpa using h
    exact(decide_eq_false fun e=>hxy (by subst e;rw[hx]at hy;exact Option.some.inj hy)).symm
   ·have hxy:x=y:=by simpa using h
    subst hxy
    rw[yq (by omega)]
    exact zh (i+1) ⟨by omega,j8 hx hy hn⟩ id (by omega) gM
  ·have hge: ¬i<a.length:=by simpa using h
   repeat' first|refine gG ?_|refine gB (fun h=>?_) (fun h=>?_)|refine zp ?_|refine gL ?_
   rw[List.take_of_length_le (by omega),List.take_of_length_le (by omega)]at hn
   exact(decide_eq_true hn).symm
theorem zm6(x y:Int):decide (zou x y=0)=decide (x=y):=by
 unfold zou
 by_cases h:x<y
 ·rw[if_pos h,decide_eq_false (by omega: ¬x=y)];rfl
 ·rw[if_neg h]
  by_cases h2:y<x
  ·rw[if_pos h2,decide_eq_false (by omega: ¬x=y)];rfl
  ·rw[if_neg h2,decide_eq_true (by omega:x=y)];rfl
theorem zbc(k k2:Int)(R S:Rws):zj Tryz.prog 28 [zz (stR k R),zz (stR k2 S)] [] (.bq (decide (k=k2)&&decide (R=S))) []:=by
 have hE:=zkn R S
 have hC1:=zkm k k2
 rw[←zm6]
 generalize decide (R=S)=q at hE⊢
 generalize zou k k2=z at hC1⊢
 refine gO T Tryz.func28 fun C hC=>?_
 repeat' first|refine gG ?_|refine gB (fun h=>?_) (fun h=>?_)|refine gC hC1 ?_|refine gC hE ?_|refine gQ ?_|refine gL ?_
 all_goals (clear hE hC1;try simp only[List.length_map]at*)
 all_goals first
  |rfl
  |(simp;done)
  |(simp_all;done)
  |(simp_all;omega)
  |(intros;simp_all<;>omega)
theorem zm7(k k2:Int)(a b:Rws):zj Tryz.prog 21 [zz (stR k a),zz (stR k2 b)] [] (.bq (decide (k=k2)&&decide (a=b))) []:=by
 by_cases hk:k=k2
 case neg=>
  rw[decide_eq_false hk]
  refine gO T Tryz.func21 fun C hC=>?_
  repeat' first|refine gG ?_|(exfalso;have h2:=of_decide_eq_true h;simp[hk]at h2;done)|(exfalso;simp[hk]at h;done)|refine gB (fun h=>?_) (fun h=>?_)|refine gL ?_
  all_goals rfl
 subst hk
 rw[decide_eq_true rfl,Bool.true_and]
 by_cases hab:a.length=b.length
 case neg=>
  have hne: ¬a=b:=fun e=>hab (by rw[e])
  rw[decide_eq_false hne]
  have hab': ¬(a.length:Int)=(b.length:Int):=by omega
  refine gO T Tryz.func21 fun C hC=>?_
  repeat' first|refine gG ?_|(exfalso;simp at h;done)|(exfalso;first|(simp only[decide_eq_true_eq,decide_eq_false_iff_not,List.length_map,Bool.not_eq_true',Bool.not_eq_false']at *; omega)|(simp at h;done))|(exfalso;simp[hab]at h;done)|refine gB (fun h=>?_) (fun h=>?_)|refine gL ?_
  all_goals rfl
 refine gO T Tryz.func21 fun C hC=>?_
 refine zoh rfl 1 1 rfl rfl fun hlen=>?_
 rw[List.length_map]at hlen
 repeat' first|refine gG ?_|(exfalso;simp at h;done)|(exfalso;first|(simp only[decide_eq_true_eq,decide_eq_false_iff_not,List.length_map,Bool.not_eq_true',Bool.not_eq_false']at *; omega)|(simp at h;done))|(exfalso;simp[hab]at h;done)|refine gB (fun h=>?_) (fun h=>?_)
 refine zy (fun i:Nat=>i≤a.length∧a.take i=b.take i) (fun i=>([(2,.one (.bx 1002 0)),(3,.one (.bx 1003 0)),(5,I i)],[(1002,some (.box ((stR k a).map V.p))),(1003,some (.box ((stR k b).map V.p)))])) (fun i=>a.length - i) hC
  0 ⟨Nat.zero_le _,by simp⟩ id gM ?_
 rintro i ⟨hi,hn⟩
 refine zI T hC true 200 rfl ?_
 refine zP rfl (fun h=>?_) (fun h=>?_)
 ·have hlt:i<a.length:=by simpa using h
  clear h
  obtain⟨x,hx⟩:=zf hlt
  obtain⟨y,hy⟩:=zf (hab ▸ hlt)
  repeat' first|refine gG ?_|refine gB (fun h=>?_) (fun h=>?_)|refine gI T (zu hx) ?_|refine gI T (zu hy) ?_|refine gC (zfU _ _) ?_|refine zT ?_|refine gL ?_
  ·have hxy:x≠y:=by simpa using h
   exact(decide_eq_false fun e=>hxy (by subst e;rw[hx]at hy;exact Option.some.inj hy)).symm
  ·have hxy:x=y:=by simpa using h
   subst hxy
   rw[yq (by omega)]
   exact zh (i+1) ⟨by omega,j8 hx hy hn⟩ id (by omega) gM
 ·have hge: ¬i<a.length:=by simpa using h
  repeat' first|refine gG ?_|refine gB (fun h=>?_) (fun h=>?_)|refine zp ?_|refine gL ?_
  rw[List.take_of_length_le (by omega),List.take_of_length_le (by omega)]at hn
  exact(decide_eq_true hn).symm
end Hw.Fr.Md
namespace Hw.Fr.Md
open Go Go.Proofs Hw.M
def emp(k:Int):List PV:=[ki k,.k (.slice none 0 0)]
theorem LeS.emp(k:Int):LeS (zz (emp k)) (zz (stR k [])):=LeS.agg (.cons (.refl _) (.cons (.nil 1) .nil))
theorem zov{k:Int}(hk:1≤k∧k≤6):zj Tryz.prog 34 [I k] [] (.tup [zz (stR k []),I 0]) []:=by
 have hW:=zbb hk
 have hne:(yL k).map zee≠ []:=by
  rcases kinds hk with rfl|rfl|rfl|rfl|rfl|rfl<;>decide
 refine gO T Tryz.func34 fun C hC=>?_
 repeat' first|refine gG ?_|(exfalso;exact hne (hb h))|refine gB (fun h=>?_) (fun h=>?_)|refine gC hW ?_|(refine zbG (rows:=(yL k).map zee) (e:=3) (et:=144) rfl (by kernel_rfl) rfl (fun b hb=>?_))
 exact zg ⟨.inl rfl,id,_,rfl,LeS.tup (.cons (LeS.emp k) (.cons (.refl _) .nil)),trivial,rfl,rfl⟩
theorem zfV{k c:Int}(hk:1≤k∧k≤6)(hc:1≤c){w:Str×Int×Bool}(hw:(yL k)[(c - 1).toNat]?=some w):zj Tryz.prog 75 [I k,I c] [] (.tup [.bq w.2.2,I 0]) []:=by
 have hW:=zbb hk
 have hlt:=(List.getElem?_eq_some_iff.1 hw).1
 have h8:=zbN (k:=k)
 have w1:IntKind.i64.wrap (c - 1)=c - 1:=wrap64 (by omega)
 have hne:(yL k).map zee≠ []:=by
  rcases kinds hk with rfl|rfl|rfl|rfl|rfl|rfl<;>decide
 refine gO T Tryz.func75 fun C hC=>?_
 repeat' first|refine gG ?_|(exfalso;exact hne (hb h))|(exfalso;first|(simp only[decide_eq_true_eq,decide_eq_false_iff_not,List.length_map,Bool.not_eq_true',Bool.not_eq_false']at *; omega)|(simp at h;done))|refine gB (fun h=>?_) (fun h=>?_)|refine gC hW ?_|(refine zbG (rows:=(yL k).map zee) (e:=3) (et:=144) rfl (by kernel_rfl) rfl (fun b hb=>?_))|(rw[w1];refine yh T hC rfl rfl rfl (by omega) (xA (f:=zee) hw) rfl rfl ?_)
 exact zg ⟨.inl rfl,id,_,rfl,LeS.tup (.cons (LeS.qb rfl) (.cons (.refl _) .nil)),trivial,rfl,rfl⟩
def zs9(r:Rw):Bool:=(decide (60<(r.length:Int))&&decide ((r.length:Int)≤500))||decide (600<(r.length:Int))
def zfW(R:Rws):Bool:=(decide ((R.length:Int)≤60)||(decide (500<(R.length:Int))&&decide ((R.length:Int)<600)))&& !R.any zs9
end Hw.Fr.Md