import Derived.Test.YtolghpfockkldaaGreatDoorC9
import Derived.Test.YtolghpfockkldaaGreatDoorC7
import Derived.Test.YtolghpfockkldaaGreatDoorC8
import Derived.Test.YtolghpfockkldaaGreatDoorC5
import Derived.Test.YtolghpfockkldaaGreatDoorE3
import Derived.Lib.LaidTab
set_option linter.unusedVariables false
set_option linter.unusedSimpArgs false
set_option linter.unusedSectionVars false
set_option linter.unnecessarySimpa false
namespace Hw.Gm.Ps
open Go Go.Proofs Hw.M
theorem zko{α β γ:Type}(r:PA α)(f:α->Nat->PA β)(g:β->Nat->PA γ):(r.bind f).bind g=r.bind λx i=>(f x i).bind g:=by cases r<;>rfl
def hdA(l:List Tok)(f i:Nat):PA (Str×List Fld×Str×List Fld):=(wI l i).bind λn i=>(jd l (⟨#[40]⟩:UH) i).bind λ_ i=>(listA l (⟨#[44]⟩:UH) (⟨#[41]⟩:UH) (vb l) f i []).bind λps i=>
 (if isA l i ⟨#[123]⟩=true then PA.ok (⟨#[]⟩:UH) i else zn4 l i).bind λr i=>(jd l ⟨#[123]⟩ i).bind λ_ i=>(locsA l f i []).bind λls i=> .ok (n,ps,r,ls) i
theorem zq5(l:List Tok)(f i:Nat):zi2 l f i=(hdA l f i).bind λq i=>(stmtsA l f i []).bind λb i=> .ok ⟨q.1,q.2.1,q.2.2.1,q.2.2.2,b⟩ i:=by
 unfold zi2 hdA;simp only[zko];rfl
def stmtsE:Nat->List Tok->List Sm->Option (List Sm×List Tok)
 |0,_,_=>none
 |f+1,r,a=>if isA r 0 ⟨#[125]⟩=true then some (a,r.drop 1)else match j6 r f 0 with
  | .ok s j=>stmtsE f (r.drop j) (a++[s])
  |_=>none
def procE(f:Nat)(r:List Tok):Option (Pr×List Tok):=match hdA r f 0 with
 | .ok q j=>match stmtsE f (r.drop j) []with
   |some (b,r)=>some (⟨q.1,q.2.1,q.2.2.1,q.2.2.2,b⟩,r)
   |none=>none
 |_=>none
def zn5(f:Nat)(r:List Tok)(d:zj):Option (zj×List Tok):=if isA r 0 (⟨#[112,114,111,99]⟩:UH)=true then match procE f (r.drop 1)with
    |some (p,r)=>some ({ d with procs:=d.procs++[p] },r)
    |none=>none
 else match zbo r f 0 d with
  | .ok x j=>some (x,r.drop j)
  |_=>none
def itemsE(f:Nat):Nat->List Tok->zj->Option (zj×List Tok)
 |0,_,_=>none
 |g+1,r,d=>if isA r 0 ⟨#[125]⟩=true then some (d,r.drop 1)else match zn5 f r d with
  |some (x,r)=>itemsE f g r x
  |none=>none
def zn6(l:List Tok)(f:Nat):Option (zj×List Tok):=match(jd l (⟨#[100,101,115,99]⟩:UH) 0).bind λ_ i=>(wI l i).bind λn i=>(jd l ⟨#[123]⟩ i).bind λ_ i=> .ok n i with
 | .ok n i=>itemsE f f (l.drop i) ⟨n,[],[],[],[],[],[],[]⟩
 |_=>none
variable {f:Nat}{r:List Tok}
section
variable (l:List Tok)
theorem zeV: ∀(f i:Nat) (a b:List Sm) (r:List Tok),stmtsE f (l.drop i) a=some (b,r)-> ∃j,r=l.drop j/\stmtsA l f i a= .ok b j
 |0,_,_,_,_,h=>by cases h
 |f+1,i,a,b,r,h=>by
  simp only[stmtsE]at h;simp only[stmtsA];have e:isA l i ⟨#[125]⟩=isA (l.drop i) 0 ⟨#[125]⟩:=jP l i 0 _;rw[e];by_cases J:isA (l.drop i) 0 ⟨#[125]⟩=true
  ·rw[uv J]at h⊢;cases h;exact⟨i+1,by rw[tv],rfl⟩
  ·rw[uu J]at h⊢;have U:j6 l f i=PA.sh i (j6 (l.drop i) f 0):=(zp9 l i f).st 0;rw[U];cases hq:j6 (l.drop i) f 0 with
   |ok s j=>
    rw[hq]at h;simp only[tv]at h;exact zeV f (i+j) (a++[s]) b r h
   |no j=>rw[hq]at h;cases h
   |out=>rw[hq]at h;cases h
theorem zq6(d f i:Nat):hdA l f (d+i)=PA.sh d (hdA (l.drop d) f i):=
 shB (xl ..) λ_ _=>shB (yO ..) λ_ _=>shB (zdI ..) λ_ _=>shB (shI (zU ..) rfl (zkp ..)) λ_ _=>shB (yO ..) λ_ _=>shB (zkq ..) λ_ _=>rfl
theorem zn7{i:Nat}{p:Pr}(h:procE f (l.drop i)=some (p,r)): ∃j,r=l.drop j/\zi2 l f i= .ok p j:=by
 unfold procE at h;rw[zq5,show hdA l f i=PA.sh i (hdA (l.drop i) f 0) from zq6 l i f 0];cases hq:hdA (l.drop i) f 0 with
 |ok q j=>
  rw[hq]at h;simp only[tv]at h;cases hs:stmtsE f (l.drop (i+j)) []with
  |none=>rw[hs]at h;cases h
  |some z=>
   obtain⟨b,r2⟩:=z;rw[hs]at h;cases h;obtain⟨J,U,h2⟩:=zeV l f (i+j) [] b _ hs;refine⟨J,U,?_⟩;show(stmtsA l f (i+j) []).bind _=_;rw[h2];rfl
 |no j=>rw[hq]at h;cases h
 |out=>rw[hq]at h;cases h
theorem zq7(d f i:Nat):zas l f (d+i)=PA.sh d (zas (l.drop d) f i):=
 shB (xl ..) λ_ _=>shB (yO ..) λ_ _=>shB (xl ..) λ_ _=>shB (yO ..) λ_ _=>shB (yO ..) λ_ j=>by
  rw[jP];by_cases h:isA (l.drop d) j (⟨#[45]⟩:UH)=true
  ·simp only[uv h];exact shB (zkr l d (j+1)) λ_ _=>shB (zbS ..) λ_ _=>rfl
  ·simp only[uu h];exact shB (zkr l d j) λ_ _=>shB (zbS ..) λ_ _=>rfl
theorem zq8(d f i:Nat)(x:zj)(U: ¬isA l (d+i) (⟨#[112,114,111,99]⟩:UH)=true):zbo l f (d+i) x=PA.sh d (zbo (l.drop d) f i x):=by
 have J: ¬isA (l.drop d) i (⟨#[112,114,111,99]⟩:UH)=true:=by rw[<-jP];exact U
 unfold zbo;rw[uu U,uu J];refine shI (zU ..) (shB (xl l d (i+1)) λ_ _=>shB (yO ..) λ_ _=>shB (zdI ..) λ_ _=>rfl) (shI (zU ..) (shB (zbT l d (i+1)) λ_ _=>rfl) (shI (zU ..) (shB (zq7 l d f (i+1)) λ_ _=>rfl) ?_));refine shI (zU ..) (shB (xl l d (i+1)) λ_ j=>shB (shI (zU ..) (shB (xl l d (j+1)) λ_ _=>shB (yO ..) λ_ _=>rfl) rfl) λ_ _=>shB (zbS ..) λ_ _=>rfl) ?_;refine shI (zU ..) (shB (shI (zU l d (i+1) _) rfl (xl l d (i+1))) λ_ _=>shB (zbS ..) λ_ _=>rfl) ?_;exact shI (zU ..) (shB (xl l d (i+1)) λ_ _=>shB (zbS ..) λ_ _=>rfl) rfl
theorem zn8{i:Nat}{d x:zj}(h:zn5 f (l.drop i) d=some (x,r)): ∃j,r=l.drop j/\zbo l f i d= .ok x j:=by
 unfold zn5 at h;have e:isA l i (⟨#[112,114,111,99]⟩:UH)=isA (l.drop i) 0 (⟨#[112,114,111,99]⟩:UH):=jP l i 0 _;by_cases J:isA (l.drop i) 0 (⟨#[112,114,111,99]⟩:UH)=true
 ·rw[uv J]at h;rw[<-e]at J;rw[tv]at h;cases hq:procE f (l.drop (i+1))with
  |none=>rw[hq]at h;cases h
  |some z=>
   obtain⟨p,r2⟩:=z;rw[hq]at h;cases h;obtain⟨j,U,h2⟩:=zn7 l hq;refine⟨j,U,?_⟩;unfold zbo;rw[uu (λh=>absurd (zgn J h) ub),uu (λh=>absurd (zgn J h) ub),uv J,h2];rfl
 ·rw[uu J]at h;rw[show zbo l f i d=PA.sh i (zbo (l.drop i) f 0 d) from zq8 l i f 0 d (by rw[jP];exact J)];cases hq:zbo (l.drop i) f 0 d with
  |ok y j=>
   rw[hq]at h;cases h;exact⟨i+j,by rw[tv],rfl⟩
  |no j=>rw[hq]at h;cases h
  |out=>rw[hq]at h;cases h
theorem zeW(f:Nat): ∀(g i:Nat) (d x:zj) (r:List Tok),itemsE f g (l.drop i) d=some (x,r)-> ∃j,r=l.drop j/\itemsA l f g i d= .ok x j
 |0,_,_,_,_,h=>by cases h
 |g+1,i,d,x,r,h=>by
  simp only[itemsE]at h;simp only[itemsA];have e:isA l i ⟨#[125]⟩=isA (l.drop i) 0 ⟨#[125]⟩:=jP l i 0 _;rw[e];by_cases J:isA (l.drop i) 0 ⟨#[125]⟩=true
  ·rw[uv J]at h⊢;cases h;exact⟨i+1,by rw[tv],rfl⟩
  ·rw[uu J]at h⊢;cases hq:zn5 f (l.drop i) d with
   |none=>rw[hq]at h;cases h
   |some z=>
    obtain⟨y,r2⟩:=z;rw[hq]at h;obtain⟨j,rfl,h2⟩:=zn8 l hq;rw[h2];exact zeW f g j y x r h
theorem zn9{x:zj}(h:zn6 l f=some (x,r)): ∃j,r=l.drop j/\zeX l f= .ok x j:=by
 unfold zn6 at h
 have e:zeX l f=((jd l (⟨#[100,101,115,99]⟩:UH) 0).bind λ_ i=>(wI l i).bind λn i=>(jd l ⟨#[123]⟩ i).bind λ_ i=> .ok n i).bind λn i=>itemsA l f f i ⟨n,[],[],[],[],[],[],[]⟩:=by
  unfold zeX;simp only[zko];rfl
 rw[e];generalize ((jd l (⟨#[100,101,115,99]⟩:UH) 0).bind λ_ i=>(wI l i).bind λn i=>(jd l ⟨#[123]⟩ i).bind λ_ i=>PA.ok n i)=q at h⊢;cases q with
 |ok n i=>exact zeW l f f i _ x r h
 |no j=>cases h
 |out=>cases h
end
def lxC:Nat->By->Int×Int->List Tok
 |0,_,_=>[]
 |_+1,[],p=>[⟨5,(⟨#[]⟩:UH),0,p.1,p.2⟩]
 |f+1,c::r,p=>match tk (c::r)with
  |none=>[]
  |some (n,o)=>match o with
   |none=>lxC f ((c::r).drop n) (((c::r).take n).foldl mvX p)
   |some t=>xS p t::lxC f ((c::r).drop n) (((c::r).take n).foldl mvX p)
variable {t:Int×Str×Int}
theorem zvq{l:By}(h:zks l=some t):t.1≠5:=by
 unfold zks at h
 repeat' split at h
 all_goals first
  |(cases h;done)
  |(simp only[ui]at h;subst h;simp)
theorem zwv{l:By}{n:Nat}(h:tk l=some (n,some t)):t.1≠5:=by
 cases l with
 |nil=>cases h
 |cons c r=>
  simp only[tk]at h;by_cases J:blB c=true
  ·rw[uv J]at h;cases h
  rw[uu J]at h;by_cases h2:c=35
  ·rw[uv h2]at h;cases h
  rw[uu h2]at h;by_cases h3:wB c=true
  ·rw[uv h3]at h;obtain⟨x,U,h4⟩:=uM.1 h;cases h4;exact zvq U
  ·rw[uu h3]at h;obtain⟨x,U,h4⟩:=uM.1 h;cases h4;exact(by decide:(4:Int)≠5)
theorem zkt: ∀(f:Nat) (l:By) (p:Int×Int) (out:List Tok),(∃t∈lxC f l p,t.k=5)->lx f l p out=(out++lxC f l p,(0,0),0)
 |0,_,_,_,h=>by obtain⟨t,J,_⟩:=h;cases J
 |_+1,[],_,_,_=>rfl
 |f+1,c::r,p,out,h=>by
  simp only[lxC]at h⊢;simp only[lx];cases hq:tk (c::r)with
  |none=>rw[hq]at h;obtain⟨t,J,_⟩:=h;cases J
  |some z=>
   obtain⟨n,o⟩:=z;rw[hq]at h;cases o with
   |none=>
    simp only at h;simp only[zkt f _ _ _ h,qi,Option.toList_none,u0]
   |some t=>
    simp only at h
    have h2: ∃x∈lxC f ((c::r).drop n) (((c::r).take n).foldl mvX p),x.k=5:=by
     obtain⟨x,U,h5⟩:=h;rcases uI.1 U with rfl|U
     ·exact absurd h5 (zwv hq)
     ·exact⟨x,U,h5⟩
    simp only[zkt f _ _ _ h2,uO,Option.toList_some,tq,qA]
def zvr(s:Str)(p:zj->Bool):Bool:=decide (s.size<=65536)&&match zn6 (lxC ((lst s).length+1) (lst s) (1,1)) (10*(lxC ((lst s).length+1) (lst s) (1,1)).length+13)with
 |some (x,t::_)=>decide (t.k=5)&&(yx x&&p x)
 |_=>false
theorem zq9{s:Str}{p:zj->Bool}(h:zvr s p=true):(xo s).2.2=0/\yx (xo s).1=true/\p (xo s).1=true:=by
 unfold zvr at h;rw[uo]at h;obtain⟨U,h⟩:=h;cases hx:zn6 (lxC ((lst s).length+1) (lst s) (1,1)) (10*(lxC ((lst s).length+1) (lst s) (1,1)).length+13)with
 |none=>rw[hx]at h;cases h
 |some z=>
  obtain⟨x,r⟩:=z;rw[hx]at h;cases r with
  |nil=>cases h
  |cons t r=>
   simp only[uo,uq]at h;obtain⟨j,h1,h2⟩:=zn9 _ hx
   have J:(lxC ((lst s).length+1) (lst s) (1,1))[j]?=some t:=by
    have:((lxC ((lst s).length+1) (lst s) (1,1)).drop j)[0]?=some t:=by rw[<-h1];rfl
    rwa [uY,tY]at this
   have hT:yI s=(lxC ((lst s).length+1) (lst s) (1,1),(0,0),0):=by
    unfold yI;rw[uu (by have:=uj U;omega)];exact zkt _ _ _ [] ⟨t,List.mem_of_getElem? J,h.1⟩
   generalize lxC ((lst s).length+1) (lst s) (1,1)=l at*;unfold xo topD;rw[hT];simp only[uZ];rw[h2];simp only[J,h.1,uZ,h.2.1];exact⟨uh,trivial,h.2.2⟩
end Hw.Gm.Ps
namespace Hw.Gm
open Go Go.Proofs Go.Shelf Hw.M Ps
def opsOf:Code->List Oper
 | .region _ ops _=>ops.toList
 | .seq a b=>opsOf a++opsOf b
 |_=>[]
def rowOf(o:Oper):List (Str×Str×Int):=match o.op with
 | .build _ ps=>match ps.toList with
   | [(_,.const (.string n)),(_,.const (.string x)),(_,.const (.int _ k))]=>[(n,x,k)]
   |_=>[]
 |_=>[]
noncomputable def zu2:List (Str×Str×Int):=match Tryz.f61.body with
 |some c=>(opsOf c).flatMap rowOf
 |none=>[]
def zdJ(x:Str×Str×Int):List PV:=[ks x.1,ks x.2.1,ki x.2.2]
theorem ztC:zh Tryz.prog 61 [] [] (pS (.sl 3 (zu2.map zdJ))) []:=by
 refine gO T Tryz.func61 λC hC=>?_
 repeat' first|refine gG ?_|refine gB ?_ ?_<;>intro h|refine gT ?_
 exact gF
def noS:Str×Str×Int:=((⟨#[]⟩:UH),(⟨#[]⟩:UH),0)
noncomputable def zra(s:Str):Option (Str×Str×Int):=zu2.find? λx=>decide (x.1=s)
theorem zoa:zu2.length=11:=by kernel_rfl
theorem zhN{α:Type}{p:α->Bool}: ∀ {l:List α} {i:Nat} {x:α},l[i]?=some x->p x=true->(l.take i).any p=false->l.find? p=some x
 | [],i,x,h,_,_=>by simp at h
 |y::ys,0,x,h,hp,_=>by simp at h;subst h;simp[List.find?,hp]
 |y::ys,i+1,x,h,hp,hn=>by
  simp only[tU,ql,uW]at hn;simp only[tr]at h;simp only[List.find?,hn.1];exact zhN h hp hn.2
theorem zhO{α:Type}{p:α->Bool}: ∀ {l:List α},l.any p=false->l.find? p=none
 | [],_=>rfl
 |y::ys,h=>by
  simp only[ql,uW]at h;simp only[List.find?,h.1];exact zhO h.2
theorem zob(s:Str):zh Tryz.prog 43 [Sr s] [] (.tup [zF (zdJ ((zra s).getD noS)),I (if(zra s).isSome then 0 else 9)]) []:=by
 have hA:=ztC;have hL:=zoa;unfold zra;generalize zu2=L at hA hL;refine gO T Tryz.func43 λC hC=>?_
 repeat' first|refine gG ?_|refine gB ?_ ?_<;>intro h|refine gC hA ?_
 rw[uk]
 refine zn (λi:Nat=>i<=L.length/\(L.take i).any (λx=>decide (x.1=s))=false) (λi=>([(0,Sr s),(2,.one (.bx 1002 0)),(6,pS (.sl 3 (L.map zdJ))),(7,I L.length),(8,I i)],[(1002,some (Res.box ((zdJ noS).map V.p)))])) (λi=>L.length - i) hC
  0 ⟨uz _,ue⟩ id gM ?_
 rintro i ⟨hi,J⟩;refine zq T hC true 200 rfl ?_;refine zt rfl ?_ ?_<;>intro h
 ·have U:i<L.length:=by simpa using h
  clear h;obtain⟨x,hx⟩:=zd U
  repeat' first|refine gG ?_|refine gB ?_ ?_<;>intro h|refine gX ?_|refine zo ?_
  ·have e:L.find? (λx=>decide (x.1=s))=some x:=zhN hx uf J;rw[e];exact gF
  ·rw[wrapN ua];refine zg (i+1) ⟨ua,?_⟩ id ua gM;rw[qQ,hx,oJ,J];simpa using h
 ·have hge:L.length=i:=by have:=um h;omega
  rw[<-hge,List.take_length]at J;rw[zhO J];clear h
  repeat' first|refine gG ?_|refine gB ?_ ?_<;>intro h|refine ze ?_
  exact gF
noncomputable def ztf:Str:=((zra (⟨#[108,105,115,116]⟩:UH)).getD noS).2.1
theorem zoc:(zra (⟨#[108,105,115,116]⟩:UH)).isSome=true:=by kernel_rfl
def awC:List Cl:=[⟨(⟨#[112,117,116]⟩:UH),[1,5]⟩,⟨(⟨#[112,117,116]⟩:UH),[2,6]⟩,⟨(⟨#[103,101,116]⟩:UH),[2]⟩]
def awX(d:zj):Option (List EnT×Option Hp×Int)->Bool
 |some (xs,some n,e)=>decide (e=0)&&decide (xs.length=3)&&(match xs[2]? with
  |some x=>decide (x.ac=6)&&decide (x.be=0)&&decide (x.af=0)&&decide (x.bo=8)
  |none=>false)&&yD d n&&decide ((zrb xs).1= -1)&&decide ((zrb xs).2=0)
 |_=>false
def awP(d:zj):Bool:=zcI d (zod d)&&awX d (zu3 d (zod d) 200 awC 100)
theorem zrc:Ps.zvr ztf awP=true:=by kernel_rfl
theorem zoe:ztf.size<=1000000:=by
 have h:decide (ztf.size<=1000000)=true:=by kernel_rfl
 exact uj h
theorem ztD: ∃d:zj,zh Tryz.prog 21 [Sr (⟨#[108,105,115,116]⟩:UH)] [] (.tup [zF (zJ d),I 0]) []/\yx d=true/\awP d=true:=by
 have U:=zob (⟨#[108,105,115,116]⟩:UH);rw[zoc,uv rfl]at U;obtain⟨h1,h2,h3⟩:=Ps.zq9 zrc;have J:=Ps.zcK zoe h1 h2;generalize hD:Ps.xo ztf=D at h1 h2 h3 J;clear hD;have hz:ztf=((zra (⟨#[108,105,115,116]⟩:UH)).getD noS).2.1:=by unfold ztf;rfl
 rw[hz]at J;clear hz;generalize (zra (⟨#[108,105,115,116]⟩:UH)).getD noS=q at U J;obtain⟨q1,q2,q3⟩:=q;obtain⟨D1,D2⟩:=D;simp only at J h2 h3;refine⟨D1,?_,h2,h3⟩;clear h1 h2 h3;refine gO T Tryz.func21 λC hC=>?_
 repeat' first|refine gG ?_|exact gD|refine gB ?_ ?_<;>intro h|refine gC U ?_|refine gC J ?_
 exact gF
theorem zof:zh Tryz.prog 6 [] [] (Bo true) []:=by
 obtain⟨d,hL,hv,ha⟩:=ztD;unfold awP at ha;rw[uo]at ha;obtain⟨h1,h2⟩:=ha;obtain⟨hcw,J⟩:=jD h1;have hN:=zi3 d
 have ht:yT d=true:=by
  simp only[yD,uo]at J;exact J.1.1.1.1.1
 unfold zhP at hN;rw[uv ht]at hN;clear ht J hcw h1;generalize zod d=m at hN h2;cases hA:zu3 d m 200 awC 100 with
 |none=>rw[hA]at h2;cases h2
 |some q=>
  obtain⟨xs,om,e⟩:=q;rw[hA]at h2;have hAu:=zrd hA;cases om with
  |none=>cases h2
  |some n=>
   simp only[awX,uo,uq]at h2;obtain⟨⟨⟨⟨⟨rfl,U⟩,hx⟩,hvn⟩,hf1⟩,hf2⟩:=h2;cases hx2:xs[2]? with
   |none=>rw[hx2]at hx;cases hx
   |some x=>
    rw[hx2]at hx;simp only[uo,uq]at hx;obtain⟨ac,be,af,bo⟩:=x;obtain⟨⟨⟨h5,h6⟩,h7⟩,h8⟩:=hx;simp only at h5 h6 h7 h8;subst h5 h6 h7 h8;have hF:=zeY xs;rw[hf1,hf2]at hF;have hV:=yW d n;rw[hvn]at hV;clear hA hf1 hf2 hvn;have hl3:((xs.map enR).length:Int)=3:=by rw[uk,U];rfl
    have hat:(xs.map enR)[(2:Int).toNat]?=some (enR ⟨6,0,0,8⟩):=zl (i:=2) hx2;refine gO T Tryz.func6 λC hC=>?_
    repeat' first|refine gG ?_|exact gD|(exfalso;rw[hl3]at h;simp at h;done)|refine gB ?_ ?_<;>intro h|refine gC hL ?_|refine gC hN ?_|refine gT ?_|refine gC hAu ?_|refine gC hF ?_|refine gC hV ?_|(refine gI T hat ?_)|(refine znV hC [.i .i64,.i .i64,.i .i64,.i .i64] [.i .i64 6,.i .i64 0,.i .i64 0,.i .i64 8] [.i .i64 6,.i .i64 0,.i .i64 0,.i .i64 8] rfl rfl ud ud rfl rfl ud rfl rfl ?_)|refine gQ ?_|refine gL ?_
    all_goals first
     |exact zi ⟨.inl rfl,id,_,rfl,LeS.bq ub,trivial,rfl,rfl⟩
     |exact gD
     |(exfalso;rw[hl3]at h;simp at h;done)
def ztg(x:EnT):List Sc:=[.i .i64 x.ac,.i .i64 x.be,.i .i64 x.af,.i .i64 x.bo]
theorem zhQ(l:List EnT)(n:Int):zh Tryz.prog 4 [pS (enL l),I n] [] (.bq true) []:=by
 have hW:=zof;by_cases hl:60<l.length
 ·refine gO T Tryz.func4 λC hC=>?_
  repeat' first|refine gG ?_|exact gD|(exfalso;simp only[uq,ur,uk]at h;omega)|refine gB ?_ ?_<;>intro h|refine gC hW ?_
  all_goals exact zi ⟨.inl rfl,id,_,rfl,LeS.qb rfl,trivial,rfl,rfl⟩
 have J:=zeY l;have hT:=zre (l:=l) ua n;have U:=zi4 l;cases hw:l.any yN with
 |true=>
  rw[hw]at U;unfold zrb at J;unfold ztE at hT;rw[hw,uv rfl]at J hT;refine gO T Tryz.func4 λC hC=>?_
  repeat' first|refine gG ?_|exact gD|(exfalso;simp only[uq,ur,uk]at h;omega)|refine gB ?_ ?_<;>intro h|refine gC hW ?_|refine gC J ?_|refine gC hT ?_|refine gC U ?_|(refine znV hC [.i .i64,.i .i64,.i .i64,.i .i64] (ztg zE) (ztg zE) rfl rfl ud ud rfl rfl ud rfl rfl ?_)
  all_goals first
   |exact zi ⟨.inl rfl,id,_,rfl,LeS.qq ue,trivial,rfl,rfl⟩
   |exact zi ⟨.inl rfl,id,_,rfl,LeS.qb rfl,trivial,rfl,rfl⟩
   |(exfalso;simp only[uq,ur,uk]at *; omega)
 |false=>
  have hR:=zi5 (l:=l) ua hw;rw[hw]at U;unfold zrb at J;unfold ztE at hT;rw[hw,uu ue]at J hT;generalize idxI (l.findIdx? j7)=ix at J hR;by_cases h2:n<0\/(l.length:Int)<n
  ·rw[uv h2]at hT;refine gO T Tryz.func4 λC hC=>?_
   repeat' first|refine gG ?_|exact gD|(exfalso;simp only[uq,ur,uk]at h;omega)|refine gB ?_ ?_<;>intro h|refine gC hW ?_|refine gC J ?_|refine gC hT ?_|refine gC U ?_|refine gC hR ?_|(refine znV hC [.i .i64,.i .i64,.i .i64,.i .i64] (ztg zE) (ztg zE) rfl rfl ud ud rfl rfl ud rfl rfl ?_)
   all_goals first
    |exact zi ⟨.inl rfl,id,_,rfl,LeS.qq ue,trivial,rfl,rfl⟩
    |exact zi ⟨.inl rfl,id,_,rfl,LeS.qb rfl,trivial,rfl,rfl⟩
    |(exfalso;simp only[uq,ur,uk]at *; omega)
  ·rw[uu h2]at hT;obtain⟨k,rfl⟩: ∃k:Nat,n=k:=⟨n.toNat,ua⟩;rw[tD]at hT;have hT2:=zi6 (l:=l) ua hw (k:=k) ua;generalize zj5 l k=q at hT hT2;obtain⟨q1,q2⟩:=q;refine gO T Tryz.func4 λC hC=>?_
   repeat' first|refine gG ?_|exact gD|(exfalso;simp only[uq,ur,uk]at h;omega)|refine gB ?_ ?_<;>intro h|refine gC hW ?_|refine gC J ?_|refine gC hT ?_|refine gC U ?_|refine gC hR ?_|refine gC hT2 ?_|(refine znV hC [.i .i64,.i .i64,.i .i64,.i .i64] (ztg q1) (ztg q1) rfl rfl ud ud rfl rfl ud rfl rfl ?_)
   all_goals first
    |exact zi ⟨.inl rfl,id,_,rfl,LeS.qq ue,trivial,rfl,rfl⟩
    |exact zi ⟨.inl rfl,id,_,rfl,LeS.qb rfl,trivial,rfl,rfl⟩
    |(exfalso;simp only[uq,ur,uk]at *; omega)
end Hw.Gm
namespace Hw.Gm
open Go Go.Proofs Hw.M Ps
section
variable {H:Type} {enc:TypeId×Value->H} {w:World} {base:Nat} {spare:Nat->Bool} {held:Bool}
theorem zww(n:Nat):Rd enc Tryz.prog w base spare held n 47 enR:=by
 intro cs x h;obtain⟨m,rfl,c0,r0,J,rfl,U,c1,r1,x1,rfl,h1,c2,r2,x2,rfl,h2,c3,r3,x3,rfl,h3,rfl⟩:=zgo (l:=[(3,1),(3,1),(3,1),(3,1)]) ud h;obtain⟨a0,k0⟩:=zhR ud c0 J U;obtain⟨a1,k1⟩:=zhR ud c1 x1 h1;obtain⟨a2,k2⟩:=zhR ud c2 x2 h2;obtain⟨a3,k3⟩:=zhR ud c3 x3 h3;refine⟨⟨a0,a1,a2,a3⟩,?_⟩;exact(k0.app (k1.app (k2.app (k3.app (show CellsM (j8 w) [] [] from trivial)))))
end
end Hw.Gm
namespace Hw
open Go Go.Proofs
theorem zth{P:Program}{W:World}{name nm:String}{d:DataW Unit}{rest:List (String×DataW Unit)}{g:Nat}{t:TypeId}{ms:Array (String×TypeId)}
 (hg:P.globalNamed name=some g) (hty:(P.globals[g]?).map (·.type)=some t) (ht:P.underlying t=some (.interface ms)) (h:laidMet P ((name,.iface nm d)::rest) W): ∃u v,j8 W g 0=some (.iface u v):=by
 obtain⟨ps,⟨g',t',cs,fuel,p,q,hg',ht',U,J,_,_⟩,_⟩:=h;obtain rfl:=uS (hg.symm.trans hg');obtain rfl:=uS (hty.symm.trans ht');have hc:=World.var?_cell hg U 0;unfold j8;rw[hc];cases fuel with
 |zero=>simp[DataW.trod]at J
 |succ fuel=>
  rw[<-qz];generalize cs.toList=l at J
  match l,J with
  | [],J=>simp[DataW.trod,ht]at J
  |v::w::r,J=>simp[DataW.trod,ht]at J
  | [v],J=>
    cases v with
    |iface u x=>exact⟨u,x,rfl⟩
    |_=>simp[DataW.trod,ht]at J
end Hw
