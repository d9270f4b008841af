import Derived.Test.YtgcfmjlnapcioaaGreatDoorC4
import Derived.Test.YtgcfmjlnapcioaaGreatDoorC7
import Derived.Test.YtgcfmjlnapcioaaGreatDoorC1
import Derived.Test.YtgcfmjlnapcioaaGreatDoorE3
import Derived.Lib.SliceRun
import Derived.Test.YtgcfmjlnapcioaaGreatDoorC6
import Derived.Shelf.Spec.SlicesInsertGrow
import Derived.Shelf.SlicesE.Delete
set_option linter.unusedVariables false
set_option linter.unusedSimpArgs false
namespace Hw.Fr.Ps
open Go Go.Proofs Hw.M
variable {α:Type}
def PA.sh(d:Nat):PA α->PA α
 | .ok x i=> .ok x (d+i)
 | .no i=> .no (d+i)
 | .out=> .out
variable {d:Nat}
theorem shB{β:Type}{r r':PA α}{f g:α->Nat->PA β}(h:r=PA.sh d r')(hf: ∀x i,f x (d+i)=PA.sh d (g x i)):r.bind f=PA.sh d (r'.bind g):=by
 subst h
 cases r' with
 |ok x i=>exact hf x i
 |no i=>rfl
 |out=>rfl
theorem shI{c:Prop}[Decidable c]{c':Prop}[Decidable c']{a b a' b':PA α}(hc:c↔c')(h1:a=PA.sh d a')(h2:b=PA.sh d b'):(if c then a else b)=PA.sh d (if c' then a' else b'):=by
 by_cases h:c
 ·rw[uv h,uv (hc.1 h)];exact h1
 ·rw[ur h,ur (λe=>h (hc.2 e))];exact h2
section
variable (l:List Tok) (d:Nat)
theorem zan(i:Nat)(s:Str):isA l (d+i) s=isA (l.drop d) i s:=by unfold isA;rw[uD]
theorem zU(i:Nat)(s:Str):isA l (d+i) s=true↔isA (l.drop d) i s=true:=by rw[zan]
theorem yQ(s:Str)(i:Nat):x6 l s (d+i)=PA.sh d (x6 (l.drop d) s i):=shI (zU ..) rfl rfl
theorem xC(i:Nat):xF l (d+i)=PA.sh d (xF (l.drop d) i):=by
 unfold xF;rw[uD]
 split
 ·exact shI .rfl rfl rfl
 ·rfl
theorem znk(i:Nat):zoq l (d+i)=PA.sh d (zoq (l.drop d) i):=by
 unfold zoq;rw[uD]
 split
 ·exact shI .rfl rfl rfl
 ·rfl
theorem znl(i:Nat):zlO l (d+i)=PA.sh d (zlO (l.drop d) i):=shI (zU ..) rfl (shI (zU ..) rfl (xC ..))
theorem zc4(i:Nat):yH l (d+i)=PA.sh d (yH (l.drop d) i):=shB (xC ..) λ_ _=>shB (znl ..) λ_ _=>rfl
theorem zuE(i n:Nat):opA l (d+i) n=opA (l.drop d) i n:=by unfold opA;simp only[zan]
theorem zeM(sep fin:Str): ∀(f i:Nat) (a:List Fld),listA l sep fin (yH l) f (d+i) a=PA.sh d (listA (l.drop d) sep fin (yH (l.drop d)) f i a)
 |0,_,_=>rfl
 |f+1,i,a=>shI (zU ..) rfl (shB (shI .rfl rfl (yQ ..)) λ_ _=>shB (zc4 ..) λ_ _=>zeM sep fin f _ _)
structure XS (f:Nat):Prop where
 ex: ∀n i,exprA l f n (d+i)=PA.sh d (exprA (l.drop d) f n i)
 mo: ∀n x i,moreA l f n x (d+i)=PA.sh d (moreA (l.drop d) f n x i)
 po: ∀i,postA l f (d+i)=PA.sh d (postA (l.drop d) f i)
 dt: ∀x i,dotsA l f x (d+i)=PA.sh d (dotsA (l.drop d) f x i)
 ag: ∀i a,argsP l f (d+i) a=PA.sh d (argsP (l.drop d) f i a)
 pt: ∀k i a,partsA l f k (d+i) a=PA.sh d (partsA (l.drop d) f k i a)
 pr: ∀i,primA l f (d+i)=PA.sh d (primA (l.drop d) f i)
theorem znm: ∀f:Nat,XS l d f
 |0=>⟨λ_ _=>by simp only[exprA];rfl,λ_ _ _=>by simp only[moreA];rfl,λ_=>by simp only[postA];rfl,λ_ _=>by simp only[dotsA];rfl,λ_ _=>by simp only[argsP];rfl,λ_ _ _=>by simp only[partsA];rfl,λ_=>by simp only[primA];rfl⟩
 |f+1=>by
  have ih:=znm f
  refine⟨λn i=>?_,λn x i=>?_,λi=>?_,λx i=>?_,λi a=>?_,λk i a=>?_,λi=>?_⟩
  ·simp only[exprA]
   exact shI .rfl (shI (zU ..) (shB (ih.ex 2 (i+1)) λ_ _=>rfl) (ih.ex 3 i)) (shI .rfl (shI (zU ..) (shB (ih.ex 6 (i+1)) λ_ _=>rfl) (ih.po i)) (shB (ih.ex (n+1) i) λx j=>ih.mo n x j))
  ·simp only[moreA]
   rw[zuE]
   cases opA (l.drop d) i n with
   |none=>rfl
   |some op=>exact shB (ih.ex (n+1) (i+1)) λy j=>shI .rfl rfl (ih.mo n _ j)
  ·simp only[postA]
   exact shB (ih.pr i) λx j=>ih.dt x j
  ·simp only[dotsA]
   exact shI (zU ..) (shB (xC l d (i+1)) λs j=>ih.dt _ j) rfl
  ·simp only[argsP]
   exact shI (zU ..) rfl (shB (shI .rfl rfl (yQ ..)) λ_ j=>shB (ih.ex 0 j) λx j=>ih.ag j _)
  ·simp only[partsA]
   exact shI .rfl (shB (yQ ..) λ_ _=>rfl) (shB (yQ ..) λ_ j=>shB (ih.ex 0 j) λx j=>ih.pt (k - 1) j _)
  ·simp only[primA]
   rw[uD]
   split
   ·rfl
   ·refine shI .rfl rfl (shI .rfl (shI (zU l d (i+1) _) (shB (ih.ag (i+2) []) λ_ _=>rfl) rfl) ?_)
    refine shI (zU ..) rfl (shI (zU ..) rfl (shI (zU ..) rfl (shI (zU ..) rfl (shI (zU ..) (shB (xC l d (i+1)) λ_ _=>rfl) ?_))))
    refine shI (zU ..) (shB (ih.pt 3 (i+1) []) λ_ _=>rfl) (shI (zU ..) (shB (ih.pt 2 (i+1) []) λ_ _=>rfl) (shI (zU ..) (shB (ih.pt 2 (i+1) []) λ_ _=>rfl) (shI (zU ..) (shB (ih.pt 1 (i+1) []) λ_ _=>rfl) ?_)))
    exact shI (zU ..) (shB (ih.ex 0 (i+1)) λ_ _=>shB (yQ ..) λ_ _=>rfl) rfl
structure TS (f:Nat):Prop where
 ss: ∀i a,stmtsA l f (d+i) a=PA.sh d (stmtsA (l.drop d) f i a)
 bk: ∀i,xu l f (d+i)=PA.sh d (xu (l.drop d) f i)
 st: ∀i,wZ l f (d+i)=PA.sh d (wZ (l.drop d) f i)
theorem zq2: ∀f:Nat,TS l d f
 |0=>⟨λ_ _=>by simp only[stmtsA];rfl,λ_=>by simp only[xu];rfl,λ_=>by simp only[wZ];rfl⟩
 |f+1=>by
  have ih:=zq2 f
  have hx:=znm l d f
  refine⟨λi a=>?_,λi=>?_,λi=>?_⟩
  ·simp only[stmtsA]
   exact shI (zU ..) rfl (shB (ih.st i) λs j=>ih.ss j _)
  ·simp only[xu]
   exact shB (yQ ..) λ_ j=>ih.ss j []
  ·simp only[wZ]
   refine shI (zU ..) (shB (hx.ex 0 (i+1)) λx j=>shB (ih.bk j) λa j=>shI (zU ..) (shB (ih.bk (j+1)) λ_ _=>rfl) rfl) ?_
   refine shI (zU ..) (shB (hx.ex 0 (i+1)) λx j=>shB (ih.bk j) λa j=>rfl) ?_
   refine shI (zU ..) (shI (zU l d (i+1) _) rfl (shB (hx.ex 0 (i+1)) λx j=>shB (yQ ..) λ_ _=>rfl)) ?_
   refine shB (hx.po i) λx j=>shI (by rw[zan]) (shB (hx.ex 0 (j+1)) λy j=>shB (yQ ..) λ_ _=>rfl) ?_
   exact shI (by rw[zan]) (shB (hx.ex 0 (j+1)) λy j=>shB (yQ ..) λ_ _=>rfl) (shI .rfl (shB (yQ ..) λ_ _=>rfl) rfl)
theorem znn: ∀(f i:Nat) (a:List Fld),locsA l f (d+i) a=PA.sh d (locsA (l.drop d) f i a)
 |0,_,_=>rfl
 |f+1,i,a=>shI (zU ..) (shB (zc4 l d (i+1)) λ_ _=>shB (yQ ..) λ_ _=>znn f _ _) rfl
theorem zc5(f i:Nat):xh l f (d+i)=PA.sh d (xh (l.drop d) f i):=shB (yQ ..) λ_ j=>(znm l d f).ex 0 j
end
theorem zno{β γ:Type}(r:PA α)(f:α->Nat->PA β)(g:β->Nat->PA γ):(r.bind f).bind g=r.bind λx i=>(f x i).bind g:=by cases r<;>rfl
def hdA(l:List Tok)(f i:Nat):PA (Str×List Fld×Str×List Fld):=(xF l i).bind λn i=>(x6 l (⟨#[40]⟩:UW) i).bind λ_ i=>(listA l (⟨#[44]⟩:UW) (⟨#[41]⟩:UW) (yH l) f i []).bind λps i=>
 (if isA l i ⟨#[123]⟩=true then PA.ok (⟨#[]⟩:UW) i else zlO l i).bind λr i=>(x6 l ⟨#[123]⟩ i).bind λ_ i=>(locsA l f i []).bind λls i=> .ok (n,ps,r,ls) i
theorem zsB(l:List Tok)(f i:Nat):zdj l f i=(hdA l f i).bind λq i=>(stmtsA l f i []).bind λb i=> .ok ⟨q.1,q.2.1,q.2.2.1,q.2.2.2,b⟩ i:=by
 unfold zdj hdA
 simp only[zno]
 rfl
def stmtsE:Nat->List Tok->List Sm->Option (List Sm×List Tok)
 |0,_,_=>none
 |f+1,r,a=>if isA r 0 ⟨#[125]⟩=true then some (a,r.drop 1)else match wZ r f 0 with
  | .ok s j=>stmtsE f (r.drop j) (a++[s])
  |_=>none
def procE(f:Nat)(r:List Tok):Option (Pr×List Tok):=match hdA r f 0 with
 | .ok q j=>match stmtsE f (r.drop j) []with
   |some (b,r)=>some (⟨q.1,q.2.1,q.2.2.1,q.2.2.2,b⟩,r)
   |none=>none
 |_=>none
def zpT(f:Nat)(r:List Tok)(d:xo):Option (xo×List Tok):=if isA r 0 (⟨#[112,114,111,99]⟩:UW)=true then match procE f (r.drop 1)with
    |some (p,r)=>some ({ d with procs:=d.procs++[p] },r)
    |none=>none
 else match jr r f 0 d with
  | .ok x j=>some (x,r.drop j)
  |_=>none
def itemsE(f:Nat):Nat->List Tok->xo->Option (xo×List Tok)
 |0,_,_=>none
 |g+1,r,d=>if isA r 0 ⟨#[125]⟩=true then some (d,r.drop 1)else match zpT f r d with
  |some (x,r)=>itemsE f g r x
  |none=>none
def zpU(l:List Tok)(f:Nat):Option (xo×List Tok):=match(x6 l (⟨#[100,101,115,99]⟩:UW) 0).bind λ_ i=>(xF l i).bind λn i=>(x6 l ⟨#[123]⟩ i).bind λ_ i=> .ok n i with
 | .ok n i=>itemsE f f (l.drop i) ⟨n,[],[],[],[],[],[],[]⟩
 |_=>none
variable {f:Nat}{r:List Tok}
section
variable (l:List Tok)
theorem zge: ∀(f i:Nat) (a b:List Sm) (r:List Tok),stmtsE f (l.drop i) a=some (b,r)-> ∃j,r=l.drop j/\stmtsA l f i a= .ok b j
 |0,_,_,_,_,h=>by cases h
 |f+1,i,a,b,r,h=>by
  simp only[stmtsE]at h
  simp only[stmtsA]
  have e:isA l i ⟨#[125]⟩=isA (l.drop i) 0 ⟨#[125]⟩:=zan l i 0 _
  rw[e]
  by_cases hs:isA (l.drop i) 0 ⟨#[125]⟩=true
  ·rw[uv hs]at h⊢
   cases h
   exact⟨i+1,by rw[qD],rfl⟩
  ·rw[ur hs]at h⊢
   have e2:wZ l f i=PA.sh i (wZ (l.drop i) f 0):=(zq2 l i f).st 0
   rw[e2]
   cases hq:wZ (l.drop i) f 0 with
   |ok s j=>
    rw[hq]at h
    simp only[qD]at h
    exact zge f (i+j) (a++[s]) b r h
   |no j=>rw[hq]at h;cases h
   |out=>rw[hq]at h;cases h
theorem zsC(d f i:Nat):hdA l f (d+i)=PA.sh d (hdA (l.drop d) f i):=
 shB (xC ..) λ_ _=>shB (yQ ..) λ_ _=>shB (zeM ..) λ_ _=>shB (shI (zU ..) rfl (znl ..)) λ_ _=>shB (yQ ..) λ_ _=>shB (znn ..) λ_ _=>rfl
theorem zpV{i:Nat}{p:Pr}(h:procE f (l.drop i)=some (p,r)): ∃j,r=l.drop j/\zdj l f i= .ok p j:=by
 unfold procE at h
 rw[zsB,show hdA l f i=PA.sh i (hdA (l.drop i) f 0) from zsC l i f 0]
 cases hq:hdA (l.drop i) f 0 with
 |ok q j=>
  rw[hq]at h
  simp only[qD]at h
  cases hs:stmtsE f (l.drop (i+j)) []with
  |none=>rw[hs]at h;cases h
  |some z=>
   obtain⟨b,r2⟩:=z
   rw[hs]at h
   cases h
   obtain⟨j2,h1,h2⟩:=zge l f (i+j) [] b _ hs
   refine⟨j2,h1,?_⟩
   show(stmtsA l f (i+j) []).bind _=_
   rw[h2];rfl
 |no j=>rw[hq]at h;cases h
 |out=>rw[hq]at h;cases h
theorem zsD(d f i:Nat):wN l f (d+i)=PA.sh d (wN (l.drop d) f i):=
 shB (xC ..) λ_ _=>shB (yQ ..) λ_ _=>shB (xC ..) λ_ _=>shB (yQ ..) λ_ _=>shB (yQ ..) λ_ j=>by
  rw[zan]
  by_cases h:isA (l.drop d) j (⟨#[45]⟩:UW)=true
  ·simp only[uv h];exact shB (znk l d (j+1)) λ_ _=>shB (zc5 ..) λ_ _=>rfl
  ·simp only[ur h];exact shB (znk l d j) λ_ _=>shB (zc5 ..) λ_ _=>rfl
theorem zsE(d f i:Nat)(x:xo)(hp: ¬isA l (d+i) (⟨#[112,114,111,99]⟩:UW)=true):jr l f (d+i) x=PA.sh d (jr (l.drop d) f i x):=by
 have hp': ¬isA (l.drop d) i (⟨#[112,114,111,99]⟩:UW)=true:=by rw[<-zan];exact hp
 unfold jr
 rw[ur hp,ur hp']
 refine shI (zU ..) (shB (xC l d (i+1)) λ_ _=>shB (yQ ..) λ_ _=>shB (zeM ..) λ_ _=>rfl) (shI (zU ..) (shB (zc4 l d (i+1)) λ_ _=>rfl) (shI (zU ..) (shB (zsD l d f (i+1)) λ_ _=>rfl) ?_))
 refine shI (zU ..) (shB (xC l d (i+1)) λ_ j=>shB (shI (zU ..) (shB (xC l d (j+1)) λ_ _=>shB (yQ ..) λ_ _=>rfl) rfl) λ_ _=>shB (zc5 ..) λ_ _=>rfl) ?_
 refine shI (zU ..) (shB (shI (zU l d (i+1) _) rfl (xC l d (i+1))) λ_ _=>shB (zc5 ..) λ_ _=>rfl) ?_
 exact shI (zU ..) (shB (xC l d (i+1)) λ_ _=>shB (zc5 ..) λ_ _=>rfl) rfl
theorem zpW{i:Nat}{d x:xo}(h:zpT f (l.drop i) d=some (x,r)): ∃j,r=l.drop j/\jr l f i d= .ok x j:=by
 unfold zpT at h
 have e:isA l i (⟨#[112,114,111,99]⟩:UW)=isA (l.drop i) 0 (⟨#[112,114,111,99]⟩:UW):=zan l i 0 _
 by_cases hs:isA (l.drop i) 0 (⟨#[112,114,111,99]⟩:UW)=true
 ·rw[uv hs]at h
  rw[<-e]at hs
  rw[qD]at h
  cases hq:procE f (l.drop (i+1))with
  |none=>rw[hq]at h;cases h
  |some z=>
   obtain⟨p,r2⟩:=z
   rw[hq]at h
   cases h
   obtain⟨j,h1,h2⟩:=zpV l hq
   refine⟨j,h1,?_⟩
   unfold jr
   rw[ur (λh=>absurd (zcO hs h) ub),ur (λh=>absurd (zcO hs h) ub),uv hs,h2];rfl
 ·rw[ur hs]at h
  rw[show jr l f i d=PA.sh i (jr (l.drop i) f 0 d) from zsE l i f 0 d (by rw[zan];exact hs)]
  cases hq:jr (l.drop i) f 0 d with
  |ok y j=>
   rw[hq]at h
   cases h
   exact⟨i+j,by rw[qD],rfl⟩
  |no j=>rw[hq]at h;cases h
  |out=>rw[hq]at h;cases h
theorem zgf(f:Nat): ∀(g i:Nat) (d x:xo) (r:List Tok),itemsE f g (l.drop i) d=some (x,r)-> ∃j,r=l.drop j/\itemsA l f g i d= .ok x j
 |0,_,_,_,_,h=>by cases h
 |g+1,i,d,x,r,h=>by
  simp only[itemsE]at h
  simp only[itemsA]
  have e:isA l i ⟨#[125]⟩=isA (l.drop i) 0 ⟨#[125]⟩:=zan l i 0 _
  rw[e]
  by_cases hs:isA (l.drop i) 0 ⟨#[125]⟩=true
  ·rw[uv hs]at h⊢
   cases h
   exact⟨i+1,by rw[qD],rfl⟩
  ·rw[ur hs]at h⊢
   cases hq:zpT f (l.drop i) d with
   |none=>rw[hq]at h;cases h
   |some z=>
    obtain⟨y,r2⟩:=z
    rw[hq]at h
    obtain⟨j,rfl,h2⟩:=zpW l hq
    rw[h2]
    exact zgf f g j y x r h
theorem zpX{x:xo}(h:zpU l f=some (x,r)): ∃j,r=l.drop j/\zbg l f= .ok x j:=by
 unfold zpU at h
 have e:zbg l f=((x6 l (⟨#[100,101,115,99]⟩:UW) 0).bind λ_ i=>(xF l i).bind λn i=>(x6 l ⟨#[123]⟩ i).bind λ_ i=> .ok n i).bind λn i=>itemsA l f f i ⟨n,[],[],[],[],[],[],[]⟩:=by
  unfold zbg;simp only[zno];rfl
 rw[e]
 generalize ((x6 l (⟨#[100,101,115,99]⟩:UW) 0).bind λ_ i=>(xF l i).bind λn i=>(x6 l ⟨#[123]⟩ i).bind λ_ i=>PA.ok n i)=q at h⊢
 cases q with
 |ok n i=>exact zgf l f f i _ x r h
 |no j=>cases h
 |out=>cases h
end
def lxC:Nat->By->Int×Int->List Tok
 |0,_,_=>[]
 |_+1,[],p=>[⟨5,(⟨#[]⟩:UW),0,p.1,p.2⟩]
 |f+1,c::r,p=>match tk (c::r)with
  |none=>[]
  |some (n,o)=>match o with
   |none=>lxC f ((c::r).drop n) (((c::r).take n).foldl mv p)
   |some t=>yU p t::lxC f ((c::r).drop n) (((c::r).take n).foldl mv p)
variable {t:Int×Str×Int}
theorem zv4{l:By}(h:zgX l=some t):t.1≠5:=by
 unfold zgX at h
 repeat' split at h
 all_goals first
  |(cases h;done)
  |(simp only[um]at h;subst h;simp)
theorem zwU{l:By}{n:Nat}(h:tk l=some (n,some t)):t.1≠5:=by
 cases l with
 |nil=>cases h
 |cons c r=>
  simp only[tk]at h
  by_cases h1:blB c=true
  ·rw[uv h1]at h;cases h
  rw[ur h1]at h
  by_cases h2:c=35
  ·rw[uv h2]at h;cases h
  rw[ur h2]at h
  by_cases h3:wB c=true
  ·rw[uv h3]at h
   obtain⟨x,hx,h4⟩:=uH.1 h
   cases h4
   exact zv4 hx
  ·rw[ur h3]at h
   obtain⟨x,hx,h4⟩:=uH.1 h
   cases h4
   exact(by decide:(4:Int)≠5)
theorem znp: ∀(f:Nat) (l:By) (p:Int×Int) (out:List Tok),(∃t∈lxC f l p,t.k=5)->lx f l p out=(out++lxC f l p,(0,0),0)
 |0,_,_,_,h=>by obtain⟨t,ht,_⟩:=h;cases ht
 |_+1,[],_,_,_=>rfl
 |f+1,c::r,p,out,h=>by
  simp only[lxC]at h⊢
  simp only[lx]
  cases hq:tk (c::r)with
  |none=>rw[hq]at h;obtain⟨t,ht,_⟩:=h;cases ht
  |some z=>
   obtain⟨n,o⟩:=z
   rw[hq]at h
   cases o with
   |none=>
    simp only at h
    simp only[znp f _ _ _ h,qP,Option.toList_none,qo]
   |some t=>
    simp only at h
    have h2: ∃x∈lxC f ((c::r).drop n) (((c::r).take n).foldl mv p),x.k=5:=by
     obtain⟨x,hx,h5⟩:=h
     rcases uV.1 hx with rfl|hx
     ·exact absurd h5 (zwU hq)
     ·exact⟨x,hx,h5⟩
    simp only[znp f _ _ _ h2,qh,qR,tL,oq]
def zv5(s:Str)(p:xo->Bool):Bool:=decide (s.size<=65536)&&match zpU (lxC ((lst s).length+1) (lst s) (1,1)) (10*(lxC ((lst s).length+1) (lst s) (1,1)).length+13)with
 |some (x,t::_)=>decide (t.k=5)&&(yX x&&p x)
 |_=>false
theorem zgU{s:Str}{p:xo->Bool}(h:zv5 s p=true):(zO s).2.2=0/\yX (zO s).1=true/\p (zO s).1=true:=by
 unfold zv5 at h
 rw[uu]at h
 obtain⟨hz,h⟩:=h
 cases hx:zpU (lxC ((lst s).length+1) (lst s) (1,1)) (10*(lxC ((lst s).length+1) (lst s) (1,1)).length+13)with
 |none=>rw[hx]at h;cases h
 |some z=>
  obtain⟨x,r⟩:=z
  rw[hx]at h
  cases r with
  |nil=>cases h
  |cons t r=>
   simp only[uu,ux]at h
   obtain⟨j,h1,h2⟩:=zpX _ hx
   have ht:(lxC ((lst s).length+1) (lst s) (1,1))[j]?=some t:=by
    have:((lxC ((lst s).length+1) (lst s) (1,1)).drop j)[0]?=some t:=by rw[<-h1];rfl
    rwa [uD,uN]at this
   have hT:yi s=(lxC ((lst s).length+1) (lst s) (1,1),(0,0),0):=by
    unfold yi
    rw[ur (by have:=uo hz;omega)]
    exact znp _ _ _ [] ⟨t,List.mem_of_getElem? ht,h.1⟩
   generalize lxC ((lst s).length+1) (lst s) (1,1)=l at*
   unfold zO topD
   rw[hT]
   simp only[qx]
   rw[h2]
   simp only[ht,h.1,qx,h.2.1]
   exact⟨uh,trivial,h.2.2⟩
end Hw.Fr.Ps
namespace Hw.Fr
open Go Go.Proofs Go.Shelf Hw.M Md
structure StT where
 kind:Int
 time:Int
 o:OpT
def zeh(s:StT):List PV:=[ki s.kind,ki s.time]++opR s.o
def zpY(s:StT):Bool:=decide (70<(s.o.args.length:Int))
theorem zsF(s:StT):zk Tryz.prog 38 [zm (zeh s)] [] (.bq (zpY s)) []:=by
 refine gO T Tryz.func38 λC hC=>?_
 repeat' first|refine gG ?_|refine gB ?_ ?_<;>intro h|refine gQ ?_|refine gL ?_
 all_goals (try simp only[uj]at*)
 all_goals first
  |rfl
  |(simp;done)
  |(simp_all;done)
  |(simp_all;omega)
  |(intros;simp_all<;>omega)
theorem zpZ(f:FuncId)(l:List StT)(p:StT->Unit->Bool)(nx:StT->Unit->Unit)(inv:Unit->Prop)
 (hf: ∀x∈l,∀s:Unit,inv s->zk Tryz.prog f [zm (zeh x)] [] (.bq (p x s)) ((λs:Unit=>[]) (nx x s))/\(p x s=false->inv (nx x s))) (s:Unit) (hs:inv s):
 zk Tryz.prog 70 [pS (.sl 4 (l.map zeh)),.one (.cl f [] [])] [] (I (idxR p nx l 0 s).1) ((λs:Unit=>[]) (idxR p nx l 0 s).2):=by
 refine gO T Tryz.func70 λC hC=>?_
 have hs0:=hs
 refine jq 0 rfl λhl=>?_
 rw[uj]at hl
 repeat' first|refine gG ?_|refine gB ?_ ?_<;>intro h
 rw[uj]
 refine zn (λq:Nat×Unit=>q.1<=l.length/\inv q.2/\idxR p nx (l.drop q.1) q.1 q.2=idxR p nx l 0 s) (λq=>(λs:Unit=>([(0,pS (.sl 4 (l.map zeh))),(1,.one (.cl f [] [])),(7,I l.length),(8,I q.1)],[])) q.2) (λq=>l.length - q.1) hC
  (0,s) ⟨uA _,hs,rfl⟩ id gM ?_
 generalize idxR p nx l 0 s=res
 clear hs hs0
 rintro⟨i,s⟩ ⟨hi,hv,hn⟩
 simp only at hi hv hn
 refine zr T hC true 200 rfl ?_
 refine zu rfl ?_ ?_<;>intro hh
 ·have hlt:i<l.length:=by simpa using hh
  clear hh
  obtain⟨x,hx⟩:=ze hlt
  rw[drop_at hx]at hn
  simp only[idxR]at hn
  have hv2:=(hf x (List.mem_of_getElem? hx) s hv).2
  repeat' first|refine gG ?_|refine gB ?_ ?_<;>intro h|refine gI T (zg hx) ?_|refine zy hC (hf x (List.mem_of_getElem? hx) s hv).1 id rfl rfl (yr.refl _) rfl rfl rfl rfl rfl rfl rfl rfl ?_|refine zx ?_
  ·rw[uv uf]at hn
   subst hn
   exact gF
  ·have hpf:p x s=false:=by assumption
   rw[hpf]at hn
   simp only[uU,tO]at hn
   rw[wrap64 ua]
   exact zf (i+1,nx x s) ⟨by simp only;omega,hv2 hpf,hn⟩ id (by simp only;omega) gM
 ·have hge: ¬i<l.length:=by simpa using hh
  rw[tf ua]at hn
  simp only[idxR]at hn
  subst hn
  repeat' first|refine gG ?_|refine gB ?_ ?_<;>intro h|refine zj ?_
  exact gF
theorem zp0(f:FuncId)(l:List StT)(p:StT->Unit->Bool)(nx:StT->Unit->Unit)(inv:Unit->Prop)
 (hf: ∀x∈l,∀s:Unit,inv s->zk Tryz.prog f [zm (zeh x)] [] (.bq (p x s)) ((λs:Unit=>[]) (nx x s))/\(p x s=false->inv (nx x s))) (s:Unit) (hs:inv s):
 zk Tryz.prog 37 [pS (.sl 4 (l.map zeh)),.one (.cl f [] [])] [] (.bq (anyR p nx l s).1) ((λs:Unit=>[]) (anyR p nx l s).2):=by
 refine gO T Tryz.func37 λC hC=>?_
 repeat' first|refine gG ?_|refine gB ?_ ?_<;>intro h|refine gR (zpZ f l p nx inv hf s hs) (nm []) ?_
 exact zt ⟨.inl rfl,id,_,rfl,.qq (zaR p nx l 0 s),by rw[<-zaS p nx l 0 s];exact uh,rfl,rfl⟩
theorem znq{α:Type}(p:α->Bool): ∀l:List α,(anyR (λ(x:α) (_:Unit)=>p x) (λ_ s=>s) l ()).1=l.any p
 | []=>rfl
 |x::l=>by
  simp only[anyR,qU]
  cases p x with
  |true=>rfl
  |false=>simp[znq p l]
theorem zp1(f:FuncId)(l:List StT)(p:StT->Bool)(hf: ∀x∈l,zk Tryz.prog f [zm (zeh x)] [] (.bq (p x)) []):zk Tryz.prog 37 [pS (.sl 4 (l.map zeh)),.one (.cl f [] [])] [] (.bq (l.any p)) []:=by
 have:=zp0 f l (λx _=>p x) (λ_ s=>s) (λ_=>True) (λx hx s _=>⟨hf x hx,λ_=>trivial⟩) () trivial
 rw[znq]at this
 exact this
def zop(l:List StT):Bool:=decide ((l.length:Int)<=25)&& !l.any zpY
theorem zlE(l:List StT):zk Tryz.prog 11 [pS (.sl 4 (l.map zeh))] [] (.bq (zop l)) []:=by
 have hX:=zp1 38 l zpY λo _=>zsF o
 unfold zop
 generalize l.any zpY=q at hX⊢
 refine gO T Tryz.func11 λC hC=>?_
 repeat' first|refine gG ?_|refine gB ?_ ?_<;>intro h|refine gC hX ?_|refine gQ ?_|refine gL ?_
 all_goals (clear hX;try simp only[uj]at*)
 all_goals first
  |rfl
  |(simp;done)
  |(simp_all;done)
  |(simp_all;omega)
  |(intros;simp_all<;>omega)
theorem ziq{l:List StT}(h:zop l=true):l.length<=25:=by
 unfold zop at h
 rw[uu]at h
 have:=uo h.1
 omega
def rkL:List (Str×Int):=[((⟨#[108,105,115,116]⟩:UW),1),((⟨#[98,115,116]⟩:UW),1),((⟨#[115,112,108,97,121]⟩:UW),1),((⟨#[116,114,101,97,112]⟩:UW),1),((⟨#[119,101,105,103,104,116,98,97,108,97,110,99,101,100]⟩:UW),1),((⟨#[115,107,101,119,104,101,97,112]⟩:UW),2),((⟨#[108,101,102,116,105,115,116]⟩:UW),2),((⟨#[112,97,105,114,105,110,103]⟩:UW),2),((⟨#[117,110,105,111,110,102,105,110,100]⟩:UW),4),((⟨#[114,111,112,101]⟩:UW),3),((⟨#[103,97,112]⟩:UW),3)]
def rkF(s:Str):Int:=bif decide (s=(⟨#[108,105,115,116]⟩:UW))then 1 else bif decide (s=(⟨#[98,115,116]⟩:UW))then 1 else bif decide (s=(⟨#[115,112,108,97,121]⟩:UW))then 1 else bif decide (s=(⟨#[116,114,101,97,112]⟩:UW))then 1 else bif decide (s=(⟨#[119,101,105,103,104,116,98,97,108,97,110,99,101,100]⟩:UW))then 1 else bif decide (s=(⟨#[115,107,101,119,104,101,97,112]⟩:UW))then 2 else bif decide (s=(⟨#[108,101,102,116,105,115,116]⟩:UW))then 2 else bif decide (s=(⟨#[112,97,105,114,105,110,103]⟩:UW))then 2 else bif decide (s=(⟨#[117,110,105,111,110,102,105,110,100]⟩:UW))then 4 else bif decide (s=(⟨#[114,111,112,101]⟩:UW))then 3 else bif decide (s=(⟨#[103,97,112]⟩:UW))then 3 else 0
theorem wL(s:Str):zk Tryz.prog 13 [Sr s] [] (I (rkF s)) []:=by
 unfold rkF
 refine gO T Tryz.func13 λC hC=>?_
 repeat' first|refine gG ?_|(exfalso;rename_i h2;exact absurd (h.symm.trans h2) ub)|refine gB ?_ ?_<;>intro h
 all_goals
  simp only[*,cond_true,cond_false]
  exact gF
theorem znr:ztf.map (λx=>(x.1,x.2.2))=rkL:=by kernel_rfl
theorem zns(s:Str):(rkL.find? λp=>decide (p.1=s)).map (·.2)=if rkF s=0 then none else some (rkF s):=by
 have hs: ∀a:Str,decide (a=s)=decide (s=a):=λa=>ob.2 eq_comm
 unfold rkL rkF
 simp only[List.find?,hs]
 repeat' first|rfl|(generalize decide (s=_)=b;cases b<;>simp only[cond_true,cond_false])
theorem zgM(s:Str):(zcp s).map (·.2.2)=if rkF s=0 then none else some (rkF s):=by
 rw[<-zns s,<-znr]
 unfold zcp
 rw[List.find?_map,Option.map_map]
 rfl
def zbM(k c:Int):Str:=if nameS k c=(⟨#[109,105,110]⟩:UW)then(⟨#[109,105,110,95,107,101,121]⟩:UW)else nameS k c
noncomputable def zuF(s:Str)(d:xo):Bool:=(Ps.zaL d (zbM (rkF s) 1)).isSome
noncomputable def okT(s:Str):Bool:=Ps.zv5 ((zcp s).getD noS).2.1 (zuF s)
theorem zp2:okT (⟨#[108,105,115,116]⟩:UW)=true:=by kernel_rfl
theorem zsG:okT (⟨#[98,115,116]⟩:UW)=true:=by kernel_rfl
theorem znt:okT (⟨#[115,112,108,97,121]⟩:UW)=true:=by kernel_rfl
theorem znu:okT (⟨#[116,114,101,97,112]⟩:UW)=true:=by kernel_rfl
theorem za2:okT (⟨#[119,101,105,103,104,116,98,97,108,97,110,99,101,100]⟩:UW)=true:=by kernel_rfl
theorem zgg:okT (⟨#[115,107,101,119,104,101,97,112]⟩:UW)=true:=by kernel_rfl
theorem zhX:okT (⟨#[108,101,102,116,105,115,116]⟩:UW)=true:=by kernel_rfl
theorem zhY:okT (⟨#[112,97,105,114,105,110,103]⟩:UW)=true:=by kernel_rfl
theorem zeN:okT (⟨#[117,110,105,111,110,102,105,110,100]⟩:UW)=true:=by kernel_rfl
theorem zp3:okT (⟨#[114,111,112,101]⟩:UW)=true:=by kernel_rfl
theorem zsH:okT (⟨#[103,97,112]⟩:UW)=true:=by kernel_rfl
theorem zlH{s:Str}(h:rkF s≠0):okT s=true:=by
 have h1:=zns s
 rw[ur h,uH]at h1
 obtain⟨p,hp,_⟩:=h1
 have hm:=qI hp
 have h2:=q7 hp
 have he:p.1=s:=uo h2
 have ha:(rkL.all λp=>okT p.1)=true:=by
  unfold rkL
  simp only[qT,List.all_nil,zp2,zsG,znt,znu,za2,zgg,zhX,zhY,zeN,zp3,zsH,UN]
 have:=List.all_eq_true.1 ha p hm
 rwa [he]at this
theorem znv{s:Str}{x:Str×Str×Int}(h:zcp s=some x):(Ps.zO x.2.1).2.2=0/\Ps.yX (Ps.zO x.2.1).1=true:=by
 have h0:rkF s≠0:=λe=>by
  have:=zgM s
  rw[h,uv e]at this
  cases this
 have h1:=Ps.zgU (zlH h0)
 rw[h]at h1
 exact⟨h1.1,h1.2.1⟩
end Hw.Fr
namespace Hw
open Go
variable {P:Program}{af:Array Edge}{d:Option Nat}{el t:TypeId}{g:Option (Nat×Bool)}{j:Int}{ps:String}{x:Operand}
section
variable {ty:TypeId} {z:Operand}
theorem zsI{id id' e:Nat}{rows:List (List PV)}{k':IntKind}(hx:okc x (.one (.ar id)))(hz:okc z (Kk k' j))(he:elemSz P t=some (el,e))(h0:0<=j)(h2:j<=rows.length):
 Snd P ⟨d,.slice t x none (some z) none,ty,ps,af,g⟩ (rq x (.one (.ar id))++rq z (Kk k' j)) [(id,.arr e rows)] [id'] (.one (.ar id')) [(id',some (.arr e (rows.take j.toNat))),(id,none)]:=by
 intro C st M ρ a w hH h1 hT hF hd k Q hk
 rw[zd]at h1
 have e1:=hH.evS (zI hx h1.1)
 have e3:=hH.k (zI hz h1.2)
 simp only[RepS,RepV]at e1
 obtain⟨b,cap,f1,f2,f3,f5⟩:=hH.yh.res id _ hT.1
 obtain⟨hu,hsz⟩:=zcj he
 have hrun:(execOp a.eval ⟨d,.slice t x none (some z) none,ty,ps,af,g⟩).run P w= .ok (.value (sliced b 0 j.toNat cap e)) w:=by
  simp only[execOp,e1.1,f1,e3,qP,qh,Sem.run_bind,run_sliceAt_slice w t _ _ _ _ hu,run_slice_h w t b rows.length cap hu k' j h0 ua,hsz,Result.andThen_ok,Sem.run_pure]
 have hl:(rows.take j.toNat).length=j.toNat:=by rw[uz];omega
 have hS: ∃b' cap',sliced b 0 j.toNat cap e= .slice b' j.toNat cap'/\j.toNat<=cap'/\cap'<=9223372036854775807/\((b'=none/\cap'=0)\/(b'=b/\cap'=cap)):=by
  by_cases hc:cap=0
  ·subst hc
   rcases f5 with⟨rfl,_⟩|⟨b1,o1,cs,el1,fz,rfl,_⟩
   ·exact⟨none,0,by simp[sliced],ua,ub,.inl ⟨rfl,rfl⟩⟩
   ·exact⟨_,0,by simp only[sliced,uv];congr 1,ua,ub,.inr ⟨rfl,rfl⟩⟩
  ·rcases f5 with⟨rfl,hc'⟩|⟨b1,o1,cs,el1,fz,rfl,_⟩
   ·exact absurd hc' hc
   ·exact⟨some ⟨b1,o1,none⟩,cap,by simp[sliced,ur hc,Addr.add],ua,f3,.inr ⟨rfl,rfl⟩⟩
 obtain⟨b',cap',hs1,hs2,hs3,hs4⟩:=hS
 unfold Oper.wp
 simp only[Sem.run_bind,hrun,Result.andThen_ok,Sem.run_pure,Oper.upon_value]
 refine hk _ _ _ _ (hH.step (some id) (λ_ _ _=>rfl) (uG _) rfl rfl rfl (λb1 hb1=> .inr ⟨id,_,rfl,hT.1,?_⟩) hF.1 ?_ (by simp only[RepS,RepV];exact⟨(zw _ _ _).symm,by rw[hs1];rfl⟩) hd)
 ·rw[hs1]at hb1
  rcases hs4 with⟨rfl,_⟩|⟨rfl,rfl⟩
  ·simp[Bk,blk]at hb1
  ·rw[f1];simp only[Bk,blk]at hb1 ⊢; cases b'<;>first|(simp at hb1;done)|simpa using hb1
 ·refine⟨b',cap',by rw[zw,hs1,hl],by rw[hl];exact hs2,hs3,?_⟩
  rcases hs4 with⟨rfl,rfl⟩|⟨rfl,rfl⟩
  ·exact .inl ⟨rfl,rfl⟩
  ·rcases f5 with h|⟨b1,o1,cs,el1,fz,rfl,f6,f7,f8,f9⟩
   ·exact .inl h
   ·exact .inr ⟨b1,o1,cs,el1,fz,rfl,f6,f7,f8,f9.take _⟩
end
variable {C:Ctx}{Q:Exit->St->Prop}{g0:Option (Nat×Bool)}{gs:zl}{md:Mode}{rest:List Oper}{tab:Tab}
section
variable {k:List Frm} {n:Nat} {sl:zl} {all:Array Oper}
theorem zsJ(T:Ty P){d:Nat}{z:Operand}{ty:TypeId}(id':Nat)(hC:C.low){id e:Nat}{rows rows':List (List PV)}{k1:IntKind}
 (hx:ev sl x=some (.one (.ar id))) (hz:ev sl z=some (Kk k1 j)) (hT:tg tab id=some (.arr e rows)) (he:T.es t=some (el,e)) (h0:0<=j) (h2:j<=rows.length) (hr:rows.take j.toNat=rows')
 (hf:allB (λi=>Nat.ble 100 i&&freshB i ⟨n,sl,tab⟩) [id']=true) (hm:metL all sl g0=some gs) (hd:Nat.blt d n=true)
 (g:Goal P C (.ops all rest (nx md ⟨some d,gs++(rq x (.one (.ar id))++rq z (Kk k1 j)),[(id,.arr e rows)],[id'],.one (.ar id'),[(id',some (.arr e rows')),(id,none)]⟩)) k n ((d,.one (.ar id'))::sl) ((id',some (.arr e rows'))::(id,none)::tab) Q):
 Goal P C (.ops all (⟨some d,.slice t x none (some z) none,ty,ps,af,g0⟩::rest) md) k n sl tab Q:=by
 subst hr
 have e1:=zQ (st:=⟨n,sl,tab⟩) hx
 have e3:=zQ (st:=⟨n,sl,tab⟩) hz
 have:=zp hm (zsI (P:=P) (ty:=ty) (ps:=ps) (af:=af) (g:=g0) (d:=some d) (id':=id') (rows:=rows) e1.1 e3.1 (T.es_ok _ _ he) h0 h2) (n:=n) (tab:=tab)
 exact yk (L:=⟨some d,gs++(rq x (.one (.ar id))++rq z (Kk k1 j)),[(id,.arr e rows)],[id'],.one (.ar id'),[(id',some (.arr e (rows.take j.toNat))),(id,none)]⟩) hC this.1 rfl ⟨by rw[zd,zd];exact⟨this.2,e1.2,e3.2⟩,⟨hT,uh⟩,hf,hd⟩ g
theorem zcs{cur:Cur}(hc:lst cur=true)(t:Nat){s s':S}(ht:sg sl t=some s)(e:LeS s s')(g:Goal P C cur k n ((t,s')::sl) tab Q):Goal P C cur k n sl tab Q:=
 zdF (sl':=(t,s')::sl) (tab':=tab) hc (λ{M ρ a w} h=>⟨M,ρ,h.zp4 rfl rfl λj u hj=>by
  rw[yV]at hj
  split at hj
  ·rename_i e';subst e';simp only[um]at hj;subst hj;exact e _ _ _ (h.slots _ _ ht)
  ·exact h.slots _ _ hj⟩) g
end
variable {row:List PV}{rows2:List (List PV)}{rt2:RL}{sy:S}{z:List V}
section
variable {ty:TypeId} {y:Operand}
theorem znw{id' e bytes:Nat}{tx:TypeId}(hx:okc x (.one (.p (.k (.slice none 0 0)))))(hy:okc y sy)(hs:zae P e tx sy rt2 rows2)
 (he:elemSz P t=some (el,e)) (hz:zeroV P el=some z) (hzl:z.length=e) (hby:(P.info? el).map (·.bytes)=some bytes) (hb:rows2.length*bytes<=140737488355328) (hlen:rows2.length<=9223372036854775807):
 Snd P ⟨d,.call ⟨.builtin .append,#[x,y],#[t,tx]⟩,ty,ps,af,g⟩ (rq x (.one (.p (.k (.slice none 0 0))))++rq y sy) rt2 [id'] (.one (.ar id')) [(id',some (.arr e rows2))]:=by
 intro C st M ρ a w hH h1 hT hF hd k Q hk
 rw[zd]at h1
 have e1:=hH.evS (zI hx h1.1)
 have e2:=hH.evS (zI hy h1.2)
 simp only[RepS,RepV,RepPV]at e1
 obtain⟨ii,hu,hinf,hsz⟩:=zB he
 obtain⟨news,hsrc,hnews,hlen2⟩:=hs C st M ρ a w _ hH e2 hT
 obtain⟨i',zv,hi',hzv,hzs⟩:=wm hz
 rw[hinf]at hi';simp only[um]at hi';subst hi'
 rw[hinf]at hby;simp only[qh,um]at hby
 have hnl:news.length=rows2.length*e:=hsrc.newsLen
 have hcall:execOp a.eval ⟨d,.call ⟨.builtin .append,#[x,y],#[t,tx]⟩,ty,ps,af,g⟩=(do pure (.value (<-Builtin.append_ #[t,tx] ty #[a.eval x,a.eval y]))):=by
  simp[execOp,resolve,invoke,builtin]
 have fin: ∀ {val:Value} {w':World},(Builtin.append_ #[t,tx] ty #[a.eval x,a.eval y]).run P w= .ok val w'->
  (∀b',b'<w.heap.size->w'.heap[b']?=w.heap[b']?)->w.heap.size<=w'.heap.size->w'.os=w.os->w'.tape=w.tape->w'.output=w.output->
  (∀b',Bk val b'->w.heap.size<=b')->zH M (upd ρ id' val) w' id' (.arr e rows2)->val.oneCell'=true->
  Oper.wp P ⟨d,.call ⟨.builtin .append,#[x,y],#[t,tx]⟩,ty,ps,af,g⟩ a w k Q:=λ{val w'} hrun g1 g2 g3 g4 g5 g6 g7 g8=>by
  unfold Oper.wp
  rw[hcall]
  simp only[Sem.run_bind,hrun,Result.andThen_ok,Sem.run_pure,Oper.upon_value]
  exact hk _ _ _ _ (hH.step none (λb' hb' _=>g1 b' hb') g2 g3 g4 g5 (λb' hb'=> .inl (g6 b' hb')) hF.1 g7 (by simp only[RepS,RepV];exact⟨(zw _ _ _).symm,g8⟩) hd)
 have hex:a.eval x= .slice none 0 0:=e1.1
 rcases qA rows2.length with h0|h0
 ·have e3:rows2=[]:=uS.1 h0
  subst e3
  have hn0:news=[]:=qK (by simpa using hnl)
  subst hn0
  have hrun:(Builtin.append_ #[t,tx] ty #[a.eval x,a.eval y]).run P w= .ok (.slice none 0 0) w:=by
   rw[hex]
   have hl:(Builtin.lenOf (a.eval y)).run P w= .ok 0 w:=hsrc.len w
   have hc:(Builtin.firstCells e 0 (a.eval y)).run P w= .ok #[] w:=hsrc.cells
   rcases hsrc.kind with⟨e',hk'⟩|hk'<;>simp[Builtin.append_,run_underlying hu,run_underlying hk',Go.sizeOf,typeInfo,hinf,hl,hsz,hc]
  exact fin hrun (λ_ _=>rfl) (uG _) rfl rfl rfl (λb' hb'=>by simp[Bk,blk]at hb') ⟨none,0,by rw[zw];rfl,ue,ue,.inl ⟨rfl,rfl⟩⟩ rfl
 ·have hrun:=run_append_grow_src (P:=P) w t tx ty el ii zv hu hinf hzv none 0 0 [] (run_firstCells_none w.drew _ _ _ _) (a.eval y) rows2.length news (by rw[hsz];exact hsrc) ua ua (growslice_fits ua (by rw[hby,tI];exact hb))
  rw[<-hex,tI]at hrun
  have hcap:=grownCap_ge w rows2.length 0 el
  refine fin hrun (λb' hb'=>z7 w.drew _ b' hb') ue rfl rfl rfl (λb' hb'=>?_) ⟨some ⟨w.heap.size,0,none⟩,grownCap w rows2.length 0 el,by rw[zw],hcap,(by have:=grownCap_le_maxLen w rows2.length 0 el (by unfold maxLen;omega);unfold maxLen at this;omega),.inr
   ⟨w.heap.size,0,_,el,(0,0),rfl,zP w.drew _,λi _=>by simp,?_,?_⟩⟩ rfl
  ·simp only[Bk,blk,um]at hb';omega
  ·simp only[qE,uW,oh,size_zeroCells,hzs,hzl,hnl,tI]
   rw[<-qk]
   apply qF;omega
  ·refine RowsIn.yx (ρ:=ρ) (cs:=news) hlen2 hnews λj c hj=>?_
   have hjl:j<news.length:=(ui.1 hj).1
   rw[tI,tN (by simpa using hjl)]
   simpa using hj
theorem zeO(hx:okc x (.one (.p (.pr row)))):Snd P ⟨d,.nilCheck x,ty,ps,af,g⟩ (rq x (.one (.p (.pr row)))) [] [] (.one (.pi row 0)) []:=
 zo λC st M ρ a w hH h1 _=>by
  have e:=hH.evS (zI hx h1)
  simp only[RepS,RepV,RepPV]at e
  obtain⟨b,o,e1,e2⟩:=e
  exact⟨a.eval x,by simp[execOp,e1],by simp only[RepS,RepV];exact⟨b,o,e1,e2⟩⟩
end
section
variable {k:List Frm} {n:Nat} {sl:zl} {all:Array Oper}
theorem znx(T:Ty P)(id':Nat){d:Nat}{y:Operand}{tx ty:TypeId}(hC:C.low){e bytes:Nat}
 (hx:ev sl x=some (.one (.p (.k (.slice none 0 0))))) (hy:ev sl y=some sy) (hT2:rdT tab rt2=rt2) (hs:zae P e tx sy rt2 rows2) (he:T.es t=some (el,e)) (hz:T.zs el=some z) (hzl:Nat.beq z.length e=true) (hby:(P.info? el).map (·.bytes)=some bytes)
 (hb:rows2.length*bytes<=140737488355328) (hlen:rows2.length<=9223372036854775807) (hm:metL all sl g0=some gs) (hd:Nat.blt d n=true) (hf:(Nat.ble 100 id'&&freshB id' ⟨n,sl,tab⟩)=true)
 (g:Goal P C (.ops all rest (nx md ⟨some d,gs++(rq x (.one (.p (.k (.slice none 0 0))))++rq y sy),rt2,[id'],.one (.ar id'),[(id',some (.arr e rows2))]⟩)) k n ((d,.one (.ar id'))::sl) ([(id',some (.arr e rows2))]++tab) Q):
 Goal P C (.ops all (⟨some d,.call ⟨.builtin .append,#[x,y],#[t,tx]⟩,ty,ps,af,g0⟩::rest) md) k n sl tab Q:=by
 have e1:=zQ (st:=⟨n,sl,tab⟩) hx
 have e2:=zQ (st:=⟨n,sl,tab⟩) hy
 have:=zp hm (znw (P:=P) (ty:=ty) (ps:=ps) (af:=af) (g:=g0) (d:=some d) (id':=id') e1.1 e2.1 hs (T.es_ok _ _ he) (T.zs_ok _ _ hz) (u0 hzl) hby hb hlen) (n:=n) (tab:=tab)
 exact yk (L:=⟨some d,gs++(rq x (.one (.p (.k (.slice none 0 0))))++rq y sy),rt2,[id'],.one (.ar id'),[(id',some (.arr e rows2))]⟩) hC this.1 rfl
  ⟨by rw[zd,zd];exact⟨this.2,e1.2,e2.2⟩,zcT hT2,zcf hf,hd⟩ g
theorem zuG{d:Nat}{ty:TypeId}(hC:C.low)(hx:ev sl x=some (.one (.p (.pr row))))(hm:metL all sl g0=some gs)(hd:Nat.blt d n=true)
 (g:Goal P C (.ops all rest (nx md ⟨some d,gs++rq x (.one (.p (.pr row))),[],[],.one (.pi row 0),[]⟩)) k n ((d,.one (.pi row 0))::sl) tab Q):
 Goal P C (.ops all (⟨some d,.nilCheck x,ty,ps,af,g0⟩::rest) md) k n sl tab Q:=by
 have e1:=zQ (st:=⟨n,sl,tab⟩) hx
 have:=zp hm (zeO (P:=P) (ty:=ty) (ps:=ps) (af:=af) (g:=g0) (d:=some d) e1.1) (n:=n) (tab:=tab)
 exact yk (L:=⟨some d,gs++rq x (.one (.p (.pr row))),[],[],.one (.pi row 0),[]⟩) hC this.1 rfl ⟨by rw[zd];exact⟨this.2,e1.2⟩,trivial,rfl,hd⟩ g
end
end Hw
namespace Hw.Fr
open Go Go.Proofs Go.Shelf Hw.M Md
theorem zgh: ∀(l:List Int) (a:Str),(∀n∈l, -1048576<=n/\n<=1048576)->(accT l a).size<=a.size+22*l.length
 | [],a,_=>by simp[accT]
 |n::r,a,h=>by
  have h1:=zgh r (a++((⟨#[32]⟩:UW)++Ps.zaB n)) λx hx=>h x (td _ hx)
  have h2:=zdM (h n (tQ ..))
  simp only[accT,uI]
  refine qn h1 ?_
  rw[jL]
  omega
noncomputable def zbL(k:Int)(o:OpT):Str:=if zou (zhV k o)=(⟨#[109,105,110]⟩:UW)then(⟨#[109,105,110,95,107,101,121]⟩:UW)else zou (zhV k o)
noncomputable def ze9(s:Str)(o:OpT):Int:=match zcp s with
 |none=>9
 |some x=>if okOp x.2.2 o=true then(if(Ps.zO x.2.1).2.2=0 then(if Ps.yX (Ps.zO x.2.1).1=true/\(Ps.zaL (Ps.zO x.2.1).1 (zbL x.2.2 o)).isSome=true then 0 else 12)else(Ps.zO x.2.1).2.2)else 1
theorem zi(s:Str)(o:OpT): ∃a b:PV,zk Tryz.prog 76 [Sr s,zm (opR o)] [] (.tup [zm [a,b],I (ze9 s o)]) []:=by
 have hF:=zji s
 unfold ze9
 cases hx:zcp s with
 |none=>
  rw[hx]at hF
  simp only[Option.getD_none,Ui,uU,tO]at hF
  refine⟨ks (⟨#[]⟩:UW),.sl 1 [],?_⟩
  refine gO T Tryz.func76 λC hC=>?_
  repeat' first|refine gG ?_|exact gD|refine gB ?_ ?_<;>intro h|refine gC hF ?_
  exact zt ⟨.inl rfl,id,_,rfl,LeS.tup (.cons (LeS.agg (.cons (.refl _) (.cons (.nil 1) .nil))) (.cons (.refl _) .nil)),trivial,rfl,rfl⟩
 |some x=>
  rw[hx]at hF
  simp only[Option.getD_some,oe,qx]at hF
  obtain⟨_,hk,hs⟩:=zbc hx
  obtain⟨hd,hv⟩:=znv hx
  clear hx
  obtain⟨nm,tx,k⟩:=x
  simp only at hF hk hs hd hv⊢
  by_cases ho:okOp k o=true
  rotate_left
  ·rw[ur ho]
   rw[qf]at ho
   have hT:=zpS k o ho
   refine⟨ks (⟨#[]⟩:UW),.sl 1 [],?_⟩
   refine gO T Tryz.func76 λC hC=>?_
   repeat' first|refine gG ?_|exact gD|refine gB ?_ ?_<;>intro h|refine gC hF ?_|refine gC hT ?_
   exact zt ⟨.inl rfl,id,_,rfl,LeS.tup (.cons (LeS.agg (.cons (.refl _) (.cons (.nil 1) .nil))) (.cons (.refl _) .nil)),trivial,rfl,rfl⟩
  rw[uv ho,uv hd]
  have hT:=znj k o ho
  have hz:(zhV k o).size<=1000000:=by
   obtain⟨_,_,_,hl,hn⟩:=wJ ho
   have:=zgh o.args (nameS k o.code) hn
   have:=zgd k o.code
   unfold zhV;omega
  have hCu:=zdN (zhV k o) hz
  have hP:=Ps.zdm ua hd hv
  have hwp: ∀p∈(Ps.zO tx).1.procs,Ps.WP p:=Ps.zko hv
  have hw:(zou (zhV k o)=(⟨#[109,105,110]⟩:UW)/\zbL k o=(⟨#[109,105,110,95,107,101,121]⟩:UW))\/(¬zou (zhV k o)=(⟨#[109,105,110]⟩:UW)/\zbL k o=zou (zhV k o)):=by
   unfold zbL
   by_cases hm:zou (zhV k o)=(⟨#[109,105,110]⟩:UW)
   ·exact .inl ⟨hm,uv hm⟩
   ·exact .inr ⟨hm,ur hm⟩
  clear hd hs
  generalize zbL k o=wd at*
  generalize zou (zhV k o)=ca at*
  generalize (Ps.zO tx).1=d at*
  have hPr:=Ps.zpe wd hv hwp
  cases hf:Ps.zaL d wd with
  |none=>
   rw[hf]at hPr
   simp only[Option.getD_none,Ui,uU,tO,UA]at hPr⊢
   refine⟨ks (⟨#[]⟩:UW),.sl 1 [],?_⟩
   rcases hw with⟨hm,rfl⟩|⟨hm,rfl⟩
   all_goals
    refine gO T Tryz.func76 λC hC=>?_
    repeat' first|refine gG ?_|exact gD|(exfalso;first|exact absurd hm (uq h)|exact hm (uo h))|refine gB ?_ ?_<;>intro h|refine gC hF ?_|refine gC hT ?_|refine gC hCu ?_|refine gC hP ?_|refine gC hPr ?_
    all_goals exact zt ⟨.inl rfl,id,_,rfl,LeS.tup (.cons (LeS.agg (.cons (.refl _) (.cons (.nil 1) .nil))) (.cons (.refl _) .nil)),trivial,rfl,rfl⟩
  |some pr=>
   rw[hf]at hPr
   simp only[Option.getD_some,oe,qx,and_self,hv]at hPr⊢
   refine⟨ks wd,zA o.args,?_⟩
   have hal:(o.args.map zR).length=o.args.length:=uj _
   have hal2:=(wJ ho).2.2.2.1
   rcases hw with⟨hm,rfl⟩|⟨hm,rfl⟩
   all_goals
    refine gO T Tryz.func76 λC hC=>?_
    repeat' first|refine gG ?_|exact gD|(exfalso;first|exact absurd hm (uq h)|exact hm (uo h))|refine gB ?_ ?_<;>intro h|refine gC hF ?_|refine gC hT ?_|refine gC hCu ?_|refine gC hP ?_|refine gC hPr ?_|refine znx T 102 hC (rows2:=o.args.map zR) (bytes:=8) rfl rfl rfl (zae.sl (T.es_ok _ _ rfl)) rfl rfl rfl ud (by rw[hal];omega) (by rw[hal];omega) rfl rfl rfl ?_
    refine gZ 102 [] [(1004,[.p (ks _),.p (zA o.args)])] ?_
    exact gF
theorem zkE: ∀(a r:List UInt8),(∀b∈a,b≠32)->(r=[]\/ ∃q,r=32::q)->Lib.cut (a++r) [32]=(a,(Lib.cut (a++r) [32]).2):=by
 intro a r ha hr
 have key:(r=[]->Lib.index (a++r) [32]= -1)/\((∃q,r=32::q)->Lib.index (a++r) [32]=a.length):=by
  induction a with
  |nil=>
   refine⟨λh=>by subst h;rfl,λ⟨q,h⟩=>by subst h;simp[Lib.index]⟩
  |cons b a ih=>
   have hb:=ha b (tQ ..)
   obtain⟨h1,h2⟩:=ih λc hc=>ha c (td _ hc)
   have hp:([32]:List UInt8).isPrefixOf (b::(a++r))=false:=by
    simp only[List.isPrefixOf,qJ,beq_eq_false_iff_ne];exact λe=>hb e.symm
   refine⟨λh=>?_,λh=>?_⟩
   ·rw[ta,Lib.index,hp,h1 h];rfl
   ·rw[ta,Lib.index,hp,h2 h]
    have:((a.length:Int)== -1)=false:=by rw[beq_eq_false_iff_ne];omega
    simp only[this,uU,tO,uI]
    omega
 refine UI ?_ rfl
 unfold Lib.cut
 rcases hr with h|h
 ·rw[key.1 h,ur ub,h,qo]
 ·rw[key.2 h,uv ua,uF]
  simp
theorem zjk: ∀(l:List Int) (a:Str),∃r:List UInt8,(accT l a).data.toList=a.data.toList++r/\(r=[]\/ ∃q,r=32::q)
 | [],a=>⟨[],by simp[accT],.inl rfl⟩
 |n::l,a=>by
  obtain⟨r,h,_⟩:=zjk l (a++((⟨#[32]⟩:UW)++Ps.zaB n))
  refine⟨32::((Ps.zaB n).data.toList++r),?_,.inr ⟨_,rfl⟩⟩
  rw[accT,h]
  simp[oV]
def zuH(k:Int):Bool:=(yf k).all λw=>w.1.data.toList.all λb=>decide (b≠32)
variable {o:OpT}
theorem zny{k:Int}(ho:okOp k o=true):zou (zhV k o)=nameS k o.code:=by
 obtain⟨hk,_,⟨w,hw⟩,_,_⟩:=wJ ho
 have hb:zuH k=true:=by
  rcases(by omega:k=1\/k=2\/k=3\/k=4\/k=5\/k=6)with rfl|rfl|rfl|rfl|rfl|rfl<;>decide
 have hn:nameS k o.code=w.1:=by unfold nameS;rw[hw]
 have hw2: ∀b∈(nameS k o.code).data.toList,b≠32:=by
  rw[hn]
  have:=List.all_eq_true.1 hb w (List.mem_of_getElem? hw)
  exact λb hb=>uo (List.all_eq_true.1 this b hb)
 obtain⟨r,h1,h2⟩:=zjk o.args (nameS k o.code)
 have h3:=zkE _ r hw2 h2
 unfold zou zvx zhV
 rw[h1,show((⟨#[32]⟩:UW):Str).data.toList=[32] from rfl,h3]
theorem zij{k:Int}(ho:okOp k o=true):zbL k o=zbM k o.code:=by
 unfold zbL zbM
 rw[zny ho]
end Hw.Fr
namespace Hw
open Go
section
variable {P:Program}
theorem xU(w:World)(dT sT ty elem:TypeId)(k b o dLen dCap:Nat)(a:Addr)(sLen sCap:Nat)(cs:List Value)
 (hu:P.underlying dT=some (.slice elem)) (hs:(P.info? elem).map (·.size)=some k) (hn:cs.length=Nat.min sLen dLen*k)
 (hsrc: ∀j v,cs[j]?=some v->w.cell? (a.add j)=some v) (hc: ∀j,j<cs.length->(w.cell? ⟨b,o+j,none⟩).isSome=true) (hf: ∀j,j<cs.length->w.frozen? ⟨b,o+j,none⟩=false) (h1: ∀v∈cs,v.oneCell'=true):
 (Builtin.copy_ #[dT,sT] ty #[.slice (some ⟨b,o,none⟩) dLen dCap,.slice (some a) sLen sCap]).run P w= .ok (goInt (Nat.min sLen dLen)) (w.setCells b o cs):=by
 have hl:=run_loadCells_list (P:=P) w a cs hsrc
 have hst:=run_storeCells_cells (P:=P) b o cs 0 w (by simpa using hc) (by simpa using hf) h1
 cases hq:P.info? elem with
 |none=>simp[hq]at hs
 |some i=>
  have hi:i.size=k:=by simpa [hq]using hs
  simp[Builtin.copy_,run_underlying hu,Builtin.lenOf,Builtin.firstCells,Go.sizeOf,typeInfo,hq,hi,<-hn,hl,hst]
theorem zbP(w:World)(t e ty:TypeId)(z:Value)(ht:P.underlying t=some (.slice e))(hv: ∀w,(zeroValue e).run P w= .ok z w)(k:Nat)(hz:z.cells.size=k)(h1: ∀v∈z.cells.toList,v.oneCell'=true)(b o n c:Nat)(hn:0<n)
 (hc: ∀j,j<n*k->(w.cell? ⟨b,o+j,none⟩).isSome=true) (hf: ∀j,j<n*k->w.frozen? ⟨b,o+j,none⟩=false):
 (Builtin.clear_ #[t] ty #[.slice (some ⟨b,o,none⟩) n c]).run P w= .ok (.tuple #[]) (w.setCells b o (Builtin.zeroCells z.cells n).toList):=by
 have hl:(Builtin.zeroCells z.cells n).toList.length=n*k:=by simp[Builtin.zeroCells,hz]
 have hst:=run_storeCells_cells (P:=P) b o (Builtin.zeroCells z.cells n).toList 0 w (by simpa [hl]using hc) (by simpa [hl]using hf) (by
  intro v hv'
  simp only[Builtin.zeroCells]at hv'
  simp at hv'
  obtain⟨j,hj,rfl⟩:=hv'
  apply h1
  have hlt:j % z.cells.size<z.cells.size:=Nat.mod_lt _ (by rcases qA z.cells.size with e|e; ·rw[e]at hj;omega
                                                           ·exact e)
  simp[hlt])
 simp only[uN]at hst
 obtain⟨m,rfl⟩: ∃m,n=m+1:=⟨n - 1,ua⟩
 simp[Builtin.clear_,run_underlying ht,hv,hst]
end
end Hw
namespace Hw.Fr
open Go Go.Proofs Go.Shelf Go.RowKit Go.Lib Hw.M
theorem info_mo: ∃i0,Tryz.prog.info? 102=some i0/\i0.size=4/\(∃z,i0.zero=some z/\z.cells.size=4/\ ∀v∈z.cells.toList,v.oneCell'=true)/\i0.bytes=48:=by
 have h:(Tryz.prog.info? 102).map (λi=>(decide (i.size=4)&&decide (i.bytes=48)&&(match i.zero with|some z=>decide (z.cells.size=4)&&z.cells.toList.all (λv=>v.oneCell')|none=>false)))=some true:=by kernel_rfl
 obtain⟨i0,h1,h2⟩:=uH.1 h
 simp only[uu,ux]at h2
 refine⟨i0,h1,h2.1.1,?_,h2.1.2⟩
 have h3:=h2.2
 cases hz:i0.zero with
 |none=>rw[hz]at h3;cases h3
 |some z=>
  rw[hz]at h3
  simp only[uu,ux,List.all_eq_true]at h3
  exact⟨z,rfl,h3⟩
set_option maxHeartbeats 4000000 in
set_option maxRecDepth 100000 in
theorem zjl(a:Option Addr)(n c vb vc:Nat)(v':Value)(w w':World)(hnc:n<=c)(hc63:c<=9223372036854775807)
 (hrun: ∀ty,(Builtin.append_ #[84,84] ty #[.slice a n c,.slice (some ⟨vb,0,none⟩) 1 vc]).run Tryz.prog w= .ok v' w'):
 Calls Tryz.prog 51 #[.slice a n c,.int .i64 n,.slice (some ⟨vb,0,none⟩) 1 vc] w λe w2=>e= .returned v'/\w2=w':=by
 have t3:=Tryz.underlying3;have a3:=Tryz.isAgg3;have z3:=Tryz.sizeOf3;have v3:=Tryz.zeroValue3
 have t4:=Tryz.underlying4;have a4:=Tryz.isAgg4;have z4:=Tryz.sizeOf4;have v4:=Tryz.zeroValue4
 have t22:=Tryz.underlying84;have a22:=Tryz.isAgg84;have z22:=Tryz.sizeOf84;have v22:=Tryz.zeroValue84
 have u3:=run_underlying Tryz.underlying3;have u4:=run_underlying Tryz.underlying4;have u22:=run_underlying Tryz.underlying84
 have mixed:Tryz.prog.follows .mixedOrders=true:=by kernel_rfl
 go_enter Tryz.func51,Tryz.ntmps51
 cases a with
 |none=>
  go_wp2_with (at_builtin;refine Lib.wpList_append_run _ rfl _ _ _ _ rfl _ _ rfl rfl _ _ (hrun _) ?_)
  all_goals (go_ret;exact⟨rfl,rfl⟩)
 |some ad=>
  obtain⟨ab,ao,asp⟩:=ad
  go_wp2_with (at_builtin;refine Lib.wpList_append_run _ rfl _ _ _ _ rfl _ _ rfl rfl _ _ (hrun _) ?_)
  all_goals (go_ret;exact⟨rfl,rfl⟩)
set_option maxHeartbeats 4000000 in
set_option maxRecDepth 100000 in
theorem zkF(b off n c i vb vc:Nat)(xs vs:List Value)(w:World)(hi:i<n)(hroom:n+1<=c)(hc63:c<=9223372036854775807)(hvb:vb≠b)(hcl:xs.length=n*4)(hvl:vs.length=4)
 (hcs: ∀(j:Nat) u,xs[j]?=some u->w.cell? ⟨b,off+j,none⟩=some u) (hsp: ∀j,j<(n+1)*4->(w.cell? ⟨b,off+j,none⟩).isSome=true) (hfz: ∀j,j<(n+1)*4->w.frozen? ⟨b,off+j,none⟩=false)
 (hv: ∀(j:Nat) u,vs[j]?=some u->w.cell? ⟨vb,j,none⟩=some u) (h1c: ∀u∈xs,u.oneCell'=true) (h1v: ∀u∈vs,u.oneCell'=true)
 (tA tB:TypeId) (kA kB:Nat) (hsa:w.shape? vb=some (tA,kA)) (hsb:w.shape? b=some (tB,kB)) (hkB:kB≠0) (hfa:w.frozen? ⟨vb,0,none⟩=false) (hfe:w.frozen? ⟨vb,kA,none⟩=false):
 Calls Tryz.prog 51 #[.slice (some ⟨b,off,none⟩) n c,.int .i64 i,.slice (some ⟨vb,0,none⟩) 1 vc] w λe w'=>
  e= .returned (.slice (some ⟨b,off,none⟩) (n+1) c)/\w'=(w.drew.setCells b (off+(i+1)*4) (xs.drop (i*4))).setCells b (off+i*4) vs:=by
 have t3:=Tryz.underlying3;have a3:=Tryz.isAgg3;have z3:=Tryz.sizeOf3;have v3:=Tryz.zeroValue3
 have t4:=Tryz.underlying4;have a4:=Tryz.isAgg4;have z4:=Tryz.sizeOf4;have v4:=Tryz.zeroValue4
 have t22:=Tryz.underlying84;have a22:=Tryz.isAgg84;have z22:=Tryz.sizeOf84;have v22:=Tryz.zeroValue84
 have zE:=Tryz.sizeOf102
 have u3:=run_underlying Tryz.underlying3;have u4:=run_underlying Tryz.underlying4;have u22:=run_underlying Tryz.underlying84
 have mixed:Tryz.prog.follows .mixedOrders=true:=by kernel_rfl
 obtain⟨i0,hi0,hz1,_,_⟩:=info_mo
 have hsz:(Tryz.prog.info? 102).map (·.size)=some 4:=by rw[hi0,<-hz1];rfl
 have hn1: ¬((i:Int)=(n:Int)):=by omega
 have hov: ∀lb cb,(callFunc 79 #[.slice (some ⟨vb,0,none⟩) 1 vc,.slice (some ⟨b,off+(i+1)*4,none⟩) lb cb]).run Tryz.prog w= .ok (.value (.bool false)) w:=λlb cb=>by
  rw[run_callFunc_extern Tryz.func79 ud ud ud (e:=Extern.SlicesOverlaps.overlaps #[84,84] #[4]) ud,
   Lib.run_overlaps_apart w 84 4 102 Tryz.underlying84 4 Tryz.sizeOf102 ⟨vb,0,none⟩ ⟨b,off+(i+1)*4,none⟩ 1 vc lb cb hvb tA tB kA kB hsa hsb hkB hfa hfe]
  rfl
 have hdl:(xs.drop (i*4)).length=(n - i)*4:=by rw[uQ,hcl];omega
 have hb1:(0:Int)<=(i:Int)+1:=by omega
 have hin:i<=n:=by omega
 have htn:((i:Int)+1).toNat=i+1:=by omega
 have hwr:IntKind.i64.wrap ((i:Int)+1)=(i:Int)+1:=by rw[IntKind.wrap_i64];omega
 have hb2: ¬(c=i+1):=by omega
 have hb3:(i:Int)<=(n:Int)+1:=by omega
 have hb4: ¬(c=i):=by omega
 have hcp1: ∀ty dc sc,(Builtin.copy_ #[84,84] ty #[.slice (some ⟨b,off+(i+1)*4,none⟩) (n - i) dc,.slice (some ⟨b,off+i*4,none⟩) (n+1 - i) sc]).run Tryz.prog w.drew= .ok (goInt (n - i:Nat)) (w.drew.setCells b (off+(i+1)*4) (xs.drop (i*4))):=λty dc sc=>by
  have hm:Nat.min (n+1 - i) (n - i)=n - i:=by simp only[oD];split<;>omega
  have:=xU w.drew 84 84 ty 102 4 b (off+(i+1)*4) (n - i) dc ⟨b,off+i*4,none⟩ (n+1 - i) sc (xs.drop (i*4)) Tryz.underlying84 hsz (by rw[hdl,hm])
   (λj u hj=>by rw[Addr.add_lit,th];exact hcs (i*4+j) u (by rwa [uD]at hj))
   (λj hj=>by rw[th];exact hsp _ ua) (λj hj=>by rw[th];exact hfz _ ua) (λu hu=>h1c u (tE hu))
  rw[hm]at this
  exact this
 obtain⟨W1,hW1⟩: ∃W1,W1=w.drew.setCells b (off+(i+1)*4) (xs.drop (i*4)):=⟨_,rfl⟩
 have hsp1: ∀k,k<(n+1)*4->(W1.cell? ⟨b,off+k,none⟩).isSome=true:=λk hk=>by
  rw[hW1]
  exact isSome_setCells b _ _ _ (λj hj=>by rw[th];exact hsp _ ua) _ (hsp k hk)
 have hcp2: ∀(W:World),(∀x,W.cell? x=W1.cell? x)->(∀x,W.frozen? x=W1.frozen? x)-> ∀ty dc,(Builtin.copy_ #[84,84] ty #[.slice (some ⟨b,off+i*4,none⟩) (n+1 - i) dc,.slice (some ⟨vb,0,none⟩) 1 vc]).run Tryz.prog W= .ok (goInt (1:Nat)) (W.setCells b (off+i*4) vs):=λW hWc hWf ty dc=>by
  have hm:Nat.min 1 (n+1 - i)=1:=by simp only[oD];split<;>omega
  have:=xU W 84 84 ty 102 4 b (off+i*4) (n+1 - i) dc ⟨vb,0,none⟩ 1 vc vs Tryz.underlying84 hsz (by rw[hvl,hm])
   (λj u hj=>by
     rw[Addr.add_lit,tI,hWc,hW1,World.cell?_setCells_out b _ _ _ _ (λh _=>absurd h hvb)]
     exact hv j u hj)
   (λj hj=>by rw[hWc,th];exact hsp1 _ ua) (λj hj=>by rw[hWf,hW1,World.frozen?_setCells,th];exact hfz _ ua) h1v
  rw[hm]at this
  exact this
 rw[<-hW1]at hcp1
 go_enter Tryz.func51,Tryz.ntmps51
 go_wp2_with (simp only[hov])
 go_region_law_o (refine step_copy_runI rfl _ _ 84 84 rfl _ _ (by simp[Act.eval,Act.put]) (by simp[Act.eval,Act.put]) (hcp1 _ _ _) ?_)
 go_wp2_with (at_builtin;refine wpList_copy_runI _ rfl _ _ 84 84 rfl _ _ rfl rfl (hcp2 _ (λ_=>rfl) (λ_=>rfl) _ _) ?_)
 go_ret
 first|exact⟨rfl,rfl⟩|exact⟨rfl,by rw[hW1]⟩
set_option maxHeartbeats 4000000 in
set_option maxRecDepth 100000 in
theorem znz(b off n c i vb vc:Nat)(xs vs:List Value)(w:World)(hi:i<n)(hnc:n<=c)(hroom:c<n+1)(hbig:(n+1)*48<=140737488355328)(hcl:xs.length=n*4)(hvl:vs.length=4)
 (i0:TypeInfo) (z:Value) (hi0:Tryz.prog.info? 102=some i0) (hzs:i0.size=4) (hz0:i0.zero=some z) (hzc:z.cells.size=4) (hzb:i0.bytes=48)
 (hcs: ∀(j:Nat) u,xs[j]?=some u->w.cell? ⟨b,off+j,none⟩=some u) (hv: ∀(j:Nat) u,vs[j]?=some u->w.cell? ⟨vb,j,none⟩=some u) (h1c: ∀u∈xs,u.oneCell'=true) (h1v: ∀u∈vs,u.oneCell'=true):
 Calls Tryz.prog 51 #[.slice (some ⟨b,off,none⟩) n c,.int .i64 i,.slice (some ⟨vb,0,none⟩) 1 vc] w λe w'=>
  e= .returned (.slice (some ⟨w.heap.size,0,none⟩) (n+1) (grownCap w (n+1) c 102))/\
  w'=(((w.alloc (.cells ((xs.take (i*4)).toArray++Builtin.zeroCells z.cells (n+1 - i)++Builtin.zeroCells z.cells (grownCap w (n+1) c 102 - (n+1))) 102)).drew.setCells w.heap.size (i*4) vs).drew).setCells w.heap.size ((i+1)*4) (xs.drop (i*4)):=by
 have t3:=Tryz.underlying3;have a3:=Tryz.isAgg3;have z3:=Tryz.sizeOf3;have v3:=Tryz.zeroValue3
 have t4:=Tryz.underlying4;have a4:=Tryz.isAgg4;have z4:=Tryz.sizeOf4;have v4:=Tryz.zeroValue4
 have t22:=Tryz.underlying84;have a22:=Tryz.isAgg84;have z22:=Tryz.sizeOf84;have v22:=Tryz.zeroValue84
 have zE:=Tryz.sizeOf102
 have u3:=run_underlying Tryz.underlying3;have u4:=run_underlying Tryz.underlying4;have u22:=run_underlying Tryz.underlying84
 have mixed:Tryz.prog.follows .mixedOrders=true:=by kernel_rfl
 have hn1: ¬((i:Int)=(n:Int)):=by omega
 have hn2:(c:Int)<(n:Int)+1:=by omega
 have hsz:(Tryz.prog.info? 102).map (·.size)=some 4:=by rw[hi0,<-hzs];rfl
 have hbw:b<w.heap.size:=block_lt_of_cell (hcs 0 _ (uM ua))
 have hvw:vb<w.heap.size:=block_lt_of_cell (hv 0 _ (uM ua))
 have hkk:(n:Int)+1 - (i:Int)=((n+1 - i:Nat):Int):=by omega
 have hik:i+(n+1 - i)=n+1:=by omega
 have hold:(Builtin.firstCells i0.size i (.slice (some ⟨b,off,none⟩) i c)).run Tryz.prog w.drew= .ok (xs.take (i*4)).toArray w.drew:=by
  rw[hzs]
  exact run_firstCells_some w.drew 4 i ⟨b,off,none⟩ i c (xs.take (i*4)) (by rw[uz];omega) (λj u hj=>by
   rw[Addr.add_lit]
   rw[uZ]at hj
   split at hj
   ·exact hcs j u hj
   ·cases hj)
 have hrz: ∀ty,(Builtin.append_ #[84,3] ty #[.slice (some ⟨b,off,none⟩) i c,.int .i64 ((n:Int)+1 - (i:Int))]).run Tryz.prog w=
  .ok (.slice (some ⟨w.heap.size,0,none⟩) (n+1) (grownCap w (n+1) c 102)) (w.drew.alloc (.cells ((xs.take (i*4)).toArray++Builtin.zeroCells z.cells (n+1 - i)++Builtin.zeroCells z.cells (grownCap w (n+1) c 102 - (n+1))) 102)):=λty=>by
  have h:=Lib.run_append_grow_zeros w 84 3 ty 102 i0 _ .i64 .i64 Tryz.underlying84 Tryz.underlying3 hi0 hz0 (some ⟨b,off,none⟩) i c (xs.take (i*4)) hold (n+1 - i) ua ua ua ua (by rw[hzb];omega) (by rw[hzb,hik];exact growslice_fits hroom hbig)
  rw[hik]at h
  rw[hkk]
  exact h
 obtain⟨G,hG⟩: ∃G,G=grownCap w (n+1) c 102:=⟨_,rfl⟩
 obtain⟨ROW,hROW⟩: ∃ROW:Array Value,ROW=(xs.take (i*4)).toArray++Builtin.zeroCells z.cells (n+1 - i)++Builtin.zeroCells z.cells (G - (n+1)):=⟨_,rfl⟩
 rw[<-hG]at hrz⊢
 rw[<-hROW]at hrz⊢
 have hRl:(n+1)*4<=ROW.size:=by
  rw[hROW]
  simp[Builtin.zeroCells,hzc]
  omega
 obtain⟨W1,hW1⟩: ∃W1,W1=w.drew.alloc (.cells ROW 102):=⟨_,rfl⟩
 rw[<-hW1]at hrz
 have hN: ∀j,j<(n+1)*4->(W1.cell? ⟨w.heap.size,j,none⟩).isSome=true:=λj hj=>by
  rw[hW1,World.cell?_alloc_at (w:=w.drew) ROW _ w.heap.size j rfl,qj ua];rfl
 have hNf: ∀j,W1.frozen? ⟨w.heap.size,j,none⟩=false:=λj=>by rw[hW1];exact World.frozen?_alloc_at (w:=w.drew) ROW _ w.heap.size j rfl
 have hOb: ∀j u,w.cell? ⟨b,j,none⟩=some u->W1.cell? ⟨b,j,none⟩=some u:=λj u h=>by rw[hW1,World.cell?_alloc_past (w:=w.drew) _ b j hbw];exact h
 have hOv: ∀j u,w.cell? ⟨vb,j,none⟩=some u->W1.cell? ⟨vb,j,none⟩=some u:=λj u h=>by rw[hW1,World.cell?_alloc_past (w:=w.drew) _ vb j hvw];exact h
 have hcpA: ∀(W:World),(∀x,W.cell? x=W1.cell? x)->(∀x,W.frozen? x=W1.frozen? x)-> ∀ty dc,(Builtin.copy_ #[84,84] ty #[.slice (some ⟨w.heap.size,i*4,none⟩) (n+1 - i) dc,.slice (some ⟨vb,0,none⟩) 1 vc]).run Tryz.prog W= .ok (goInt (1:Nat)) (W.setCells w.heap.size (i*4) vs):=λW hWc hWf ty dc=>by
  have hm:Nat.min 1 (n+1 - i)=1:=by simp only[oD];split<;>omega
  have:=xU W 84 84 ty 102 4 w.heap.size (i*4) (n+1 - i) dc ⟨vb,0,none⟩ 1 vc vs Tryz.underlying84 hsz (by rw[hvl,hm])
   (λj u hj=>by rw[Addr.add_lit,tI,hWc];exact hOv _ _ (hv j u hj))
   (λj hj=>by rw[hWc];exact hN _ ua) (λj hj=>by rw[hWf];exact hNf _) h1v
  rw[hm]at this
  exact this
 have hGn:n+1<=G:=by rw[hG];exact grownCap_ge w _ _ _
 have hG63:G<=9223372036854775807:=by
  have:=grownCap_le_maxLen w (n+1) c 102 (by unfold maxLen;omega)
  rw[<-hG]at this
  unfold maxLen at this
  omega
 have hGi: ¬(G=i):=by omega
 have hGim: ¬(G=i+1):=by omega
 have hci: ¬(c=i):=by omega
 have hbN:b≠w.heap.size:=by omega
 have hdl:(xs.drop (i*4)).length=(n - i)*4:=by rw[uQ,hcl];omega
 have hcpB: ∀(W:World),(∀x,W.cell? x=(W1.setCells w.heap.size (i*4) vs).cell? x)->(∀x,W.frozen? x=(W1.setCells w.heap.size (i*4) vs).frozen? x)-> ∀ty dc sc,(Builtin.copy_ #[84,84] ty #[.slice (some ⟨w.heap.size,(i+1)*4,none⟩) (n+1 - (i+1)) dc,.slice (some ⟨b,off+i*4,none⟩) (n - i) sc]).run Tryz.prog W= .ok (goInt (n - i:Nat)) (W.setCells w.heap.size ((i+1)*4) (xs.drop (i*4))):=λW hWc hWf ty dc sc=>by
  have hm:Nat.min (n - i) (n+1 - (i+1))=n - i:=by simp only[oD];split<;>omega
  have:=xU W 84 84 ty 102 4 w.heap.size ((i+1)*4) (n+1 - (i+1)) dc ⟨b,off+i*4,none⟩ (n - i) sc (xs.drop (i*4)) Tryz.underlying84 hsz (by rw[hdl,hm])
   (λj u hj=>by
     rw[Addr.add_lit,hWc,World.cell?_setCells_out _ _ _ _ _ (λh _=>absurd h hbN),th]
     exact hOb _ u (hcs (i*4+j) u (by rwa [uD]at hj)))
   (λj hj=>by rw[hWc];exact isSome_setCells _ _ _ _ (λt ht=>hN _ ua) _ (hN _ ua))
   (λj hj=>by rw[hWf,World.frozen?_setCells];exact hNf _) (λu hu=>h1c u (tE hu))
  rw[hm]at this
  exact this
 subst hW1
 have hE1: ∀x,((w.alloc (.cells ROW 102)).drew).cell? x=(w.drew.alloc (.cells ROW 102)).cell? x:=λx=>rfl
 have hE2: ∀x,((w.alloc (.cells ROW 102)).drew).frozen? x=(w.drew.alloc (.cells ROW 102)).frozen? x:=λx=>rfl
 have hF1: ∀x,(((w.alloc (.cells ROW 102)).drew.setCells w.heap.size (i*4) vs).drew).cell? x=((w.drew.alloc (.cells ROW 102)).setCells w.heap.size (i*4) vs).cell? x:=λx=>rfl
 have hF2: ∀x,(((w.alloc (.cells ROW 102)).drew.setCells w.heap.size (i*4) vs).drew).frozen? x=((w.drew.alloc (.cells ROW 102)).setCells w.heap.size (i*4) vs).frozen? x:=λx=>rfl
 have hb1:(0:Int)<=(i:Int)+1:=by omega
 have hin:i<=n:=by omega
 have htn:((i:Int)+1).toNat=i+1:=by omega
 have hwr:IntKind.i64.wrap ((i:Int)+1)=(i:Int)+1:=by rw[IntKind.wrap_i64];omega
 have hb3:(i:Int)<=(n:Int):=by omega
 clear hkk hik hold hROW hG hRl
 go_enter Tryz.func51,Tryz.ntmps51
 go_wp2_with (first
  |(at_builtin;refine Lib.wpList_append_run _ rfl _ _ _ _ rfl _ _ rfl rfl _ _ (hrz _) ?_)
  |(at_builtin;refine wpList_copy_runI _ rfl _ _ 84 84 rfl _ _ rfl rfl (hcpA _ hE1 hE2 _ _) ?_)
  |(at_builtin;refine wpList_copy_runI _ rfl _ _ 84 84 rfl _ _ rfl rfl (hcpB _ (λ_=>rfl) (λ_=>rfl) _ _ _) ?_))
 go_region_law_o (refine step_copy_runI rfl _ _ 84 84 rfl (.slice (some ⟨w.heap.size,(i+1)*4,none⟩) (n+1 - (i+1)) (G - (i+1))) (.slice (some ⟨b,off+i*4,none⟩) (n - i) (c - i)) (by simp[Act.eval,Act.put]) (by simp[Act.eval,Act.put]) (hcpB _ hF1 hF2 3 (G - (i+1)) (c - i)) ?_)
 go_wp2
 go_ret
 exact⟨rfl,rfl⟩
end Hw.Fr
namespace Hw.Fr
open Go Go.Proofs Go.Shelf Go.RowKit Hw.M
variable {α:Type}
def zbB(l:List α)(i:Nat)(x:α):List α:=l.take i++x::l.drop i
theorem zaM{l:List α}{i:Nat}{x:α}(h:i<=l.length):(zbB l i x).length=l.length+1:=by simp only[zbB,uB,uz,uI,uQ];omega
theorem zbr{α:Type}{e:Nat}: ∀ {rows:List (List α)} (i:Nat),(∀r∈rows,r.length=e)->(rows.take i).flatten=rows.flatten.take (i*e)
 |_,0,_=>by simp
 | [],i+1,_=>by simp
 |r::rs,i+1,h=>by
  have hr:=h r (tQ ..)
  rw[tX,tF,tF,zbr i λr hr=>h r (td _ hr),List.take_append,hr,uT (l:=r) (by rw[hr,qk];omega)]
  congr 2
  rw[qk];omega
theorem zbs{α:Type}{e:Nat}: ∀ {rows:List (List α)} (i:Nat),(∀r∈rows,r.length=e)->(rows.drop i).flatten=rows.flatten.drop (i*e)
 |_,0,_=>by simp
 | [],i+1,_=>by simp
 |r::rs,i+1,h=>by
  have hr:=h r (tQ ..)
  rw[List.drop_succ_cons,tF,zbs i λr hr=>h r (td _ hr),List.drop_append,hr,tR (l:=r) (by rw[hr,qk];omega),oh]
  congr 1
  rw[qk];omega
theorem zsK{M:Mem}{ρ:Nat->Value}{rows:List (List PV)}{t:List PV}{us vs:List Value}{e:Nat}(i:Nat)(hl: ∀r∈rows,r.length=e)(h:RepVs M ρ (rows.flatten.map V.p) us)(ht:RepVs M ρ (t.map V.p) vs):
 RepVs M ρ ((zbB rows i t).flatten.map V.p) (us.take (i*e)++(vs++us.drop (i*e))):=by
 simp only[zbB,tY,tF,uY]
 rw[zbr i hl,zbs i hl,qM,oa]
 exact(h.take _).append (ht.append (h.drop _))
theorem zhZ{us vs:List Value}{k:Nat}(hk:k<=us.length){j:Nat}{c:Value}(hj:(us.take k++(vs++us.drop k))[j]?=some c):
 (j<k/\us[j]?=some c)\/(k<=j/\j<k+vs.length/\vs[j - k]?=some c)\/(k+vs.length<=j/\us[j - vs.length]?=some c):=by
 have htl:(us.take k).length=k:=by rw[uz];omega
 rcases Nat.lt_or_ge j k with h1|h1
 ·rw[uP ua,uZ,uv h1]at hj
  exact .inl ⟨h1,hj⟩
 ·rw[uO ua,htl]at hj
  rcases Nat.lt_or_ge (j - k) vs.length with h2|h2
  ·rw[uP h2]at hj
   exact .inr (.inl ⟨h1,ua,hj⟩)
  ·rw[uO h2,uD]at hj
   exact .inr (.inr ⟨ua,by rw[show j - vs.length=k+(j - k - vs.length) by omega];exact hj⟩)
theorem zsL(rows:List (List PV))(i:Nat)(a b c d:PV)(hi:i<=rows.length)(hl:rows.length<=1000000):
 zk Tryz.prog 51 [.one (.ar 0),I i,.one (.bs 1 0 1)] [(0,.arr 4 rows),(1,.box [.p a,.p b,.p c,.p d])] (.one (.ar 2)) [(2,.arr 4 (zbB rows i [a,b,c,d]))]:=by
 have him:(zbB rows i [a,b,c,d]).length=rows.length+1:=zaM hi
 obtain⟨i0,hi0,hzs,⟨z,hz0,hzc,_⟩,hzb⟩:=info_mo
 refine⟨⟨_,Tryz.func51,ud,ud⟩,λM ρ w xs hx hT hI hG=>?_⟩
 match xs,hx with
 | [x0,x1,x2],hx=>
   simp only[RepSs,RepS,RepV,RepPV]at hx
   obtain⟨⟨h00,_⟩,⟨rfl,_⟩,⟨vb,c2,hb1,rfl,_⟩,_⟩:=hx
   subst h00
   obtain⟨ad,cap,e0,e1,e2,e3⟩:=hT.res 0 _ rfl
   obtain⟨vb',vs,el2,f1,f2,f3⟩:=hT.res 1 _ rfl
   rw[hb1]at f1
   simp only[Value.pointer.injEq,um,Addr.mk.injEq]at f1
   obtain⟨rfl,_⟩:=f1
   have hvl:vs.length=4:=f3.length
   have h1v: ∀v∈vs,v.oneCell'=true:=f3.one
   have hvs: ∀(j:Nat) v,vs[j]?=some v->w.cell? ⟨vb,j,none⟩=some v:=λj v hj=>by simp[World.cell?,f2,hj]
   rw[e0]
   have hR:tg (tb [(0,Res.arr 4 rows),(1,Res.box [.p a,.p b,.p c,.p d])]) 0=some (.arr 4 rows):=rfl
   have hid:2∉RL.ids [(0,Res.arr 4 rows),(1,Res.box [.p a,.p b,.p c,.p d])]:=by simp[RL.ids]
   -- the cells of the rows
   obtain⟨us,hu1,hu2,hu3,hu4⟩: ∃us:List Value,RepVs M ρ (rows.flatten.map V.p) us/\us.length=rows.length*4/\(∀r∈rows,r.length=4)/\
    ∀b o cs el fz,ad=some ⟨b,o,none⟩->w.heap[b]?=some (.cells cs el fz)-> ∀(j:Nat) u,us[j]?=some u->cs[o+j]?=some u:=by
    rcases e3 with⟨ha,hc⟩|⟨b,o,cs,el,fz,ha,h6,_,_,h8⟩
    ·have h0:rows=[]:=uS.1 ua
     subst h0
     exact⟨[],by simp[RepVs],rfl,ue,λb o cs el fz h=>by rw[ha]at h;cases h⟩
    ·obtain⟨us,g1,g2,g3⟩:=h8.cells (ρ:=ρ)
     refine⟨us,g1,g2,h8.len,λb' o' cs' el' fz' h h' j u hj=>?_⟩
     rw[ha]at h
     simp only[um,Addr.mk.injEq]at h
     obtain⟨rfl,rfl,_⟩:=h
     rw[h6]at h'
     simp only[um,Obj.cells.injEq]at h'
     obtain⟨rfl,_⟩:=h'
     exact g3 j u hj
   have h1u: ∀v∈us,v.oneCell'=true:=hu1.one
   have hrep:=zsK i hu3 hu1 (t:=[a,b,c,d]) f3
   have hrl: ∀r∈zbB rows i [a,b,c,d],r.length=4:=λr hr=>by
    simp only[zbB,u7,uV]at hr
    rcases hr with h|rfl|h
    ·exact hu3 r (u6 h)
    ·rfl
    ·exact hu3 r (tE h)
   have done: ∀ {B o cap':Nat} {cs:Array Value} {el:TypeId} {fz:Nat×Nat} {e:Ending} {w':World},e= .returned (.slice (some ⟨B,o,none⟩) (rows.length+1) cap')->w'.heap[B]?=some (.cells cs el fz)->xy fz cs.size->o+cap'*4<=cs.size->rows.length+1<=cap'->cap'<=9223372036854775807->
    (∀(j:Nat) c,(us.take (i*4)++(vs++us.drop (i*4)))[j]?=some c->cs[o+j]?=some c)->(w.heap.size<=B\/blk (ρ 0)=some B)->(∀k,k<w.heap.size->blk (ρ 0)≠some k->w'.heap[k]?=w.heap[k]?)->w.heap.size<=w'.heap.size->w'.os=w.os->w'.tape=w.tape->w'.output=w.output->
    ∃v M' ρ',e= .returned v/\Ret M ρ w [(0,Res.arr 4 rows),(1,Res.box [.p a,.p b,.p c,.p d])] (.one (.ar 2)) [(2,.arr 4 (zbB rows i [a,b,c,d]))] v M' ρ' w':=λ{B o cap' cs el fz e w'} he g1 g2 g3 g4 g5 g6 g7 g8 g9 g10 g11 g12=>by
    have hB0: ∀k,Bk (ρ 0) k↔blk (ρ 0)=some k:=λk=>by rw[e0];rfl
    have:=zlf (rows:=zbB rows i [a,b,c,d]) (cap:=cap') (e:=4) hR hT hI hid g1 g2 g3 (by rw[him];exact g4) g5 (RowsIn.yx hrl hrep g6) (g7.imp id λh=>(hB0 B).2 h) (λk h1 h2=>g8 k h1 λh=>h2 ((hB0 k).2 h)) g9 g10 g11 g12
    rw[him]at this
    exact⟨_,_,_,he,this⟩
   have hsrc:Src Tryz.prog 4 84 (.slice (some ⟨vb,0,none⟩) 1 c2) 1 vs w:=Src.ofSlice w Tryz.underlying84 ⟨vb,0,none⟩ 1 c2 vs (by rw[hvl]) (λj u hj=>by rw[Addr.add_lit,tI];exact hvs j u hj) h1v
   rcases Nat.lt_or_ge cap (rows.length+1)with hlt|hge
   · -- no room
     have hcap:=grownCap_ge w (rows.length+1) cap 102
     have hmx:=grownCap_le_maxLen w (rows.length+1) cap 102 (by unfold maxLen;omega)
     unfold maxLen at hmx
     rcases Nat.eq_or_lt_of_le hi with rfl|hil2
     · -- at the end
       have hold:(Builtin.firstCells i0.size rows.length (.slice ad rows.length cap)).run Tryz.prog w.drew= .ok us.toArray w.drew:=by
        rw[hzs]
        rcases e3 with⟨rfl,hc⟩|⟨b,o,cs,el,fz,rfl,k1,k2,k3,k4⟩
        ·have h0:rows=[]:=uS.1 ua
         subst h0
         have h1:us=[]:=uS.1 (by simpa using hu2)
         subst h1
         exact run_firstCells_none w.drew 4 0 0 cap
        ·exact run_firstCells_some w.drew 4 rows.length ⟨b,o,none⟩ rows.length cap us hu2 (λj u hj=>by
          rw[Addr.add_lit]
          have k1':w.drew.heap[b]?=some (.cells cs el fz):=k1
          simp[World.cell?,k1',hu4 b o cs el fz rfl k1 j u hj])
       have hrun: ∀ty,(Builtin.append_ #[84,84] ty #[.slice ad rows.length cap,.slice (some ⟨vb,0,none⟩) 1 c2]).run Tryz.prog w=_:=λty=>
        run_append_grow_src w 84 84 ty 102 i0 _ Tryz.underlying84 hi0 hz0 ad rows.length cap us hold _ 1 vs (by rw[hzs];exact hsrc) hlt ua (by rw[hzb];exact growslice_fits hlt ua)
       refine(zjl ad rows.length cap vb c2 _ w _ e1 e2 hrun).mono ?_
       rintro e w' ⟨he,rfl⟩
       refine done he (zP w.drew _) (λi _=>by simp) ?_ hcap ua (λj c hj=>?_) (.inl (uG _)) (λk hk _=>z7 w.drew _ k hk) ue rfl rfl rfl
       ·simp only[qE,uW,uB,size_zeroCells,hu2,hvl,hzc]
        omega
       ·have e5:us.take (rows.length*4)++(vs++us.drop (rows.length*4))=us++vs:=by rw[<-hu2,tW,List.drop_length,qo]
        rw[e5]at hj
        have hjl:=(ui.1 hj).1
        rw[tI,tN (by simpa using hjl)]
        simpa using hj
     · -- within
       rcases e3 with⟨_,h⟩|⟨b,o,cs,el,fz,rfl,h6,h6',h7,h8⟩
       ·omega
       ·refine(znz b o rows.length cap i vb c2 us vs w hil2 e1 hlt ua hu2 hvl i0 z hi0 hzs hz0 hzc hzb (λj v hj=>by simp[World.cell?,h6,hu4 b o cs el fz rfl h6 j v hj]) hvs h1u h1v).mono ?_
        rintro e w' ⟨he,rfl⟩
        generalize hG3:grownCap w (rows.length+1) cap 102=G at*
        have htk:(us.take (i*4)).length=i*4:=by rw[uz,hu2];omega
        generalize hcur:((us.take (i*4)).toArray++Builtin.zeroCells z.cells (rows.length+1 - i)++Builtin.zeroCells z.cells (G - (rows.length+1)))=cur
        have hcs:cur.size=G*4:=by
         rw[<-hcur];simp only[qE,uW,htk,size_zeroCells,hzc];omega
        have hcl: ∀j,j<i*4->cur[j]?=us[j]?:=λj hj=>by
         rw[<-hcur,tN (by simp only[qE,uW,htk];omega),tN (by simp only[uW,htk];exact hj),tp,uZ,uv hj]
        have w1:(w.alloc (.cells cur 102)).drew.heap[w.heap.size]?=some (.cells cur 102 (0,0)):=zP w _
        have r1:=ye w.heap.size _ (0,0) vs (i*4) cur _ w1 (by rw[hcs,hvl];omega)
        rw[r1]
        have hs1:(setAt cur.toList (i*4) vs).length=G*4:=by rw[zK _ _ _ (by simp only[qd,hcs,hvl];omega)];simpa using hcs
        have w2:((w.alloc (.cells cur 102)).drew.setRow w.heap.size (setAt cur.toList (i*4) vs).toArray).drew.heap[w.heap.size]?=some (.cells (setAt cur.toList (i*4) vs).toArray 102 (0,0)):=setRow_heap _ _ cur _ _ _ w1
        have hdl:(us.drop (i*4)).length=(rows.length - i)*4:=by rw[uQ,hu2];omega
        have r2:=ye w.heap.size _ (0,0) (us.drop (i*4)) ((i+1)*4) _ _ w2 (by simp only[uW,hs1,hdl];omega)
        rw[r2]
        have hs2:(setAt (setAt cur.toList (i*4) vs) ((i+1)*4) (us.drop (i*4))).length=G*4:=by rw[zK _ _ _ (by rw[hs1,hdl];omega)];exact hs1
        refine done he (setRow_heap _ _ _ _ _ _ w2) (λi _=>by simp) (by simp only[uW,hs2];omega) ua ua (λj c hj=>?_) (.inl (uG _)) (λk hk _=>?_) ?_ rfl rfl rfl
        ·simp only[tp,tI]
         rw[zW _ _ _ _ (by rw[hs1];omega),zW _ _ _ _ (by simp only[qd,hcs];omega)]
         simp only[hvl,hdl]
         rcases zhZ ua hj with⟨k1,k2⟩|⟨k0,k1,k2⟩|⟨k1,k2⟩
         ·rw[uv ua,uv k1];rw[<-hcl j k1]at k2;simpa using k2
         ·rw[uv ua,ur ua,uv ua];exact k2
         ·have:=(ui.1 k2).1
          rw[hvl]at k2 k1 this
          rw[hu2]at this
          rw[ur ua,uv ua,uD,show i*4+(j - (i+1)*4)=j - 4 by omega];exact k2
        ·rw[setRow_other _ _ _ _ ua]
         show((w.alloc (.cells cur 102)).drew.setRow w.heap.size (setAt cur.toList (i*4) vs).toArray).heap[k]?=_
         rw[setRow_other _ _ _ _ ua]
         exact z7 w _ k hk
        ·simp[World.setRow]
   · -- room
     rcases e3 with⟨_,h⟩|⟨b,o,cs,el,fz,rfl,h6,h6',h7,h8⟩
     ·omega
     ·have hob:blk (ρ 0)=some b:=by rw[e0];rfl
      have hvb:vb≠b:=λh=>hT.dis 0 1 _ _ b rfl rfl ub (by rw[e0];rfl) (by rw[hb1,h];rfl)
      have hsp: ∀j,j<cap*4->(w.cell? ⟨b,o+j,none⟩).isSome=true:=λj hj=>by
       simp[World.cell?,h6];omega
      have hfz: ∀j,j<cap*4->w.frozen? ⟨b,o+j,none⟩=false:=λj hj=>by
       simp only[World.frozen?,h6];exact h6' _ ua
      have hcl:=hu4 b o cs el fz rfl h6
      rcases Nat.eq_or_lt_of_le hi with rfl|hil2
      ·have hrun: ∀ty,(Builtin.append_ #[84,84] ty #[.slice (some ⟨b,o,none⟩) rows.length cap,.slice (some ⟨vb,0,none⟩) 1 c2]).run Tryz.prog w= .ok (.slice (some ⟨b,o,none⟩) (rows.length+1) cap) (w.setCells b (o+rows.length*i0.size) vs):=λty=>
        run_append_room_cells w 84 ty 102 i0 Tryz.underlying84 hi0 b o rows.length cap ⟨vb,0,none⟩ 1 c2 vs (by rw[hvl,hzs]) (λj u hj=>by rw[Addr.add_lit,tI];exact hvs j u hj) h1v hge (λj hj=>by rw[th];exact hsp _ (by rw[hzs];omega)) (λj hj=>by rw[th];exact hfz _ (by rw[hzs];omega))
       rw[hzs]at hrun
       refine(zjl (some ⟨b,o,none⟩) rows.length cap vb c2 _ w _ e1 e2 hrun).mono ?_
       rintro e w' ⟨he,rfl⟩
       have r1:=ye b _ fz vs (o+rows.length*4) cs w h6 (by rw[hvl];omega)
       rw[r1]
       have hs1:(setAt cs.toList (o+rows.length*4) vs).length=cs.size:=by rw[zK _ _ _ (by simp only[qd,hvl];omega)];simp
       refine done he (setRow_heap w b cs _ _ _ h6) (by simp only[uW,hs1];exact h6') (by simp only[uW,hs1];exact h7) hge e2 (λj c hj=>?_) (.inr hob) (λk hk hne=>setRow_other w b k _ (λe=>hne (by rw[hob,e]))) (by simp[World.setRow]) rfl rfl rfl
       simp only[tp]
       rw[zW _ _ _ _ (by simp only[qd];omega)]
       simp only[hvl]
       rcases zhZ ua hj with⟨k1,k2⟩|⟨k0,k1,k2⟩|⟨k1,k2⟩
       ·rw[uv ua];simpa using hcl j c k2
       ·rw[hvl]at k1
        rw[ur ua,uv ua,show o+j - (o+rows.length*4)=j - rows.length*4 by omega];exact k2
       ·have:=(ui.1 k2).1
        omega
      ·refine(zkF b o rows.length cap i vb c2 us vs w hil2 hge e2 hvb hu2 hvl (λj v hj=>by simp[World.cell?,h6,hcl j v hj]) (λj hj=>hsp j ua) (λj hj=>hfz j ua) hvs h1u h1v el2 el 4 cs.size
        (by simp[World.shape?,f2,hvl]) (by simp[World.shape?,h6]) ua (by simp[World.frozen?,f2]) (by simp[World.frozen?,f2])).mono ?_
       rintro e w' ⟨he,rfl⟩
       have hdl:(us.drop (i*4)).length=(rows.length - i)*4:=by rw[uQ,hu2];omega
       have w1:w.drew.heap[b]?=some (.cells cs el fz):=h6
       have r1:=ye b _ fz (us.drop (i*4)) (o+(i+1)*4) cs _ w1 (by rw[hdl];omega)
       rw[r1]
       have hs1:(setAt cs.toList (o+(i+1)*4) (us.drop (i*4))).length=cs.size:=by rw[zK _ _ _ (by have hcz:cs.toList.length=cs.size:=qd;rw[hdl,hcz];omega)];simp
       have w2:=setRow_heap w.drew b cs (setAt cs.toList (o+(i+1)*4) (us.drop (i*4))).toArray _ _ w1
       have r2:=ye b _ fz vs (o+i*4) _ _ w2 (by simp only[uW,hs1,hvl];omega)
       rw[r2]
       have hs2:(setAt (setAt cs.toList (o+(i+1)*4) (us.drop (i*4))) (o+i*4) vs).length=cs.size:=by rw[zK _ _ _ (by rw[hs1,hvl];omega)];exact hs1
       refine done he (setRow_heap _ b _ _ _ _ w2) (by simp only[uW,hs2];exact h6') (by simp only[uW,hs2];exact h7) hge e2 (λj c hj=>?_) (.inr hob) (λk hk hne=>?_) (by simp[World.setRow]) rfl rfl rfl
       ·simp only[tp]
        rw[zW _ _ _ _ (by rw[hs1];omega),zW _ _ _ _ (by simp only[qd];omega)]
        simp only[hvl,hdl]
        rcases zhZ ua hj with⟨k1,k2⟩|⟨k0,k1,k2⟩|⟨k1,k2⟩
        ·rw[uv ua,uv ua];simpa using hcl j c k2
        ·rw[hvl]at k1
         rw[ur ua,uv ua,show o+j - (o+i*4)=j - i*4 by omega];exact k2
        ·have:=(ui.1 k2).1
         rw[hvl]at k2 k1 this
         rw[hu2]at this
         rw[ur ua,ur ua,ur ua,uv ua,uD,show i*4+(o+j - (o+(i+1)*4))=j - 4 by omega];exact k2
       ·have hkb:k≠b:=λe=>hne (by rw[hob,e])
        rw[setRow_other _ _ _ _ hkb,setRow_other _ _ _ _ hkb];rfl
 | [],hx=>simp[RepSs]at hx
 | [_],hx=>simp[RepSs]at hx
 | [_,_],hx=>simp[RepSs]at hx
 |_::_::_::_::_,hx=>simp[RepSs]at hx
end Hw.Fr
namespace Hw.Fr
open Go Go.Proofs Go.Shelf Go.RowKit Go.Lib Hw.M
set_option maxHeartbeats 4000000 in
set_option maxRecDepth 1000000 in
theorem zp5(b off n c i:Nat)(xs:List Value)(w:World)(z:Value)(i0:TypeInfo)(hi0:Tryz.prog.info? 102=some i0)(hz1:i0.size=4)(hi:i<n)(hnc:n<=c)(hc63:c<=9223372036854775807)(hcl:xs.length=n*4)
 (v23: ∀w,(zeroValue 102).run Tryz.prog w= .ok z w) (hzc:z.cells.size=4) (hzo: ∀v∈z.cells.toList,v.oneCell'=true)
 (hcs: ∀(j:Nat) u,xs[j]?=some u->w.cell? ⟨b,off+j,none⟩=some u) (hfz: ∀j,j<n*4->w.frozen? ⟨b,off+j,none⟩=false) (h1c: ∀u∈xs,u.oneCell'=true):
 Calls Tryz.prog 60 #[.slice (some ⟨b,off,none⟩) n c,.int .i64 i,.int .i64 ((i+1:Nat):Int)] w λe w'=>
  e= .returned (.slice (some ⟨b,off,none⟩) (n - 1) c)/\w'=(w.drew.setCells b (off+i*4) (xs.drop ((i+1)*4))).setCells b (off+(n - 1)*4) (Builtin.zeroCells z.cells 1).toList:=by
 obtain⟨zc,rfl⟩: ∃cs,z= .agg cs:=by cases z<;>first|exact⟨_,rfl⟩|(simp[Value.cells]at hzc)
 have mixed:Tryz.prog.follows .mixedOrders=true:=by kernel_rfl
 have t3:=Tryz.underlying3;have a3:=Tryz.isAgg3;have z3:=Tryz.sizeOf3;have v3:=Tryz.zeroValue3
 have t4:=Tryz.underlying4;have a4:=Tryz.isAgg4;have z4:=Tryz.sizeOf4;have v4:=Tryz.zeroValue4
 have t22:=Tryz.underlying84;have a22:=Tryz.isAgg84;have z22:=Tryz.sizeOf84;have v22:=Tryz.zeroValue84
 have zE:=Tryz.sizeOf102
 have u3:=run_underlying Tryz.underlying3;have u4:=run_underlying Tryz.underlying4;have u22:=run_underlying Tryz.underlying84
 obtain⟨news,hnews⟩: ∃news,news=xs.drop ((i+1)*4):=⟨_,rfl⟩
 have hlen:news.length=(n - (i+1))*4:=by rw[hnews,uQ,hcl];omega
 have hsome: ∀j,j<n*4->(w.cell? ⟨b,off+j,none⟩).isSome=true:=λj hj=>by rw[hcs j _ (uM ua)];rfl
 obtain⟨A,hA,hsrc⟩: ∃A:Addr,(if c=i+1 then(some ⟨b,off,none⟩:Option Addr)else some ⟨b,off+(i+1)*4,none⟩)=some A/\Hid (∀(t:Nat) u,news[t]?=some u->w.drew.cell? (A.add t)=some u):=by
  by_cases h:c=i+1
  ·refine⟨⟨b,off,none⟩,by simp[h],λt u hu=>?_⟩
   have h0:news.length=0:=by rw[hlen];omega
   rw[uS.1 h0]at hu
   simp at hu
  ·refine⟨⟨b,off+(i+1)*4,none⟩,by simp[h],λt u hu=>?_⟩
   rw[hnews,uD]at hu
   rw[Addr.add_lit,th]
   exact hcs _ u hu
 have s1:Hid (news.length=(n - (i+1))*4):=hlen
 have s2:Hid (∀u∈news,u.oneCell'=true):=λu hu=>by rw[hnews]at hu;exact h1c u (tE hu)
 have s3:Hid (∀t,t<news.length->(w.drew.cell? ⟨b,off+i*4+t,none⟩).isSome=true/\w.drew.frozen? ⟨b,off+i*4+t,none⟩=false):=λt ht=>by
  rw[hlen]at ht
  rw[th]
  exact⟨hsome _ ua,hfz _ ua⟩
 obtain⟨W1,hW1⟩: ∃W1,W1=w.drew.setCells b (off+i*4) news:=⟨_,rfl⟩
 have hcz: ∀ty,(Builtin.clear_ #[84] ty #[.slice (some ⟨b,off+(i+(n - (i+1)))*4,none⟩) (n - (i+(n - (i+1)))) (c - (i+(n - (i+1))))]).run Tryz.prog W1= .ok (.tuple #[]) (W1.setCells b (off+(i+(n - (i+1)))*4) (Builtin.zeroCells (Value.agg zc).cells (n - (i+(n - (i+1))))).toList):=λty=>
  zbP W1 _ 102 ty (.agg zc) Tryz.underlying84 v23 4 hzc hzo b (off+(i+(n - (i+1)))*4) _ _ ua
   (λt ht=>by rw[hW1];exact isSome_setCells b news _ _ (λj hj=>by rw[th];exact hsome _ ua) _ (by rw[th];exact hsome _ ua))
   (λt ht=>by rw[hW1,World.frozen?_setCells,th];exact hfz _ ua)
 have hW:Hid (W1=w.drew.setCells b (off+i*4) news):=hW1
 have hN:Hid (news=xs.drop ((i+1)*4)):=hnews
 have hic:i<=c:=by omega
 have hjc:i+1<=c:=by omega
 have hij: ¬(i=i+1):=by omega
 have hb1:(0:Int)<=(i:Int)+1:=by omega
 have hb2:(i:Int)+1<=(n:Int):=by omega
 have htn:((i:Int)+1).toNat=i+1:=by omega
 clear hW1 hnews hlen hcs hfz hsome
 go_enter Tryz.func60,Tryz.ntmps60
 go_wp2_with fail
 go_region_law_o (refine step_append_room rfl (.tmp 22) (.tmp 25) 84 rfl 102 i0 4 Tryz.underlying84 hi0 hz1 b off i c (by simp[Act.eval,Act.put]) A (n - (i+1)) (c - (i+1)) news (by simp[Act.eval,Act.put]) s1.out hsrc.out s2.out ua s3.out ?_;rw[<-hW.out])
 go_wp2
 go_ret
 refine⟨by rw[show n - 1=i+(n - (i+1)) by omega];rfl,?_⟩
 rw[hW.out,hN.out,show i+(n - (i+1))=n - 1 by omega,show n - (n - 1)=1 by omega]
 rfl
end Hw.Fr
namespace Hw.Fr
open Go Go.Proofs Go.Shelf Go.RowKit Hw.M
variable {us:List Value}
theorem zsM{M:Mem}{ρ:Nat->Value}{rows:List (List PV)}{e:Nat}(i:Nat)(hl: ∀r∈rows,r.length=e)(h:RepVs M ρ (rows.flatten.map V.p) us):
 RepVs M ρ ((rows.eraseIdx i).flatten.map V.p) (us.take (i*e)++us.drop ((i+1)*e)):=by
 rw[tZ,tY,uY,zbr i hl,zbs (i+1) hl,qM,oa]
 exact(h.take _).append (h.drop _)
theorem zsN{k m:Nat}(hk:k<=us.length){j:Nat}{c:Value}(hj:(us.take k++us.drop m)[j]?=some c):
 (j<k/\us[j]?=some c)\/(k<=j/\us[m+(j - k)]?=some c):=by
 have htl:(us.take k).length=k:=by rw[uz];omega
 rcases Nat.lt_or_ge j k with h1|h1
 ·rw[uP ua,uZ,uv h1]at hj
  exact .inl ⟨h1,hj⟩
 ·rw[uO ua,htl,uD]at hj
  exact .inr ⟨h1,hj⟩
theorem zsO(rows:List (List PV))(i:Nat)(hi:i<rows.length):
 zk Tryz.prog 60 [.one (.ar 0),I i,I ((i+1:Nat):Int)] [(0,.arr 4 rows)] (.one (.ar 2)) [(2,.arr 4 (rows.eraseIdx i))]:=by
 have him:(rows.eraseIdx i).length=rows.length - 1:=by rw[oY,uv hi]
 obtain⟨i0,hi0,hzs,_,_⟩:=info_mo
 obtain⟨z,v23,hzc,hzo⟩: ∃z,(∀w,(zeroValue 102).run Tryz.prog w= .ok z w)/\z.cells.size=4/\ ∀v∈z.cells.toList,v.oneCell'=true:=
  ⟨_,Tryz.zeroValue102,rfl,ub⟩
 refine⟨⟨_,Tryz.func60,ud,ud⟩,λM ρ w xs hx hT hI hG=>?_⟩
 match xs,hx with
 | [x0,x1,x2],hx=>
   simp only[RepSs,RepS,RepV,RepPV]at hx
   obtain⟨⟨h00,_⟩,⟨rfl,_⟩,⟨rfl,_⟩,_⟩:=hx
   subst h00
   obtain⟨ad,cap,e0,e1,e2,e3⟩:=hT.res 0 _ rfl
   have hR:tg (tb [(0,Res.arr 4 rows)]) 0=some (.arr 4 rows):=rfl
   have hid:2∉RL.ids [(0,Res.arr 4 rows)]:=by simp[RL.ids]
   rcases e3 with⟨_,h⟩|⟨b,o,cs,el,fz,rfl,h6,h6',h7,h8⟩
   ·omega
   obtain⟨us,hu1,hu2,hu4⟩:=h8.cells (ρ:=ρ)
   have hu3:=h8.len
   rw[e0]
   have hob:blk (ρ 0)=some b:=by rw[e0];rfl
   refine(zp5 b o rows.length cap i us w z i0 hi0 hzs hi e1 e2 hu2 v23 hzc hzo (λj v hj=>by simp[World.cell?,h6,hu4 j v hj]) (λj hj=>by simp only[World.frozen?,h6];exact h6' _ ua) hu1.one).mono ?_
   rintro e w' ⟨he,rfl⟩
   have hdl:(us.drop ((i+1)*4)).length=(rows.length - (i+1))*4:=by rw[uQ,hu2];omega
   have hzl:(Builtin.zeroCells z.cells 1).toList.length=4:=by simp[Builtin.zeroCells,hzc]
   have w1:w.drew.heap[b]?=some (.cells cs el fz):=h6
   have r1:=ye b _ fz (us.drop ((i+1)*4)) (o+i*4) cs _ w1 (by rw[hdl];omega)
   rw[r1]
   have hcz:cs.toList.length=cs.size:=qd
   have hs1:(setAt cs.toList (o+i*4) (us.drop ((i+1)*4))).length=cs.size:=by rw[zK _ _ _ (by rw[hdl,hcz];omega)];simp
   have w2:=setRow_heap w.drew b cs (setAt cs.toList (o+i*4) (us.drop ((i+1)*4))).toArray _ _ w1
   have r2:=ye b _ fz (Builtin.zeroCells z.cells 1).toList (o+(rows.length - 1)*4) _ _ w2 (by simp only[uW,hs1,hzl];omega)
   rw[r2]
   have hs2:(setAt (setAt cs.toList (o+i*4) (us.drop ((i+1)*4))) (o+(rows.length - 1)*4) (Builtin.zeroCells z.cells 1).toList).length=cs.size:=by rw[zK _ _ _ (by rw[hs1,hzl];omega)];exact hs1
   have hrl: ∀r∈rows.eraseIdx i,r.length=4:=λr hr=>hu3 r (List.mem_of_mem_eraseIdx hr)
   have hB:=setRow_heap _ b _ (setAt (setAt cs.toList (o+i*4) (us.drop ((i+1)*4))) (o+(rows.length - 1)*4) (Builtin.zeroCells z.cells 1).toList).toArray _ _ w2
   have:=zlf (rows:=rows.eraseIdx i) (B:=b) (o:=o) (cap:=cap) (e:=4) hR hT hI hid hB (by simp only[uW,hs2];exact h6') (by simp only[uW,hs2];exact h7) (by rw[him];omega) e2
    (RowsIn.yx hrl (zsM i hu3 hu1) λj c hj=>by
      have hjl:=(ui.1 hj).1
      simp only[uB,uz,hdl,hu2]at hjl
      simp only[tp]
      rw[zW _ _ _ _ (by rw[hs1];omega),uv ua,zW _ _ _ _ (by rw[hcz];omega)]
      simp only[hdl]
      rcases zsN ua hj with⟨k1,k2⟩|⟨k1,k2⟩
      ·rw[uv ua];simpa using hu4 j c k2
      ·rw[ur ua,uv ua,uD,show(i+1)*4+(o+j - (o+i*4))=(i+1)*4+(j - i*4) by omega];exact k2)
    (.inr (by rw[e0];rfl)) (λk hk hne=>by
      have hkb:k≠b:=λe=>hne (by rw[e0,e];rfl)
      rw[setRow_other _ _ _ _ hkb,setRow_other _ _ _ _ hkb];rfl) (by simp[World.setRow]) rfl rfl rfl
   rw[him]at this
   exact⟨_,_,_,he,this⟩
 | [],hx=>simp[RepSs]at hx
 | [_],hx=>simp[RepSs]at hx
 | [_,_],hx=>simp[RepSs]at hx
 |_::_::_::_::_,hx=>simp[RepSs]at hx
end Hw.Fr
namespace Hw.Fr
open Go Go.Proofs Go.Shelf Hw.M Md
variable {sn:Str}
theorem zrw(h:zcp sn=none):zk Tryz.prog 12 [Sr sn] [] (.tup [.one (.p (.k (.pointer none))),I 9]) []:=by
 have hK:=zjj sn
 rw[h]at hK
 simp only[Ui,uU,tO]at hK
 refine gO T Tryz.func12 λC hC=>?_
 repeat' first|refine gG ?_|exact gD|refine gB ?_ ?_<;>intro h|refine gC hK ?_
 exact gF
theorem zbW{x:Str×Str×Int}(h:zcp sn=some x):zk Tryz.prog 12 [Sr sn] [] (.tup [.one (.bx 0 0),I 0]) (tlR sn x.2.2 0 [] [] []):=by
 have hK:=zjj sn
 unfold zuz at hK
 rw[h]at hK
 simp only[oe,Option.getD_some,qx]at hK
 refine gO T Tryz.func12 λC hC=>?_
 repeat' first|refine gG ?_|exact gD|refine gB ?_ ?_<;>intro h|refine gC hK ?_
 refine gA 111 4 [] [(1017,[.p (ks sn),.p (ki x.2.2),.ar 111,.p (.k (.slice none 0 0)),.p (ki 0)])] ?_
 refine gA 112 1 [] [(1017,[.p (ks sn),.p (ki x.2.2),.ar 111,.ar 112,.p (ki 0)])] ?_
 exact gW [1017,111,112]
def zqw(k c:Int):Bool:=match(yf k)[(c - 1).toNat]? with
 |some w=>w.2.2
 |none=>false
noncomputable def za8(sn:Str)(k:Int)(o:OpT)(u:Bool):Int:=if okOp k o=true then(if zqw k o.code=u then ze9 sn o else 30)else 1
theorem za3(sn:Str)(k r:Int)(ms:List Mt)(fl:List Bool)(ps:List Rws)(o:OpT)(u:Bool):
 zk Tryz.prog 48 [.one (.bx 0 0),zm (opR o),Bo u] (tlR sn k r ms fl ps) (I (za8 sn k o u)) (tlR sn k r ms fl ps):=by
 have hV:=jU k o
 unfold za8
 by_cases ho:okOp k o=true
 rotate_left
 ·rw[ur ho]
  rw[qf]at ho
  rw[ho]at hV
  refine gO T Tryz.func48 λC hC=>?_
  repeat' first|refine gG ?_|exact gD|refine gB ?_ ?_<;>intro h|refine gC hV ?_
  exact gE
 rw[uv ho]
 rw[ho]at hV
 obtain⟨hk,hc,⟨w,hw⟩,_,_⟩:=wJ ho
 have hU:=zhF hk hc hw
 have hu:zqw k o.code=w.2.2:=by unfold zqw;rw[hw]
 rw[hu]
 obtain⟨a,b,hB⟩:=zi sn o
 refine gO T Tryz.func48 λC hC=>?_
 repeat' first|refine gG ?_|exact gD|refine gB ?_ ?_<;>intro h|refine gC hV ?_|refine gC hU ?_|refine gC hB ?_|(refine zcs rfl 29 rfl (LeS.qb (b':=u) rfl) ?_;refine zlA hC rfl rfl ud rfl rfl ?_)
 ·have hn: ¬w.2.2=u:=by simpa using h
  rw[ur hn]
  exact gE
 ·have hn:w.2.2=u:=by simpa using h
  rw[uv hn]
  exact gE
variable {i:Nat}
theorem zuI(h:i<=1000):IntKind.i64.wrap ((i:Int).tdiv 16)=((i / 16:Nat):Int):=by
 have e:(i:Int).tdiv 16=((i / 16:Nat):Int):=by
  rw[Ug ua];omega
 rw[e]
 exact wrap64 ua
variable {ms:List Mt}{ps:List Rws}
theorem zgi(sn:Str){k r:Int}(fl:List Bool)(hk:1<=k/\k<=6)(hi:i<=1000)(hpl:ps.length<=1000)(hps: ∀(j:Nat) R,ps[j]?=some R->j<i / 16->R=stO k [] (ms.take (16*(j+1)))):
 zk Tryz.prog 81 [.one (.bx 0 0),I i] (tlR sn k r ms fl ps) (.tup [zm (stR k (stO k [] (ms.take (16*min (i / 16) ps.length)))),I ((16*min (i / 16) ps.length:Nat):Int)]) (tlR sn k r ms fl ps):=by
 have hq:=zuI hi
 have hl:(zas k ps).length=ps.length:=uj _
 have hmn:(if(((zas k ps).length:Nat):Int)<((i / 16:Nat):Int)then(((zas k ps).length:Nat):Int)else((i / 16:Nat):Int))=((min (i / 16) ps.length:Nat):Int):=by
  rw[hl];split<;>omega
 have hNw:=zt8 hk
 generalize hm:min (i / 16) ps.length=m at*
 cases m with
 |zero=>
  rw[Nat.mul_zero,qZ]
  refine gO T Tryz.func81 λC hC=>?_
  repeat' first|refine gG ?_|exact gD|refine gB ?_ ?_<;>intro h|(refine zlh hC rfl rfl ub rfl rfl ?_;rw[hq])|refine zne hC _ rfl rfl hmn rfl rfl ?_|refine gC hNw ?_
  exact gE
 |succ q=>
  obtain⟨R,hR⟩:=ze (l:=ps) (i:=q) ua
  have hRe:=hps q R hR ua
  rw[<-hRe]
  have hw:IntKind.i64.wrap (((q+1:Nat):Int) - 1)=(q:Int):=by rw[show((q+1:Nat):Int) - 1=(q:Int) by omega];exact wrap64 ua
  have hw2:IntKind.i64.wrap (((q+1:Nat):Int)*16)=((16*(q+1):Nat):Int):=by rw[show((q+1:Nat):Int)*16=((16*(q+1):Nat):Int) by omega];exact wrap64 ua
  have hrow:(zas k ps)[q]?=some [.pr (stR k R)]:=by unfold zas;rw[uE,hR];rfl
  refine gO T Tryz.func81 λC hC=>?_
  repeat' first|refine gG ?_|(exfalso;have h2:=uo h;omega)|refine gB ?_ ?_<;>intro h|(refine zlh hC rfl rfl ub rfl rfl ?_;rw[hq])|refine zne hC _ rfl rfl hmn rfl rfl ?_|(rw[hw];refine jA T hC (rows:=zas k ps) rfl rfl rfl rfl (uw _) (by rw[hl];omega) rfl rfl ?_)|(refine wE T hC q 0 (rows:=zas k ps) (row:=[.pr (stR k R)]) rfl rfl rfl ue hrow rfl rfl rfl ?_;refine zuG hC rfl rfl rfl ?_)|(rw[hw2])
  exact gE
abbrev tlX(a b:Nat)(sn:Str)(k r:Int)(ms:List Mt)(fl:List Bool)(ps:List Rws):RL:=[(0,.box [.p (ks sn),.p (ki k),.ar a,.ar b,.p (ki r)]),(a,.arr 4 (yB ms fl)),(b,.arr 1 (zas k ps))]
variable {b:Bool}{fl:List Bool}{q:Nat}
theorem zp6{m:Mt}(hf:fl.length=ms.length)(hm:ms[q]?=some m):(yB ms fl).set q (zik m b)=yB ms (fl.set q b):=by
 have hlt:=(ui.1 hm).1
 apply List.ext_getElem?
 intro j
 unfold yB
 rw[ov,oU,oU,ov]
 by_cases e:q=j
 ·subst e
  rw[uv rfl,uv rfl,uv (by rw[List.length_zipWith,hf];omega),uv ua,hm]
 ·rw[ur e,ur e]
theorem zsP{F:List Bool}(hF:F[q]?=some b)(hl:fl.length=F.length):(F.take q++fl.drop q).set q b=F.take (q+1)++fl.drop (q+1):=by
 have hq:=(ui.1 hF).1
 have htl:(F.take q).length=q:=by rw[uz];omega
 rw[tS (show q<fl.length by omega),UC _ _ ua,htl,qv,List.set_cons_zero,tG,hF,qR,tL]
 rfl
theorem zsQ{F:List Bool}(hl:fl.length=F.length)(hq:q<=F.length):(F.take q++fl.drop q).length=F.length:=by
 rw[uB,uz,uQ];omega
theorem zsR(k:Int)(a b:List Rws):zas k (a++b)=zas k a++zas k b:=uY
theorem zjm(sn:Str){k r:Int}(hk:TLk k ms)(hf:fl.length=ms.length)(hi:i<=ms.length)(hpl:ps.length<=1000)
 (hps: ∀(j:Nat) R,ps[j]?=some R->j<i / 16->R=stO k [] (ms.take (16*(j+1)))) (hfl:fl.take (16*min (i / 16) ps.length)=(flO k [] ms).take (16*min (i / 16) ps.length)):
 zk Tryz.prog 53 [.one (.bx 0 0),I i] (tlR sn k r ms fl ps) (.tup []) (tlX 1 4 sn k (((ms.length - 16*min (i / 16) ps.length:Nat)):Int) ms (flO k [] ms) (ptO k ms)):=by
 have hlen:=hk.len
 have hS:=zgi sn (r:=r) (ms:=ms) fl (ps:=ps) (i:=i) hk.k6 ua hpl hps
 have hFl:(flO k [] ms).length=ms.length:=yT k ms []
 have hat:16*min (i / 16) ps.length<=i:=by omega
 have hdiv:16*min (i / 16) ps.length / 16=min (i / 16) ps.length:=by omega
 have htk:(zas k ps).take (((16*min (i / 16) ps.length / 16:Nat):Int)).toNat=zas k (ptO k (ms.take (16*min (i / 16) ps.length))):=by
  have e:ps.take (min (i / 16) ps.length)=ptO k (ms.take (16*min (i / 16) ps.length)):=by
   apply List.ext_getElem?
   intro j
   rw[uZ]
   split
   ·rename_i hj
    obtain⟨R,hR⟩:=ze (l:=ps) (i:=j) ua
    rw[hR,hps j R hR ua,znd (by rw[uz];omega),oc,oK ua]
   ·rw[tT]
    rw[vo,uz];omega
  rw[hdiv]
  show(zas k ps).take (min (i / 16) ps.length)=_
  unfold zas
  rw[<-qM,e]
 have hpsl:(zas k ps).length=ps.length:=uj _
 have htk':True:=trivial
 have hfe:(flO k [] ms).take (16*min (i / 16) ps.length)++fl.drop (16*min (i / 16) ps.length)=fl:=by rw[<-hfl,tv]
 generalize hA:16*min (i / 16) ps.length=A at*
 have hq2:=zuI (i:=A) ua
 have hsub:IntKind.i64.wrap (((ms.length:Nat):Int) - (A:Int))=((ms.length - A:Nat):Int):=by rw[show((ms.length:Nat):Int) - (A:Int)=((ms.length - A:Nat):Int) by omega];exact wrap64 ua
 obtain⟨g,hgl,rfl⟩: ∃g,g.length=(flO k [] ms).length/\fl=(flO k [] ms).take A++g.drop A:=⟨fl,ua,hfe.symm⟩
 clear hfe hfl hps htk'
 refine gO T Tryz.func53 λC hC=>?_
 repeat' first|refine gG ?_|refine gB ?_ ?_<;>intro h|refine gR hS (nm [0,1,2]) ?_|(refine zlh hC rfl rfl ub rfl rfl ?_;rw[hq2])|refine zsJ T 121 hC rfl rfl rfl rfl (uw _) (by rw[hpsl];omega) htk rfl rfl rfl ?_|(rw[xB hf,hsub])
 refine zn (λq:Nat=>A<=q/\q<=ms.length) (λq=>([(0,.one (.bx 0 0)),(4,.one (.bx 1004 0)),(6,I q)],
  [(0,some (Res.box [.p (ks sn),.p (ki k),.ar 1,.ar 102,.p (ki ((ms.length - A:Nat):Int))])),(1,some (.arr 4 (yB ms ((flO k [] ms).take q++g.drop q)))),(102,some (.arr 1 (zas k (ptO k (ms.take q))))),(1004,some (Res.box [.p (ki k),.p (yp (stO k [] (ms.take q)))]))])) (λq=>ms.length - q) hC
  A ⟨uG _,ua⟩ (mvU 102 121) ⟨rfl,⟨rfl,rfl,rfl,uh⟩,⟨rfl,rfl,rfl,rfl,uh⟩,rfl,λi hi=>zS ua hi⟩ ?_
 rintro q ⟨hq1,hq⟩
 have hfq:=zsQ (q:=q) hgl ua
 refine zr T hC true 200 rfl ?_
 rw[xB (hfq.trans hFl)]
 refine zu rfl ?_ ?_<;>intro h
 ·have hlt:q<ms.length:=by have:=uo h;omega
  clear h
  obtain⟨m,hm⟩:=ze hlt
  have hv:zJ k (stO k [] (ms.take q))=true:=wu hk.kind.2 (wX hk.k6) λx hx=>hk.ok x (u6 hx)
  have hAp:=zbq k (stO k [] (ms.take q)) m.2 hv (hk.ok m (List.mem_of_getElem? hm)) hk.kind.2
  obtain⟨f,_,hrow⟩:=zat (hfq.trans hFl) hm
  have hst:=zbZ (k:=k) hm
  have hfa:=zqA (k:=k) hm
  have hpn:=zpN (k:=k) hlt
  rw[hst]at hpn
  generalize wq k (stO k [] (ms.take q)) m.2=z at hAp hst hfa hpn
  obtain⟨R2,x⟩:=z
  simp only at hAp hst hfa hpn
  have hset: ∀b:Bool,(!decide (x.e=0))=b->(yB ms ((flO k [] ms).take q++g.drop q)).set q (setAt (zik m f) 3 [.k (.bool b)])=yB ms ((flO k [] ms).take (q+1)++g.drop (q+1)):=λb hb=>by
   rw[hb]at hfa
   rw[<-zsP hfa hgl,<-zp6 (hfq.trans hFl) hm];rfl
  have hrem:(IntKind.i64.wrap ((q:Int)+1)).tmod 16=(((q+1) % 16:Nat):Int):=by
   rw[yO ua,oy ua];omega
  have happ:decide ((((q+1) % 16:Nat):Int)=0)=true->zas k (ptO k (ms.take q))++[[.pr (stR k R2)]]=zas k (ptO k (ms.take (q+1))):=λh=>by
   have:=uo h
   rw[hpn,uv ua,zsR];rfl
  have hppl:(zas k (ptO k (ms.take q))).length<=140:=by
   rw[show(zas k (ptO k (ms.take q))).length=(ptO k (ms.take q)).length from uj _,vo,uz];omega
  have hml:=xB (hfq.trans hFl)
  repeat' first|refine gG ?_|exact gD|refine gB ?_ ?_<;>intro h|refine jA T hC (rows:=yB ms ((flO k [] ms).take q++g.drop q)) rfl rfl rfl rfl (uw _) (by rw[hml];omega) rfl rfl ?_|refine wE T hC q 1 (rows:=yB ms ((flO k [] ms).take q++g.drop q)) (row:=zik m f) rfl rfl rfl ue hrow rfl rfl rfl ?_|refine gC hAp ?_|refine jN T hC q 3 (rows:=yB ms ((flO k [] ms).take q++g.drop q)) (row:=zik m f) (us:=[.k (.bool true)]) (rows':=yB ms ((flO k [] ms).take (q+1)++g.drop (q+1))) rfl rfl rfl rfl rfl rfl ue hrow ub (hset true uf) rfl ?_|refine jN T hC q 3 (rows:=yB ms ((flO k [] ms).take q++g.drop q)) (row:=zik m f) (us:=[.k (.bool false)]) (rows':=yB ms ((flO k [] ms).take (q+1)++g.drop (q+1))) rfl rfl rfl rfl rfl rfl ue hrow ub (hset false uf) rfl ?_|(refine zlg hC rfl rfl ub rfl rfl ?_;rw[hrem])|(refine znA rfl (id:=1010) (stR k R2) rfl [(10,.one (.p (.pr (stR k R2))))] ⟨⟨_,rfl,FpS.bx⟩,uh⟩ ?_)|refine gT ?_|refine xa T 122 hC (rows:=zas k (ptO k (ms.take q))) (rows2:=[[.pr (stR k R2)]]) (rows3:=zas k (ptO k (ms.take (q+1)))) (bytes:=8) rfl rfl rfl rfl (zae.sl (T.es_ok _ _ rfl)) (happ uf) rfl rfl rfl ud (by simp only[uC];omega) (by simp only[uC];omega) rfl rfl rfl ?_
  all_goals rw[yO ua]
  all_goals first
   |(have h16:=uo h
     refine zf (q+1) ⟨ua,ua⟩ (mvU 102 122) ua ?_
     simp only[hst]
     exact⟨rfl,⟨rfl,rfl,rfl,uh⟩,⟨rfl,rfl,rfl,rfl,uh⟩,rfl,λi hi=>zS ua hi⟩)
   |(have h16:=uq h
     rw[ur ua]at hpn
     refine zf (q+1) ⟨ua,ua⟩ id ua ?_
     simp only[hst,hpn]
     exact gM)
 ·have hge:q=ms.length:=by have:=uq h;omega
  subst hge
  rw[tW,show(flO k [] ms).take ms.length++g.drop ms.length=flO k [] ms by rw[<-hFl,tW,tR ua,qo]]
  repeat' first|refine gG ?_|refine gB ?_ ?_<;>intro h|refine zj ?_
  exact zt ⟨.inr rfl,mvU 4 102,_,rfl,.refl _,⟨rfl,rfl,rfl,uh⟩,rfl,rfl⟩
end Hw.Fr
namespace Hw
open Go
variable {C:Ctx}{P:Program}{af:Array Edge}{b:Bool}{ps:String}{te:TypeId}{x:Operand}
section
variable {d:Option Nat} {ty:TypeId} {g:Option (Nat×Bool)} {t t':TypeId}
theorem zp7(w:World)(hp:P.underlying t=some (.pointer te))(a:Option Addr):(binOp .eql t (.pointer a) (.pointer none)).run P w= .ok (.bool a.isNone) w:=by
 have h: ∀d:Nat,(Op.equalIn (d+1) t (.pointer a) (.pointer none)).run P w= .ok a.isNone w:=λd=>by
  cases a<;>simp[Op.equalIn,run_underlying hp]
 simp only[binOp]
 simp[Op.equal,Op.maxDepth,h 9999]
def ptrB:S->Option Bool
 | .one (.bx _ _)=>some false
 | .one (.p (.k (.pointer none)))=>some true
 |_=>none
theorem zsS{st:St}{M:Mem}{ρ:Nat->Value}{a:Act}{w:World}{s:S}{v:Value}(hH:Holds C st M ρ a w)(hs:ptrB s=some b)(hr:RepS M ρ s v): ∃q:Option Addr,v= .pointer q/\q.isNone=b:=by
 unfold ptrB at hs
 split at hs
 ·simp only[RepS,RepV]at hr
  obtain⟨b',_,h2⟩:=hr
  cases hs
  exact⟨_,h2,rfl⟩
 ·simp only[RepS,RepV,RepPV]at hr
  cases hs
  exact⟨_,hr.1,rfl⟩
 ·cases hs
theorem zuJ{s:S}(hx:okc x s)(hs:ptrB s=some b)(hp:P.underlying t=some (.pointer te)):
 Snd P ⟨d,.binOp .eql t x (.const (.pointer none)) t',ty,ps,af,g⟩ (rq x s) [] [] (Bo b) []:=
 zo λC st M ρ a w hH h1 _=>by
  obtain⟨q,e1,rfl⟩:=zsS hH hs (hH.evS (zI hx h1))
  have hc:a.eval (.const (.pointer none))= .pointer none:=rfl
  have hg:(eqGuard .eql t x (.const (.pointer none)) (.pointer q) (.pointer none)).run P w= .ok () w:=by cases q<;>rfl
  exact⟨.bool q.isNone,by simp only[execOp,e1,hc,Sem.run_bind,hg,zp7 w hp,Result.andThen_ok,Sem.run_pure],by simp only[RepS,RepV,RepPV];exact⟨uh,rfl⟩⟩
end
section
variable {k:List Frm} {n:Nat} {sl:zl} {tab:Tab} {Q:Exit->St->Prop} {all:Array Oper} {rest:List Oper}
theorem zuK{d:Nat}{t t' ty:TypeId}{g0:Option (Nat×Bool)}{gs:zl}{md:Mode}(hC:C.low){s:S}(hx:ev sl x=some s)(hs:ptrB s=some b)(hp:P.underlying t=some (.pointer te))(hm:metL all sl g0=some gs)(hd:Nat.blt d n=true)
 (g:Goal P C (.ops all rest (nx md ⟨some d,gs++rq x s,[],[],Bo b,[]⟩)) k n ((d,Bo b)::sl) tab Q):
 Goal P C (.ops all (⟨some d,.binOp .eql t x (.const (.pointer none)) t',ty,ps,af,g0⟩::rest) md) k n sl tab Q:=by
 have e1:=zQ (st:=⟨n,sl,tab⟩) hx
 have:=zp hm (zuJ (P:=P) (ty:=ty) (ps:=ps) (af:=af) (g:=g0) (d:=some d) (t':=t') e1.1 hs hp) (n:=n) (tab:=tab)
 exact yk (L:=⟨some d,gs++rq x s,[],[],Bo b,[]⟩) hC this.1 rfl ⟨by rw[zd];exact⟨this.2,e1.2⟩,trivial,rfl,hd⟩ g
end
end Hw
namespace Hw.Fr
open Go Go.Proofs Go.Shelf Hw.M Md
theorem gPE{G G':Prop}(g:G')(h:G'->G:=by exact λg=>zuK (te:=87) hC rfl rfl ud rfl rfl g):G:=h g
theorem zaJ{t:Int}: ∀ {ms:List Mt},(ms.Pairwise λa b=>a.1<b.1)->(∀m∈ms.take (xr ms t),m.1<t)/\ ∀m∈ms.drop (xr ms t),t<=m.1
 | [],_=>⟨λm h=>by simp at h,λm h=>by simp at h⟩
 |a::l,h=>by
  obtain⟨ha,hl⟩:=tU.1 h
  by_cases hat:a.1<t
  ·have e:xr (a::l) t=xr l t+1:=by simp[xr,List.takeWhile,hat]
   obtain⟨h1,h2⟩:=zaJ (t:=t) hl
   rw[e,tX,List.drop_succ_cons]
   refine⟨λm hm=>?_,h2⟩
   rcases uV.1 hm with rfl|hm
   ·exact hat
   ·exact h1 m hm
  ·have e:xr (a::l) t=0:=by simp[xr,List.takeWhile,hat]
   rw[e,qZ,Uj]
   refine⟨λm hm=>(by cases hm),λm hm=>?_⟩
   rcases uV.1 hm with rfl|hm
   ·omega
   ·have:=ha m hm;omega
variable {ms:List Mt}{t:Int}
theorem zly(h:ms.Pairwise λa b=>a.1<b.1)(hn:hasT ms t=false): ∀m∈ms.drop (xr ms t),t<m.1:=by
 intro m hm
 have h1:=(zaJ (t:=t) h).2
 unfold hasT at hn
 cases hd:ms.drop (xr ms t)with
 |nil=>rw[hd]at hm;cases hm
 |cons a l=>
  have h0:ms[xr ms t]?=some a:=by
   have:(ms.drop (xr ms t))[0]?=some a:=by rw[hd];rfl
   rwa [uD,uN]at this
  rw[h0]at hn
  have hne:=uq hn
  have hp:(a::l).Pairwise λa b=>a.1<b.1:=by rw[<-hd];exact h.sublist (oO ..)
  rw[hd]at hm h1
  have h2:=h1 a (tQ ..)
  rcases uV.1 hm with rfl|hm
  ·omega
  ·have:=(tU.1 hp).1 m hm;omega
variable {o:OpT}
theorem zsT{k:Int}(hk:TLk k ms)(h1:ms.length<140)(ht:xE t=true)(ho:okOp k o=true)(hn:hasT ms t=false):TLk k (zbB ms (xr ms t) (t,o)):=by
 have hlo:=(zaJ (t:=t) hk.asc).1
 have hhi:=zly hk.asc hn
 have hmem: ∀m∈zbB ms (xr ms t) (t,o),m∈ms\/m=(t,o):=λm hm=>by
  simp only[zbB,u7,uV]at hm
  rcases hm with h|h|h
  ·exact .inl (u6 h)
  ·exact .inr h
  ·exact .inl (tE h)
 refine⟨hk.kind,by rw[zaM (zcy ms t)];omega,?_,λm hm=>?_,λm hm=>?_⟩
 ·unfold zbB
  refine List.pairwise_append.2 ⟨hk.asc.sublist (List.take_sublist ..),tU.2 ⟨λb hb=>hhi b hb,hk.asc.sublist (oO ..)⟩,λa ha b hb=>?_⟩
  have h3:=hlo a ha
  rcases uV.1 hb with rfl|hb
  ·exact h3
  ·have:=hhi b hb;omega
 ·rcases hmem m hm with h|rfl
  ·exact hk.tm m h
  ·exact wv.1 ht
 ·rcases hmem m hm with h|rfl
  ·exact hk.ok m h
  ·exact ho
variable {i:Nat}{α:Type}
theorem zgj{l:List α}{n:Nat}{x:α}(hn:n<=i)(hi:i<=l.length):(zbB l i x).take n=l.take n:=by
 unfold zbB
 rw[oX (by rw[uz];omega),oc,oK hn]
variable {fl:List Bool}
theorem zp8{m:Mt}{b:Bool}(hf:fl.length=ms.length):zbB (yB ms fl) i (zik m b)=yB (zbB ms i m) (zbB fl i b):=by
 unfold zbB yB
 rw[List.zipWith_append (by rw[uz,uz,hf]),List.zipWith_cons_cons,List.take_zipWith,List.drop_zipWith]
theorem zjn{k:Int}{ms':List Mt}(h: ∀n,n<=i->ms'.take n=ms.take n):
 (∀(j:Nat) R,(ptO k ms)[j]?=some R->j<i / 16->R=stO k [] (ms'.take (16*(j+1))))/\ ∀n,n<=i->(flO k [] ms').take n=(flO k [] ms).take n:=by
 refine⟨λj R hR hj=>?_,λn hn=>by rw[zjh,zjh,h n hn]⟩
 have hlt:=(ui.1 hR).1
 rw[vo]at hlt
 rw[znd hlt]at hR
 rw[h _ ua]
 exact(uy hR).symm
theorem zcq(v:List Int)(hv:v.length<=1000000):zk Tryz.prog 52 [pS (zA v)] [] (pS (zA v)) []:=by
 refine gO T Tryz.func52 λC hC=>?_
 have hl:(v.map zR).length=v.length:=uj _
 repeat' first|refine gG ?_|refine gB ?_ ?_<;>intro h
 refine zcQ (rows:=v.map zR) (e:=1) (et:=3) rfl ud rfl (λb hb=>?_)
 repeat' first|refine gG ?_|refine gB ?_ ?_<;>intro h
 ·have hv0:v=[]:=Ud.1 (hb h)
  subst hv0
  exact zt ⟨.inl rfl,id,_,rfl,LeS.one (.nil 1),trivial,rfl,rfl⟩
 ·refine zaU T hC rfl rfl rfl rfl rfl ?_
  repeat' first|refine gG ?_|refine gB ?_ ?_<;>intro h|refine gY T 102 (v.map zR) 8 ?_
  refine gZ 102 [(2,pS (zA v))] [] ?_
  exact gF
abbrev tlC(sn:Str)(k r:Int)(ms:List Mt):RL:=tlR sn k r ms (flO k [] ms) (ptO k ms)
noncomputable def zbz(sn:Str)(k:Int)(ms:List Mt)(t:Int)(o:OpT):Int:=
 if za8 sn k o true=0 then(if xE t=true then(if hasT ms t=true then 15 else if 140<=ms.length then 4 else 0)else 2)else za8 sn k o true
theorem zgR(sn:Str){k:Int}(r:Int)(t:Int)(o:OpT)(hk:TLk k ms)(hn:zbz sn k ms t o≠0):
 zk Tryz.prog 17 [.one (.bx 0 0),I t,zm (opR o)] (tlC sn k r ms) (I (zbz sn k ms t o)) (tlC sn k r ms):=by
 have hCk:=za3 sn k r ms (flO k [] ms) (ptO k ms) o true
 have hTm:=vh t
 have hml:=xB (yT k ms [])
 unfold zbz at hn⊢
 by_cases h0:za8 sn k o true=0
 rotate_left
 ·rw[ur h0]
  generalize za8 sn k o true=e at hCk h0
  refine gO T Tryz.func17 λC hC=>?_
  repeat' first|refine gG ?_|exact gD|(exfalso;exact h0 (by simpa using h))|refine gB ?_ ?_<;>intro h|refine gPE ?_|refine gR hCk (nm [0,1,2]) ?_
  exact gE
 rw[uv h0]at hn⊢
 rw[h0]at hCk
 by_cases h1:xE t=true
 rotate_left
 ·rw[ur h1]
  rw[qf]at h1
  rw[h1]at hTm
  refine gO T Tryz.func17 λC hC=>?_
  repeat' first|refine gG ?_|exact gD|refine gB ?_ ?_<;>intro h|refine gPE ?_|refine gR hCk (nm [0,1,2]) ?_|refine gC hTm ?_
  exact gE
 rw[uv h1]at hn⊢
 have hFd:=za1 (sn:=sn) (r:=r) (ps:=ptO k ms) (t:=t) hk (yT k ms []) (wv.1 h1)
 rw[h1]at hTm
 by_cases h2:hasT ms t=true
 ·rw[uv h2]
  rw[h2]at hFd
  refine gO T Tryz.func17 λC hC=>?_
  repeat' first|refine gG ?_|exact gD|refine gB ?_ ?_<;>intro h|refine gPE ?_|refine gR hCk (nm [0,1,2]) ?_|refine gC hTm ?_|refine gR hFd (nm [0,1,2]) ?_
  exact gE
 ·rw[ur h2]at hn⊢
  rw[qf]at h2
  rw[h2]at hFd
  have h3:140<=ms.length:=by
   rcases Nat.lt_or_ge ms.length 140 with h|h
   ·rw[ur ua]at hn;exact absurd rfl hn
   ·exact h
  rw[uv h3]
  refine gO T Tryz.func17 λC hC=>?_
  repeat' first|refine gG ?_|exact gD|(exfalso;have h2:=uq h;rw[hml]at h2;omega)|refine gB ?_ ?_<;>intro h|refine gPE ?_|refine gR hCk (nm [0,1,2]) ?_|refine gC hTm ?_|refine gR hFd (nm [0,1,2]) ?_
  exact gE
variable {sn:Str}
theorem zdO{k:Int}(h:zbz sn k ms t o=0):za8 sn k o true=0/\xE t=true/\hasT ms t=false/\ms.length<140:=by
 unfold zbz at h
 by_cases h0:za8 sn k o true=0
 rotate_left
 ·rw[ur h0]at h;exact absurd h h0
 rw[uv h0]at h
 by_cases h1:xE t=true
 rotate_left
 ·rw[ur h1]at h;exact absurd h ub
 rw[uv h1]at h
 by_cases h2:hasT ms t=true
 ·rw[uv h2]at h;exact absurd h ub
 rw[ur h2]at h
 by_cases h3:140<=ms.length
 ·rw[uv h3]at h;exact absurd h ub
 exact⟨h0,h1,by simpa using h2,ua⟩
theorem zil{k:Int}{u:Bool}(h:za8 sn k o u=0):okOp k o=true:=by
 unfold za8 at h
 by_cases ho:okOp k o=true
 ·exact ho
 ·rw[ur ho]at h;exact absurd h ub
def zag(ms:List Mt)(t:Int)(o:OpT):List Mt:=zbB ms (xr ms t) (t,o)
theorem zba{k:Int}(hk:TLk k ms)(h:zbz sn k ms t o=0):TLk k (zag ms t o):=by
 obtain⟨h0,h1,h2,h3⟩:=zdO h
 exact zsT hk h3 h1 (zil h0) h2
def zdh(n i p:Nat):Int:=((n - 16*min (i / 16) p:Nat):Int)
theorem zaI(sn:Str){k:Int}(r:Int)(t:Int)(o:OpT)(hk:TLk k ms)(hn:zbz sn k ms t o=0):
 zk Tryz.prog 17 [.one (.bx 0 0),I t,zm (opR o)] (tlC sn k r ms) (I 0) (tlX 3 4 sn k (zdh (zag ms t o).length (xr ms t) (ptO k ms).length) (zag ms t o) (flO k [] (zag ms t o)) (ptO k (zag ms t o))):=by
 obtain⟨h0,h1,h2,h3⟩:=zdO hn
 have hk':=zba hk hn
 have hoa:o.args.length<=64:=(wJ (zil h0)).2.2.2.1
 have hCk:=za3 sn k r ms (flO k [] ms) (ptO k ms) o true
 have hTm:=vh t
 have hml:=xB (yT k ms [])
 have hFl:=yT k ms []
 have hFd:=za1 (sn:=sn) (r:=r) (ps:=ptO k ms) (t:=t) hk (yT k ms []) (wv.1 h1)
 have hCl:=zcq o.args ua
 have hpos:=zcy ms t
 have hIn:=zsL (yB ms (flO k [] ms)) (xr ms t) (ki t) (ki o.code) (zA o.args) (.k (.bool false)) (by rw[hml];exact hpos) (by rw[hml];omega)
 have hmi:zbB (yB ms (flO k [] ms)) (xr ms t) [ki t,ki o.code,zA o.args,.k (.bool false)]=yB (zag ms t o) (zbB (flO k [] ms) (xr ms t) false):=zp8 (m:=(t,o)) hFl
 rw[hmi]at hIn
 obtain⟨hp1,hp2⟩:=zjn (k:=k) (ms:=ms) (ms':=zag ms t o) (i:=xr ms t) λn hn=>zgj hn hpos
 have hal:(zag ms t o).length=ms.length+1:=zaM hpos
 have hRe:=zjm sn (r:=r) (fl:=zbB (flO k [] ms) (xr ms t) false) (ps:=ptO k ms) (i:=xr ms t) hk' (by rw[zaM ua,hFl,hal]) ua (by rw[vo];omega) hp1
  (by rw[zgj ua ua,hp2 _ ua])
 rw[h0]at hCk
 rw[h1]at hTm
 rw[h2]at hFd
 generalize zag ms t o=ms' at hIn hRe⊢
 refine gO T Tryz.func17 λC hC=>?_
 repeat' first|refine gG ?_|exact gD|(exfalso;have h2:=uo h;rw[hml]at h2;omega)|refine gB ?_ ?_<;>intro h|refine gPE ?_|refine gR hCk (nm [0,1,2]) ?_|refine gC hTm ?_|refine gR hFd (nm [0,1,2]) ?_|refine gC hCl ?_|refine zh8 T hC rfl rfl rfl rfl rfl rfl rfl rfl rfl rfl rfl ?_|refine gR hIn (nm [1,1050,103]) ?_|refine gR hRe (nm [0,103,2,99,104]) ?_
 exact gW [0,1,2,103,104]
def zah(ms:List Mt)(t:Int):Nat:=if hasT ms t=true then xr ms t+1 else xr ms t
theorem zct(ms:List Mt)(t:Int):zah ms t<=ms.length:=by
 unfold zah
 split
 ·rename_i h
  unfold hasT at h
  split at h
  ·rename_i m hm;exact(ui.1 hm).1
  ·cases h
 ·exact zcy ms t
noncomputable def stA(k:Int)(ms:List Mt)(t:Int):Rws:=stO k [] (ms.take (zah ms t))
theorem zqx(sn:Str){k:Int}(r:Int)(hk:TLk k ms)(ht:xE t=true):
 zk Tryz.prog 54 [.one (.bx 0 0),I t] (tlC sn k r ms) (zm (stR k (stA k ms t))) (tlC sn k (zdh (zah ms t) (zah ms t) (ptO k ms).length) ms):=by
 have hFl:=yT k ms []
 have hml:=xB hFl
 have hlen:=hk.len
 have hpl:=vo k ms
 have hFd:=za1 (sn:=sn) (r:=r) (ps:=ptO k ms) (t:=t) hk hFl (wv.1 ht)
 have hn:=zct ms t
 have hpos:=zcy ms t
 have hS:=zgi sn (r:=r) (ms:=ms) (flO k [] ms) (ps:=ptO k ms) (i:=zah ms t) hk.k6 ua ua λj R hR hj=>by
  have hlt:=(ui.1 hR).1
  rw[hpl]at hlt
  rw[znd hlt]at hR
  exact(uy hR).symm
 unfold stA zdh
 have hA:16*min (zah ms t / 16) (ptO k ms).length<=zah ms t:=by omega
 generalize 16*min (zah ms t / 16) (ptO k ms).length=A at hS hA⊢
 have hc1:hasT ms t=true->IntKind.i64.wrap ((xr ms t:Int)+1)=(zah ms t:Int):=λh=>by
  rw[yO ua];unfold zah;rw[uv h]
 have hc0:hasT ms t=false->xr ms t=zah ms t:=λh=>by unfold zah;rw[ur (by rw[h];decide)]
 generalize zah ms t=n at*
 have hsub:IntKind.i64.wrap ((n:Int) - (A:Int))=((n - A:Nat):Int):=by rw[show(n:Int) - (A:Int)=((n - A:Nat):Int) by omega];exact wrap64 ua
 cases hh:hasT ms t
 all_goals rw[hh]at hFd
 any_goals rw[hc0 hh]at hFd
 all_goals
  refine gO T Tryz.func54 λC hC=>?_
  repeat' first|refine gG ?_|exact gD|refine gB ?_ ?_<;>intro h|refine gR hFd (nm [0,1,2]) ?_|(rw[hc1 hh])|refine gR hS (nm [0,1,2]) ?_|(rw[hsub])|(refine zur T hC rfl rfl rfl rfl rfl (uw _) ua (by rw[hml];omega) rfl rfl ?_;rw[show((A:Nat):Int).toNat*4=A*4 by rw[uF],show((n:Nat):Int).toNat - ((A:Nat):Int).toNat=n - A by rw[uF,uF]])|refine zqV T hC rfl rfl rfl rfl ?_
  refine zn (λj:Nat=>j<=n - A) (λj=>([(7,.one (.bx 1007 0)),(4,.one (.bx 1004 0)),(38,.one (.sv 1 (A*4) (n - A))),(39,I (n - A:Nat)),(40,I j)],[(0,some (Res.box [.p (ks sn),.p (ki k),.ar 1,.ar 2,.p (ki ((n - A:Nat):Int))])),(1,some (.arr 4 (yB ms (flO k [] ms)))),(2,some (.arr 1 (zas k (ptO k ms)))),(1007,some (Res.box [.p (ki k),.p (yp (stO k [] (ms.take (A+j))))])),(1004,some (Res.box (zV [ZK.int .i64,ZK.slice])))])) (λj=>n - A - j) hC
   0 (uA _) id gM ?_
  intro j hj
  refine zr T hC true 200 rfl ?_
  refine zu rfl ?_ ?_<;>intro h
  ·have hlt:j<n - A:=by have:=uo h;omega
   clear h
   obtain⟨m,hm⟩:=ze (l:=ms) (i:=A+j) ua
   obtain⟨f,_,hrow⟩:=zat hFl hm
   have hv:zJ k (stO k [] (ms.take (A+j)))=true:=wu hk.kind.2 (wX hk.k6) λx hx=>hk.ok x (u6 hx)
   have hAp:=zbq k (stO k [] (ms.take (A+j))) m.2 hv (hk.ok m (List.mem_of_getElem? hm)) hk.kind.2
   have hst:=zbZ (k:=k) hm
   repeat' first|refine gG ?_|exact gD|refine gB ?_ ?_<;>intro h|(refine zmO T hC rfl rfl rfl (uw _) ua rfl rfl ?_;rw[show A*4+((j:Nat):Int).toNat*4=(A+j)*4 by rw[uF];omega])|refine wE T hC (A+j) 0 (rows:=yB ms (flO k [] ms)) (row:=zik m f) rfl rfl rfl ue hrow rfl rfl rfl ?_|refine gC hAp ?_
   rw[yO ua]
   refine zf (j+1) ua id ua ?_
   simp only[show A+(j+1)=A+j+1 from rfl,hst]
   exact gM
  ·have hge:A+j=n:=by have:=uq h;omega
   rw[hge]
   repeat' first|refine gG ?_|refine gB ?_ ?_<;>intro h|refine zj ?_
   exact gE
noncomputable def zeb(sn:Str)(k t:Int)(o:OpT):Int:=if za8 sn k o false=0 then(if xE t=true then 0 else 2)else za8 sn k o false
theorem zlC(sn:Str){k:Int}(r:Int)(t:Int)(o:OpT)(hn:zeb sn k t o≠0):
 zk Tryz.prog 31 [.one (.bx 0 0),I t,zm (opR o)] (tlC sn k r ms) (.tup [zm (rsR ⟨0,0⟩),I (zeb sn k t o)]) (tlC sn k r ms):=by
 have hCk:=za3 sn k r ms (flO k [] ms) (ptO k ms) o false
 have hTm:=vh t
 unfold zeb at hn⊢
 by_cases h0:za8 sn k o false=0
 rotate_left
 ·rw[ur h0]
  generalize za8 sn k o false=e at hCk h0
  refine gO T Tryz.func31 λC hC=>?_
  repeat' first|refine gG ?_|exact gD|(exfalso;exact h0 (by simpa using h))|refine gB ?_ ?_<;>intro h|refine gPE ?_|refine gR hCk (nm [0,1,2]) ?_
  exact gE
 rw[uv h0]at hn⊢
 rw[h0]at hCk
 by_cases h1:xE t=true
 ·rw[uv h1]at hn;exact absurd rfl hn
 rw[ur h1]
 rw[qf]at h1
 rw[h1]at hTm
 refine gO T Tryz.func31 λC hC=>?_
 repeat' first|refine gG ?_|exact gD|refine gB ?_ ?_<;>intro h|refine gPE ?_|refine gR hCk (nm [0,1,2]) ?_|refine gC hTm ?_
 exact gE
theorem zkG{k:Int}(h:zeb sn k t o=0):za8 sn k o false=0/\xE t=true:=by
 unfold zeb at h
 by_cases h0:za8 sn k o false=0
 ·rw[uv h0]at h
  by_cases h1:xE t=true
  ·exact⟨h0,h1⟩
  ·rw[ur h1]at h;exact absurd h ub
 ·rw[ur h0]at h;exact absurd h h0
theorem zbX(sn:Str){k:Int}(r:Int)(t:Int)(o:OpT)(hk:TLk k ms)(hn:zeb sn k t o=0):
 zk Tryz.prog 31 [.one (.bx 0 0),I t,zm (opR o)] (tlC sn k r ms) (.tup [zm (rsR (wq k (stA k ms t) o).2),I 0]) (tlC sn k (zdh (zah ms t) (zah ms t) (ptO k ms).length) ms):=by
 obtain⟨h0,h1⟩:=zkG hn
 have hCk:=za3 sn k r ms (flO k [] ms) (ptO k ms) o false
 have hTm:=vh t
 have hAt:=zqx sn r hk h1
 have hv:zJ k (stA k ms t)=true:=wu hk.kind.2 (wX hk.k6) λx hx=>hk.ok x (u6 hx)
 have hAp:=zbq k (stA k ms t) o hv (zil h0) hk.kind.2
 rw[h0]at hCk
 rw[h1]at hTm
 refine gO T Tryz.func31 λC hC=>?_
 repeat' first|refine gG ?_|exact gD|refine gB ?_ ?_<;>intro h|refine gPE ?_|refine gR hCk (nm [0,1,2]) ?_|refine gC hTm ?_|refine gR hAt (nm [0,1,2]) ?_|refine gC hAp ?_
 exact gE
theorem wD(sn:Str)(k r:Int)(ms:List Mt):zk Tryz.prog 19 [.one (.bx 0 0)] (tlC sn k r ms) (I ms.length) (tlC sn k r ms):=by
 have hml:=xB (yT k ms [])
 refine gO T Tryz.func19 λC hC=>?_
 repeat' first|refine gG ?_|refine gB ?_ ?_<;>intro h|refine gPE ?_
 rw[hml]
 exact gE
def failL:List Mt->List Bool->List Int
 |m::ms,true::fl=>m.1::failL ms fl
 |_::ms,false::fl=>failL ms fl
 |_,_=>[]
theorem zbd: ∀ {ms:List Mt} {fl:List Bool} {j:Nat} {m:Mt} {f:Bool},ms[j]?=some m->fl[j]?=some f->failL (ms.take (j+1)) (fl.take (j+1))=failL (ms.take j) (fl.take j)++(if f=true then [m.1]else [])
 | [],_,_,_,_,h,_=>by simp at h
 |_::_,[],_,_,_,_,h=>by simp at h
 |x::ms,g::fl,0,m,f,h,h'=>by
  simp only[List.getElem?_cons_zero,um]at h h'
  subst h;subst h'
  cases g<;>simp[failL]
 |x::ms,g::fl,j+1,m,f,h,h'=>by
  simp only[qL]at h h'
  have ih:=zbd h h'
  cases g<;>simp only[tX,failL,ih,ta]
theorem zcv: ∀(ms:List Mt) (fl:List Bool),(failL ms fl).length<=ms.length
 | [],fl=>by simp[failL]
 |_::_,[]=>by simp[failL]
 |x::ms,g::fl=>by have:=zcv ms fl;cases g<;>simp[failL]<;>omega
theorem zig(sn:Str)(k r:Int)(ms:List Mt)(hl:ms.length<=140):zk Tryz.prog 36 [.one (.bx 0 0)] (tlC sn k r ms) (pS (zA (failL ms (flO k [] ms)))) (tlC sn k r ms):=by
 have hFl:=yT k ms []
 have hml:=xB hFl
 refine gO T Tryz.func36 λC hC=>?_
 repeat' first|refine gG ?_|refine gB ?_ ?_<;>intro h|refine gPE ?_
 rw[hml]
 refine gA 113 1 [(3,.one (.ar 113))] [] ?_
 refine zn (λj:Nat=>j<=ms.length) (λj=>([(11,.one (.ar 1)),(12,I ms.length),(13,I j),(3,.one (.ar 103))],[(0,some (Res.box [.p (ks sn),.p (ki k),.ar 1,.ar 2,.p (ki r)])),(1,some (.arr 4 (yB ms (flO k [] ms)))),(2,some (.arr 1 (zas k (ptO k ms)))),(103,some (.arr 1 ((failL (ms.take j) ((flO k [] ms).take j)).map zR)))])) (λj=>ms.length - j) hC
  0 (uA _) (mvU 103 113) ⟨rfl,⟨rfl,rfl,rfl,rfl,uh⟩,⟨rfl,rfl,rfl,rfl,uh⟩,rfl,λi hi=>zS ua hi⟩ ?_
 intro j hj
 refine zr T hC true 200 rfl ?_
 refine zu rfl ?_ ?_<;>intro h
 ·have hlt:j<ms.length:=by have:=uo h;omega
  clear h
  obtain⟨m,hm⟩:=ze hlt
  obtain⟨f,hf,hrow⟩:=zat hFl hm
  have hnx:=zbd hm hf
  have hfl:=zcv (ms.take j) ((flO k [] ms).take j)
  rw[uz]at hfl
  have hrl:((failL (ms.take j) ((flO k [] ms).take j)).map zR).length=(failL (ms.take j) ((flO k [] ms).take j)).length:=uj _
  cases f with
  |true=>
   rw[uv rfl]at hnx
   repeat' first|refine gG ?_|refine gB ?_ ?_<;>intro h|refine jA T hC (rows:=yB ms (flO k [] ms)) rfl rfl rfl rfl (uw _) (by rw[hml];omega) rfl rfl ?_|refine wE T hC j 0 (rows:=yB ms (flO k [] ms)) (row:=zik m true) rfl rfl rfl ue hrow rfl rfl rfl ?_|refine gT ?_|refine xa T 123 hC (rows:=(failL (ms.take j) ((flO k [] ms).take j)).map zR) (rows2:=[zR m.1]) (rows3:=(failL (ms.take (j+1)) ((flO k [] ms).take (j+1))).map zR) (bytes:=8) rfl rfl rfl rfl (zae.sl (T.es_ok _ _ rfl)) (by rw[hnx,uY];rfl) rfl rfl rfl ud (by simp only[uC];omega) (by simp only[uC];omega) rfl rfl rfl ?_
   rw[yO ua]
   exact zf (j+1) ua (mvU 103 123) ua ⟨rfl,⟨rfl,rfl,rfl,rfl,uh⟩,⟨rfl,rfl,rfl,rfl,uh⟩,rfl,λi hi=>zS ua hi⟩
  |false=>
   rw[ur ub,qo]at hnx
   repeat' first|refine gG ?_|refine gB ?_ ?_<;>intro h|refine jA T hC (rows:=yB ms (flO k [] ms)) rfl rfl rfl rfl (uw _) (by rw[hml];omega) rfl rfl ?_|refine wE T hC j 0 (rows:=yB ms (flO k [] ms)) (row:=zik m false) rfl rfl rfl ue hrow rfl rfl rfl ?_
   rw[yO ua]
   refine zf (j+1) ua id ua ?_
   simp only[hnx]
   exact gM
 ·have hge:j=ms.length:=by have:=uq h;omega
  subst hge
  rw[tW,<-hFl,tW]
  repeat' first|refine gG ?_|refine gB ?_ ?_<;>intro h|refine zj ?_
  refine gZ 103 [(2,pS (zA (failL ms (flO k [] ms))))] [] ?_
  exact gE
def zgQ(ms:List Mt)(t:Int):Int:=if xE t=true then(if hasT ms t=true then 0 else 12)else 2
def zdi(ms:List Mt)(t:Int):List Mt:=ms.eraseIdx (xr ms t)
theorem zgL(h:hasT ms t=true):xr ms t<ms.length:=by
 unfold hasT at h
 split at h
 ·rename_i m hm;exact(ui.1 hm).1
 ·cases h
theorem zgS{k:Int}(hk:TLk k ms)(t:Int):TLk k (zdi ms t):=by
 have hs:(zdi ms t).Sublist ms:=qC ..
 exact⟨hk.kind,qn hs.length_le hk.len,hk.asc.sublist hs,λm hm=>hk.tm m (hs.subset hm),λm hm=>hk.ok m (hs.subset hm)⟩
theorem zc6{l:List α}{n:Nat}(hn:n<=i)(hi:i<l.length):(l.eraseIdx i).take n=l.take n:=by
 rw[tZ,oX (by rw[uz];omega),oc,oK hn]
theorem zp9(hf:fl.length=ms.length):(yB ms fl).eraseIdx i=yB (ms.eraseIdx i) (fl.eraseIdx i):=by
 unfold yB
 rw[tZ,tZ,tZ,List.zipWith_append (by rw[uz,uz,hf]),List.take_zipWith,List.drop_zipWith]
theorem zlB(sn:Str){k:Int}(r:Int)(t:Int)(hk:TLk k ms)(hn:zgQ ms t≠0):
 zk Tryz.prog 29 [.one (.bx 0 0),I t] (tlC sn k r ms) (I (zgQ ms t)) (tlC sn k r ms):=by
 have hTm:=vh t
 unfold zgQ at hn⊢
 by_cases h1:xE t=true
 rotate_left
 ·rw[ur h1]
  rw[qf]at h1
  rw[h1]at hTm
  refine gO T Tryz.func29 λC hC=>?_
  repeat' first|refine gG ?_|exact gD|refine gB ?_ ?_<;>intro h|refine gPE ?_|refine gC hTm ?_
  exact gE
 rw[uv h1]at hn⊢
 have hFd:=za1 (sn:=sn) (r:=r) (ps:=ptO k ms) (t:=t) hk (yT k ms []) (wv.1 h1)
 rw[h1]at hTm
 by_cases h2:hasT ms t=true
 ·rw[uv h2]at hn;exact absurd rfl hn
 rw[ur h2]
 rw[qf]at h2
 rw[h2]at hFd
 refine gO T Tryz.func29 λC hC=>?_
 repeat' first|refine gG ?_|exact gD|refine gB ?_ ?_<;>intro h|refine gPE ?_|refine gC hTm ?_|refine gR hFd (nm [0,1,2]) ?_
 exact gE
theorem zkH(h:zgQ ms t=0):xE t=true/\hasT ms t=true:=by
 unfold zgQ at h
 by_cases h1:xE t=true
 ·rw[uv h1]at h
  by_cases h2:hasT ms t=true
  ·exact⟨h1,h2⟩
  ·rw[ur h2]at h;exact absurd h ub
 ·rw[ur h1]at h;exact absurd h ub
theorem zim(sn:Str){k:Int}(r:Int)(t:Int)(hk:TLk k ms)(hn:zgQ ms t=0):
 zk Tryz.prog 29 [.one (.bx 0 0),I t] (tlC sn k r ms) (I 0) (tlX 3 4 sn k (zdh (zdi ms t).length (xr ms t) (ptO k ms).length) (zdi ms t) (flO k [] (zdi ms t)) (ptO k (zdi ms t))):=by
 obtain⟨h1,h2⟩:=zkH hn
 have hlt:=zgL h2
 have hk':=zgS hk t
 have hlen:=hk.len
 have hTm:=vh t
 have hFl:=yT k ms []
 have hml:=xB hFl
 have hFd:=za1 (sn:=sn) (r:=r) (ps:=ptO k ms) (t:=t) hk hFl (wv.1 h1)
 have hD:=zsO (yB ms (flO k [] ms)) (xr ms t) (by rw[hml];exact hlt)
 rw[zp9 hFl]at hD
 obtain⟨hp1,hp2⟩:=zjn (k:=k) (ms:=ms) (ms':=zdi ms t) (i:=xr ms t) λn hn=>zc6 hn hlt
 have hal:(zdi ms t).length=ms.length - 1:=by unfold zdi;rw[oY,uv hlt]
 have hRe:=zjm sn (r:=r) (fl:=(flO k [] ms).eraseIdx (xr ms t)) (ps:=ptO k ms) (i:=xr ms t) hk' (by rw[oY,uv ua,hFl,hal]) ua (by rw[vo];omega) hp1
  (by rw[zc6 ua ua,hp2 _ ua])
 rw[h1]at hTm
 rw[h2]at hFd
 rw[show ms.eraseIdx (xr ms t)=zdi ms t from rfl]at hD
 generalize zdi ms t=ms' at hD hRe⊢
 refine gO T Tryz.func29 λC hC=>?_
 repeat' first|refine gG ?_|exact gD|refine gB ?_ ?_<;>intro h|refine gPE ?_|refine gC hTm ?_|refine gR hFd (nm [0,1,2]) ?_|(rw[yO ua])|refine gR hD (nm [1,99,103]) ?_|refine gR hRe (nm [0,103,2,99,104]) ?_
 exact gW [0,1,2,103,104]
end Hw.Fr
namespace Hw.Fr.Md
open Go Go.Proofs Go.Shelf Hw.M
theorem zuL(l:List Int)(hl:l.length<=1000000):zk Tryz.prog 117 [pS (zA l)] [] (.one (.ar 0)) [(0,.arr 1 (l.map zR))]:=by
 have hlm:(l.map zR).length=l.length:=uj _
 refine gO T Tryz.func117 λC hC=>?_
 repeat' first|refine gG ?_|refine gB ?_ ?_<;>intro h|(refine zaU T hC rfl rfl rfl rfl rfl ?_)|refine gY T 102 (l.map zR) 8 ?_
 exact gW [102]
theorem zZ(k:Int)(R:Rws)(n:Int):zk Tryz.prog 118 [zm (stR k R),I n] [] (.tup [zm (stR k R),zm (rsR (okR n))]) []:=by
 refine gO T Tryz.func118 λC hC=>?_
 repeat' first|refine gG ?_|refine gB ?_ ?_<;>intro h
 exact gF
theorem wg(k:Int)(R:Rws)(e:Int):zk Tryz.prog 119 [zm (stR k R),I e] [] (.tup [zm (stR k R),zm (rsR (erR e))]) []:=by
 refine gO T Tryz.func119 λC hC=>?_
 repeat' first|refine gG ?_|refine gB ?_ ?_<;>intro h
 exact gF
theorem znB(R:Rws)(hR:R.length<=1000000)(i:Nat)(hi:i<=R.length)(x:Rw):zk Tryz.prog 120 [pS (yp R),I i,pS (zA x)] [] (pS (yp (ju R i x))) []:=by
 have hlm:(R.map z8).length=R.length:=uj _
 have h1:((R.take i).map z8).length=i:=by rw[uj,uz];omega
 have h2:((R.drop i).map z8).length=R.length - i:=by rw[uj,uQ]
 have h3:((R.take i++[x]).map z8).length=i+1:=by simp;omega
 refine gO T Tryz.func120 λC hC=>?_
 repeat' first|refine gG ?_|refine gB ?_ ?_<;>intro h|(refine zaU T hC rfl rfl rfl rfl rfl ?_)|refine jx T hC ((R.take i).map z8) rfl rfl rfl (uw _) (by rw[hlm];omega) (by rw[uF,qM]) rfl rfl ?_|refine gY T 102 ((R.take i).map z8) 24 ?_|refine gT ?_|refine gY T 103 ((R.take i++[x]).map z8) 24 ?_|refine zd4 T hC ((R.drop i).map z8) rfl rfl rfl (uw _) (by rw[hlm];omega) (by rw[uF,oa]) rfl rfl ?_|refine xa T 104 hC (id:=103) (rows:=(R.take i++[x]).map z8) (rows2:=(R.drop i).map z8) (rows3:=(ju R i x).map z8) (bytes:=24) rfl rfl rfl rfl (zae.sl (T.es_ok _ _ rfl)) (by rw[<-uY,tL];rfl) rfl rfl rfl ud (by rw[h2,h3];omega) (by rw[h2,h3];omega) rfl rfl rfl ?_
 refine gZ 104 [(6,pS (yp (ju R i x)))] [] ?_
 exact gF
theorem zdN(R:Rws)(hR:R.length<=1000000)(i:Nat)(hi:i<R.length):zk Tryz.prog 121 [pS (yp R),I i] [] (pS (yp (R.eraseIdx i))) []:=by
 have hlm:(R.map z8).length=R.length:=uj _
 have h1:((R.take i).map z8).length=i:=by rw[uj,uz];omega
 have h2:((R.drop (i+1)).map z8).length=R.length - (i+1):=by rw[uj,uQ]
 have hw:IntKind.i64.wrap ((i:Int)+1)=((i+1:Nat):Int):=zC ua
 refine gO T Tryz.func121 λC hC=>?_
 repeat' first|refine gG ?_|refine gB ?_ ?_<;>intro h|(refine zaU T hC rfl rfl rfl rfl rfl ?_)|refine jx T hC ((R.take i).map z8) rfl rfl rfl (uw _) (by rw[hlm];omega) (by rw[uF,qM]) rfl rfl ?_|refine gY T 102 ((R.take i).map z8) 24 ?_|(rw[hw];refine zd4 T hC ((R.drop (i+1)).map z8) rfl rfl rfl (uw _) (by rw[hlm];omega) (by rw[uF,oa]) rfl rfl ?_)|refine xa T 104 hC (id:=102) (rows:=(R.take i).map z8) (rows2:=(R.drop (i+1)).map z8) (rows3:=(R.eraseIdx i).map z8) (bytes:=24) rfl rfl rfl rfl (zae.sl (T.es_ok _ _ rfl)) (by rw[<-uY,tZ]) rfl rfl rfl ud (by rw[h1,h2];omega) (by rw[h1,h2];omega) rfl rfl rfl ?_
 refine gZ 104 [(4,pS (yp (R.eraseIdx i)))] [] ?_
 exact gF
theorem zsU(l:List Int)(hl:l.length<=1000000):zk Tryz.prog 117 [pS (zA l)] [] (pS (zA l)) []:=by
 have hlm:(l.map zR).length=l.length:=uj _
 refine gO T Tryz.func117 λC hC=>?_
 repeat' first|refine gG ?_|refine gB ?_ ?_<;>intro h|(refine zaU T hC rfl rfl rfl rfl rfl ?_)|refine gY T 102 (l.map zR) 8 ?_
 refine gZ 102 [(2,pS (zA l))] [] ?_
 exact gF
theorem j6(k:Int)(R:Rws)(hR:R.length<=1000000)(hw: ∀r∈R,r.length<=1000000):zk Tryz.prog 82 [zm (stR k R)] [] (.agg [.p (ki k),.ar 0]) [(0,.arr 1 (R.map z8))]:=by
 have hlm:(R.map z8).length=R.length:=uj _
 refine gO T Tryz.func82 λC hC=>?_
 repeat' first|refine gG ?_|refine gB ?_ ?_<;>intro h
 refine gA 101 1 [] [(1003,[.p (ki k),.ar 101])] ?_
 refine zn (λi:Nat=>i<=R.length) (λi=>([(1,.one (.bx 1001 0)),(2,.one (.bx 1002 0)),(3,.one (.bx 1003 0)),(4,I i)],[(101,some (.arr 1 ((R.take i).map z8))),(1001,some (.box [.p (ki k),.p (yp R)])),(1002,some (.box [.p (ki 0),.p (.k (.slice none 0 0))])),(1003,some (.box [.p (ki k),.ar 101]))])) (λi=>R.length - i) hC
  0 (uA _) id gM ?_
 intro i hi
 refine zr T hC true 200 rfl ?_
 refine zu rfl ?_ ?_<;>intro h
 ·have hlt:i<R.length:=by simpa using h
  clear h
  obtain⟨r,hx⟩:=ze hlt
  have hC1:=zsU r (hw r (List.mem_of_getElem? hx))
  have htl:((R.take i).map z8).length=i:=by rw[uj,uz];omega
  repeat' first|refine gG ?_|refine gB ?_ ?_<;>intro h|refine gI T (zg hx) ?_|refine gC hC1 ?_|refine gT ?_|refine xa T 106 hC (id:=101) (rows:=(R.take i).map z8) (rows2:=[z8 r]) (rows3:=(R.take (i+1)).map z8) (bytes:=24) rfl rfl rfl rfl (zae.sl (T.es_ok _ _ rfl)) (by rw[wz hx,uY];rfl) rfl rfl rfl ud (by rw[htl,uC];omega) (by rw[htl,uC];omega) rfl rfl rfl ?_
  rw[zC ua]
  exact zf (i+1) ua (mvU 101 106) ua ⟨rfl,⟨rfl,rfl,rfl,rfl,uh⟩,⟨rfl,rfl,rfl,rfl,uh⟩,rfl,λi hi=>zS ua hi⟩
 ·have hge:i=R.length:=by
   have: ¬i<R.length:=by simpa using h
   omega
  subst hge
  clear h
  rw[tW]
  repeat' first|refine gG ?_|refine gB ?_ ?_<;>intro h|refine zj ?_
  exact gW [101]
theorem zqa(i:Nat):RwR (TkF 102 104 105 i) (.vw [102,104] 1 (gr i++[[PC.a 1]])) (vg 105 (i+1)):=by
 refine RwR.vw (by rw[uB,xx,xx];rfl) (zam _) λj x' hj=>?_
 have hfl:(gr i).flatten.length=i:=by have:=zeD (zam i);rw[xx,qS]at this;exact this.symm
 rw[zhO,tY]at hj
 rw[tY]
 rcases Nat.lt_or_ge j i with h|h
 ·rw[uP ua]at hj⊢
  rw[zku h]at hj⊢
  exact⟨_,rfl,by rw[<-uy hj];exact TkF.nv⟩
 ·rw[uO ua,hfl]at hj⊢
  cases hji:j - i with
  |zero=>
   try rw[hji]at hj
   have hj:some (PC.n 0 i)=some x':=hj
   exact⟨PC.a 1,rfl,by rw[<-uy hj];exact TkF.ar⟩
  |succ m=>(try rw[hji]at hj);simp at hj
theorem zjo(k:Int)(R:Rws)(hR:R.length<=1000000)(hw: ∀r∈R,r.length<=1000000):zk Tryz.prog 82 [zm (stR k R)] [] (.agg [.p (ki k),.ar 0]) [(0,vg 1 R.length),(1,bg R)]:=by
 have hlm:(R.map z8).length=R.length:=uj _
 refine gO T Tryz.func82 λC hC=>?_
 repeat' first|refine gG ?_|refine gB ?_ ?_<;>intro h
 refine gA 103 1 [] [(1003,[.p (ki k),.ar 103])] ?_
 refine ztX hC rfl 102 1 rfl ?_
 refine zt0 rfl 103 [102] (e:=1) (rows:=[]) (rows':=gr 0) rfl rfl ?_
 refine zn (λi:Nat=>i<=R.length) (λi=>([(1,.one (.bx 1001 0)),(2,.one (.bx 1002 0)),(3,.one (.bx 1003 0)),(4,I i)],[(101,some (vg 102 i)),(102,some (bg (R.take i))),(1001,some (.box [.p (ki k),.p (yp R)])),(1002,some (.box [.p (ki 0),.p (.k (.slice none 0 0))])),(1003,some (.box [.p (ki k),.ar 101]))])) (λi=>R.length - i) hC
  0 (uA _) (mvU 101 103) ⟨rfl,⟨rfl,rfl,rfl,rfl,uh⟩,⟨rfl,rfl,rfl,rfl,rfl,uh⟩,rfl,λi hi=>zS ua hi⟩ ?_
 intro i hi
 refine zr T hC true 200 rfl ?_
 refine zu rfl ?_ ?_<;>intro h
 ·have hlt:i<R.length:=by simpa using h
  clear h
  obtain⟨r,hx⟩:=ze hlt
  have hC1:=zuL r (hw r (List.mem_of_getElem? hx))
  have hbl:((R.take i).map λr=>r.map zR).length=i:=by rw[uj,uz];omega
  have htk:R.take i++[r]=R.take (i+1):=by rw[tG,hx];rfl
  have hj:=zmN (e:=1) (ids:=[102]) (ids2:=[104]) (ids':=[102,104]) (rows:=gr i) (rows2:=[[PC.a 0]]) (rows2':=[[PC.a 1]]) (zam i) ue rfl (λx hx=>by
   rw[gr,jc]at hx
   obtain⟨q,_,rfl⟩:=ql.1 hx
   rfl) (λj x' h=>by
   match j,h with
   |0,h=>exact⟨PC.a 0,rfl,by rw[<-uy h];rfl⟩
   |j+1,h=>simp at h)
  repeat' first|refine gG ?_|refine gB ?_ ?_<;>intro h|refine gI T (zg hx) ?_|refine gR hC1 (nm [104]) ?_|(refine zfP T hC [PC.a 0] [104] rfl rfl rfl rfl rfl rfl rfl rfl rfl rfl rfl rfl ?_)|(refine zfO T 106 hC (id:=101) (rows:=gr i) (rows2:=[[PC.a 0]]) (ids:=[102]) (ids2:=[104]) [102,104] (gr i++[[PC.a 1]]) (bytes:=24) rfl rfl rfl rfl (zqQ.vw (T.es_ok _ _ rfl)) rfl hj.1 hj.2.1 hj.2.2.1 hj.2.2.2 rfl rfl rfl ud (by rw[xx,uC];omega) (by rw[xx,uC];omega) rfl rfl rfl ?_)
  refine ziT hC rfl 102 104 105 (e:=1) (L:=(R.take i).map λr=>r.map zR) (rs:=r.map zR) rfl rfl rfl rfl [] uh [(106,vg 105 (i+1))] ⟨⟨_,rfl,rfl,by rw[hbl];exact zqa i⟩,uh⟩ ?_
  rw[zhP,htk,zC ua]
  exact zf (i+1) ua (mv2 101 106 102 105) ua ⟨rfl,⟨rfl,rfl,rfl,rfl,uh⟩,⟨rfl,rfl,rfl,rfl,rfl,uh⟩,rfl,λi hi=>zm6 ua ua hi⟩
 ·have hge:i=R.length:=by
   have: ¬i<R.length:=by simpa using h
   omega
  subst hge
  clear h
  rw[tW]
  repeat' first|refine gG ?_|refine gB ?_ ?_<;>intro h|refine zj ?_
  exact gW [101,102]
def zgA(R:Rws)(i:Nat):Int:=at0 (yo R i) 0
variable {R:Rws}{i:Nat}
theorem za4(h:yP 2 (ltC 1) R)(k:Int)(hi:i<R.length):zgA R i<k↔i<yD 1 R [k]:=by
 have hr:=ym hi
 have hm:=List.mem_of_getElem? hr
 have hne:yo R i≠ []:=λe=>by have:=h.wide _ hm;rw[e]at this;simp at this
 have hk:ltC 1 (yo R i) [k]=decide (zgA R i<k):=by rw[vt hne ue];rfl
 have hsp:=w9 h zfJ [k]
 constructor
 ·intro hlt
  rcases Nat.lt_or_ge i (yD 1 R [k])with h1|h1
  ·exact h1
  ·have:yo R i∈R.drop (yD 1 R [k]):=by
    refine List.mem_of_getElem? (i:=i - yD 1 R [k]) ?_
    rw[uD,show yD 1 R [k]+(i - yD 1 R [k])=i by omega];exact hr
   have:=hsp.2 _ this
   rw[hk,uX]at this
   exact absurd hlt this
 ·intro h1
  have:yo R i∈R.take (yD 1 R [k]):=by
   refine List.mem_of_getElem? (i:=i) ?_
   rw[uZ,uv h1];exact hr
  have:=hsp.1 _ this
  rw[hk,ux]at this
  exact this
theorem znC(h:yP 2 (ltC 1) R)(k:Int):hasC 1 R [k]=true↔yD 1 R [k]<R.length/\zgA R (yD 1 R [k])=k:=by
 constructor
 ·intro hq
  obtain⟨r,hr,hlt,hk⟩:=jX hq
  refine⟨hlt,?_⟩
  unfold zgA
  rw[yK hr]
  obtain⟨x,y,rfl⟩:=zqZ (h.wide r (List.mem_of_getElem? hr))
  simpa [at0]using hk
 ·rintro⟨hlt,hk⟩
  have hr:=ym hlt
  unfold hasC
  rw[hr]
  obtain⟨x,y,e⟩:=zqZ (h.wide _ (List.mem_of_getElem? hr))
  unfold zgA at hk
  rw[e]at hk⊢
  simpa [at0]using hk
theorem zsV(h:yP 2 (ltC 1) R){j:Nat}(hij:i<j)(hj:j<R.length):zgA R i<zgA R j:=by
 rw[za4 h _ (by omega:i<R.length)]
 rcases Nat.lt_or_ge i (yD 1 R [zgA R j])with h1|h1
 ·exact h1
 ·exfalso
  have hi:=ym (by omega:i<R.length)
  have hjr:=ym hj
  have:=h.asc
  rw[tu]at this
  obtain⟨g1,g2⟩:=ui.1 hi
  obtain⟨g3,g4⟩:=ui.1 hjr
  have h2:=this i j g1 g3 hij
  rw[g2,g4]at h2
  have hni:yo R i≠ []:=λe=>by have:=h.wide _ (List.mem_of_getElem? hi);rw[e]at this;simp at this
  have hnj:yo R j≠ []:=λe=>by have:=h.wide _ (List.mem_of_getElem? hjr);rw[e]at this;simp at this
  rw[vt hni hnj,ux]at h2
  have:=(za4 h (zgA R j) (by omega:i<R.length)).1 h2
  omega
theorem zqb(h:yP 2 (ltC 1) R)(hi:i<R.length):yD 1 R [zgA R i]=i/\hasC 1 R [zgA R i]=true:=by
 have h1:yD 1 R [zgA R i]=i:=by
  rcases Nat.lt_trichotomy (yD 1 R [zgA R i]) i with h2|h2|h2
  ·exfalso
   have:=zsV h h2 hi
   rw[za4 h _ ua]at this
   omega
  ·exact h2
  ·exfalso
   have:=(za4 h (zgA R i) hi).2 h2
   omega
 refine⟨h1,(znC h _).2 ?_⟩
 rw[h1]
 exact⟨hi,rfl⟩
def zbt(R:Rws)(k:Int)(i:Nat):Nat:=((R.take i).filter λr=>decide (at0 r 0<k)).length
def vd(R:Rws)(k:Int)(i:Nat):Bool:=(R.take i).any λr=>decide (at0 r 0=k)
theorem zjp(R:Rws)(k:Int)(i:Nat):zbt R k i<=i:=by
 unfold zbt
 have:=List.length_filter_le (λr=>decide (at0 r 0<k)) (R.take i)
 rw[uz]at this;omega
variable {r:Rw}
theorem zdP{k:Int}(h:R[i]?=some r):zbt R k (i+1)=zbt R k i+(if at0 r 0<k then 1 else 0):=by
 unfold zbt
 rw[wz h,oL,uB]
 congr 1
 simp only[List.filter_cons,List.filter_nil,ux]
 split<;>rfl
theorem zc7{k:Int}(h:R[i]?=some r):vd R k (i+1)=(vd R k i||decide (at0 r 0=k)):=by
 unfold vd
 rw[wz h,List.any_append]
 simp
theorem zgk(hT:yP 2 (ltC 1) R)(k:Int):zbt R k R.length=yD 1 R [k]:=by
 unfold zbt
 rw[tW]
 have hsp:=w9 hT zfJ [k]
 have hle:=jb 1 R [k]
 have key: ∀r∈R,ltC 1 r [k]=decide (at0 r 0<k):=λr hr=>by
  rw[vt (λe=>by have:=hT.wide r hr;rw[e]at this;simp at this) ue];rfl
 conv=>lhs;rw[<-tv (yD 1 R [k]) R]
 rw[oL,uB,Ue.2 λr hr=>by rw[<-key r (u6 hr)];exact hsp.1 r hr,oN.2 λr hr=>by rw[<-key r (tE hr),hsp.2 r hr];decide,uz]
 simp;omega
theorem zdQ(hT:yP 2 (ltC 1) R)(k:Int):vd R k R.length=hasC 1 R [k]:=by
 unfold vd
 rw[tW,og,oB]
 constructor
 ·rintro⟨r,hr,hk⟩
  obtain⟨i,hi⟩:=tj.1 hr
  have hlt:=(ui.1 hi).1
  have hkk:zgA R i=k:=by unfold zgA;rw[yK hi];exact uo hk
  have:=(zqb hT hlt).2
  rw[hkk]at this;exact this
 ·intro h
  obtain⟨h1,h2⟩:=(znC hT k).1 h
  exact⟨_,List.mem_of_getElem? (ym h1),uK h2⟩
theorem zuM(R:Rws)(hR:R.length<=500)(hT:yP 2 (ltC 1) R):zk Tryz.prog 83 [zm (stR 1 R),zm [ki 8,zA []]] [] (.tup [zm (stR 1 R),zm (rsR (okR R.length))]) []:=by
 have hlm:(R.map z8).length=R.length:=uj _
 have hY:=zZ 1 R R.length
 refine gO T Tryz.func83 λC hC=>?_
 repeat' first|refine gG ?_|exact gD|refine gB ?_ ?_<;>intro h|(rw[hlm];refine gC hY ?_)
 all_goals exact gF
inductive DK (R:Rws) (a:Int):Int->List Int->Rws->RsT->Prop
 |k7n (h0:a<0\/(R.length:Int)<=a):DK R a 7 [a] R (erR 2)
 |k7 (j:Nat) (r:Rw) (v:Int) (hq:R[j]?=some r) (hv:r[0]?=some v) (ha:a=j):DK R a 7 [a] R (okR v)
 |k6:DK R a 6 [a] R (okR (yD 1 R [a]))
 |k5n (hp:yD 1 R [a]=R.length):DK R a 5 [a] R (erR 12)
 |k5 (p:Nat) (hpl:p<R.length) (r:Rw) (v:Int) (hp:yD 1 R [a]=p) (hq:R[p]?=some r) (hv:r[0]?=some v):DK R a 5 [a] R (okR v)
 |k4y (hh:hasC 1 R [a]=true):DK R a 4 [a] R (okR a)
 |k4n (hh:hasC 1 R [a]=false) (hp:yD 1 R [a]=0):DK R a 4 [a] R (erR 12)
 |k4 (p:Nat) (hpl:p<R.length) (r:Rw) (v:Int) (hh:hasC 1 R [a]=false) (hp:yD 1 R [a]=p+1) (hq:R[p]?=some r) (hv:r[0]?=some v):DK R a 4 [a] R (okR v)
 |k2n (hh:hasC 1 R [a]=false):DK R a 2 [a] R (erR 12)
 |k3n (hh:hasC 1 R [a]=false):DK R a 3 [a] R (erR 12)
 |k2 (p:Nat) (hpl:p<R.length) (r:Rw) (v:Int) (hh:hasC 1 R [a]=true) (hp:yD 1 R [a]=p) (hq:R[p]?=some r) (hv:r[1]?=some v):DK R a 2 [a] R (okR v)
 |k3 (p:Nat) (hpl:p<R.length) (r:Rw) (v:Int) (hh:hasC 1 R [a]=true) (hp:yD 1 R [a]=p) (hq:R[p]?=some r) (hv:r[1]?=some v):DK R a 3 [a] (R.eraseIdx p) (okR v)
 |k1f (b:Int) (hh:hasC 1 R [a]=false) (h5:R.length=500):DK R a 1 [a,b] R (erR 4)
 |k1 (b:Int) (p:Nat) (hpl:p<=R.length) (h5:R.length<500) (hh:hasC 1 R [a]=false) (hp:yD 1 R [a]=p):DK R a 1 [a,b] (ju R p [a,b]) (okR 0)
theorem xn(hR:R.length<=500)(hT:yP 2 (ltC 1) R){a c:Int}{l:List Int}{R2:Rws}{rs:RsT}(H:DK R a c l R2 rs):zk Tryz.prog 83 [zm (stR 1 R),zm [ki c,zA l]] [] (.tup [zm (stR 1 R2),zm (rsR rs)]) []:=by
 have hlm:(R.map z8).length=R.length:=uj _
 have hl:l[0]?=some a:=by cases H<;>rfl
 have h8:c≠8:=by cases H<;>decide
 refine gO T Tryz.func83 λC hC=>?_
 repeat' first|refine gG ?_|(exfalso;exact h8 (uo h))|refine gB ?_ ?_<;>intro h|refine gI T (yg hl) ?_
 rw[hlm]
 refine zuN 9 rfl (LeS.qb rfl) ?_
 refine zn (λi:Nat=>i<=R.length) (λi=>([(2,.one (.bx 1002 0)),(3,.one (.bx 1003 0)),(4,.one (.bx 1004 0)),(5,.one (.bx 1005 0)),(6,I R.length),(7,I a),(8,I (zbt R a i)),(9,.bq (vd R a i)),(10,I i)],[(1002,some (.box [.p (ki 1),.p (yp R)])),(1003,some (.box [.p (ki c),.p (zA l)])),(1004,some (.box [.p (ki 0),.p (.k (.slice none 0 0))])),(1005,some (.box [.p (ki 0),.p (ki 0),.p (.k (.slice none 0 0))]))])) (λi=>R.length - i) hC
  0 (uA _) id gM ?_
 intro i hi
 refine zr T hC true 200 rfl ?_
 refine zu rfl ?_ ?_<;>intro h
 ·have hlt:i<R.length:=by simpa using h
  clear h
  obtain⟨r,hr⟩:=ze hlt
  obtain⟨x,y,rfl⟩:=zqZ (hT.wide r (List.mem_of_getElem? hr))
  have hl1:=zdP (k:=a) hr
  have ht1:=zc7 (k:=a) hr
  have hle:=zjp R a i
  rw[show at0 [x,y] 0=x from rfl]at hl1 ht1
  by_cases c1:x<a
  ·rw[uv c1]at hl1
   repeat' first|refine gG ?_|(exact absurd c1 (uq h))|refine gB ?_ ?_<;>intro h|refine gI T (zg hr) ?_|refine gV ?_
   all_goals rw[zC ua,zC ua,<-hl1]
   all_goals first
    |refine zaf 9 rfl (LeS.qq (b':=vd R a (i+1)) (by rw[ht1,h];simp)) ?_
    |refine zaf 9 rfl (LeS.qb (b':=vd R a (i+1)) (by rw[ht1,h];simp)) ?_
   all_goals exact zf (i+1) ua id ua gM
  ·have hl1:zbt R a (i+1)=zbt R a i:=by rw[hl1,ur c1];rfl
   repeat' first|refine gG ?_|(exact absurd (uo h) c1)|refine gB ?_ ?_<;>intro h|refine gI T (zg hr) ?_|refine gV ?_
   all_goals rw[zC ua,<-hl1]
   all_goals first
    |refine zaf 9 rfl (LeS.qq (b':=vd R a (i+1)) (by rw[ht1,h];simp)) ?_
    |refine zaf 9 rfl (LeS.qb (b':=vd R a (i+1)) (by rw[ht1,h];simp)) ?_
   all_goals exact zf (i+1) ua id ua gM
 have hge:R.length=i:=by have:=uq h;omega
 subst hge
 clear h hi
 rw[zgk hT,zdQ hT]
 clear hT
 cases H
 case k7n h0=>
  have hY:=wg 1 R 2
  repeat' first|refine gG ?_|exact gD|exact gP|refine gB ?_ ?_<;>intro h|refine zj ?_|refine gC hY ?_
  all_goals exact gF
 case k7 j r v hq hv ha=>
  have hY:=zZ 1 R v
  have hjl:=(ui.1 hq).1
  have hq':(R.map z8)[a.toNat]?=some (z8 r):=by rw[show a.toNat=j by omega];exact zg hq
  repeat' first|refine gG ?_|exact gD|exact gP|refine gB ?_ ?_<;>intro h|refine zj ?_|refine gI T hq' ?_|refine gI T (yg hv) ?_|refine gC hY ?_
  all_goals exact gF
 case k6=>
  have hY:=zZ 1 R (yD 1 R [a])
  repeat' first|refine gG ?_|exact gD|exact gP|refine gB ?_ ?_<;>intro h|refine zj ?_|refine gC hY ?_
  all_goals exact gF
 case k5n hp=>
  have hY:=wg 1 R 12
  rw[hp]
  repeat' first|refine gG ?_|exact gD|exact gP|refine gB ?_ ?_<;>intro h|refine zj ?_|refine gC hY ?_
  all_goals exact gF
 case k5 p hpl r v hp hq hv=>
  have hY:=zZ 1 R v
  rw[hp]
  repeat' first|refine gG ?_|exact gD|exact gP|refine gB ?_ ?_<;>intro h|refine zj ?_|refine gI T (zg hq) ?_|refine gI T (yg hv) ?_|refine gC hY ?_
  all_goals exact gF
 case k4y hh=>
  have hY:=zZ 1 R a
  rw[hh]
  repeat' first|refine gG ?_|exact gD|exact gP|refine gB ?_ ?_<;>intro h|refine zj ?_|refine gC hY ?_
  all_goals exact gF
 case k4n hh hp=>
  have hY:=wg 1 R 12
  rw[hh,hp]
  repeat' first|refine gG ?_|exact gD|exact gP|refine gB ?_ ?_<;>intro h|refine zj ?_|refine gC hY ?_
  all_goals exact gF
 case k4 p hpl r v hh hp hq hv=>
  have hY:=zZ 1 R v
  have hw:IntKind.i64.wrap (((p+1:Nat):Int) - 1)=(p:Int):=by rw[wrap64 ua];omega
  rw[hh,hp]
  repeat' first|refine gG ?_|exact gD|exact gP|refine gB ?_ ?_<;>intro h|refine zj ?_|(rw[hw];refine gI T (zg hq) ?_)|refine gI T (yg hv) ?_|refine gC hY ?_
  all_goals exact gF
 case k2n hh=>
  have hY:=wg 1 R 12
  rw[hh]
  repeat' first|refine gG ?_|exact gD|exact gP|refine gB ?_ ?_<;>intro h|refine zj ?_|refine gC hY ?_
  all_goals exact gF
 case k3n hh=>
  have hY:=wg 1 R 12
  rw[hh]
  repeat' first|refine gG ?_|exact gD|exact gP|refine gB ?_ ?_<;>intro h|refine zj ?_|refine gC hY ?_
  all_goals exact gF
 case k2 p hpl r v hh hp hq hv=>
  have hY:=zZ 1 R v
  rw[hh,hp]
  repeat' first|refine gG ?_|exact gD|exact gP|refine gB ?_ ?_<;>intro h|refine zj ?_|refine gI T (zg hq) ?_|refine gI T (yg hv) ?_|refine gC hY ?_
  all_goals exact gF
 case k3 p hpl r v hh hp hq hv=>
  have hY:=zZ 1 (R.eraseIdx p) v
  have hX:=zdN R ua p hpl
  rw[hh,hp]
  repeat' first|refine gG ?_|exact gD|exact gP|refine gB ?_ ?_<;>intro h|refine zj ?_|refine gI T (zg hq) ?_|refine gI T (yg hv) ?_|refine gC hX ?_|refine gC hY ?_
  all_goals exact gF
 case k1f b hh h5=>
  have hY:=wg 1 R 4
  rw[hh]
  repeat' first|refine gG ?_|exact gD|exact gP|refine gB ?_ ?_<;>intro h|refine zj ?_|refine gC hY ?_
  all_goals exact gF
 case k1 b p hpl h5 hh hp=>
  have hY:=zZ 1 (ju R p [a,b]) 0
  have hX:=znB R ua p hpl [a,b]
  rw[hh,hp]
  repeat' first|refine gG ?_|exact gD|exact gP|refine gB ?_ ?_<;>intro h|refine zj ?_|refine gV ?_|refine gT ?_|refine gC hX ?_|refine gC hY ?_
  all_goals exact gF
theorem zsW(R:Rws)(hR:R.length<=500)(hT:yP 2 (ltC 1) R)(a b:Int)(hh:hasC 1 R [a]=true)(p:Nat)(hp:yD 1 R [a]=p)(hpl:p<R.length)(r:Rw)(hq:R[p]?=some r)(hrl:r.length=2):
 zk Tryz.prog 83 [.agg [.p (ki 1),.ar 0],zm [ki 1,zA [a,b]]] [(0,vg 1 R.length),(1,bg R)] (.tup [zm (stR 1 (R.set p (r.set 1 b))),zm (rsR (okR 1))]) []:=by
 have hY:=zZ 1 (R.set p (r.set 1 b)) 1
 refine gO T Tryz.func83 λC hC=>?_
 repeat' first|refine gG ?_|exact gD|refine gB ?_ ?_<;>intro h|refine gV ?_|refine gJ ?_
 refine zuN 9 rfl (LeS.qb rfl) ?_
 refine zn (λi:Nat=>i<=R.length) (λi=>([(2,.one (.bx 1002 0)),(3,.one (.bx 1003 0)),(4,.one (.bx 1004 0)),(5,.one (.bx 1005 0)),(6,I R.length),(7,I a),(8,I (zbt R a i)),(9,.bq (vd R a i)),(10,I i)],[(0,some (vg 1 R.length)),(1,some (bg R)),(1002,some (.box [.p (ki 1),.ar 0])),(1003,some (.box [.p (ki 1),.p (zA [a,b])])),(1004,some (.box [.p (ki 0),.p (.k (.slice none 0 0))])),(1005,some (.box [.p (ki 0),.p (ki 0),.p (.k (.slice none 0 0))]))])) (λi=>R.length - i) hC
  0 (uA _) id gM ?_
 intro i hi
 refine zr T hC true 200 rfl ?_
 refine zu rfl ?_ ?_<;>intro h
 ·have hlt:i<R.length:=by simpa using h
  clear h
  obtain⟨r,hr⟩:=ze hlt
  obtain⟨x,y,rfl⟩:=zqZ (hT.wide r (List.mem_of_getElem? hr))
  have hl1:=zdP (k:=a) hr
  have ht1:=zc7 (k:=a) hr
  have hle:=zjp R a i
  rw[show at0 [x,y] 0=x from rfl]at hl1 ht1
  have hv:[x,y][0]?=some x:=rfl
  by_cases c1:x<a
  ·rw[uv c1]at hl1
   repeat' first|refine gG ?_|(exact absurd c1 (uq h))|refine gB ?_ ?_<;>intro h|(refine jo T hC i rfl rfl rfl rfl rfl ua rfl rfl ?_;refine we T hC rfl rfl rfl ua rfl rfl ?_)|(refine vJ T hC 0 hr ue rfl rfl rfl rfl rfl rfl ?_;refine vu T hC hr hv rfl rfl rfl rfl rfl ?_)
   all_goals rw[zC ua,zC ua,<-hl1]
   all_goals first
    |refine zaf 9 rfl (LeS.qq (b':=vd R a (i+1)) (by rw[ht1,h];simp)) ?_
    |refine zaf 9 rfl (LeS.qb (b':=vd R a (i+1)) (by rw[ht1,h];simp)) ?_
   all_goals exact zf (i+1) ua id ua gM
  ·have hl1:zbt R a (i+1)=zbt R a i:=by rw[hl1,ur c1];rfl
   repeat' first|refine gG ?_|(exact absurd (uo h) c1)|refine gB ?_ ?_<;>intro h|(refine jo T hC i rfl rfl rfl rfl rfl ua rfl rfl ?_;refine we T hC rfl rfl rfl ua rfl rfl ?_)|(refine vJ T hC 0 hr ue rfl rfl rfl rfl rfl rfl ?_;refine vu T hC hr hv rfl rfl rfl rfl rfl ?_)
   all_goals rw[zC ua,<-hl1]
   all_goals first
    |refine zaf 9 rfl (LeS.qq (b':=vd R a (i+1)) (by rw[ht1,h];simp)) ?_
    |refine zaf 9 rfl (LeS.qb (b':=vd R a (i+1)) (by rw[ht1,h];simp)) ?_
   all_goals exact zf (i+1) ua id ua gM
 have hge:R.length=i:=by have:=uq h;omega
 subst hge
 clear h hi
 rw[zgk hT,zdQ hT,hh,hp]
 have hsl:(R.set p (r.set 1 b)).length=R.length:=tq
 repeat' first|refine gG ?_|exact gD|refine gB ?_ ?_<;>intro h|refine zj ?_|(refine jo T hC p rfl rfl rfl rfl rfl ua rfl rfl ?_;refine we T hC rfl rfl rfl ua rfl rfl ?_)|refine gV ?_|(refine vJ T hC 1 hq ua rfl rfl rfl rfl rfl rfl ?_)|(refine zca T hC hq ua rfl rfl rfl rfl rfl ?_)|(rw[<-hsl];refine zcW rfl [(0,vg 1 (R.set p (r.set 1 b)).length),(1,bg (R.set p (r.set 1 b)))] rfl [(70,zm (stR 1 (R.set p (r.set 1 b))))] ⟨⟨_,rfl,LnS.agg (.cons (.refl _) (.cons (zf3 0 1 _) .nil))⟩,uh⟩ [] uh ?_;refine gC hY ?_)
 exact gF
theorem zkI(R:Rws)(o:OpT)(hv:zJ 1 R=true)(ho:okOp 1 o=true)(hne: ¬(o.code=1/\hasC 1 R o.args=true)):
 zk Tryz.prog 83 [zm (stR 1 R),zm (opR o)] [] (.tup [zm (stR 1 (zT R o).1),zm (rsR (zT R o).2)]) []:=by
 obtain⟨hR,hT⟩:=zf4 hv
 have hrow: ∀(i:Nat),i<R.length->R[i]?=some (yo R i)/\(yo R i).length=2:=λi hi=>⟨ym hi,hT.wide _ (List.mem_of_getElem? (ym hi))⟩
 have hcell: ∀(i j:Nat),i<R.length->j<2->(yo R i)[j]?=some (at0 (yo R i) j):=λi j hi hj=>vD (by rw[(hrow i hi).2];exact hj)
 rcases op1 ho with rfl|⟨a,hc,ha⟩|⟨a,b,rfl,ha,hb⟩
 ·exact zuM R hR hT
 ·have hle:=jb 1 R [a]
  have h7:zk Tryz.prog 83 [zm (stR 1 R),zm (opR ⟨7,[a]⟩)] [] (.tup [zm (stR 1 (zT R ⟨7,[a]⟩).1),zm (rsR (zT R ⟨7,[a]⟩).2)]) []:=by
   by_cases h0:0<=a/\a<R.length
   ·have e:zT R ⟨7,[a]⟩=(R,okR (at0 (yo R a.toNat) 0)):=by simp[zT,at0,h0]
    rw[e]
    have hlt:a.toNat<R.length:=by omega
    exact xn hR hT (.k7 a.toNat _ _ (hrow _ hlt).1 (hcell _ 0 hlt ua) ua)
   ·have e:zT R ⟨7,[a]⟩=(R,erR 2):=by
     simp only[zT]
     rw[ur ub,uv trivial]
     exact ur h0
    rw[e]
    exact xn hR hT (.k7n ua)
  have hyes:=jX (c:=1) (R:=R) (a:=[a])
  cases hq:hasC 1 R [a]with
  |true=>
   obtain⟨r,hr,hlt,_⟩:=hyes hq
   obtain⟨h1,h2⟩:=hrow _ hlt
   rcases hc with rfl|rfl|rfl|rfl|rfl|rfl
   ·have e:zT R ⟨2,[a]⟩=(R,okR (at0 (yo R (yD 1 R [a])) 1)):=by simp[zT,hq]
    rw[e]
    exact xn hR hT (.k2 _ hlt _ _ hq rfl h1 (hcell _ 1 hlt ua))
   ·have e:zT R ⟨3,[a]⟩=(R.eraseIdx (yD 1 R [a]),okR (at0 (yo R (yD 1 R [a])) 1)):=by simp[zT,hq]
    rw[e]
    exact xn hR hT (.k3 _ hlt _ _ hq rfl h1 (hcell _ 1 hlt ua))
   ·have e:zT R ⟨4,[a]⟩=(R,okR a):=by simp[zT,hq,at0]
    rw[e]
    exact xn hR hT (.k4y hq)
   ·have e:zT R ⟨5,[a]⟩=(R,okR (at0 (yo R (yD 1 R [a])) 0)):=by simp[zT,Nat.ne_of_lt hlt]
    rw[e]
    exact xn hR hT (.k5 _ hlt _ _ rfl h1 (hcell _ 0 hlt ua))
   ·exact xn hR hT .k6
   ·exact h7
  |false=>
   rcases hc with rfl|rfl|rfl|rfl|rfl|rfl
   ·have e:zT R ⟨2,[a]⟩=(R,erR 12):=by simp[zT,hq]
    rw[e]
    exact xn hR hT (.k2n hq)
   ·have e:zT R ⟨3,[a]⟩=(R,erR 12):=by simp[zT,hq]
    rw[e]
    exact xn hR hT (.k3n hq)
   ·by_cases h0:yD 1 R [a]=0
    ·have e:zT R ⟨4,[a]⟩=(R,erR 12):=by simp[zT,hq,h0]
     rw[e]
     exact xn hR hT (.k4n hq h0)
    ·obtain⟨i,hi⟩: ∃i,yD 1 R [a]=i+1:=⟨yD 1 R [a] - 1,ua⟩
     have e:zT R ⟨4,[a]⟩=(R,okR (at0 (yo R i) 0)):=by simp[zT,hq,hi]
     rw[e]
     exact xn hR hT (.k4 i ua _ _ hq hi (hrow i ua).1 (hcell _ 0 ua ua))
   ·by_cases h0:yD 1 R [a]=R.length
    ·have e:zT R ⟨5,[a]⟩=(R,erR 12):=by simp[zT,h0]
     rw[e]
     exact xn hR hT (.k5n h0)
    ·have hlt:yD 1 R [a]<R.length:=by omega
     have e:zT R ⟨5,[a]⟩=(R,okR (at0 (yo R (yD 1 R [a])) 0)):=by simp[zT,h0]
     rw[e]
     exact xn hR hT (.k5 _ hlt _ _ rfl (hrow _ hlt).1 (hcell _ 0 hlt ua))
   ·exact xn hR hT .k6
   ·exact h7
 ·have hp:yD 1 R [a,b]=yD 1 R [a]:=(zcb 1 R [a,b]).symm
  have hh:hasC 1 R [a,b]=hasC 1 R [a]:=(zeH 1 R [a,b]).symm
  have hle:=jb 1 R [a]
  cases hq:hasC 1 R [a]with
  |true=>exact absurd ⟨rfl,by rw[hh,hq]⟩ hne
  |false=>
   by_cases h5:R.length=500
   ·have e:zT R ⟨1,[a,b]⟩=(R,erR 4):=by simp[zT,hh,hq,h5]
    rw[e]
    exact xn hR hT (.k1f b hq h5)
   ·have e:zT R ⟨1,[a,b]⟩=(ju R (yD 1 R [a]) [a,b],okR 0):=by simp[zT,hp,hh,hq,h5]
    rw[e]
    exact xn hR hT (.k1 b _ hle ua hq rfl)
theorem znD(R:Rws)(o:OpT)(hv:zJ 1 R=true)(ho:okOp 1 o=true)(h1:o.code=1)(hq:hasC 1 R o.args=true):
 zk Tryz.prog 83 [.agg [.p (ki 1),.ar 0],zm (opR o)] [(0,vg 1 R.length),(1,bg R)] (.tup [zm (stR 1 (zT R o).1),zm (rsR (zT R o).2)]) []:=by
 obtain⟨hR,hT⟩:=zf4 hv
 rcases op1 ho with rfl|⟨a,hc,ha⟩|⟨a,b,rfl,ha,hb⟩
 ·exact absurd h1 ub
 ·rcases hc with rfl|rfl|rfl|rfl|rfl|rfl<;>simp at h1
 ·have hp:yD 1 R [a,b]=yD 1 R [a]:=(zcb 1 R [a,b]).symm
  have hh:hasC 1 R [a,b]=hasC 1 R [a]:=(zeH 1 R [a,b]).symm
  have hq2:=hq
  simp only at hq
  rw[hh]at hq
  obtain⟨r,hr,hlt,_⟩:=jX hq
  have e:zT R ⟨1,[a,b]⟩=(R.set (yD 1 R [a]) ((yo R (yD 1 R [a])).set 1 b),okR 1):=by simp[zT,hp,hh,hq,at0]
  rw[e]
  exact zsW R hR hT a b hq _ rfl hlt _ (ym hlt) (hT.wide _ (List.mem_of_getElem? (ym hlt)))
end Hw.Fr.Md
