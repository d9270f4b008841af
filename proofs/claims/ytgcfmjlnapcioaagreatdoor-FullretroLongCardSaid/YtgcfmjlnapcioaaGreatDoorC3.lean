import Derived.Test.YtgcfmjlnapcioaaGreatDoorC2
import Derived.Test.YtgcfmjlnapcioaaGreatDoorProg
import Derived.KernelRfl
import Derived.Shelf.Small.Strs
import Derived.Shelf.Strings.Prefix
import Derived.Shelf.Strconv.AtoiAll
import Derived.Test.YtgcfmjlnapcioaaGreatDoorC1
import Derived.Test.YtgcfmjlnapcioaaGreatDoorE3
set_option linter.unusedVariables false
set_option linter.unusedSimpArgs false
namespace Hw.Fr.Ps
open Go Go.Proofs Hw.M
variable {α:Type}{i:Nat}
section
variable {l:List Tok}
def RG(l:List Tok)(r:PJ α):Prop:= ∀x j b,r=some (x,j,b)->j<l.length
theorem RG.go{α β:Type}{r:PJ α}{f:α->Nat->PJ β}{g:α->β}(h:RG l r)(hf: ∀y k,k<l.length->RG l (f y k)):RG l (PJ.go r f g):=by
 intro x j b e
 rcases r with _|⟨y,k,_|_⟩
 ·cases e
 ·exact hf y k (h _ _ _ rfl) _ _ _ e
 ·cases e;exact h _ _ _ rfl
theorem RG.ok{α:Type}{x:α}{i:Nat}(h:i<l.length):RG l (PJ.ok x i):=by intro x j b e;cases e;exact h
theorem RG.no{α:Type}{x:α}{i:Nat}(h:i<l.length):RG l (PJ.no x i):=by intro x j b e;cases e;exact h
theorem RG.none{α:Type}:RG (α:=α) l (Option.none):=by intro x j b e;cases e
theorem RG.ite{c:Prop}[Decidable c]{a b:PJ α}(h1:c->RG l a)(h2: ¬c->RG l b):RG l (if c then a else b):=by
 split
 ·rename_i h;exact h1 h
 ·rename_i h;exact h2 h
variable (hl:xG l)
include hl
theorem RG.one(hi:i<l.length)(s:Str):RG l (vW l s i):= .ite (λh=> .ok (zh hl h)) λ_=> .no hi
theorem RG.name(hi:i<l.length):RG l (nameJ l i):=λ_ _ _ e=>(xS hl i hi _ _ _ e).1
theorem RG.int(hi:i<l.length):RG l (zlR l i):=λ_ _ _ e=>(zhe hl i hi _ _ _ e).1
theorem RG.typ(hi:i<l.length):RG l (zg2 l i):=λ_ _ _ e=>(zhf hl i hi _ _ _ e).1
theorem RG.field(hi:i<l.length):RG l (x7 l i):=λ_ _ _ e=>(zaT hl i hi _ _ _ e).1
theorem RG.sep(hi:i<l.length)(s:Str)(n:Nat):RG l (if n=0 then PJ.ok () i else vW l s i):= .ite (λ_=> .ok hi) λ_=> .one hl hi s
theorem ziA{n:Nat}{op:Int}(h:opA l i n=some op):i+1<l.length:=by
 unfold opA at h
 rw[uH]at h
 obtain⟨a,h1,_⟩:=h
 have h2:=q7 h1
 exact zh hl h2
theorem vr: ∀f:Nat,(∀n i,i<l.length->RG l (exprJ l f n i))/\(∀n x i,i<l.length->RG l (moreJ l f n x i))/\(∀i,i<l.length->RG l (postJ l f i))/\(∀x i,i<l.length->RG l (dotsJ l f x i))/\
 (∀i a,i<l.length->RG l (argsJ l f i a))/\(∀k i a,i<l.length->RG l (partsJ l f k i a))/\(∀i,i<l.length->RG l (primJ l f i)):=by
 intro f
 induction f with
 |zero=>exact⟨λ_ _ _=>by simp only[exprJ];exact .none,λ_ _ _ _=>by simp only[moreJ];exact .none,λ_ _=>by simp only[postJ];exact .none,λ_ _ _=>by simp only[dotsJ];exact .none,λ_ _ _=>by simp only[argsJ];exact .none,λ_ _ _ _=>by simp only[partsJ];exact .none,λ_ _=>by simp only[primJ];exact .none⟩
 |succ f ih=>
  obtain⟨h1,h2,h3,h4,h5,h6,h7⟩:=ih
  refine⟨λn i hi=>?_,λn x i hi=>?_,λi hi=>?_,λx i hi=>?_,λi a hi=>?_,λk i a hi=>?_,λi hi=>?_⟩
  ·simp only[exprJ]
   exact .ite (λ_=> .ite (λh=> .go (h1 _ _ (zh hl h)) λ_ _ hk=> .ok hk) λ_=>h1 _ _ hi) λ_=> .ite (λ_=> .ite (λh=> .go (h1 _ _ (zh hl h)) λ_ _ hk=> .ok hk) λ_=>h3 _ hi) λ_=> .go (h1 _ _ hi) λ_ _ hk=>h2 _ _ _ hk
  ·simp only[moreJ]
   cases ho:opA l i n with
   |none=>exact .ok hi
   |some op=>exact .go (h1 _ _ (ziA hl ho)) λ_ _ hk=> .ite (λ_=> .ok hk) λ_=>h2 _ _ _ hk
  ·simp only[postJ];exact .go (h7 _ hi) λ_ _ hk=>h4 _ _ hk
  ·simp only[dotsJ];exact .ite (λh=> .go (.name hl (zh hl h)) λ_ _ hk=>h4 _ _ hk) λ_=> .ok hi
  ·simp only[argsJ];exact .ite (λh=> .ok (zh hl h)) λ_=> .go (.sep hl hi _ _) λ_ _ hk=> .go (h1 _ _ hk) λ_ _ hk=>h5 _ _ hk
  ·simp only[partsJ];exact .ite (λ_=> .go (.one hl hi _) λ_ _ hk=> .ok hk) λ_=> .go (.one hl hi _) λ_ _ hk=> .go (h1 _ _ hk) λ_ _ hk=>h6 _ _ _ hk
  ·simp only[primJ]
   cases ht:l[i]? with
   |none=>exact .no hi
   |some t=>
    refine .ite (λh=> .ok (hl.next ht ua)) λ_=> .ite (λh=> .ite (λh=> .go (h5 _ _ (zh hl h)) λ_ _ hk=> .ok hk) λ_=> .ok (hl.next ht ua)) λ_=>?_
    refine .ite (λh=> .ok (zh hl h)) λ_=> .ite (λh=> .ok (zh hl h)) λ_=> .ite (λh=> .ok (zh hl h)) λ_=> .ite (λh=> .ok (zh hl h)) λ_=> .ite (λh=> .go (.name hl (zh hl h)) λ_ _ hk=> .ok hk) λ_=>?_
    refine .ite (λh=> .go (h6 _ _ _ (zh hl h)) λ_ _ hk=> .ok hk) λ_=> .ite (λh=> .go (h6 _ _ _ (zh hl h)) λ_ _ hk=> .ok hk) λ_=> .ite (λh=> .go (h6 _ _ _ (zh hl h)) λ_ _ hk=> .ok hk) λ_=> .ite (λh=> .go (h6 _ _ _ (zh hl h)) λ_ _ hk=> .ok hk) λ_=>?_
    exact .ite (λh=> .go (h1 _ _ (zh hl h)) λ_ _ hk=> .go (.one hl hk _) λ_ _ hk=> .ok hk) λ_=> .no hi
theorem zbi: ∀f:Nat,(∀i a,i<l.length->RG l (stmtsJ l f i a))/\(∀i,i<l.length->RG l (vB l f i))/\(∀i,i<l.length->RG l (zbO l f i)):=by
 intro f
 induction f with
 |zero=>exact⟨λ_ _ _=>by simp only[stmtsJ];exact .none,λ_ _=>by simp only[vB];exact .none,λ_ _=>by simp only[zbO];exact .none⟩
 |succ f ih=>
  obtain⟨h1,h2,h3⟩:=ih
  have hE:=(vr hl f).1
  have hP:=(vr hl f).2.2.1
  refine⟨λi a hi=>?_,λi hi=>?_,λi hi=>?_⟩
  ·simp only[stmtsJ];exact .ite (λh=> .ok (zh hl h)) λ_=> .go (h3 _ hi) λ_ _ hk=>h1 _ _ hk
  ·simp only[vB];exact .go (.one hl hi _) λ_ _ hk=>h1 _ _ hk
  ·simp only[zbO]
   refine .ite (λh=> .go (hE _ _ (zh hl h)) λ_ _ hk=> .go (h2 _ hk) λ_ _ hk=> .ite (λh=> .go (h2 _ (zh hl h)) λ_ _ hk=> .ok hk) λ_=> .ok hk) λ_=>?_
   refine .ite (λh=> .go (hE _ _ (zh hl h)) λ_ _ hk=> .go (h2 _ hk) λ_ _ hk=> .ok hk) λ_=>?_
   refine .ite (λh=> .ite (λh=> .ok (zh hl h)) λ_=> .go (hE _ _ (zh hl h)) λ_ _ hk=> .go (.one hl hk _) λ_ _ hk=> .ok hk) λ_=>?_
   refine .go (hP _ hi) λ_ _ hk=> .ite (λh=> .go (hE _ _ (zh hl h.1)) λ_ _ hk=> .go (.one hl hk _) λ_ _ hk=> .ok hk) λ_=> .ite (λh=> .go (hE _ _ (zh hl h.1)) λ_ _ hk=> .go (.one hl hk _) λ_ _ hk=> .ok hk) λ_=> .ite (λh=> .go (.one hl hk _) λ_ _ hk=> .ok hk) λ_=> .no hk
theorem zcL{α:Type}(z:α)(sep fin:Str)(one:Nat->PJ α)(ho: ∀i,i<l.length->RG l (one i)): ∀(f i:Nat) (acc:List α),i<l.length->RG l (listJ l z sep fin one f i acc)
 |0,_,_,_=> .none
 |f+1,i,acc,hi=>by
  simp only[listJ]
  exact .ite (λh=> .ok (zh hl h)) λ_=> .go (.sep hl hi _ _) λ_ _ hk=> .go (ho _ hk) λ_ _ hk=>zcL z sep fin one ho f _ _ hk
theorem zhh: ∀(f i:Nat) (acc:List Fld),i<l.length->RG l (locsJ l f i acc)
 |0,_,_,_=> .none
 |f+1,i,acc,hi=>by
  simp only[locsJ]
  exact .ite (λh=> .go (.field hl (zh hl h)) λ_ _ hk=> .go (.one hl hk _) λ_ _ hk=>zhh f _ _ hk) λ_=> .ok hi
theorem zrI(f i:Nat)(hi:i<l.length):RG l (zlS l f i):=
 .go (.name hl hi) λ_ _ hk=> .go (.one hl hk _) λ_ _ hk=> .go (zcL hl _ _ _ _ (λ_ h=> .field hl h) f _ _ hk) λ_ _ hk=> .go (.ite (λ_=> .ok hk) λ_=> .typ hl hk) λ_ _ hk=> .go (.one hl hk _) λ_ _ hk=>
  .go (zhh hl f _ _ hk) λ_ _ hk=> .go ((zbi hl f).1 _ _ hk) λ_ _ hk=> .ok hk
theorem jO(f i:Nat)(hi:i<l.length):RG l (wh l f i):= .go (.one hl hi _) λ_ _ hk=>(vr hl f).1 _ _ hk
theorem zj8(f i:Nat)(hi:i<l.length):RG l (zaP l f i):=
 .go (.name hl hi) λ_ _ hk=> .go (.one hl hk _) λ_ _ hk=> .go (.name hl hk) λ_ _ hk=> .go (.one hl hk _) λ_ _ hk=> .go (.one hl hk _) λ_ k hk=>
  .go (by split
          ·rename_i h;exact .int hl (zh hl h)
          ·exact .int hl hk) λ_ _ hk=> .go (jO hl f _ hk) λ_ _ hk=> .ok hk
theorem zrJ(f i:Nat)(d:xo)(hi:i<l.length):RG l (zdk l f i d):=by
 unfold zdk
 refine .ite (λh=> .go (.name hl (zh hl h)) λ_ _ hk=> .go (.one hl hk _) λ_ _ hk=> .go (zcL hl _ _ _ _ (λ_ h=> .field hl h) f _ _ hk) λ_ _ hk=> .ok hk) λ_=>?_
 refine .ite (λh=> .go (.field hl (zh hl h)) λ_ _ hk=> .ok hk) λ_=> .ite (λh=> .go (zrI hl f _ (zh hl h)) λ_ _ hk=> .ok hk) λ_=> .ite (λh=> .go (zj8 hl f _ (zh hl h)) λ_ _ hk=> .ok hk) λ_=>?_
 refine .ite (λh=> .go (.name hl (zh hl h)) λ_ _ hk=> .go (.ite (λh=> .go (.name hl (zh hl h)) λ_ _ hk=> .go (.one hl hk _) λ_ _ hk=> .ok hk) λ_=> .ok hk) λ_ _ hk=> .go (jO hl f _ hk) λ_ _ hk=> .ok hk) λ_=>?_
 refine .ite (λh=> .go (.ite (λ_=> .ok (zh hl h)) λ_=> .name hl (zh hl h)) λ_ _ hk=> .go (jO hl f _ hk) λ_ _ hk=> .ok hk) λ_=>?_
 exact .ite (λh=> .go (.name hl (zh hl h)) λ_ _ hk=> .go (jO hl f _ hk) λ_ _ hk=> .ok hk) λ_=> .no hi
end
section
variable {l:List Tok} (hl:xG l)
include hl
theorem zj9(f:Nat)(ih: ∀g,g<=f->EX l g)(n i:Nat)(hn:n<=6)(hi:i<l.length):RJ l 271 [rdV,I n] enE i (exprJ l (f+1) n i):=by
 intro xf jf bf hR
 have hjf:=(vr hl (f+1)).1 n i hi _ _ _ hR
 refine⟨hjf,?_⟩
 simp only[exprJ]at hR
 by_cases h2:n=2
 ·subst h2
  rw[uv rfl]at hR
  by_cases hs:isA l i (⟨#[110,111,116]⟩:UW)=true
  ·rw[uv hs]at hR
   obtain⟨y,hy,rfl⟩: ∃y,exprJ l f 2 (i+1)=some (y,jf,bf)/\xf= .mk 18 0 (⟨#[]⟩:UW) [y]:=by
    rcases zhg hR with⟨y,k,h1,h2⟩|⟨y,h1,h2,h3⟩
    ·cases h2;exact⟨y,h1,rfl⟩
    ·subst h3;exact⟨y,h1,h2⟩
   obtain⟨_,hE⟩:=(ih f (uG _)).expr 2 _ ub (zh hl hs) _ _ _ hy
   refine gO T Tryz.func271 λC hC=>?_
   repeat' first|refine gG ?_|exact gD|refine gB ?_ ?_<;>intro h|refine gR (zN hl hs) (nm [0]) ?_|refine gR hE (nm [0]) ?_|refine gH T [zG y] ?_|refine gL ?_
   exact gE
  ·rw[ur hs]at hR
   obtain⟨_,hE⟩:=(ih f (uG _)).expr 3 _ ub hi _ _ _ hR
   have hE':zk Tryz.prog 271 [rdV,I (IntKind.i64.wrap (((2:Nat):Int)+1))] [(0,rdR l i false)] (enE xf) [(0,rdR l jf bf)]:=hE
   refine gO T Tryz.func271 λC hC=>?_
   repeat' first|refine gG ?_|exact gD|refine gB ?_ ?_<;>intro h|refine gR (zF hl hi hs) (nm [0]) ?_|refine gR hE' (nm [0]) ?_|refine gL ?_
   exact gE
 rw[ur h2]at hR
 by_cases h6:n=6
 ·subst h6
  rw[uv rfl]at hR
  by_cases hs:isA l i (⟨#[45]⟩:UW)=true
  ·rw[uv hs]at hR
   obtain⟨y,hy,rfl⟩: ∃y,exprJ l f 6 (i+1)=some (y,jf,bf)/\xf= .mk 8 0 (⟨#[]⟩:UW) [y]:=by
    rcases zhg hR with⟨y,k,h1,h2⟩|⟨y,h1,h2,h3⟩
    ·cases h2;exact⟨y,h1,rfl⟩
    ·subst h3;exact⟨y,h1,h2⟩
   obtain⟨_,hE⟩:=(ih f (uG _)).expr 6 _ ub (zh hl hs) _ _ _ hy
   refine gO T Tryz.func271 λC hC=>?_
   repeat' first|refine gG ?_|exact gD|refine gB ?_ ?_<;>intro h|refine gR (zN hl hs) (nm [0]) ?_|refine gR hE (nm [0]) ?_|refine gH T [zG y] ?_|refine gL ?_
   exact gE
  ·rw[ur hs]at hR
   obtain⟨_,hE⟩:=(ih f (uG _)).post _ hi _ _ _ hR
   refine gO T Tryz.func271 λC hC=>?_
   repeat' first|refine gG ?_|exact gD|refine gB ?_ ?_<;>intro h|refine gR (zF hl hi hs) (nm [0]) ?_|refine gR hE (nm [0]) ?_|refine gL ?_
   exact gE
 rw[ur h6]at hR
 obtain⟨y,k,b1,hp,hg,hb⟩:=yA hR
 have hE:k<l.length/\zk Tryz.prog 271 [rdV,I (IntKind.i64.wrap ((n:Int)+1))] [(0,rdR l i false)] (enE y) [(0,rdR l k b1)]:=by
  rw[zC ua];exact(ih f (uG _)).expr (n+1) _ ua hi _ _ _ hp
 obtain⟨hk,hE⟩:=hE
 refine gO T Tryz.func271 λC hC=>?_
 repeat' first|refine gG ?_|(exfalso;have h':=uo h;omega)|refine gB ?_ ?_<;>intro h|refine gR hE (nm [0]) ?_
 refine zn (λq:Ex×Nat×Bool×Nat=>q.2.1<l.length/\q.2.2.2<=f/\(q.2.2.1=false->moreJ l q.2.2.2 n q.1 q.2.1=some (xf,jf,bf))/\(q.2.2.1=true->xf=q.1/\jf=q.2.1/\bf=true))
  (λq=>([(1,I n),(2,.one (.bx 1002 0)),(4,.one (.bx 1004 0)),(5,.one (.bx 1005 0))],[(0,some (rdR l q.2.1 q.2.2.1)),(1002,some (Res.box [.bx 0 0])),(1004,some z44),(1005,some (Res.box ((yG q.1).map V.p)))])) (λq=>if q.2.2.1 then 0 else q.2.2.2+1) hC
  (y,k,b1,f) ⟨hk,uG _,hg,hb⟩ id gM ?_
 clear hk hg hb hp hE hR
 rintro⟨y,k,b1,g⟩ ⟨hk,hgf,hg,hb⟩
 simp only at hk hgf hg hb
 have hlv:=zme (show n<6 by omega)
 cases b1 with
 |true=>
  obtain⟨rfl,rfl,rfl⟩:=hb rfl
  repeat' first|refine gG ?_|(exfalso;have h':=uq h;omega)|refine gB ?_ ?_<;>intro h|refine gI T (zg hlv) ?_|refine gC jF ?_|refine gR (ziz hl _ hk _) (nm [0,1002]) ?_|refine gL ?_|refine zx ?_
  exact gE
 |false=>
  have hd:=hg rfl
  clear hg hb
  cases g with
  |zero=>simp only[moreJ]at hd;cases hd
  |succ g=>
   simp only[moreJ]at hd
   cases ho:opA l k n with
   |none=>
    rw[ho]at hd
    cases hd
    repeat' first|refine gG ?_|(exfalso;have h':=uq h;omega)|refine gB ?_ ?_<;>intro h|refine gI T (zg hlv) ?_|refine gC jF ?_|refine gR (zmf hl _ hk _ ho) (nm [0,1002]) ?_|refine gL ?_|refine zx ?_
    exact gE
   |some op=>
    rw[ho]at hd
    obtain⟨jj,s,hjj,hs,hI⟩:=zmg hl _ hk _ _ ho
    obtain⟨z,k2,b2,hz,h3,h4⟩:=yA hd
    have hE:k2<l.length/\zk Tryz.prog 271 [rdV,I (IntKind.i64.wrap ((n:Int)+1))] [(0,rdR l (k+1) false)] (enE z) [(0,rdR l k2 b2)]:=by
     rw[zC ua];exact(ih g ua).expr (n+1) _ ua (zh hl hs) _ _ _ hz
    obtain⟨hk2,hE⟩:=hE
    have hll:=hl.len
    have hE2:zk Tryz.prog 271 [rdV,I (IntKind.i64.wrap ((n:Int)+1))] [(0,Res.box [.p (yu l),.p (ki (IntKind.i64.wrap ((k:Int)+1))),.p (.k (.bool false))])] (enE z) [(0,rdR l k2 b2)]:=by
     rw[zC (i:=k) ua];exact hE
    by_cases h3n:n=3
    ·have hfin:xf= .mk op 0 (⟨#[]⟩:UW) [y,z]/\jf=k2/\bf=b2:=by
      cases b2 with
      |false=>have h3:=h3 rfl;rw[uv h3n]at h3;cases h3;exact⟨rfl,rfl,rfl⟩
      |true=>exact h4 rfl
     obtain⟨rfl,rfl,rfl⟩:=hfin
     repeat' first|refine gG ?_|(exfalso;exact absurd h3n (by have:=uq h;omega))|(exfalso;have h':=uo h;omega)|refine gB ?_ ?_<;>intro h|refine gI T (zg hlv) ?_|refine gI T (zg hjj) ?_|refine gC jF ?_|refine gR hI (nm [0,1002]) ?_|refine gR hE2 (nm [0]) ?_|refine gH T [zG y,zG z] ?_|refine gL ?_|refine zx ?_
     exact gE
    ·repeat' first|refine gG ?_|(exfalso;have h':=uo h;omega)|refine gB ?_ ?_<;>intro h|refine gI T (zg hlv) ?_|refine gI T (zg hjj) ?_|refine gC jF ?_|refine gR hI (nm [0,1002]) ?_|refine gR hE2 (nm [0]) ?_|refine gH T [zG y,zG z] ?_|refine gL ?_|refine zx ?_
     exact zf (.mk op 0 (⟨#[]⟩:UW) [y,z],k2,b2,g) ⟨hk2,by simp only;omega,λh=>by have h3:=h3 h;rw[ur h3n]at h3;exact h3,h4⟩ id (by cases b2<;>simp) gM
end
variable {b:Bool}{j:Nat}{u:Unit}
section
variable {l:List Tok} (hl:xG l)
include hl
theorem zqJ{n:Nat}{s:Str}(h:(if n=0 then PJ.ok () i else vW l s i)=some (u,j,b)):(n=0/\j=i/\b=false)\/(n≠0/\isA l i s=true/\j=i+1/\b=false)\/(n≠0/\ ¬isA l i s=true/\j=i/\b=true):=by
 have _:=hl
 split at h
 ·rename_i h0;cases h;exact .inl ⟨h0,rfl,rfl⟩
 ·rename_i h0
  unfold vW at h
  split at h
  ·rename_i hs;cases h;exact .inr (.inl ⟨h0,hs,rfl,rfl⟩)
  ·rename_i hs;cases h;exact .inr (.inr ⟨h0,hs,rfl,rfl⟩)
theorem zka(f:Nat)(ih: ∀g,g<=f->EX l g)(i:Nat)(hi:i<l.length):RJ l 332 [rdV,Sr (⟨#[44]⟩:UW),Sr (⟨#[41]⟩:UW),.one (.cl 228 [.bx 0 0] [])] (λa=>pS (xL a)) i (argsJ l (f+1) i []):=by
 intro af jf bf hR
 have hjf:=(vr hl (f+1)).2.2.2.2.1 i [] hi _ _ _ hR
 refine⟨hjf,?_⟩
 have hll:=hl.len
 refine gO T Tryz.func332 λC hC=>?_
 repeat' first|refine gG ?_|refine gB ?_ ?_<;>intro h
 refine gA 101 4 [(9,.one (.ar 101))] [] ?_
 refine zn (λq:List Ex×Nat×Bool×Nat=>q.2.1<l.length/\q.2.2.2<=f+1/\q.1.length<=100001/\(q.2.2.1=false->q.1.length<=q.2.1/\argsJ l q.2.2.2 q.2.1 q.1=some (af,jf,bf))/\(q.2.2.1=true->af=q.1/\jf=q.2.1/\bf=true))
  (λq=>([(0,rdV),(1,Sr (⟨#[44]⟩:UW)),(2,Sr (⟨#[41]⟩:UW)),(3,.one (.cl 228 [.bx 0 0] [])),(9,.one (.ar 101))],[(0,some (rdR l q.2.1 q.2.2.1)),(101,some (Res.arr 4 (q.1.map zG)))])) (λq=>if q.2.2.1 then 0 else q.2.2.2+1) hC
  ([],i,false,f+1) ⟨hi,uG _,uA _,λ_=>⟨uA _,hR⟩,λh=>by cases h⟩ id gM ?_
 clear hi hR
 rintro⟨acc,k,b1,g⟩ ⟨hk,hgf,hlen,hg,hb⟩
 simp only at hk hgf hlen hg hb
 cases b1 with
 |true=>
  obtain⟨rfl,rfl,rfl⟩:=hb rfl
  repeat' first|refine gG ?_|refine gB ?_ ?_<;>intro h|refine gR (yc hl _ hk _) (nm [0]) ?_|refine zj ?_|refine gL ?_
  refine gZ 101 [(8,pS (xL af))] [] ?_
  exact gE
 |false=>
  obtain⟨hak,hd⟩:=hg rfl
  clear hg hb
  cases g with
  |zero=>simp only[argsJ]at hd;cases hd
  |succ g=>
   simp only[argsJ]at hd
   have hal:(acc.map zG).length=acc.length:=uj _
   by_cases hs:isA l k (⟨#[41]⟩:UW)=true
   ·rw[uv hs]at hd
    cases hd
    repeat' first|refine gG ?_|refine gB ?_ ?_<;>intro h|refine gR (zj4 hl hs) (nm [0]) ?_|refine zj ?_|refine gR (zaw hl hs) (nm [0]) ?_|refine gL ?_
    refine gZ 101 [(8,pS (xL af))] [] ?_
    exact gE
   ·rw[ur hs]at hd
    obtain⟨u,k1,b1,h1,h2,h3⟩:=yA hd
    rcases zqJ hl h1 with⟨h0,rfl,rfl⟩|⟨h0,hsep,rfl,rfl⟩|⟨h0,hsep,rfl,rfl⟩
    ·obtain⟨y,k2,b2,h4,h5,h6⟩:=yA (h2 rfl)
     obtain⟨hk2,hE⟩:=y6 hl (ih g ua) _ hk _ _ _ h4
     have hal':(acc++[y]).length=acc.length+1:=by simp
     repeat' first|refine gG ?_|(exfalso;have h':=uo h;rw[hal]at h';omega)|refine gB ?_ ?_<;>intro h|refine gR (zcJ hl hk hs) (nm [0]) ?_|refine gR hE (nm [0]) ?_|refine gH T [zG y] ?_|(refine gY T 102 ((acc++[y]).map zG) 56 ?_)
     exact zf (acc++[y],k2,b2,g) ⟨hk2,by simp only;omega,by simp only;omega,λe=>by subst e;exact⟨by have:=zfs h4;simp only;omega,h5 rfl⟩,h6⟩ (mvP 101 102) (by cases b2<;>simp) ⟨rfl,⟨rfl,rfl,rfl,rfl,rfl,uh⟩,⟨rfl,rfl,uh⟩,rfl,λi hi=>yI ua hi⟩
    ·obtain⟨y,k2,b2,h4,h5,h6⟩:=yA (h2 rfl)
     obtain⟨hk2,hE⟩:=y6 hl (ih g ua) _ (zh hl hsep) _ _ _ h4
     have hal':(acc++[y]).length=acc.length+1:=by simp
     repeat' first|refine gG ?_|(exfalso;have h':=uq h;rw[hal]at h';omega)|refine gB ?_ ?_<;>intro h|refine gR (zcJ hl hk hs) (nm [0]) ?_|refine gR (zaw hl hsep) (nm [0]) ?_|refine gR hE (nm [0]) ?_|refine gH T [zG y] ?_|(refine gY T 102 ((acc++[y]).map zG) 56 ?_)
     exact zf (acc++[y],k2,b2,g) ⟨hk2,by simp only;omega,by simp only;omega,λe=>by subst e;exact⟨by have:=zfs h4;simp only;omega,h5 rfl⟩,h6⟩ (mvP 101 102) (by cases b2<;>simp) ⟨rfl,⟨rfl,rfl,rfl,rfl,rfl,uh⟩,⟨rfl,rfl,uh⟩,rfl,λi hi=>yI ua hi⟩
    ·have h3:=h3 rfl
     have hal':(acc++[E0]).length=acc.length+1:=by simp
     repeat' first|refine gG ?_|(exfalso;have h':=uq h;rw[hal]at h';omega)|refine gB ?_ ?_<;>intro h|refine gR (zcJ hl hk hs) (nm [0]) ?_|refine gR (zhd hl hk hsep) (nm [0]) ?_|refine gR (wT hl _ hk) (nm [0]) ?_|refine gH T [zG E0] ?_|(refine gY T 102 ((acc++[E0]).map zG) 56 ?_)
     exact zf (acc++[E0],k1,true,g) ⟨hk,by simp only;omega,by simp only;omega,(λe=>by cases e),λ_=>h3⟩ (mvP 101 102) ue ⟨rfl,⟨rfl,rfl,rfl,rfl,rfl,uh⟩,⟨rfl,rfl,uh⟩,rfl,λi hi=>yI ua hi⟩
include hl
theorem zhi(f:Nat)(ih: ∀g,g<=f->EX l g)(i k:Nat)(op:Int)(hk1:1<=k)(hk3:k<=3)(hi:i<l.length):RJ l 333 [rdV,I op,I (k:Nat)] (λa=>enE (.mk op 0 (⟨#[]⟩:UW) a)) i (partsJ l (f+1) k i []):=by
 intro af jf bf hR
 have hjf:=(vr hl (f+1)).2.2.2.2.2.1 k i [] hi _ _ _ hR
 refine⟨hjf,?_⟩
 have hll:=hl.len
 simp only[partsJ]at hR
 rw[ur ua]at hR
 obtain⟨j0,b0,hT,hj0,hA,hB⟩: ∃j0 b0,zk Tryz.prog 147 [rdV,Sr (⟨#[40]⟩:UW)] [(0,rdR l i false)] (.tup []) [(0,rdR l j0 b0)]/\j0<l.length/\(b0=false->PJ.go (exprJ l f 0 j0) (λx i=>partsJ l f (k - 1) i ([]++[x])) (λx=>[]++[x]++List.replicate (k - 1) E0)=some (af,jf,bf))/\(b0=true->af=List.replicate k E0/\jf=j0/\bf=true):=by
  obtain⟨u,j0,b0,h1,h2,h3⟩:=yA hR
  have h1':vW l (⟨#[40]⟩:UW) i=some (u,j0,b0):=h1
  obtain⟨h4,h5⟩:=xR hl i hi _ _ _ _ h1'
  exact⟨j0,b0,h5,h4,h2,λh=>by have:=h3 h;simpa using this⟩
 clear hR
 refine gO T Tryz.func333 λC hC=>?_
 repeat' first|refine gG ?_|refine gB ?_ ?_<;>intro h|refine gR hT (nm [0]) ?_
 refine gA 101 4 [] [(1007,[.p (ki op),.p (ki 0),.p (ks (⟨#[]⟩:UW)),.ar 101])] ?_
 refine zn (λq:List Ex×Nat×Bool×Nat=>q.1.length<=k/\q.2.1<l.length/\q.2.2.2<=f/\
  (q.2.2.1=false->q.1=[]->PJ.go (exprJ l q.2.2.2 0 q.2.1) (λx i=>partsJ l q.2.2.2 (k - 1) i ([]++[x])) (λx=>[]++[x]++List.replicate (k - 1) E0)=some (af,jf,bf))/\
  (q.2.2.1=false->q.1≠ []->partsJ l q.2.2.2 (k - q.1.length) q.2.1 q.1=some (af,jf,bf))/\(q.2.2.1=true->af=q.1++List.replicate (k - q.1.length) E0/\jf=q.2.1/\bf=true))
  (λq=>([(0,rdV),(6,.one (.bx 1006 0)),(7,.one (.bx 1007 0)),(13,I (k:Nat)),(14,I (q.1.length:Nat))],[(0,some (rdR l q.2.1 q.2.2.1)),(1006,some z44),(1007,some (Res.box [.p (ki op),.p (ki 0),.p (ks (⟨#[]⟩:UW)),.ar 101])),(101,some (Res.arr 4 (q.1.map zG)))])) (λq=>k - q.1.length) hC
  ([],j0,b0,f) ⟨uA _,hj0,uG _,λh _=>hA h,λ_ h=>absurd rfl h,λh=>by have:=hB h;simpa using this⟩ id gM ?_
 clear hA hB hT hj0
 rintro⟨acc,j,b,g⟩ ⟨hck,hj,hgf,h1,h2,h3⟩
 simp only at hck hj hgf h1 h2 h3
 have hal:(acc.map zG).length=acc.length:=uj _
 refine zr T hC true 200 rfl ?_
 refine zu rfl ?_ ?_<;>intro hh
 rotate_left
 ·have hge:acc.length=k:=by have:=uq hh;(try dsimp only at this);omega
  clear hh
  refine gZ 101 [] [(1007,[.p (ki op),.p (ki 0),.p (ks (⟨#[]⟩:UW)),.p (xL acc)])] ?_
  cases b with
  |true=>
   obtain⟨e,rfl,rfl⟩:=h3 rfl
   have e:af=acc:=by rw[e,hge,qv];simp
   subst e
   repeat' first|refine gG ?_|refine gB ?_ ?_<;>intro h|refine zj ?_|refine gR (yc hl _ hj _) (nm [0]) ?_|refine gL ?_
   exact gE
  |false=>
   have h2:=h2 rfl (λe=>by rw[e]at hge;simp at hge;omega)
   cases g with
   |zero=>simp only[partsJ]at h2;cases h2
   |succ g=>
    simp only[partsJ]at h2
    rw[uv ua]at h2
    obtain⟨u,j5,b5,h5,h6,h7⟩:=yA h2
    obtain⟨_,hT⟩:=xR hl _ hj _ _ _ _ h5
    have hfin:af=acc/\jf=j5/\bf=b5:=by
     cases b5 with
     |false=>have h6:=h6 rfl;cases h6;exact⟨rfl,rfl,rfl⟩
     |true=>exact h7 rfl
    obtain⟨rfl,rfl,rfl⟩:=hfin
    repeat' first|refine gG ?_|refine gB ?_ ?_<;>intro h|refine zj ?_|refine gR hT (nm [0]) ?_|refine gL ?_
    exact gE
 ·have hlt:acc.length<k:=by have:=uo hh;(try dsimp only at this);omega
  clear hh
  cases b with
  |true=>
   obtain⟨e,rfl,rfl⟩:=h3 rfl
   have e2:af=(acc++[E0])++List.replicate (k - (acc++[E0]).length) E0:=by
    rw[e,uB,uC,tL]
    congr 1
    rw[show k - acc.length=(k - (acc.length+1))+1 by omega,List.replicate_succ]
    rfl
   clear h1 h2 h3
   by_cases h0:acc.length=0
   ·repeat' first|refine gG ?_|(exfalso;have h':=uo h;(try dsimp only at h');omega)|refine gB ?_ ?_<;>intro h|refine gR (wT hl _ hj) (nm [0]) ?_|refine gH T [zG E0] ?_|(refine gY T 102 ((acc++[E0]).map zG) 56 ?_)
    dsimp only
    rw[zC (i:=acc.length) ua,show((acc.length+1:Nat):Int)=((acc++[E0]).length:Int) by simp]
    exact zf (acc++[E0],jf,true,g) ⟨ug,hj,hgf,(λh=>by cases h),(λh=>by cases h),λ_=>⟨e2,rfl,rfl⟩⟩ (mvP 101 102) ug ⟨rfl,⟨rfl,rfl,rfl,rfl,rfl,uh⟩,⟨rfl,rfl,rfl,rfl,uh⟩,rfl,λi hi=>yI ua hi⟩
   ·repeat' first|refine gG ?_|(exfalso;have h':=uq h;(try dsimp only at h');omega)|refine gB ?_ ?_<;>intro h|refine gR (yc hl _ hj _) (nm [0]) ?_|refine gR (wT hl _ hj) (nm [0]) ?_|refine gH T [zG E0] ?_|(refine gY T 102 ((acc++[E0]).map zG) 56 ?_)
    dsimp only
    rw[zC (i:=acc.length) ua,show((acc.length+1:Nat):Int)=((acc++[E0]).length:Int) by simp]
    exact zf (acc++[E0],jf,true,g) ⟨ug,hj,hgf,(λh=>by cases h),(λh=>by cases h),λ_=>⟨e2,rfl,rfl⟩⟩ (mvP 101 102) ug ⟨rfl,⟨rfl,rfl,rfl,rfl,rfl,uh⟩,⟨rfl,rfl,rfl,rfl,uh⟩,rfl,λi hi=>yI ua hi⟩
  |false=>
   clear h3
   by_cases h0:acc.length=0
   ·have h0':acc=[]:=uS.1 h0
    subst h0'
    obtain⟨y,k2,b2,h4,h5,h6⟩:=yA (h1 rfl rfl)
    obtain⟨hk2,hE⟩:=y6 hl (ih g hgf) _ hj _ _ _ h4
    clear h1 h2
    repeat' first|refine gG ?_|(exfalso;have h':=uo h;simp at h';done)|exact gD|refine gB ?_ ?_<;>intro h|refine gR hE (nm [0]) ?_|refine gH T [zG y] ?_|(refine xa T 102 hC (rows:=[]) (rows2:=[zG y]) (rows3:=[y].map zG) (bytes:=56) rfl rfl rfl rfl (zae.sl (T.es_ok _ _ rfl)) rfl rfl rfl rfl ud (by rw[uC,qt];decide) (by rw[uC,qt];decide) rfl rfl rfl ?_)
    exact zf ([y],k2,b2,g) ⟨ug,hk2,hgf,(λ_ h=>by cases h),λh _=>h5 h,λh=>by have:=h6 h;simpa using this⟩ (mvP 101 102) ug ⟨rfl,⟨rfl,rfl,rfl,rfl,rfl,uh⟩,⟨rfl,rfl,rfl,rfl,uh⟩,rfl,λi hi=>yI ua hi⟩
   ·have h2:=h2 rfl (λe=>h0 (by rw[e];rfl))
    clear h1
    cases g with
    |zero=>simp only[partsJ]at h2;cases h2
    |succ g=>
     simp only[partsJ]at h2
     rw[ur ua,ur h0]at h2
     obtain⟨u,j5,b5,h5,h6,h7⟩:=yA h2
     obtain⟨hj5,hT⟩:=xR hl _ hj _ _ _ _ h5
     cases b5 with
     |false=>
      obtain⟨y,k2,b2,h8,h9,h10⟩:=yA (h6 rfl)
      obtain⟨hk2,hE⟩:=y6 hl (ih g ua) _ hj5 _ _ _ h8
      have hle:(acc++[y]).length=acc.length+1:=by simp
      repeat' first|refine gG ?_|(exfalso;have h':=uq h;(try dsimp only at h');omega)|refine gB ?_ ?_<;>intro h|refine gR hT (nm [0]) ?_|refine gR hE (nm [0]) ?_|refine gH T [zG y] ?_|(refine gY T 102 ((acc++[y]).map zG) 56 ?_)
      dsimp only
      rw[zC (i:=acc.length) ua,<-hle]
      exact zf (acc++[y],k2,b2,g) ⟨by simp only;omega,hk2,by simp only;omega,(λ_ h=>by simp at h),(λh _=>by simp only;rw[hle,<-Nat.sub_sub];exact h9 h),λh=>by simp only;rw[hle,<-Nat.sub_sub];exact h10 h⟩ (mvP 101 102) (by simp only;omega) ⟨rfl,⟨rfl,rfl,rfl,rfl,rfl,uh⟩,⟨rfl,rfl,rfl,rfl,uh⟩,rfl,λi hi=>yI ua hi⟩
     |true=>
      obtain⟨e,rfl,rfl⟩:=h7 rfl
      have e2:af=(acc++[E0])++List.replicate (k - (acc++[E0]).length) E0:=by
       rw[e,uB,uC,tL]
       congr 1
       rw[show k - acc.length=(k - (acc.length+1))+1 by omega,List.replicate_succ]
       rfl
      have hle:(acc++[E0]).length=acc.length+1:=by simp
      repeat' first|refine gG ?_|(exfalso;have h':=uq h;(try dsimp only at h');omega)|refine gB ?_ ?_<;>intro h|refine gR hT (nm [0]) ?_|refine gR (wT hl _ hj5) (nm [0]) ?_|refine gH T [zG E0] ?_|(refine gY T 102 ((acc++[E0]).map zG) 56 ?_)
      dsimp only
      rw[zC (i:=acc.length) ua,<-hle]
      exact zf (acc++[E0],jf,true,g) ⟨by simp only;omega,hj5,by simp only;omega,(λh=>by cases h),(λh=>by cases h),λ_=>⟨e2,rfl,rfl⟩⟩ (mvP 101 102) (by simp only;omega) ⟨rfl,⟨rfl,rfl,rfl,rfl,rfl,uh⟩,⟨rfl,rfl,rfl,rfl,uh⟩,rfl,λi hi=>yI ua hi⟩
end
variable {r:PJ α}
theorem zbG{β:Type}{g:α->β}{x:β}(h:PJ.go r (λa i=>PJ.ok (g a) i) g=some (x,j,b)): ∃a,r=some (a,j,b)/\x=g a:=by
 rcases r with _|⟨y,k,_|_⟩
 ·cases h
 ·cases h;exact⟨y,rfl,rfl⟩
 ·cases h;exact⟨y,rfl,rfl⟩
section
variable {l:List Tok} (hl:xG l)
include hl
set_option maxHeartbeats 1000000 in
theorem zkb(f:Nat)(ih: ∀g,g<=f->EX l g)(i:Nat)(hi:i<l.length):RJ l 320 [rdV] enE i (primJ l (f+1) i):=by
 intro xf jf bf hR
 have hjf:=(vr hl (f+1)).2.2.2.2.2.2 i hi _ _ _ hR
 refine⟨hjf,?_⟩
 have hF:=ih f (uG _)
 obtain⟨t,ht⟩:=ze hi
 simp only[primJ]at hR
 rw[ht]at hR
 simp only at hR
 by_cases hk2:t.k=2
 ·rw[uv hk2]at hR
  cases hR
  have hI:zk Tryz.prog 227 [rdV] [(0,rdR l i false)] (I t.n) [(0,rdR l (i+1) false)]:=(zhe hl i hi t.n (i+1) false (by unfold zlR;rw[ht];exact uv hk2)).2
  refine gO T Tryz.func320 λC hC=>?_
  repeat' first|refine gG ?_|(exfalso;exact absurd hk2 (by simpa using h))|refine gB ?_ ?_<;>intro h|refine gI T (zg ht) ?_|refine gR hI (nm [0]) ?_|refine gL ?_
  exact zt ⟨.inl rfl,id,_,rfl,zak _ _ _,⟨rfl,uh⟩,rfl,rfl⟩
 rw[ur hk2]at hR
 by_cases hk1:t.k=1
 ·rw[uv hk1]at hR
  have hnx:=hl.next ht ua
  have hN:zk Tryz.prog 148 [rdV] [(0,rdR l i false)] (Sr t.t) [(0,rdR l (i+1) false)]:=(xS hl i hi t.t (i+1) false (by unfold nameJ;rw[ht];exact uv hk1)).2
  by_cases hs:isA l (i+1) (⟨#[40]⟩:UW)=true
  ·rw[uv hs]at hR
   obtain⟨a,ha,rfl⟩:=zbG hR
   have hA:=(hF.args _ (zh hl hs) _ _ _ ha).2
   refine gO T Tryz.func320 λC hC=>?_
   repeat' first|refine gG ?_|(exfalso;exact absurd hk2 (by simpa using h))|(exfalso;exact absurd hk1 (by simpa using h))|refine gB ?_ ?_<;>intro h|refine gI T (zg ht) ?_|refine gR hN (nm [0]) ?_|refine gR (zN hl hs) (nm [0]) ?_|refine zoA hC rfl rfl rfl rfl rfl rfl ?_|refine gR hA (nm [0]) ?_|refine gL ?_
   exact gE
  ·rw[ur hs]at hR
   cases hR
   refine gO T Tryz.func320 λC hC=>?_
   repeat' first|refine gG ?_|(exfalso;exact absurd hk2 (by simpa using h))|(exfalso;exact absurd hk1 (by simpa using h))|refine gB ?_ ?_<;>intro h|refine gI T (zg ht) ?_|refine gR hN (nm [0]) ?_|refine gR (zF hl hnx hs) (nm [0]) ?_|refine gL ?_
   exact zt ⟨.inl rfl,id,_,rfl,zak _ _ _,⟨rfl,uh⟩,rfl,rfl⟩
 rw[ur hk1]at hR
 by_cases h1:isA l i (⟨#[116,114,117,101]⟩:UW)=true
 ·rw[uv h1]at hR
  cases hR
  refine gO T Tryz.func320 λC hC=>?_
  repeat' first|refine gG ?_|(exfalso;exact absurd (by simpa using h) hk2)|(exfalso;exact absurd (by simpa using h) hk1)|refine gB ?_ ?_<;>intro h|refine gI T (zg ht) ?_|refine zy hC ((zF hl hi uf)) (nm [0]) rfl rfl (yr.refl _) rfl rfl rfl rfl rfl rfl rfl rfl ?_|refine gR (zN hl h1) (nm [0]) ?_|refine gL ?_
  exact zt ⟨.inl rfl,id,_,rfl,zak _ _ _,⟨rfl,uh⟩,rfl,rfl⟩
 rw[ur h1]at hR
 by_cases h2:isA l i (⟨#[102,97,108,115,101]⟩:UW)=true
 ·rw[uv h2]at hR
  cases hR
  refine gO T Tryz.func320 λC hC=>?_
  repeat' first|refine gG ?_|(exfalso;exact absurd (by simpa using h) hk2)|(exfalso;exact absurd (by simpa using h) hk1)|refine gB ?_ ?_<;>intro h|refine gI T (zg ht) ?_|refine zy hC ((zF hl hi uf)) (nm [0]) rfl rfl (yr.refl _) rfl rfl rfl rfl rfl rfl rfl rfl ?_|refine gR (zN hl h2) (nm [0]) ?_|refine gL ?_
  exact zt ⟨.inl rfl,id,_,rfl,zak _ _ _,⟨rfl,uh⟩,rfl,rfl⟩
 rw[ur h2]at hR
 by_cases h3:isA l i (⟨#[110,105,108]⟩:UW)=true
 ·rw[uv h3]at hR
  cases hR
  refine gO T Tryz.func320 λC hC=>?_
  repeat' first|refine gG ?_|(exfalso;exact absurd (by simpa using h) hk2)|(exfalso;exact absurd (by simpa using h) hk1)|refine gB ?_ ?_<;>intro h|refine gI T (zg ht) ?_|refine zy hC ((zF hl hi uf)) (nm [0]) rfl rfl (yr.refl _) rfl rfl rfl rfl rfl rfl rfl rfl ?_|refine gR (zN hl h3) (nm [0]) ?_|refine gL ?_
  exact zt ⟨.inl rfl,id,_,rfl,zak _ _ _,⟨rfl,uh⟩,rfl,rfl⟩
 rw[ur h3]at hR
 by_cases h4:isA l i (⟨#[116,104,105,115]⟩:UW)=true
 ·rw[uv h4]at hR
  cases hR
  refine gO T Tryz.func320 λC hC=>?_
  repeat' first|refine gG ?_|(exfalso;exact absurd (by simpa using h) hk2)|(exfalso;exact absurd (by simpa using h) hk1)|refine gB ?_ ?_<;>intro h|refine gI T (zg ht) ?_|refine zy hC ((zF hl hi uf)) (nm [0]) rfl rfl (yr.refl _) rfl rfl rfl rfl rfl rfl rfl rfl ?_|refine gR (zN hl h4) (nm [0]) ?_|refine gL ?_
  exact zt ⟨.inl rfl,id,_,rfl,zak _ _ _,⟨rfl,uh⟩,rfl,rfl⟩
 rw[ur h4]at hR
 by_cases h5:isA l i (⟨#[110,101,119]⟩:UW)=true
 ·rw[uv h5]at hR
  obtain⟨a,ha,rfl⟩:=zbG hR
  have hN:=(xS hl _ (zh hl h5) _ _ _ ha).2
  refine gO T Tryz.func320 λC hC=>?_
  repeat' first|refine gG ?_|(exfalso;exact absurd (by simpa using h) hk2)|(exfalso;exact absurd (by simpa using h) hk1)|refine gB ?_ ?_<;>intro h|refine gI T (zg ht) ?_|refine zy hC ((zF hl hi uf)) (nm [0]) rfl rfl (yr.refl _) rfl rfl rfl rfl rfl rfl rfl rfl ?_|refine gR (zN hl h5) (nm [0]) ?_|refine gR hN (nm [0]) ?_|refine gL ?_
  exact zt ⟨.inl rfl,id,_,rfl,zak _ _ _,⟨rfl,uh⟩,rfl,rfl⟩
 rw[ur h5]at hR
 by_cases h6:isA l i (⟨#[105,102]⟩:UW)=true
 ·rw[uv h6]at hR
  obtain⟨a,ha,rfl⟩:=zbG hR
  have hN:=(hF.parts _ 3 21 ub ub (zh hl h6) _ _ _ ha).2
  refine gO T Tryz.func320 λC hC=>?_
  repeat' first|refine gG ?_|(exfalso;exact absurd (by simpa using h) hk2)|(exfalso;exact absurd (by simpa using h) hk1)|refine gB ?_ ?_<;>intro h|refine gI T (zg ht) ?_|refine zy hC ((zF hl hi uf)) (nm [0]) rfl rfl (yr.refl _) rfl rfl rfl rfl rfl rfl rfl rfl ?_|refine gR (zN hl h6) (nm [0]) ?_|refine gR hN (nm [0]) ?_|refine gL ?_
  exact gE
 rw[ur h6]at hR
 by_cases h7:isA l i (⟨#[109,97,120]⟩:UW)=true
 ·rw[uv h7]at hR
  obtain⟨a,ha,rfl⟩:=zbG hR
  have hN:=(hF.parts _ 2 22 ub ub (zh hl h7) _ _ _ ha).2
  refine gO T Tryz.func320 λC hC=>?_
  repeat' first|refine gG ?_|(exfalso;exact absurd (by simpa using h) hk2)|(exfalso;exact absurd (by simpa using h) hk1)|refine gB ?_ ?_<;>intro h|refine gI T (zg ht) ?_|refine zy hC ((zF hl hi uf)) (nm [0]) rfl rfl (yr.refl _) rfl rfl rfl rfl rfl rfl rfl rfl ?_|refine gR (zN hl h7) (nm [0]) ?_|refine gR hN (nm [0]) ?_|refine gL ?_
  exact gE
 rw[ur h7]at hR
 by_cases h8:isA l i (⟨#[109,105,110]⟩:UW)=true
 ·rw[uv h8]at hR
  obtain⟨a,ha,rfl⟩:=zbG hR
  have hN:=(hF.parts _ 2 23 ub ub (zh hl h8) _ _ _ ha).2
  refine gO T Tryz.func320 λC hC=>?_
  repeat' first|refine gG ?_|(exfalso;exact absurd (by simpa using h) hk2)|(exfalso;exact absurd (by simpa using h) hk1)|refine gB ?_ ?_<;>intro h|refine gI T (zg ht) ?_|refine zy hC ((zF hl hi uf)) (nm [0]) rfl rfl (yr.refl _) rfl rfl rfl rfl rfl rfl rfl rfl ?_|refine gR (zN hl h8) (nm [0]) ?_|refine gR hN (nm [0]) ?_|refine gL ?_
  exact gE
 rw[ur h8]at hR
 by_cases h9:isA l i (⟨#[108,111,103]⟩:UW)=true
 ·rw[uv h9]at hR
  obtain⟨a,ha,rfl⟩:=zbG hR
  have hN:=(hF.parts _ 1 24 ub ub (zh hl h9) _ _ _ ha).2
  refine gO T Tryz.func320 λC hC=>?_
  repeat' first|refine gG ?_|(exfalso;exact absurd (by simpa using h) hk2)|(exfalso;exact absurd (by simpa using h) hk1)|refine gB ?_ ?_<;>intro h|refine gI T (zg ht) ?_|refine zy hC ((zF hl hi uf)) (nm [0]) rfl rfl (yr.refl _) rfl rfl rfl rfl rfl rfl rfl rfl ?_|refine gR (zN hl h9) (nm [0]) ?_|refine gR hN (nm [0]) ?_|refine gL ?_
  exact gE
 rw[ur h9]at hR
 by_cases h10:isA l i (⟨#[40]⟩:UW)=true
 ·rw[uv h10]at hR
  obtain⟨y,k,b1,hp,hg,hb⟩:=yA hR
  obtain⟨hk,hE⟩:=y6 hl hF _ (zh hl h10) _ _ _ hp
  cases b1 with
  |false=>
   obtain⟨u,k2,b2,h11,h12,h13⟩:=yA (hg rfl)
   have hfin:xf=y/\jf=k2/\bf=b2:=by
    cases b2 with
    |false=>have e:=h12 rfl;cases e;exact⟨rfl,rfl,rfl⟩
    |true=>exact h13 rfl
   obtain⟨rfl,rfl,rfl⟩:=hfin
   have hT:=(xR hl _ hk _ _ _ _ h11).2
   refine gO T Tryz.func320 λC hC=>?_
   repeat' first|refine gG ?_|(exfalso;exact absurd (by simpa using h) hk2)|(exfalso;exact absurd (by simpa using h) hk1)|refine gB ?_ ?_<;>intro h|refine gI T (zg ht) ?_|refine zy hC ((zF hl hi uf)) (nm [0]) rfl rfl (yr.refl _) rfl rfl rfl rfl rfl rfl rfl rfl ?_|refine gR (zN hl h10) (nm [0]) ?_|refine gR hE (nm [0]) ?_|refine gR hT (nm [0]) ?_|refine gL ?_
   exact gE
  |true=>
   obtain⟨rfl,rfl,rfl⟩:=hb rfl
   refine gO T Tryz.func320 λC hC=>?_
   repeat' first|refine gG ?_|(exfalso;exact absurd (by simpa using h) hk2)|(exfalso;exact absurd (by simpa using h) hk1)|refine gB ?_ ?_<;>intro h|refine gI T (zg ht) ?_|refine zy hC ((zF hl hi uf)) (nm [0]) rfl rfl (yr.refl _) rfl rfl rfl rfl rfl rfl rfl rfl ?_|refine gR (zN hl h10) (nm [0]) ?_|refine gR hE (nm [0]) ?_|refine gR (yc hl _ hk _) (nm [0]) ?_|refine gL ?_
   exact gE
 rw[ur h10]at hR
 cases hR
 refine gO T Tryz.func320 λC hC=>?_
 repeat' first|refine gG ?_|(exfalso;exact absurd (by simpa using h) hk2)|(exfalso;exact absurd (by simpa using h) hk1)|refine gB ?_ ?_<;>intro h|refine gI T (zg ht) ?_|refine zy hC ((zF hl hi uf)) (nm [0]) rfl rfl (yr.refl _) rfl rfl rfl rfl rfl rfl rfl rfl ?_|refine gL ?_
 exact zt ⟨.inl rfl,id,_,rfl,zak _ _ _,⟨rfl,uh⟩,rfl,rfl⟩
theorem zmk: ∀f:Nat,EX l f:=by
 intro f
 induction f using Nat.strongRecOn with
 |_ f ih=>
  cases f with
  |zero=>exact⟨(λ_ _ _ _ _ _ _ h=>by simp only[exprJ]at h;cases h),(λ_ _ _ _ _ h=>by simp only[postJ]at h;cases h),(λ_ _ _ _ _ h=>by simp only[primJ]at h;cases h),(λ_ _ _ _ _ h=>by simp only[argsJ]at h;cases h),(λ_ _ _ _ _ _ _ _ _ h=>by simp only[partsJ]at h;cases h)⟩
  |succ f=>
   have ih': ∀g,g<=f->EX l g:=λg hg=>ih g ua
   exact⟨λn i hn hi=>zj9 hl f ih' n i hn hi,λi hi=>zj7 hl f ih' i hi,λi hi=>zkb hl f ih' i hi,λi hi=>zka hl f ih' i hi,λi k op h1 h3 hi=>zhi hl f ih' i k op h1 h3 hi⟩
end
def F5(x:Ex):Prop:=x.op=5-> ∃y,x.l=[y]
theorem F5.of{op n:Int}{s:Str}{l:List Ex}(h:op≠5):F5 (.mk op n s l):=λe=>absurd e h
theorem F5.one{op n:Int}{s:Str}{y:Ex}:F5 (.mk op n s [y]):=λ_=>⟨y,rfl⟩
theorem zrK{l:List Tok}{n:Nat}{op:Int}(h:opA l i n=some op):9<=op:=by
 unfold opA at h
 rw[uH]at h
 obtain⟨a,h1,rfl⟩:=h
 have hm:=qI h1
 have: ∀n,∀a∈opsA n,9<=a.2:=by
  intro n
  by_cases h:n<6
  ·have:n=0\/n=1\/n=2\/n=3\/n=4\/n=5:=by omega
   rcases this with rfl|rfl|rfl|rfl|rfl|rfl<;>decide
  ·have:opsA n=[]:=by unfold opsA;split<;>first|omega|rfl
   rw[this];simp
 exact this n a hm
section
variable {l:List Tok}
theorem zwz: ∀f:Nat,(∀n i x j,exprA l f n i= .ok x j->F5 x)/\(∀n y i x j,F5 y->moreA l f n y i= .ok x j->F5 x)/\(∀i x j,postA l f i= .ok x j->F5 x)/\(∀y i x j,F5 y->dotsA l f y i= .ok x j->F5 x)/\(∀i x j,primA l f i= .ok x j->F5 x):=by
 intro f
 induction f with
 |zero=>
  refine⟨λn i x j h=>?_,λn y i x j _ h=>?_,λi x j h=>?_,λy i x j _ h=>?_,λi x j h=>?_⟩
  all_goals simp only[exprA,moreA,postA,dotsA,primA,reduceCtorEq]at h
 |succ f ih=>
  obtain⟨iE,iM,iP,iD,iR⟩:=ih
  refine⟨λn i x j h=>?_,λn y i x j hy h=>?_,λi x j h=>?_,λy i x j hy h=>?_,λi x j h=>?_⟩
  ·unfold exprA at h
   split at h
   ·split at h
    ·obtain⟨y,k,h1,h⟩:=zi h
     cases h;exact .one
    ·exact iE _ _ _ _ h
   ·split at h
    ·split at h
     ·obtain⟨y,k,h1,h⟩:=zi h
      cases h;exact .one
     ·exact iP _ _ _ h
    ·obtain⟨y,k,h1,h⟩:=zi h
     exact iM _ _ _ _ _ (iE _ _ _ _ h1) h
  ·unfold moreA at h
   split at h
   ·cases h;exact hy
   ·rename_i op ho
    have hb:=zrK ho
    obtain⟨z,k,h1,h⟩:=zi h
    split at h
    ·cases h;exact .of ua
    ·exact iM _ _ _ _ _ (.of ua) h
  ·unfold postA at h
   obtain⟨y,k,h1,h⟩:=zi h
   exact iD _ _ _ _ (iR _ _ _ h1) h
  ·unfold dotsA at h
   split at h
   ·obtain⟨s,k,h1,h⟩:=zi h
    exact iD _ _ _ _ .one h
   ·cases h;exact hy
  ·unfold primA at h
   cases hl:l[i]? with
   |none=>rw[hl]at h;cases h
   |some t=>
   rw[hl]at h
   simp only at h
   rcases zq h with⟨_,h⟩|⟨_,h⟩
   ·cases h;exact .of ub
   rcases zq h with⟨_,h⟩|⟨_,h⟩
   ·rcases zq h with⟨_,h⟩|⟨_,h⟩
    ·obtain⟨a,k,h1,h⟩:=zi h;cases h;exact .of ub
    ·cases h;exact .of ub
   rcases zq h with⟨_,h⟩|⟨_,h⟩
   ·cases h;exact .of ub
   rcases zq h with⟨_,h⟩|⟨_,h⟩
   ·cases h;exact .of ub
   rcases zq h with⟨_,h⟩|⟨_,h⟩
   ·cases h;exact .of ub
   rcases zq h with⟨_,h⟩|⟨_,h⟩
   ·cases h;exact .of ub
   rcases zq h with⟨_,h⟩|⟨_,h⟩
   ·obtain⟨a,k,h1,h⟩:=zi h;cases h;exact .of ub
   rcases zq h with⟨_,h⟩|⟨_,h⟩
   ·obtain⟨a,k,h1,h⟩:=zi h;cases h;exact .of ub
   rcases zq h with⟨_,h⟩|⟨_,h⟩
   ·obtain⟨a,k,h1,h⟩:=zi h;cases h;exact .of ub
   rcases zq h with⟨_,h⟩|⟨_,h⟩
   ·obtain⟨a,k,h1,h⟩:=zi h;cases h;exact .of ub
   rcases zq h with⟨_,h⟩|⟨_,h⟩
   ·obtain⟨a,k,h1,h⟩:=zi h;cases h;exact .of ub
   rcases zq h with⟨_,h⟩|⟨_,h⟩
   ·obtain⟨a,k,h1,h⟩:=zi h;obtain⟨u,k2,h2,h⟩:=zi h;cases h;exact iE _ _ _ _ h1
   ·cases h
theorem zml{f:Nat}{x:Ex}(h:postJ l f i=some (x,j,false)):F5 x:=by
 have:=zo1 h
 rw[(jD f).2.2.1]at this
 exact(zwz f).2.2.1 _ _ _ this
end
variable {bf:Bool}{jf:Nat}
section
variable {l:List Tok} (hl:xG l)
include hl
set_option maxHeartbeats 2000000 in
theorem zkc(f i:Nat)(hi:i<l.length)(h1: ¬isA l i (⟨#[105,102]⟩:UW)=true)(h2: ¬isA l i (⟨#[119,104,105,108,101]⟩:UW)=true)(h3: ¬isA l i (⟨#[114,101,116,117,114,110]⟩:UW)=true){xf:Sm}
 (hR:PJ.go (postJ l f i) (λx i=>
   if isA l i (⟨#[61]⟩:UW)=true/\x.op=4/\x.s≠(⟨#[116,104,105,115]⟩:UW)then PJ.go (exprJ l f 0 (i+1)) (λy i=>PJ.go (vW l (⟨#[59]⟩:UW) i) (λ_ i=> .ok (.mk 1 x.s [y] [] []) i) (λ_=> .mk 1 x.s [y] [] [])) (λy=> .mk 1 x.s [y] [] [])
   else if isA l i (⟨#[61]⟩:UW)=true/\x.op=5 then PJ.go (exprJ l f 0 (i+1)) (λy i=>PJ.go (vW l (⟨#[59]⟩:UW) i) (λ_ i=> .ok (.mk 2 x.s (x.l.take 1++[y]) [] []) i) (λ_=> .mk 2 x.s (x.l.take 1++[y]) [] [])) (λy=> .mk 2 x.s (x.l.take 1++[y]) [] [])
   else if x.op=7 then PJ.go (vW l (⟨#[59]⟩:UW) i) (λ_ i=> .ok (.mk 6 (⟨#[]⟩:UW) [x] [] []) i) (λ_=> .mk 6 (⟨#[]⟩:UW) [x] [] [])
   else .no (.mk 6 (⟨#[]⟩:UW) [x] [] []) i) (λx=> .mk 6 (⟨#[]⟩:UW) [x] [] [])=some (xf,jf,bf)):
 zk Tryz.prog 270 [rdV] [(0,rdR l i false)] (zm (za7 xf)) [(0,rdR l jf bf)]:=by
 have hll:=hl.len
 have hX:=zmk hl f
 obtain⟨x,k,b,hx,hg,hb⟩:=yA hR
 obtain⟨hk,hP⟩:=hX.post i hi _ _ _ hx
 cases b with
 |true=>
  obtain⟨rfl,rfl,rfl⟩:=hb rfl
  obtain⟨op,n,s,L⟩:=x
  refine gO T Tryz.func270 λC hC=>?_
  repeat' first|refine gG ?_|exact gD|refine gB ?_ ?_<;>intro h|refine zy hC ((zF hl hi uf)) (nm [0]) rfl rfl (yr.refl _) rfl rfl rfl rfl rfl rfl rfl rfl ?_|refine gR hP (nm [0]) ?_|refine gH T [zG (.mk op n s L)] ?_|refine gR (xw hl _ hk _) (nm [0]) ?_|refine gR (yc hl _ hk _) (nm [0]) ?_|refine gL ?_
  all_goals (exact zt ⟨.inl rfl,id,_,rfl,.agg (.cons (.refl _) (.cons (.refl _) (.cons (.refl _) (.cons (.nil 5) (.cons (.nil 5) .nil))))),⟨rfl,uh⟩,rfl,rfl⟩)
 |false=>
  have h5:=zml hx
  have hd:=hg rfl
  clear hg hb hR hx
  obtain⟨op,n,s,L⟩:=x
  simp only[Ex.op,Ex.s,Ex.l]at hd
  simp only[F5,Ex.op,Ex.l]at h5
  by_cases h4:op=4
  ·subst h4
   simp only[UL,reduceCtorEq,UA,tO,show ¬((4:Int)=5) by decide,show ¬((4:Int)=7) by decide]at hd
   by_cases ht:s=(⟨#[116,104,105,115]⟩:UW)
   ·simp only[ht,ne_eq,not_true_eq_false,UA,tO]at hd
    subst ht
    have hd':xf= .mk 6 (⟨#[]⟩:UW) [.mk 4 n (⟨#[116,104,105,115]⟩:UW) L] [] []/\jf=k/\bf=true:=by cases hd;exact⟨rfl,rfl,rfl⟩
    obtain⟨rfl,rfl,rfl⟩:=hd'
    refine gO T Tryz.func270 λC hC=>?_
    repeat' first|refine gG ?_|(exfalso;simp[Ex.op,Ex.s]at h;done)|refine gB ?_ ?_<;>intro h|refine zy hC ((zF hl hi uf)) (nm [0]) rfl rfl (yr.refl _) rfl rfl rfl rfl rfl rfl rfl rfl ?_|refine gR hP (nm [0]) ?_|refine gH T [zG (.mk 4 n (⟨#[116,104,105,115]⟩:UW) L)] ?_|refine zy hC ((zF hl hk uf)) (nm [0]) rfl rfl (yr.refl _) rfl rfl rfl rfl rfl rfl rfl rfl ?_|refine gR (yc hl _ hk _) (nm [0]) ?_|refine gL ?_
    all_goals (exact zt ⟨.inl rfl,id,_,rfl,.agg (.cons (.refl _) (.cons (.refl _) (.cons (.refl _) (.cons (.nil 5) (.cons (.nil 5) .nil))))),⟨rfl,uh⟩,rfl,rfl⟩)
   ·by_cases hs:isA l k (⟨#[61]⟩:UW)=true
    ·rw[uv ⟨hs,ht⟩]at hd
     obtain⟨y,k1,b1,hy,hg1,hb1⟩:=yA hd
     obtain⟨hk1,hE⟩:=y6 hl hX _ (zh hl hs) _ _ _ hy
     cases b1 with
     |true=>
      obtain⟨rfl,rfl,rfl⟩:=hb1 rfl
      refine gO T Tryz.func270 λC hC=>?_
      repeat' first|refine gG ?_|(exfalso;simp[Ex.op,Ex.s,ht]at h;done)|refine gB ?_ ?_<;>intro h|refine zy hC ((zF hl hi uf)) (nm [0]) rfl rfl (yr.refl _) rfl rfl rfl rfl rfl rfl rfl rfl ?_|refine gR hP (nm [0]) ?_|refine gH T [zG (.mk 4 n s L)] ?_|refine gR (zN hl hs) (nm [0]) ?_|refine gR hE (nm [0]) ?_|refine gH T [zG y] ?_|refine gR (yc hl _ hk1 _) (nm [0]) ?_|refine gL ?_
      exact zt ⟨.inl rfl,id,_,rfl,.agg (.cons (.refl _) (.cons (.refl _) (.cons (.refl _) (.cons (.nil 5) (.cons (.nil 5) .nil))))),⟨rfl,uh⟩,rfl,rfl⟩
     |false=>
      obtain⟨u,k2,b2,h4,h6,h7⟩:=yA (hg1 rfl)
      obtain⟨_,hT⟩:=xR hl _ hk1 _ _ _ _ h4
      have hfin:xf= .mk 1 s [y] [] []/\jf=k2/\bf=b2:=by
       cases b2 with
       |false=>have e:=h6 rfl;cases e;exact⟨rfl,rfl,rfl⟩
       |true=>exact h7 rfl
      obtain⟨rfl,rfl,rfl⟩:=hfin
      refine gO T Tryz.func270 λC hC=>?_
      repeat' first|refine gG ?_|(exfalso;simp[Ex.op,Ex.s,ht]at h;done)|refine gB ?_ ?_<;>intro h|refine zy hC ((zF hl hi uf)) (nm [0]) rfl rfl (yr.refl _) rfl rfl rfl rfl rfl rfl rfl rfl ?_|refine gR hP (nm [0]) ?_|refine gH T [zG (.mk 4 n s L)] ?_|refine gR (zN hl hs) (nm [0]) ?_|refine gR hE (nm [0]) ?_|refine gH T [zG y] ?_|refine gR hT (nm [0]) ?_|refine gL ?_
      exact zt ⟨.inl rfl,id,_,rfl,.agg (.cons (.refl _) (.cons (.refl _) (.cons (.refl _) (.cons (.nil 5) (.cons (.nil 5) .nil))))),⟨rfl,uh⟩,rfl,rfl⟩
    ·simp only[hs,false_and,tO]at hd
     have hd':xf= .mk 6 (⟨#[]⟩:UW) [.mk 4 n s L] [] []/\jf=k/\bf=true:=by cases hd;exact⟨rfl,rfl,rfl⟩
     obtain⟨rfl,rfl,rfl⟩:=hd'
     refine gO T Tryz.func270 λC hC=>?_
     repeat' first|refine gG ?_|(exfalso;simp[Ex.op,Ex.s,ht]at h;done)|refine gB ?_ ?_<;>intro h|refine zy hC ((zF hl hi uf)) (nm [0]) rfl rfl (yr.refl _) rfl rfl rfl rfl rfl rfl rfl rfl ?_|refine gR hP (nm [0]) ?_|refine gH T [zG (.mk 4 n s L)] ?_|refine zy hC ((zF hl hk uf)) (nm [0]) rfl rfl (yr.refl _) rfl rfl rfl rfl rfl rfl rfl rfl ?_|refine gR (yc hl _ hk _) (nm [0]) ?_|refine gL ?_
     all_goals (exact zt ⟨.inl rfl,id,_,rfl,.agg (.cons (.refl _) (.cons (.refl _) (.cons (.refl _) (.cons (.nil 5) (.cons (.nil 5) .nil))))),⟨rfl,uh⟩,rfl,rfl⟩)
  simp only[h4,false_and,UA,tO]at hd
  by_cases h55:op=5
  ·subst h55
   obtain⟨y0,rfl⟩:=h5 rfl
   simp only[and_true,show ¬((5:Int)=7) by decide,tO]at hd
   by_cases hs:isA l k (⟨#[61]⟩:UW)=true
   ·rw[uv hs]at hd
    obtain⟨y,k1,b1,hy,hg1,hb1⟩:=yA hd
    obtain⟨hk1,hE⟩:=y6 hl hX _ (zh hl hs) _ _ _ hy
    cases b1 with
    |true=>
     obtain⟨rfl,rfl,rfl⟩:=hb1 rfl
     refine gO T Tryz.func270 λC hC=>?_
     repeat' first|refine gG ?_|(exfalso;simp[Ex.op,Ex.s]at h;done)|refine gB ?_ ?_<;>intro h|refine zy hC ((zF hl hi uf)) (nm [0]) rfl rfl (yr.refl _) rfl rfl rfl rfl rfl rfl rfl rfl ?_|refine gR hP (nm [0]) ?_|refine gH T [zG (.mk 5 n s [y0])] ?_|refine gR (zN hl hs) (nm [0]) ?_|refine yM T hC (row:=yG y0) rfl rfl rfl (qB _) (jy (l:=[y0]) (i:=0) rfl) rfl rfl ?_|refine gR hE (nm [0]) ?_|refine gH T [zG y0,zG y] ?_|refine gR (yc hl _ hk1 _) (nm [0]) ?_|refine gL ?_
     exact zt ⟨.inl rfl,id,_,rfl,.agg (.cons (.refl _) (.cons (.refl _) (.cons (.refl _) (.cons (.nil 5) (.cons (.nil 5) .nil))))),⟨rfl,uh⟩,rfl,rfl⟩
    |false=>
     obtain⟨u,k2,b2,h4,h6,h7⟩:=yA (hg1 rfl)
     obtain⟨_,hT⟩:=xR hl _ hk1 _ _ _ _ h4
     have hfin:xf= .mk 2 s [y0,y] [] []/\jf=k2/\bf=b2:=by
      cases b2 with
      |false=>have e:=h6 rfl;cases e;exact⟨rfl,rfl,rfl⟩
      |true=>exact h7 rfl
     obtain⟨rfl,rfl,rfl⟩:=hfin
     refine gO T Tryz.func270 λC hC=>?_
     repeat' first|refine gG ?_|(exfalso;simp[Ex.op,Ex.s]at h;done)|refine gB ?_ ?_<;>intro h|refine zy hC ((zF hl hi uf)) (nm [0]) rfl rfl (yr.refl _) rfl rfl rfl rfl rfl rfl rfl rfl ?_|refine gR hP (nm [0]) ?_|refine gH T [zG (.mk 5 n s [y0])] ?_|refine gR (zN hl hs) (nm [0]) ?_|refine yM T hC (row:=yG y0) rfl rfl rfl (qB _) (jy (l:=[y0]) (i:=0) rfl) rfl rfl ?_|refine gR hE (nm [0]) ?_|refine gH T [zG y0,zG y] ?_|refine gR hT (nm [0]) ?_|refine gL ?_
     exact zt ⟨.inl rfl,id,_,rfl,.agg (.cons (.refl _) (.cons (.refl _) (.cons (.refl _) (.cons (.nil 5) (.cons (.nil 5) .nil))))),⟨rfl,uh⟩,rfl,rfl⟩
   ·rw[ur hs]at hd
    have hd':xf= .mk 6 (⟨#[]⟩:UW) [.mk 5 n s [y0]] [] []/\jf=k/\bf=true:=by cases hd;exact⟨rfl,rfl,rfl⟩
    obtain⟨rfl,rfl,rfl⟩:=hd'
    refine gO T Tryz.func270 λC hC=>?_
    repeat' first|refine gG ?_|(exfalso;simp[Ex.op,Ex.s]at h;done)|refine gB ?_ ?_<;>intro h|refine zy hC ((zF hl hi uf)) (nm [0]) rfl rfl (yr.refl _) rfl rfl rfl rfl rfl rfl rfl rfl ?_|refine gR hP (nm [0]) ?_|refine gH T [zG (.mk 5 n s [y0])] ?_|refine zy hC ((zF hl hk uf)) (nm [0]) rfl rfl (yr.refl _) rfl rfl rfl rfl rfl rfl rfl rfl ?_|refine gR (yc hl _ hk _) (nm [0]) ?_|refine gL ?_
    all_goals (exact zt ⟨.inl rfl,id,_,rfl,.agg (.cons (.refl _) (.cons (.refl _) (.cons (.refl _) (.cons (.nil 5) (.cons (.nil 5) .nil))))),⟨rfl,uh⟩,rfl,rfl⟩)
  simp only[h55,UA,tO]at hd
  by_cases h7:op=7
  ·subst h7
   simp only[eq_self,qx]at hd
   obtain⟨u,k2,b2,h4',h6,h7⟩:=yA hd
   obtain⟨_,hT⟩:=xR hl _ hk _ _ _ _ h4'
   have hfin:xf= .mk 6 (⟨#[]⟩:UW) [.mk 7 n s L] [] []/\jf=k2/\bf=b2:=by
    cases b2 with
    |false=>have e:=h6 rfl;cases e;exact⟨rfl,rfl,rfl⟩
    |true=>exact h7 rfl
   obtain⟨rfl,rfl,rfl⟩:=hfin
   refine gO T Tryz.func270 λC hC=>?_
   repeat' first|refine gG ?_|(exfalso;simp[Ex.op,Ex.s]at h;done)|refine gB ?_ ?_<;>intro h|refine zy hC ((zF hl hi uf)) (nm [0]) rfl rfl (yr.refl _) rfl rfl rfl rfl rfl rfl rfl rfl ?_|refine gR hP (nm [0]) ?_|refine gH T [zG (.mk 7 n s L)] ?_|refine gR hT (nm [0]) ?_|refine gL ?_
   exact zt ⟨.inl rfl,id,_,rfl,.agg (.cons (.refl _) (.cons (.refl _) (.cons (.refl _) (.cons (.nil 5) (.cons (.nil 5) .nil))))),⟨rfl,uh⟩,rfl,rfl⟩
  simp only[h7,tO]at hd
  have hd':xf= .mk 6 (⟨#[]⟩:UW) [.mk op n s L] [] []/\jf=k/\bf=true:=by cases hd;exact⟨rfl,rfl,rfl⟩
  obtain⟨rfl,rfl,rfl⟩:=hd'
  refine gO T Tryz.func270 λC hC=>?_
  repeat' first|refine gG ?_|(exfalso;simp[Ex.op,Ex.s,h4,h55,h7]at h;done)|refine gB ?_ ?_<;>intro h|refine zy hC ((zF hl hi uf)) (nm [0]) rfl rfl (yr.refl _) rfl rfl rfl rfl rfl rfl rfl rfl ?_|refine gR hP (nm [0]) ?_|refine gH T [zG (.mk op n s L)] ?_|refine zy hC ((zF hl hk uf)) (nm [0]) rfl rfl (yr.refl _) rfl rfl rfl rfl rfl rfl rfl rfl ?_|refine gR (yc hl _ hk _) (nm [0]) ?_|refine gL ?_
  all_goals (exact zt ⟨.inl rfl,id,_,rfl,.agg (.cons (.refl _) (.cons (.refl _) (.cons (.refl _) (.cons (.nil 5) (.cons (.nil 5) .nil))))),⟨rfl,uh⟩,rfl,rfl⟩)
end
theorem zmm{l:List Tok}{f:Nat}{x:Sm}(h:zbO l f i=some (x,j,false)):i<j:=by
 have:=zo1 h
 rw[(zem f).2.2]at this
 exact((ziu f).2.2 _ _ _ this).1
structure SX (l:List Tok) (f:Nat):Prop where
 stmts: ∀i,i<l.length->RJ l 226 [rdV] (λa=>pS (yF a)) i (stmtsJ l f i [])
 block: ∀i,i<l.length->RJ l 296 [rdV] (λa=>pS (yF a)) i (vB l f i)
 stmt: ∀i,i<l.length->RJ l 270 [rdV] (λs=>zm (za7 s)) i (zbO l f i)
section
variable {l:List Tok} (hl:xG l)
include hl
theorem zhj(f:Nat)(ih: ∀g,g<=f->SX l g)(i:Nat)(hi:i<l.length):RJ l 296 [rdV] (λa=>pS (yF a)) i (vB l (f+1) i):=by
 intro xf jf bf hR
 have hjf:=(zbi hl (f+1)).2.1 i hi _ _ _ hR
 refine⟨hjf,?_⟩
 simp only[vB]at hR
 obtain⟨u,k,b,h1,h2,h3⟩:=yA hR
 obtain⟨hk,hT⟩:=xR hl i hi _ _ _ _ h1
 cases b with
 |true=>
  obtain⟨rfl,rfl,rfl⟩:=h3 rfl
  refine gO T Tryz.func296 λC hC=>?_
  repeat' first|refine gG ?_|refine gB ?_ ?_<;>intro h|refine gR hT (nm [0]) ?_|refine gR (zbh hl _ hk) (nm [0]) ?_|refine gL ?_
  exact gE
 |false=>
  obtain⟨_,hS⟩:=(ih f (uG _)).stmts k hk _ _ _ (h2 rfl)
  refine gO T Tryz.func296 λC hC=>?_
  repeat' first|refine gG ?_|refine gB ?_ ?_<;>intro h|refine gR hT (nm [0]) ?_|refine gR hS (nm [0]) ?_|refine gL ?_
  exact gE
theorem zhk(f:Nat)(ih: ∀g,g<=f->SX l g)(i:Nat)(hi:i<l.length):RJ l 226 [rdV] (λa=>pS (yF a)) i (stmtsJ l (f+1) i []):=by
 intro af jf bf hR
 have hjf:=(zbi hl (f+1)).1 i [] hi _ _ _ hR
 refine⟨hjf,?_⟩
 have hll:=hl.len
 refine gO T Tryz.func226 λC hC=>?_
 repeat' first|refine gG ?_|refine gB ?_ ?_<;>intro h
 refine gA 101 5 [(3,.one (.ar 101))] [] ?_
 refine zn (λq:List Sm×Nat×Bool×Nat=>q.2.1<l.length/\q.2.2.2<=f+1/\q.1.length<=100001/\(q.2.2.1=false->q.1.length<=q.2.1/\stmtsJ l q.2.2.2 q.2.1 q.1=some (af,jf,bf))/\(q.2.2.1=true->af=q.1/\jf=q.2.1/\bf=true))
  (λq=>([(0,rdV),(3,.one (.ar 101))],[(0,some (rdR l q.2.1 q.2.2.1)),(101,some (Res.arr 5 (q.1.map vC)))])) (λq=>if q.2.2.1 then 0 else q.2.2.2+1) hC
  ([],i,false,f+1) ⟨hi,uG _,uA _,λ_=>⟨uA _,hR⟩,λh=>by cases h⟩ id gM ?_
 clear hi hR
 rintro⟨acc,k,b1,g⟩ ⟨hk,hgf,hlen,hg,hb⟩
 simp only at hk hgf hlen hg hb
 cases b1 with
 |true=>
  obtain⟨rfl,rfl,rfl⟩:=hb rfl
  repeat' first|refine gG ?_|exact gD|refine gB ?_ ?_<;>intro h|refine zj ?_|refine gR (yc hl _ hk _) (nm [0]) ?_|refine gL ?_
  refine gZ 101 [(2,pS (yF af))] [] ?_
  exact gE
 |false=>
  obtain⟨hak,hd⟩:=hg rfl
  clear hg hb
  cases g with
  |zero=>simp only[stmtsJ]at hd;cases hd
  |succ g=>
   simp only[stmtsJ]at hd
   have hal:(acc.map vC).length=acc.length:=uj _
   by_cases hs:isA l k ⟨#[125]⟩=true
   ·rw[uv hs]at hd
    cases hd
    repeat' first|refine gG ?_|exact gD|refine gB ?_ ?_<;>intro h|refine gR (zj4 hl hs) (nm [0]) ?_|refine zj ?_|refine gR (zaw hl hs) (nm [0]) ?_|refine gL ?_
    refine gZ 101 [(2,pS (yF af))] [] ?_
    exact gE
   ·rw[ur hs]at hd
    obtain⟨y,k2,b2,h4,h5,h6⟩:=yA hd
    obtain⟨hk2,hE⟩:=(ih g ua).stmt k hk _ _ _ h4
    have hal':(acc++[y]).length=acc.length+1:=by simp
    repeat' first|refine gG ?_|exact gD|refine gB ?_ ?_<;>intro h|refine gR (zcJ hl hk hs) (nm [0]) ?_|refine gR hE (nm [0]) ?_|refine gH T [vC y] ?_|(refine gY T 102 ((acc++[y]).map vC) 96 ?_)
    exact zf (acc++[y],k2,b2,g) ⟨hk2,by simp only;omega,by simp only;omega,λe=>by subst e;exact⟨by have:=zmm h4;simp only;omega,h5 rfl⟩,h6⟩ (mvP 101 102) (by cases b2<;>simp) ⟨rfl,⟨rfl,rfl,uh⟩,⟨rfl,rfl,uh⟩,rfl,λi hi=>yI ua hi⟩
set_option maxHeartbeats 2000000 in
theorem zkd(f:Nat)(ih: ∀g,g<=f->SX l g)(i:Nat)(hi:i<l.length):RJ l 270 [rdV] (λs=>zm (za7 s)) i (zbO l (f+1) i):=by
 intro xf jf bf hR
 have hjf:=(zbi hl (f+1)).2.2 i hi _ _ _ hR
 refine⟨hjf,?_⟩
 have hll:=hl.len
 have hS:=ih f (uG _)
 have hX:=zmk hl f
 simp only[zbO]at hR
 by_cases h1:isA l i (⟨#[105,102]⟩:UW)=true
 ·rw[uv h1]at hR
  have hi1:=zh hl h1
  obtain⟨x,k,b,hx,hg,hb⟩:=yA hR
  obtain⟨hk,hE⟩:=y6 hl hX _ hi1 _ _ _ hx
  cases b with
  |true=>
   obtain⟨rfl,rfl,rfl⟩:=hb rfl
   refine gO T Tryz.func270 λC hC=>?_
   repeat' first|refine gG ?_|refine gB ?_ ?_<;>intro h|refine gR (zN hl h1) (nm [0]) ?_|refine gR hE (nm [0]) ?_|refine gH T [zG x] ?_|refine gR (zdz hl _ hk) (nm [0]) ?_|refine gR (xw hl _ hk _) (nm [0]) ?_|refine gL ?_
   exact zt ⟨.inl rfl,id,_,rfl,.agg (.cons (.refl _) (.cons (.refl _) (.cons (.refl _) (.cons (.refl _) (.cons (.nil 5) .nil))))),⟨rfl,uh⟩,rfl,rfl⟩
  |false=>
   obtain⟨a,k2,b2,ha,hg2,hb2⟩:=yA (hg rfl)
   obtain⟨hk2,hB⟩:=hS.block k hk _ _ _ ha
   cases b2 with
   |true=>
    obtain⟨rfl,rfl,rfl⟩:=hb2 rfl
    refine gO T Tryz.func270 λC hC=>?_
    repeat' first|refine gG ?_|refine gB ?_ ?_<;>intro h|refine gR (zN hl h1) (nm [0]) ?_|refine gR hE (nm [0]) ?_|refine gH T [zG x] ?_|refine gR hB (nm [0]) ?_|refine gR (xw hl _ hk2 _) (nm [0]) ?_|refine gL ?_
    exact zt ⟨.inl rfl,id,_,rfl,.agg (.cons (.refl _) (.cons (.refl _) (.cons (.refl _) (.cons (.refl _) (.cons (.nil 5) .nil))))),⟨rfl,uh⟩,rfl,rfl⟩
   |false=>
    have hd:=hg2 rfl
    by_cases hs:isA l k2 (⟨#[101,108,115,101]⟩:UW)=true
    ·rw[uv hs]at hd
     obtain⟨c,hc,rfl⟩:=zbG hd
     obtain⟨_,hB2⟩:=hS.block _ (zh hl hs) _ _ _ hc
     refine gO T Tryz.func270 λC hC=>?_
     repeat' first|refine gG ?_|refine gB ?_ ?_<;>intro h|refine gR (zN hl h1) (nm [0]) ?_|refine gR hE (nm [0]) ?_|refine gH T [zG x] ?_|refine gR hB (nm [0]) ?_|refine gR (zN hl hs) (nm [0]) ?_|refine gR hB2 (nm [0]) ?_|refine gL ?_
     exact zt ⟨.inl rfl,id,_,rfl,.agg (.cons (.refl _) (.cons (.refl _) (.cons (.refl _) (.cons (.refl _) (.cons (.refl _) .nil))))),⟨rfl,uh⟩,rfl,rfl⟩
    ·rw[ur hs]at hd
     cases hd
     refine gO T Tryz.func270 λC hC=>?_
     repeat' first|refine gG ?_|refine gB ?_ ?_<;>intro h|refine gR (zN hl h1) (nm [0]) ?_|refine gR hE (nm [0]) ?_|refine gH T [zG x] ?_|refine gR hB (nm [0]) ?_|refine gR (zF hl hk2 hs) (nm [0]) ?_|refine gL ?_
     exact zt ⟨.inl rfl,id,_,rfl,.agg (.cons (.refl _) (.cons (.refl _) (.cons (.refl _) (.cons (.refl _) (.cons (.nil 5) .nil))))),⟨rfl,uh⟩,rfl,rfl⟩
 rw[ur h1]at hR
 by_cases h2:isA l i (⟨#[119,104,105,108,101]⟩:UW)=true
 ·rw[uv h2]at hR
  have hi1:=zh hl h2
  obtain⟨x,k,b,hx,hg,hb⟩:=yA hR
  obtain⟨hk,hE⟩:=y6 hl hX _ hi1 _ _ _ hx
  cases b with
  |true=>
   obtain⟨rfl,rfl,rfl⟩:=hb rfl
   refine gO T Tryz.func270 λC hC=>?_
   repeat' first|refine gG ?_|refine gB ?_ ?_<;>intro h|refine zy hC ((zF hl hi uf)) (nm [0]) rfl rfl (yr.refl _) rfl rfl rfl rfl rfl rfl rfl rfl ?_|refine gR (zN hl h2) (nm [0]) ?_|refine gR hE (nm [0]) ?_|refine gH T [zG x] ?_|refine gR (zdz hl _ hk) (nm [0]) ?_|refine gL ?_
   exact zt ⟨.inl rfl,id,_,rfl,.agg (.cons (.refl _) (.cons (.refl _) (.cons (.refl _) (.cons (.refl _) (.cons (.nil 5) .nil))))),⟨rfl,uh⟩,rfl,rfl⟩
  |false=>
   obtain⟨a,ha,rfl⟩:=zbG (hg rfl)
   obtain⟨_,hB⟩:=hS.block k hk _ _ _ ha
   refine gO T Tryz.func270 λC hC=>?_
   repeat' first|refine gG ?_|refine gB ?_ ?_<;>intro h|refine zy hC ((zF hl hi uf)) (nm [0]) rfl rfl (yr.refl _) rfl rfl rfl rfl rfl rfl rfl rfl ?_|refine gR (zN hl h2) (nm [0]) ?_|refine gR hE (nm [0]) ?_|refine gH T [zG x] ?_|refine gR hB (nm [0]) ?_|refine gL ?_
   exact zt ⟨.inl rfl,id,_,rfl,.agg (.cons (.refl _) (.cons (.refl _) (.cons (.refl _) (.cons (.refl _) (.cons (.nil 5) .nil))))),⟨rfl,uh⟩,rfl,rfl⟩
 rw[ur h2]at hR
 by_cases h3:isA l i (⟨#[114,101,116,117,114,110]⟩:UW)=true
 ·rw[uv h3]at hR
  have hi1:=zh hl h3
  by_cases hs:isA l (i+1) (⟨#[59]⟩:UW)=true
  ·rw[uv hs]at hR
   cases hR
   refine gO T Tryz.func270 λC hC=>?_
   repeat' first|refine gG ?_|exact gD|refine gB ?_ ?_<;>intro h|refine zy hC ((zF hl hi uf)) (nm [0]) rfl rfl (yr.refl _) rfl rfl rfl rfl rfl rfl rfl rfl ?_|refine gR (zN hl h3) (nm [0]) ?_|refine gR (zj4 hl hs) (nm [0]) ?_|refine gR (zaw hl hs) (nm [0]) ?_|refine gL ?_
   exact zt ⟨.inl rfl,id,_,rfl,.agg (.cons (.refl _) (.cons (.refl _) (.cons (.nil 4) (.cons (.nil 5) (.cons (.nil 5) .nil))))),⟨rfl,uh⟩,rfl,rfl⟩
  ·rw[ur hs]at hR
   obtain⟨x,k,b,hx,hg,hb⟩:=yA hR
   obtain⟨hk,hE⟩:=y6 hl hX _ hi1 _ _ _ hx
   cases b with
   |true=>
    obtain⟨rfl,rfl,rfl⟩:=hb rfl
    refine gO T Tryz.func270 λC hC=>?_
    repeat' first|refine gG ?_|exact gD|refine gB ?_ ?_<;>intro h|refine zy hC ((zF hl hi uf)) (nm [0]) rfl rfl (yr.refl _) rfl rfl rfl rfl rfl rfl rfl rfl ?_|refine gR (zN hl h3) (nm [0]) ?_|refine gR (zcJ hl hi1 hs) (nm [0]) ?_|refine gR hE (nm [0]) ?_|refine gH T [zG x] ?_|refine gR (yc hl _ hk _) (nm [0]) ?_|refine gL ?_
    exact zt ⟨.inl rfl,id,_,rfl,.agg (.cons (.refl _) (.cons (.refl _) (.cons (.refl _) (.cons (.nil 5) (.cons (.nil 5) .nil))))),⟨rfl,uh⟩,rfl,rfl⟩
   |false=>
    obtain⟨u,k2,b2,h4,h5,h6⟩:=yA (hg rfl)
    obtain⟨_,hT⟩:=xR hl _ hk _ _ _ _ h4
    have hfin:xf= .mk 5 (⟨#[]⟩:UW) [x] [] []/\jf=k2/\bf=b2:=by
     cases b2 with
     |false=>have e:=h5 rfl;cases e;exact⟨rfl,rfl,rfl⟩
     |true=>exact h6 rfl
    obtain⟨rfl,rfl,rfl⟩:=hfin
    refine gO T Tryz.func270 λC hC=>?_
    repeat' first|refine gG ?_|exact gD|refine gB ?_ ?_<;>intro h|refine zy hC ((zF hl hi uf)) (nm [0]) rfl rfl (yr.refl _) rfl rfl rfl rfl rfl rfl rfl rfl ?_|refine gR (zN hl h3) (nm [0]) ?_|refine gR (zcJ hl hi1 hs) (nm [0]) ?_|refine gR hE (nm [0]) ?_|refine gH T [zG x] ?_|refine gR hT (nm [0]) ?_|refine gL ?_
    exact zt ⟨.inl rfl,id,_,rfl,.agg (.cons (.refl _) (.cons (.refl _) (.cons (.refl _) (.cons (.nil 5) (.cons (.nil 5) .nil))))),⟨rfl,uh⟩,rfl,rfl⟩
 rw[ur h3]at hR
 exact zkc hl f i hi h1 h2 h3 hR
theorem ztL: ∀f:Nat,SX l f:=by
 intro f
 induction f using Nat.strongRecOn with
 |_ f ih=>
  cases f with
  |zero=>exact⟨(λ_ _ _ _ _ h=>by simp only[stmtsJ]at h;cases h),(λ_ _ _ _ _ h=>by simp only[vB]at h;cases h),(λ_ _ _ _ _ h=>by simp only[zbO]at h;cases h)⟩
  |succ f=>
   have ih': ∀g,g<=f->SX l g:=λg hg=>ih g ua
   exact⟨λi hi=>zhk hl f ih' i hi,λi hi=>zhj hl f ih' i hi,λi hi=>zkd hl f ih' i hi⟩
end
theorem zdA{l:List Tok}{x:Fld}(h:x7 l i=some (x,j,false)):i<j:=by
 have:=zo1 h
 rw[zaQ]at this
 exact vA this
abbrev F0:Fld:=⟨(⟨#[]⟩:UW),(⟨#[]⟩:UW)⟩
section
variable {l:List Tok} (hl:xG l)
include hl
theorem zmn(sep fin:Str)(f i:Nat)(hi:i<l.length):RJ l 174 [rdV,Sr sep,Sr fin,.one (.cl 175 [.bx 0 0] [])] (λa=>pS (yb a)) i (listJ l F0 sep fin (x7 l) f i []):=by
 intro af jf bf hR
 have hjf:=zcL hl F0 sep fin (x7 l) (λ_ h=> .field hl h) f i [] hi _ _ _ hR
 refine⟨hjf,?_⟩
 have hll:=hl.len
 refine gO T Tryz.func174 λC hC=>?_
 repeat' first|refine gG ?_|refine gB ?_ ?_<;>intro h
 refine gA 101 2 [(9,.one (.ar 101))] [] ?_
 refine zn (λq:List Fld×Nat×Bool×Nat=>q.2.1<l.length/\q.2.2.2<=f/\q.1.length<=100001/\(q.2.2.1=false->q.1.length<=q.2.1/\listJ l F0 sep fin (x7 l) q.2.2.2 q.2.1 q.1=some (af,jf,bf))/\(q.2.2.1=true->af=q.1/\jf=q.2.1/\bf=true))
  (λq=>([(0,rdV),(1,Sr sep),(2,Sr fin),(3,.one (.cl 175 [.bx 0 0] [])),(9,.one (.ar 101))],[(0,some (rdR l q.2.1 q.2.2.1)),(101,some (Res.arr 2 (q.1.map zM)))])) (λq=>if q.2.2.1 then 0 else q.2.2.2+1) hC
  ([],i,false,f) ⟨hi,uG _,uA _,λ_=>⟨uA _,hR⟩,λh=>by cases h⟩ id gM ?_
 clear hi hR
 rintro⟨acc,k,b1,g⟩ ⟨hk,hgf,hlen,hg,hb⟩
 simp only at hk hgf hlen hg hb
 cases b1 with
 |true=>
  obtain⟨rfl,rfl,rfl⟩:=hb rfl
  repeat' first|refine gG ?_|refine gB ?_ ?_<;>intro h|refine gR (yc hl _ hk _) (nm [0]) ?_|refine zj ?_|refine gL ?_
  refine gZ 101 [(8,pS (yb af))] [] ?_
  exact gE
 |false=>
  obtain⟨hak,hd⟩:=hg rfl
  clear hg hb
  cases g with
  |zero=>simp only[listJ]at hd;cases hd
  |succ g=>
   simp only[listJ]at hd
   have hal:(acc.map zM).length=acc.length:=uj _
   by_cases hs:isA l k fin=true
   ·rw[uv hs]at hd
    cases hd
    repeat' first|refine gG ?_|refine gB ?_ ?_<;>intro h|refine gR (zj4 hl hs) (nm [0]) ?_|refine zj ?_|refine gR (zaw hl hs) (nm [0]) ?_|refine gL ?_
    refine gZ 101 [(8,pS (yb af))] [] ?_
    exact gE
   ·rw[ur hs]at hd
    obtain⟨u,k1,b1,h1,h2,h3⟩:=yA hd
    rcases zqJ hl h1 with⟨h0,rfl,rfl⟩|⟨h0,hsep,rfl,rfl⟩|⟨h0,hsep,rfl,rfl⟩
    ·obtain⟨y,k2,b2,h4,h5,h6⟩:=yA (h2 rfl)
     obtain⟨hk2,hE⟩:=zaT hl _ hk _ _ _ h4
     have hal':(acc++[y]).length=acc.length+1:=by simp
     repeat' first|refine gG ?_|(exfalso;have h':=uo h;rw[hal]at h';omega)|refine gB ?_ ?_<;>intro h|refine gR (zcJ hl hk hs) (nm [0]) ?_|refine gR hE (nm [0]) ?_|refine gH T [zM y] ?_|(refine gY T 102 ((acc++[y]).map zM) 32 ?_)
     exact zf (acc++[y],k2,b2,g) ⟨hk2,by simp only;omega,by simp only;omega,λe=>by subst e;exact⟨by have:=zdA h4;simp only;omega,h5 rfl⟩,h6⟩ (mvP 101 102) (by cases b2<;>simp) ⟨rfl,⟨rfl,rfl,rfl,rfl,rfl,uh⟩,⟨rfl,rfl,uh⟩,rfl,λi hi=>yI ua hi⟩
    ·obtain⟨y,k2,b2,h4,h5,h6⟩:=yA (h2 rfl)
     obtain⟨hk2,hE⟩:=zaT hl _ (zh hl hsep) _ _ _ h4
     have hal':(acc++[y]).length=acc.length+1:=by simp
     repeat' first|refine gG ?_|(exfalso;have h':=uq h;rw[hal]at h';omega)|refine gB ?_ ?_<;>intro h|refine gR (zcJ hl hk hs) (nm [0]) ?_|refine gR (zaw hl hsep) (nm [0]) ?_|refine gR hE (nm [0]) ?_|refine gH T [zM y] ?_|(refine gY T 102 ((acc++[y]).map zM) 32 ?_)
     exact zf (acc++[y],k2,b2,g) ⟨hk2,by simp only;omega,by simp only;omega,λe=>by subst e;exact⟨by have:=zdA h4;simp only;omega,h5 rfl⟩,h6⟩ (mvP 101 102) (by cases b2<;>simp) ⟨rfl,⟨rfl,rfl,rfl,rfl,rfl,uh⟩,⟨rfl,rfl,uh⟩,rfl,λi hi=>yI ua hi⟩
    ·have h3:=h3 rfl
     have hal':(acc++[F0]).length=acc.length+1:=by simp
     repeat' first|refine gG ?_|(exfalso;have h':=uq h;rw[hal]at h';omega)|refine gB ?_ ?_<;>intro h|refine gR (zcJ hl hk hs) (nm [0]) ?_|refine gR (zhd hl hk hsep) (nm [0]) ?_|refine gR (zdy hl _ hk) (nm [0]) ?_|refine gH T [zM F0] ?_|(refine gY T 102 ((acc++[F0]).map zM) 32 ?_)
     exact zf (acc++[F0],k1,true,g) ⟨hk,by simp only;omega,by simp only;omega,(λe=>by cases e),λ_=>h3⟩ (mvP 101 102) ue ⟨rfl,⟨rfl,rfl,rfl,rfl,rfl,uh⟩,⟨rfl,rfl,uh⟩,rfl,λi hi=>yI ua hi⟩
end
def tJ(b:Bool)(z:α)(k:Nat)(r:PJ α):PJ α:=match b with
 |true=>some (z,k,true)
 |false=>r
def RT(l:List Tok)(f:FuncId)(args:List S)(enc:α->S)(k:Nat)(b:Bool)(z:α)(r:PJ α):Prop:=
 ∀x j c,tJ b z k r=some (x,j,c)->j<l.length/\zk Tryz.prog f args [(0,rdR l k b)] (enc x) [(0,rdR l j c)]
theorem RT.of{l:List Tok}{f:FuncId}{args:List S}{enc:α->S}{k:Nat}{z:α}(hk:k<l.length)(h:RJ l f args enc k r)(hb:zk Tryz.prog f args [(0,rdR l k true)] (enc z) [(0,rdR l k true)])(b:Bool):RT l f args enc k b z r:=by
 intro x j c e
 cases b with
 |true=>cases e;exact⟨hk,hb⟩
 |false=>exact h _ _ _ e
variable {c:Bool}
theorem tgo{β:Type}{w:β}{k:Nat}{f:α->Nat->PJ β}{g:α->β}{x:β}(h:tJ b w k (PJ.go r f g)=some (x,j,c))(z:α)(hw:w=g z):
 ∃y k2 b2,tJ b z k r=some (y,k2,b2)/\tJ b2 (g y) k2 (f y k2)=some (x,j,c):=by
 subst hw
 cases b with
 |true=>exact⟨z,k,true,rfl,h⟩
 |false=>
  rcases r with _|⟨y,k2,b2⟩
  ·cases h
  ·refine⟨y,k2,b2,rfl,?_⟩
   cases b2 with
   |true=>exact h
   |false=>exact h
variable {x:α}
theorem zke{v:α}{k:Nat}(h:tJ b v k (PJ.ok v k)=some (x,j,c)):x=v/\j=k/\c=b:=by
 cases b<;>(cases h;exact⟨rfl,rfl,rfl⟩)
section
variable {l:List Tok} (hl:xG l)
include hl
theorem ztM(hi:i<l.length)(s:Str):RJ l 147 [rdV,Sr s] (λ_=> .tup []) i (vW l s i):=λ_ _ _ e=>xR hl i hi _ _ _ _ e
theorem vj(hi:i<l.length)(b:Bool)(s:Str):RT l 147 [rdV,Sr s] (λ_=> .tup []) i b () (vW l s i):= .of hi (ztM hl hi s) (yc hl i hi s) b
theorem vZ(hi:i<l.length)(b:Bool):RT l 148 [rdV] Sr i b (⟨#[]⟩:UW) (nameJ l i):= .of hi (λx j b e=>xS hl i hi x j b e) (zcK hl i hi) b
theorem ztN(hi:i<l.length)(b:Bool):RT l 227 [rdV] (λn=>I n) i b 0 (zlR l i):= .of hi (λx j b e=>zhe hl i hi x j b e) (zoZ hl i hi) b
theorem ztO(hi:i<l.length)(b:Bool):RT l 225 [rdV] Sr i b (⟨#[]⟩:UW) (zg2 l i):= .of hi (zhf hl i hi) (zep hl i hi) b
theorem zer(hi:i<l.length)(b:Bool):RT l 175 [rdV] (λf=>zm (zM f)) i b F0 (x7 l i):= .of hi (zaT hl i hi) (zdy hl i hi) b
theorem ziB(hi:i<l.length)(b:Bool)(sep fin:Str)(f:Nat):RT l 174 [rdV,Sr sep,Sr fin,.one (.cl 175 [.bx 0 0] [])] (λa=>pS (yb a)) i b [] (listJ l F0 sep fin (x7 l) f i []):= .of hi (zmn hl sep fin f i hi) (zj6 hl i hi sep fin) b
theorem zo2(hi:i<l.length)(b:Bool)(f:Nat):RT l 226 [rdV] (λa=>pS (yF a)) i b [] (stmtsJ l f i []):= .of hi ((ztL hl f).stmts i hi) (zbh hl i hi) b
theorem zo3(hi:i<l.length)(b:Bool)(f:Nat):RT l 228 [rdV] enE i b E0 (exprJ l f 0 i):= .of hi (y6 hl (zmk hl f) i hi) (wT hl i hi) b
def isB(l:List Tok)(b:Bool)(i:Nat)(s:Str):Bool:= !b&&isA l i s
theorem zvO(hi:i<l.length)(b:Bool)(s:Str):zk Tryz.prog 179 [rdV,Sr s] [(0,rdR l i b)] (Bo (isB l b i s)) [(0,rdR l i b)]:=by
 cases b with
 |true=>exact zhc hl i hi s
 |false=>exact zj3 (ziy hl i hi s) (.bq (by simp[isB]))
theorem zes(hi:i<l.length)(b:Bool)(s:Str):zk Tryz.prog 173 [rdV,Sr s] [(0,rdR l i b)] (Bo (isB l b i s)) [(0,rdR l (if isB l b i s=true then i+1 else i) b)]:=by
 cases b with
 |true=>exact xw hl i hi s
 |false=>
  by_cases h:isA l i s=true
  ·have e:isB l false i s=true:=by simp[isB,h]
   rw[e,uv rfl];exact zN hl h
  ·have e:isB l false i s=false:=by simpa [isB]using h
   rw[e,ur ue];exact zF hl hi h
theorem zhl(f i:Nat)(hi:i<l.length):RJ l 178 [rdV] enE i (wh l f i):=by
 intro xf jf bf hR
 obtain⟨_,k1,b1,e1,hR⟩:=tgo (b:=false) (w:=E0) (k:=i) hR () rfl
 obtain⟨hk1,h1⟩:=vj hl hi false _ _ _ _ e1
 obtain⟨hk2,h2⟩:=zo3 hl hk1 b1 f _ _ _ hR
 refine⟨hk2,?_⟩
 refine gO T Tryz.func178 λC hC=>?_
 repeat' first|refine gG ?_|refine gB ?_ ?_<;>intro h|refine gR h1 (nm [0]) ?_|refine gR h2 (nm [0]) ?_|refine gL ?_
 exact gE
theorem wU(hi:i<l.length)(b:Bool)(f:Nat):RT l 178 [rdV] enE i b E0 (wh l f i):= .of hi (zhl hl f i hi) (zfr hl i hi) b
end
theorem zmo{l:List Tok}{s:Str}(h:vW l s i=some (u,j,b)):i<=j:=by
 unfold vW at h
 split at h
 ·cases h;omega
 ·cases h;exact uG _
theorem ziC{l:List Tok}{s:Str}(h:nameJ l i=some (s,j,b)):i<=j:=by
 unfold nameJ at h
 repeat' (split at h)
 all_goals (cases h;omega)
theorem zrL{l:List Tok}{s:Str}(h:zg2 l i=some (s,j,b)):i<=j:=by
 unfold zg2 at h
 split at h
 ·cases h;omega
 ·split at h
  ·cases h;omega
  ·exact ziC h
theorem zmp{z:α}{k:Nat}(h:tJ b z k r=some (x,j,c))(hr:r=some (x,j,c)->k<=j):k<=j:=by
 cases b with
 |true=>cases h;exact uG _
 |false=>exact hr h
theorem zft{l:List Tok}{x:Fld}(h:x7 l i=some (x,j,b)):i<=j:=by
 obtain⟨n,k,b1,e1,h⟩:=tgo (b:=false) (w:=F0) (k:=i) h (⟨#[]⟩:UW) rfl
 obtain⟨t,k2,b2,e2,h⟩:=tgo h (⟨#[]⟩:UW) rfl
 obtain⟨_,rfl,_⟩:=zke h
 exact qn (ziC e1) (zmp e2 zrL)
section
variable {l:List Tok} (hl:xG l)
include hl
set_option maxHeartbeats 1000000 in
theorem zo4(f i:Nat)(hi:i<l.length):RJ l 176 [rdV] (λp=>zm (xc p)) i (zlS l f i):=by
 intro xf jf bf hR
 have hll:=hl.len
 obtain⟨n,k1,b1,e1,hR⟩:=tgo (b:=false) (w:=⟨(⟨#[]⟩:UW),[],(⟨#[]⟩:UW),[],[]⟩) (k:=i) hR (⟨#[]⟩:UW) rfl
 obtain⟨hk1,h1⟩:=vZ hl hi false _ _ _ e1
 obtain⟨_,k2,b2,e2,hR⟩:=tgo hR () rfl
 obtain⟨hk2,h2⟩:=vj hl hk1 b1 _ _ _ _ e2
 obtain⟨ps,k3,b3,e3,hR⟩:=tgo hR [] rfl
 obtain⟨hk3,h3⟩:=ziB hl hk2 b2 _ _ f _ _ _ e3
 obtain⟨r,k4,b4,e4,hR⟩:=tgo hR (⟨#[]⟩:UW) rfl
 obtain⟨_,k5,b5,e5,hR⟩:=tgo hR () rfl
 obtain⟨ls,k6,b6,e6,hR⟩:=tgo hR [] rfl
 obtain⟨bd,k7,b7,e7,hR⟩:=tgo hR [] rfl
 obtain⟨rfl,rfl,rfl⟩:=zke hR
 clear hR
 have hk6:k6<l.length:=by
  have hk4:k4<l.length:=by
   cases b3 with
   |true=>cases e4;exact hk3
   |false=>
    simp only[tJ]at e4
    split at e4
    ·cases e4;exact hk3
    ·exact(RG.typ hl hk3) _ _ _ e4
  have hk5:k5<l.length:=(vj hl hk4 b4 _ _ _ _ e5).1
  cases b5 with
  |true=>cases e6;exact hk5
  |false=>exact zhh hl f _ _ hk5 _ _ _ e6
 obtain⟨hk7,h7⟩:=zo2 hl hk6 b6 f _ _ _ e7
 refine⟨hk7,?_⟩
 have hI:=zvO hl hk3 b3 ⟨#[123]⟩
 by_cases hc:isB l b3 k3 ⟨#[123]⟩=true
 ·rw[hc]at hI
  have hb3:b3=false/\isA l k3 ⟨#[123]⟩=true:=by unfold isB at hc;simpa using hc
  obtain⟨rfl,hs⟩:=hb3
  simp only[tJ]at e4
  rw[uv hs]at e4
  cases e4
  obtain⟨hk5,h5⟩:=vj hl hk3 false _ _ _ _ e5
  refine gO T Tryz.func176 λC hC=>?_
  repeat' first|refine gG ?_|exact gD|refine gB ?_ ?_<;>intro h|refine gR h1 (nm [0]) ?_|refine gR h2 (nm [0]) ?_|refine zoA hC rfl rfl rfl rfl rfl rfl ?_|refine gR h3 (nm [0]) ?_|refine gR hI (nm [0]) ?_|refine gR h5 (nm [0]) ?_
  refine gA 101 2 [] [(1003,[.p (ks n),.p (yb ps),.p (ks (⟨#[]⟩:UW)),.ar 101,.p (.k (.slice none 0 0))])] ?_
  refine zn (λq:List Fld×Nat×Bool×Nat=>q.2.1<l.length/\q.1.length<=q.2.1/\tJ q.2.2.1 q.1 q.2.1 (locsJ l q.2.2.2 q.2.1 q.1)=some (ls,k6,b6))
   (λq=>([(0,rdV),(2,.one (.bx 1002 0)),(3,.one (.bx 1003 0))],[(0,some (rdR l q.2.1 q.2.2.1)),(1002,some (Res.box (zV [ZK.str,ZK.slice,ZK.str,ZK.slice,ZK.slice]))),(1003,some (Res.box [.p (ks n),.p (yb ps),.p (ks (⟨#[]⟩:UW)),.ar 101,.p (.k (.slice none 0 0))])),(101,some (Res.arr 2 (q.1.map zM)))])) (λq=>q.2.2.2) hC
   ([],k5,b5,f) ⟨hk5,uA _,e6⟩ id gM ?_
  clear e1 e2 e3 e5 e6 h1 h2 h3 h5 hI hk5
  rintro⟨acc,k,b,g⟩ ⟨hk,hak,hd⟩
  simp only at hk hak hd
  have hal:(acc.map zM).length=acc.length:=uj _
  by_cases hlo:isB l b k (⟨#[108,111,99,97,108]⟩:UW)=true
  ·have hb:b=false/\isA l k (⟨#[108,111,99,97,108]⟩:UW)=true:=by unfold isB at hlo;simpa using hlo
   obtain⟨rfl,hs⟩:=hb
   cases g with
   |zero=>simp only[tJ,locsJ]at hd;cases hd
   |succ g=>
    simp only[tJ,locsJ]at hd
    rw[uv hs]at hd
    obtain⟨x,j2,c2,a1,hd⟩:=tgo (b:=false) (w:=acc++[F0]) (k:=k+1) hd F0 rfl
    obtain⟨hj2,hF⟩:=zer hl (zh hl hs) false _ _ _ a1
    obtain⟨_,j3,c3,a2,hd⟩:=tgo hd () rfl
    obtain⟨hj3,hT⟩:=vj hl hj2 c2 _ _ _ _ a2
    have m1:k+1<=j2:=zmp a1 zft
    have m2:j2<=j3:=zmp a2 zmo
    have hal':(acc++[x]).length=acc.length+1:=by simp
    repeat' first|refine gG ?_|exact gD|refine gB ?_ ?_<;>intro h|refine gR (zN hl hs) (nm [0]) ?_|refine gR hF (nm [0]) ?_|refine gH T [zM x] ?_|(refine gY T 102 ((acc++[x]).map zM) 32 ?_)|refine gR hT (nm [0]) ?_
    exact zf (acc++[x],j3,c3,g) ⟨hj3,by simp only;omega,hd⟩ (mvP 101 102) (qy _) ⟨rfl,⟨rfl,rfl,rfl,uh⟩,⟨rfl,rfl,rfl,rfl,uh⟩,rfl,λi hi=>yI ua hi⟩
  ·have hS:=zes hl hk b (⟨#[108,111,99,97,108]⟩:UW)
   rw[ur hlo]at hS
   rw[qf]at hlo
   rw[hlo]at hS
   have hfin:ls=acc/\k6=k/\b6=b:=by
    cases b with
    |true=>cases hd;exact⟨rfl,rfl,rfl⟩
    |false=>
     have hs: ¬isA l k (⟨#[108,111,99,97,108]⟩:UW)=true:=by unfold isB at hlo;simpa using hlo
     cases g with
     |zero=>simp only[tJ,locsJ]at hd;cases hd
     |succ g=>simp only[tJ,locsJ]at hd;rw[ur hs]at hd;cases hd;exact⟨rfl,rfl,rfl⟩
   obtain⟨rfl,rfl,rfl⟩:=hfin
   repeat' first|refine gG ?_|exact gD|refine gB ?_ ?_<;>intro h|refine gR hS (nm [0]) ?_|refine zj ?_
   refine gZ 101 [] [(1003,[.p (ks n),.p (yb ps),.p (ks (⟨#[]⟩:UW)),.p (yb ls),.p (.k (.slice none 0 0))])] ?_
   repeat' first|refine gG ?_|refine gB ?_ ?_<;>intro h|refine gR h7 (nm [0]) ?_|refine gL ?_
   exact gE
 ·rw[qf]at hc
  rw[hc]at hI
  have e4':tJ b3 (⟨#[]⟩:UW) k3 (zg2 l k3)=some (r,k4,b4):=by
   cases b3 with
   |true=>exact e4
   |false=>
    have hs: ¬isA l k3 ⟨#[123]⟩=true:=by unfold isB at hc;simpa using hc
    simp only[tJ]at e4⊢
    rw[ur hs]at e4
    exact e4
  obtain⟨hk4,h4⟩:=ztO hl hk3 b3 _ _ _ e4'
  obtain⟨hk5,h5⟩:=vj hl hk4 b4 _ _ _ _ e5
  refine gO T Tryz.func176 λC hC=>?_
  repeat' first|refine gG ?_|exact gD|refine gB ?_ ?_<;>intro h|refine gR h1 (nm [0]) ?_|refine gR h2 (nm [0]) ?_|refine zoA hC rfl rfl rfl rfl rfl rfl ?_|refine gR h3 (nm [0]) ?_|refine gR hI (nm [0]) ?_|refine gR h4 (nm [0]) ?_|refine gR h5 (nm [0]) ?_
  refine gA 101 2 [] [(1003,[.p (ks n),.p (yb ps),.p (ks r),.ar 101,.p (.k (.slice none 0 0))])] ?_
  refine zn (λq:List Fld×Nat×Bool×Nat=>q.2.1<l.length/\q.1.length<=q.2.1/\tJ q.2.2.1 q.1 q.2.1 (locsJ l q.2.2.2 q.2.1 q.1)=some (ls,k6,b6))
   (λq=>([(0,rdV),(2,.one (.bx 1002 0)),(3,.one (.bx 1003 0))],[(0,some (rdR l q.2.1 q.2.2.1)),(1002,some (Res.box (zV [ZK.str,ZK.slice,ZK.str,ZK.slice,ZK.slice]))),(1003,some (Res.box [.p (ks n),.p (yb ps),.p (ks r),.ar 101,.p (.k (.slice none 0 0))])),(101,some (Res.arr 2 (q.1.map zM)))])) (λq=>q.2.2.2) hC
   ([],k5,b5,f) ⟨hk5,uA _,e6⟩ id gM ?_
  clear e1 e2 e3 e5 e6 h1 h2 h3 h5 hI hk5
  rintro⟨acc,k,b,g⟩ ⟨hk,hak,hd⟩
  simp only at hk hak hd
  have hal:(acc.map zM).length=acc.length:=uj _
  by_cases hlo:isB l b k (⟨#[108,111,99,97,108]⟩:UW)=true
  ·have hb:b=false/\isA l k (⟨#[108,111,99,97,108]⟩:UW)=true:=by unfold isB at hlo;simpa using hlo
   obtain⟨rfl,hs⟩:=hb
   cases g with
   |zero=>simp only[tJ,locsJ]at hd;cases hd
   |succ g=>
    simp only[tJ,locsJ]at hd
    rw[uv hs]at hd
    obtain⟨x,j2,c2,a1,hd⟩:=tgo (b:=false) (w:=acc++[F0]) (k:=k+1) hd F0 rfl
    obtain⟨hj2,hF⟩:=zer hl (zh hl hs) false _ _ _ a1
    obtain⟨_,j3,c3,a2,hd⟩:=tgo hd () rfl
    obtain⟨hj3,hT⟩:=vj hl hj2 c2 _ _ _ _ a2
    have m1:k+1<=j2:=zmp a1 zft
    have m2:j2<=j3:=zmp a2 zmo
    have hal':(acc++[x]).length=acc.length+1:=by simp
    repeat' first|refine gG ?_|exact gD|refine gB ?_ ?_<;>intro h|refine gR (zN hl hs) (nm [0]) ?_|refine gR hF (nm [0]) ?_|refine gH T [zM x] ?_|(refine gY T 102 ((acc++[x]).map zM) 32 ?_)|refine gR hT (nm [0]) ?_
    exact zf (acc++[x],j3,c3,g) ⟨hj3,by simp only;omega,hd⟩ (mvP 101 102) (qy _) ⟨rfl,⟨rfl,rfl,rfl,uh⟩,⟨rfl,rfl,rfl,rfl,uh⟩,rfl,λi hi=>yI ua hi⟩
  ·have hS:=zes hl hk b (⟨#[108,111,99,97,108]⟩:UW)
   rw[ur hlo]at hS
   rw[qf]at hlo
   rw[hlo]at hS
   have hfin:ls=acc/\k6=k/\b6=b:=by
    cases b with
    |true=>cases hd;exact⟨rfl,rfl,rfl⟩
    |false=>
     have hs: ¬isA l k (⟨#[108,111,99,97,108]⟩:UW)=true:=by unfold isB at hlo;simpa using hlo
     cases g with
     |zero=>simp only[tJ,locsJ]at hd;cases hd
     |succ g=>simp only[tJ,locsJ]at hd;rw[ur hs]at hd;cases hd;exact⟨rfl,rfl,rfl⟩
   obtain⟨rfl,rfl,rfl⟩:=hfin
   repeat' first|refine gG ?_|exact gD|refine gB ?_ ?_<;>intro h|refine gR hS (nm [0]) ?_|refine zj ?_
   refine gZ 101 [] [(1003,[.p (ks n),.p (yb ps),.p (ks r),.p (yb ls),.p (.k (.slice none 0 0))])] ?_
   repeat' first|refine gG ?_|refine gB ?_ ?_<;>intro h|refine gR h7 (nm [0]) ?_|refine gL ?_
   exact gE
include hl
theorem zo5{z:Int}(h:zlR l i=some (z,j,b)):0<=z/\z<=1099511627776/\(b=true->z=0):=by
 unfold zlR at h
 split at h
 ·rename_i t ht
  split at h
  ·cases h
   have:=hl.num t (List.mem_of_getElem? ht)
   exact⟨this.1,this.2,λh=>by cases h⟩
  ·cases h;exact⟨qB _,ub,λ_=>rfl⟩
 ·cases h;exact⟨qB _,ub,λ_=>rfl⟩
theorem zhm(f i:Nat)(hi:i<l.length):RJ l 177 [rdV] (λm=>zm (yt m)) i (zaP l f i):=by
 intro xf jf bf hR
 have hll:=hl.len
 obtain⟨n,k1,b1,e1,hR⟩:=tgo (b:=false) (w:=⟨(⟨#[]⟩:UW),(⟨#[]⟩:UW),0,E0⟩) (k:=i) hR (⟨#[]⟩:UW) rfl
 obtain⟨hk1,h1⟩:=vZ hl hi false _ _ _ e1
 obtain⟨_,k2,b2,e2,hR⟩:=tgo hR () rfl
 obtain⟨hk2,h2⟩:=vj hl hk1 b1 _ _ _ _ e2
 obtain⟨t,k3,b3,e3,hR⟩:=tgo hR (⟨#[]⟩:UW) rfl
 obtain⟨hk3,h3⟩:=vZ hl hk2 b2 _ _ _ e3
 obtain⟨_,k4,b4,e4,hR⟩:=tgo hR () rfl
 obtain⟨hk4,h4⟩:=vj hl hk3 b3 _ _ _ _ e4
 obtain⟨_,k5,b5,e5,hR⟩:=tgo hR () rfl
 obtain⟨hk5,h5⟩:=vj hl hk4 b4 _ _ _ _ e5
 obtain⟨z,k6,b6,e6,hR⟩:=tgo hR 0 rfl
 have hS:=zes hl hk5 b5 (⟨#[45]⟩:UW)
 generalize hc:isB l b5 k5 (⟨#[45]⟩:UW)=c at hS
 have hk5':(if c=true then k5+1 else k5)<l.length:=by
  split
  ·rename_i h;rw[h]at hc;unfold isB at hc;simp only[uu]at hc;exact zh hl hc.2
  ·exact hk5
 have e6':tJ b5 0 (if c=true then k5+1 else k5) (zlR l (if c=true then k5+1 else k5))=some (z,k6,b6):=by
  cases b5 with
  |true=>
   have:c=false:=by rw[<-hc];rfl
   subst this
   exact e6
  |false=>
   have:c=isA l k5 (⟨#[45]⟩:UW):=by rw[<-hc];simp[isB]
   subst this
   exact e6
 obtain⟨hk6,h6⟩:=ztN hl hk5' b5 _ _ _ e6'
 have hz:0<=z/\z<=1099511627776/\(b6=true->z=0):=by
  cases b5 with
  |true=>cases e6';exact⟨qB _,ub,λ_=>rfl⟩
  |false=>exact zo5 hl e6'
 obtain⟨z0,z1,zb⟩:=hz
 have hR':tJ b6 ⟨n,t,if isA l k5 (⟨#[45]⟩:UW)=true then -z else z,E0⟩ k6 (PJ.go (wh l f k6) (λx j=> .ok ⟨n,t,if isA l k5 (⟨#[45]⟩:UW)=true then -z else z,x⟩ j) (λx=>⟨n,t,if isA l k5 (⟨#[45]⟩:UW)=true then -z else z,x⟩))=some (xf,jf,bf):=by
  cases b6 with
  |true=>
   have:(if isA l k5 (⟨#[45]⟩:UW)=true then -z else z)=0:=by rw[zb rfl];split<;>rfl
   rw[this];exact hR
  |false=>exact hR
 clear hR
 obtain⟨x,k7,b7,e7,hR⟩:=tgo hR' E0 rfl
 obtain⟨hk7,h7⟩:=wU hl hk6 b6 f _ _ _ e7
 obtain⟨rfl,rfl,rfl⟩:=zke hR
 refine⟨hk7,?_⟩
 clear hR hR' e1 e2 e3 e4 e5 e6 e7
 have hv:(if isA l k5 (⟨#[45]⟩:UW)=true then -z else z)=if c=true then -z else z:=by
  cases b5 with
  |true=>
   cases e6'
   split<;>split<;>rfl
  |false=>
   have:c=isA l k5 (⟨#[45]⟩:UW):=by rw[<-hc];simp[isB]
   rw[this]
 rw[hv]
 cases c with
 |true=>
  simp only[qx]at hS h6⊢
  refine gO T Tryz.func177 λC hC=>?_
  repeat' first|refine gG ?_|exact gD|refine gB ?_ ?_<;>intro h|refine gR h1 (nm [0]) ?_|refine gR h2 (nm [0]) ?_|refine gR h3 (nm [0]) ?_|refine gR h4 (nm [0]) ?_|refine gR h5 (nm [0]) ?_|refine gR hS (nm [0]) ?_|refine gR h6 (nm [0]) ?_|refine gR h7 (nm [0]) ?_|refine gL ?_
  rw[show IntKind.i64.wrap (-1*z)= -z by rw[wrap64 ua];omega]
  exact gE
 |false=>
  simp only[uU,tO]at hS h6⊢
  refine gO T Tryz.func177 λC hC=>?_
  repeat' first|refine gG ?_|exact gD|refine gB ?_ ?_<;>intro h|refine gR h1 (nm [0]) ?_|refine gR h2 (nm [0]) ?_|refine gR h3 (nm [0]) ?_|refine gR h4 (nm [0]) ?_|refine gR h5 (nm [0]) ?_|refine gR hS (nm [0]) ?_|refine gR h6 (nm [0]) ?_|refine gR h7 (nm [0]) ?_|refine gL ?_
  rw[show IntKind.i64.wrap (1*z)=z by rw[wrap64 ua];omega]
  exact gE
end
def dR(a:Nat)(d:xo):RL:=[(1,.box [.p (ks d.n),.ar a,.ar (a+1),.ar (a+2),.ar (a+3),.ar (a+4),.ar (a+5),.ar (a+6)]),(a,.arr 2 (d.types.map yz)),(a+1,.arr 2 (d.globals.map zM)),(a+2,.arr 5 (d.procs.map xc)),(a+3,.arr 7 (d.measures.map yt)),(a+4,.arr 6 (d.invs.map zeo)),(a+5,.arr 5 (d.pots.map zfp)),(a+6,.arr 5 (d.bounds.map x8))]
def zdB(d:xo):Nat:=d.types.length+d.globals.length+d.procs.length+d.measures.length+d.invs.length+d.pots.length+d.bounds.length
def kwI(l:List Tok)(i:Nat):Bool:=isA l i (⟨#[116,121,112,101]⟩:UW)||isA l i (⟨#[118,97,114]⟩:UW)||isA l i (⟨#[112,114,111,99]⟩:UW)||isA l i (⟨#[109,101,97,115,117,114,101]⟩:UW)||isA l i (⟨#[105,110,118,97,114,105,97,110,116]⟩:UW)||isA l i (⟨#[112,111,116,101,110,116,105,97,108]⟩:UW)||isA l i (⟨#[98,111,117,110,100]⟩:UW)
section
variable {l:List Tok} (hl:xG l)
include hl
theorem zo6(f i:Nat)(d:xo)(hi:i<l.length)(hk:kwI l i=false):zk Tryz.prog 149 [rdV,.one (.bx 1 0)] ((0,rdR l i false)::dR 2 d) (Bo false) ((0,rdR l i false)::dR 2 d):=by
 unfold kwI at hk
 simp only[tD]at hk
 obtain⟨⟨⟨⟨⟨⟨h1,h2⟩,h3⟩,h4⟩,h5⟩,h6⟩,h7⟩:=hk
 rw[<-qf]at h1 h2 h3 h4 h5 h6 h7
 refine gO T Tryz.func149 λC hC=>?_
 repeat' first|refine gG ?_|exact gD|refine gB ?_ ?_<;>intro h|refine zy hC ((zF hl hi uf)) (nm [0]) rfl rfl (yr.refl _) rfl rfl rfl rfl rfl rfl rfl rfl ?_|refine gL ?_
 exact gE
set_option maxHeartbeats 8000000 in
theorem ziD(f i:Nat)(d:xo)(hi:i<l.length)(hd:zdB d<=2000000){xf:xo}(hR:zdk l f i d=some (xf,jf,bf))(hk:kwI l i=true):jf<l.length/\zdB xf<=zdB d+1/\zk Tryz.prog 149 [rdV,.one (.bx 1 0)] ((0,rdR l i false)::dR 2 d) (Bo true) ((0,rdR l jf bf)::dR 9 xf):=by
 unfold zdB at hd
 simp only[zdk]at hR
 by_cases h1:isA l i (⟨#[116,121,112,101]⟩:UW)=true
 ·have hi1:=zh hl h1
  rw[uv h1]at hR
  obtain⟨n,k1,b1,e1,hR⟩:=tgo (b:=false) (w:={ d with types:=d.types++[⟨(⟨#[]⟩:UW),[]⟩] }) (k:=i+1) hR (⟨#[]⟩:UW) rfl
  obtain⟨hk1,c1⟩:=vZ hl hi1 false _ _ _ e1
  obtain⟨_,k2,b2,e2,hR⟩:=tgo hR () rfl
  obtain⟨hk2,c2⟩:=vj hl hk1 b1 _ _ _ _ e2
  obtain⟨fs,k3,b3,e3,hR⟩:=tgo hR [] rfl
  obtain⟨hkf,c3⟩:=ziB hl hk2 b2 _ _ f _ _ _ e3
  obtain⟨rfl,rfl,rfl⟩:=zke hR
  refine⟨hkf,by simp only[zdB,uB,uC];omega,?_⟩
  clear hR
  refine gO T Tryz.func149 λC hC=>?_
  repeat' first|refine gG ?_|exact gD|refine gB ?_ ?_<;>intro h|refine zy hC ((zF hl hi uf)) (nm [0]) rfl rfl (yr.refl _) rfl rfl rfl rfl rfl rfl rfl rfl ?_|refine gR (zN hl h1) (nm [0]) ?_|refine gR c1 (nm [0]) ?_|refine gR c2 (nm [0]) ?_|refine zoA hC rfl rfl rfl rfl rfl rfl ?_|refine gR c3 (nm [0]) ?_|refine gH T [yz (⟨n,fs⟩:zaa)] ?_|(refine gY T 102 ((d.types++[(⟨n,fs⟩:zaa)]).map yz) 40 ?_)|refine gL ?_
  exact gW [0,1,2,3,4,5,6,7,8,102,3,4,5,6,7,8]
 rw[ur h1]at hR
 by_cases h2:isA l i (⟨#[118,97,114]⟩:UW)=true
 ·have hi1:=zh hl h2
  rw[uv h2]at hR
  obtain⟨x,k1,b1,e1,hR⟩:=tgo (b:=false) (w:={ d with globals:=d.globals++[F0] }) (k:=i+1) hR F0 rfl
  obtain⟨hkf,c1⟩:=zer hl hi1 false _ _ _ e1
  obtain⟨rfl,rfl,rfl⟩:=zke hR
  refine⟨hkf,by simp only[zdB,uB,uC];omega,?_⟩
  clear hR
  refine gO T Tryz.func149 λC hC=>?_
  repeat' first|refine gG ?_|exact gD|refine gB ?_ ?_<;>intro h|refine zy hC ((zF hl hi uf)) (nm [0]) rfl rfl (yr.refl _) rfl rfl rfl rfl rfl rfl rfl rfl ?_|refine gR (zN hl h2) (nm [0]) ?_|refine gR c1 (nm [0]) ?_|refine gH T [zM x] ?_|(refine gY T 102 ((d.globals++[x]).map zM) 32 ?_)|refine gL ?_
  exact gW [0,1,2,3,4,5,6,7,8,2,102,4,5,6,7,8]
 rw[ur h2]at hR
 by_cases h3:isA l i (⟨#[112,114,111,99]⟩:UW)=true
 ·have hi1:=zh hl h3
  rw[uv h3]at hR
  obtain⟨x,k1,b1,e1,hR⟩:=tgo (b:=false) (w:={ d with procs:=d.procs++[⟨(⟨#[]⟩:UW),[],(⟨#[]⟩:UW),[],[]⟩] }) (k:=i+1) hR ⟨(⟨#[]⟩:UW),[],(⟨#[]⟩:UW),[],[]⟩ rfl
  obtain⟨hkf,c1⟩:=zo4 hl f _ hi1 _ _ _ e1
  obtain⟨rfl,rfl,rfl⟩:=zke hR
  refine⟨hkf,by simp only[zdB,uB,uC];omega,?_⟩
  clear hR
  refine gO T Tryz.func149 λC hC=>?_
  repeat' first|refine gG ?_|exact gD|refine gB ?_ ?_<;>intro h|refine zy hC ((zF hl hi uf)) (nm [0]) rfl rfl (yr.refl _) rfl rfl rfl rfl rfl rfl rfl rfl ?_|refine gR (zN hl h3) (nm [0]) ?_|refine gR c1 (nm [0]) ?_|refine gH T [xc x] ?_|(refine gY T 102 ((d.procs++[x]).map xc) 104 ?_)|refine gL ?_
  exact gW [0,1,2,3,4,5,6,7,8,2,3,102,5,6,7,8]
 rw[ur h3]at hR
 by_cases h4:isA l i (⟨#[109,101,97,115,117,114,101]⟩:UW)=true
 ·have hi1:=zh hl h4
  rw[uv h4]at hR
  obtain⟨x,k1,b1,e1,hR⟩:=tgo (b:=false) (w:={ d with measures:=d.measures++[⟨(⟨#[]⟩:UW),(⟨#[]⟩:UW),0,E0⟩] }) (k:=i+1) hR ⟨(⟨#[]⟩:UW),(⟨#[]⟩:UW),0,E0⟩ rfl
  obtain⟨hkf,c1⟩:=zhm hl f _ hi1 _ _ _ e1
  obtain⟨rfl,rfl,rfl⟩:=zke hR
  refine⟨hkf,by simp only[zdB,uB,uC];omega,?_⟩
  clear hR
  refine gO T Tryz.func149 λC hC=>?_
  repeat' first|refine gG ?_|exact gD|refine gB ?_ ?_<;>intro h|refine zy hC ((zF hl hi uf)) (nm [0]) rfl rfl (yr.refl _) rfl rfl rfl rfl rfl rfl rfl rfl ?_|refine gR (zN hl h4) (nm [0]) ?_|refine gR c1 (nm [0]) ?_|refine gH T [yt x] ?_|(refine gY T 102 ((d.measures++[x]).map yt) 96 ?_)|refine gL ?_
  exact gW [0,1,2,3,4,5,6,7,8,2,3,4,102,6,7,8]
 rw[ur h4]at hR
 by_cases h5:isA l i (⟨#[105,110,118,97,114,105,97,110,116]⟩:UW)=true
 ·have hi1:=zh hl h5
  rw[uv h5]at hR
  obtain⟨n,k1,b1,e1,hR1⟩:=tgo (b:=false) (w:={ d with invs:=d.invs++[⟨(⟨#[]⟩:UW),(⟨#[]⟩:UW),E0⟩] }) (k:=i+1) hR (⟨#[]⟩:UW) rfl
  obtain⟨hk1,c1⟩:=vZ hl hi1 false _ _ _ e1
  obtain⟨t,k2,b2,e2,hR2⟩:=tgo hR1 (⟨#[]⟩:UW) rfl
  clear hR hR1
  have hS:=zes hl hk1 b1 (⟨#[40]⟩:UW)
  by_cases hq:isB l b1 k1 (⟨#[40]⟩:UW)=true
  ·rw[hq]at hS
   have hb:b1=false/\isA l k1 (⟨#[40]⟩:UW)=true:=by unfold isB at hq;simpa using hq
   obtain⟨rfl,hp⟩:=hb
   simp only[tJ]at e2
   rw[uv hp]at e2
   obtain⟨t2,k3,b3,e3,e4⟩:=tgo (b:=false) (w:=(⟨#[]⟩:UW)) (k:=k1+1) e2 (⟨#[]⟩:UW) rfl
   obtain⟨hk3,c3⟩:=vZ hl (zh hl hp) false _ _ _ e3
   obtain⟨_,k4,b4,e5,e6⟩:=tgo e4 () rfl
   obtain⟨hk4,c4⟩:=vj hl hk3 b3 _ _ _ _ e5
   obtain⟨rfl,rfl,rfl⟩:=zke e6
   obtain⟨x,k5,b5,e7,hR3⟩:=tgo hR2 E0 rfl
   obtain⟨hkf,c5⟩:=wU hl hk4 _ f _ _ _ e7
   obtain⟨rfl,rfl,rfl⟩:=zke hR3
   refine⟨hkf,by simp only[zdB,uB,uC];omega,?_⟩
   clear hR2 hR3
   refine gO T Tryz.func149 λC hC=>?_
   repeat' first|refine gG ?_|exact gD|refine gB ?_ ?_<;>intro h|refine zy hC ((zF hl hi uf)) (nm [0]) rfl rfl (yr.refl _) rfl rfl rfl rfl rfl rfl rfl rfl ?_|refine gR (zN hl h5) (nm [0]) ?_|refine gR c1 (nm [0]) ?_|refine gR hS (nm [0]) ?_|refine gR c3 (nm [0]) ?_|refine gR c4 (nm [0]) ?_|refine gR c5 (nm [0]) ?_|refine gH T [zeo (⟨n,t,x⟩:Iv)] ?_|(refine gY T 102 ((d.invs++[(⟨n,t,x⟩:Iv)]).map zeo) 88 ?_)|refine gL ?_
   exact gW [0,1,2,3,4,5,6,7,8,2,3,4,5,102,7,8]
  ·rw[qf]at hq
   rw[hq]at hS
   have hfin:t=(⟨#[]⟩:UW)/\k2=k1/\b2=b1:=by
    cases b1 with
    |true=>cases e2;exact⟨rfl,rfl,rfl⟩
    |false=>
     have hp: ¬isA l k1 (⟨#[40]⟩:UW)=true:=by unfold isB at hq;simpa using hq
     simp only[tJ]at e2
     rw[ur hp]at e2
     cases e2;exact⟨rfl,rfl,rfl⟩
   obtain⟨rfl,rfl,rfl⟩:=hfin
   simp only[uU,tO]at hS
   obtain⟨x,k5,b5,e7,hR3⟩:=tgo hR2 E0 rfl
   obtain⟨hkf,c5⟩:=wU hl hk1 _ f _ _ _ e7
   obtain⟨rfl,rfl,rfl⟩:=zke hR3
   refine⟨hkf,by simp only[zdB,uB,uC];omega,?_⟩
   clear hR2 hR3
   refine gO T Tryz.func149 λC hC=>?_
   repeat' first|refine gG ?_|exact gD|refine gB ?_ ?_<;>intro h|refine zy hC ((zF hl hi uf)) (nm [0]) rfl rfl (yr.refl _) rfl rfl rfl rfl rfl rfl rfl rfl ?_|refine gR (zN hl h5) (nm [0]) ?_|refine gR c1 (nm [0]) ?_|refine gR hS (nm [0]) ?_|refine gR c5 (nm [0]) ?_|refine gH T [zeo (⟨n,(⟨#[]⟩:UW),x⟩:Iv)] ?_|(refine gY T 102 ((d.invs++[(⟨n,(⟨#[]⟩:UW),x⟩:Iv)]).map zeo) 88 ?_)|refine gL ?_
   exact gW [0,1,2,3,4,5,6,7,8,2,3,4,5,102,7,8]
 rw[ur h5]at hR
 by_cases h6:isA l i (⟨#[112,111,116,101,110,116,105,97,108]⟩:UW)=true
 ·have hi1:=zh hl h6
  rw[uv h6]at hR
  obtain⟨t,k1,b1,e1,hR1⟩:=tgo (b:=false) (w:={ d with pots:=d.pots++[⟨(⟨#[]⟩:UW),E0⟩] }) (k:=i+1) hR (⟨#[]⟩:UW) rfl
  clear hR
  simp only[tJ]at e1
  by_cases hq:isA l (i+1) (⟨#[61]⟩:UW)=true
  ·rw[uv hq]at e1
   have hfin:t=(⟨#[]⟩:UW)/\k1=i+1/\b1=false:=by cases e1;exact⟨rfl,rfl,rfl⟩
   obtain⟨rfl,rfl,rfl⟩:=hfin
   obtain⟨x,k2,b2,e2,hR2⟩:=tgo hR1 E0 rfl
   obtain⟨hkf,c2⟩:=wU hl hi1 false f _ _ _ e2
   obtain⟨rfl,rfl,rfl⟩:=zke hR2
   refine⟨hkf,by simp only[zdB,uB,uC];omega,?_⟩
   clear hR1 hR2
   refine gO T Tryz.func149 λC hC=>?_
   repeat' first|refine gG ?_|exact gD|refine gB ?_ ?_<;>intro h|refine zy hC ((zF hl hi uf)) (nm [0]) rfl rfl (yr.refl _) rfl rfl rfl rfl rfl rfl rfl rfl ?_|refine gR (zN hl h6) (nm [0]) ?_|refine gR (zj4 hl hq) (nm [0]) ?_|refine gR c2 (nm [0]) ?_|refine gH T [zfp (⟨(⟨#[]⟩:UW),x⟩:Pt)] ?_|(refine gY T 102 ((d.pots++[(⟨(⟨#[]⟩:UW),x⟩:Pt)]).map zfp) 72 ?_)|refine gL ?_
   exact gW [0,1,2,3,4,5,6,7,8,2,3,4,5,6,102,8]
  ·rw[ur hq]at e1
   obtain⟨hk1,c1⟩:=vZ hl hi1 false _ _ _ e1
   obtain⟨x,k2,b2,e2,hR2⟩:=tgo hR1 E0 rfl
   obtain⟨hkf,c2⟩:=wU hl hk1 b1 f _ _ _ e2
   obtain⟨rfl,rfl,rfl⟩:=zke hR2
   refine⟨hkf,by simp only[zdB,uB,uC];omega,?_⟩
   clear hR1 hR2
   refine gO T Tryz.func149 λC hC=>?_
   repeat' first|refine gG ?_|exact gD|refine gB ?_ ?_<;>intro h|refine zy hC ((zF hl hi uf)) (nm [0]) rfl rfl (yr.refl _) rfl rfl rfl rfl rfl rfl rfl rfl ?_|refine gR (zN hl h6) (nm [0]) ?_|refine gR (zcJ hl hi1 hq) (nm [0]) ?_|refine gR c1 (nm [0]) ?_|refine gR c2 (nm [0]) ?_|refine gH T [zfp (⟨t,x⟩:Pt)] ?_|(refine gY T 102 ((d.pots++[(⟨t,x⟩:Pt)]).map zfp) 72 ?_)|refine gL ?_
   exact gW [0,1,2,3,4,5,6,7,8,2,3,4,5,6,102,8]
 rw[ur h6]at hR
 have h7:isA l i (⟨#[98,111,117,110,100]⟩:UW)=true:=by unfold kwI at hk;simpa [h1,h2,h3,h4,h5,h6]using hk
 have hi1:=zh hl h7
 rw[uv h7]at hR
 obtain⟨n,k1,b1,e1,hR⟩:=tgo (b:=false) (w:={ d with bounds:=d.bounds++[⟨(⟨#[]⟩:UW),E0⟩] }) (k:=i+1) hR (⟨#[]⟩:UW) rfl
 obtain⟨hk1,c1⟩:=vZ hl hi1 false _ _ _ e1
 obtain⟨x,k2,b2,e2,hR⟩:=tgo hR E0 rfl
 obtain⟨hkf,c2⟩:=wU hl hk1 b1 f _ _ _ e2
 obtain⟨rfl,rfl,rfl⟩:=zke hR
 refine⟨hkf,by simp only[zdB,uB,uC];omega,?_⟩
 clear hR
 refine gO T Tryz.func149 λC hC=>?_
 repeat' first|refine gG ?_|exact gD|refine gB ?_ ?_<;>intro h|refine zy hC ((zF hl hi uf)) (nm [0]) rfl rfl (yr.refl _) rfl rfl rfl rfl rfl rfl rfl rfl ?_|refine gR (zN hl h7) (nm [0]) ?_|refine gR c1 (nm [0]) ?_|refine gR c2 (nm [0]) ?_|refine gH T [x8 (⟨n,x⟩:Bd)] ?_|(refine gY T 102 ((d.bounds++[(⟨n,x⟩:Bd)]).map x8) 72 ?_)|refine gL ?_
 exact gW [0,1,2,3,4,5,6,7,8,2,3,4,5,6,7,102]
end
end Hw.Fr.Ps
namespace Hw.Fr
open Go Go.Proofs Go.Shelf
def zhn:Go.Shelf.Ren:=⟨λ|137=>224|217=>217|266=>264|n=>n,λ|9=>9|5=>5|3=>3|n=>n,λ|n=>n⟩
theorem zrM:Go.Proofs.Lays.n137 Tryz.prog zhn where
 mixed:=by kernel_rfl
 f137:=Tryz.func224.trans (uR some ud)
 f217:=Tryz.func217.trans (uR some ud)
 f266:=Tryz.func264.trans (uR some ud)
 t3:=Tryz.underlying3
 a3:=Tryz.isAgg3
 z3:=Tryz.sizeOf3
 v3:=Tryz.zeroValue3
 t5:=Tryz.underlying5
 a5:=Tryz.isAgg5
 z5:=Tryz.sizeOf5
 v5:=Tryz.zeroValue5
 t9:=Tryz.underlying9
 a9:=Tryz.isAgg9
 z9:=Tryz.sizeOf9
 v9:=Tryz.zeroValue9
def zho:Go.Shelf.Ren:=⟨λ|99=>223|206=>269|n=>n,λ|9=>9|4=>4|3=>3|n=>n,λ|n=>n⟩
theorem zrN:Go.Proofs.Lays.n99 Tryz.prog zho where
 mixed:=by kernel_rfl
 f99:=Tryz.func223.trans (uR some ud)
 f206:=Tryz.func269.trans (uR some ud)
 t3:=Tryz.underlying3
 a3:=Tryz.isAgg3
 z3:=Tryz.sizeOf3
 v3:=Tryz.zeroValue3
 t4:=Tryz.underlying4
 a4:=Tryz.isAgg4
 z4:=Tryz.sizeOf4
 v4:=Tryz.zeroValue4
 t9:=Tryz.underlying9
 a9:=Tryz.isAgg9
 z9:=Tryz.sizeOf9
 v9:=Tryz.zeroValue9
def vk:Go.Shelf.Ren:=⟨λ|172=>268|244=>294|245=>295|247=>315|279=>316|280=>317|281=>318|282=>319|287=>329|316=>330|171=>143|205=>331|321=>338|322=>339|243=>168|246=>216|283=>260|284=>261|285=>262|286=>263|129=>200|317=>287|318=>288|319=>289|320=>290|337=>310|338=>311|n=>n,λ|9=>9|3=>3|75=>208|76=>209|4=>4|5=>5|167=>378|37=>41|0=>0|85=>379|2=>2|168=>381|53=>286|175=>392|46=>178|210=>395|127=>243|145=>415|143=>413|21=>21|171=>338|173=>340|212=>359|51=>284|20=>20|213=>360|232=>385|233=>386|80=>212|n=>n,λ|15=>6|16=>7|17=>1|18=>3|19=>4|n=>n⟩
theorem ziE:Go.Proofs.LaysC.n172 Tryz.prog vk where
 mixed:=by kernel_rfl
 f129:=Tryz.func200.trans (uR some ud)
 f171:=Tryz.func143.trans (uR some ud)
 f172:=Tryz.func268.trans (uR some ud)
 f205:=Tryz.func331.trans (uR some ud)
 f243:=Tryz.func168.trans (uR some ud)
 f244:=Tryz.func294.trans (uR some ud)
 f245:=Tryz.func295.trans (uR some ud)
 f246:=Tryz.func216.trans (uR some ud)
 f247:=Tryz.func315.trans (uR some ud)
 f279:=Tryz.func316.trans (uR some ud)
 f280:=Tryz.func317.trans (uR some ud)
 f281:=Tryz.func318.trans (uR some ud)
 f282:=Tryz.func319.trans (uR some ud)
 f283:=Tryz.func260.trans (uR some ud)
 f284:=Tryz.func261.trans (uR some ud)
 f285:=Tryz.func262.trans (uR some ud)
 f286:=Tryz.func263.trans (uR some ud)
 f287:=Tryz.func329.trans (uR some ud)
 f316:=Tryz.func330.trans (uR some ud)
 f317:=Tryz.func287.trans (uR some ud)
 f318:=Tryz.func288.trans (uR some ud)
 f319:=Tryz.func289.trans (uR some ud)
 f320:=Tryz.func290.trans (uR some ud)
 f321:=Tryz.func338.trans (uR some ud)
 f322:=Tryz.func339.trans (uR some ud)
 f337:=Tryz.func310.trans (uR some ud)
 f338:=Tryz.func311.trans (uR some ud)
 t0:=Tryz.underlying0
 a0:=Tryz.isAgg0
 z0:=Tryz.sizeOf0
 v0:=Tryz.zeroValue0
 t2:=Tryz.underlying2
 a2:=Tryz.isAgg2
 z2:=Tryz.sizeOf2
 v2:=Tryz.zeroValue2
 t3:=Tryz.underlying3
 a3:=Tryz.isAgg3
 z3:=Tryz.sizeOf3
 v3:=Tryz.zeroValue3
 t4:=Tryz.underlying4
 a4:=Tryz.isAgg4
 z4:=Tryz.sizeOf4
 v4:=Tryz.zeroValue4
 t5:=Tryz.underlying5
 a5:=Tryz.isAgg5
 z5:=Tryz.sizeOf5
 v5:=Tryz.zeroValue5
 t9:=Tryz.underlying9
 a9:=Tryz.isAgg9
 z9:=Tryz.sizeOf9
 v9:=Tryz.zeroValue9
 t20:=Tryz.underlying20
 a20:=Tryz.isAgg20
 z20:=Tryz.sizeOf20
 v20:=Tryz.zeroValue20
 t21:=Tryz.underlying21
 a21:=Tryz.isAgg21
 z21:=Tryz.sizeOf21
 v21:=Tryz.zeroValue21
 t37:=Tryz.underlying41
 a37:=Tryz.isAgg41
 z37:=Tryz.sizeOf41
 v37:=Tryz.zeroValue41
 t46:=Tryz.underlying178
 a46:=Tryz.isAgg178
 z46:=Tryz.sizeOf178
 v46:=Tryz.zeroValue178
 t51:=Tryz.underlying284
 a51:=Tryz.isAgg284
 z51:=Tryz.sizeOf284
 v51:=Tryz.zeroValue284
 t53:=Tryz.underlying286
 a53:=Tryz.isAgg286
 z53:=Tryz.sizeOf286
 v53:=Tryz.zeroValue286
 t75:=Tryz.underlying208
 a75:=Tryz.isAgg208
 z75:=Tryz.sizeOf208
 v75:=Tryz.zeroValue208
 t76:=Tryz.underlying209
 a76:=Tryz.isAgg209
 z76:=Tryz.sizeOf209
 v76:=Tryz.zeroValue209
 t85:=Tryz.underlying379
 a85:=Tryz.isAgg379
 z85:=Tryz.sizeOf379
 v85:=Tryz.zeroValue379
 t127:=Tryz.underlying243
 a127:=Tryz.isAgg243
 z127:=Tryz.sizeOf243
 v127:=Tryz.zeroValue243
 t143:=Tryz.underlying413
 a143:=Tryz.isAgg413
 z143:=Tryz.sizeOf413
 v143:=Tryz.zeroValue413
 t145:=Tryz.underlying415
 a145:=Tryz.isAgg415
 z145:=Tryz.sizeOf415
 v145:=Tryz.zeroValue415
 t167:=Tryz.underlying378
 a167:=Tryz.isAgg378
 z167:=Tryz.sizeOf378
 v167:=Tryz.zeroValue378
 t168:=Tryz.underlying381
 a168:=Tryz.isAgg381
 z168:=Tryz.sizeOf381
 v168:=Tryz.zeroValue381
 t171:=Tryz.underlying338
 a171:=Tryz.isAgg338
 z171:=Tryz.sizeOf338
 v171:=Tryz.zeroValue338
 t173:=Tryz.underlying340
 a173:=Tryz.isAgg340
 z173:=Tryz.sizeOf340
 v173:=Tryz.zeroValue340
 t175:=Tryz.underlying392
 a175:=Tryz.isAgg392
 z175:=Tryz.sizeOf392
 v175:=Tryz.zeroValue392
 t210:=Tryz.underlying395
 a210:=Tryz.isAgg395
 z210:=Tryz.sizeOf395
 v210:=Tryz.zeroValue395
 t212:=Tryz.underlying359
 a212:=Tryz.isAgg359
 z212:=Tryz.sizeOf359
 v212:=Tryz.zeroValue359
 t213:=Tryz.underlying360
 a213:=Tryz.isAgg360
 z213:=Tryz.sizeOf360
 t232:=Tryz.underlying385
 a232:=Tryz.isAgg385
 z232:=Tryz.sizeOf385
 v232:=Tryz.zeroValue385
 t233:=Tryz.underlying386
 a233:=Tryz.isAgg386
 z233:=Tryz.sizeOf386
 v233:=Tryz.zeroValue386
 g15:=by kernel_rfl
 g16:=by kernel_rfl
 g17:=by kernel_rfl
 g18:=by kernel_rfl
 g19:=by kernel_rfl
 t80:=Tryz.underlying212
 a80:=Tryz.isAgg212
 z80:=Tryz.sizeOf212
 v80:=Tryz.zeroValue212
 i0:=by kernel_rfl
 i2:=by kernel_rfl
 i3:=by kernel_rfl
 i4:=by kernel_rfl
 i5:=by kernel_rfl
 i9:=by kernel_rfl
 i20:=by kernel_rfl
 i21:=by kernel_rfl
 i37:=by kernel_rfl
 i46:=by kernel_rfl
 i51:=by kernel_rfl
 i53:=by kernel_rfl
 i75:=by kernel_rfl
 i76:=by kernel_rfl
 i80:=by kernel_rfl
 i85:=by kernel_rfl
 i127:=by kernel_rfl
 i143:=by kernel_rfl
 i145:=by kernel_rfl
 i167:=by kernel_rfl
 i168:=by kernel_rfl
 i171:=by kernel_rfl
 i173:=by kernel_rfl
 i175:=by kernel_rfl
 i210:=by kernel_rfl
 i212:=by kernel_rfl
 i232:=by kernel_rfl
 i233:=by kernel_rfl
 m15:=by kernel_rfl
 m16:=by kernel_rfl
 m17:=by kernel_rfl
 m18:=by kernel_rfl
 m19:=by kernel_rfl
 c0:=by kernel_rfl
 c2:=by kernel_rfl
 c3:=by kernel_rfl
 c4:=by kernel_rfl
 c5:=by kernel_rfl
 c9:=by kernel_rfl
 c20:=by kernel_rfl
 c21:=by kernel_rfl
 c37:=by kernel_rfl
 c46:=by kernel_rfl
 c51:=by kernel_rfl
 c53:=by kernel_rfl
 c75:=by kernel_rfl
 c76:=by kernel_rfl
 c80:=by kernel_rfl
 c85:=by kernel_rfl
 c127:=by kernel_rfl
 c143:=by kernel_rfl
 c145:=by kernel_rfl
 c167:=by kernel_rfl
 c168:=by kernel_rfl
 c171:=by kernel_rfl
 c173:=by kernel_rfl
 c175:=by kernel_rfl
 c210:=by kernel_rfl
 c212:=by kernel_rfl
 c213:=by kernel_rfl
 c232:=by kernel_rfl
 c233:=by kernel_rfl
end Hw.Fr
namespace Hw.Fr.Ps
open Go Go.Proofs Go.Shelf Hw.M
theorem zax{f:FuncId}{fn:Func}(h:Tryz.prog.funcs[f]?=some fn)(h1:(fn.name== "runtime.NumGoroutine")=false)(h2:fn.body.isNone=false):zad Tryz.prog f:=⟨fn,h,h1,h2⟩
theorem zet(s p:Str):zk Tryz.prog 223 [Sr s,Sr p] [] (Bo ((lst p).isPrefixOf (lst s))) []:=
 @zh9 _ _ [.string s,.string p] _ (zax Tryz.func223 ud ud) (λw _=>Any.strings_HasPrefix zrN s p w) rfl
theorem zfu(s:Str)(c:UInt8):zk Tryz.prog 224 [Sr s,uc c.toNat] [] (I (Lib.indexByte (lst s) c)) []:=
 @zh9 _ _ [.string s,.int .u8 c.toNat] _ (zax Tryz.func224 ud ud) (λw _=>by
  have:=Any.strings_IndexByte zrM s c.toNat w
  have e:((c.toNat:Int).toNat).toUInt8=c:=by simp
  rw[e]at this
  exact this) rfl
theorem zrO{s:Str}{v:Int}(h:Lib.atoiAll (lst s)= .ok v)(hs:s.size<=1000000):zk Tryz.prog 268 [Sr s] [] (.tup [I v,.one (.p (.k .nilIface))]) []:=by
 refine⟨zax Tryz.func268 ud ud,λM ρ w xs hx _ hI hG=>?_⟩
 obtain rfl:=zcg (av:=[.string s]) hx
 refine(Any.strconv_Atoi_ok ziE s ua v h w).mono λe w' ⟨he,hw⟩=>?_
 have hb:RowKit.Below w.heap.size w w':=by
  rcases hw with rfl|⟨t,rfl⟩
  ·exact RowKit.Below.refl _ _
  ·exact Lib.bytesWorld_below w _ t
 exact⟨_,M,ρ,he,zch hI hb (by simp only[RepS];exact⟨[.int .i64 v,.nilIface],rfl,by simp only[RepSs,RepS,RepV,RepPV];exact⟨⟨uh,rfl⟩,⟨uh,rfl⟩,uh⟩⟩)⟩
theorem zkf{s:Str}(h:Lib.atoiAll (lst s)= .range)(hs:s.size<=1000000)(hn:Lib.atoiSat (lst s)=9223372036854775807):zk Tryz.prog 268 [Sr s] [] (.tup [I 9223372036854775807,.one (.ar 0)]) [(0,.ifc)]:=by
 refine⟨zax Tryz.func268 ud ud,λM ρ w xs hx hT hI hG=>?_⟩
 obtain rfl:=zcg (av:=[.string s]) hx
 obtain⟨te,pe,hev⟩:=hG.er 7 (by simp[G3])
 have hv:=hI _ _ _ hev
 refine(Any.strconv_Atoi_range ziE s ua h _ w hv (.inr ⟨te,pe,rfl⟩)).mono λe w' ⟨N,he,_,_,hb⟩=>?_
 have hn':Lib.atoiSat s.data.toList=9223372036854775807:=hn
 rw[hn']at he
 have only: ∀i r,tg (tb [(0,Res.ifc)]) i=some r->i=0/\r= .ifc:=λi r hi=>by
  simp only[tb,zX]at hi
  split at hi
  ·rename_i e;exact⟨e.symm,(uy hi).symm⟩
  ·cases hi
 have nob: ∀ {i r b},tg (tb [(0,Res.ifc)]) i=some r->Bk (upd ρ 0 (.iface (vk.t 168) (.pointer (some ⟨N,0,none⟩))) i) b->False:=λ{i r b} hi hb=>by
  obtain⟨rfl,_⟩:=only i r hi
  rw[zw]at hb
  simp[Bk,blk]at hb
 refine⟨_,M,upd ρ 0 (.iface (vk.t 168) (.pointer (some ⟨N,0,none⟩))),he,?_⟩
 refine⟨?_,⟨λi r hi=>?_,λi j ri rj b hi _ _ hb _=>nob hi hb,λi r b hi hb=>(nob hi hb).elim⟩,λb o u hu=>by rw[cell_of_heap (hb.block b (xN (hI b o u hu)))];exact hI b o u hu,MLe.refl M,λb o u hu=> .inl hu,
  λb ⟨i,r,hi,hb⟩=>(nob hi hb).elim,λb h _=>hb.block b h,hb.size,hb.os,hb.tape,hb.output,λid hid=>by simp[RL.ids]at hid⟩
 ·simp only[RepS]
  exact⟨[.int .i64 9223372036854775807,.iface (vk.t 168) (.pointer (some ⟨N,0,none⟩))],rfl,by simp only[RepSs,RepS,RepV,RepPV];exact⟨⟨uh,rfl⟩,⟨by rw[zw],rfl⟩,uh⟩⟩
 ·obtain⟨rfl,rfl⟩:=only i r hi
  exact⟨_,_,zw _ _ _⟩
variable {i:Nat}
theorem yJ{s:Str}{b:UInt8}(h:(lst s)[i]?=some b):s[((i:Nat):Int).toNat]?=some b:=by
 have hlt:i<s.data.size:=by
  have:=(ui.1 h).1
  simpa [lst]using this
 have:s.data[i]=b:=by unfold lst at h;rw[om,qj hlt]at h;exact uy h
 have hlt':i<s.size:=hlt
 simp only[uF]
 rw[getElem?_pos s i hlt']
 exact uR some this
theorem zfv(c:Int):decide (xt c=3)=isDigit c:=by
 unfold xt isDigit
 by_cases h1:c=32
 ·subst h1;rfl
 by_cases h2:c=9
 ·subst h2;rfl
 by_cases h3:c=13
 ·subst h3;rfl
 by_cases h4:c=10
 ·subst h4;rfl
 simp only[h1,h2,h3,h4,tO]
 by_cases h5:(decide (97<=c)&&decide (c<=122))=true
 ·rw[uv h5]
  simp only[uu,ux]at h5
  rw[uJ (show ¬c<=57 by omega)];simp
 ·rw[ur h5]
  by_cases h6:(decide (65<=c)&&decide (c<=90))=true
  ·rw[uv h6]
   simp only[uu,ux]at h6
   rw[uJ (show ¬c<=57 by omega)];simp
  ·rw[ur h6]
   by_cases h7:(decide (48<=c)&&decide (c<=57))=true
   ·rw[uv h7,h7];rfl
   ·rw[ur h7]
    have h7':(decide (48<=c)&&decide (c<=57))=false:=by simpa using h7
    rw[h7']
    by_cases h8:c=95
    ·rw[uv h8];rfl
    ·rw[ur h8];rfl
def zhp(w:By):Bool:=decide (w=[])||(decide (1<w.length)&&decide (w.head?=some 48))
theorem zeu(w:By):vq w=(!zhp w&&w.all dB&&decide (numV w 0<=1099511627776)):=by
 unfold vq zhp;cases decide (w=[])<;>cases(decide (1<w.length)&&decide (w.head?=some 48))<;>simp
def zqK(w:By):Int:=if(!zhp w&&w.all dB)=true then zrD w else 0
variable {w:By}
theorem zkg(hne:w≠ [])(hd:w.all dB=true):Lib.atoiSat w=9223372036854775807:=by
 cases w with
 |nil=>exact absurd rfl hne
 |cons c r=>
  have hc:=zfc.1 (by simp only[qT,uu]at hd;exact hd.1)
  exact Lib.atoiSat_other c r ua
theorem zkh(s:Str)(hs:s.size<=1000000):zk Tryz.prog 222 [Sr s] [] (.tup [I (zqK (lst s)),.bq (vq (lst s))]) []:=by
 have hl:=y4 s
 have no:zhp (lst s)=true->zqK (lst s)=0/\vq (lst s)=false:=λh=>by
  rw[zeu];unfold zqK;rw[h];simp
 by_cases h0:s=⟨#[]⟩
 ·obtain⟨e1,e2⟩:=no (by rw[h0];rfl)
  rw[e1,e2]
  refine gO T Tryz.func222 λC hC=>?_
  repeat' first|refine gG ?_|refine gB ?_ ?_<;>intro h
  all_goals first
   |exact zt ⟨.inl rfl,id,_,rfl,LeS.tup (.cons (.refl _) (.cons (.qb rfl) .nil)),trivial,rfl,rfl⟩
   |(exfalso;simp_all;done)
 have hne:lst s≠ []:=λe=>h0 (by rw[<-zau s,e];rfl)
 have hpos:0<(lst s).length:=qV.2 hne
 obtain⟨b,hb⟩:=ze hpos
 have hhd:(lst s).head?=some b:=by rw[Uw];exact hb
 by_cases h1:(decide (1<(lst s).length)&&decide ((lst s).head?=some 48))=true
 ·obtain⟨e1,e2⟩:=no (by unfold zhp;rw[h1];simp)
  rw[e1,e2]
  simp only[uu,ux,hhd,um]at h1
  obtain⟨h1,rfl⟩:=h1
  refine gO T Tryz.func222 λC hC=>?_
  repeat' first|refine gG ?_|refine gB ?_ ?_<;>intro h|refine yy T hC rfl rfl rfl (qB _) (yJ hb) rfl rfl ?_
  all_goals first
   |exact zt ⟨.inl rfl,id,_,rfl,LeS.tup (.cons (.refl _) (.cons (.qb rfl) .nil)),trivial,rfl,rfl⟩
   |(exfalso;simp_all;done)
   |(exfalso;simp only[ux,uX]at *; omega)
   |(exfalso;revert h;decide)
 have hnn:zhp (lst s)=false:=by
  unfold zhp
  rw[uJ hne];simpa using h1
 have hif:zqK (lst s)=if(lst s).all dB=true then zrD (lst s)else 0:=by unfold zqK;rw[hnn];simp
 have hok:vq (lst s)=((lst s).all dB&&decide (numV (lst s) 0<=1099511627776)):=by rw[zeu,hnn];rfl
 have h48:1<(lst s).length->b≠48:=λh e=>h1 (by rw[hhd,e];simp[h])
 rw[hif,hok]
 clear no h1 hhd
 refine gO T Tryz.func222 λC hC=>?_
 repeat' first|refine gG ?_|refine gB ?_ ?_<;>intro h|refine yy T hC rfl rfl rfl (qB _) (yJ hb) rfl rfl ?_
 all_goals first
  |(exfalso;simp_all;done)
  |(exfalso;simp only[ux,uX]at *; refine h48 ua ?_;apply qQ.1;have h48':(48:UInt8).toNat=48:=rfl;omega)
  |skip
 all_goals
  refine zn (λi:Nat=>i<=s.size/\((lst s).take i).all dB=true) (λi=>([(0,Sr s),(20,I s.size),(21,I i)],[])) (λi=>s.size - i) hC
   0 ⟨uA _,ue⟩ id gM ?_
  rintro i ⟨hi,hn⟩
  refine zr T hC true 200 rfl ?_
  refine zu rfl ?_ ?_<;>intro hh
  ·have hlt:i<(lst s).length:=by have:=uo hh;omega
   clear hh
   obtain⟨x,hx⟩:=ze hlt
   repeat' first|refine gG ?_|refine gB ?_ ?_<;>intro h|refine yy T hC rfl rfl rfl (uw _) (yJ hx) rfl rfl ?_|refine gC (xQ _) ?_|refine zx ?_
   all_goals first
    |(have hd:dB x=false:=by unfold dB;rw[<-zfv];simpa using h
      rw[xJ hx hd]
      exact zt ⟨.inl rfl,id,_,rfl,LeS.tup (.cons (.refl _) (.cons (.qb rfl) .nil)),trivial,rfl,rfl⟩)
    |(have hd:dB x=true:=by unfold dB;rw[<-zfv];simpa using h
      rw[zC ua]
      refine zf (i+1) ⟨ua,?_⟩ id ua gM
      rw[ya hx,hn,hd];rfl)
  ·have hge: ¬i<(lst s).length:=by have:=uq hh;omega
   have hall:=xm (p:=dB) ua hn
   clear hh
   rw[hall,tr]
   have ha:=zg0 hne hall
   have hsat:=zkg hne hall
   by_cases hv:numV (lst s) 0<=9223372036854775807
   ·rw[uv hv]at ha
    have hA:=zrO ha hs
    have hi':zrD (lst s)=numV (lst s) 0:=by unfold zrD;rw[uv hv]
    rw[hi',uv rfl]
    repeat' first|refine gG ?_|refine gB ?_ ?_<;>intro h|refine zj ?_|refine gC hA ?_|refine ztn hC rfl ud rfl rfl ?_
    all_goals first
     |exact zt ⟨.inl rfl,id,_,rfl,LeS.tup (.cons (.refl _) (.cons (.qq rfl) .nil)),trivial,rfl,rfl⟩
     |(exfalso;simp_all;done)
   ·rw[ur hv]at ha
    have hA:=zkf ha hs hsat
    have hi':zrD (lst s)=9223372036854775807:=by unfold zrD;rw[ur hv]
    rw[hi',uJ (show ¬numV (lst s) 0<=1099511627776 by omega),uv rfl]
    repeat' first|refine gG ?_|refine gB ?_ ?_<;>intro h|refine zj ?_|(refine gR hA (nm [140]) ?_)|refine ztm hC rfl rfl ud rfl rfl ?_
    all_goals first
     |exact zt ⟨.inl rfl,id,_,rfl,LeS.tup (.cons (.refl _) (.cons (.qb rfl) .nil)),trivial,rfl,rfl⟩
     |(exfalso;simp_all;done)
theorem zay(s:Str)(i j:Nat):lst (s.extract i j)=((lst s).drop i).take (j - i):=by
 simp only[lst,ByteArray.data_extract,Array.toList_extract,List.extract_eq_take_drop]
theorem v7(s:Str)(i j:Nat):s.extract i j=zbf (((lst s).drop i).take (j - i)):=by rw[<-zay,zau]
variable {c:UInt8}
theorem zmq{r:By}(h: ∀y∈[(⟨#[61,61]⟩:UW),(⟨#[33,61]⟩:UW),(⟨#[60,61]⟩:UW),(⟨#[45,62]⟩:UW)],(lst y).isPrefixOf (c::r)=false):zeX (c::r)=if 0<=Lib.indexByte (lst (⟨#[40,41,123,125,91,93,44,59,58,46,61,60,43,45,42,47,37]⟩:Str)) c then some (zbf [c])else none:=by
 have key: ∀i:Fin 256,(([(⟨#[40]⟩:UW),(⟨#[41]⟩:UW),⟨#[123]⟩,⟨#[125]⟩,(⟨#[91]⟩:UW),(⟨#[93]⟩:UW),(⟨#[44]⟩:UW),(⟨#[59]⟩:UW),(⟨#[58]⟩:UW),(⟨#[46]⟩:UW),(⟨#[61]⟩:UW),(⟨#[60]⟩:UW),(⟨#[43]⟩:UW),(⟨#[45]⟩:UW),(⟨#[42]⟩:UW),(⟨#[47]⟩:UW),(⟨#[37]⟩:UW)]:List Str).find? λy=>(lst y).isPrefixOf [UInt8.ofNat i.val])=
  if 0<=Lib.indexByte (lst (⟨#[40,41,123,125,91,93,44,59,58,46,61,60,43,45,42,47,37]⟩:Str)) (UInt8.ofNat i.val)then some (zbf [UInt8.ofNat i.val])else none:=by decide+kernel
 have hci:UInt8.ofNat c.toNat=c:=by simp
 have hk:=key ⟨c.toNat,c.toNat_lt⟩
 simp only[hci]at hk
 rw[<-hk]
 have e:syms=[(⟨#[61,61]⟩:UW),(⟨#[33,61]⟩:UW),(⟨#[60,61]⟩:UW),(⟨#[45,62]⟩:UW)]++[(⟨#[40]⟩:UW),(⟨#[41]⟩:UW),⟨#[123]⟩,⟨#[125]⟩,(⟨#[91]⟩:UW),(⟨#[93]⟩:UW),(⟨#[44]⟩:UW),(⟨#[59]⟩:UW),(⟨#[58]⟩:UW),(⟨#[46]⟩:UW),(⟨#[61]⟩:UW),(⟨#[60]⟩:UW),(⟨#[43]⟩:UW),(⟨#[45]⟩:UW),(⟨#[42]⟩:UW),(⟨#[47]⟩:UW),(⟨#[37]⟩:UW)]:=rfl
 unfold zeX
 rw[e,List.find?_append]
 have hn:([(⟨#[61,61]⟩:UW),(⟨#[33,61]⟩:UW),(⟨#[60,61]⟩:UW),(⟨#[45,62]⟩:UW)]:List Str).find? (λy=>(lst y).isPrefixOf (c::r))=none:=by
  rw[Uh]
  intro y hy
  rw[h y hy];simp
 rw[hn,Option.none_or]
 have one: ∀y∈([(⟨#[40]⟩:UW),(⟨#[41]⟩:UW),⟨#[123]⟩,⟨#[125]⟩,(⟨#[91]⟩:UW),(⟨#[93]⟩:UW),(⟨#[44]⟩:UW),(⟨#[59]⟩:UW),(⟨#[58]⟩:UW),(⟨#[46]⟩:UW),(⟨#[61]⟩:UW),(⟨#[60]⟩:UW),(⟨#[43]⟩:UW),(⟨#[45]⟩:UW),(⟨#[42]⟩:UW),(⟨#[47]⟩:UW),(⟨#[37]⟩:UW)]:List Str),(lst y).length=1:=by decide+kernel
 have: ∀l:List Str,(∀y∈l,(lst y).length=1)->l.find? (λy=>(lst y).isPrefixOf (c::r))=l.find? (λy=>(lst y).isPrefixOf [c]):=λl=>by
  induction l with
  |nil=>intro _;rfl
  |cons y l ih=>
   intro hl
   have hy:=hl y ue
   have e2:(lst y).isPrefixOf (c::r)=(lst y).isPrefixOf [c]:=by
    match lst y,hy with
    | [u],_=>rfl
    | [],hy=>simp at hy
    |_::_::_,hy=>simp at hy
   rw[UB,UB,e2,ih λz hz=>hl z (by simp[hz])]
 exact this _ one
theorem zo7:zeX []=none:=by decide+kernel
theorem zmr(s:Str):zk Tryz.prog 172 [Sr s] [] (Sr ((zeX (lst s)).getD (⟨#[]⟩:UW))) []:=by
 have hl:=y4 s
 have hP:=λy:Str=>zet s y
 refine gO T Tryz.func172 λC hC=>?_
 repeat' first|refine gG ?_|refine gB ?_ ?_<;>intro h|(refine zox (vs:=[.p (ks (⟨#[61,61]⟩:UW)),.p (ks (⟨#[33,61]⟩:UW)),.p (ks (⟨#[60,61]⟩:UW)),.p (ks (⟨#[45,62]⟩:UW))]) (len:=4) (e:=1) (el:=9) (zs:=List.replicate 4 (.p (ks (⟨#[]⟩:UW)))) hC rfl ud ud ud rfl ud rfl rfl ?_)
 refine zn (λi:Nat=>i<=4/\ ∀y∈([(⟨#[61,61]⟩:UW),(⟨#[33,61]⟩:UW),(⟨#[60,61]⟩:UW),(⟨#[45,62]⟩:UW)]:List Str).take i,(lst y).isPrefixOf (lst s)=false) (λi=>([(0,Sr s),(5,.agg [.p (ks (⟨#[61,61]⟩:UW)),.p (ks (⟨#[33,61]⟩:UW)),.p (ks (⟨#[60,61]⟩:UW)),.p (ks (⟨#[45,62]⟩:UW))]),(6,I i)],[])) (λi=>4 - i) hC
  0 ⟨uA _,ue⟩ id gM ?_
 rintro i ⟨hi,hn⟩
 refine zr T hC true 200 rfl ?_
 refine zu rfl ?_ ?_<;>intro hh
 ·have hlt:i<4:=by have:=uo hh;omega
  clear hh
  obtain⟨y,hy⟩:=ze (l:=([(⟨#[61,61]⟩:UW),(⟨#[33,61]⟩:UW),(⟨#[60,61]⟩:UW),(⟨#[45,62]⟩:UW)]:List Str)) (i:=i) (by simpa using hlt)
  have hyv:([.p (ks (⟨#[61,61]⟩:UW)),.p (ks (⟨#[33,61]⟩:UW)),.p (ks (⟨#[60,61]⟩:UW)),.p (ks (⟨#[45,62]⟩:UW))]:List V)[((i:Nat):Int).toNat]?=some (.p (ks y)):=by
   have:([.p (ks (⟨#[61,61]⟩:UW)),.p (ks (⟨#[33,61]⟩:UW)),.p (ks (⟨#[60,61]⟩:UW)),.p (ks (⟨#[45,62]⟩:UW))]:List V)=([(⟨#[61,61]⟩:UW),(⟨#[33,61]⟩:UW),(⟨#[60,61]⟩:UW),(⟨#[45,62]⟩:UW)]:List Str).map λy=>V.p (ks y):=rfl
   rw[this,uE,uF,hy];rfl
  have hPy:=hP y
  cases hp:(lst y).isPrefixOf (lst s)with
  |true=>
   rw[hp]at hPy
   have hsy:zeX (lst s)=some y:=by
    unfold zeX
    have e:syms=([(⟨#[61,61]⟩:UW),(⟨#[33,61]⟩:UW),(⟨#[60,61]⟩:UW),(⟨#[45,62]⟩:UW)]:List Str)++[(⟨#[40]⟩:UW),(⟨#[41]⟩:UW),⟨#[123]⟩,⟨#[125]⟩,(⟨#[91]⟩:UW),(⟨#[93]⟩:UW),(⟨#[44]⟩:UW),(⟨#[59]⟩:UW),(⟨#[58]⟩:UW),(⟨#[46]⟩:UW),(⟨#[61]⟩:UW),(⟨#[60]⟩:UW),(⟨#[43]⟩:UW),(⟨#[45]⟩:UW),(⟨#[42]⟩:UW),(⟨#[47]⟩:UW),(⟨#[37]⟩:UW)]:=rfl
    rw[e,List.find?_append]
    have:([(⟨#[61,61]⟩:UW),(⟨#[33,61]⟩:UW),(⟨#[60,61]⟩:UW),(⟨#[45,62]⟩:UW)]:List Str).find? (λy=>(lst y).isPrefixOf (lst s))=some y:=by
     rw[oQ]
     refine⟨hp,i,by simpa using hlt,?_,λj hj=>?_⟩
     ·have:=(ui.1 hy).2;exact this
     ·have:=hn (([(⟨#[61,61]⟩:UW),(⟨#[33,61]⟩:UW),(⟨#[60,61]⟩:UW),(⟨#[45,62]⟩:UW)]:List Str)[j]'ug) (Ul.2 ⟨j,ug,rfl⟩)
      rw[this];rfl
    rw[this];rfl
   rw[hsy]
   repeat' first|refine gG ?_|refine gB ?_ ?_<;>intro h|(refine zib (len:=4) (el:=9) hC rfl rfl ud ud ud (uw _) ua hyv rfl rfl ?_)|refine gC hPy ?_|refine zx ?_
   exact gF
  |false=>
   rw[hp]at hPy
   repeat' first|refine gG ?_|refine gB ?_ ?_<;>intro h|(refine zib (len:=4) (el:=9) hC rfl rfl ud ud ud (uw _) ua hyv rfl rfl ?_)|refine gC hPy ?_
   rw[zC ua]
   refine zf (i+1) ⟨ua,λz hz=>?_⟩ id ua gM
   rw[tG,hy]at hz
   rcases u7.1 hz with hz|hz
   ·exact hn z hz
   ·simp only[qR,tP]at hz;subst hz;exact hp
 ·have hge:i=4:=by have:=uq hh;omega
  subst hge
  clear hh
  have hn4: ∀y∈([(⟨#[61,61]⟩:UW),(⟨#[33,61]⟩:UW),(⟨#[60,61]⟩:UW),(⟨#[45,62]⟩:UW)]:List Str),(lst y).isPrefixOf (lst s)=false:=λy hy=>hn y (by simpa using hy)
  match hls:lst s with
  | []=>
    have h0:s=⟨#[]⟩:=by rw[<-zau s,hls];rfl
    subst h0
    rw[zo7]
    repeat' first|refine gG ?_|refine gB ?_ ?_<;>intro h|refine zj ?_
    all_goals first
     |exact gF
     |(exfalso;simp_all;done)
  |c::r=>
   rw[hls]at hn4 hl
   have hsz:1<=s.size:=by simp only[uI]at hl;omega
   have hc0:(lst s)[0]?=some c:=by rw[hls];rfl
   have hI:=zfu ⟨#[40,41,123,125,91,93,44,59,58,46,61,60,43,45,42,47,37]⟩ c
   have hne:s≠⟨#[]⟩:=λe=>by subst e;simp[lst]at hls
   rw[zmq hn4]
   generalize Lib.indexByte (lst (⟨#[40,41,123,125,91,93,44,59,58,46,61,60,43,45,42,47,37]⟩:Str)) c=q at hI
   have hx:s.extract 0 (1:Int).toNat=zbf [c]:=by
    rw[v7,hls];rfl
   repeat' first|refine gG ?_|refine gB ?_ ?_<;>intro h|refine zj ?_|refine yy T hC rfl rfl rfl (qB _) (yJ hc0) rfl rfl ?_|refine gC hI ?_|(refine zlk hC rfl rfl ud ub ua rfl rfl ?_)
   all_goals first
    |(rw[uv (by simpa using h),hx]
      exact gF)
    |(rw[ur (by simpa using h)]
      exact gF)
    |(exfalso;simp_all;done)
def zvr(k:Int)(t:Str)(n ln cl:Int):List PV:=[ki k,ks t,ki n,ki ln,ki cl]
theorem zki(s:Str)(hs:s.size<=1000000):(∀t,zgX (lst s)=some t->zk Tryz.prog 171 [Sr s] [] (.tup [zm (zvr t.1 t.2.1 t.2.2 0 0),Bo true]) [])/\(zgX (lst s)=none->zk Tryz.prog 171 [Sr s] [] (.tup [zm (zvr 2 (⟨#[]⟩:UW) (zqK (lst s)) 0 0),Bo false]) []):=by
 have hK:=zaN s
 have hN:=yC s
 have hI:=zkh s hs
 have hif:vq (lst s)=true->zqK (lst s)=numV (lst s) 0:=λh=>by
  rw[zeu]at h
  simp only[uu,ux]at h
  unfold zqK zrD
  rw[uv (by simp[h.1.1,h.1.2]),uv ua]
 unfold zgX
 rw[zau]
 cases hk:y3 s with
 |true=>
  rw[hk]at hK
  refine⟨λt ht=>?_,λh=>by simp at h⟩
  rw[uv rfl]at ht
  obtain rfl:=uy ht
  refine gO T Tryz.func171 λC hC=>?_
  repeat' first|refine gG ?_|refine gB ?_ ?_<;>intro h|refine gC hK ?_
  all_goals first
   |exact gF
   |(exfalso;simp_all;done)
 |false=>
 rw[hk]at hK
 cases hn:isName s with
 |true=>
  rw[hn]at hN
  refine⟨λt ht=>?_,λh=>by simp at h⟩
  simp only[uU,tO,qx]at ht
  obtain rfl:=uy ht
  refine gO T Tryz.func171 λC hC=>?_
  repeat' first|refine gG ?_|refine gB ?_ ?_<;>intro h|refine gC hK ?_|refine gC hN ?_
  all_goals first
   |exact gF
   |(exfalso;simp_all;done)
 |false=>
 rw[hn]at hN
 cases ho:vq (lst s)with
 |true=>
  rw[ho,hif ho]at hI
  refine⟨λt ht=>?_,λh=>by simp at h⟩
  simp only[uU,tO,qx]at ht
  obtain rfl:=uy ht
  refine gO T Tryz.func171 λC hC=>?_
  repeat' first|refine gG ?_|refine gB ?_ ?_<;>intro h|refine gC hK ?_|refine gC hN ?_|refine gC hI ?_
  all_goals first
   |exact zt ⟨.inl rfl,id,_,rfl,LeS.tup (.cons (.refl _) (.cons (.bq rfl) .nil)),trivial,rfl,rfl⟩
   |exact gF
   |(exfalso;simp_all;done)
 |false=>
  rw[ho]at hI
  refine⟨λt ht=>by simp at ht,λ_=>?_⟩
  refine gO T Tryz.func171 λC hC=>?_
  repeat' first|refine gG ?_|refine gB ?_ ?_<;>intro h|refine gC hK ?_|refine gC hN ?_|refine gC hI ?_
  all_goals first
   |exact zt ⟨.inl rfl,id,_,rfl,LeS.tup (.cons (.refl _) (.cons (.bq rfl) .nil)),trivial,rfl,rfl⟩
   |exact gF
   |(exfalso;simp_all;done)
theorem zcM: ∀(a b:By) (n:Int),numV (a++b) n=numV b (numV a n)
 | [],_,_=>rfl
 |x::a,b,n=>by simp only[ta,numV];exact zcM a b _
theorem zms{x:UInt8}(h:w[i]?=some x):numV (w.take (i+1)) 0=numV (w.take i) 0*10+((x.toNat:Int) - 48):=by
 rw[tG,h,qR,zcM];rfl
theorem zmt(h:w.all dB=true):0<=numV w 0:=by
 have:=zaO w 0 h
 have e0:((0:Nat):Int)=0:=rfl
 rw[e0]at this;omega
theorem zfw(h:w.all dB=true)(k:Nat):numV (w.take k) 0<=numV w 0:=by
 have h1:=zaO w 0 h
 have ht:(w.take k).all dB=true:=by rw[List.all_eq_true]at h ⊢; exact λx hx=>h x (u6 hx)
 have h2:=zaO (w.take k) 0 ht
 have h3:=zfd w k 0
 have e0:((0:Nat):Int)=0:=rfl
 rw[e0]at h1 h2;omega
def zrP(w:By):Int:=if vq w=true then numV w 0 else 0
theorem zkj(s:Str)(hs:s.size<=1000000):zk Tryz.prog 248 [Sr s] [] (.tup [I (zrP (lst s)),.bq (vq (lst s))]) []:=by
 have hl:=y4 s
 have no:vq (lst s)=false->zrP (lst s)=0:=λh=>by unfold zrP;rw[h];simp
 by_cases h0:s=⟨#[]⟩
 ·have hn:vq (lst s)=false:=by rw[h0];rfl
  rw[no hn,hn]
  subst h0
  refine gO T Tryz.func248 λC hC=>?_
  repeat' first|refine gG ?_|refine gB ?_ ?_<;>intro h
  all_goals first
   |exact zt ⟨.inl rfl,id,_,rfl,LeS.tup (.cons (.refl _) (.cons (.qb rfl) .nil)),trivial,rfl,rfl⟩
   |exact gD
   |(exfalso;rename_i hf;revert hf;decide)
   |(exfalso;rename_i hf _;revert hf;decide)
   |(exfalso;revert h;decide)
   |(exfalso;simp_all;done)
 have hne:lst s≠ []:=λe=>h0 (by rw[<-zau s,e];rfl)
 have hpos:0<(lst s).length:=qV.2 hne
 obtain⟨b,hb⟩:=ze hpos
 have hhd:(lst s).head?=some b:=by rw[Uw];exact hb
 by_cases h1:(decide (1<(lst s).length)&&decide ((lst s).head?=some 48))=true
 ·have hn:vq (lst s)=false:=by unfold vq;rw[h1];simp
  rw[no hn,hn]
  simp only[uu,ux,hhd,um]at h1
  obtain⟨h1,rfl⟩:=h1
  refine gO T Tryz.func248 λC hC=>?_
  repeat' first|refine gG ?_|refine gB ?_ ?_<;>intro h|refine yy T hC rfl rfl rfl (qB _) (yJ hb) rfl rfl ?_
  all_goals first
   |exact zt ⟨.inl rfl,id,_,rfl,LeS.tup (.cons (.refl _) (.cons (.qb rfl) .nil)),trivial,rfl,rfl⟩
   |(exfalso;simp only[ux,uX]at *; omega)
   |(exfalso;revert h;decide)
   |(exfalso;simp_all;done)
 have hok:vq (lst s)=((lst s).all dB&&decide (numV (lst s) 0<=1099511627776)):=by
  unfold vq
  rw[uJ hne]
  have:(decide (1<(lst s).length)&&decide ((lst s).head?=some 48))=false:=by simpa using h1
  rw[this];rfl
 have h48:1<(lst s).length->b≠48:=λh e=>h1 (by rw[hhd,e];simp[h])
 clear h1 hhd
 refine gO T Tryz.func248 λC hC=>?_
 repeat' first|refine gG ?_|refine gB ?_ ?_<;>intro h|refine yy T hC rfl rfl rfl (qB _) (yJ hb) rfl rfl ?_
 all_goals first
  |(exfalso;simp only[ux,uX]at *; omega)
  |(exfalso;simp only[ux,uX]at *; refine h48 ua ?_;apply qQ.1;have h48':(48:UInt8).toNat=48:=rfl;omega)
  |skip
 all_goals
  refine zn (λi:Nat=>i<=s.size/\((lst s).take i).all dB=true/\numV ((lst s).take i) 0<=1099511627776) (λi=>([(0,Sr s),(4,I (numV ((lst s).take i) 0)),(5,I i)],[])) (λi=>s.size - i) hC
   0 ⟨uA _,ue,by simp[numV]⟩ id gM ?_
  rintro i ⟨hi,hn,hm⟩
  refine zr T hC true 200 rfl ?_
  refine zu rfl ?_ ?_<;>intro hh
  ·have hlt:i<(lst s).length:=by have:=uo hh;omega
   clear hh
   obtain⟨x,hx⟩:=ze hlt
   have hsn:=zms hx
   have hge:=zmt hn
   cases hd:dB x with
   |false=>
    have hD:=zd7 (x.toNat:Int)
    rw[show isDigit (x.toNat:Int)=false from hd]at hD
    have hnn:vq (lst s)=false:=by rw[hok,xJ hx hd];rfl
    rw[no hnn,hnn]
    repeat' first|refine gG ?_|refine gB ?_ ?_<;>intro h|refine yy T hC rfl rfl rfl (uw _) (yJ hx) rfl rfl ?_|refine gC hD ?_|refine zx ?_
    all_goals first
     |exact zt ⟨.inl rfl,id,_,rfl,LeS.tup (.cons (.refl _) (.cons (.qb rfl) .nil)),trivial,rfl,rfl⟩
     |exact gD
     |(exfalso;rename_i hf;simp at hf;done)
     |(exfalso;rename_i hf _;simp at hf;done)
   |true=>
    have hD:=zd7 (x.toNat:Int)
    rw[show isDigit (x.toNat:Int)=true from hd]at hD
    have hxb:=zfc.1 hd
    have w1:IntKind.i64.wrap (numV ((lst s).take i) 0*10)=numV ((lst s).take i) 0*10:=wrap64 ua
    have w2:IntKind.u8.wrap ((x.toNat:Int) - 48)=(x.toNat:Int) - 48:=by
     unfold IntKind.wrap;simp[IntKind.bits,IntKind.signed];omega
    have w3:IntKind.i64.wrap ((x.toNat:Int) - 48)=(x.toNat:Int) - 48:=wrap64 ua
    have w4:IntKind.i64.wrap (numV ((lst s).take i) 0*10+((x.toNat:Int) - 48))=numV ((lst s).take (i+1)) 0:=by rw[hsn];exact wrap64 ua
    have hall:((lst s).take (i+1)).all dB=true:=by rw[ya hx,hn,hd];rfl
    repeat' first|refine gG ?_|refine gB ?_ ?_<;>intro h|refine yy T hC rfl rfl rfl (uw _) (yJ hx) rfl rfl ?_|refine gC hD ?_|refine zx ?_
    all_goals (try exact gD)
    all_goals (rw[w1,w2,w3,w4]at h)
    all_goals first
     |(have hgt:=uo h
       have hnn:vq (lst s)=false:=by
        rw[hok]
        cases ha:(lst s).all dB with
        |false=>rfl
        |true=>
         have:=zfw ha (i+1)
         rw[tr];exact uJ ua
       rw[no hnn,hnn]
       exact zt ⟨.inl rfl,id,_,rfl,LeS.tup (.cons (.refl _) (.cons (.qb rfl) .nil)),trivial,rfl,rfl⟩)
     |(have hle:=uq h
       rw[w1,w2,w3,w4,zC ua]
       exact zf (i+1) ⟨ua,hall,ua⟩ id ua gM)
  ·have hge: ¬i<(lst s).length:=by have:=uq hh;omega
   have hall:=xm (p:=dB) ua hn
   rw[uT ua]at hm⊢
   have hyes:vq (lst s)=true:=by rw[hok,hall,uK hm];rfl
   have hnr:zrP (lst s)=numV (lst s) 0:=by unfold zrP;rw[uv hyes]
   clear hh
   rw[hyes,hnr]
   repeat' first|refine gG ?_|refine gB ?_ ?_<;>intro h|refine zj ?_
   exact zt ⟨.inl rfl,id,_,rfl,LeS.tup (.cons (.refl _) (.cons (.qb rfl) .nil)),trivial,rfl,rfl⟩
theorem zhq(s:Str)(ln cl:Int)(hs:s.size<=1000000):(∀t,zgX (lst s)=some t->zk Tryz.prog 205 [Sr s,zm [ki ln,ki cl]] [] (.tup [zm (zvr t.1 t.2.1 t.2.2 ln cl),Bo true]) [])/\(zgX (lst s)=none->zk Tryz.prog 205 [Sr s,zm [ki ln,ki cl]] [] (.tup [zm (zvr 2 (⟨#[]⟩:UW) 0 ln cl),Bo false]) []):=by
 have hK:=zby s
 have hN:=yR s
 have hI:=zkj s hs
 unfold zgX
 rw[zau]
 cases hk:y3 s with
 |true=>
  rw[hk]at hK
  refine⟨λt ht=>?_,λh=>by simp at h⟩
  rw[uv rfl]at ht
  obtain rfl:=uy ht
  refine gO T Tryz.func205 λC hC=>?_
  repeat' first|refine gG ?_|refine gB ?_ ?_<;>intro h|refine gC hK ?_
  all_goals first
   |exact gF
   |(exfalso;simp_all;done)
 |false=>
 rw[hk]at hK
 cases hn:isName s with
 |true=>
  rw[hn]at hN
  refine⟨λt ht=>?_,λh=>by simp at h⟩
  simp only[uU,tO,qx]at ht
  obtain rfl:=uy ht
  refine gO T Tryz.func205 λC hC=>?_
  repeat' first|refine gG ?_|refine gB ?_ ?_<;>intro h|refine gC hK ?_|refine gC hN ?_
  all_goals first
   |exact gF
   |(exfalso;simp_all;done)
 |false=>
 rw[hn]at hN
 cases ho:vq (lst s)with
 |true=>
  rw[ho]at hI
  unfold zrP at hI
  rw[uv ho]at hI
  refine⟨λt ht=>?_,λh=>by simp at h⟩
  simp only[uU,tO,qx]at ht
  obtain rfl:=uy ht
  refine gO T Tryz.func205 λC hC=>?_
  repeat' first|refine gG ?_|refine gB ?_ ?_<;>intro h|refine gC hK ?_|refine gC hN ?_|refine gC hI ?_
  all_goals first
   |exact zt ⟨.inl rfl,id,_,rfl,LeS.tup (.cons (.refl _) (.cons (.bq rfl) .nil)),trivial,rfl,rfl⟩
   |(exfalso;simp_all;done)
 |false=>
  rw[ho]at hI
  unfold zrP at hI
  rw[ur (by simp[ho])]at hI
  refine⟨λt ht=>by simp at ht,λ_=>?_⟩
  refine gO T Tryz.func205 λC hC=>?_
  repeat' first|refine gG ?_|refine gB ?_ ?_<;>intro h|refine gC hK ?_|refine gC hN ?_|refine gC hI ?_
  all_goals first
   |exact zt ⟨.inl rfl,id,_,rfl,LeS.tup (.cons (.refl _) (.cons (.bq rfl) .nil)),trivial,rfl,rfl⟩
   |(exfalso;simp_all;done)
theorem zkk:zk Tryz.prog 249 [] [] (pS (zdg syms)) []:=by
 refine gO T Tryz.func249 λC hC=>?_
 repeat' first|refine gG ?_|refine gB ?_ ?_<;>intro h|refine gT ?_
 exact gF
theorem zmu(y s:Str):(lst y).isPrefixOf (lst s)=(decide ((y.size:Int)<=(s.size:Int))&&decide (s.extract 0 y.size=y)):=by
 rw[og,uu,ux,ux,ox]
 have hx:=v7 s 0 y.size
 rw[Uj,Nat.sub_zero]at hx
 constructor
 ·intro h
  have hle:=h.length_le
  rw[y4,y4]at hle
  refine⟨ua,?_⟩
  obtain⟨t,ht⟩:=h
  rw[hx,<-ht,<-y4,List.take_left,zau]
 ·rintro⟨_,h⟩
  rw[hx]at h
  have:=uR lst h
  rw[zgW]at this
  rw[<-this];exact List.take_prefix _ _
theorem zkl(s:Str):zk Tryz.prog 206 [Sr s] [] (Sr ((zeX (lst s)).getD (⟨#[]⟩:UW))) []:=by
 refine gO T Tryz.func206 λC hC=>?_
 repeat' first|refine gG ?_|refine gB ?_ ?_<;>intro h|refine gC zkk ?_
 refine zn (λi:Nat=>i<=syms.length/\ ∀y∈syms.take i,(lst y).isPrefixOf (lst s)=false) (λi=>([(0,Sr s),(3,pS (zdg syms)),(4,I i)],[])) (λi=>syms.length - i) hC
  0 ⟨uA _,ue⟩ id gM ?_
 rintro i ⟨hi,hn⟩
 refine zr T hC true 200 rfl ?_
 refine zu rfl ?_ ?_<;>intro hh
 ·have hlt:i<syms.length:=by have:=uo hh;simp only[uj]at this;omega
  clear hh
  obtain⟨y,hy⟩:=ze hlt
  have h21:syms.length=21:=rfl
  have hpe:=zmu y s
  cases hp:(lst y).isPrefixOf (lst s)with
  |true=>
   have hsy:zeX (lst s)=some y:=by
    unfold zeX
    rw[oQ]
    refine⟨hp,i,hlt,(ui.1 hy).2,λj hj=>?_⟩
    have:=hn (syms[j]'ua) (Ul.2 ⟨j,ua,rfl⟩)
    rw[this];rfl
   rw[hp]at hpe
   have hpe:=hpe.symm
   simp only[uu,ux]at hpe
   rw[hsy]
   repeat' first|refine gG ?_|refine gB ?_ ?_<;>intro h|refine gI T (zg hy) ?_|(refine zlk hC rfl rfl ud (uw _) hpe.1 rfl rfl ?_)|refine zx ?_
   all_goals first
    |exact gF
    |(exfalso;simp only[uX]at h;exact h hpe.1)
    |(exfalso;simp only[uX]at h;exact h hpe.2)
  |false=>
   rw[hp]at hpe
   have hpe:=hpe.symm
   repeat' first|refine gG ?_|refine gB ?_ ?_<;>intro h|refine gI T (zg hy) ?_|(refine zlk hC rfl rfl ud (uw _) (uo h) rfl rfl ?_)|refine zx ?_
   all_goals first
    |(rw[zC ua]
      refine zf (i+1) ⟨ua,λz hz=>?_⟩ id ua gM
      rw[tG,hy]at hz
      rcases u7.1 hz with hz|hz
      ·exact hn z hz
      ·simp only[qR,tP]at hz;subst hz;exact hp)
    |(exfalso;rename_i h1;have e1:decide ((y.size:Int)<=(s.size:Int))=true:=h1;have e2:decide (s.extract 0 y.size=y)=true:=h;rw[e1,e2]at hpe;cases hpe)
 ·have hge: ¬i<syms.length:=by have:=uq hh;simp only[uj]at this;omega
  clear hh
  have hno:zeX (lst s)=none:=by
   unfold zeX
   rw[Uh]
   intro y hy
   rw[hn y (by rw[uT ua];exact hy)];simp
  rw[hno]
  repeat' first|refine gG ?_|refine gB ?_ ?_<;>intro h|refine zj ?_
  exact gF
theorem zev(p:Int×Int)(c:UInt8)(h1:0<=p.1/\p.1<=1000000)(h2:0<=p.2/\p.2<=1000000):zk Tryz.prog 203 [zm [ki p.1,ki p.2],uc c.toNat] [] (zm [ki (mv p c).1,ki (mv p c).2]) []:=by
 have w1:IntKind.i64.wrap (p.1+1)=p.1+1:=wrap64 ua
 have w2:IntKind.i64.wrap (p.2+1)=p.2+1:=wrap64 ua
 unfold mv
 by_cases hc:c=10
 ·subst hc
  refine gO T Tryz.func203 λC hC=>?_
  repeat' first|refine gG ?_|refine gB ?_ ?_<;>intro h
  all_goals first
   |(rw[w1];exact gF)
   |(exfalso;revert h;decide)
 ·have hc': ¬(c.toNat:Int)=10:=λe=>hc (qQ.1 (by have:(10:UInt8).toNat=10:=rfl;omega))
  rw[ur hc]
  refine gO T Tryz.func203 λC hC=>?_
  repeat' first|refine gG ?_|refine gB ?_ ?_<;>intro h
  all_goals first
   |(rw[w2];exact gF)
   |(exfalso;exact hc' (uo h))
def mvU(a b i:Nat):Nat:=match Nat.beq i a with
 |true=>b
 |false=>i
theorem zS{a b:Nat}(ha:100<=a)(hi:i<100):mvU a b i=i:=by
 unfold mvU;rw[y5 ua]
theorem zfx{p:UInt8->Bool}: ∀(l:By) (k:Nat),(l.take k).all p=true->(∀x,l[k]?=some x->p x=false)->l.takeWhile p=l.take k
 | [],k,_,_=>by simp
 |x::l,0,_,h=>by
  have:=h x rfl
  rw[qw,ur (by simp[this])];rfl
 |x::l,k+1,ha,h=>by
  rw[tX,qT,uu]at ha
  rw[qw,uv ha.1,tX,zfx l k ha.2 (λy hy=>h y (by simpa using hy))]
theorem zhr{l:By}(h:l[i]?=some c):l.drop i=c::l.drop (i+1):=by
 obtain⟨hi,rfl⟩:=ui.1 h
 exact tS hi
theorem zmv:blB c=true↔xt c.toNat=1:=by unfold blB;exact decide_eq_true_iff
theorem zmw:wB c=true↔2<=xt c.toNat:=by
 have:=zbe c.toNat
 unfold wB
 cases h:isWord (c.toNat:Int)with
 |true=>rw[h]at this;simp at this;simpa using this
 |false=>rw[h]at this;simp at this;simp;omega
theorem zdC{l:By}(p:Int×Int)(out:List Tok)(h:l[i]?=some c)(hb:blB c=true):lxx (l.drop i) p out=lxx (l.drop (i+1)) (mv p c) out:=by
 have ht:tk (l.drop i)=some (1,none):=by rw[zhr h];simp only[tk,uv hb]
 rw[zb1 p out ht,qD,zhr h]
 simp
variable {p:UInt8->Bool}
theorem zfy{l:By}(hp:p 10=false)(q:Int×Int):(l.take (l.takeWhile p).length).foldl mv q=(q.1,q.2+(l.takeWhile p).length):=by
 have e:l.take (l.takeWhile p).length=l.takeWhile p:=(oH.1 (List.takeWhile_prefix p)).symm
 rw[e]
 refine zgY _ _ λb hb e=>?_
 subst e
 have:=(List.all_eq_true.1 (List.all_takeWhile (p:=p) (l:=l))) _ hb
 rw[hp]at this;cases this
theorem ziF{l:By}{k:Nat}(p:Int×Int)(out:List Tok)(h:l[i]?=some 35)(hk:((l.drop i).takeWhile λb=>decide (b≠10)).length=k):lxx (l.drop i) p out=lxx (l.drop (i+k)) (p.1,p.2+k) out:=by
 subst hk
 have ht:tk (l.drop i)=some (((l.drop i).takeWhile λb=>decide (b≠10)).length,none):=by
  rw[zhr h];simp only[tk];rw[ur ub];rfl
 rw[zb1 p out ht,qD,zfy ub]
 simp
theorem zfz{l:By}(p:Int×Int)(out:List Tok)(h:l[i]?=some c)(hb:blB c=false)(hc:c≠35)(hw:wB c=true){t:Int×Str×Int}(ht:zgX ((l.drop i).takeWhile wB)=some t):lxx (l.drop i) p out=lxx (l.drop (i+((l.drop i).takeWhile wB).length)) (p.1,p.2+((l.drop i).takeWhile wB).length) (out++[yU p t]):=by
 have hk:tk (l.drop i)=some (((l.drop i).takeWhile wB).length,some t):=by
  rw[zhr h]at ht⊢
  simp only[tk]
  rw[ur (by simp[hb]),ur hc,uv hw,ht];rfl
 rw[zb1 p out hk,qD,zfy ub]
 rfl
theorem ziG{l:By}(p:Int×Int)(out:List Tok)(h:l[i]?=some c)(hb:blB c=false)(hc:c≠35)(hw:wB c=true)(ht:zgX ((l.drop i).takeWhile wB)=none):lxx (l.drop i) p out=([],p,7):=by
 rw[zhr h]at ht⊢
 refine zlN p out ?_
 simp only[tk]
 rw[ur (by simp[hb]),ur hc,uv hw,ht];rfl
theorem zfA: ∀y∈syms,∀b∈lst y,b≠10:=by decide+kernel
variable {y:Str}
theorem zo8{l:By}(h:zeX l=some y)(q:Int×Int):(l.take y.size).foldl mv q=(q.1,q.2+(y.size:Int)):=by
 obtain⟨h1,h2⟩:=zfb h
 have e:l.take y.size=lst y:=by
  rw[<-y4];exact(oH.1 (ox.1 h2)).symm
 rw[e,zgY _ _ (zfA y h1),y4]
theorem ziH{l:By}(p:Int×Int)(out:List Tok)(h:l[i]?=some c)(hb:blB c=false)(hc:c≠35)(hw:wB c=false)(ht:zeX (l.drop i)=some y):lxx (l.drop i) p out=lxx (l.drop (i+y.size)) (p.1,p.2+(y.size:Int)) (out++[yU p (4,y,0)]):=by
 have hk:tk (l.drop i)=some (y.size,some (4,y,0)):=by
  rw[zhr h]at ht⊢
  simp only[tk]
  rw[ur (by simp[hb]),ur hc,ur (by simp[hw]),ht];rfl
 rw[zb1 p out hk,qD,zo8 ht]
 rfl
theorem zmx{l:By}(p:Int×Int)(out:List Tok)(h:l[i]?=some c)(hb:blB c=false)(hc:c≠35)(hw:wB c=false)(ht:zeX (l.drop i)=none):lxx (l.drop i) p out=([],p,7):=by
 rw[zhr h]at ht⊢
 refine zlN p out ?_
 simp only[tk]
 rw[ur (by simp[hb]),ur hc,ur (by simp[hw]),ht];rfl
theorem zfB(s:Str)(hs:s.size<=1000000):zk Tryz.prog 146 [Sr s] [] (.tup [pS (yu (yi s).1),zm [ki (yi s).2.1.1,ki (yi s).2.1.2],I (yi s).2.2]) []:=by
 have hl:=y4 s
 by_cases hbig:65536<s.size
 ·have hR:yi s=([],(0,0),4):=uv hbig
  rw[hR]
  refine gO T Tryz.func146 λC hC=>?_
  repeat' first|refine gG ?_|refine gB ?_ ?_<;>intro h
  all_goals first
   |exact zt ⟨.inl rfl,id,_,rfl,LeS.tup (.cons (LeS.one (.nil 5)) (.cons (.refl _) (.cons (.refl _) .nil))),trivial,rfl,rfl⟩
   |(exfalso;simp only[uX]at h;omega)
 have hR:yi s=lxx ((lst s).drop 0) (1,1) []:=ur hbig
 generalize yi s=R at hR
 refine gO T Tryz.func146 λC hC=>?_
 repeat' first|refine gG ?_|refine gB ?_ ?_<;>intro h
 ·exfalso;have:=uo h;omega
 refine gA 101 5 [(5,.one (.ar 101))] [] ?_
 refine zn (λq:Nat×Nat×Nat×List Tok=>q.1<=s.size/\q.2.2.1<=q.1/\q.2.1<=q.1+1/\q.2.2.2.length<=q.1/\R=lxx ((lst s).drop q.1) (q.2.1,(q.1:Int) - q.2.2.1+1) q.2.2.2) (λq=>([(0,Sr s),(3,.one (.bx 1003 0)),(5,.one (.ar 101)),(6,I q.2.1),(7,I q.2.2.1),(8,I q.1)],[(1003,some (Res.box [.p (ki 0),.p (ki 0)])),(101,some (Res.arr 5 (q.2.2.2.map vy)))])) (λq=>s.size - q.1) hC
  (0,1,0,[]) ⟨uA _,uA _,ub,uA _,hR⟩ id gM ?_
 rintro⟨i,ln,bg,out⟩ ⟨hi,hb,hlnn,hout,hL⟩
 simp only at hi hb hlnn hout hL
 refine zr T hC true 200 rfl ?_
 refine zu rfl ?_ ?_<;>intro hh
 rotate_left
 ·have hge:i=s.size:=by have:=uq hh;omega
  clear hh
  rw[tR ua,zlM]at hL
  subst hL
  have w1:IntKind.i64.wrap ((s.size:Int) - bg)=(s.size:Int) - bg:=wrap64 ua
  have w2:IntKind.i64.wrap ((s.size:Int) - bg+1)=(s.size:Int) - bg+1:=wrap64 ua
  have hol:(out.map vy).length=out.length:=uj _
  have happ:out.map vy++[[ki 5,ks (⟨#[]⟩:UW),ki 0,ki ln,ki (IntKind.i64.wrap (IntKind.i64.wrap ((s.size:Int) - bg)+1))]]=(out++[(⟨5,(⟨#[]⟩:UW),0,ln,(i:Int) - bg+1⟩:Tok)]).map vy:=by rw[w1,w2,hge,uY];rfl
  repeat' first|refine gG ?_|refine gB ?_ ?_<;>intro h|refine zj ?_|refine gT ?_|(refine gY T 102 ((out++[(⟨5,(⟨#[]⟩:UW),0,ln,(i:Int) - bg+1⟩:Tok)]).map vy) 48 ?_)
  refine gZ 102 [(2,pS (yu (out++[(⟨5,(⟨#[]⟩:UW),0,ln,(i:Int) - bg+1⟩:Tok)])))] [] ?_
  exact gF
 have hlt:i<(lst s).length:=by have:=uo hh;omega
 clear hh
 obtain⟨c,hc⟩:=ze hlt
 have hK:=xQ c.toNat
 have w1:IntKind.i64.wrap ((i:Int) - bg)=(i:Int) - bg:=wrap64 ua
 have w2:IntKind.i64.wrap ((i:Int) - bg+1)=(i:Int) - bg+1:=wrap64 ua
 cases hbl:blB c with
 |true=>
  have hcl:=zmv.1 hbl
  rw[zdC _ _ hc hbl]at hL
  rw[hcl]at hK
  repeat' first|refine gG ?_|exact gD|refine gB ?_ ?_<;>intro h|refine yy T hC rfl rfl rfl (uw _) (yJ hc) rfl rfl ?_|refine gC hK ?_
  ·have h10:c=10:=qQ.1 (by have:=uo h;have e:(10:UInt8).toNat=10:=rfl;omega)
   subst h10
   dsimp only
   rw[zC ua,zC ua]
   refine zf (i+1,ln+1,i+1,out) ⟨by simp only;omega,uG _,by simp only;omega,by simp only;omega,?_⟩ id (by simp only;omega) gM
   rw[hL];simp[mv]
  ·have h10:c≠10:=λe=>by subst e;exact absurd h ub
   dsimp only
   rw[zC ua]
   refine zf (i+1,ln,bg,out) ⟨by simp only;omega,by simp only;omega,by simp only;omega,by simp only;omega,?_⟩ id (by simp only;omega) gM
   rw[hL];unfold mv;rw[ur h10]
   congr 2
   show(i:Int) - bg+1+1=((i+1:Nat):Int) - bg+1
   omega
 |false=>
 have hcl:xt c.toNat≠1:=λe=>by rw[zmv.2 e]at hbl;cases hbl
 by_cases h35:c=35
 ·subst h35
  rw[show xt ((35:UInt8).toNat:Int)=0 from rfl]at hK
  repeat' first|refine gG ?_|exact gD|refine gB ?_ ?_<;>intro h|refine yy T hC rfl rfl rfl (uw _) (yJ hc) rfl rfl ?_|refine gC hK ?_
  all_goals (try (exfalso;revert h;decide))
  refine zn (λk:Nat=>i+k<=s.size/\(((lst s).drop i).take k).all (λb=>decide (b≠10))=true) (λk=>([(0,Sr s),(3,.one (.bx 1003 0)),(5,.one (.ar 101)),(6,I ln),(7,I bg),(8,I (i+k:Nat))],[(1003,some (Res.box [.p (ki 0),.p (ki 0)])),(101,some (Res.arr 5 (out.map vy)))])) (λk=>s.size - i - k) hC
   0 ⟨ua,ue⟩ id gM ?_
  rintro k ⟨hk,hall⟩
  have hcom:(∀x,((lst s).drop i)[k]?=some x->x=10)->0<k/\R=lxx ((lst s).drop (i+k)) (ln,((i+k:Nat):Int) - bg+1) out:=λhx=>by
   have htw:=zfx _ k hall (λx h=>by simpa using hx x h)
   refine⟨?_,?_⟩
   ·rcases qA k with rfl|h
    ·have:=hx 35 (by rw[uD];exact hc)
     cases this
    ·exact h
   ·rw[hL,ziF _ _ hc (k:=k) (by rw[htw,uz,uQ];omega)]
    have e:(i:Int) - bg+1+k=((i+k:Nat):Int) - bg+1:=by omega
    show lxx _ ((ln:Int),(i:Int) - bg+1+k) out=_
    rw[e]
  refine zr T hC true 200 rfl ?_
  by_cases hj:i+k<s.size
  ·obtain⟨x,hx⟩:=ze (l:=lst s) (i:=i+k) ua
   have hxd:((lst s).drop i)[k]?=some x:=by rw[uD];exact hx
   repeat' first|refine gG ?_|(exfalso;have h2:=uq h;omega)|refine gB ?_ ?_<;>intro h|refine yy T hC rfl rfl rfl (uw _) (yJ hx) rfl rfl ?_|refine zj ?_
   ·have hx10:x≠10:=λe=>by subst e;exact absurd h ub
    rw[zC ua]
    exact zf (k+1) ⟨ua,by rw[ya hxd,hall];simpa using hx10⟩ id ua gM
   ·obtain⟨h0,hL'⟩:=hcom λy hy=>by
     rw[hxd]at hy
     obtain rfl:=uy hy
     exact qQ.1 (by have e2:(10:UInt8).toNat=10:=rfl;simp at h;omega)
    exact zf (i+k,ln,bg,out) ⟨by simp only;omega,by simp only;omega,by simp only;omega,by simp only;omega,hL'⟩ id (by simp only;omega) gM
  ·repeat' first|refine gG ?_|(exfalso;have h2:=uo h;omega)|refine gB ?_ ?_<;>intro h|refine zj ?_
   obtain⟨h0,hL'⟩:=hcom λy hy=>by
    rw[uD,tT ua]at hy
    cases hy
   exact zf (i+k,ln,bg,out) ⟨by simp only;omega,by simp only;omega,by simp only;omega,by simp only;omega,hL'⟩ id (by simp only;omega) gM
 have hwd:= @zmw c
 have h35c: ¬(c.toNat:Int)=35:=λe=>h35 (qQ.1 (by have e2:(35:UInt8).toNat=35:=rfl;omega))
 generalize hcv:xt (c.toNat:Int)=cv at hK hcl hwd
 cases hw:wB c with
 |true=>
  rw[hw]at hwd
  have hcw:2<=cv:=hwd.1 rfl
  repeat' first|refine gG ?_|(exfalso;have h2:=uo h;omega)|(exfalso;have h2:=uq h;omega)|refine gB ?_ ?_<;>intro h|refine yy T hC rfl rfl rfl (uw _) (yJ hc) rfl rfl ?_|refine gC hK ?_
  dsimp only
  rw[w1,w2]
  refine zn (λk:Nat=>i+k<=s.size/\(((lst s).drop i).take k).all wB=true) (λk=>([(0,Sr s),(3,.one (.bx 1003 0)),(5,.one (.ar 101)),(6,I ln),(7,I bg),(8,I i),(9,.one (.bx 1009 0)),(11,I (i+k:Nat))],[(1003,some (Res.box [.p (ki 0),.p (ki 0)])),(1009,some (Res.box [.p (ki ln),.p (ki ((i:Int) - bg+1))])),(101,some (Res.arr 5 (out.map vy)))])) (λk=>s.size - i - k) hC
   0 ⟨ua,ue⟩ id gM ?_
  rintro k ⟨hk,hall⟩
  have hwe:(∀x,((lst s).drop i)[k]?=some x->wB x=false)->0<k/\((lst s).drop i).takeWhile wB=((lst s).drop i).take k/\(((lst s).drop i).takeWhile wB).length=k:=λhx=>by
   have htw:=zfx _ k hall hx
   refine⟨?_,htw,?_⟩
   ·rcases qA k with rfl|h
    ·have:=hx c (by rw[uD];exact hc)
     rw[hw]at this;cases this
    ·exact h
   ·rw[htw,uz,uQ];omega
  have hex:s.extract i (i+k)=zbf (((lst s).drop i).take k):=by rw[v7,show i+k - i=k by omega]
  have hlx:lst (s.extract ((i:Nat):Int).toNat ((i+k:Nat):Int).toNat)=((lst s).drop i).take k:=by rw[uF,uF,hex,zgW]
  have hW:=zki (s.extract ((i:Nat):Int).toNat ((i+k:Nat):Int).toNat) (by rw[<-y4,hlx,uz];omega)
  rw[hlx]at hW
  have hol:(out.map vy).length=out.length:=uj _
  by_cases hend: ∃x,(lst s)[i+k]?=some x/\wB x=true
  ·obtain⟨x,hx,hwx⟩:=hend
   have hxd:((lst s).drop i)[k]?=some x:=by rw[uD];exact hx
   have hxl:=(ui.1 hx).1
   have hKx:=xQ x.toNat
   have hcx:=zmw.1 hwx
   refine zr T hC true 200 rfl ?_
   repeat' first|refine gG ?_|(exfalso;have h2:=uo h;omega)|(exfalso;have h2:=uq h;omega)|refine gB ?_ ?_<;>intro h|refine yy T hC rfl rfl rfl (uw _) (yJ hx) rfl rfl ?_|refine gC hKx ?_
   rw[zC ua]
   exact zf (k+1) ⟨ua,by rw[ya hxd,hall,hwx];rfl⟩ id ua gM
  ·have hno: ∀x,((lst s).drop i)[k]?=some x->wB x=false:=λx hx=>by
    rw[uD]at hx
    cases hwx:wB x with
    |false=>rfl
    |true=>exact absurd ⟨x,hx,hwx⟩ hend
   obtain⟨h0,htw,hlen⟩:=hwe hno
   have hend2:s.size<=i+k\/ ∃x,(lst s)[i+k]?=some x/\ ¬2<=xt (x.toNat:Int):=by
    by_cases hz:s.size<=i+k
    ·exact .inl hz
    ·obtain⟨x,hx⟩:=ze (l:=lst s) (i:=i+k) ua
     refine .inr ⟨x,hx,λe=>?_⟩
     have:=hno x (by rw[uD];exact hx)
     rw[zmw.2 e]at this;cases this
   cases ht:zgX (((lst s).drop i).take k)with
   |none=>
    have hW2:=hW.2 ht
    have hbad:=ziG ((ln:Int),(i:Int) - bg+1) out hc hbl h35 hw (by rw[htw];exact ht)
    rw[hbad]at hL
    subst hL
    refine zr T hC true 200 rfl ?_
    rcases hend2 with hz|⟨x,hx,hcx⟩
    ·repeat' first|refine gG ?_|(exfalso;have h2:=uo h;omega)|(exfalso;have h2:=uq h;omega)|refine gB ?_ ?_<;>intro h|refine zj ?_|(refine za6 hC rfl rfl rfl ud (uw _) ua ua rfl rfl ?_)|refine gC hW2 ?_|refine zx ?_
     exact zt ⟨.inl rfl,id,_,rfl,LeS.tup (.cons (LeS.one (.nil 5)) (.cons (.refl _) (.cons (.refl _) .nil))),trivial,rfl,rfl⟩
    ·have hKx:=xQ x.toNat
     have hxl:=(ui.1 hx).1
     repeat' first|refine gG ?_|(exfalso;have h2:=uo h;omega)|(exfalso;have h2:=uq h;omega)|refine gB ?_ ?_<;>intro h|refine yy T hC rfl rfl rfl (uw _) (yJ hx) rfl rfl ?_|refine gC hKx ?_|refine zj ?_|(refine za6 hC rfl rfl rfl ud (uw _) ua ua rfl rfl ?_)|refine gC hW2 ?_|refine zx ?_
     exact zt ⟨.inl rfl,id,_,rfl,LeS.tup (.cons (LeS.one (.nil 5)) (.cons (.refl _) (.cons (.refl _) .nil))),trivial,rfl,rfl⟩
   |some t=>
    have hW1:=hW.1 t ht
    have hgo:=zfz ((ln:Int),(i:Int) - bg+1) out hc hbl h35 hw (t:=t) (by rw[htw];exact ht)
    rw[hlen]at hgo
    rw[hgo]at hL
    have e:(i:Int) - bg+1+k=((i+k:Nat):Int) - bg+1:=by omega
    simp only[e]at hL
    have happ:out.map vy++[vy (yU ((ln:Int),(i:Int) - bg+1) t)]=(out++[yU ((ln:Int),(i:Int) - bg+1) t]).map vy:=by rw[uY];rfl
    refine zr T hC true 200 rfl ?_
    rcases hend2 with hz|⟨x,hx,hcx⟩
    ·repeat' first|refine gG ?_|(exfalso;have h2:=uo h;omega)|(exfalso;have h2:=uq h;omega)|refine gB ?_ ?_<;>intro h|refine zj ?_|(refine za6 hC rfl rfl rfl ud (uw _) ua ua rfl rfl ?_)|refine gC hW1 ?_|refine gT ?_|(refine gY T 102 ((out++[yU ((ln:Int),(i:Int) - bg+1) t]).map vy) 48 ?_)|refine zx ?_
     exact zf (i+k,ln,bg,out++[yU ((ln:Int),(i:Int) - bg+1) t]) ⟨by simp only;omega,by simp only;omega,by simp only;omega,by simp only[uB,uC];omega,hL⟩ (mvU 101 102) (by simp only;omega) ⟨rfl,⟨rfl,rfl,rfl,rfl,rfl,rfl,uh⟩,⟨rfl,rfl,uh⟩,rfl,λi hi=>zS ua hi⟩
    ·have hKx:=xQ x.toNat
     have hxl:=(ui.1 hx).1
     repeat' first|refine gG ?_|(exfalso;have h2:=uo h;omega)|(exfalso;have h2:=uq h;omega)|refine gB ?_ ?_<;>intro h|refine yy T hC rfl rfl rfl (uw _) (yJ hx) rfl rfl ?_|refine gC hKx ?_|refine zj ?_|(refine za6 hC rfl rfl rfl ud (uw _) ua ua rfl rfl ?_)|refine gC hW1 ?_|refine gT ?_|(refine gY T 102 ((out++[yU ((ln:Int),(i:Int) - bg+1) t]).map vy) 48 ?_)|refine zx ?_
     exact zf (i+k,ln,bg,out++[yU ((ln:Int),(i:Int) - bg+1) t]) ⟨by simp only;omega,by simp only;omega,by simp only;omega,by simp only[uB,uC];omega,hL⟩ (mvU 101 102) (by simp only;omega) ⟨rfl,⟨rfl,rfl,rfl,rfl,rfl,rfl,uh⟩,⟨rfl,rfl,uh⟩,rfl,λi hi=>zS ua hi⟩
 |false=>
  rw[hw]at hwd
  have hcw: ¬2<=cv:=λe=>by have:=hwd.2 e;cases this
  repeat' first|refine gG ?_|(exfalso;have h2:=uo h;omega)|(exfalso;have h2:=uq h;omega)|refine gB ?_ ?_<;>intro h|refine yy T hC rfl rfl rfl (uw _) (yJ hc) rfl rfl ?_|refine gC hK ?_
  dsimp only
  rw[w1,w2]
  have hsx:lst (s.extract ((i:Nat):Int).toNat s.size)=(lst s).drop i:=by rw[uF,v7,zgW,uT (by rw[uQ];omega)]
  have hS:=zmr (s.extract ((i:Nat):Int).toNat s.size)
  rw[hsx]at hS
  have hol:(out.map vy).length=out.length:=uj _
  cases hy:zeX ((lst s).drop i)with
  |none=>
   rw[hy]at hS
   have hbad:=zmx ((ln:Int),(i:Int) - bg+1) out hc hbl h35 hw hy
   rw[hbad]at hL
   subst hL
   repeat' first|refine gG ?_|(exfalso;exact absurd h ub)|refine gB ?_ ?_<;>intro h|(refine zbR hC rfl rfl ud (uw _) ua rfl rfl ?_)|refine gC hS ?_|refine zx ?_
   exact zt ⟨.inl rfl,id,_,rfl,LeS.tup (.cons (LeS.one (.nil 5)) (.cons (.refl _) (.cons (.refl _) .nil))),trivial,rfl,rfl⟩
  |some y=>
   rw[hy]at hS
   have hys:=zfb hy
   have hyz:=zcC y hys.1
   have hyl:=vi hys.2
   rw[y4,uQ]at hyl
   have hyne:y≠⟨#[]⟩:=λe=>by subst e;exact absurd hyz.1 ub
   have hgo:=ziH ((ln:Int),(i:Int) - bg+1) out hc hbl h35 hw hy
   rw[hgo]at hL
   have e:(i:Int) - bg+1+(y.size:Int)=((i+y.size:Nat):Int) - bg+1:=by omega
   simp only[e]at hL
   have happ:out.map vy++[vy (yU ((ln:Int),(i:Int) - bg+1) (4,y,0))]=(out++[yU ((ln:Int),(i:Int) - bg+1) (4,y,0)]).map vy:=by rw[uY];rfl
   repeat' first|refine gG ?_|(exfalso;exact hyne (uo h))|refine gB ?_ ?_<;>intro h|(refine zbR hC rfl rfl ud (uw _) ua rfl rfl ?_)|refine gC hS ?_|refine gT ?_|(refine gY T 102 ((out++[yU ((ln:Int),(i:Int) - bg+1) (4,y,0)]).map vy) 48 ?_)|refine zx ?_
   show Goal _ _ _ _ _ ((8,Kk IntKind.i64 (IntKind.i64.wrap ((i:Int)+(y.size:Int))))::_) _ _
   rw[show IntKind.i64.wrap ((i:Int)+(y.size:Int))=((i+y.size:Nat):Int) from by rw[wrap64 ua];omega]
   exact zf (i+y.size,ln,bg,out++[yU ((ln:Int),(i:Int) - bg+1) (4,y,0)]) ⟨by simp only;omega,by simp only;omega,by simp only;omega,by simp only[uB,uC];omega,hL⟩ (mvU 101 102) (by simp only;omega) ⟨rfl,⟨rfl,rfl,rfl,rfl,rfl,rfl,uh⟩,⟨rfl,rfl,uh⟩,rfl,λi hi=>zS ua hi⟩
def zrQ(s:Str):Bool:=syms.any λx=>decide (x=s)
def zal(t:Tok):Bool:=if t.k=1 then isName t.t&&decide (t.n=0)else if t.k=3 then y3 t.t&&decide (t.n=0)else if t.k=4 then zrQ t.t&&decide (t.n=0)else if t.k=2 then decide (t.t=(⟨#[]⟩:UW))&&(decide (0<=t.n)&&decide (t.n<=1099511627776))else if t.k=5 then decide (t.t=(⟨#[]⟩:UW))&&decide (t.n=0)else false
theorem zmy(s:Str):zrQ s=true↔s∈syms:=by
 unfold zrQ;rw[oB]
 exact⟨λ⟨x,h1,h2⟩=>by have:=uo h2;subst this;exact h1,λh=>⟨s,h,uK rfl⟩⟩
end Hw.Fr.Ps
