import Derived.Test.YtolghpfockkldaaGreatDoorC8
import Derived.Test.YtolghpfockkldaaGreatDoorProg
import Derived.KernelRfl
import Derived.Shelf.Small.Strs
import Derived.Shelf.Strings.Prefix
import Derived.Shelf.Strconv.AtoiAll
import Derived.Test.YtolghpfockkldaaGreatDoorC1
import Derived.Test.YtolghpfockkldaaGreatDoorE3
import Derived.Test.YtolghpfockkldaaGreatDoorC2
set_option linter.unusedVariables false
set_option linter.unusedSimpArgs false
set_option linter.unusedSectionVars false
set_option linter.unnecessarySimpa false
namespace Hw.Gm.Ps
open Go Go.Proofs Hw.M
variable {b:Bool}{i j:Nat}{u:Unit}
section
variable {l:List Tok} (hl:w6 l)
include hl
theorem zqN{n:Nat}{s:Str}(h:(if n=0 then PJ.ok () i else vX l s i)=some (u,j,b)):(n=0/\j=i/\b=false)\/(n≠0/\isA l i s=true/\j=i+1/\b=false)\/(n≠0/\ ¬isA l i s=true/\j=i/\b=true):=by
 have _:=hl;split at h
 ·rename_i J;cases h;exact .inl ⟨J,rfl,rfl⟩
 ·rename_i J;unfold vX at h;split at h
  ·rename_i U;cases h;exact .inr (.inl ⟨J,U,rfl,rfl⟩)
  ·rename_i U;cases h;exact .inr (.inr ⟨J,U,rfl,rfl⟩)
theorem zjJ(f:Nat)(ih: ∀g,g<=f->EX l g)(i:Nat)(U:i<l.length):RJ l 284 [rdV,Sr (⟨#[44]⟩:UH),Sr (⟨#[41]⟩:UH),.one (.cl 152 [.bx 0 0] [])] (λa=>pS (wu a)) i (argsJ l (f+1) i []):=by
 intro af jf bf hR;have hjf:=(za6 hl (f+1)).2.2.2.2.1 i [] U _ _ _ hR;refine⟨hjf,?_⟩;have hll:=hl.len;refine gO T Tryz.func284 λC hC=>?_
 repeat' first|refine gG ?_|refine gB ?_ ?_<;>intro h
 refine gA 101 4 [(9,.one (.ar 101))] [] ?_
 refine zn (λq:List Ex×Nat×Bool×Nat=>q.2.1<l.length/\q.2.2.2<=f+1/\q.1.length<=100001/\(q.2.2.1=false->q.1.length<=q.2.1/\argsJ l q.2.2.2 q.2.1 q.1=some (af,jf,bf))/\(q.2.2.1=true->af=q.1/\jf=q.2.1/\bf=true))
  (λq=>([(0,rdV),(1,Sr (⟨#[44]⟩:UH)),(2,Sr (⟨#[41]⟩:UH)),(3,.one (.cl 152 [.bx 0 0] [])),(9,.one (.ar 101))],[(0,some (rdR l q.2.1 q.2.2.1)),(101,some (Res.arr 4 (q.1.map z8)))])) (λq=>if q.2.2.1 then 0 else q.2.2.2+1) hC
  ([],i,false,f+1) ⟨U,uF _,uz _,λ_=>⟨uz _,hR⟩,λh=>by cases h⟩ id gM ?_
 clear U hR;rintro⟨acc,k,b1,g⟩ ⟨hk,hgf,hlen,hg,hb⟩;simp only at hk hgf hlen hg hb;cases b1 with
 |true=>
  obtain⟨rfl,rfl,rfl⟩:=hb rfl
  repeat' first|refine gG ?_|refine gB ?_ ?_<;>intro h|refine gR (yg hl _ hk _) (nm [0]) ?_|refine ze ?_|refine gL ?_
  refine gZ 101 [(8,pS (wu af))] [] ?_;exact gE
 |false=>
  obtain⟨hak,hd⟩:=hg rfl;clear hg hb;cases g with
  |zero=>simp only[argsJ]at hd;cases hd
  |succ g=>
   simp only[argsJ]at hd;have hal:(acc.map z8).length=acc.length:=uk _;by_cases hs:isA l k (⟨#[41]⟩:UH)=true
   ·rw[uv hs]at hd;cases hd
    repeat' first|refine gG ?_|refine gB ?_ ?_<;>intro h|refine gR (zjE hl hs) (nm [0]) ?_|refine ze ?_|refine gR (zaj hl hs) (nm [0]) ?_|refine gL ?_
    refine gZ 101 [(8,pS (wu af))] [] ?_;exact gE
   ·rw[uu hs]at hd;obtain⟨u,k1,b1,h1,h2,h3⟩:=yy hd;rcases zqN hl h1 with⟨h0,rfl,rfl⟩|⟨h0,J,rfl,rfl⟩|⟨h0,J,rfl,rfl⟩
    ·obtain⟨y,k2,b2,h4,h5,h6⟩:=yy (h2 rfl);obtain⟨hk2,hE⟩:=y6 hl (ih g ua) _ hk _ _ _ h4;have hal':(acc++[y]).length=acc.length+1:=by simp
     repeat' first|refine gG ?_|(exfalso;have h':=uj h;rw[hal]at h';omega)|refine gB ?_ ?_<;>intro h|refine gR (zcC hl hk hs) (nm [0]) ?_|refine gR hE (nm [0]) ?_|refine gH T [z8 y] ?_|(refine gY T 102 ((acc++[y]).map z8) 56 ?_)
     exact zg (acc++[y],k2,b2,g) ⟨hk2,by simp only;omega,by simp only;omega,λe=>by subst e;exact⟨by have:=zf0 h4;simp only;omega,h5 rfl⟩,h6⟩ (mvP 101 102) (by cases b2<;>simp) ⟨rfl,⟨rfl,rfl,rfl,rfl,rfl,uh⟩,⟨rfl,rfl,uh⟩,rfl,λi U=>xL ua U⟩
    ·obtain⟨y,k2,b2,h4,h5,h6⟩:=yy (h2 rfl);obtain⟨hk2,hE⟩:=y6 hl (ih g ua) _ (zp hl J) _ _ _ h4;have hal':(acc++[y]).length=acc.length+1:=by simp
     repeat' first|refine gG ?_|(exfalso;have h':=um h;rw[hal]at h';omega)|refine gB ?_ ?_<;>intro h|refine gR (zcC hl hk hs) (nm [0]) ?_|refine gR (zaj hl J) (nm [0]) ?_|refine gR hE (nm [0]) ?_|refine gH T [z8 y] ?_|(refine gY T 102 ((acc++[y]).map z8) 56 ?_)
     exact zg (acc++[y],k2,b2,g) ⟨hk2,by simp only;omega,by simp only;omega,λe=>by subst e;exact⟨by have:=zf0 h4;simp only;omega,h5 rfl⟩,h6⟩ (mvP 101 102) (by cases b2<;>simp) ⟨rfl,⟨rfl,rfl,rfl,rfl,rfl,uh⟩,⟨rfl,rfl,uh⟩,rfl,λi U=>xL ua U⟩
    ·have h3:=h3 rfl;have hal':(acc++[E0]).length=acc.length+1:=by simp
     repeat' first|refine gG ?_|(exfalso;have h':=um h;rw[hal]at h';omega)|refine gB ?_ ?_<;>intro h|refine gR (zcC hl hk hs) (nm [0]) ?_|refine gR (zhj hl hk J) (nm [0]) ?_|refine gR (wR hl _ hk) (nm [0]) ?_|refine gH T [z8 E0] ?_|(refine gY T 102 ((acc++[E0]).map z8) 56 ?_)
     exact zg (acc++[E0],k1,true,g) ⟨hk,by simp only;omega,by simp only;omega,(λe=>by cases e),λ_=>h3⟩ (mvP 101 102) ue ⟨rfl,⟨rfl,rfl,rfl,rfl,rfl,uh⟩,⟨rfl,rfl,uh⟩,rfl,λi U=>xL ua U⟩
include hl
theorem zho(f:Nat)(ih: ∀g,g<=f->EX l g)(i k:Nat)(op:Int)(hk1:1<=k)(hk3:k<=3)(J:i<l.length):RJ l 285 [rdV,I op,I (k:Nat)] (λa=>enE (.mk op 0 (⟨#[]⟩:UH) a)) i (partsJ l (f+1) k i []):=by
 intro af jf bf hR;have hjf:=(za6 hl (f+1)).2.2.2.2.2.1 k i [] J _ _ _ hR;refine⟨hjf,?_⟩;have hll:=hl.len;simp only[partsJ]at hR;rw[uu ua]at hR
 obtain⟨j0,b0,hT,hj0,hA,hB⟩: ∃j0 b0,zh Tryz.prog 63 [rdV,Sr (⟨#[40]⟩:UH)] [(0,rdR l i false)] (.tup []) [(0,rdR l j0 b0)]/\j0<l.length/\(b0=false->PJ.go (exprJ l f 0 j0) (λx i=>partsJ l f (k - 1) i ([]++[x])) (λx=>[]++[x]++List.replicate (k - 1) E0)=some (af,jf,bf))/\(b0=true->af=List.replicate k E0/\jf=j0/\bf=true):=by
  obtain⟨u,j0,b0,h1,h2,h3⟩:=yy hR;have h1':vX l (⟨#[40]⟩:UH) i=some (u,j0,b0):=h1;obtain⟨h4,h5⟩:=xJ hl i J _ _ _ _ h1';exact⟨j0,b0,h5,h4,h2,λh=>by have:=h3 h;simpa using this⟩
 clear hR;refine gO T Tryz.func285 λC hC=>?_
 repeat' first|refine gG ?_|refine gB ?_ ?_<;>intro h|refine gR hT (nm [0]) ?_
 refine gA 101 4 [] [(1007,[.p (ki op),.p (ki 0),.p (ks (⟨#[]⟩:UH)),.ar 101])] ?_
 refine zn (λq:List Ex×Nat×Bool×Nat=>q.1.length<=k/\q.2.1<l.length/\q.2.2.2<=f/\
  (q.2.2.1=false->q.1=[]->PJ.go (exprJ l q.2.2.2 0 q.2.1) (λx i=>partsJ l q.2.2.2 (k - 1) i ([]++[x])) (λx=>[]++[x]++List.replicate (k - 1) E0)=some (af,jf,bf))/\
  (q.2.2.1=false->q.1≠ []->partsJ l q.2.2.2 (k - q.1.length) q.2.1 q.1=some (af,jf,bf))/\(q.2.2.1=true->af=q.1++List.replicate (k - q.1.length) E0/\jf=q.2.1/\bf=true))
  (λq=>([(0,rdV),(6,.one (.bx 1006 0)),(7,.one (.bx 1007 0)),(13,I (k:Nat)),(14,I (q.1.length:Nat))],[(0,some (rdR l q.2.1 q.2.2.1)),(1006,some z44),(1007,some (Res.box [.p (ki op),.p (ki 0),.p (ks (⟨#[]⟩:UH)),.ar 101])),(101,some (Res.arr 4 (q.1.map z8)))])) (λq=>k - q.1.length) hC
  ([],j0,b0,f) ⟨uz _,hj0,uF _,λh _=>hA h,λ_ h=>absurd rfl h,λh=>by have:=hB h;simpa using this⟩ id gM ?_
 clear hA hB hT hj0;rintro⟨acc,j,b,g⟩ ⟨hck,hj,U,h1,h2,h3⟩;simp only at hck hj U h1 h2 h3;have hal:(acc.map z8).length=acc.length:=uk _;refine zq T hC true 200 rfl ?_;refine zt rfl ?_ ?_<;>intro hh
 rotate_left
 ·have hge:acc.length=k:=by have:=um hh;(try dsimp only at this);omega
  clear hh;refine gZ 101 [] [(1007,[.p (ki op),.p (ki 0),.p (ks (⟨#[]⟩:UH)),.p (wu acc)])] ?_;cases b with
  |true=>
   obtain⟨e,rfl,rfl⟩:=h3 rfl;have e:af=acc:=by rw[e,hge,qZ];simp
   subst e
   repeat' first|refine gG ?_|refine gB ?_ ?_<;>intro h|refine ze ?_|refine gR (yg hl _ hj _) (nm [0]) ?_|refine gL ?_
   exact gE
  |false=>
   have h2:=h2 rfl (λe=>by rw[e]at hge;simp at hge;omega);cases g with
   |zero=>simp only[partsJ]at h2;cases h2
   |succ g=>
    simp only[partsJ]at h2;rw[uv ua]at h2;obtain⟨u,j5,b5,h5,h6,h7⟩:=yy h2;obtain⟨_,hT⟩:=xJ hl _ hj _ _ _ _ h5
    have hfin:af=acc/\jf=j5/\bf=b5:=by
     cases b5 with
     |false=>have h6:=h6 rfl;cases h6;exact⟨rfl,rfl,rfl⟩
     |true=>exact h7 rfl
    obtain⟨rfl,rfl,rfl⟩:=hfin
    repeat' first|refine gG ?_|refine gB ?_ ?_<;>intro h|refine ze ?_|refine gR hT (nm [0]) ?_|refine gL ?_
    exact gE
 ·have hlt:acc.length<k:=by have:=uj hh;(try dsimp only at this);omega
  clear hh;cases b with
  |true=>
   obtain⟨e,rfl,rfl⟩:=h3 rfl
   have e2:af=(acc++[E0])++List.replicate (k - (acc++[E0]).length) E0:=by
    rw[e,uC,uD,tq]
    congr 1
    rw[show k - acc.length=(k - (acc.length+1))+1 by omega,qv];rfl
   clear h1 h2 h3;by_cases h0:acc.length=0
   ·repeat' first|refine gG ?_|(exfalso;have h':=uj h;(try dsimp only at h');omega)|refine gB ?_ ?_<;>intro h|refine gR (wR hl _ hj) (nm [0]) ?_|refine gH T [z8 E0] ?_|(refine gY T 102 ((acc++[E0]).map z8) 56 ?_)
    dsimp only;rw[y7 (i:=acc.length) ua,show((acc.length+1:Nat):Int)=((acc++[E0]).length:Int) by simp];exact zg (acc++[E0],jf,true,g) ⟨ug,hj,U,(λh=>by cases h),(λh=>by cases h),λ_=>⟨e2,rfl,rfl⟩⟩ (mvP 101 102) ug ⟨rfl,⟨rfl,rfl,rfl,rfl,rfl,uh⟩,⟨rfl,rfl,rfl,rfl,uh⟩,rfl,λi J=>xL ua J⟩
   ·repeat' first|refine gG ?_|(exfalso;have h':=um h;(try dsimp only at h');omega)|refine gB ?_ ?_<;>intro h|refine gR (yg hl _ hj _) (nm [0]) ?_|refine gR (wR hl _ hj) (nm [0]) ?_|refine gH T [z8 E0] ?_|(refine gY T 102 ((acc++[E0]).map z8) 56 ?_)
    dsimp only;rw[y7 (i:=acc.length) ua,show((acc.length+1:Nat):Int)=((acc++[E0]).length:Int) by simp];exact zg (acc++[E0],jf,true,g) ⟨ug,hj,U,(λh=>by cases h),(λh=>by cases h),λ_=>⟨e2,rfl,rfl⟩⟩ (mvP 101 102) ug ⟨rfl,⟨rfl,rfl,rfl,rfl,rfl,uh⟩,⟨rfl,rfl,rfl,rfl,uh⟩,rfl,λi J=>xL ua J⟩
  |false=>
   clear h3;by_cases h0:acc.length=0
   ·have h0':acc=[]:=u3.1 h0;subst h0';obtain⟨y,k2,b2,h4,h5,h6⟩:=yy (h1 rfl rfl);obtain⟨hk2,hE⟩:=y6 hl (ih g U) _ hj _ _ _ h4;clear h1 h2
    repeat' first|refine gG ?_|(exfalso;have h':=uj h;simp at h';done)|exact gD|refine gB ?_ ?_<;>intro h|refine gR hE (nm [0]) ?_|refine gH T [z8 y] ?_|(refine zhJ T 102 hC (rows:=[]) (rows2:=[z8 y]) (rows3:=[y].map z8) (bytes:=56) rfl rfl rfl rfl (zeJ.sl (T.es_ok _ _ rfl)) rfl rfl rfl rfl ud (by rw[uD,qh];decide) (by rw[uD,qh];decide) rfl rfl rfl ?_)
    exact zg ([y],k2,b2,g) ⟨ug,hk2,U,(λ_ h=>by cases h),λh _=>h5 h,λh=>by have:=h6 h;simpa using this⟩ (mvP 101 102) ug ⟨rfl,⟨rfl,rfl,rfl,rfl,rfl,uh⟩,⟨rfl,rfl,rfl,rfl,uh⟩,rfl,λi J=>xL ua J⟩
   ·have h2:=h2 rfl (λe=>h0 (by rw[e];rfl));clear h1;cases g with
    |zero=>simp only[partsJ]at h2;cases h2
    |succ g=>
     simp only[partsJ]at h2;rw[uu ua,uu h0]at h2;obtain⟨u,j5,b5,h5,h6,h7⟩:=yy h2;obtain⟨hj5,hT⟩:=xJ hl _ hj _ _ _ _ h5;cases b5 with
     |false=>
      obtain⟨y,k2,b2,h8,h9,h10⟩:=yy (h6 rfl);obtain⟨hk2,hE⟩:=y6 hl (ih g ua) _ hj5 _ _ _ h8;have hle:(acc++[y]).length=acc.length+1:=by simp
      repeat' first|refine gG ?_|(exfalso;have h':=um h;(try dsimp only at h');omega)|refine gB ?_ ?_<;>intro h|refine gR hT (nm [0]) ?_|refine gR hE (nm [0]) ?_|refine gH T [z8 y] ?_|(refine gY T 102 ((acc++[y]).map z8) 56 ?_)
      dsimp only;rw[y7 (i:=acc.length) ua,<-hle];exact zg (acc++[y],k2,b2,g) ⟨by simp only;omega,hk2,by simp only;omega,(λ_ h=>by simp at h),(λh _=>by simp only;rw[hle,<-Nat.sub_sub];exact h9 h),λh=>by simp only;rw[hle,<-Nat.sub_sub];exact h10 h⟩ (mvP 101 102) (by simp only;omega) ⟨rfl,⟨rfl,rfl,rfl,rfl,rfl,uh⟩,⟨rfl,rfl,rfl,rfl,uh⟩,rfl,λi J=>xL ua J⟩
     |true=>
      obtain⟨e,rfl,rfl⟩:=h7 rfl
      have e2:af=(acc++[E0])++List.replicate (k - (acc++[E0]).length) E0:=by
       rw[e,uC,uD,tq]
       congr 1
       rw[show k - acc.length=(k - (acc.length+1))+1 by omega,qv];rfl
      have hle:(acc++[E0]).length=acc.length+1:=by simp
      repeat' first|refine gG ?_|(exfalso;have h':=um h;(try dsimp only at h');omega)|refine gB ?_ ?_<;>intro h|refine gR hT (nm [0]) ?_|refine gR (wR hl _ hj5) (nm [0]) ?_|refine gH T [z8 E0] ?_|(refine gY T 102 ((acc++[E0]).map z8) 56 ?_)
      dsimp only;rw[y7 (i:=acc.length) ua,<-hle];exact zg (acc++[E0],jf,true,g) ⟨by simp only;omega,hj5,by simp only;omega,(λh=>by cases h),(λh=>by cases h),λ_=>⟨e2,rfl,rfl⟩⟩ (mvP 101 102) (by simp only;omega) ⟨rfl,⟨rfl,rfl,rfl,rfl,rfl,uh⟩,⟨rfl,rfl,rfl,rfl,uh⟩,rfl,λi J=>xL ua J⟩
end
variable {α:Type}{r:PJ α}
theorem zbm{β:Type}{g:α->β}{x:β}(h:PJ.go r (λa i=>PJ.ok (g a) i) g=some (x,j,b)): ∃a,r=some (a,j,b)/\x=g a:=by
 rcases r with _|⟨y,k,_|_⟩
 ·cases h
 ·cases h;exact⟨y,rfl,rfl⟩
 ·cases h;exact⟨y,rfl,rfl⟩
section
variable {l:List Tok} (hl:w6 l)
include hl
set_option maxHeartbeats 1000000 in
theorem zjK(f:Nat)(ih: ∀g,g<=f->EX l g)(i:Nat)(hi:i<l.length):RJ l 272 [rdV] enE i (primJ l (f+1) i):=by
 intro xf jf bf J;have hjf:=(za6 hl (f+1)).2.2.2.2.2.2 i hi _ _ _ J;refine⟨hjf,?_⟩;have hF:=ih f (uF _);obtain⟨t,ht⟩:=zd hi;simp only[primJ]at J;rw[ht]at J;simp only at J;by_cases U:t.k=2
 ·rw[uv U]at J;cases J;have hI:zh Tryz.prog 151 [rdV] [(0,rdR l i false)] (I t.n) [(0,rdR l (i+1) false)]:=(zhk hl i hi t.n (i+1) false (by unfold zmQ;rw[ht];exact uv U)).2;refine gO T Tryz.func272 λC hC=>?_
  repeat' first|refine gG ?_|(exfalso;exact absurd U (by simpa using h))|refine gB ?_ ?_<;>intro h|refine gI T (zl ht) ?_|refine gR hI (nm [0]) ?_|refine gL ?_
  exact zi ⟨.inl rfl,id,_,rfl,zaP _ _ _,⟨rfl,uh⟩,rfl,rfl⟩
 rw[uu U]at J;by_cases hk1:t.k=1
 ·rw[uv hk1]at J;have hnx:=hl.next ht ua
  have hN:zh Tryz.prog 64 [rdV] [(0,rdR l i false)] (Sr t.t) [(0,rdR l (i+1) false)]:=(xK hl i hi t.t (i+1) false (by unfold nameJ;rw[ht];exact uv hk1)).2;by_cases hs:isA l (i+1) (⟨#[40]⟩:UH)=true
  ·rw[uv hs]at J;obtain⟨a,ha,rfl⟩:=zbm J;have hA:=(hF.args _ (zp hl hs) _ _ _ ha).2;refine gO T Tryz.func272 λC hC=>?_
   repeat' first|refine gG ?_|(exfalso;exact absurd U (by simpa using h))|(exfalso;exact absurd hk1 (by simpa using h))|refine gB ?_ ?_<;>intro h|refine gI T (zl ht) ?_|refine gR hN (nm [0]) ?_|refine gR (zN hl hs) (nm [0]) ?_|refine znZ hC rfl rfl rfl rfl rfl rfl ?_|refine gR hA (nm [0]) ?_|refine gL ?_
   exact gE
  ·rw[uu hs]at J;cases J;refine gO T Tryz.func272 λC hC=>?_
   repeat' first|refine gG ?_|(exfalso;exact absurd U (by simpa using h))|(exfalso;exact absurd hk1 (by simpa using h))|refine gB ?_ ?_<;>intro h|refine gI T (zl ht) ?_|refine gR hN (nm [0]) ?_|refine gR (zL hl hnx hs) (nm [0]) ?_|refine gL ?_
   exact zi ⟨.inl rfl,id,_,rfl,zaP _ _ _,⟨rfl,uh⟩,rfl,rfl⟩
 rw[uu hk1]at J;by_cases h1:isA l i (⟨#[116,114,117,101]⟩:UH)=true
 ·rw[uv h1]at J;cases J;refine gO T Tryz.func272 λC hC=>?_
  repeat' first|refine gG ?_|(exfalso;exact absurd (by simpa using h) U)|(exfalso;exact absurd (by simpa using h) hk1)|refine gB ?_ ?_<;>intro h|refine gI T (zl ht) ?_|refine zu hC ((zL hl hi uf)) (nm [0]) rfl rfl (zH.refl _) rfl rfl rfl rfl rfl rfl rfl rfl ?_|refine gR (zN hl h1) (nm [0]) ?_|refine gL ?_
  exact zi ⟨.inl rfl,id,_,rfl,zaP _ _ _,⟨rfl,uh⟩,rfl,rfl⟩
 rw[uu h1]at J;by_cases h2:isA l i (⟨#[102,97,108,115,101]⟩:UH)=true
 ·rw[uv h2]at J;cases J;refine gO T Tryz.func272 λC hC=>?_
  repeat' first|refine gG ?_|(exfalso;exact absurd (by simpa using h) U)|(exfalso;exact absurd (by simpa using h) hk1)|refine gB ?_ ?_<;>intro h|refine gI T (zl ht) ?_|refine zu hC ((zL hl hi uf)) (nm [0]) rfl rfl (zH.refl _) rfl rfl rfl rfl rfl rfl rfl rfl ?_|refine gR (zN hl h2) (nm [0]) ?_|refine gL ?_
  exact zi ⟨.inl rfl,id,_,rfl,zaP _ _ _,⟨rfl,uh⟩,rfl,rfl⟩
 rw[uu h2]at J;by_cases h3:isA l i (⟨#[110,105,108]⟩:UH)=true
 ·rw[uv h3]at J;cases J;refine gO T Tryz.func272 λC hC=>?_
  repeat' first|refine gG ?_|(exfalso;exact absurd (by simpa using h) U)|(exfalso;exact absurd (by simpa using h) hk1)|refine gB ?_ ?_<;>intro h|refine gI T (zl ht) ?_|refine zu hC ((zL hl hi uf)) (nm [0]) rfl rfl (zH.refl _) rfl rfl rfl rfl rfl rfl rfl rfl ?_|refine gR (zN hl h3) (nm [0]) ?_|refine gL ?_
  exact zi ⟨.inl rfl,id,_,rfl,zaP _ _ _,⟨rfl,uh⟩,rfl,rfl⟩
 rw[uu h3]at J;by_cases h4:isA l i (⟨#[116,104,105,115]⟩:UH)=true
 ·rw[uv h4]at J;cases J;refine gO T Tryz.func272 λC hC=>?_
  repeat' first|refine gG ?_|(exfalso;exact absurd (by simpa using h) U)|(exfalso;exact absurd (by simpa using h) hk1)|refine gB ?_ ?_<;>intro h|refine gI T (zl ht) ?_|refine zu hC ((zL hl hi uf)) (nm [0]) rfl rfl (zH.refl _) rfl rfl rfl rfl rfl rfl rfl rfl ?_|refine gR (zN hl h4) (nm [0]) ?_|refine gL ?_
  exact zi ⟨.inl rfl,id,_,rfl,zaP _ _ _,⟨rfl,uh⟩,rfl,rfl⟩
 rw[uu h4]at J;by_cases h5:isA l i (⟨#[110,101,119]⟩:UH)=true
 ·rw[uv h5]at J;obtain⟨a,ha,rfl⟩:=zbm J;have hN:=(xK hl _ (zp hl h5) _ _ _ ha).2;refine gO T Tryz.func272 λC hC=>?_
  repeat' first|refine gG ?_|(exfalso;exact absurd (by simpa using h) U)|(exfalso;exact absurd (by simpa using h) hk1)|refine gB ?_ ?_<;>intro h|refine gI T (zl ht) ?_|refine zu hC ((zL hl hi uf)) (nm [0]) rfl rfl (zH.refl _) rfl rfl rfl rfl rfl rfl rfl rfl ?_|refine gR (zN hl h5) (nm [0]) ?_|refine gR hN (nm [0]) ?_|refine gL ?_
  exact zi ⟨.inl rfl,id,_,rfl,zaP _ _ _,⟨rfl,uh⟩,rfl,rfl⟩
 rw[uu h5]at J;by_cases h6:isA l i (⟨#[105,102]⟩:UH)=true
 ·rw[uv h6]at J;obtain⟨a,ha,rfl⟩:=zbm J;have hN:=(hF.parts _ 3 21 ub ub (zp hl h6) _ _ _ ha).2;refine gO T Tryz.func272 λC hC=>?_
  repeat' first|refine gG ?_|(exfalso;exact absurd (by simpa using h) U)|(exfalso;exact absurd (by simpa using h) hk1)|refine gB ?_ ?_<;>intro h|refine gI T (zl ht) ?_|refine zu hC ((zL hl hi uf)) (nm [0]) rfl rfl (zH.refl _) rfl rfl rfl rfl rfl rfl rfl rfl ?_|refine gR (zN hl h6) (nm [0]) ?_|refine gR hN (nm [0]) ?_|refine gL ?_
  exact gE
 rw[uu h6]at J;by_cases h7:isA l i (⟨#[109,97,120]⟩:UH)=true
 ·rw[uv h7]at J;obtain⟨a,ha,rfl⟩:=zbm J;have hN:=(hF.parts _ 2 22 ub ub (zp hl h7) _ _ _ ha).2;refine gO T Tryz.func272 λC hC=>?_
  repeat' first|refine gG ?_|(exfalso;exact absurd (by simpa using h) U)|(exfalso;exact absurd (by simpa using h) hk1)|refine gB ?_ ?_<;>intro h|refine gI T (zl ht) ?_|refine zu hC ((zL hl hi uf)) (nm [0]) rfl rfl (zH.refl _) rfl rfl rfl rfl rfl rfl rfl rfl ?_|refine gR (zN hl h7) (nm [0]) ?_|refine gR hN (nm [0]) ?_|refine gL ?_
  exact gE
 rw[uu h7]at J;by_cases h8:isA l i (⟨#[109,105,110]⟩:UH)=true
 ·rw[uv h8]at J;obtain⟨a,ha,rfl⟩:=zbm J;have hN:=(hF.parts _ 2 23 ub ub (zp hl h8) _ _ _ ha).2;refine gO T Tryz.func272 λC hC=>?_
  repeat' first|refine gG ?_|(exfalso;exact absurd (by simpa using h) U)|(exfalso;exact absurd (by simpa using h) hk1)|refine gB ?_ ?_<;>intro h|refine gI T (zl ht) ?_|refine zu hC ((zL hl hi uf)) (nm [0]) rfl rfl (zH.refl _) rfl rfl rfl rfl rfl rfl rfl rfl ?_|refine gR (zN hl h8) (nm [0]) ?_|refine gR hN (nm [0]) ?_|refine gL ?_
  exact gE
 rw[uu h8]at J;by_cases h9:isA l i (⟨#[108,111,103]⟩:UH)=true
 ·rw[uv h9]at J;obtain⟨a,ha,rfl⟩:=zbm J;have hN:=(hF.parts _ 1 24 ub ub (zp hl h9) _ _ _ ha).2;refine gO T Tryz.func272 λC hC=>?_
  repeat' first|refine gG ?_|(exfalso;exact absurd (by simpa using h) U)|(exfalso;exact absurd (by simpa using h) hk1)|refine gB ?_ ?_<;>intro h|refine gI T (zl ht) ?_|refine zu hC ((zL hl hi uf)) (nm [0]) rfl rfl (zH.refl _) rfl rfl rfl rfl rfl rfl rfl rfl ?_|refine gR (zN hl h9) (nm [0]) ?_|refine gR hN (nm [0]) ?_|refine gL ?_
  exact gE
 rw[uu h9]at J;by_cases h10:isA l i (⟨#[40]⟩:UH)=true
 ·rw[uv h10]at J;obtain⟨y,k,b1,hp,hg,hb⟩:=yy J;obtain⟨hk,hE⟩:=y6 hl hF _ (zp hl h10) _ _ _ hp;cases b1 with
  |false=>
   obtain⟨u,k2,b2,h11,h12,h13⟩:=yy (hg rfl)
   have hfin:xf=y/\jf=k2/\bf=b2:=by
    cases b2 with
    |false=>have e:=h12 rfl;cases e;exact⟨rfl,rfl,rfl⟩
    |true=>exact h13 rfl
   obtain⟨rfl,rfl,rfl⟩:=hfin;have hT:=(xJ hl _ hk _ _ _ _ h11).2;refine gO T Tryz.func272 λC hC=>?_
   repeat' first|refine gG ?_|(exfalso;exact absurd (by simpa using h) U)|(exfalso;exact absurd (by simpa using h) hk1)|refine gB ?_ ?_<;>intro h|refine gI T (zl ht) ?_|refine zu hC ((zL hl hi uf)) (nm [0]) rfl rfl (zH.refl _) rfl rfl rfl rfl rfl rfl rfl rfl ?_|refine gR (zN hl h10) (nm [0]) ?_|refine gR hE (nm [0]) ?_|refine gR hT (nm [0]) ?_|refine gL ?_
   exact gE
  |true=>
   obtain⟨rfl,rfl,rfl⟩:=hb rfl;refine gO T Tryz.func272 λC hC=>?_
   repeat' first|refine gG ?_|(exfalso;exact absurd (by simpa using h) U)|(exfalso;exact absurd (by simpa using h) hk1)|refine gB ?_ ?_<;>intro h|refine gI T (zl ht) ?_|refine zu hC ((zL hl hi uf)) (nm [0]) rfl rfl (zH.refl _) rfl rfl rfl rfl rfl rfl rfl rfl ?_|refine gR (zN hl h10) (nm [0]) ?_|refine gR hE (nm [0]) ?_|refine gR (yg hl _ hk _) (nm [0]) ?_|refine gL ?_
   exact gE
 rw[uu h10]at J;cases J;refine gO T Tryz.func272 λC hC=>?_
 repeat' first|refine gG ?_|(exfalso;exact absurd (by simpa using h) U)|(exfalso;exact absurd (by simpa using h) hk1)|refine gB ?_ ?_<;>intro h|refine gI T (zl ht) ?_|refine zu hC ((zL hl hi uf)) (nm [0]) rfl rfl (zH.refl _) rfl rfl rfl rfl rfl rfl rfl rfl ?_|refine gL ?_
 exact zi ⟨.inl rfl,id,_,rfl,zaP _ _ _,⟨rfl,uh⟩,rfl,rfl⟩
theorem zm2: ∀f:Nat,EX l f:=by
 intro f
 induction f using Nat.strongRecOn with
 |_ f ih=>
  cases f with
  |zero=>exact⟨(λ_ _ _ _ _ _ _ h=>by simp only[exprJ]at h;cases h),(λ_ _ _ _ _ h=>by simp only[postJ]at h;cases h),(λ_ _ _ _ _ h=>by simp only[primJ]at h;cases h),(λ_ _ _ _ _ h=>by simp only[argsJ]at h;cases h),(λ_ _ _ _ _ _ _ _ _ h=>by simp only[partsJ]at h;cases h)⟩
  |succ f=>
   have ih': ∀g,g<=f->EX l g:=λg hg=>ih g ua
   exact⟨λn i U J=>zjI hl f ih' n i U J,λi J=>zjH hl f ih' i J,λi J=>zjK hl f ih' i J,λi J=>zjJ hl f ih' i J,λi k op h1 h3 J=>zho hl f ih' i k op h1 h3 J⟩
end
def F5(x:Ex):Prop:=x.op=5-> ∃y,x.l=[y]
theorem F5.of{op n:Int}{s:Str}{l:List Ex}(h:op≠5):F5 (.mk op n s l):=λe=>absurd e h
theorem F5.one{op n:Int}{s:Str}{y:Ex}:F5 (.mk op n s [y]):=λ_=>⟨y,rfl⟩
theorem zsQ{l:List Tok}{n:Nat}{op:Int}(h:opA l i n=some op):9<=op:=by
 unfold opA at h;rw[uM]at h;obtain⟨a,J,rfl⟩:=h;have U:=qn J
 have: ∀n,∀a∈opsA n,9<=a.2:=by
  intro n;by_cases h:n<6
  ·have:n=0\/n=1\/n=2\/n=3\/n=4\/n=5:=by omega
   rcases this with rfl|rfl|rfl|rfl|rfl|rfl<;>decide
  ·have:opsA n=[]:=by unfold opsA;split<;>first|omega|rfl
   rw[this];simp
 exact this n a U
section
variable {l:List Tok}
theorem zwQ: ∀f:Nat,(∀n i x j,exprA l f n i= .ok x j->F5 x)/\(∀n y i x j,F5 y->moreA l f n y i= .ok x j->F5 x)/\(∀i x j,postA l f i= .ok x j->F5 x)/\(∀y i x j,F5 y->dotsA l f y i= .ok x j->F5 x)/\(∀i x j,primA l f i= .ok x j->F5 x):=by
 intro f
 induction f with
 |zero=>
  refine⟨λn i x j h=>?_,λn y i x j _ h=>?_,λi x j h=>?_,λy i x j _ h=>?_,λi x j h=>?_⟩
  all_goals simp only[exprA,moreA,postA,dotsA,primA,reduceCtorEq]at h
 |succ f ih=>
  obtain⟨iE,iM,iP,iD,iR⟩:=ih;refine⟨λn i x j h=>?_,λn y i x j U h=>?_,λi x j h=>?_,λy i x j U h=>?_,λi x j h=>?_⟩
  ·unfold exprA at h;split at h
   ·split at h
    ·obtain⟨y,k,J,h⟩:=zK h;cases h;exact .one
    ·exact iE _ _ _ _ h
   ·split at h
    ·split at h
     ·obtain⟨y,k,J,h⟩:=zK h;cases h;exact .one
     ·exact iP _ _ _ h
    ·obtain⟨y,k,J,h⟩:=zK h;exact iM _ _ _ _ _ (iE _ _ _ _ J) h
  ·unfold moreA at h;split at h
   ·cases h;exact U
   ·rename_i op ho;have hb:=zsQ ho;obtain⟨z,k,J,h⟩:=zK h;split at h
    ·cases h;exact .of ua
    ·exact iM _ _ _ _ _ (.of ua) h
  ·unfold postA at h;obtain⟨y,k,J,h⟩:=zK h;exact iD _ _ _ _ (iR _ _ _ J) h
  ·unfold dotsA at h;split at h
   ·obtain⟨s,k,J,h⟩:=zK h;exact iD _ _ _ _ .one h
   ·cases h;exact U
  ·unfold primA at h;cases hl:l[i]? with
   |none=>rw[hl]at h;cases h
   |some t=>
   rw[hl]at h;simp only at h;rcases yp h with⟨_,h⟩|⟨_,h⟩
   ·cases h;exact .of ub
   rcases yp h with⟨_,h⟩|⟨_,h⟩
   ·rcases yp h with⟨_,h⟩|⟨_,h⟩
    ·obtain⟨a,k,J,h⟩:=zK h;cases h;exact .of ub
    ·cases h;exact .of ub
   rcases yp h with⟨_,h⟩|⟨_,h⟩
   ·cases h;exact .of ub
   rcases yp h with⟨_,h⟩|⟨_,h⟩
   ·cases h;exact .of ub
   rcases yp h with⟨_,h⟩|⟨_,h⟩
   ·cases h;exact .of ub
   rcases yp h with⟨_,h⟩|⟨_,h⟩
   ·cases h;exact .of ub
   rcases yp h with⟨_,h⟩|⟨_,h⟩
   ·obtain⟨a,k,J,h⟩:=zK h;cases h;exact .of ub
   rcases yp h with⟨_,h⟩|⟨_,h⟩
   ·obtain⟨a,k,J,h⟩:=zK h;cases h;exact .of ub
   rcases yp h with⟨_,h⟩|⟨_,h⟩
   ·obtain⟨a,k,J,h⟩:=zK h;cases h;exact .of ub
   rcases yp h with⟨_,h⟩|⟨_,h⟩
   ·obtain⟨a,k,J,h⟩:=zK h;cases h;exact .of ub
   rcases yp h with⟨_,h⟩|⟨_,h⟩
   ·obtain⟨a,k,J,h⟩:=zK h;cases h;exact .of ub
   rcases yp h with⟨_,h⟩|⟨_,h⟩
   ·obtain⟨a,k,J,h⟩:=zK h;obtain⟨u,k2,h2,h⟩:=zK h;cases h;exact iE _ _ _ _ J
   ·cases h
theorem zm3{f:Nat}{x:Ex}(h:postJ l f i=some (x,j,false)):F5 x:=by
 have:=zpF h;rw[(zcB f).2.2.1]at this;exact(zwQ f).2.2.1 _ _ _ this
end
variable {bf:Bool}{jf:Nat}
section
variable {l:List Tok} (hl:w6 l)
include hl
set_option maxHeartbeats 2000000 in
theorem zjL(f i:Nat)(hi:i<l.length)(h1: ¬isA l i (⟨#[105,102]⟩:UH)=true)(h2: ¬isA l i (⟨#[119,104,105,108,101]⟩:UH)=true)(h3: ¬isA l i (⟨#[114,101,116,117,114,110]⟩:UH)=true){xf:Sm}
 (hR:PJ.go (postJ l f i) (λx i=>
   if isA l i (⟨#[61]⟩:UH)=true/\x.op=4/\x.s≠(⟨#[116,104,105,115]⟩:UH)then PJ.go (exprJ l f 0 (i+1)) (λy i=>PJ.go (vX l (⟨#[59]⟩:UH) i) (λ_ i=> .ok (.mk 1 x.s [y] [] []) i) (λ_=> .mk 1 x.s [y] [] [])) (λy=> .mk 1 x.s [y] [] [])
   else if isA l i (⟨#[61]⟩:UH)=true/\x.op=5 then PJ.go (exprJ l f 0 (i+1)) (λy i=>PJ.go (vX l (⟨#[59]⟩:UH) i) (λ_ i=> .ok (.mk 2 x.s (x.l.take 1++[y]) [] []) i) (λ_=> .mk 2 x.s (x.l.take 1++[y]) [] [])) (λy=> .mk 2 x.s (x.l.take 1++[y]) [] [])
   else if x.op=7 then PJ.go (vX l (⟨#[59]⟩:UH) i) (λ_ i=> .ok (.mk 6 (⟨#[]⟩:UH) [x] [] []) i) (λ_=> .mk 6 (⟨#[]⟩:UH) [x] [] [])
   else .no (.mk 6 (⟨#[]⟩:UH) [x] [] []) i) (λx=> .mk 6 (⟨#[]⟩:UH) [x] [] [])=some (xf,jf,bf)):
 zh Tryz.prog 211 [rdV] [(0,rdR l i false)] (zF (zcL xf)) [(0,rdR l jf bf)]:=by
 have hll:=hl.len;have hX:=zm2 hl f;obtain⟨x,k,b,hx,hg,hb⟩:=yy hR;obtain⟨hk,hP⟩:=hX.post i hi _ _ _ hx;cases b with
 |true=>
  obtain⟨rfl,rfl,rfl⟩:=hb rfl;obtain⟨op,n,s,L⟩:=x;refine gO T Tryz.func211 λC hC=>?_
  repeat' first|refine gG ?_|exact gD|refine gB ?_ ?_<;>intro h|refine zu hC ((zL hl hi uf)) (nm [0]) rfl rfl (zH.refl _) rfl rfl rfl rfl rfl rfl rfl rfl ?_|refine gR hP (nm [0]) ?_|refine gH T [z8 (.mk op n s L)] ?_|refine gR (xk hl _ hk _) (nm [0]) ?_|refine gR (yg hl _ hk _) (nm [0]) ?_|refine gL ?_
  all_goals (exact zi ⟨.inl rfl,id,_,rfl,.agg (.cons (.refl _) (.cons (.refl _) (.cons (.refl _) (.cons (.nil 5) (.cons (.nil 5) .nil))))),⟨rfl,uh⟩,rfl,rfl⟩)
 |false=>
  have h5:=zm3 hx;have J:=hg rfl;clear hg hb hR hx;obtain⟨op,n,s,L⟩:=x;simp only[Ex.op,Ex.s,Ex.l]at J;simp only[F5,Ex.op,Ex.l]at h5;by_cases h4:op=4
  ·subst h4;simp only[Ub,reduceCtorEq,UB,uL,show ¬((4:Int)=5) by decide,show ¬((4:Int)=7) by decide]at J;by_cases ht:s=(⟨#[116,104,105,115]⟩:UH)
   ·simp only[ht,ne_eq,not_true_eq_false,UB,uL]at J;subst ht;have hd':xf= .mk 6 (⟨#[]⟩:UH) [.mk 4 n (⟨#[116,104,105,115]⟩:UH) L] [] []/\jf=k/\bf=true:=by cases J;exact⟨rfl,rfl,rfl⟩
    obtain⟨rfl,rfl,rfl⟩:=hd';refine gO T Tryz.func211 λC hC=>?_
    repeat' first|refine gG ?_|(exfalso;simp[Ex.op,Ex.s]at h;done)|refine gB ?_ ?_<;>intro h|refine zu hC ((zL hl hi uf)) (nm [0]) rfl rfl (zH.refl _) rfl rfl rfl rfl rfl rfl rfl rfl ?_|refine gR hP (nm [0]) ?_|refine gH T [z8 (.mk 4 n (⟨#[116,104,105,115]⟩:UH) L)] ?_|refine zu hC ((zL hl hk uf)) (nm [0]) rfl rfl (zH.refl _) rfl rfl rfl rfl rfl rfl rfl rfl ?_|refine gR (yg hl _ hk _) (nm [0]) ?_|refine gL ?_
    all_goals (exact zi ⟨.inl rfl,id,_,rfl,.agg (.cons (.refl _) (.cons (.refl _) (.cons (.refl _) (.cons (.nil 5) (.cons (.nil 5) .nil))))),⟨rfl,uh⟩,rfl,rfl⟩)
   ·by_cases hs:isA l k (⟨#[61]⟩:UH)=true
    ·rw[uv ⟨hs,ht⟩]at J;obtain⟨y,k1,b1,hy,hg1,hb1⟩:=yy J;obtain⟨hk1,hE⟩:=y6 hl hX _ (zp hl hs) _ _ _ hy;cases b1 with
     |true=>
      obtain⟨rfl,rfl,rfl⟩:=hb1 rfl;refine gO T Tryz.func211 λC hC=>?_
      repeat' first|refine gG ?_|(exfalso;simp[Ex.op,Ex.s,ht]at h;done)|refine gB ?_ ?_<;>intro h|refine zu hC ((zL hl hi uf)) (nm [0]) rfl rfl (zH.refl _) rfl rfl rfl rfl rfl rfl rfl rfl ?_|refine gR hP (nm [0]) ?_|refine gH T [z8 (.mk 4 n s L)] ?_|refine gR (zN hl hs) (nm [0]) ?_|refine gR hE (nm [0]) ?_|refine gH T [z8 y] ?_|refine gR (yg hl _ hk1 _) (nm [0]) ?_|refine gL ?_
      exact zi ⟨.inl rfl,id,_,rfl,.agg (.cons (.refl _) (.cons (.refl _) (.cons (.refl _) (.cons (.nil 5) (.cons (.nil 5) .nil))))),⟨rfl,uh⟩,rfl,rfl⟩
     |false=>
      obtain⟨u,k2,b2,h4,h6,h7⟩:=yy (hg1 rfl);obtain⟨_,hT⟩:=xJ hl _ hk1 _ _ _ _ h4
      have U:xf= .mk 1 s [y] [] []/\jf=k2/\bf=b2:=by
       cases b2 with
       |false=>have e:=h6 rfl;cases e;exact⟨rfl,rfl,rfl⟩
       |true=>exact h7 rfl
      obtain⟨rfl,rfl,rfl⟩:=U;refine gO T Tryz.func211 λC hC=>?_
      repeat' first|refine gG ?_|(exfalso;simp[Ex.op,Ex.s,ht]at h;done)|refine gB ?_ ?_<;>intro h|refine zu hC ((zL hl hi uf)) (nm [0]) rfl rfl (zH.refl _) rfl rfl rfl rfl rfl rfl rfl rfl ?_|refine gR hP (nm [0]) ?_|refine gH T [z8 (.mk 4 n s L)] ?_|refine gR (zN hl hs) (nm [0]) ?_|refine gR hE (nm [0]) ?_|refine gH T [z8 y] ?_|refine gR hT (nm [0]) ?_|refine gL ?_
      exact zi ⟨.inl rfl,id,_,rfl,.agg (.cons (.refl _) (.cons (.refl _) (.cons (.refl _) (.cons (.nil 5) (.cons (.nil 5) .nil))))),⟨rfl,uh⟩,rfl,rfl⟩
    ·simp only[hs,false_and,uL]at J;have hd':xf= .mk 6 (⟨#[]⟩:UH) [.mk 4 n s L] [] []/\jf=k/\bf=true:=by cases J;exact⟨rfl,rfl,rfl⟩
     obtain⟨rfl,rfl,rfl⟩:=hd';refine gO T Tryz.func211 λC hC=>?_
     repeat' first|refine gG ?_|(exfalso;simp[Ex.op,Ex.s,ht]at h;done)|refine gB ?_ ?_<;>intro h|refine zu hC ((zL hl hi uf)) (nm [0]) rfl rfl (zH.refl _) rfl rfl rfl rfl rfl rfl rfl rfl ?_|refine gR hP (nm [0]) ?_|refine gH T [z8 (.mk 4 n s L)] ?_|refine zu hC ((zL hl hk uf)) (nm [0]) rfl rfl (zH.refl _) rfl rfl rfl rfl rfl rfl rfl rfl ?_|refine gR (yg hl _ hk _) (nm [0]) ?_|refine gL ?_
     all_goals (exact zi ⟨.inl rfl,id,_,rfl,.agg (.cons (.refl _) (.cons (.refl _) (.cons (.refl _) (.cons (.nil 5) (.cons (.nil 5) .nil))))),⟨rfl,uh⟩,rfl,rfl⟩)
  simp only[h4,false_and,UB,uL]at J;by_cases h55:op=5
  ·subst h55;obtain⟨y0,rfl⟩:=h5 rfl;simp only[and_true,show ¬((5:Int)=7) by decide,uL]at J;by_cases hs:isA l k (⟨#[61]⟩:UH)=true
   ·rw[uv hs]at J;obtain⟨y,k1,b1,hy,hg1,hb1⟩:=yy J;obtain⟨hk1,hE⟩:=y6 hl hX _ (zp hl hs) _ _ _ hy;cases b1 with
    |true=>
     obtain⟨rfl,rfl,rfl⟩:=hb1 rfl;refine gO T Tryz.func211 λC hC=>?_
     repeat' first|refine gG ?_|(exfalso;simp[Ex.op,Ex.s]at h;done)|refine gB ?_ ?_<;>intro h|refine zu hC ((zL hl hi uf)) (nm [0]) rfl rfl (zH.refl _) rfl rfl rfl rfl rfl rfl rfl rfl ?_|refine gR hP (nm [0]) ?_|refine gH T [z8 (.mk 5 n s [y0])] ?_|refine gR (zN hl hs) (nm [0]) ?_|refine xz T hC (row:=ye y0) rfl rfl rfl (qw _) (xA (l:=[y0]) (i:=0) rfl) rfl rfl ?_|refine gR hE (nm [0]) ?_|refine gH T [z8 y0,z8 y] ?_|refine gR (yg hl _ hk1 _) (nm [0]) ?_|refine gL ?_
     exact zi ⟨.inl rfl,id,_,rfl,.agg (.cons (.refl _) (.cons (.refl _) (.cons (.refl _) (.cons (.nil 5) (.cons (.nil 5) .nil))))),⟨rfl,uh⟩,rfl,rfl⟩
    |false=>
     obtain⟨u,k2,b2,h4,h6,h7⟩:=yy (hg1 rfl);obtain⟨_,hT⟩:=xJ hl _ hk1 _ _ _ _ h4
     have U:xf= .mk 2 s [y0,y] [] []/\jf=k2/\bf=b2:=by
      cases b2 with
      |false=>have e:=h6 rfl;cases e;exact⟨rfl,rfl,rfl⟩
      |true=>exact h7 rfl
     obtain⟨rfl,rfl,rfl⟩:=U;refine gO T Tryz.func211 λC hC=>?_
     repeat' first|refine gG ?_|(exfalso;simp[Ex.op,Ex.s]at h;done)|refine gB ?_ ?_<;>intro h|refine zu hC ((zL hl hi uf)) (nm [0]) rfl rfl (zH.refl _) rfl rfl rfl rfl rfl rfl rfl rfl ?_|refine gR hP (nm [0]) ?_|refine gH T [z8 (.mk 5 n s [y0])] ?_|refine gR (zN hl hs) (nm [0]) ?_|refine xz T hC (row:=ye y0) rfl rfl rfl (qw _) (xA (l:=[y0]) (i:=0) rfl) rfl rfl ?_|refine gR hE (nm [0]) ?_|refine gH T [z8 y0,z8 y] ?_|refine gR hT (nm [0]) ?_|refine gL ?_
     exact zi ⟨.inl rfl,id,_,rfl,.agg (.cons (.refl _) (.cons (.refl _) (.cons (.refl _) (.cons (.nil 5) (.cons (.nil 5) .nil))))),⟨rfl,uh⟩,rfl,rfl⟩
   ·rw[uu hs]at J;have hd':xf= .mk 6 (⟨#[]⟩:UH) [.mk 5 n s [y0]] [] []/\jf=k/\bf=true:=by cases J;exact⟨rfl,rfl,rfl⟩
    obtain⟨rfl,rfl,rfl⟩:=hd';refine gO T Tryz.func211 λC hC=>?_
    repeat' first|refine gG ?_|(exfalso;simp[Ex.op,Ex.s]at h;done)|refine gB ?_ ?_<;>intro h|refine zu hC ((zL hl hi uf)) (nm [0]) rfl rfl (zH.refl _) rfl rfl rfl rfl rfl rfl rfl rfl ?_|refine gR hP (nm [0]) ?_|refine gH T [z8 (.mk 5 n s [y0])] ?_|refine zu hC ((zL hl hk uf)) (nm [0]) rfl rfl (zH.refl _) rfl rfl rfl rfl rfl rfl rfl rfl ?_|refine gR (yg hl _ hk _) (nm [0]) ?_|refine gL ?_
    all_goals (exact zi ⟨.inl rfl,id,_,rfl,.agg (.cons (.refl _) (.cons (.refl _) (.cons (.refl _) (.cons (.nil 5) (.cons (.nil 5) .nil))))),⟨rfl,uh⟩,rfl,rfl⟩)
  simp only[h55,UB,uL]at J;by_cases h7:op=7
  ·subst h7;simp only[eq_self,uZ]at J;obtain⟨u,k2,b2,h4',h6,h7⟩:=yy J;obtain⟨_,hT⟩:=xJ hl _ hk _ _ _ _ h4'
   have U:xf= .mk 6 (⟨#[]⟩:UH) [.mk 7 n s L] [] []/\jf=k2/\bf=b2:=by
    cases b2 with
    |false=>have e:=h6 rfl;cases e;exact⟨rfl,rfl,rfl⟩
    |true=>exact h7 rfl
   obtain⟨rfl,rfl,rfl⟩:=U;refine gO T Tryz.func211 λC hC=>?_
   repeat' first|refine gG ?_|(exfalso;simp[Ex.op,Ex.s]at h;done)|refine gB ?_ ?_<;>intro h|refine zu hC ((zL hl hi uf)) (nm [0]) rfl rfl (zH.refl _) rfl rfl rfl rfl rfl rfl rfl rfl ?_|refine gR hP (nm [0]) ?_|refine gH T [z8 (.mk 7 n s L)] ?_|refine gR hT (nm [0]) ?_|refine gL ?_
   exact zi ⟨.inl rfl,id,_,rfl,.agg (.cons (.refl _) (.cons (.refl _) (.cons (.refl _) (.cons (.nil 5) (.cons (.nil 5) .nil))))),⟨rfl,uh⟩,rfl,rfl⟩
  simp only[h7,uL]at J;have hd':xf= .mk 6 (⟨#[]⟩:UH) [.mk op n s L] [] []/\jf=k/\bf=true:=by cases J;exact⟨rfl,rfl,rfl⟩
  obtain⟨rfl,rfl,rfl⟩:=hd';refine gO T Tryz.func211 λC hC=>?_
  repeat' first|refine gG ?_|(exfalso;simp[Ex.op,Ex.s,h4,h55,h7]at h;done)|refine gB ?_ ?_<;>intro h|refine zu hC ((zL hl hi uf)) (nm [0]) rfl rfl (zH.refl _) rfl rfl rfl rfl rfl rfl rfl rfl ?_|refine gR hP (nm [0]) ?_|refine gH T [z8 (.mk op n s L)] ?_|refine zu hC ((zL hl hk uf)) (nm [0]) rfl rfl (zH.refl _) rfl rfl rfl rfl rfl rfl rfl rfl ?_|refine gR (yg hl _ hk _) (nm [0]) ?_|refine gL ?_
  all_goals (exact zi ⟨.inl rfl,id,_,rfl,.agg (.cons (.refl _) (.cons (.refl _) (.cons (.refl _) (.cons (.nil 5) (.cons (.nil 5) .nil))))),⟨rfl,uh⟩,rfl,rfl⟩)
end
theorem zm4{l:List Tok}{f:Nat}{x:Sm}(h:zbt l f i=some (x,j,false)):i<j:=by
 have:=zpF h;rw[(zmS f).2.2]at this;exact((zpA f).2.2 _ _ _ this).1
structure SX (l:List Tok) (f:Nat):Prop where
 stmts: ∀i,i<l.length->RJ l 150 [rdV] (λa=>pS (yl a)) i (stmtsJ l f i [])
 block: ∀i,i<l.length->RJ l 252 [rdV] (λa=>pS (yl a)) i (vD l f i)
 stmt: ∀i,i<l.length->RJ l 211 [rdV] (λs=>zF (zcL s)) i (zbt l f i)
section
variable {l:List Tok} (hl:w6 l)
include hl
theorem zhp(f:Nat)(ih: ∀g,g<=f->SX l g)(i:Nat)(hi:i<l.length):RJ l 252 [rdV] (λa=>pS (yl a)) i (vD l (f+1) i):=by
 intro xf jf bf J;have U:=(zhn hl (f+1)).2.1 i hi _ _ _ J;refine⟨U,?_⟩;simp only[vD]at J;obtain⟨u,k,b,h1,h2,h3⟩:=yy J;obtain⟨hk,hT⟩:=xJ hl i hi _ _ _ _ h1;cases b with
 |true=>
  obtain⟨rfl,rfl,rfl⟩:=h3 rfl;refine gO T Tryz.func252 λC hC=>?_
  repeat' first|refine gG ?_|refine gB ?_ ?_<;>intro h|refine gR hT (nm [0]) ?_|refine gR (za5 hl _ hk) (nm [0]) ?_|refine gL ?_
  exact gE
 |false=>
  obtain⟨_,hS⟩:=(ih f (uF _)).stmts k hk _ _ _ (h2 rfl);refine gO T Tryz.func252 λC hC=>?_
  repeat' first|refine gG ?_|refine gB ?_ ?_<;>intro h|refine gR hT (nm [0]) ?_|refine gR hS (nm [0]) ?_|refine gL ?_
  exact gE
theorem zhq(f:Nat)(ih: ∀g,g<=f->SX l g)(i:Nat)(U:i<l.length):RJ l 150 [rdV] (λa=>pS (yl a)) i (stmtsJ l (f+1) i []):=by
 intro af jf bf hR;have hjf:=(zhn hl (f+1)).1 i [] U _ _ _ hR;refine⟨hjf,?_⟩;have hll:=hl.len;refine gO T Tryz.func150 λC hC=>?_
 repeat' first|refine gG ?_|refine gB ?_ ?_<;>intro h
 refine gA 101 5 [(3,.one (.ar 101))] [] ?_
 refine zn (λq:List Sm×Nat×Bool×Nat=>q.2.1<l.length/\q.2.2.2<=f+1/\q.1.length<=100001/\(q.2.2.1=false->q.1.length<=q.2.1/\stmtsJ l q.2.2.2 q.2.1 q.1=some (af,jf,bf))/\(q.2.2.1=true->af=q.1/\jf=q.2.1/\bf=true))
  (λq=>([(0,rdV),(3,.one (.ar 101))],[(0,some (rdR l q.2.1 q.2.2.1)),(101,some (Res.arr 5 (q.1.map zcV)))])) (λq=>if q.2.2.1 then 0 else q.2.2.2+1) hC
  ([],i,false,f+1) ⟨U,uF _,uz _,λ_=>⟨uz _,hR⟩,λh=>by cases h⟩ id gM ?_
 clear U hR;rintro⟨acc,k,b1,g⟩ ⟨hk,hgf,hlen,hg,hb⟩;simp only at hk hgf hlen hg hb;cases b1 with
 |true=>
  obtain⟨rfl,rfl,rfl⟩:=hb rfl
  repeat' first|refine gG ?_|exact gD|refine gB ?_ ?_<;>intro h|refine ze ?_|refine gR (yg hl _ hk _) (nm [0]) ?_|refine gL ?_
  refine gZ 101 [(2,pS (yl af))] [] ?_;exact gE
 |false=>
  obtain⟨hak,J⟩:=hg rfl;clear hg hb;cases g with
  |zero=>simp only[stmtsJ]at J;cases J
  |succ g=>
   simp only[stmtsJ]at J;have hal:(acc.map zcV).length=acc.length:=uk _;by_cases hs:isA l k ⟨#[125]⟩=true
   ·rw[uv hs]at J;cases J
    repeat' first|refine gG ?_|exact gD|refine gB ?_ ?_<;>intro h|refine gR (zjE hl hs) (nm [0]) ?_|refine ze ?_|refine gR (zaj hl hs) (nm [0]) ?_|refine gL ?_
    refine gZ 101 [(2,pS (yl af))] [] ?_;exact gE
   ·rw[uu hs]at J;obtain⟨y,k2,b2,h4,h5,h6⟩:=yy J;obtain⟨hk2,hE⟩:=(ih g ua).stmt k hk _ _ _ h4;have hal':(acc++[y]).length=acc.length+1:=by simp
    repeat' first|refine gG ?_|exact gD|refine gB ?_ ?_<;>intro h|refine gR (zcC hl hk hs) (nm [0]) ?_|refine gR hE (nm [0]) ?_|refine gH T [zcV y] ?_|(refine gY T 102 ((acc++[y]).map zcV) 96 ?_)
    exact zg (acc++[y],k2,b2,g) ⟨hk2,by simp only;omega,by simp only;omega,λe=>by subst e;exact⟨by have:=zm4 h4;simp only;omega,h5 rfl⟩,h6⟩ (mvP 101 102) (by cases b2<;>simp) ⟨rfl,⟨rfl,rfl,uh⟩,⟨rfl,rfl,uh⟩,rfl,λi U=>xL ua U⟩
set_option maxHeartbeats 2000000 in
theorem zjM(f:Nat)(ih: ∀g,g<=f->SX l g)(i:Nat)(hi:i<l.length):RJ l 211 [rdV] (λs=>zF (zcL s)) i (zbt l (f+1) i):=by
 intro xf jf bf J;have hjf:=(zhn hl (f+1)).2.2 i hi _ _ _ J;refine⟨hjf,?_⟩;have hll:=hl.len;have hS:=ih f (uF _);have hX:=zm2 hl f;simp only[zbt]at J;by_cases h1:isA l i (⟨#[105,102]⟩:UH)=true
 ·rw[uv h1]at J;have U:=zp hl h1;obtain⟨x,k,b,hx,hg,hb⟩:=yy J;obtain⟨hk,hE⟩:=y6 hl hX _ U _ _ _ hx;cases b with
  |true=>
   obtain⟨rfl,rfl,rfl⟩:=hb rfl;refine gO T Tryz.func211 λC hC=>?_
   repeat' first|refine gG ?_|refine gB ?_ ?_<;>intro h|refine gR (zN hl h1) (nm [0]) ?_|refine gR hE (nm [0]) ?_|refine gH T [z8 x] ?_|refine gR (zdu hl _ hk) (nm [0]) ?_|refine gR (xk hl _ hk _) (nm [0]) ?_|refine gL ?_
   exact zi ⟨.inl rfl,id,_,rfl,.agg (.cons (.refl _) (.cons (.refl _) (.cons (.refl _) (.cons (.refl _) (.cons (.nil 5) .nil))))),⟨rfl,uh⟩,rfl,rfl⟩
  |false=>
   obtain⟨a,k2,b2,ha,hg2,hb2⟩:=yy (hg rfl);obtain⟨hk2,hB⟩:=hS.block k hk _ _ _ ha;cases b2 with
   |true=>
    obtain⟨rfl,rfl,rfl⟩:=hb2 rfl;refine gO T Tryz.func211 λC hC=>?_
    repeat' first|refine gG ?_|refine gB ?_ ?_<;>intro h|refine gR (zN hl h1) (nm [0]) ?_|refine gR hE (nm [0]) ?_|refine gH T [z8 x] ?_|refine gR hB (nm [0]) ?_|refine gR (xk hl _ hk2 _) (nm [0]) ?_|refine gL ?_
    exact zi ⟨.inl rfl,id,_,rfl,.agg (.cons (.refl _) (.cons (.refl _) (.cons (.refl _) (.cons (.refl _) (.cons (.nil 5) .nil))))),⟨rfl,uh⟩,rfl,rfl⟩
   |false=>
    have hd:=hg2 rfl;by_cases hs:isA l k2 (⟨#[101,108,115,101]⟩:UH)=true
    ·rw[uv hs]at hd;obtain⟨c,hc,rfl⟩:=zbm hd;obtain⟨_,hB2⟩:=hS.block _ (zp hl hs) _ _ _ hc;refine gO T Tryz.func211 λC hC=>?_
     repeat' first|refine gG ?_|refine gB ?_ ?_<;>intro h|refine gR (zN hl h1) (nm [0]) ?_|refine gR hE (nm [0]) ?_|refine gH T [z8 x] ?_|refine gR hB (nm [0]) ?_|refine gR (zN hl hs) (nm [0]) ?_|refine gR hB2 (nm [0]) ?_|refine gL ?_
     exact zi ⟨.inl rfl,id,_,rfl,.agg (.cons (.refl _) (.cons (.refl _) (.cons (.refl _) (.cons (.refl _) (.cons (.refl _) .nil))))),⟨rfl,uh⟩,rfl,rfl⟩
    ·rw[uu hs]at hd;cases hd;refine gO T Tryz.func211 λC hC=>?_
     repeat' first|refine gG ?_|refine gB ?_ ?_<;>intro h|refine gR (zN hl h1) (nm [0]) ?_|refine gR hE (nm [0]) ?_|refine gH T [z8 x] ?_|refine gR hB (nm [0]) ?_|refine gR (zL hl hk2 hs) (nm [0]) ?_|refine gL ?_
     exact zi ⟨.inl rfl,id,_,rfl,.agg (.cons (.refl _) (.cons (.refl _) (.cons (.refl _) (.cons (.refl _) (.cons (.nil 5) .nil))))),⟨rfl,uh⟩,rfl,rfl⟩
 rw[uu h1]at J;by_cases h2:isA l i (⟨#[119,104,105,108,101]⟩:UH)=true
 ·rw[uv h2]at J;have U:=zp hl h2;obtain⟨x,k,b,hx,hg,hb⟩:=yy J;obtain⟨hk,hE⟩:=y6 hl hX _ U _ _ _ hx;cases b with
  |true=>
   obtain⟨rfl,rfl,rfl⟩:=hb rfl;refine gO T Tryz.func211 λC hC=>?_
   repeat' first|refine gG ?_|refine gB ?_ ?_<;>intro h|refine zu hC ((zL hl hi uf)) (nm [0]) rfl rfl (zH.refl _) rfl rfl rfl rfl rfl rfl rfl rfl ?_|refine gR (zN hl h2) (nm [0]) ?_|refine gR hE (nm [0]) ?_|refine gH T [z8 x] ?_|refine gR (zdu hl _ hk) (nm [0]) ?_|refine gL ?_
   exact zi ⟨.inl rfl,id,_,rfl,.agg (.cons (.refl _) (.cons (.refl _) (.cons (.refl _) (.cons (.refl _) (.cons (.nil 5) .nil))))),⟨rfl,uh⟩,rfl,rfl⟩
  |false=>
   obtain⟨a,ha,rfl⟩:=zbm (hg rfl);obtain⟨_,hB⟩:=hS.block k hk _ _ _ ha;refine gO T Tryz.func211 λC hC=>?_
   repeat' first|refine gG ?_|refine gB ?_ ?_<;>intro h|refine zu hC ((zL hl hi uf)) (nm [0]) rfl rfl (zH.refl _) rfl rfl rfl rfl rfl rfl rfl rfl ?_|refine gR (zN hl h2) (nm [0]) ?_|refine gR hE (nm [0]) ?_|refine gH T [z8 x] ?_|refine gR hB (nm [0]) ?_|refine gL ?_
   exact zi ⟨.inl rfl,id,_,rfl,.agg (.cons (.refl _) (.cons (.refl _) (.cons (.refl _) (.cons (.refl _) (.cons (.nil 5) .nil))))),⟨rfl,uh⟩,rfl,rfl⟩
 rw[uu h2]at J;by_cases h3:isA l i (⟨#[114,101,116,117,114,110]⟩:UH)=true
 ·rw[uv h3]at J;have U:=zp hl h3;by_cases hs:isA l (i+1) (⟨#[59]⟩:UH)=true
  ·rw[uv hs]at J;cases J;refine gO T Tryz.func211 λC hC=>?_
   repeat' first|refine gG ?_|exact gD|refine gB ?_ ?_<;>intro h|refine zu hC ((zL hl hi uf)) (nm [0]) rfl rfl (zH.refl _) rfl rfl rfl rfl rfl rfl rfl rfl ?_|refine gR (zN hl h3) (nm [0]) ?_|refine gR (zjE hl hs) (nm [0]) ?_|refine gR (zaj hl hs) (nm [0]) ?_|refine gL ?_
   exact zi ⟨.inl rfl,id,_,rfl,.agg (.cons (.refl _) (.cons (.refl _) (.cons (.nil 4) (.cons (.nil 5) (.cons (.nil 5) .nil))))),⟨rfl,uh⟩,rfl,rfl⟩
  ·rw[uu hs]at J;obtain⟨x,k,b,hx,hg,hb⟩:=yy J;obtain⟨hk,hE⟩:=y6 hl hX _ U _ _ _ hx;cases b with
   |true=>
    obtain⟨rfl,rfl,rfl⟩:=hb rfl;refine gO T Tryz.func211 λC hC=>?_
    repeat' first|refine gG ?_|exact gD|refine gB ?_ ?_<;>intro h|refine zu hC ((zL hl hi uf)) (nm [0]) rfl rfl (zH.refl _) rfl rfl rfl rfl rfl rfl rfl rfl ?_|refine gR (zN hl h3) (nm [0]) ?_|refine gR (zcC hl U hs) (nm [0]) ?_|refine gR hE (nm [0]) ?_|refine gH T [z8 x] ?_|refine gR (yg hl _ hk _) (nm [0]) ?_|refine gL ?_
    exact zi ⟨.inl rfl,id,_,rfl,.agg (.cons (.refl _) (.cons (.refl _) (.cons (.refl _) (.cons (.nil 5) (.cons (.nil 5) .nil))))),⟨rfl,uh⟩,rfl,rfl⟩
   |false=>
    obtain⟨u,k2,b2,h4,h5,h6⟩:=yy (hg rfl);obtain⟨_,hT⟩:=xJ hl _ hk _ _ _ _ h4
    have hfin:xf= .mk 5 (⟨#[]⟩:UH) [x] [] []/\jf=k2/\bf=b2:=by
     cases b2 with
     |false=>have e:=h5 rfl;cases e;exact⟨rfl,rfl,rfl⟩
     |true=>exact h6 rfl
    obtain⟨rfl,rfl,rfl⟩:=hfin;refine gO T Tryz.func211 λC hC=>?_
    repeat' first|refine gG ?_|exact gD|refine gB ?_ ?_<;>intro h|refine zu hC ((zL hl hi uf)) (nm [0]) rfl rfl (zH.refl _) rfl rfl rfl rfl rfl rfl rfl rfl ?_|refine gR (zN hl h3) (nm [0]) ?_|refine gR (zcC hl U hs) (nm [0]) ?_|refine gR hE (nm [0]) ?_|refine gH T [z8 x] ?_|refine gR hT (nm [0]) ?_|refine gL ?_
    exact zi ⟨.inl rfl,id,_,rfl,.agg (.cons (.refl _) (.cons (.refl _) (.cons (.refl _) (.cons (.nil 5) (.cons (.nil 5) .nil))))),⟨rfl,uh⟩,rfl,rfl⟩
 rw[uu h3]at J;exact zjL hl f i hi h1 h2 h3 J
theorem zuF: ∀f:Nat,SX l f:=by
 intro f
 induction f using Nat.strongRecOn with
 |_ f ih=>
  cases f with
  |zero=>exact⟨(λ_ _ _ _ _ h=>by simp only[stmtsJ]at h;cases h),(λ_ _ _ _ _ h=>by simp only[vD]at h;cases h),(λ_ _ _ _ _ h=>by simp only[zbt]at h;cases h)⟩
  |succ f=>
   have ih': ∀g,g<=f->SX l g:=λg hg=>ih g ua
   exact⟨λi J=>zhq hl f ih' i J,λi J=>zhp hl f ih' i J,λi J=>zjM hl f ih' i J⟩
end
variable {x:Fld}
theorem zdv{l:List Tok}(h:wo l i=some (x,j,false)):i<j:=by
 have:=zpF h;rw[zbN]at this;exact zmO this
abbrev F0:Fld:=⟨(⟨#[]⟩:UH),(⟨#[]⟩:UH)⟩
section
variable {l:List Tok} (hl:w6 l)
include hl
theorem zm5(sep fin:Str)(f i:Nat)(U:i<l.length):RJ l 102 [rdV,Sr sep,Sr fin,.one (.cl 103 [.bx 0 0] [])] (λa=>pS (zx a)) i (listJ l F0 sep fin (wo l) f i []):=by
 intro af jf bf hR;have hjf:=zm0 hl F0 sep fin (wo l) (λ_ h=> .field hl h) f i [] U _ _ _ hR;refine⟨hjf,?_⟩;have hll:=hl.len;refine gO T Tryz.func102 λC hC=>?_
 repeat' first|refine gG ?_|refine gB ?_ ?_<;>intro h
 refine gA 101 2 [(9,.one (.ar 101))] [] ?_
 refine zn (λq:List Fld×Nat×Bool×Nat=>q.2.1<l.length/\q.2.2.2<=f/\q.1.length<=100001/\(q.2.2.1=false->q.1.length<=q.2.1/\listJ l F0 sep fin (wo l) q.2.2.2 q.2.1 q.1=some (af,jf,bf))/\(q.2.2.1=true->af=q.1/\jf=q.2.1/\bf=true))
  (λq=>([(0,rdV),(1,Sr sep),(2,Sr fin),(3,.one (.cl 103 [.bx 0 0] [])),(9,.one (.ar 101))],[(0,some (rdR l q.2.1 q.2.2.1)),(101,some (Res.arr 2 (q.1.map zw)))])) (λq=>if q.2.2.1 then 0 else q.2.2.2+1) hC
  ([],i,false,f) ⟨U,uF _,uz _,λ_=>⟨uz _,hR⟩,λh=>by cases h⟩ id gM ?_
 clear U hR;rintro⟨acc,k,b1,g⟩ ⟨hk,hgf,hlen,hg,hb⟩;simp only at hk hgf hlen hg hb;cases b1 with
 |true=>
  obtain⟨rfl,rfl,rfl⟩:=hb rfl
  repeat' first|refine gG ?_|refine gB ?_ ?_<;>intro h|refine gR (yg hl _ hk _) (nm [0]) ?_|refine ze ?_|refine gL ?_
  refine gZ 101 [(8,pS (zx af))] [] ?_;exact gE
 |false=>
  obtain⟨hak,hd⟩:=hg rfl;clear hg hb;cases g with
  |zero=>simp only[listJ]at hd;cases hd
  |succ g=>
   simp only[listJ]at hd;have hal:(acc.map zw).length=acc.length:=uk _;by_cases hs:isA l k fin=true
   ·rw[uv hs]at hd;cases hd
    repeat' first|refine gG ?_|refine gB ?_ ?_<;>intro h|refine gR (zjE hl hs) (nm [0]) ?_|refine ze ?_|refine gR (zaj hl hs) (nm [0]) ?_|refine gL ?_
    refine gZ 101 [(8,pS (zx af))] [] ?_;exact gE
   ·rw[uu hs]at hd;obtain⟨u,k1,b1,h1,h2,h3⟩:=yy hd;rcases zqN hl h1 with⟨h0,rfl,rfl⟩|⟨h0,J,rfl,rfl⟩|⟨h0,J,rfl,rfl⟩
    ·obtain⟨y,k2,b2,h4,h5,h6⟩:=yy (h2 rfl);obtain⟨hk2,hE⟩:=zaO hl _ hk _ _ _ h4;have hal':(acc++[y]).length=acc.length+1:=by simp
     repeat' first|refine gG ?_|(exfalso;have h':=uj h;rw[hal]at h';omega)|refine gB ?_ ?_<;>intro h|refine gR (zcC hl hk hs) (nm [0]) ?_|refine gR hE (nm [0]) ?_|refine gH T [zw y] ?_|(refine gY T 102 ((acc++[y]).map zw) 32 ?_)
     exact zg (acc++[y],k2,b2,g) ⟨hk2,by simp only;omega,by simp only;omega,λe=>by subst e;exact⟨by have:=zdv h4;simp only;omega,h5 rfl⟩,h6⟩ (mvP 101 102) (by cases b2<;>simp) ⟨rfl,⟨rfl,rfl,rfl,rfl,rfl,uh⟩,⟨rfl,rfl,uh⟩,rfl,λi U=>xL ua U⟩
    ·obtain⟨y,k2,b2,h4,h5,h6⟩:=yy (h2 rfl);obtain⟨hk2,hE⟩:=zaO hl _ (zp hl J) _ _ _ h4;have hal':(acc++[y]).length=acc.length+1:=by simp
     repeat' first|refine gG ?_|(exfalso;have h':=um h;rw[hal]at h';omega)|refine gB ?_ ?_<;>intro h|refine gR (zcC hl hk hs) (nm [0]) ?_|refine gR (zaj hl J) (nm [0]) ?_|refine gR hE (nm [0]) ?_|refine gH T [zw y] ?_|(refine gY T 102 ((acc++[y]).map zw) 32 ?_)
     exact zg (acc++[y],k2,b2,g) ⟨hk2,by simp only;omega,by simp only;omega,λe=>by subst e;exact⟨by have:=zdv h4;simp only;omega,h5 rfl⟩,h6⟩ (mvP 101 102) (by cases b2<;>simp) ⟨rfl,⟨rfl,rfl,rfl,rfl,rfl,uh⟩,⟨rfl,rfl,uh⟩,rfl,λi U=>xL ua U⟩
    ·have h3:=h3 rfl;have hal':(acc++[F0]).length=acc.length+1:=by simp
     repeat' first|refine gG ?_|(exfalso;have h':=um h;rw[hal]at h';omega)|refine gB ?_ ?_<;>intro h|refine gR (zcC hl hk hs) (nm [0]) ?_|refine gR (zhj hl hk J) (nm [0]) ?_|refine gR (zdt hl _ hk) (nm [0]) ?_|refine gH T [zw F0] ?_|(refine gY T 102 ((acc++[F0]).map zw) 32 ?_)
     exact zg (acc++[F0],k1,true,g) ⟨hk,by simp only;omega,by simp only;omega,(λe=>by cases e),λ_=>h3⟩ (mvP 101 102) ue ⟨rfl,⟨rfl,rfl,rfl,rfl,rfl,uh⟩,⟨rfl,rfl,uh⟩,rfl,λi U=>xL ua U⟩
end
def tJ(b:Bool)(z:α)(k:Nat)(r:PJ α):PJ α:=match b with
 |true=>some (z,k,true)
 |false=>r
def RT(l:List Tok)(f:FuncId)(args:List S)(enc:α->S)(k:Nat)(b:Bool)(z:α)(r:PJ α):Prop:=
 ∀x j c,tJ b z k r=some (x,j,c)->j<l.length/\zh Tryz.prog f args [(0,rdR l k b)] (enc x) [(0,rdR l j c)]
theorem RT.of{l:List Tok}{f:FuncId}{args:List S}{enc:α->S}{k:Nat}{z:α}(hk:k<l.length)(h:RJ l f args enc k r)(J:zh Tryz.prog f args [(0,rdR l k true)] (enc z) [(0,rdR l k true)])(b:Bool):RT l f args enc k b z r:=by
 intro x j c e;cases b with
 |true=>cases e;exact⟨hk,J⟩
 |false=>exact h _ _ _ e
variable {c:Bool}
theorem tgo{β:Type}{w:β}{k:Nat}{f:α->Nat->PJ β}{g:α->β}{x:β}(h:tJ b w k (PJ.go r f g)=some (x,j,c))(z:α)(hw:w=g z):
 ∃y J U,tJ b z k r=some (y,J,U)/\tJ U (g y) J (f y J)=some (x,j,c):=by
 subst hw;cases b with
 |true=>exact⟨z,k,true,rfl,h⟩
 |false=>
  rcases r with _|⟨y,J,U⟩
  ·cases h
  ·refine⟨y,J,U,rfl,?_⟩;cases U with
   |true=>exact h
   |false=>exact h
theorem zjN{v x:α}{k:Nat}(h:tJ b v k (PJ.ok v k)=some (x,j,c)):x=v/\j=k/\c=b:=by
 cases b<;>(cases h;exact⟨rfl,rfl,rfl⟩)
section
variable {l:List Tok} (hl:w6 l)
include hl
theorem zuG(J:i<l.length)(s:Str):RJ l 63 [rdV,Sr s] (λ_=> .tup []) i (vX l s i):=λ_ _ _ e=>xJ hl i J _ _ _ _ e
theorem vl(J:i<l.length)(b:Bool)(s:Str):RT l 63 [rdV,Sr s] (λ_=> .tup []) i b () (vX l s i):= .of J (zuG hl J s) (yg hl i J s) b
theorem vY(J:i<l.length)(b:Bool):RT l 64 [rdV] Sr i b (⟨#[]⟩:UH) (nameJ l i):= .of J (λx j b e=>xK hl i J x j b e) (zcD hl i J) b
theorem zuH(J:i<l.length)(b:Bool):RT l 151 [rdV] (λn=>I n) i b 0 (zmQ l i):= .of J (λx j b e=>zhk hl i J x j b e) (zpD hl i J) b
theorem zuI(J:i<l.length)(b:Bool):RT l 149 [rdV] Sr i b (⟨#[]⟩:UH) (zhg l i):= .of J (zhl hl i J) (zew hl i J) b
theorem zey(J:i<l.length)(b:Bool):RT l 103 [rdV] (λf=>zF (zw f)) i b F0 (wo l i):= .of J (zaO hl i J) (zdt hl i J) b
theorem ziM(J:i<l.length)(b:Bool)(sep fin:Str)(f:Nat):RT l 102 [rdV,Sr sep,Sr fin,.one (.cl 103 [.bx 0 0] [])] (λa=>pS (zx a)) i b [] (listJ l F0 sep fin (wo l) f i []):= .of J (zm5 hl sep fin f i J) (zjG hl i J sep fin) b
theorem zpH(J:i<l.length)(b:Bool)(f:Nat):RT l 150 [rdV] (λa=>pS (yl a)) i b [] (stmtsJ l f i []):= .of J ((zuF hl f).stmts i J) (za5 hl i J) b
theorem zpI(J:i<l.length)(b:Bool)(f:Nat):RT l 152 [rdV] enE i b E0 (exprJ l f 0 i):= .of J (y6 hl (zm2 hl f) i J) (wR hl i J) b
def isB(l:List Tok)(b:Bool)(i:Nat)(s:Str):Bool:= !b&&isA l i s
theorem zvW(J:i<l.length)(b:Bool)(s:Str):zh Tryz.prog 107 [rdV,Sr s] [(0,rdR l i b)] (Bo (isB l b i s)) [(0,rdR l i b)]:=by
 cases b with
 |true=>exact zhi hl i J s
 |false=>exact zsP (ziK hl i J s) (.bq (by simp[isB]))
theorem zez(J:i<l.length)(b:Bool)(s:Str):zh Tryz.prog 101 [rdV,Sr s] [(0,rdR l i b)] (Bo (isB l b i s)) [(0,rdR l (if isB l b i s=true then i+1 else i) b)]:=by
 cases b with
 |true=>exact xk hl i J s
 |false=>
  by_cases h:isA l i s=true
  ·have e:isB l false i s=true:=by simp[isB,h]
   rw[e,uv rfl];exact zN hl h
  ·have e:isB l false i s=false:=by simpa [isB]using h
   rw[e,uu ue];exact zL hl J h
theorem zhr(f i:Nat)(hi:i<l.length):RJ l 106 [rdV] enE i (wO l f i):=by
 intro xf jf bf J;obtain⟨_,k1,b1,e1,J⟩:=tgo (b:=false) (w:=E0) (k:=i) J () rfl;obtain⟨U,h1⟩:=vl hl hi false _ _ _ _ e1;obtain⟨hk2,h2⟩:=zpI hl U b1 f _ _ _ J;refine⟨hk2,?_⟩;refine gO T Tryz.func106 λC hC=>?_
 repeat' first|refine gG ?_|refine gB ?_ ?_<;>intro h|refine gR h1 (nm [0]) ?_|refine gR h2 (nm [0]) ?_|refine gL ?_
 exact gE
theorem wS(J:i<l.length)(b:Bool)(f:Nat):RT l 106 [rdV] enE i b E0 (wO l f i):= .of J (zhr hl f i J) (zfZ hl i J) b
end
theorem zm6{l:List Tok}{s:Str}(h:vX l s i=some (u,j,b)):i<=j:=by
 unfold vX at h;split at h
 ·cases h;omega
 ·cases h;exact uF _
theorem ziN{l:List Tok}{s:Str}(h:nameJ l i=some (s,j,b)):i<=j:=by
 unfold nameJ at h
 repeat' (split at h)
 all_goals (cases h;omega)
theorem zsR{l:List Tok}{s:Str}(h:zhg l i=some (s,j,b)):i<=j:=by
 unfold zhg at h;split at h
 ·cases h;omega
 ·split at h
  ·cases h;omega
  ·exact ziN h
theorem zm7{z x:α}{k:Nat}(h:tJ b z k r=some (x,j,c))(J:r=some (x,j,c)->k<=j):k<=j:=by
 cases b with
 |true=>cases h;exact uF _
 |false=>exact J h
theorem zf1{l:List Tok}(h:wo l i=some (x,j,b)):i<=j:=by
 obtain⟨n,k,b1,J,h⟩:=tgo (b:=false) (w:=F0) (k:=i) h (⟨#[]⟩:UH) rfl;obtain⟨t,k2,b2,U,h⟩:=tgo h (⟨#[]⟩:UH) rfl;obtain⟨_,rfl,_⟩:=zjN h;exact tZ (ziN J) (zm7 U zsR)
section
variable {l:List Tok} (hl:w6 l)
include hl
set_option maxHeartbeats 1000000 in
theorem zpJ(f i:Nat)(hi:i<l.length):RJ l 104 [rdV] (λp=>zF (zZ p)) i (zpB l f i):=by
 intro xf jf bf hR;have hll:=hl.len;obtain⟨n,k1,b1,e1,hR⟩:=tgo (b:=false) (w:=⟨(⟨#[]⟩:UH),[],(⟨#[]⟩:UH),[],[]⟩) (k:=i) hR (⟨#[]⟩:UH) rfl;obtain⟨hk1,h1⟩:=vY hl hi false _ _ _ e1;obtain⟨_,k2,b2,e2,hR⟩:=tgo hR () rfl;obtain⟨hk2,h2⟩:=vl hl hk1 b1 _ _ _ _ e2;obtain⟨ps,k3,b3,e3,hR⟩:=tgo hR [] rfl;obtain⟨hk3,h3⟩:=ziM hl hk2 b2 _ _ f _ _ _ e3;obtain⟨r,k4,b4,e4,hR⟩:=tgo hR (⟨#[]⟩:UH) rfl;obtain⟨_,k5,b5,e5,hR⟩:=tgo hR () rfl;obtain⟨ls,k6,b6,e6,hR⟩:=tgo hR [] rfl;obtain⟨bd,k7,b7,e7,hR⟩:=tgo hR [] rfl;obtain⟨rfl,rfl,rfl⟩:=zjN hR;clear hR
 have hk6:k6<l.length:=by
  have hk4:k4<l.length:=by
   cases b3 with
   |true=>cases e4;exact hk3
   |false=>
    simp only[tJ]at e4;split at e4
    ·cases e4;exact hk3
    ·exact(RG.typ hl hk3) _ _ _ e4
  have hk5:k5<l.length:=(vl hl hk4 b4 _ _ _ _ e5).1;cases b5 with
  |true=>cases e6;exact hk5
  |false=>exact zm1 hl f _ _ hk5 _ _ _ e6
 obtain⟨hk7,h7⟩:=zpH hl hk6 b6 f _ _ _ e7;refine⟨hk7,?_⟩;have hI:=zvW hl hk3 b3 ⟨#[123]⟩;by_cases hc:isB l b3 k3 ⟨#[123]⟩=true
 ·rw[hc]at hI;have hb3:b3=false/\isA l k3 ⟨#[123]⟩=true:=by unfold isB at hc;simpa using hc
  obtain⟨rfl,hs⟩:=hb3;simp only[tJ]at e4;rw[uv hs]at e4;cases e4;obtain⟨hk5,h5⟩:=vl hl hk3 false _ _ _ _ e5;refine gO T Tryz.func104 λC hC=>?_
  repeat' first|refine gG ?_|exact gD|refine gB ?_ ?_<;>intro h|refine gR h1 (nm [0]) ?_|refine gR h2 (nm [0]) ?_|refine znZ hC rfl rfl rfl rfl rfl rfl ?_|refine gR h3 (nm [0]) ?_|refine gR hI (nm [0]) ?_|refine gR h5 (nm [0]) ?_
  refine gA 101 2 [] [(1003,[.p (ks n),.p (zx ps),.p (ks (⟨#[]⟩:UH)),.ar 101,.p (.k (.slice none 0 0))])] ?_
  refine zn (λq:List Fld×Nat×Bool×Nat=>q.2.1<l.length/\q.1.length<=q.2.1/\tJ q.2.2.1 q.1 q.2.1 (locsJ l q.2.2.2 q.2.1 q.1)=some (ls,k6,b6))
   (λq=>([(0,rdV),(2,.one (.bx 1002 0)),(3,.one (.bx 1003 0))],[(0,some (rdR l q.2.1 q.2.2.1)),(1002,some (Res.box (zV [ZK.str,ZK.slice,ZK.str,ZK.slice,ZK.slice]))),(1003,some (Res.box [.p (ks n),.p (zx ps),.p (ks (⟨#[]⟩:UH)),.ar 101,.p (.k (.slice none 0 0))])),(101,some (Res.arr 2 (q.1.map zw)))])) (λq=>q.2.2.2) hC
   ([],k5,b5,f) ⟨hk5,uz _,e6⟩ id gM ?_
  clear e1 e2 e3 e5 e6 h1 h2 h3 h5 hI hk5;rintro⟨acc,k,b,g⟩ ⟨hk,hak,J⟩;simp only at hk hak J;have hal:(acc.map zw).length=acc.length:=uk _;by_cases U:isB l b k (⟨#[108,111,99,97,108]⟩:UH)=true
  ·have hb:b=false/\isA l k (⟨#[108,111,99,97,108]⟩:UH)=true:=by unfold isB at U;simpa using U
   obtain⟨rfl,hs⟩:=hb;cases g with
   |zero=>simp only[tJ,locsJ]at J;cases J
   |succ g=>
    simp only[tJ,locsJ]at J;rw[uv hs]at J;obtain⟨x,j2,c2,a1,J⟩:=tgo (b:=false) (w:=acc++[F0]) (k:=k+1) J F0 rfl;obtain⟨hj2,hF⟩:=zey hl (zp hl hs) false _ _ _ a1;obtain⟨_,j3,c3,a2,J⟩:=tgo J () rfl;obtain⟨hj3,hT⟩:=vl hl hj2 c2 _ _ _ _ a2;have m1:k+1<=j2:=zm7 a1 zf1;have m2:j2<=j3:=zm7 a2 zm6;have hal':(acc++[x]).length=acc.length+1:=by simp
    repeat' first|refine gG ?_|exact gD|refine gB ?_ ?_<;>intro h|refine gR (zN hl hs) (nm [0]) ?_|refine gR hF (nm [0]) ?_|refine gH T [zw x] ?_|(refine gY T 102 ((acc++[x]).map zw) 32 ?_)|refine gR hT (nm [0]) ?_
    exact zg (acc++[x],j3,c3,g) ⟨hj3,by simp only;omega,J⟩ (mvP 101 102) (qJ _) ⟨rfl,⟨rfl,rfl,rfl,uh⟩,⟨rfl,rfl,rfl,rfl,uh⟩,rfl,λi hi=>xL ua hi⟩
  ·have hS:=zez hl hk b (⟨#[108,111,99,97,108]⟩:UH);rw[uu U]at hS;rw[qL]at U;rw[U]at hS
   have hfin:ls=acc/\k6=k/\b6=b:=by
    cases b with
    |true=>cases J;exact⟨rfl,rfl,rfl⟩
    |false=>
     have hs: ¬isA l k (⟨#[108,111,99,97,108]⟩:UH)=true:=by unfold isB at U;simpa using U
     cases g with
     |zero=>simp only[tJ,locsJ]at J;cases J
     |succ g=>simp only[tJ,locsJ]at J;rw[uu hs]at J;cases J;exact⟨rfl,rfl,rfl⟩
   obtain⟨rfl,rfl,rfl⟩:=hfin
   repeat' first|refine gG ?_|exact gD|refine gB ?_ ?_<;>intro h|refine gR hS (nm [0]) ?_|refine ze ?_
   refine gZ 101 [] [(1003,[.p (ks n),.p (zx ps),.p (ks (⟨#[]⟩:UH)),.p (zx ls),.p (.k (.slice none 0 0))])] ?_
   repeat' first|refine gG ?_|refine gB ?_ ?_<;>intro h|refine gR h7 (nm [0]) ?_|refine gL ?_
   exact gE
 ·rw[qL]at hc;rw[hc]at hI
  have e4':tJ b3 (⟨#[]⟩:UH) k3 (zhg l k3)=some (r,k4,b4):=by
   cases b3 with
   |true=>exact e4
   |false=>
    have hs: ¬isA l k3 ⟨#[123]⟩=true:=by unfold isB at hc;simpa using hc
    simp only[tJ]at e4⊢;rw[uu hs]at e4;exact e4
  obtain⟨hk4,h4⟩:=zuI hl hk3 b3 _ _ _ e4';obtain⟨hk5,h5⟩:=vl hl hk4 b4 _ _ _ _ e5;refine gO T Tryz.func104 λC hC=>?_
  repeat' first|refine gG ?_|exact gD|refine gB ?_ ?_<;>intro h|refine gR h1 (nm [0]) ?_|refine gR h2 (nm [0]) ?_|refine znZ hC rfl rfl rfl rfl rfl rfl ?_|refine gR h3 (nm [0]) ?_|refine gR hI (nm [0]) ?_|refine gR h4 (nm [0]) ?_|refine gR h5 (nm [0]) ?_
  refine gA 101 2 [] [(1003,[.p (ks n),.p (zx ps),.p (ks r),.ar 101,.p (.k (.slice none 0 0))])] ?_
  refine zn (λq:List Fld×Nat×Bool×Nat=>q.2.1<l.length/\q.1.length<=q.2.1/\tJ q.2.2.1 q.1 q.2.1 (locsJ l q.2.2.2 q.2.1 q.1)=some (ls,k6,b6))
   (λq=>([(0,rdV),(2,.one (.bx 1002 0)),(3,.one (.bx 1003 0))],[(0,some (rdR l q.2.1 q.2.2.1)),(1002,some (Res.box (zV [ZK.str,ZK.slice,ZK.str,ZK.slice,ZK.slice]))),(1003,some (Res.box [.p (ks n),.p (zx ps),.p (ks r),.ar 101,.p (.k (.slice none 0 0))])),(101,some (Res.arr 2 (q.1.map zw)))])) (λq=>q.2.2.2) hC
   ([],k5,b5,f) ⟨hk5,uz _,e6⟩ id gM ?_
  clear e1 e2 e3 e5 e6 h1 h2 h3 h5 hI hk5;rintro⟨acc,k,b,g⟩ ⟨hk,hak,J⟩;simp only at hk hak J;have hal:(acc.map zw).length=acc.length:=uk _;by_cases U:isB l b k (⟨#[108,111,99,97,108]⟩:UH)=true
  ·have hb:b=false/\isA l k (⟨#[108,111,99,97,108]⟩:UH)=true:=by unfold isB at U;simpa using U
   obtain⟨rfl,hs⟩:=hb;cases g with
   |zero=>simp only[tJ,locsJ]at J;cases J
   |succ g=>
    simp only[tJ,locsJ]at J;rw[uv hs]at J;obtain⟨x,j2,c2,a1,J⟩:=tgo (b:=false) (w:=acc++[F0]) (k:=k+1) J F0 rfl;obtain⟨hj2,hF⟩:=zey hl (zp hl hs) false _ _ _ a1;obtain⟨_,j3,c3,a2,J⟩:=tgo J () rfl;obtain⟨hj3,hT⟩:=vl hl hj2 c2 _ _ _ _ a2;have m1:k+1<=j2:=zm7 a1 zf1;have m2:j2<=j3:=zm7 a2 zm6;have hal':(acc++[x]).length=acc.length+1:=by simp
    repeat' first|refine gG ?_|exact gD|refine gB ?_ ?_<;>intro h|refine gR (zN hl hs) (nm [0]) ?_|refine gR hF (nm [0]) ?_|refine gH T [zw x] ?_|(refine gY T 102 ((acc++[x]).map zw) 32 ?_)|refine gR hT (nm [0]) ?_
    exact zg (acc++[x],j3,c3,g) ⟨hj3,by simp only;omega,J⟩ (mvP 101 102) (qJ _) ⟨rfl,⟨rfl,rfl,rfl,uh⟩,⟨rfl,rfl,rfl,rfl,uh⟩,rfl,λi hi=>xL ua hi⟩
  ·have hS:=zez hl hk b (⟨#[108,111,99,97,108]⟩:UH);rw[uu U]at hS;rw[qL]at U;rw[U]at hS
   have hfin:ls=acc/\k6=k/\b6=b:=by
    cases b with
    |true=>cases J;exact⟨rfl,rfl,rfl⟩
    |false=>
     have hs: ¬isA l k (⟨#[108,111,99,97,108]⟩:UH)=true:=by unfold isB at U;simpa using U
     cases g with
     |zero=>simp only[tJ,locsJ]at J;cases J
     |succ g=>simp only[tJ,locsJ]at J;rw[uu hs]at J;cases J;exact⟨rfl,rfl,rfl⟩
   obtain⟨rfl,rfl,rfl⟩:=hfin
   repeat' first|refine gG ?_|exact gD|refine gB ?_ ?_<;>intro h|refine gR hS (nm [0]) ?_|refine ze ?_
   refine gZ 101 [] [(1003,[.p (ks n),.p (zx ps),.p (ks r),.p (zx ls),.p (.k (.slice none 0 0))])] ?_
   repeat' first|refine gG ?_|refine gB ?_ ?_<;>intro h|refine gR h7 (nm [0]) ?_|refine gL ?_
   exact gE
include hl
theorem zpK{z:Int}(h:zmQ l i=some (z,j,b)):0<=z/\z<=1099511627776/\(b=true->z=0):=by
 unfold zmQ at h;split at h
 ·rename_i t J;split at h
  ·cases h;have:=hl.num t (List.mem_of_getElem? J);exact⟨this.1,this.2,λh=>by cases h⟩
  ·cases h;exact⟨qw _,ub,λ_=>rfl⟩
 ·cases h;exact⟨qw _,ub,λ_=>rfl⟩
theorem zhs(f i:Nat)(hi:i<l.length):RJ l 105 [rdV] (λm=>zF (yq m)) i (zbM l f i):=by
 intro xf jf bf J;have hll:=hl.len;obtain⟨n,k1,b1,e1,J⟩:=tgo (b:=false) (w:=⟨(⟨#[]⟩:UH),(⟨#[]⟩:UH),0,E0⟩) (k:=i) J (⟨#[]⟩:UH) rfl;obtain⟨hk1,h1⟩:=vY hl hi false _ _ _ e1;obtain⟨_,k2,b2,e2,J⟩:=tgo J () rfl;obtain⟨hk2,h2⟩:=vl hl hk1 b1 _ _ _ _ e2;obtain⟨t,k3,b3,e3,J⟩:=tgo J (⟨#[]⟩:UH) rfl;obtain⟨hk3,h3⟩:=vY hl hk2 b2 _ _ _ e3;obtain⟨_,k4,b4,e4,J⟩:=tgo J () rfl;obtain⟨hk4,h4⟩:=vl hl hk3 b3 _ _ _ _ e4;obtain⟨_,U,b5,e5,J⟩:=tgo J () rfl;obtain⟨hk5,h5⟩:=vl hl hk4 b4 _ _ _ _ e5;obtain⟨z,k6,b6,e6,J⟩:=tgo J 0 rfl;have hS:=zez hl hk5 b5 (⟨#[45]⟩:UH);generalize hc:isB l b5 U (⟨#[45]⟩:UH)=c at hS
 have hk5':(if c=true then U+1 else U)<l.length:=by
  split
  ·rename_i h;rw[h]at hc;unfold isB at hc;simp only[uo]at hc;exact zp hl hc.2
  ·exact hk5
 have e6':tJ b5 0 (if c=true then U+1 else U) (zmQ l (if c=true then U+1 else U))=some (z,k6,b6):=by
  cases b5 with
  |true=>
   have:c=false:=by rw[<-hc];rfl
   subst this;exact e6
  |false=>
   have:c=isA l U (⟨#[45]⟩:UH):=by rw[<-hc];simp[isB]
   subst this;exact e6
 obtain⟨hk6,h6⟩:=zuH hl hk5' b5 _ _ _ e6'
 have hz:0<=z/\z<=1099511627776/\(b6=true->z=0):=by
  cases b5 with
  |true=>cases e6';exact⟨qw _,ub,λ_=>rfl⟩
  |false=>exact zpK hl e6'
 obtain⟨z0,z1,zb⟩:=hz
 have hR':tJ b6 ⟨n,t,if isA l U (⟨#[45]⟩:UH)=true then -z else z,E0⟩ k6 (PJ.go (wO l f k6) (λx j=> .ok ⟨n,t,if isA l U (⟨#[45]⟩:UH)=true then -z else z,x⟩ j) (λx=>⟨n,t,if isA l U (⟨#[45]⟩:UH)=true then -z else z,x⟩))=some (xf,jf,bf):=by
  cases b6 with
  |true=>
   have:(if isA l U (⟨#[45]⟩:UH)=true then -z else z)=0:=by rw[zb rfl];split<;>rfl
   rw[this];exact J
  |false=>exact J
 clear J;obtain⟨x,k7,b7,e7,J⟩:=tgo hR' E0 rfl;obtain⟨hk7,h7⟩:=wS hl hk6 b6 f _ _ _ e7;obtain⟨rfl,rfl,rfl⟩:=zjN J;refine⟨hk7,?_⟩;clear J hR' e1 e2 e3 e4 e5 e6 e7
 have hv:(if isA l U (⟨#[45]⟩:UH)=true then -z else z)=if c=true then -z else z:=by
  cases b5 with
  |true=>
   cases e6';split<;>split<;>rfl
  |false=>
   have:c=isA l U (⟨#[45]⟩:UH):=by rw[<-hc];simp[isB]
   rw[this]
 rw[hv];cases c with
 |true=>
  simp only[uZ]at hS h6⊢;refine gO T Tryz.func105 λC hC=>?_
  repeat' first|refine gG ?_|exact gD|refine gB ?_ ?_<;>intro h|refine gR h1 (nm [0]) ?_|refine gR h2 (nm [0]) ?_|refine gR h3 (nm [0]) ?_|refine gR h4 (nm [0]) ?_|refine gR h5 (nm [0]) ?_|refine gR hS (nm [0]) ?_|refine gR h6 (nm [0]) ?_|refine gR h7 (nm [0]) ?_|refine gL ?_
  rw[show IntKind.i64.wrap (-1*z)= -z by rw[wrap64 ua];omega];exact gE
 |false=>
  simp only[uy,uL]at hS h6⊢;refine gO T Tryz.func105 λC hC=>?_
  repeat' first|refine gG ?_|exact gD|refine gB ?_ ?_<;>intro h|refine gR h1 (nm [0]) ?_|refine gR h2 (nm [0]) ?_|refine gR h3 (nm [0]) ?_|refine gR h4 (nm [0]) ?_|refine gR h5 (nm [0]) ?_|refine gR hS (nm [0]) ?_|refine gR h6 (nm [0]) ?_|refine gR h7 (nm [0]) ?_|refine gL ?_
  rw[show IntKind.i64.wrap (1*z)=z by rw[wrap64 ua];omega];exact gE
end
def dR(a:Nat)(d:zj):RL:=[(1,.box [.p (ks d.n),.ar a,.ar (a+1),.ar (a+2),.ar (a+3),.ar (a+4),.ar (a+5),.ar (a+6)]),(a,.arr 2 (d.types.map zS)),(a+1,.arr 2 (d.globals.map zw)),(a+2,.arr 5 (d.procs.map zZ)),(a+3,.arr 7 (d.measures.map yq)),(a+4,.arr 6 (d.invs.map zgH)),(a+5,.arr 5 (d.pots.map zc5)),(a+6,.arr 5 (d.bounds.map xC))]
def ziO(d:zj):Nat:=d.types.length+d.globals.length+d.procs.length+d.measures.length+d.invs.length+d.pots.length+d.bounds.length
def kwI(l:List Tok)(i:Nat):Bool:=isA l i (⟨#[116,121,112,101]⟩:UH)||isA l i (⟨#[118,97,114]⟩:UH)||isA l i (⟨#[112,114,111,99]⟩:UH)||isA l i (⟨#[109,101,97,115,117,114,101]⟩:UH)||isA l i (⟨#[105,110,118,97,114,105,97,110,116]⟩:UH)||isA l i (⟨#[112,111,116,101,110,116,105,97,108]⟩:UH)||isA l i (⟨#[98,111,117,110,100]⟩:UH)
section
variable {l:List Tok} (hl:w6 l)
include hl
theorem zpL(f i:Nat)(d:zj)(J:i<l.length)(hk:kwI l i=false):zh Tryz.prog 65 [rdV,.one (.bx 1 0)] ((0,rdR l i false)::dR 2 d) (Bo false) ((0,rdR l i false)::dR 2 d):=by
 unfold kwI at hk;simp only[uW]at hk;obtain⟨⟨⟨⟨⟨⟨U,h2⟩,h3⟩,h4⟩,h5⟩,h6⟩,h7⟩:=hk;rw[<-qL]at U h2 h3 h4 h5 h6 h7;refine gO T Tryz.func65 λC hC=>?_
 repeat' first|refine gG ?_|exact gD|refine gB ?_ ?_<;>intro h|refine zu hC ((zL hl J uf)) (nm [0]) rfl rfl (zH.refl _) rfl rfl rfl rfl rfl rfl rfl rfl ?_|refine gL ?_
 exact gE
set_option maxHeartbeats 8000000 in
theorem zpM(f i:Nat)(d:zj)(hi:i<l.length)(hd:ziO d<=2000000){xf:zj}(J:zhh l f i d=some (xf,jf,bf))(hk:kwI l i=true):jf<l.length/\ziO xf<=ziO d+1/\zh Tryz.prog 65 [rdV,.one (.bx 1 0)] ((0,rdR l i false)::dR 2 d) (Bo true) ((0,rdR l jf bf)::dR 9 xf):=by
 unfold ziO at hd;simp only[zhh]at J;by_cases h1:isA l i (⟨#[116,121,112,101]⟩:UH)=true
 ·have hi1:=zp hl h1;rw[uv h1]at J;obtain⟨n,k1,b1,e1,J⟩:=tgo (b:=false) (w:={ d with types:=d.types++[⟨(⟨#[]⟩:UH),[]⟩] }) (k:=i+1) J (⟨#[]⟩:UH) rfl;obtain⟨hk1,c1⟩:=vY hl hi1 false _ _ _ e1;obtain⟨_,k2,b2,e2,J⟩:=tgo J () rfl;obtain⟨hk2,c2⟩:=vl hl hk1 b1 _ _ _ _ e2;obtain⟨fs,k3,b3,e3,J⟩:=tgo J [] rfl;obtain⟨U,c3⟩:=ziM hl hk2 b2 _ _ f _ _ _ e3;obtain⟨rfl,rfl,rfl⟩:=zjN J;refine⟨U,by simp only[ziO,uC,uD];omega,?_⟩;clear J;refine gO T Tryz.func65 λC hC=>?_
  repeat' first|refine gG ?_|exact gD|refine gB ?_ ?_<;>intro h|refine zu hC ((zL hl hi uf)) (nm [0]) rfl rfl (zH.refl _) rfl rfl rfl rfl rfl rfl rfl rfl ?_|refine gR (zN hl h1) (nm [0]) ?_|refine gR c1 (nm [0]) ?_|refine gR c2 (nm [0]) ?_|refine znZ hC rfl rfl rfl rfl rfl rfl ?_|refine gR c3 (nm [0]) ?_|refine gH T [zS (⟨n,fs⟩:yn)] ?_|(refine gY T 102 ((d.types++[(⟨n,fs⟩:yn)]).map zS) 40 ?_)|refine gL ?_
  exact gW [0,1,2,3,4,5,6,7,8,102,3,4,5,6,7,8]
 rw[uu h1]at J;by_cases h2:isA l i (⟨#[118,97,114]⟩:UH)=true
 ·have hi1:=zp hl h2;rw[uv h2]at J;obtain⟨x,k1,b1,e1,J⟩:=tgo (b:=false) (w:={ d with globals:=d.globals++[F0] }) (k:=i+1) J F0 rfl;obtain⟨U,c1⟩:=zey hl hi1 false _ _ _ e1;obtain⟨rfl,rfl,rfl⟩:=zjN J;refine⟨U,by simp only[ziO,uC,uD];omega,?_⟩;clear J;refine gO T Tryz.func65 λC hC=>?_
  repeat' first|refine gG ?_|exact gD|refine gB ?_ ?_<;>intro h|refine zu hC ((zL hl hi uf)) (nm [0]) rfl rfl (zH.refl _) rfl rfl rfl rfl rfl rfl rfl rfl ?_|refine gR (zN hl h2) (nm [0]) ?_|refine gR c1 (nm [0]) ?_|refine gH T [zw x] ?_|(refine gY T 102 ((d.globals++[x]).map zw) 32 ?_)|refine gL ?_
  exact gW [0,1,2,3,4,5,6,7,8,2,102,4,5,6,7,8]
 rw[uu h2]at J;by_cases h3:isA l i (⟨#[112,114,111,99]⟩:UH)=true
 ·have hi1:=zp hl h3;rw[uv h3]at J;obtain⟨x,k1,b1,e1,J⟩:=tgo (b:=false) (w:={ d with procs:=d.procs++[⟨(⟨#[]⟩:UH),[],(⟨#[]⟩:UH),[],[]⟩] }) (k:=i+1) J ⟨(⟨#[]⟩:UH),[],(⟨#[]⟩:UH),[],[]⟩ rfl;obtain⟨U,c1⟩:=zpJ hl f _ hi1 _ _ _ e1;obtain⟨rfl,rfl,rfl⟩:=zjN J;refine⟨U,by simp only[ziO,uC,uD];omega,?_⟩;clear J;refine gO T Tryz.func65 λC hC=>?_
  repeat' first|refine gG ?_|exact gD|refine gB ?_ ?_<;>intro h|refine zu hC ((zL hl hi uf)) (nm [0]) rfl rfl (zH.refl _) rfl rfl rfl rfl rfl rfl rfl rfl ?_|refine gR (zN hl h3) (nm [0]) ?_|refine gR c1 (nm [0]) ?_|refine gH T [zZ x] ?_|(refine gY T 102 ((d.procs++[x]).map zZ) 104 ?_)|refine gL ?_
  exact gW [0,1,2,3,4,5,6,7,8,2,3,102,5,6,7,8]
 rw[uu h3]at J;by_cases h4:isA l i (⟨#[109,101,97,115,117,114,101]⟩:UH)=true
 ·have hi1:=zp hl h4;rw[uv h4]at J;obtain⟨x,k1,b1,e1,J⟩:=tgo (b:=false) (w:={ d with measures:=d.measures++[⟨(⟨#[]⟩:UH),(⟨#[]⟩:UH),0,E0⟩] }) (k:=i+1) J ⟨(⟨#[]⟩:UH),(⟨#[]⟩:UH),0,E0⟩ rfl;obtain⟨U,c1⟩:=zhs hl f _ hi1 _ _ _ e1;obtain⟨rfl,rfl,rfl⟩:=zjN J;refine⟨U,by simp only[ziO,uC,uD];omega,?_⟩;clear J;refine gO T Tryz.func65 λC hC=>?_
  repeat' first|refine gG ?_|exact gD|refine gB ?_ ?_<;>intro h|refine zu hC ((zL hl hi uf)) (nm [0]) rfl rfl (zH.refl _) rfl rfl rfl rfl rfl rfl rfl rfl ?_|refine gR (zN hl h4) (nm [0]) ?_|refine gR c1 (nm [0]) ?_|refine gH T [yq x] ?_|(refine gY T 102 ((d.measures++[x]).map yq) 96 ?_)|refine gL ?_
  exact gW [0,1,2,3,4,5,6,7,8,2,3,4,102,6,7,8]
 rw[uu h4]at J;by_cases h5:isA l i (⟨#[105,110,118,97,114,105,97,110,116]⟩:UH)=true
 ·have hi1:=zp hl h5;rw[uv h5]at J;obtain⟨n,k1,b1,e1,hR1⟩:=tgo (b:=false) (w:={ d with invs:=d.invs++[⟨(⟨#[]⟩:UH),(⟨#[]⟩:UH),E0⟩] }) (k:=i+1) J (⟨#[]⟩:UH) rfl;obtain⟨hk1,c1⟩:=vY hl hi1 false _ _ _ e1;obtain⟨t,k2,b2,e2,hR2⟩:=tgo hR1 (⟨#[]⟩:UH) rfl;clear J hR1;have hS:=zez hl hk1 b1 (⟨#[40]⟩:UH);by_cases hq:isB l b1 k1 (⟨#[40]⟩:UH)=true
  ·rw[hq]at hS;have hb:b1=false/\isA l k1 (⟨#[40]⟩:UH)=true:=by unfold isB at hq;simpa using hq
   obtain⟨rfl,hp⟩:=hb;simp only[tJ]at e2;rw[uv hp]at e2;obtain⟨t2,k3,b3,e3,e4⟩:=tgo (b:=false) (w:=(⟨#[]⟩:UH)) (k:=k1+1) e2 (⟨#[]⟩:UH) rfl;obtain⟨hk3,c3⟩:=vY hl (zp hl hp) false _ _ _ e3;obtain⟨_,k4,b4,e5,e6⟩:=tgo e4 () rfl;obtain⟨hk4,c4⟩:=vl hl hk3 b3 _ _ _ _ e5;obtain⟨rfl,rfl,rfl⟩:=zjN e6;obtain⟨x,k5,b5,e7,hR3⟩:=tgo hR2 E0 rfl;obtain⟨U,c5⟩:=wS hl hk4 _ f _ _ _ e7;obtain⟨rfl,rfl,rfl⟩:=zjN hR3;refine⟨U,by simp only[ziO,uC,uD];omega,?_⟩;clear hR2 hR3;refine gO T Tryz.func65 λC hC=>?_
   repeat' first|refine gG ?_|exact gD|refine gB ?_ ?_<;>intro h|refine zu hC ((zL hl hi uf)) (nm [0]) rfl rfl (zH.refl _) rfl rfl rfl rfl rfl rfl rfl rfl ?_|refine gR (zN hl h5) (nm [0]) ?_|refine gR c1 (nm [0]) ?_|refine gR hS (nm [0]) ?_|refine gR c3 (nm [0]) ?_|refine gR c4 (nm [0]) ?_|refine gR c5 (nm [0]) ?_|refine gH T [zgH (⟨n,t,x⟩:Iv)] ?_|(refine gY T 102 ((d.invs++[(⟨n,t,x⟩:Iv)]).map zgH) 88 ?_)|refine gL ?_
   exact gW [0,1,2,3,4,5,6,7,8,2,3,4,5,102,7,8]
  ·rw[qL]at hq;rw[hq]at hS
   have hfin:t=(⟨#[]⟩:UH)/\k2=k1/\b2=b1:=by
    cases b1 with
    |true=>cases e2;exact⟨rfl,rfl,rfl⟩
    |false=>
     have hp: ¬isA l k1 (⟨#[40]⟩:UH)=true:=by unfold isB at hq;simpa using hq
     simp only[tJ]at e2;rw[uu hp]at e2;cases e2;exact⟨rfl,rfl,rfl⟩
   obtain⟨rfl,rfl,rfl⟩:=hfin;simp only[uy,uL]at hS;obtain⟨x,k5,b5,e7,hR3⟩:=tgo hR2 E0 rfl;obtain⟨U,c5⟩:=wS hl hk1 _ f _ _ _ e7;obtain⟨rfl,rfl,rfl⟩:=zjN hR3;refine⟨U,by simp only[ziO,uC,uD];omega,?_⟩;clear hR2 hR3;refine gO T Tryz.func65 λC hC=>?_
   repeat' first|refine gG ?_|exact gD|refine gB ?_ ?_<;>intro h|refine zu hC ((zL hl hi uf)) (nm [0]) rfl rfl (zH.refl _) rfl rfl rfl rfl rfl rfl rfl rfl ?_|refine gR (zN hl h5) (nm [0]) ?_|refine gR c1 (nm [0]) ?_|refine gR hS (nm [0]) ?_|refine gR c5 (nm [0]) ?_|refine gH T [zgH (⟨n,(⟨#[]⟩:UH),x⟩:Iv)] ?_|(refine gY T 102 ((d.invs++[(⟨n,(⟨#[]⟩:UH),x⟩:Iv)]).map zgH) 88 ?_)|refine gL ?_
   exact gW [0,1,2,3,4,5,6,7,8,2,3,4,5,102,7,8]
 rw[uu h5]at J;by_cases h6:isA l i (⟨#[112,111,116,101,110,116,105,97,108]⟩:UH)=true
 ·have hi1:=zp hl h6;rw[uv h6]at J;obtain⟨t,k1,b1,e1,hR1⟩:=tgo (b:=false) (w:={ d with pots:=d.pots++[⟨(⟨#[]⟩:UH),E0⟩] }) (k:=i+1) J (⟨#[]⟩:UH) rfl;clear J;simp only[tJ]at e1;by_cases hq:isA l (i+1) (⟨#[61]⟩:UH)=true
  ·rw[uv hq]at e1;have hfin:t=(⟨#[]⟩:UH)/\k1=i+1/\b1=false:=by cases e1;exact⟨rfl,rfl,rfl⟩
   obtain⟨rfl,rfl,rfl⟩:=hfin;obtain⟨x,k2,b2,e2,hR2⟩:=tgo hR1 E0 rfl;obtain⟨U,c2⟩:=wS hl hi1 false f _ _ _ e2;obtain⟨rfl,rfl,rfl⟩:=zjN hR2;refine⟨U,by simp only[ziO,uC,uD];omega,?_⟩;clear hR1 hR2;refine gO T Tryz.func65 λC hC=>?_
   repeat' first|refine gG ?_|exact gD|refine gB ?_ ?_<;>intro h|refine zu hC ((zL hl hi uf)) (nm [0]) rfl rfl (zH.refl _) rfl rfl rfl rfl rfl rfl rfl rfl ?_|refine gR (zN hl h6) (nm [0]) ?_|refine gR (zjE hl hq) (nm [0]) ?_|refine gR c2 (nm [0]) ?_|refine gH T [zc5 (⟨(⟨#[]⟩:UH),x⟩:Pt)] ?_|(refine gY T 102 ((d.pots++[(⟨(⟨#[]⟩:UH),x⟩:Pt)]).map zc5) 72 ?_)|refine gL ?_
   exact gW [0,1,2,3,4,5,6,7,8,2,3,4,5,6,102,8]
  ·rw[uu hq]at e1;obtain⟨hk1,c1⟩:=vY hl hi1 false _ _ _ e1;obtain⟨x,k2,b2,e2,hR2⟩:=tgo hR1 E0 rfl;obtain⟨U,c2⟩:=wS hl hk1 b1 f _ _ _ e2;obtain⟨rfl,rfl,rfl⟩:=zjN hR2;refine⟨U,by simp only[ziO,uC,uD];omega,?_⟩;clear hR1 hR2;refine gO T Tryz.func65 λC hC=>?_
   repeat' first|refine gG ?_|exact gD|refine gB ?_ ?_<;>intro h|refine zu hC ((zL hl hi uf)) (nm [0]) rfl rfl (zH.refl _) rfl rfl rfl rfl rfl rfl rfl rfl ?_|refine gR (zN hl h6) (nm [0]) ?_|refine gR (zcC hl hi1 hq) (nm [0]) ?_|refine gR c1 (nm [0]) ?_|refine gR c2 (nm [0]) ?_|refine gH T [zc5 (⟨t,x⟩:Pt)] ?_|(refine gY T 102 ((d.pots++[(⟨t,x⟩:Pt)]).map zc5) 72 ?_)|refine gL ?_
   exact gW [0,1,2,3,4,5,6,7,8,2,3,4,5,6,102,8]
 rw[uu h6]at J;have h7:isA l i (⟨#[98,111,117,110,100]⟩:UH)=true:=by unfold kwI at hk;simpa [h1,h2,h3,h4,h5,h6]using hk
 have hi1:=zp hl h7;rw[uv h7]at J;obtain⟨n,k1,b1,e1,J⟩:=tgo (b:=false) (w:={ d with bounds:=d.bounds++[⟨(⟨#[]⟩:UH),E0⟩] }) (k:=i+1) J (⟨#[]⟩:UH) rfl;obtain⟨hk1,c1⟩:=vY hl hi1 false _ _ _ e1;obtain⟨x,k2,b2,e2,J⟩:=tgo J E0 rfl;obtain⟨U,c2⟩:=wS hl hk1 b1 f _ _ _ e2;obtain⟨rfl,rfl,rfl⟩:=zjN J;refine⟨U,by simp only[ziO,uC,uD];omega,?_⟩;clear J;refine gO T Tryz.func65 λC hC=>?_
 repeat' first|refine gG ?_|exact gD|refine gB ?_ ?_<;>intro h|refine zu hC ((zL hl hi uf)) (nm [0]) rfl rfl (zH.refl _) rfl rfl rfl rfl rfl rfl rfl rfl ?_|refine gR (zN hl h7) (nm [0]) ?_|refine gR c1 (nm [0]) ?_|refine gR c2 (nm [0]) ?_|refine gH T [xC (⟨n,x⟩:Hw.M.Bd)] ?_|(refine gY T 102 ((d.bounds++[(⟨n,x⟩:Hw.M.Bd)]).map xC) 72 ?_)|refine gL ?_
 exact gW [0,1,2,3,4,5,6,7,8,2,3,4,5,6,7,102]
end
end Hw.Gm.Ps
namespace Hw.Gm
open Go Go.Proofs Go.Shelf
def zht:Go.Shelf.Ren:=⟨λ|137=>148|217=>210|266=>251|n=>n,λ|9=>9|5=>5|3=>3|n=>n,λ|n=>n⟩
theorem zsS:Go.Proofs.Lays.n137 Tryz.prog zht where
 mixed:=by kernel_rfl
 f137:=Tryz.func148.trans (uX some ud)
 f217:=Tryz.func210.trans (uX some ud)
 f266:=Tryz.func251.trans (uX some ud)
 t3:=Tryz.underlying3
 a3:=Tryz.isAgg3
 z3:=Tryz.sizeOf3
 v3:=Tryz.zeroValue3
 t5:=Tryz.underlying5
 a5:=Tryz.isAgg5
 z5:=Tryz.sizeOf5
 v5:=Tryz.zeroValue5
 t9:=Tryz.underlying9
 a9:=Tryz.isAgg9
 z9:=Tryz.sizeOf9
 v9:=Tryz.zeroValue9
def zhu:Go.Shelf.Ren:=⟨λ|99=>147|206=>209|n=>n,λ|9=>9|4=>4|3=>3|n=>n,λ|n=>n⟩
theorem zsT:Go.Proofs.Lays.n99 Tryz.prog zhu where
 mixed:=by kernel_rfl
 f99:=Tryz.func147.trans (uX some ud)
 f206:=Tryz.func209.trans (uX some ud)
 t3:=Tryz.underlying3
 a3:=Tryz.isAgg3
 z3:=Tryz.sizeOf3
 v3:=Tryz.zeroValue3
 t4:=Tryz.underlying4
 a4:=Tryz.isAgg4
 z4:=Tryz.sizeOf4
 v4:=Tryz.zeroValue4
 t9:=Tryz.underlying9
 a9:=Tryz.isAgg9
 z9:=Tryz.sizeOf9
 v9:=Tryz.zeroValue9
def vm:Go.Shelf.Ren:=⟨λ|172=>208|244=>249|245=>250|247=>267|279=>268|280=>269|281=>270|282=>271|287=>280|316=>281|171=>283|205=>282|321=>294|322=>295|243=>296|246=>299|283=>300|284=>301|285=>302|286=>303|129=>203|317=>304|318=>305|319=>306|320=>307|337=>308|338=>309|n=>n,λ|9=>9|3=>3|75=>319|76=>320|4=>4|5=>5|167=>370|37=>59|0=>0|85=>371|2=>2|168=>373|53=>314|175=>384|46=>259|210=>387|127=>404|145=>407|143=>405|21=>21|171=>411|173=>413|212=>415|51=>312|20=>20|213=>416|232=>417|233=>418|80=>147|n=>n,λ|15=>3|16=>4|17=>5|18=>6|19=>7|n=>n⟩
theorem ziP:Go.Proofs.LaysC.n172 Tryz.prog vm where
 mixed:=by kernel_rfl
 f129:=Tryz.func203.trans (uX some ud)
 f171:=Tryz.func283.trans (uX some ud)
 f172:=Tryz.func208.trans (uX some ud)
 f205:=Tryz.func282.trans (uX some ud)
 f243:=Tryz.func296.trans (uX some ud)
 f244:=Tryz.func249.trans (uX some ud)
 f245:=Tryz.func250.trans (uX some ud)
 f246:=Tryz.func299.trans (uX some ud)
 f247:=Tryz.func267.trans (uX some ud)
 f279:=Tryz.func268.trans (uX some ud)
 f280:=Tryz.func269.trans (uX some ud)
 f281:=Tryz.func270.trans (uX some ud)
 f282:=Tryz.func271.trans (uX some ud)
 f283:=Tryz.func300.trans (uX some ud)
 f284:=Tryz.func301.trans (uX some ud)
 f285:=Tryz.func302.trans (uX some ud)
 f286:=Tryz.func303.trans (uX some ud)
 f287:=Tryz.func280.trans (uX some ud)
 f316:=Tryz.func281.trans (uX some ud)
 f317:=Tryz.func304.trans (uX some ud)
 f318:=Tryz.func305.trans (uX some ud)
 f319:=Tryz.func306.trans (uX some ud)
 f320:=Tryz.func307.trans (uX some ud)
 f321:=Tryz.func294.trans (uX some ud)
 f322:=Tryz.func295.trans (uX some ud)
 f337:=Tryz.func308.trans (uX some ud)
 f338:=Tryz.func309.trans (uX some ud)
 t0:=Tryz.underlying0
 a0:=Tryz.isAgg0
 z0:=Tryz.sizeOf0
 v0:=Tryz.zeroValue0
 t2:=Tryz.underlying2
 a2:=Tryz.isAgg2
 z2:=Tryz.sizeOf2
 v2:=Tryz.zeroValue2
 t3:=Tryz.underlying3
 a3:=Tryz.isAgg3
 z3:=Tryz.sizeOf3
 v3:=Tryz.zeroValue3
 t4:=Tryz.underlying4
 a4:=Tryz.isAgg4
 z4:=Tryz.sizeOf4
 v4:=Tryz.zeroValue4
 t5:=Tryz.underlying5
 a5:=Tryz.isAgg5
 z5:=Tryz.sizeOf5
 v5:=Tryz.zeroValue5
 t9:=Tryz.underlying9
 a9:=Tryz.isAgg9
 z9:=Tryz.sizeOf9
 v9:=Tryz.zeroValue9
 t20:=Tryz.underlying20
 a20:=Tryz.isAgg20
 z20:=Tryz.sizeOf20
 v20:=Tryz.zeroValue20
 t21:=Tryz.underlying21
 a21:=Tryz.isAgg21
 z21:=Tryz.sizeOf21
 v21:=Tryz.zeroValue21
 t37:=Tryz.underlying59
 a37:=Tryz.isAgg59
 z37:=Tryz.sizeOf59
 v37:=Tryz.zeroValue59
 t46:=Tryz.underlying259
 a46:=Tryz.isAgg259
 z46:=Tryz.sizeOf259
 v46:=Tryz.zeroValue259
 t51:=Tryz.underlying312
 a51:=Tryz.isAgg312
 z51:=Tryz.sizeOf312
 v51:=Tryz.zeroValue312
 t53:=Tryz.underlying314
 a53:=Tryz.isAgg314
 z53:=Tryz.sizeOf314
 v53:=Tryz.zeroValue314
 t75:=Tryz.underlying319
 a75:=Tryz.isAgg319
 z75:=Tryz.sizeOf319
 v75:=Tryz.zeroValue319
 t76:=Tryz.underlying320
 a76:=Tryz.isAgg320
 z76:=Tryz.sizeOf320
 v76:=Tryz.zeroValue320
 t85:=Tryz.underlying371
 a85:=Tryz.isAgg371
 z85:=Tryz.sizeOf371
 v85:=Tryz.zeroValue371
 t127:=Tryz.underlying404
 a127:=Tryz.isAgg404
 z127:=Tryz.sizeOf404
 v127:=Tryz.zeroValue404
 t143:=Tryz.underlying405
 a143:=Tryz.isAgg405
 z143:=Tryz.sizeOf405
 v143:=Tryz.zeroValue405
 t145:=Tryz.underlying407
 a145:=Tryz.isAgg407
 z145:=Tryz.sizeOf407
 v145:=Tryz.zeroValue407
 t167:=Tryz.underlying370
 a167:=Tryz.isAgg370
 z167:=Tryz.sizeOf370
 v167:=Tryz.zeroValue370
 t168:=Tryz.underlying373
 a168:=Tryz.isAgg373
 z168:=Tryz.sizeOf373
 v168:=Tryz.zeroValue373
 t171:=Tryz.underlying411
 a171:=Tryz.isAgg411
 z171:=Tryz.sizeOf411
 v171:=Tryz.zeroValue411
 t173:=Tryz.underlying413
 a173:=Tryz.isAgg413
 z173:=Tryz.sizeOf413
 v173:=Tryz.zeroValue413
 t175:=Tryz.underlying384
 a175:=Tryz.isAgg384
 z175:=Tryz.sizeOf384
 v175:=Tryz.zeroValue384
 t210:=Tryz.underlying387
 a210:=Tryz.isAgg387
 z210:=Tryz.sizeOf387
 v210:=Tryz.zeroValue387
 t212:=Tryz.underlying415
 a212:=Tryz.isAgg415
 z212:=Tryz.sizeOf415
 v212:=Tryz.zeroValue415
 t213:=Tryz.underlying416
 a213:=Tryz.isAgg416
 z213:=Tryz.sizeOf416
 t232:=Tryz.underlying417
 a232:=Tryz.isAgg417
 z232:=Tryz.sizeOf417
 v232:=Tryz.zeroValue417
 t233:=Tryz.underlying418
 a233:=Tryz.isAgg418
 z233:=Tryz.sizeOf418
 v233:=Tryz.zeroValue418
 g15:=by kernel_rfl
 g16:=by kernel_rfl
 g17:=by kernel_rfl
 g18:=by kernel_rfl
 g19:=by kernel_rfl
 t80:=Tryz.underlying147
 a80:=Tryz.isAgg147
 z80:=Tryz.sizeOf147
 v80:=Tryz.zeroValue147
 i0:=by kernel_rfl
 i2:=by kernel_rfl
 i3:=by kernel_rfl
 i4:=by kernel_rfl
 i5:=by kernel_rfl
 i9:=by kernel_rfl
 i20:=by kernel_rfl
 i21:=by kernel_rfl
 i37:=by kernel_rfl
 i46:=by kernel_rfl
 i51:=by kernel_rfl
 i53:=by kernel_rfl
 i75:=by kernel_rfl
 i76:=by kernel_rfl
 i80:=by kernel_rfl
 i85:=by kernel_rfl
 i127:=by kernel_rfl
 i143:=by kernel_rfl
 i145:=by kernel_rfl
 i167:=by kernel_rfl
 i168:=by kernel_rfl
 i171:=by kernel_rfl
 i173:=by kernel_rfl
 i175:=by kernel_rfl
 i210:=by kernel_rfl
 i212:=by kernel_rfl
 i232:=by kernel_rfl
 i233:=by kernel_rfl
 m15:=by kernel_rfl
 m16:=by kernel_rfl
 m17:=by kernel_rfl
 m18:=by kernel_rfl
 m19:=by kernel_rfl
 c0:=by kernel_rfl
 c2:=by kernel_rfl
 c3:=by kernel_rfl
 c4:=by kernel_rfl
 c5:=by kernel_rfl
 c9:=by kernel_rfl
 c20:=by kernel_rfl
 c21:=by kernel_rfl
 c37:=by kernel_rfl
 c46:=by kernel_rfl
 c51:=by kernel_rfl
 c53:=by kernel_rfl
 c75:=by kernel_rfl
 c76:=by kernel_rfl
 c80:=by kernel_rfl
 c85:=by kernel_rfl
 c127:=by kernel_rfl
 c143:=by kernel_rfl
 c145:=by kernel_rfl
 c167:=by kernel_rfl
 c168:=by kernel_rfl
 c171:=by kernel_rfl
 c173:=by kernel_rfl
 c175:=by kernel_rfl
 c210:=by kernel_rfl
 c212:=by kernel_rfl
 c213:=by kernel_rfl
 c232:=by kernel_rfl
 c233:=by kernel_rfl
end Hw.Gm
namespace Hw.Gm.Ps
open Go Go.Proofs Go.Shelf Hw.M
theorem zeA{f:FuncId}{fn:Func}(h:Tryz.prog.funcs[f]?=some fn)(J:(fn.name== "runtime.NumGoroutine")=false)(h2:fn.body.isNone=false):jM Tryz.prog f:=⟨fn,h,J,h2⟩
theorem zeB(s p:Str):zh Tryz.prog 147 [Sr s,Sr p] [] (Bo ((lst p).isPrefixOf (lst s))) []:=
 @zhD _ _ [.string s,.string p] _ (zeA Tryz.func147 ud ud) (λw _=>Any.strings_HasPrefix zsT s p w) rfl
theorem zf2(s:Str)(c:UInt8):zh Tryz.prog 148 [Sr s,uc c.toNat] [] (I (Lib.indexByte (lst s) c)) []:=
 @zhD _ _ [.string s,.int .u8 c.toNat] _ (zeA Tryz.func148 ud ud) (λw _=>by
  have:=Any.strings_IndexByte zsS s c.toNat w;have e:((c.toNat:Int).toNat).toUInt8=c:=by simp
  rw[e]at this
  exact this) rfl
theorem zsU{s:Str}{v:Int}(h:Lib.atoiAll (lst s)= .ok v)(hs:s.size<=1000000):zh Tryz.prog 208 [Sr s] [] (.tup [I v,.one (.p (.k .nilIface))]) []:=by
 refine⟨zeA Tryz.func208 ud ud,λM ρ w xs J _ U hG=>?_⟩;obtain rfl:=zeQ (av:=[.string s]) J;refine(Any.strconv_Atoi_ok ziP s ua v h w).mono λe w' ⟨he,hw⟩=>?_
 have hb:RowKit.Below w.heap.size w w':=by
  rcases hw with rfl|⟨t,rfl⟩
  ·exact RowKit.Below.refl _ _
  ·exact Lib.bytesWorld_below w _ t
 exact⟨_,M,ρ,he,zke U hb (by simp only[RepS];exact⟨[.int .i64 v,.nilIface],rfl,by simp only[RepSs,RepS,RepV,RepPV];exact⟨⟨uh,rfl⟩,⟨uh,rfl⟩,uh⟩⟩)⟩
theorem zjO{s:Str}(h:Lib.atoiAll (lst s)= .range)(hs:s.size<=1000000)(hn:Lib.atoiSat (lst s)=9223372036854775807):zh Tryz.prog 208 [Sr s] [] (.tup [I 9223372036854775807,.one (.ar 0)]) [(0,.ifc)]:=by
 refine⟨zeA Tryz.func208 ud ud,λM ρ w xs hx hT hI hG=>?_⟩;obtain rfl:=zeQ (av:=[.string s]) hx;obtain⟨te,pe,hev⟩:=hG.er 4 (by simp[G3]);have hv:=hI _ _ _ hev;refine(Any.strconv_Atoi_range ziP s ua h _ w hv (.inr ⟨te,pe,rfl⟩)).mono λe w' ⟨N,he,_,_,J⟩=>?_;have hn':Lib.atoiSat s.data.toList=9223372036854775807:=hn;rw[hn']at he
 have only: ∀i r,tg (tb [(0,Res.ifc)]) i=some r->i=0/\r= .ifc:=λi r U=>by
  simp only[tb,zC]at U;split at U
  ·rename_i e;exact⟨e.symm,(uS U).symm⟩
  ·cases U
 have nob: ∀ {i r b},tg (tb [(0,Res.ifc)]) i=some r->Bk (upd ρ 0 (.iface (vm.t 168) (.pointer (some ⟨N,0,none⟩))) i) b->False:=λ{i r b} U J=>by
  obtain⟨rfl,_⟩:=only i r U;rw[zG]at J;simp[Bk,blk]at J
 refine⟨_,M,upd ρ 0 (.iface (vm.t 168) (.pointer (some ⟨N,0,none⟩))),he,?_⟩
 refine⟨?_,⟨λi r U=>?_,λi j ri rj b U _ _ J _=>nob U J,λi r b U J=>(nob U J).elim⟩,λb o u hu=>by rw[cell_of_heap (J.block b (jY (hI b o u hu)))];exact hI b o u hu,MLe.refl M,λb o u hu=> .inl hu,
  λb ⟨i,r,U,J⟩=>(nob U J).elim,λb h _=>J.block b h,J.size,J.os,J.tape,J.output,λid hid=>by simp[RL.ids]at hid⟩
 ·simp only[RepS];exact⟨[.int .i64 9223372036854775807,.iface (vm.t 168) (.pointer (some ⟨N,0,none⟩))],rfl,by simp only[RepSs,RepS,RepV,RepPV];exact⟨⟨uh,rfl⟩,⟨by rw[zG],rfl⟩,uh⟩⟩
 ·obtain⟨rfl,rfl⟩:=only i r U;exact⟨_,_,zG _ _ _⟩
variable {i:Nat}
theorem jb{s:Str}{b:UInt8}(h:(lst s)[i]?=some b):s[((i:Nat):Int).toNat]?=some b:=by
 have J:i<s.data.size:=by
  have:=(uw.1 h).1;simpa [lst]using this
 have:s.data[i]=b:=by unfold lst at h;rw[qz,tR J]at h;exact uS h
 have U:i<s.size:=J;simp only[tD];rw[getElem?_pos s i U];exact uX some this
theorem zf3(c:Int):decide (xr c=3)=isDigit c:=by
 unfold xr isDigit;by_cases h1:c=32
 ·subst h1;rfl
 by_cases h2:c=9
 ·subst h2;rfl
 by_cases h3:c=13
 ·subst h3;rfl
 by_cases h4:c=10
 ·subst h4;rfl
 simp only[h1,h2,h3,h4,uL];by_cases U:(decide (97<=c)&&decide (c<=122))=true
 ·rw[uv U];simp only[uo,uq]at U;rw[uJ (show ¬c<=57 by omega)];simp
 ·rw[uu U];by_cases h6:(decide (65<=c)&&decide (c<=90))=true
  ·rw[uv h6];simp only[uo,uq]at h6;rw[uJ (show ¬c<=57 by omega)];simp
  ·rw[uu h6];by_cases J:(decide (48<=c)&&decide (c<=57))=true
   ·rw[uv J,J];rfl
   ·rw[uu J];have h7':(decide (48<=c)&&decide (c<=57))=false:=by simpa using J
    rw[h7'];by_cases h8:c=95
    ·rw[uv h8];rfl
    ·rw[uu h8];rfl
def zhv(w:By):Bool:=decide (w=[])||(decide (1<w.length)&&decide (w.head?=some 48))
theorem zeC(w:By):zeu w=(!zhv w&&w.all dB&&decide (numV w 0<=1099511627776)):=by
 unfold zeu zhv;cases decide (w=[])<;>cases(decide (1<w.length)&&decide (w.head?=some 48))<;>simp
def zqO(w:By):Int:=if(!zhv w&&w.all dB)=true then zsJ w else 0
variable {w:By}
theorem zjP(J:w≠ [])(U:w.all dB=true):Lib.atoiSat w=9223372036854775807:=by
 cases w with
 |nil=>exact absurd rfl J
 |cons c r=>
  have hc:=ziG.1 (by simp only[tX,uo]at U;exact U.1);exact Lib.atoiSat_other c r ua
theorem zjQ(s:Str)(hs:s.size<=1000000):zh Tryz.prog 146 [Sr s] [] (.tup [I (zqO (lst s)),.bq (zeu (lst s))]) []:=by
 have hl:=vT s
 have no:zhv (lst s)=true->zqO (lst s)=0/\zeu (lst s)=false:=λh=>by
  rw[zeC];unfold zqO;rw[h];simp
 by_cases h0:s=⟨#[]⟩
 ·obtain⟨e1,e2⟩:=no (by rw[h0];rfl);rw[e1,e2];refine gO T Tryz.func146 λC hC=>?_
  repeat' first|refine gG ?_|refine gB ?_ ?_<;>intro h
  all_goals first
   |exact zi ⟨.inl rfl,id,_,rfl,LeS.tup (.cons (.refl _) (.cons (.qb rfl) .nil)),trivial,rfl,rfl⟩
   |(exfalso;simp_all;done)
 have U:lst s≠ []:=λe=>h0 (by rw[<-zet s,e];rfl)
 have hpos:0<(lst s).length:=List.length_pos_iff.2 U;obtain⟨b,hb⟩:=zd hpos;have hhd:(lst s).head?=some b:=by rw[List.head?_eq_getElem?];exact hb
 by_cases h1:(decide (1<(lst s).length)&&decide ((lst s).head?=some 48))=true
 ·obtain⟨e1,e2⟩:=no (by unfold zhv;rw[h1];simp);rw[e1,e2];simp only[uo,uq,hhd,ui]at h1;obtain⟨h1,rfl⟩:=h1;refine gO T Tryz.func146 λC hC=>?_
  repeat' first|refine gG ?_|refine gB ?_ ?_<;>intro h|refine w9 T hC rfl rfl rfl (qw _) (jb hb) rfl rfl ?_
  all_goals first
   |exact zi ⟨.inl rfl,id,_,rfl,LeS.tup (.cons (.refl _) (.cons (.qb rfl) .nil)),trivial,rfl,rfl⟩
   |(exfalso;simp_all;done)
   |(exfalso;simp only[uq,ur]at *; omega)
   |(exfalso;revert h;decide)
 have hnn:zhv (lst s)=false:=by
  unfold zhv;rw[uJ U];simpa using h1
 have hif:zqO (lst s)=if(lst s).all dB=true then zsJ (lst s)else 0:=by unfold zqO;rw[hnn];simp
 have hok:zeu (lst s)=((lst s).all dB&&decide (numV (lst s) 0<=1099511627776)):=by rw[zeC,hnn];rfl
 have h48:1<(lst s).length->b≠48:=λh e=>h1 (by rw[hhd,e];simp[h])
 rw[hif,hok];clear no h1 hhd;refine gO T Tryz.func146 λC hC=>?_
 repeat' first|refine gG ?_|refine gB ?_ ?_<;>intro h|refine w9 T hC rfl rfl rfl (qw _) (jb hb) rfl rfl ?_
 all_goals first
  |(exfalso;simp_all;done)
  |(exfalso;simp only[uq,ur]at *; refine h48 ua ?_;apply oL.1;have h48':(48:UInt8).toNat=48:=rfl;omega)
  |skip
 all_goals
  refine zn (λi:Nat=>i<=s.size/\((lst s).take i).all dB=true) (λi=>([(0,Sr s),(20,I s.size),(21,I i)],[])) (λi=>s.size - i) hC
   0 ⟨uz _,ue⟩ id gM ?_
  rintro i ⟨hi,hn⟩;refine zq T hC true 200 rfl ?_;refine zt rfl ?_ ?_<;>intro hh
  ·have hlt:i<(lst s).length:=by have:=uj hh;omega
   clear hh;obtain⟨x,hx⟩:=zd hlt
   repeat' first|refine gG ?_|refine gB ?_ ?_<;>intro h|refine w9 T hC rfl rfl rfl (uE _) (jb hx) rfl rfl ?_|refine gC (vJ _) ?_|refine zo ?_
   all_goals first
    |(have hd:dB x=false:=by unfold dB;rw[<-zf3];simpa using h
      rw[zau hx hd]
      exact zi ⟨.inl rfl,id,_,rfl,LeS.tup (.cons (.refl _) (.cons (.qb rfl) .nil)),trivial,rfl,rfl⟩)
    |(have hd:dB x=true:=by unfold dB;rw[<-zf3];simpa using h
      rw[y7 ua];refine zg (i+1) ⟨ua,?_⟩ id ua gM
      rw[x7 hx,hn,hd];rfl)
  ·have hge: ¬i<(lst s).length:=by have:=um hh;omega
   have J:=jm (p:=dB) ua hn;clear hh;rw[J,tA];have ha:=zhf U J;have hsat:=zjP U J;by_cases hv:numV (lst s) 0<=9223372036854775807
   ·rw[uv hv]at ha;have hA:=zsU ha hs;have hi':zsJ (lst s)=numV (lst s) 0:=by unfold zsJ;rw[uv hv]
    rw[hi',uv rfl]
    repeat' first|refine gG ?_|refine gB ?_ ?_<;>intro h|refine ze ?_|refine gC hA ?_|refine ztv hC rfl ud rfl rfl ?_
    all_goals first
     |exact zi ⟨.inl rfl,id,_,rfl,LeS.tup (.cons (.refl _) (.cons (.qq rfl) .nil)),trivial,rfl,rfl⟩
     |(exfalso;simp_all;done)
   ·rw[uu hv]at ha;have hA:=zjO ha hs hsat;have hi':zsJ (lst s)=9223372036854775807:=by unfold zsJ;rw[uu hv]
    rw[hi',uJ (show ¬numV (lst s) 0<=1099511627776 by omega),uv rfl]
    repeat' first|refine gG ?_|refine gB ?_ ?_<;>intro h|refine ze ?_|(refine gR hA (nm [140]) ?_)|refine ztu hC rfl rfl ud rfl rfl ?_
    all_goals first
     |exact zi ⟨.inl rfl,id,_,rfl,LeS.tup (.cons (.refl _) (.cons (.qb rfl) .nil)),trivial,rfl,rfl⟩
     |(exfalso;simp_all;done)
theorem zhw(s:Str)(i j:Nat):lst (s.extract i j)=((lst s).drop i).take (j - i):=by
 simp only[lst,ByteArray.data_extract,Uw,oU]
theorem zak(s:Str)(i j:Nat):s.extract i j=za4 (((lst s).drop i).take (j - i)):=by rw[<-zhw,zet]
variable {c:UInt8}
theorem zm8{r:By}(h: ∀y∈[(⟨#[61,61]⟩:UH),(⟨#[33,61]⟩:UH),(⟨#[60,61]⟩:UH),(⟨#[45,62]⟩:UH)],(lst y).isPrefixOf (c::r)=false):zkc (c::r)=if 0<=Lib.indexByte (lst (⟨#[40,41,123,125,91,93,44,59,58,46,61,60,43,45,42,47,37]⟩:Str)) c then some (za4 [c])else none:=by
 have key: ∀i:Fin 256,(([(⟨#[40]⟩:UH),(⟨#[41]⟩:UH),⟨#[123]⟩,⟨#[125]⟩,(⟨#[91]⟩:UH),(⟨#[93]⟩:UH),(⟨#[44]⟩:UH),(⟨#[59]⟩:UH),(⟨#[58]⟩:UH),(⟨#[46]⟩:UH),(⟨#[61]⟩:UH),(⟨#[60]⟩:UH),(⟨#[43]⟩:UH),(⟨#[45]⟩:UH),(⟨#[42]⟩:UH),(⟨#[47]⟩:UH),(⟨#[37]⟩:UH)]:List Str).find? λy=>(lst y).isPrefixOf [UInt8.ofNat i.val])=
  if 0<=Lib.indexByte (lst (⟨#[40,41,123,125,91,93,44,59,58,46,61,60,43,45,42,47,37]⟩:Str)) (UInt8.ofNat i.val)then some (za4 [UInt8.ofNat i.val])else none:=by decide+kernel
 have U:UInt8.ofNat c.toNat=c:=by simp
 have hk:=key ⟨c.toNat,c.toNat_lt⟩;simp only[U]at hk;rw[<-hk];have e:syms=[(⟨#[61,61]⟩:UH),(⟨#[33,61]⟩:UH),(⟨#[60,61]⟩:UH),(⟨#[45,62]⟩:UH)]++[(⟨#[40]⟩:UH),(⟨#[41]⟩:UH),⟨#[123]⟩,⟨#[125]⟩,(⟨#[91]⟩:UH),(⟨#[93]⟩:UH),(⟨#[44]⟩:UH),(⟨#[59]⟩:UH),(⟨#[58]⟩:UH),(⟨#[46]⟩:UH),(⟨#[61]⟩:UH),(⟨#[60]⟩:UH),(⟨#[43]⟩:UH),(⟨#[45]⟩:UH),(⟨#[42]⟩:UH),(⟨#[47]⟩:UH),(⟨#[37]⟩:UH)]:=rfl;unfold zkc;rw[e,qT]
 have hn:([(⟨#[61,61]⟩:UH),(⟨#[33,61]⟩:UH),(⟨#[60,61]⟩:UH),(⟨#[45,62]⟩:UH)]:List Str).find? (λy=>(lst y).isPrefixOf (c::r))=none:=by
  rw[List.find?_eq_none];intro y J;rw[h y J];simp
 rw[hn,Option.none_or];have one: ∀y∈([(⟨#[40]⟩:UH),(⟨#[41]⟩:UH),⟨#[123]⟩,⟨#[125]⟩,(⟨#[91]⟩:UH),(⟨#[93]⟩:UH),(⟨#[44]⟩:UH),(⟨#[59]⟩:UH),(⟨#[58]⟩:UH),(⟨#[46]⟩:UH),(⟨#[61]⟩:UH),(⟨#[60]⟩:UH),(⟨#[43]⟩:UH),(⟨#[45]⟩:UH),(⟨#[42]⟩:UH),(⟨#[47]⟩:UH),(⟨#[37]⟩:UH)]:List Str),(lst y).length=1:=by decide+kernel
 have: ∀l:List Str,(∀y∈l,(lst y).length=1)->l.find? (λy=>(lst y).isPrefixOf (c::r))=l.find? (λy=>(lst y).isPrefixOf [c]):=λl=>by
  induction l with
  |nil=>intro _;rfl
  |cons y l ih=>
   intro hl;have J:=hl y ue
   have e2:(lst y).isPrefixOf (c::r)=(lst y).isPrefixOf [c]:=by
    match lst y,J with
    | [u],_=>rfl
    | [],J=>simp at J
    |_::_::_,J=>simp at J
   rw[qG,qG,e2,ih λz hz=>hl z (by simp[hz])]
 exact this _ one
theorem zpN:zkc []=none:=by decide+kernel
theorem zm9(s:Str):zh Tryz.prog 100 [Sr s] [] (Sr ((zkc (lst s)).getD (⟨#[]⟩:UH))) []:=by
 have hl:=vT s;have hP:=λy:Str=>zeB s y
 refine gO T Tryz.func100 λC hC=>?_
 repeat' first|refine gG ?_|refine gB ?_ ?_<;>intro h|(refine znU (vs:=[.p (ks (⟨#[61,61]⟩:UH)),.p (ks (⟨#[33,61]⟩:UH)),.p (ks (⟨#[60,61]⟩:UH)),.p (ks (⟨#[45,62]⟩:UH))]) (len:=4) (e:=1) (el:=9) (zs:=List.replicate 4 (.p (ks (⟨#[]⟩:UH)))) hC rfl ud ud ud rfl ud rfl rfl ?_)
 refine zn (λi:Nat=>i<=4/\ ∀y∈([(⟨#[61,61]⟩:UH),(⟨#[33,61]⟩:UH),(⟨#[60,61]⟩:UH),(⟨#[45,62]⟩:UH)]:List Str).take i,(lst y).isPrefixOf (lst s)=false) (λi=>([(0,Sr s),(5,.agg [.p (ks (⟨#[61,61]⟩:UH)),.p (ks (⟨#[33,61]⟩:UH)),.p (ks (⟨#[60,61]⟩:UH)),.p (ks (⟨#[45,62]⟩:UH))]),(6,I i)],[])) (λi=>4 - i) hC
  0 ⟨uz _,ue⟩ id gM ?_
 rintro i ⟨hi,hn⟩;refine zq T hC true 200 rfl ?_;refine zt rfl ?_ ?_<;>intro hh
 ·have hlt:i<4:=by have:=uj hh;omega
  clear hh;obtain⟨y,hy⟩:=zd (l:=([(⟨#[61,61]⟩:UH),(⟨#[33,61]⟩:UH),(⟨#[60,61]⟩:UH),(⟨#[45,62]⟩:UH)]:List Str)) (i:=i) (by simpa using hlt)
  have hyv:([.p (ks (⟨#[61,61]⟩:UH)),.p (ks (⟨#[33,61]⟩:UH)),.p (ks (⟨#[60,61]⟩:UH)),.p (ks (⟨#[45,62]⟩:UH))]:List V)[((i:Nat):Int).toNat]?=some (.p (ks y)):=by
   have:([.p (ks (⟨#[61,61]⟩:UH)),.p (ks (⟨#[33,61]⟩:UH)),.p (ks (⟨#[60,61]⟩:UH)),.p (ks (⟨#[45,62]⟩:UH))]:List V)=([(⟨#[61,61]⟩:UH),(⟨#[33,61]⟩:UH),(⟨#[60,61]⟩:UH),(⟨#[45,62]⟩:UH)]:List Str).map λy=>V.p (ks y):=rfl
   rw[this,uK,tD,hy];rfl
  have J:=hP y;cases hp:(lst y).isPrefixOf (lst s)with
  |true=>
   rw[hp]at J
   have hsy:zkc (lst s)=some y:=by
    unfold zkc;have e:syms=([(⟨#[61,61]⟩:UH),(⟨#[33,61]⟩:UH),(⟨#[60,61]⟩:UH),(⟨#[45,62]⟩:UH)]:List Str)++[(⟨#[40]⟩:UH),(⟨#[41]⟩:UH),⟨#[123]⟩,⟨#[125]⟩,(⟨#[91]⟩:UH),(⟨#[93]⟩:UH),(⟨#[44]⟩:UH),(⟨#[59]⟩:UH),(⟨#[58]⟩:UH),(⟨#[46]⟩:UH),(⟨#[61]⟩:UH),(⟨#[60]⟩:UH),(⟨#[43]⟩:UH),(⟨#[45]⟩:UH),(⟨#[42]⟩:UH),(⟨#[47]⟩:UH),(⟨#[37]⟩:UH)]:=rfl;rw[e,qT]
    have:([(⟨#[61,61]⟩:UH),(⟨#[33,61]⟩:UH),(⟨#[60,61]⟩:UH),(⟨#[45,62]⟩:UH)]:List Str).find? (λy=>(lst y).isPrefixOf (lst s))=some y:=by
     rw[List.find?_eq_some_iff_getElem];refine⟨hp,i,by simpa using hlt,?_,λj hj=>?_⟩
     ·have:=(uw.1 hy).2;exact this
     ·have:=hn (([(⟨#[61,61]⟩:UH),(⟨#[33,61]⟩:UH),(⟨#[60,61]⟩:UH),(⟨#[45,62]⟩:UH)]:List Str)[j]'ug) (List.mem_take_iff_getElem.2 ⟨j,ug,rfl⟩);rw[this];rfl
    rw[this];rfl
   rw[hsy]
   repeat' first|refine gG ?_|refine gB ?_ ?_<;>intro h|(refine zhH (len:=4) (el:=9) hC rfl rfl ud ud ud (uE _) ua hyv rfl rfl ?_)|refine gC J ?_|refine zo ?_
   exact gF
  |false=>
   rw[hp]at J
   repeat' first|refine gG ?_|refine gB ?_ ?_<;>intro h|(refine zhH (len:=4) (el:=9) hC rfl rfl ud ud ud (uE _) ua hyv rfl rfl ?_)|refine gC J ?_
   rw[y7 ua];refine zg (i+1) ⟨ua,λz U=>?_⟩ id ua gM;rw[qQ,hy]at U;rcases tj.1 U with U|U
   ·exact hn z U
   ·simp only[Option.toList_some,tB]at U;subst U;exact hp
 ·have hge:i=4:=by have:=um hh;omega
  subst hge;clear hh;have hn4: ∀y∈([(⟨#[61,61]⟩:UH),(⟨#[33,61]⟩:UH),(⟨#[60,61]⟩:UH),(⟨#[45,62]⟩:UH)]:List Str),(lst y).isPrefixOf (lst s)=false:=λy hy=>hn y (by simpa using hy)
  match hls:lst s with
  | []=>
    have h0:s=⟨#[]⟩:=by rw[<-zet s,hls];rfl
    subst h0;rw[zpN]
    repeat' first|refine gG ?_|refine gB ?_ ?_<;>intro h|refine ze ?_
    all_goals first
     |exact gF
     |(exfalso;simp_all;done)
  |c::r=>
   rw[hls]at hn4 hl;have hsz:1<=s.size:=by simp only[uR]at hl;omega
   have hc0:(lst s)[0]?=some c:=by rw[hls];rfl
   have hI:=zf2 ⟨#[40,41,123,125,91,93,44,59,58,46,61,60,43,45,42,47,37]⟩ c;have hne:s≠⟨#[]⟩:=λe=>by subst e;simp[lst]at hls
   rw[zm8 hn4];generalize Lib.indexByte (lst (⟨#[40,41,123,125,91,93,44,59,58,46,61,60,43,45,42,47,37]⟩:Str)) c=q at hI
   have hx:s.extract 0 (1:Int).toNat=za4 [c]:=by
    rw[zak,hls];rfl
   repeat' first|refine gG ?_|refine gB ?_ ?_<;>intro h|refine ze ?_|refine w9 T hC rfl rfl rfl (qw _) (jb hc0) rfl rfl ?_|refine gC hI ?_|(refine zts hC rfl rfl ud ub ua rfl rfl ?_)
   all_goals first
    |(rw[uv (by simpa using h),hx]
      exact gF)
    |(rw[uu (by simpa using h)]
      exact gF)
    |(exfalso;simp_all;done)
def zwq(k:Int)(t:Str)(n ln cl:Int):List PV:=[ki k,ks t,ki n,ki ln,ki cl]
theorem zjR(s:Str)(hs:s.size<=1000000):(∀t,zks (lst s)=some t->zh Tryz.prog 99 [Sr s] [] (.tup [zF (zwq t.1 t.2.1 t.2.2 0 0),Bo true]) [])/\(zks (lst s)=none->zh Tryz.prog 99 [Sr s] [] (.tup [zF (zwq 2 (⟨#[]⟩:UH) (zqO (lst s)) 0 0),Bo false]) []):=by
 have U:=zax s;have hN:=yB s;have hI:=zjQ s hs
 have hif:zeu (lst s)=true->zqO (lst s)=numV (lst s) 0:=λh=>by
  rw[zeC]at h;simp only[uo,uq]at h;unfold zqO zsJ;rw[uv (by simp[h.1.1,h.1.2]),uv ua]
 unfold zks;rw[zet];cases hk:wg s with
 |true=>
  rw[hk]at U;refine⟨λt J=>?_,λh=>by simp at h⟩;rw[uv rfl]at J;obtain rfl:=uS J;refine gO T Tryz.func99 λC hC=>?_
  repeat' first|refine gG ?_|refine gB ?_ ?_<;>intro h|refine gC U ?_
  all_goals first
   |exact gF
   |(exfalso;simp_all;done)
 |false=>
 rw[hk]at U;cases hn:isName s with
 |true=>
  rw[hn]at hN;refine⟨λt J=>?_,λh=>by simp at h⟩;simp only[uy,uL,uZ]at J;obtain rfl:=uS J;refine gO T Tryz.func99 λC hC=>?_
  repeat' first|refine gG ?_|refine gB ?_ ?_<;>intro h|refine gC U ?_|refine gC hN ?_
  all_goals first
   |exact gF
   |(exfalso;simp_all;done)
 |false=>
 rw[hn]at hN;cases ho:zeu (lst s)with
 |true=>
  rw[ho,hif ho]at hI;refine⟨λt J=>?_,λh=>by simp at h⟩;simp only[uy,uL,uZ]at J;obtain rfl:=uS J;refine gO T Tryz.func99 λC hC=>?_
  repeat' first|refine gG ?_|refine gB ?_ ?_<;>intro h|refine gC U ?_|refine gC hN ?_|refine gC hI ?_
  all_goals first
   |exact zi ⟨.inl rfl,id,_,rfl,LeS.tup (.cons (.refl _) (.cons (.bq rfl) .nil)),trivial,rfl,rfl⟩
   |exact gF
   |(exfalso;simp_all;done)
 |false=>
  rw[ho]at hI;refine⟨λt J=>by simp at J,λ_=>?_⟩;refine gO T Tryz.func99 λC hC=>?_
  repeat' first|refine gG ?_|refine gB ?_ ?_<;>intro h|refine gC U ?_|refine gC hN ?_|refine gC hI ?_
  all_goals first
   |exact zi ⟨.inl rfl,id,_,rfl,LeS.tup (.cons (.refl _) (.cons (.bq rfl) .nil)),trivial,rfl,rfl⟩
   |exact gF
   |(exfalso;simp_all;done)
theorem zsV(h:w.all dB=true):0<=numV w 0:=by
 have:=zev w 0 h;have J:((0:Nat):Int)=0:=rfl;rw[J]at this;omega
def mvU(a b i:Nat):Nat:=match Nat.beq i a with
 |true=>b
 |false=>i
theorem zhx{a b:Nat}(ha:100<=a)(hi:i<100):mvU a b i=i:=by
 unfold mvU;rw[xj ua]
theorem zna{p:UInt8->Bool}: ∀(l:By) (k:Nat),(l.take k).all p=true->(∀x,l[k]?=some x->p x=false)->l.takeWhile p=l.take k
 | [],k,_,_=>by simp
 |x::l,0,_,h=>by
  have:=h x rfl;rw[qI,uu (by simp[this])];rfl
 |x::l,k+1,ha,h=>by
  rw[tU,tX,uo]at ha;rw[qI,uv ha.1,tU,zna l k ha.2 (λy J=>h y (by simpa using J))]
theorem zhy{l:By}(h:l[i]?=some c):l.drop i=c::l.drop (i+1):=by
 obtain⟨J,rfl⟩:=uw.1 h;exact qm J
theorem znb:blB c=true↔xr c.toNat=1:=by unfold blB;exact oN
theorem znc:wB c=true↔2<=xr c.toNat:=by
 have:=zaU c.toNat;unfold wB;cases h:isWord (c.toNat:Int)with
 |true=>rw[h]at this;simp at this;simpa using this
 |false=>rw[h]at this;simp at this;simp;omega
theorem zjS{l:By}(p:Int×Int)(out:List Tok)(h:l[i]?=some c)(J:blB c=true):lxx (l.drop i) p out=lxx (l.drop (i+1)) (mvX p c) out:=by
 have U:tk (l.drop i)=some (1,none):=by rw[zhy h];simp only[tk,uv J]
 rw[zbK p out U,tv,zhy h];simp
variable {p:UInt8->Bool}
theorem zf4{l:By}(J:p 10=false)(q:Int×Int):(l.take (l.takeWhile p).length).foldl mvX q=(q.1,q.2+(l.takeWhile p).length):=by
 have e:l.take (l.takeWhile p).length=l.takeWhile p:=(Ue.1 (List.takeWhile_prefix p)).symm;rw[e];refine zhe _ _ λb U e=>?_;subst e;have:=(List.all_eq_true.1 (List.all_takeWhile (p:=p) (l:=l))) _ U;rw[J]at this;cases this
theorem zpO{l:By}{k:Nat}(p:Int×Int)(out:List Tok)(h:l[i]?=some 35)(hk:((l.drop i).takeWhile λb=>decide (b≠10)).length=k):lxx (l.drop i) p out=lxx (l.drop (i+k)) (p.1,p.2+k) out:=by
 subst hk
 have J:tk (l.drop i)=some (((l.drop i).takeWhile λb=>decide (b≠10)).length,none):=by
  rw[zhy h];simp only[tk];rw[uu ub];rfl
 rw[zbK p out J,tv,zf4 ub];simp
variable {t:Int×Str×Int}
theorem znd{l:By}(p:Int×Int)(out:List Tok)(h:l[i]?=some c)(U:blB c=false)(hc:c≠35)(hw:wB c=true)(J:zks ((l.drop i).takeWhile wB)=some t):lxx (l.drop i) p out=lxx (l.drop (i+((l.drop i).takeWhile wB).length)) (p.1,p.2+((l.drop i).takeWhile wB).length) (out++[xS p t]):=by
 have hk:tk (l.drop i)=some (((l.drop i).takeWhile wB).length,some t):=by
  rw[zhy h]at J⊢;simp only[tk];rw[uu (by simp[U]),uu hc,uv hw,J];rfl
 rw[zbK p out hk,tv,zf4 ub];rfl
theorem zpP{l:By}(p:Int×Int)(out:List Tok)(h:l[i]?=some c)(U:blB c=false)(hc:c≠35)(hw:wB c=true)(J:zks ((l.drop i).takeWhile wB)=none):lxx (l.drop i) p out=([],p,7):=by
 rw[zhy h]at J⊢;refine zmM p out ?_;simp only[tk];rw[uu (by simp[U]),uu hc,uv hw,J];rfl
theorem zne: ∀y∈syms,∀b∈lst y,b≠10:=by decide+kernel
variable {y:Str}
theorem zpQ{l:By}(h:zkc l=some y)(q:Int×Int):(l.take y.size).foldl mvX q=(q.1,q.2+(y.size:Int)):=by
 obtain⟨J,h2⟩:=ziF h
 have e:l.take y.size=lst y:=by
  rw[<-vT];exact(Ue.1 (List.isPrefixOf_iff_prefix.1 h2)).symm
 rw[e,zhe _ _ (zne y J),vT]
theorem zpR{l:By}(p:Int×Int)(out:List Tok)(h:l[i]?=some c)(U:blB c=false)(hc:c≠35)(hw:wB c=false)(J:zkc (l.drop i)=some y):lxx (l.drop i) p out=lxx (l.drop (i+y.size)) (p.1,p.2+(y.size:Int)) (out++[xS p (4,y,0)]):=by
 have hk:tk (l.drop i)=some (y.size,some (4,y,0)):=by
  rw[zhy h]at J⊢;simp only[tk];rw[uu (by simp[U]),uu hc,uu (by simp[hw]),J];rfl
 rw[zbK p out hk,tv,zpQ J];rfl
theorem zsW{l:By}(p:Int×Int)(out:List Tok)(h:l[i]?=some c)(U:blB c=false)(hc:c≠35)(hw:wB c=false)(J:zkc (l.drop i)=none):lxx (l.drop i) p out=([],p,7):=by
 rw[zhy h]at J⊢;refine zmM p out ?_;simp only[tk];rw[uu (by simp[U]),uu hc,uu (by simp[hw]),J];rfl
theorem zf5(s:Str)(hs:s.size<=1000000):zh Tryz.prog 62 [Sr s] [] (.tup [pS (zpz (yI s).1),zF [ki (yI s).2.1.1,ki (yI s).2.1.2],I (yI s).2.2]) []:=by
 have hl:=vT s;by_cases hbig:65536<s.size
 ·have hR:yI s=([],(0,0),4):=uv hbig;rw[hR];refine gO T Tryz.func62 λC hC=>?_
  repeat' first|refine gG ?_|refine gB ?_ ?_<;>intro h
  all_goals first
   |exact zi ⟨.inl rfl,id,_,rfl,LeS.tup (.cons (LeS.one (.nil 5)) (.cons (.refl _) (.cons (.refl _) .nil))),trivial,rfl,rfl⟩
   |(exfalso;simp only[ur]at h;omega)
 have hR:yI s=lxx ((lst s).drop 0) (1,1) []:=uu hbig;generalize yI s=R at hR;refine gO T Tryz.func62 λC hC=>?_
 repeat' first|refine gG ?_|refine gB ?_ ?_<;>intro h
 ·exfalso;have:=uj h;omega
 refine gA 101 5 [(5,.one (.ar 101))] [] ?_
 refine zn (λq:Nat×Nat×Nat×List Tok=>q.1<=s.size/\q.2.2.1<=q.1/\q.2.1<=q.1+1/\q.2.2.2.length<=q.1/\R=lxx ((lst s).drop q.1) (q.2.1,(q.1:Int) - q.2.2.1+1) q.2.2.2) (λq=>([(0,Sr s),(3,.one (.bx 1003 0)),(5,.one (.ar 101)),(6,I q.2.1),(7,I q.2.2.1),(8,I q.1)],[(1003,some (Res.box [.p (ki 0),.p (ki 0)])),(101,some (Res.arr 5 (q.2.2.2.map zes)))])) (λq=>s.size - q.1) hC
  (0,1,0,[]) ⟨uz _,uz _,ub,uz _,hR⟩ id gM ?_
 rintro⟨i,ln,bg,out⟩ ⟨hi,hb,hlnn,hout,U⟩;simp only at hi hb hlnn hout U;refine zq T hC true 200 rfl ?_;refine zt rfl ?_ ?_<;>intro hh
 rotate_left
 ·have hge:i=s.size:=by have:=um hh;omega
  clear hh;rw[Uh ua,zsI]at U;subst U;have w1:IntKind.i64.wrap ((s.size:Int) - bg)=(s.size:Int) - bg:=wrap64 ua;have w2:IntKind.i64.wrap ((s.size:Int) - bg+1)=(s.size:Int) - bg+1:=wrap64 ua;have hol:(out.map zes).length=out.length:=uk _;have happ:out.map zes++[[ki 5,ks (⟨#[]⟩:UH),ki 0,ki ln,ki (IntKind.i64.wrap (IntKind.i64.wrap ((s.size:Int) - bg)+1))]]=(out++[(⟨5,(⟨#[]⟩:UH),0,ln,(i:Int) - bg+1⟩:Tok)]).map zes:=by rw[w1,w2,hge,u6];rfl
  repeat' first|refine gG ?_|refine gB ?_ ?_<;>intro h|refine ze ?_|refine gT ?_|(refine gY T 102 ((out++[(⟨5,(⟨#[]⟩:UH),0,ln,(i:Int) - bg+1⟩:Tok)]).map zes) 48 ?_)
  refine gZ 102 [(2,pS (zpz (out++[(⟨5,(⟨#[]⟩:UH),0,ln,(i:Int) - bg+1⟩:Tok)])))] [] ?_;exact gF
 have hlt:i<(lst s).length:=by have:=uj hh;omega
 clear hh;obtain⟨c,hc⟩:=zd hlt;have hK:=vJ c.toNat;have w1:IntKind.i64.wrap ((i:Int) - bg)=(i:Int) - bg:=wrap64 ua;have w2:IntKind.i64.wrap ((i:Int) - bg+1)=(i:Int) - bg+1:=wrap64 ua;cases hbl:blB c with
 |true=>
  have hcl:=znb.1 hbl;rw[zjS _ _ hc hbl]at U;rw[hcl]at hK
  repeat' first|refine gG ?_|exact gD|refine gB ?_ ?_<;>intro h|refine w9 T hC rfl rfl rfl (uE _) (jb hc) rfl rfl ?_|refine gC hK ?_
  ·have h10:c=10:=oL.1 (by have:=uj h;have e:(10:UInt8).toNat=10:=rfl;omega);subst h10;dsimp only;rw[y7 ua,y7 ua];refine zg (i+1,ln+1,i+1,out) ⟨by simp only;omega,uF _,by simp only;omega,by simp only;omega,?_⟩ id (by simp only;omega) gM;rw[U];simp[mvX]
  ·have h10:c≠10:=λe=>by subst e;exact absurd h ub
   dsimp only;rw[y7 ua];refine zg (i+1,ln,bg,out) ⟨by simp only;omega,by simp only;omega,by simp only;omega,by simp only;omega,?_⟩ id (by simp only;omega) gM;rw[U];unfold mvX;rw[uu h10]
   congr 2
   show(i:Int) - bg+1+1=((i+1:Nat):Int) - bg+1;omega
 |false=>
 have hcl:xr c.toNat≠1:=λe=>by rw[znb.2 e]at hbl;cases hbl
 by_cases h35:c=35
 ·subst h35;rw[show xr ((35:UInt8).toNat:Int)=0 from rfl]at hK
  repeat' first|refine gG ?_|exact gD|refine gB ?_ ?_<;>intro h|refine w9 T hC rfl rfl rfl (uE _) (jb hc) rfl rfl ?_|refine gC hK ?_
  all_goals (try (exfalso;revert h;decide))
  refine zn (λk:Nat=>i+k<=s.size/\(((lst s).drop i).take k).all (λb=>decide (b≠10))=true) (λk=>([(0,Sr s),(3,.one (.bx 1003 0)),(5,.one (.ar 101)),(6,I ln),(7,I bg),(8,I (i+k:Nat))],[(1003,some (Res.box [.p (ki 0),.p (ki 0)])),(101,some (Res.arr 5 (out.map zes)))])) (λk=>s.size - i - k) hC
   0 ⟨ua,ue⟩ id gM ?_
  rintro k ⟨hk,hall⟩
  have hcom:(∀x,((lst s).drop i)[k]?=some x->x=10)->0<k/\R=lxx ((lst s).drop (i+k)) (ln,((i+k:Nat):Int) - bg+1) out:=λJ=>by
   have htw:=zna _ k hall (λx h=>by simpa using J x h);refine⟨?_,?_⟩
   ·rcases q9 k with rfl|h
    ·have:=J 35 (by rw[uY];exact hc);cases this
    ·exact h
   ·rw[U,zpO _ _ hc (k:=k) (by rw[htw,td,tP];omega)];have e:(i:Int) - bg+1+k=((i+k:Nat):Int) - bg+1:=by omega
    show lxx _ ((ln:Int),(i:Int) - bg+1+k) out=_;rw[e]
  refine zq T hC true 200 rfl ?_;by_cases hj:i+k<s.size
  ·obtain⟨x,J⟩:=zd (l:=lst s) (i:=i+k) ua;have hxd:((lst s).drop i)[k]?=some x:=by rw[uY];exact J
   repeat' first|refine gG ?_|(exfalso;have h2:=um h;omega)|refine gB ?_ ?_<;>intro h|refine w9 T hC rfl rfl rfl (uE _) (jb J) rfl rfl ?_|refine ze ?_
   ·have hx10:x≠10:=λe=>by subst e;exact absurd h ub
    rw[y7 ua];exact zg (k+1) ⟨ua,by rw[x7 hxd,hall];simpa using hx10⟩ id ua gM
   ·obtain⟨h0,hL'⟩:=hcom λy hy=>by
     rw[hxd]at hy;obtain rfl:=uS hy;exact oL.1 (by have e2:(10:UInt8).toNat=10:=rfl;simp at h;omega)
    exact zg (i+k,ln,bg,out) ⟨by simp only;omega,by simp only;omega,by simp only;omega,by simp only;omega,hL'⟩ id (by simp only;omega) gM
  ·repeat' first|refine gG ?_|(exfalso;have h2:=uj h;omega)|refine gB ?_ ?_<;>intro h|refine ze ?_
   obtain⟨h0,hL'⟩:=hcom λy hy=>by
    rw[uY,qe ua]at hy;cases hy
   exact zg (i+k,ln,bg,out) ⟨by simp only;omega,by simp only;omega,by simp only;omega,by simp only;omega,hL'⟩ id (by simp only;omega) gM
 have hwd:= @znc c;have h35c: ¬(c.toNat:Int)=35:=λe=>h35 (oL.1 (by have e2:(35:UInt8).toNat=35:=rfl;omega))
 generalize hcv:xr (c.toNat:Int)=cv at hK hcl hwd;cases hw:wB c with
 |true=>
  rw[hw]at hwd;have hcw:2<=cv:=hwd.1 rfl
  repeat' first|refine gG ?_|(exfalso;have h2:=uj h;omega)|(exfalso;have h2:=um h;omega)|refine gB ?_ ?_<;>intro h|refine w9 T hC rfl rfl rfl (uE _) (jb hc) rfl rfl ?_|refine gC hK ?_
  dsimp only;rw[w1,w2]
  refine zn (λk:Nat=>i+k<=s.size/\(((lst s).drop i).take k).all wB=true) (λk=>([(0,Sr s),(3,.one (.bx 1003 0)),(5,.one (.ar 101)),(6,I ln),(7,I bg),(8,I i),(9,.one (.bx 1009 0)),(11,I (i+k:Nat))],[(1003,some (Res.box [.p (ki 0),.p (ki 0)])),(1009,some (Res.box [.p (ki ln),.p (ki ((i:Int) - bg+1))])),(101,some (Res.arr 5 (out.map zes)))])) (λk=>s.size - i - k) hC
   0 ⟨ua,ue⟩ id gM ?_
  rintro k ⟨hk,hall⟩
  have hwe:(∀x,((lst s).drop i)[k]?=some x->wB x=false)->0<k/\((lst s).drop i).takeWhile wB=((lst s).drop i).take k/\(((lst s).drop i).takeWhile wB).length=k:=λJ=>by
   have htw:=zna _ k hall J;refine⟨?_,htw,?_⟩
   ·rcases q9 k with rfl|h
    ·have:=J c (by rw[uY];exact hc);rw[hw]at this;cases this
    ·exact h
   ·rw[htw,td,tP];omega
  have hex:s.extract i (i+k)=za4 (((lst s).drop i).take k):=by rw[zak,show i+k - i=k by omega]
  have hlx:lst (s.extract ((i:Nat):Int).toNat ((i+k:Nat):Int).toNat)=((lst s).drop i).take k:=by rw[tD,tD,hex,zmK]
  have hW:=zjR (s.extract ((i:Nat):Int).toNat ((i+k:Nat):Int).toNat) (by rw[<-vT,hlx,td];omega);rw[hlx]at hW;have hol:(out.map zes).length=out.length:=uk _;by_cases hend: ∃x,(lst s)[i+k]?=some x/\wB x=true
  ·obtain⟨x,J,hwx⟩:=hend;have hxd:((lst s).drop i)[k]?=some x:=by rw[uY];exact J
   have hxl:=(uw.1 J).1;have hKx:=vJ x.toNat;have hcx:=znc.1 hwx;refine zq T hC true 200 rfl ?_
   repeat' first|refine gG ?_|(exfalso;have h2:=uj h;omega)|(exfalso;have h2:=um h;omega)|refine gB ?_ ?_<;>intro h|refine w9 T hC rfl rfl rfl (uE _) (jb J) rfl rfl ?_|refine gC hKx ?_
   rw[y7 ua];exact zg (k+1) ⟨ua,by rw[x7 hxd,hall,hwx];rfl⟩ id ua gM
  ·have hno: ∀x,((lst s).drop i)[k]?=some x->wB x=false:=λx J=>by
    rw[uY]at J;cases hwx:wB x with
    |false=>rfl
    |true=>exact absurd ⟨x,J,hwx⟩ hend
   obtain⟨h0,htw,hlen⟩:=hwe hno
   have hend2:s.size<=i+k\/ ∃x,(lst s)[i+k]?=some x/\ ¬2<=xr (x.toNat:Int):=by
    by_cases hz:s.size<=i+k
    ·exact .inl hz
    ·obtain⟨x,J⟩:=zd (l:=lst s) (i:=i+k) ua;refine .inr ⟨x,J,λe=>?_⟩;have:=hno x (by rw[uY];exact J);rw[znc.2 e]at this;cases this
   cases ht:zks (((lst s).drop i).take k)with
   |none=>
    have hW2:=hW.2 ht;have hbad:=zpP ((ln:Int),(i:Int) - bg+1) out hc hbl h35 hw (by rw[htw];exact ht);rw[hbad]at U;subst U;refine zq T hC true 200 rfl ?_;rcases hend2 with hz|⟨x,J,hcx⟩
    ·repeat' first|refine gG ?_|(exfalso;have h2:=uj h;omega)|(exfalso;have h2:=um h;omega)|refine gB ?_ ?_<;>intro h|refine ze ?_|(refine zdE hC rfl rfl rfl ud (uE _) ua ua rfl rfl ?_)|refine gC hW2 ?_|refine zo ?_
     exact zi ⟨.inl rfl,id,_,rfl,LeS.tup (.cons (LeS.one (.nil 5)) (.cons (.refl _) (.cons (.refl _) .nil))),trivial,rfl,rfl⟩
    ·have hKx:=vJ x.toNat;have hxl:=(uw.1 J).1
     repeat' first|refine gG ?_|(exfalso;have h2:=uj h;omega)|(exfalso;have h2:=um h;omega)|refine gB ?_ ?_<;>intro h|refine w9 T hC rfl rfl rfl (uE _) (jb J) rfl rfl ?_|refine gC hKx ?_|refine ze ?_|(refine zdE hC rfl rfl rfl ud (uE _) ua ua rfl rfl ?_)|refine gC hW2 ?_|refine zo ?_
     exact zi ⟨.inl rfl,id,_,rfl,LeS.tup (.cons (LeS.one (.nil 5)) (.cons (.refl _) (.cons (.refl _) .nil))),trivial,rfl,rfl⟩
   |some t=>
    have hW1:=hW.1 t ht;have hgo:=znd ((ln:Int),(i:Int) - bg+1) out hc hbl h35 hw (t:=t) (by rw[htw];exact ht);rw[hlen]at hgo;rw[hgo]at U;have e:(i:Int) - bg+1+k=((i+k:Nat):Int) - bg+1:=by omega
    simp only[e]at U;have happ:out.map zes++[zes (xS ((ln:Int),(i:Int) - bg+1) t)]=(out++[xS ((ln:Int),(i:Int) - bg+1) t]).map zes:=by rw[u6];rfl
    refine zq T hC true 200 rfl ?_;rcases hend2 with hz|⟨x,J,hcx⟩
    ·repeat' first|refine gG ?_|(exfalso;have h2:=uj h;omega)|(exfalso;have h2:=um h;omega)|refine gB ?_ ?_<;>intro h|refine ze ?_|(refine zdE hC rfl rfl rfl ud (uE _) ua ua rfl rfl ?_)|refine gC hW1 ?_|refine gT ?_|(refine gY T 102 ((out++[xS ((ln:Int),(i:Int) - bg+1) t]).map zes) 48 ?_)|refine zo ?_
     exact zg (i+k,ln,bg,out++[xS ((ln:Int),(i:Int) - bg+1) t]) ⟨by simp only;omega,by simp only;omega,by simp only;omega,by simp only[uC,uD];omega,U⟩ (mvU 101 102) (by simp only;omega) ⟨rfl,⟨rfl,rfl,rfl,rfl,rfl,rfl,uh⟩,⟨rfl,rfl,uh⟩,rfl,λi hi=>zhx ua hi⟩
    ·have hKx:=vJ x.toNat;have hxl:=(uw.1 J).1
     repeat' first|refine gG ?_|(exfalso;have h2:=uj h;omega)|(exfalso;have h2:=um h;omega)|refine gB ?_ ?_<;>intro h|refine w9 T hC rfl rfl rfl (uE _) (jb J) rfl rfl ?_|refine gC hKx ?_|refine ze ?_|(refine zdE hC rfl rfl rfl ud (uE _) ua ua rfl rfl ?_)|refine gC hW1 ?_|refine gT ?_|(refine gY T 102 ((out++[xS ((ln:Int),(i:Int) - bg+1) t]).map zes) 48 ?_)|refine zo ?_
     exact zg (i+k,ln,bg,out++[xS ((ln:Int),(i:Int) - bg+1) t]) ⟨by simp only;omega,by simp only;omega,by simp only;omega,by simp only[uC,uD];omega,U⟩ (mvU 101 102) (by simp only;omega) ⟨rfl,⟨rfl,rfl,rfl,rfl,rfl,rfl,uh⟩,⟨rfl,rfl,uh⟩,rfl,λi hi=>zhx ua hi⟩
 |false=>
  rw[hw]at hwd;have hcw: ¬2<=cv:=λe=>by have:=hwd.2 e;cases this
  repeat' first|refine gG ?_|(exfalso;have h2:=uj h;omega)|(exfalso;have h2:=um h;omega)|refine gB ?_ ?_<;>intro h|refine w9 T hC rfl rfl rfl (uE _) (jb hc) rfl rfl ?_|refine gC hK ?_
  dsimp only;rw[w1,w2];have hsx:lst (s.extract ((i:Nat):Int).toNat s.size)=(lst s).drop i:=by rw[tD,zak,zmK,u5 (by rw[tP];omega)]
  have hS:=zm9 (s.extract ((i:Nat):Int).toNat s.size);rw[hsx]at hS;have hol:(out.map zes).length=out.length:=uk _;cases hy:zkc ((lst s).drop i)with
  |none=>
   rw[hy]at hS;have hbad:=zsW ((ln:Int),(i:Int) - bg+1) out hc hbl h35 hw hy;rw[hbad]at U;subst U
   repeat' first|refine gG ?_|(exfalso;exact absurd h ub)|refine gB ?_ ?_<;>intro h|(refine zhG hC rfl rfl ud (uE _) ua rfl rfl ?_)|refine gC hS ?_|refine zo ?_
   exact zi ⟨.inl rfl,id,_,rfl,LeS.tup (.cons (LeS.one (.nil 5)) (.cons (.refl _) (.cons (.refl _) .nil))),trivial,rfl,rfl⟩
  |some y=>
   rw[hy]at hS;have hys:=ziF hy;have hyz:=zfX y hys.1;have hyl:=jz hys.2;rw[vT,tP]at hyl;have hyne:y≠⟨#[]⟩:=λe=>by subst e;exact absurd hyz.1 ub
   have hgo:=zpR ((ln:Int),(i:Int) - bg+1) out hc hbl h35 hw hy;rw[hgo]at U;have e:(i:Int) - bg+1+(y.size:Int)=((i+y.size:Nat):Int) - bg+1:=by omega
   simp only[e]at U;have happ:out.map zes++[zes (xS ((ln:Int),(i:Int) - bg+1) (4,y,0))]=(out++[xS ((ln:Int),(i:Int) - bg+1) (4,y,0)]).map zes:=by rw[u6];rfl
   repeat' first|refine gG ?_|(exfalso;exact hyne (uj h))|refine gB ?_ ?_<;>intro h|(refine zhG hC rfl rfl ud (uE _) ua rfl rfl ?_)|refine gC hS ?_|refine gT ?_|(refine gY T 102 ((out++[xS ((ln:Int),(i:Int) - bg+1) (4,y,0)]).map zes) 48 ?_)|refine zo ?_
   show Goal _ _ _ _ _ ((8,Kk IntKind.i64 (IntKind.i64.wrap ((i:Int)+(y.size:Int))))::_) _ _;rw[show IntKind.i64.wrap ((i:Int)+(y.size:Int))=((i+y.size:Nat):Int) from by rw[wrap64 ua];omega];exact zg (i+y.size,ln,bg,out++[xS ((ln:Int),(i:Int) - bg+1) (4,y,0)]) ⟨by simp only;omega,by simp only;omega,by simp only;omega,by simp only[uC,uD];omega,U⟩ (mvU 101 102) (by simp only;omega) ⟨rfl,⟨rfl,rfl,rfl,rfl,rfl,rfl,uh⟩,⟨rfl,rfl,uh⟩,rfl,λi hi=>zhx ua hi⟩
def zsX(s:Str):Bool:=syms.any λx=>decide (x=s)
def jW(t:Tok):Bool:=if t.k=1 then isName t.t&&decide (t.n=0)else if t.k=3 then wg t.t&&decide (t.n=0)else if t.k=4 then zsX t.t&&decide (t.n=0)else if t.k=2 then decide (t.t=(⟨#[]⟩:UH))&&(decide (0<=t.n)&&decide (t.n<=1099511627776))else if t.k=5 then decide (t.t=(⟨#[]⟩:UH))&&decide (t.n=0)else false
theorem znf(s:Str):zsX s=true↔s∈syms:=by
 unfold zsX;rw[List.any_eq_true];exact⟨λ⟨x,J,h2⟩=>by have:=uj h2;subst this;exact J,λh=>⟨s,h,uT rfl⟩⟩
def ltP(a b:Int×Int):Prop:=a.1<b.1\/a.1=b.1/\a.2<b.2
theorem ltP.trans{a b c:Int×Int}(h:ltP a b)(h2:ltP b c):ltP a c:=by unfold ltP at *; omega
theorem zqP(p:Int×Int)(c:UInt8)(_hp:1<=p.2):ltP p (mvX p c):=by
 unfold mvX ltP;split
 ·left;simp only;omega
 ·right;refine⟨rfl,?_⟩;simp only;omega
theorem zqQ{p:Int×Int}(c:UInt8)(h:1<=p.1/\1<=p.2):1<=(mvX p c).1/\1<=(mvX p c).2:=by
 unfold mvX;split
 ·simp only;omega
 ·simp only;omega
theorem zng: ∀(l:By) {p:Int×Int},(1<=p.1/\1<=p.2)->1<=(l.foldl mvX p).1/\1<=(l.foldl mvX p).2
 | [],_,h=>h
 |c::l,_,h=>zng l (zqQ c h)
theorem znh: ∀(l:By) {p:Int×Int},(1<=p.1/\1<=p.2)->l≠ []->ltP p (l.foldl mvX p)
 | [],_,_,h=>absurd rfl h
 | [c],p,h,_=>zqP p c h.2
 |c::d::l,p,h,_=>(zqP p c h.2).trans (znh (d::l) (zqQ c h) ue)
def zvi(t:Tok):Int×Int:=(t.ln,t.cl)
structure znR (out:List Tok) (p:Int×Int):Prop where
 pos:1<=p.1/\1<=p.2
 each: ∀t∈out,jW t=true/\t.k≠5/\1<=t.ln/\1<=t.cl/\ltP (zvi t) p
 asc: ∀(i:Nat) x y,out[i]?=some x->out[i+1]?=some y->ltP (zvi x) (zvi y)
variable {out:List Tok}{q:Int×Int}
theorem znR.move{p:Int×Int}(h:znR out p)(J:1<=q.1/\1<=q.2)(hl:ltP p q):znR out q:=
 ⟨J,λt U=>let ⟨a,b,c,d,e⟩:=h.each t U;⟨a,b,c,d,e.trans hl⟩,h.asc⟩
theorem znR.add{p:Int×Int}(h:znR out p)(hq:1<=q.1/\1<=q.2)(hl:ltP p q){t:Tok}(hv:jW t=true)(h5:t.k≠5)(ht:zvi t=p):znR (out++[t]) q:=by
 refine⟨hq,λu U=>?_,λi x y hx J=>?_⟩
 ·rcases tj.1 U with U|U
  ·exact(h.move hq hl).each u U
  ·obtain rfl:=tB.1 U;have e1:u.ln=p.1:=uX Prod.fst ht;have e2:u.cl=p.2:=uX Prod.snd ht;exact⟨hv,h5,by rw[e1];exact h.pos.1,by rw[e2];exact h.pos.2,by rw[ht];exact hl⟩
 ·have hlen:=(uw.1 J).1;simp only[uC,uD]at hlen;rw[u9 ua]at hx;rcases tp (i+1) out.length with h1|h1
  ·rw[u9 h1]at J;exact h.asc i x y hx J
  ·rw[u7 h1,show i+1 - out.length=0 by omega]at J;simp only[List.getElem?_cons_zero,ui]at J;subst J;rw[ht];exact(h.each x (List.mem_of_getElem? hx)).2.2.2.2
theorem zjT(h:zks w=some t)(p:Int×Int):jW (xS p t)=true/\(xS p t).k≠5:=by
 unfold zks at h;split at h
 ·rename_i hk;simp only[ui]at h;subst h;refine⟨?_,by show(3:Int)≠5;decide⟩;unfold jW xS;simp[hk]
 ·split at h
  ·rename_i hk;simp only[ui]at h;subst h;refine⟨?_,by show(1:Int)≠5;decide⟩;unfold jW xS;simp[hk]
  ·split at h
   ·rename_i J;simp only[ui]at h;subst h;refine⟨?_,by show(2:Int)≠5;decide⟩;unfold zeu at J;simp only[uo,uq]at J;have U:=zsV J.1.2;unfold jW xS;simp only;simp[U,J.2]
   ·cases h
theorem zpS{l:By}{n:Nat}(h:tk l=some (n,some t))(p:Int×Int):jW (xS p t)=true/\(xS p t).k≠5:=by
 cases l with
 |nil=>cases h
 |cons c r=>
  simp only[tk]at h;split at h
  ·simp at h
  ·split at h
   ·simp at h
   ·split at h
    ·rw[uM]at h;obtain⟨u,J,h⟩:=h;simp only[uB,ui]at h;rw[<-h.2];exact zjT J p
    ·rw[uM]at h;obtain⟨y,U,h⟩:=h;simp only[uB,ui]at h;rw[<-h.2];refine⟨?_,by show(4:Int)≠5;decide⟩;have:=(znf y).2 (ziF U).1;unfold jW xS;simp[this]
theorem zni: ∀(f:Nat) (l:By) (p:Int×Int) (out:List Tok),l.length<f->znR out p->
 (∃o q,lx f l p out=(o++[⟨5,(⟨#[]⟩:UH),0,q.1,q.2⟩],(0,0),0)/\znR o q/\o.length<=out.length+l.length)\/ ∃q,lx f l p out=([],q,7)
 |0,l,_,_,h,_=>absurd h (oc _)
 |f+1,[],p,out,_,h=> .inl ⟨out,p,rfl,h,ue⟩
 |f+1,c::r,p,out,hf,h=>by
  simp only[lx];cases e:tk (c::r)with
  |none=>exact .inr ⟨p,rfl⟩
  |some x=>
   obtain⟨n,o⟩:=x;have hp:=zmL e;simp only[uR]at hf hp;have hd:((c::r).drop n).length=r.length+1 - n:=by rw[tP,uR]
   have J:(c::r).take n≠ []:=λe=>by have:=uX List.length e;simp at this;omega
   have hq:=zng ((c::r).take n) h.pos;have hl:=znh ((c::r).take n) h.pos J;simp only;cases o with
   |none=>
    rw[show out++((none:Option (Int×Str×Int)).map (xS p)).toList=out by simp];rcases zni f ((c::r).drop n) (((c::r).take n).foldl mvX p) out ua (h.move hq hl)with⟨o',q,U,e2,e3⟩|h2
    ·exact .inl ⟨o',q,U,e2,by simp only[uR];omega⟩
    ·exact .inr h2
   |some t=>
    have hv:=zpS e p;rw[show out++((some t).map (xS p)).toList=out++[xS p t] by simp];rcases zni f ((c::r).drop n) (((c::r).take n).foldl mvX p) (out++[xS p t]) ua (h.add hq hl hv.1 hv.2 rfl)with⟨o',q,U,e2,e3⟩|h2
    ·refine .inl ⟨o',q,U,e2,?_⟩;simp only[uC,uR,qh]at e3 ⊢; omega
    ·exact .inr h2
theorem zf6(s:Str)(hs:s.size<=65536):(∃o q,yI s=(o++[⟨5,(⟨#[]⟩:UH),0,q.1,q.2⟩],(0,0),0)/\znR o q/\o.length<=s.size)\/ ∃q,yI s=([],q,7):=by
 unfold yI;rw[uu ua];rcases zni ((lst s).length+1) (lst s) (1,1) [] (qJ _) ⟨⟨ub,ub⟩,(λt U=>by cases U),(λi x y hx=>by cases hx)⟩with⟨o,q,e1,e2,J⟩|h
 ·exact .inl ⟨o,q,e1,e2,by rw[vT]at J;simpa using J⟩
 ·exact .inr h
theorem znj{t:Tok}(h:jW t=true):0<=t.n/\t.n<=1099511627776:=by
 unfold jW at h
 repeat' (split at h)
 all_goals first
  |(simp only[uo,uq]at h;omega)
  |cases h
theorem zpT{o:List Tok}(h:znR o q)(hl:o.length<=65536):w6 (o++[⟨5,(⟨#[]⟩:UH),0,q.1,q.2⟩]):=by
 refine⟨by rw[uC,uD];omega,⟨_,by rw[uC,uD,Nat.add_sub_cancel,u7 (uF _),qZ];rfl,rfl⟩,λt U=>?_⟩;rcases tj.1 U with J|J
 ·exact znj (h.each t J).1
 ·obtain rfl:=tB.1 J;exact⟨qw _,by show(0:Int)<=1099511627776;decide⟩
theorem zhz(s:Str):(∃l,yI s=(l,(0,0),0)/\w6 l/\l.length<=s.size+1)\/ ∃q e,yI s=([],q,e)/\(e=7\/e=4):=by
 by_cases U:s.size<=65536
 ·rcases zf6 s U with⟨o,q,J,h2,h3⟩|⟨q,J⟩
  ·exact .inl ⟨_,J,zpT h2 ua,by rw[uC,uD];omega⟩
  ·exact .inr ⟨q,7,J,.inl rfl⟩
 ·exact .inr ⟨(0,0),4,by unfold yI;rw[uv ua],.inr rfl⟩
end Hw.Gm.Ps
namespace Hw.Gm.Ps
open Go Go.Proofs Hw.M
abbrev zwr(p:Int×Int):S:=zF [ki p.1,ki p.2]
variable {i:Nat}
section
variable {l:List Tok} (hl:w6 l)
include hl
theorem zsY{t:Tok}(J:l[i]?=some t)(b:Bool):zh Tryz.prog 66 [rdV] [(0,rdR l i b)] (.tup [zwr (if b=false/\t.k=5 then(0,0)else(t.ln,t.cl)),I (if t.k=5 then if b then 8 else 0 else 7)]) [(0,rdR l i b)]:=by
 have hll:=hl.len;have hi:=(uw.1 J).1;obtain⟨tk,ts,tn,tl,tc⟩:=t;simp only;by_cases hk:tk=5
 ·subst hk;cases b with
  |true=>
   refine gO T Tryz.func66 λC hC=>?_
   repeat' first|refine gG ?_|exact gD|refine gB ?_ ?_<;>intro h|refine gI T (zl J) ?_|refine gL ?_
   exact gE
  |false=>
   refine gO T Tryz.func66 λC hC=>?_
   repeat' first|refine gG ?_|exact gD|refine gB ?_ ?_<;>intro h|refine gI T (zl J) ?_|refine gL ?_
   exact gE
 ·simp only[hk,UB,uL];cases b with
  |true=>
   refine gO T Tryz.func66 λC hC=>?_
   repeat' first|refine gG ?_|(exfalso;exact absurd (uj h) hk)|refine gB ?_ ?_<;>intro h|refine gI T (zl J) ?_|refine gL ?_
   exact gE
  |false=>
   refine gO T Tryz.func66 λC hC=>?_
   repeat' first|refine gG ?_|(exfalso;exact absurd (uj h) hk)|refine gB ?_ ?_<;>intro h|refine gI T (zl J) ?_|refine gL ?_
   exact gE
end
def D0:zj:=⟨(⟨#[]⟩:UH),[],[],[],[],[],[],[]⟩
def topD(l:List Tok):zj×(Int×Int)×Int:=match zeX l (10*l.length+13)with
 | .ok x j=>match l[j]? with
   |some t=>if t.k=5 then if yx x=true then(x,(0,0),0)else(D0,(0,0),4)else(D0,(t.ln,t.cl),7)
   |none=>(D0,(0,0),0)
 | .no j=>match l[j]? with
   |some t=>(D0,(t.ln,t.cl),if t.k=5 then 8 else 7)
   |none=>(D0,(0,0),0)
 | .out=>(D0,(0,0),0)
def xo(s:Str):zj×(Int×Int)×Int:=if(yI s).2.2=0 then topD (yI s).1 else(D0,(yI s).2.1,(yI s).2.2)
def mv7(i:Nat):Nat:=match Nat.ble 101 i&&Nat.ble i 107 with
 |true=>i+100
 |false=>i
theorem zsZ(hi:i<100):mv7 i=i:=by
 unfold mv7;rw[show Nat.ble 101 i=false from by rw[Bool.eq_false_iff];intro h;have:=uV h;omega];rfl
def dRb(d:zj):RL:=[(1009,.box [.p (ks d.n),.ar 101,.ar 102,.ar 103,.ar 104,.ar 105,.ar 106,.ar 107]),(101,.arr 2 (d.types.map zS)),(102,.arr 2 (d.globals.map zw)),(103,.arr 5 (d.procs.map zZ)),(104,.arr 7 (d.measures.map yq)),(105,.arr 6 (d.invs.map zgH)),(106,.arr 5 (d.pots.map zc5)),(107,.arr 5 (d.bounds.map xC))]
abbrev zD:Res:= .box (zV [ZK.str,ZK.slice,ZK.slice,ZK.slice,ZK.slice,ZK.slice,ZK.slice,ZK.slice])
theorem zgn{l:List Tok}{a b:Str}(J:isA l i a=true)(h2:isA l i b=true):a=b:=by
 unfold isA at J h2;split at J
 ·rename_i t U;rw[U]at h2;simp only[uo,uq]at J h2;rw[<-J.2,h2.2]
 ·cases J
theorem zs0{l:List Tok}(h:kwI l i=true): ¬isA l i ⟨#[125]⟩=true:=by
 intro h2;unfold kwI at h;simp only[uU]at h;rcases h with(((((h|h)|h)|h)|h)|h)|h
 all_goals exact absurd (zgn h h2) ub
theorem zpU{l:List Tok}{f:Nat}{d:zj}(h:kwI l i=false):zhh l f i d=some (d,i,true):=by
 unfold kwI at h;simp only[uW]at h;obtain⟨⟨⟨⟨⟨⟨J,h2⟩,h3⟩,h4⟩,U⟩,h6⟩,h7⟩:=h;unfold zhh;rw[J,h2,h3,h4,U,h6,h7];rfl
theorem zpV{s:Str}(h:(xo s).2.2=0)(hv:yx (xo s).1=true): ∃l,yI s=(l,(0,0),0)/\w6 l/\ ∃j t,zeX l (10*l.length+13)= .ok (xo s).1 j/\l[j]?=some t/\t.k=5:=by
 have J:yx D0=true->False:=by decide
 rcases zhz s with⟨l,U,hl,_⟩|⟨⟨q1,q2⟩,e,U,h74⟩
 ·refine⟨l,U,hl,?_⟩;unfold xo at h hv⊢;rw[U]at h hv⊢;simp only[uZ]at h hv⊢;unfold topD at h hv⊢;cases hx:zeX l (10*l.length+13)with
  |out=>rw[hx]at hv;exact(J hv).elim
  |no j=>rw[hx]at hv;simp only at hv;split at hv<;>exact(J hv).elim
  |ok x j=>
   rw[hx]at h hv;simp only at h hv⊢;cases ht:l[j]? with
   |none=>rw[ht]at hv;exact(J hv).elim
   |some t=>
    rw[ht]at h hv;simp only at h hv⊢;by_cases h5:t.k=5
    ·rw[uv h5]at hv⊢;by_cases hw:yx x=true
     ·rw[uv hw];exact⟨j,t,rfl,ht,h5⟩
     ·rw[uu hw]at hv;exact(J hv).elim
    ·rw[uu h5]at hv;exact(J hv).elim
 ·unfold xo at hv;rw[U]at hv;simp only at hv;rw[uu ua]at hv;exact(J hv).elim
set_option maxHeartbeats 2000000 in
theorem zcK{s:Str}(hs:s.size<=1000000)(h:(xo s).2.2=0)(hv:yx (xo s).1=true):zh Tryz.prog 44 [Sr s] [] (.tup [zF (zJ (xo s).1),zwr (0,0),I 0]) []:=by
 have hT:=zf5 s hs;obtain⟨l,he,hl,jf,t,hx,ht,h5⟩:=zpV h hv;have hV:=wV (xo s).1;rw[hv]at hV;generalize (xo s).1=xf at*;rw[he]at hT;simp only at hT;have hll:=hl.len
 have h0:0<l.length:=by
  have:=(uw.1 ht).1;omega
 generalize hF:10*l.length+13=F at hx
 have hx:zpC l F=some (xf,jf,false):=by
  have hJ:=zsO (l:=l) F;rw[hx]at hJ;cases e:zpC l F with
  |none=>rw[e]at hJ;cases hJ
  |some q=>
   obtain⟨y,k,b⟩:=q;rw[e]at hJ;cases b<;>cases hJ;rfl
 obtain⟨_,k1,b1,e1,hR1⟩:=tgo (b:=false) (w:=D0) (k:=0) hx () rfl;obtain⟨hk1,c1⟩:=vl hl h0 false _ _ _ _ e1;obtain⟨n,k2,b2,e2,hR2⟩:=tgo hR1 (⟨#[]⟩:UH) rfl;obtain⟨hk2,c2⟩:=vY hl hk1 b1 _ _ _ e2;obtain⟨_,k3,b3,e3,hR3⟩:=tgo hR2 () rfl;obtain⟨hk3,c3⟩:=vl hl hk2 b2 _ _ _ _ e3;cases b3 with
 |true=>cases hR3
 |false=>
 have hEnd:=zsY hl ht false;simp only[h5,and_self,uZ]at hEnd;clear e1 e2 e3 hR1 hR2 hx;refine gO T Tryz.func44 λC hC=>?_
 repeat' first|refine gG ?_|exact gD|refine gB ?_ ?_<;>intro h|refine gC hT ?_|refine gR c1 (nm [1025]) ?_|refine gR c2 (nm [1025]) ?_|refine gR c3 (nm [1025]) ?_
 refine gA 101 2 [] [(1009,[.p (ks n),.ar 101,.p (.k (.slice none 0 0)),.p (.k (.slice none 0 0)),.p (.k (.slice none 0 0)),.p (.k (.slice none 0 0)),.p (.k (.slice none 0 0)),.p (.k (.slice none 0 0))])] ?_;refine gA 102 2 [] [(1009,[.p (ks n),.ar 101,.ar 102,.p (.k (.slice none 0 0)),.p (.k (.slice none 0 0)),.p (.k (.slice none 0 0)),.p (.k (.slice none 0 0)),.p (.k (.slice none 0 0))])] ?_;refine gA 103 5 [] [(1009,[.p (ks n),.ar 101,.ar 102,.ar 103,.p (.k (.slice none 0 0)),.p (.k (.slice none 0 0)),.p (.k (.slice none 0 0)),.p (.k (.slice none 0 0))])] ?_;refine gA 104 7 [] [(1009,[.p (ks n),.ar 101,.ar 102,.ar 103,.ar 104,.p (.k (.slice none 0 0)),.p (.k (.slice none 0 0)),.p (.k (.slice none 0 0))])] ?_;refine gA 105 6 [] [(1009,[.p (ks n),.ar 101,.ar 102,.ar 103,.ar 104,.ar 105,.p (.k (.slice none 0 0)),.p (.k (.slice none 0 0))])] ?_;refine gA 106 5 [] [(1009,[.p (ks n),.ar 101,.ar 102,.ar 103,.ar 104,.ar 105,.ar 106,.p (.k (.slice none 0 0))])] ?_;refine gA 107 5 [] [(1009,[.p (ks n),.ar 101,.ar 102,.ar 103,.ar 104,.ar 105,.ar 106,.ar 107])] ?_
 refine zn (λq:zj×Nat×Nat=>q.2.1<l.length/\ziO q.1+q.2.2<=F/\tJ false q.1 q.2.1 (itemsJ l F q.2.2 q.2.1 q.1)=some (xf,jf,false))
  (λq=>([(2,.one (.bx 1002 0)),(3,.one (.bx 1003 0)),(8,.one (.bx 1025 0)),(9,.one (.bx 1009 0))],(1002,some zD)::(1003,some (Res.box (zV [ZK.int .i64,ZK.int .i64])))::(1025,some (rdR l q.2.1 false))::tb (dRb q.1))) (λq=>q.2.2) hC
  (⟨n,[],[],[],[],[],[],[]⟩,k3,F) ⟨hk3,Nat.le_of_eq (tC _),hR3⟩ id gM ?_
 clear hR3 hk3 c1 c2 c3 hT;rintro⟨d,k,g⟩ ⟨hk,hcd,J⟩;simp only at hk hcd J;cases g with
 |zero=>simp only[tJ,itemsJ]at J;cases J
 |succ g=>
 simp only[tJ,itemsJ]at J;by_cases U:kwI l k=true
 ·rw[uu (zs0 U)]at J;obtain⟨d2,j2,b2,e4,hd2⟩:=tgo (b:=false) (w:=d) (k:=k) J d rfl;obtain⟨hj2,hc2,hI⟩:=zpM hl F k d hk ua e4 U;cases b2 with
  |true=>cases hd2
  |false=>
  repeat' first|refine gG ?_|exact gD|refine gB ?_ ?_<;>intro h|refine gR hI (nm [1025,1009,101,102,103,104,105,106,107,201,202,203,204,205,206,207]) ?_
  exact zg (d2,j2,g) ⟨hj2,by simp only;omega,hd2⟩ mv7 (qJ _) ⟨rfl,⟨rfl,rfl,rfl,rfl,uh⟩,⟨rfl,rfl,rfl,rfl,rfl,rfl,rfl,rfl,rfl,rfl,rfl,uh⟩,rfl,λi hi=>zsZ hi⟩
 ·rw[qL]at U
  have hfin:vX l ⟨#[125]⟩ k=some ((),jf,false)/\xf=d:=by
   unfold vX;by_cases hq:isA l k ⟨#[125]⟩=true
   ·rw[uv hq]at J ⊢; cases J;exact⟨rfl,rfl⟩
   ·rw[uu hq,zpU U]at J;cases J
  obtain⟨ho,rfl⟩:=hfin;obtain⟨_,hTk⟩:=xJ hl k hk _ _ _ _ ho;clear J ho
  repeat' first|refine gG ?_|exact gD|refine gB ?_ ?_<;>intro h|refine zu hC ((zpL hl 0 _ _ hk uf)) (nm [1025,1009,101,102,103,104,105,106,107]) rfl rfl (zH.refl _) rfl rfl rfl rfl rfl rfl rfl rfl ?_|refine ze ?_|refine gR hTk (nm [1025]) ?_
  refine gZ 101 [] [(1009,[.p (ks xf.n),.p (.sl 2 (xf.types.map zS)),.ar 102,.ar 103,.ar 104,.ar 105,.ar 106,.ar 107])] ?_;refine gZ 102 [] [(1009,[.p (ks xf.n),.p (.sl 2 (xf.types.map zS)),.p (.sl 2 (xf.globals.map zw)),.ar 103,.ar 104,.ar 105,.ar 106,.ar 107])] ?_;refine gZ 103 [] [(1009,[.p (ks xf.n),.p (.sl 2 (xf.types.map zS)),.p (.sl 2 (xf.globals.map zw)),.p (.sl 5 (xf.procs.map zZ)),.ar 104,.ar 105,.ar 106,.ar 107])] ?_;refine gZ 104 [] [(1009,[.p (ks xf.n),.p (.sl 2 (xf.types.map zS)),.p (.sl 2 (xf.globals.map zw)),.p (.sl 5 (xf.procs.map zZ)),.p (.sl 7 (xf.measures.map yq)),.ar 105,.ar 106,.ar 107])] ?_;refine gZ 105 [] [(1009,[.p (ks xf.n),.p (.sl 2 (xf.types.map zS)),.p (.sl 2 (xf.globals.map zw)),.p (.sl 5 (xf.procs.map zZ)),.p (.sl 7 (xf.measures.map yq)),.p (.sl 6 (xf.invs.map zgH)),.ar 106,.ar 107])] ?_;refine gZ 106 [] [(1009,[.p (ks xf.n),.p (.sl 2 (xf.types.map zS)),.p (.sl 2 (xf.globals.map zw)),.p (.sl 5 (xf.procs.map zZ)),.p (.sl 7 (xf.measures.map yq)),.p (.sl 6 (xf.invs.map zgH)),.p (.sl 5 (xf.pots.map zc5)),.ar 107])] ?_;refine gZ 107 [] [(1009,[.p (ks xf.n),.p (.sl 2 (xf.types.map zS)),.p (.sl 2 (xf.globals.map zw)),.p (.sl 5 (xf.procs.map zZ)),.p (.sl 7 (xf.measures.map yq)),.p (.sl 6 (xf.invs.map zgH)),.p (.sl 5 (xf.pots.map zc5)),.p (.sl 5 (xf.bounds.map xC))])] ?_
  repeat' first|refine gG ?_|exact gD|refine gB ?_ ?_<;>intro h|refine gR hEnd (nm [1025]) ?_|refine gC hV ?_|refine gL ?_
  exact gF
variable {α:Type}
def PA.sh(d:Nat):PA α->PA α
 | .ok x i=> .ok x (d+i)
 | .no i=> .no (d+i)
 | .out=> .out
variable {d:Nat}
theorem shB{β:Type}{r r':PA α}{f g:α->Nat->PA β}(h:r=PA.sh d r')(hf: ∀x i,f x (d+i)=PA.sh d (g x i)):r.bind f=PA.sh d (r'.bind g):=by
 subst h;cases r' with
 |ok x i=>exact hf x i
 |no i=>rfl
 |out=>rfl
theorem shI{c:Prop}[Decidable c]{J:Prop}[Decidable J]{a b U b':PA α}(hc:c↔J)(h1:a=PA.sh d U)(h2:b=PA.sh d b'):(if c then a else b)=PA.sh d (if J then U else b'):=by
 by_cases h:c
 ·rw[uv h,uv (hc.1 h)];exact h1
 ·rw[uu h,uu (λe=>h (hc.2 e))];exact h2
section
variable (l:List Tok) (d:Nat)
theorem jP(i:Nat)(s:Str):isA l (d+i) s=isA (l.drop d) i s:=by unfold isA;rw[uY]
theorem zU(i:Nat)(s:Str):isA l (d+i) s=true↔isA (l.drop d) i s=true:=by rw[jP]
theorem yO(s:Str)(i:Nat):jd l s (d+i)=PA.sh d (jd (l.drop d) s i):=shI (zU ..) rfl rfl
theorem xl(i:Nat):wI l (d+i)=PA.sh d (wI (l.drop d) i):=by
 unfold wI;rw[uY];split
 ·exact shI .rfl rfl rfl
 ·rfl
theorem zkr(i:Nat):ztm l (d+i)=PA.sh d (ztm (l.drop d) i):=by
 unfold ztm;rw[uY];split
 ·exact shI .rfl rfl rfl
 ·rfl
theorem zkp(i:Nat):zn4 l (d+i)=PA.sh d (zn4 (l.drop d) i):=shI (zU ..) rfl (shI (zU ..) rfl (xl ..))
theorem zbT(i:Nat):vb l (d+i)=PA.sh d (vb (l.drop d) i):=shB (xl ..) λ_ _=>shB (zkp ..) λ_ _=>rfl
theorem zuJ(i n:Nat):opA l (d+i) n=opA (l.drop d) i n:=by unfold opA;simp only[jP]
theorem zdI(sep fin:Str): ∀(f i:Nat) (a:List Fld),listA l sep fin (vb l) f (d+i) a=PA.sh d (listA (l.drop d) sep fin (vb (l.drop d)) f i a)
 |0,_,_=>rfl
 |f+1,i,a=>shI (zU ..) rfl (shB (shI .rfl rfl (yO ..)) λ_ _=>shB (zbT ..) λ_ _=>zdI sep fin f _ _)
structure XS (f:Nat):Prop where
 ex: ∀n i,exprA l f n (d+i)=PA.sh d (exprA (l.drop d) f n i)
 mo: ∀n x i,moreA l f n x (d+i)=PA.sh d (moreA (l.drop d) f n x i)
 po: ∀i,postA l f (d+i)=PA.sh d (postA (l.drop d) f i)
 dt: ∀x i,dotsA l f x (d+i)=PA.sh d (dotsA (l.drop d) f x i)
 ag: ∀i a,argsP l f (d+i) a=PA.sh d (argsP (l.drop d) f i a)
 pt: ∀k i a,partsA l f k (d+i) a=PA.sh d (partsA (l.drop d) f k i a)
 pr: ∀i,primA l f (d+i)=PA.sh d (primA (l.drop d) f i)
theorem znk: ∀f:Nat,XS l d f
 |0=>⟨λ_ _=>by simp only[exprA];rfl,λ_ _ _=>by simp only[moreA];rfl,λ_=>by simp only[postA];rfl,λ_ _=>by simp only[dotsA];rfl,λ_ _=>by simp only[argsP];rfl,λ_ _ _=>by simp only[partsA];rfl,λ_=>by simp only[primA];rfl⟩
 |f+1=>by
  have J:=znk f;refine⟨λn i=>?_,λn x i=>?_,λi=>?_,λx i=>?_,λi a=>?_,λk i a=>?_,λi=>?_⟩
  ·simp only[exprA];exact shI .rfl (shI (zU ..) (shB (J.ex 2 (i+1)) λ_ _=>rfl) (J.ex 3 i)) (shI .rfl (shI (zU ..) (shB (J.ex 6 (i+1)) λ_ _=>rfl) (J.po i)) (shB (J.ex (n+1) i) λx j=>J.mo n x j))
  ·simp only[moreA];rw[zuJ];cases opA (l.drop d) i n with
   |none=>rfl
   |some op=>exact shB (J.ex (n+1) (i+1)) λy j=>shI .rfl rfl (J.mo n _ j)
  ·simp only[postA];exact shB (J.pr i) λx j=>J.dt x j
  ·simp only[dotsA];exact shI (zU ..) (shB (xl l d (i+1)) λs j=>J.dt _ j) rfl
  ·simp only[argsP];exact shI (zU ..) rfl (shB (shI .rfl rfl (yO ..)) λ_ j=>shB (J.ex 0 j) λx j=>J.ag j _)
  ·simp only[partsA];exact shI .rfl (shB (yO ..) λ_ _=>rfl) (shB (yO ..) λ_ j=>shB (J.ex 0 j) λx j=>J.pt (k - 1) j _)
  ·simp only[primA];rw[uY];split
   ·rfl
   ·refine shI .rfl rfl (shI .rfl (shI (zU l d (i+1) _) (shB (J.ag (i+2) []) λ_ _=>rfl) rfl) ?_);refine shI (zU ..) rfl (shI (zU ..) rfl (shI (zU ..) rfl (shI (zU ..) rfl (shI (zU ..) (shB (xl l d (i+1)) λ_ _=>rfl) ?_))));refine shI (zU ..) (shB (J.pt 3 (i+1) []) λ_ _=>rfl) (shI (zU ..) (shB (J.pt 2 (i+1) []) λ_ _=>rfl) (shI (zU ..) (shB (J.pt 2 (i+1) []) λ_ _=>rfl) (shI (zU ..) (shB (J.pt 1 (i+1) []) λ_ _=>rfl) ?_)));exact shI (zU ..) (shB (J.ex 0 (i+1)) λ_ _=>shB (yO ..) λ_ _=>rfl) rfl
structure TS (f:Nat):Prop where
 ss: ∀i a,stmtsA l f (d+i) a=PA.sh d (stmtsA (l.drop d) f i a)
 bk: ∀i,vC l f (d+i)=PA.sh d (vC (l.drop d) f i)
 st: ∀i,j6 l f (d+i)=PA.sh d (j6 (l.drop d) f i)
theorem zp9: ∀f:Nat,TS l d f
 |0=>⟨λ_ _=>by simp only[stmtsA];rfl,λ_=>by simp only[vC];rfl,λ_=>by simp only[j6];rfl⟩
 |f+1=>by
  have J:=zp9 f;have U:=znk l d f;refine⟨λi a=>?_,λi=>?_,λi=>?_⟩
  ·simp only[stmtsA];exact shI (zU ..) rfl (shB (J.st i) λs j=>J.ss j _)
  ·simp only[vC];exact shB (yO ..) λ_ j=>J.ss j []
  ·simp only[j6];refine shI (zU ..) (shB (U.ex 0 (i+1)) λx j=>shB (J.bk j) λa j=>shI (zU ..) (shB (J.bk (j+1)) λ_ _=>rfl) rfl) ?_;refine shI (zU ..) (shB (U.ex 0 (i+1)) λx j=>shB (J.bk j) λa j=>rfl) ?_;refine shI (zU ..) (shI (zU l d (i+1) _) rfl (shB (U.ex 0 (i+1)) λx j=>shB (yO ..) λ_ _=>rfl)) ?_;refine shB (U.po i) λx j=>shI (by rw[jP]) (shB (U.ex 0 (j+1)) λy j=>shB (yO ..) λ_ _=>rfl) ?_
   exact shI (by rw[jP]) (shB (U.ex 0 (j+1)) λy j=>shB (yO ..) λ_ _=>rfl) (shI .rfl (shB (yO ..) λ_ _=>rfl) rfl)
theorem zkq: ∀(f i:Nat) (a:List Fld),locsA l f (d+i) a=PA.sh d (locsA (l.drop d) f i a)
 |0,_,_=>rfl
 |f+1,i,a=>shI (zU ..) (shB (zbT l d (i+1)) λ_ _=>shB (yO ..) λ_ _=>zkq f _ _) rfl
theorem zbS(f i:Nat):vk l f (d+i)=PA.sh d (vk (l.drop d) f i):=shB (yO ..) λ_ j=>(znk l d f).ex 0 j
end
end Hw.Gm.Ps
