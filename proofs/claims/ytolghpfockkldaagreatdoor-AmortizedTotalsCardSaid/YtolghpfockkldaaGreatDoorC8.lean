import Derived.Test.YtolghpfockkldaaGreatDoorC7
import Derived.Test.YtolghpfockkldaaGreatDoorC5
import Derived.Test.YtolghpfockkldaaGreatDoorC6
import Derived.Test.YtolghpfockkldaaGreatDoorC2
import Derived.Shelf.Strconv.AtoiAll
import Derived.Test.YtolghpfockkldaaGreatDoorC1
set_option linter.unusedVariables false
set_option linter.unusedSimpArgs false
set_option linter.unusedSectionVars false
set_option linter.unnecessarySimpa false
namespace Hw.Gm
open Go Go.Proofs Hw.M Ps
abbrev zjB(d:zj)(m:Hp)(c:Scp)(e:Ex)(r:Vn Int):Prop:=FnX Tryz.prog 126 [zF (zpt d m c),zF (ye e)] [] (vE r)
variable {G g:Nat}{c:Scp}{d:zj}{m:Hp}
theorem zmz{e:Ex}{i:Nat}:vatV d m G c g e i= .out\/ ∃k x,g=k+1/\e.l[i]?=some x/\vatV d m G c g e i=vaV d m G c k x:=by
 cases g with
 |zero=>left;rw[vatV]
 |succ k=>
  cases hx:e.l[i]? with
  |none=>left;rw[vatV,hx]
  |some x=>right;exact⟨k,x,rfl,rfl,by rw[vatV,hx]⟩
variable {F:List Int->Vn Int}{r:Vn Int}{vals:List Int}
theorem zpu{k:Nat}{x:Ex}{l:List Ex}(h:((vasV d m G c k (x::l)).bind λq=>F (vals++q))=r)(J:r≠ .out):
 ∃j,k=j+1/\((∃v,vaV d m G c j x= .ok v/\((vasV d m G c j l).bind λq=>F ((vals++[v])++q))=r)\/ ∃er,vaV d m G c j x= .flt er/\r= .flt er):=by
 cases k with
 |zero=>exact absurd h.symm (by simpa [vasV,Vn.bind]using J)
 |succ j=>
  refine⟨j,rfl,?_⟩;rw[vasV]at h;cases hx:vaV d m G c j x with
  |out=>rw[hx]at h;exact absurd h.symm (by simpa [Vn.bind]using J)
  |flt er=>rw[hx]at h;exact .inr ⟨er,rfl,h.symm⟩
  |ok v=>
   rw[hx]at h;refine .inl ⟨v,rfl,?_⟩;simp only[Vn.bind]at h;cases hr:vasV d m G c j l with
   |ok q=>rw[hr]at h;simp only at h ⊢; rw[<-h];simp only[Vn.bind,tq,qA]
   |flt er=>rw[hr]at h;exact h
   |out=>rw[hr]at h;exact h
theorem zsD{k:Nat}(h:((vasV d m G c k []).bind λq=>F (vals++q))=r)(J:r≠ .out):F vals=r:=by
 cases k with
 |zero=>exact absurd h.symm (by simpa [vasV,Vn.bind]using J)
 |succ j=>rw[vasV]at h;rw[<-h];simp only[Vn.bind,u0]
variable {a:Int}
theorem zqF{e x y:Ex}(J:e.op=19\/e.op=20)(hx:e.l[0]?=some x)(hA:zjB d m c x (.ok a))(r:Vn Int)
 (hr:if(decide (a=1)==decide (e.op=19))=true then e.l[1]?=some y/\zjB d m c y r else r= .ok a):zjB d m c e r:=by
 have hA:zh _ _ _ _ _ _:=hA;by_cases ht:(decide (a=1)==decide (e.op=19))=true
 ·rw[uv ht]at hr;obtain⟨hy,U⟩:=hr;cases r with
  |out=>trivial
  |ok b=>
   have U:zh _ _ _ _ _ _:=U;show zh _ _ _ _ _ _;rcases J with J|J
   all_goals
    refine gO T Tryz.func126 λC hC=>?_
    repeat' first|refine gG ?_|exact gD|(exfalso;have h9:=uj h;omega)|(exfalso;simp_all;done)|refine zaD hC rfl rfl ud rfl rfl ?_|refine gB ?_ ?_<;>intro h|(refine gI T (zI hx) ?_)|refine gC hA ?_|(refine gI T (yP hy) ?_)|refine gC U ?_
    exact gF
  |flt er=>
   have U:ya _ _ _ _ _ _:=U;show ya _ _ _ _ _ _;rcases J with J|J
   all_goals
    refine zX T Tryz.func126 ud rfl rfl rfl λC hC=>?_
    repeat' first|refine gG ?_|exact gD|(exfalso;have h9:=uj h;omega)|(exfalso;simp_all;done)|refine zaD hC rfl rfl ud rfl rfl ?_|refine gB ?_ ?_<;>intro h|(refine gI T (zI hx) ?_)|refine gC hA ?_|(refine gI T (yP hy) ?_)|(refine xE T hC U id [] rfl rfl (zH.refl _) rfl rfl rfl rfl rfl ud ud ?_)
    exact gU (zi ⟨rfl,id,trivial,rfl,rfl⟩)
 ·rw[uu ht]at hr;subst hr;show zh _ _ _ _ _ _;rcases J with J|J
  all_goals
   refine gO T Tryz.func126 λC hC=>?_
   repeat' first|refine gG ?_|exact gD|(exfalso;have h9:=uj h;omega)|(exfalso;simp_all;done)|refine zaD hC rfl rfl ud rfl rfl ?_|refine gB ?_ ?_<;>intro h|(refine gI T (zI hx) ?_)|refine gC hA ?_
   exact gF
theorem zvT{e x y:Ex}(ho:e.op=21)(hx:e.l[0]?=some x)(U:zjB d m c x (.ok a))(h2:inB a/\a<=2)(hy:e.l[(2 - a).toNat]?=some y)(J:zjB d m c y r):zjB d m c e r:=by
 have U:zh _ _ _ _ _ _:=U;have h3:=h2.1;unfold inB at h3;obtain⟨i,hi⟩: ∃i:Nat,2 - a=i:=⟨(2 - a).toNat,ua⟩;have hw:IntKind.i64.wrap (2 - a)=(i:Int):=by rw[wrap64 ua];omega
 rw[hi,tD]at hy;cases r with
 |out=>trivial
 |ok b=>
  have J:zh _ _ _ _ _ _:=J;show zh _ _ _ _ _ _;refine gO T Tryz.func126 λC hC=>?_
  repeat' first|refine gG ?_|exact gD|(exfalso;have h9:=uj h;omega)|(exfalso;have h9:=um h;omega)|refine gB ?_ ?_<;>intro h|(refine gI T (zI hx) ?_)|refine gC U ?_|(rw[hw];refine gI T (xA hy) ?_)|refine gC J ?_
  exact gF
 |flt er=>
  have J:ya _ _ _ _ _ _:=J;show ya _ _ _ _ _ _;refine zX T Tryz.func126 ud rfl rfl rfl λC hC=>?_
  repeat' first|refine gG ?_|exact gD|(exfalso;have h9:=uj h;omega)|(exfalso;have h9:=um h;omega)|refine gB ?_ ?_<;>intro h|(refine gI T (zI hx) ?_)|refine gC U ?_|(rw[hw];refine gI T (xA hy) ?_)|(refine xE T hC J id [] rfl rfl (zH.refl _) rfl rfl rfl rfl rfl ud ud ?_)
  exact gU (zi ⟨rfl,id,trivial,rfl,rfl⟩)
theorem zqG{e x:Ex}(J:e.op=19\/e.op=20\/e.op=21)(hx:e.l[0]?=some x){er:Int}(U:zjB d m c x (.flt er)):zjB d m c e (.flt er):=by
 have U:ya _ _ _ _ _ _:=U;show ya _ _ _ _ _ _;rcases J with J|J|J
 all_goals
  refine zX T Tryz.func126 ud rfl rfl rfl λC hC=>?_
  repeat' first|refine gG ?_|exact gD|(exfalso;have h9:=uj h;omega)|(exfalso;have h9:=um h;omega)|refine gB ?_ ?_<;>intro h|(refine gI T (zI hx) ?_)|(refine xE T hC U id [] rfl rfl (zH.refl _) rfl rfl rfl rfl rfl ud ud ?_)
  exact gU (zi ⟨rfl,id,trivial,rfl,rfl⟩)
def vaT(d:zj)(m:Hp)(c:Scp)(e:Ex)(q:Nat×Nat×List Int):zf×Tab:=
 ([(2,.one (.bx 1002 0)),(3,.one (.bx 1003 0)),(8,.one (.ar 140)),(69,pS (wu e.l)),(70,I e.l.length),(71,I q.1)],
  [(1002,some (.box ((zpt d m c).map V.p))),(1003,some (.box ((ye e).map V.p))),(140,some (.arr 1 (q.2.2.map yk)))])
theorem zqH(h1:zcI d m=true)(hs:xI m){k:Nat}(ih: ∀j,j<=k-> ∀e,zjB d m c e (vaV d m G c j e)){e:Ex}(ho: ¬(e.op=1\/e.op=2\/e.op=3))(o4: ¬e.op=4)(o19: ¬(e.op=19\/e.op=20))(o21: ¬e.op=21)
 (hl:e.l.length<=1000000) (hr:((vasV d m G c k e.l).bind λl=>opsV d m G e l)=r) (hn:r≠ .out):zjB d m c e r:=by
 have g1: ¬e.op=1:=λh=>ho (.inl h)
 have g2: ¬e.op=2:=λh=>ho (.inr (.inl h))
 have g3: ¬e.op=3:=λh=>ho (.inr (.inr h))
 have g4: ¬e.op=19:=λh=>o19 (.inl h)
 have g5: ¬e.op=20:=λh=>o19 (.inr h)
 clear ho o19;refine zwf T Tryz.func126 ud rfl rfl rfl rfl λC hC=>?_
 repeat' first|refine gG ?_|(exfalso;have U:=uj h;omega)|refine gB ?_ ?_<;>intro h
 refine gA 140 1 [(8,.one (.ar 140))] [] ?_;rw[uk]
 refine zn (λq:Nat×Nat×List Int=>q.1<=e.l.length/\q.2.1<=k/\q.2.2.length=q.1/\((vasV d m G c q.2.1 (e.l.drop q.1)).bind λl=>opsV d m G e (q.2.2++l))=r) (vaT d m c e) (λq=>e.l.length - q.1) hC
  (0,k,[]) ⟨uz _,uF _,rfl,hr⟩ id gM ?_
 clear hr;rintro⟨i,k1,vals⟩ ⟨hi,hk,hv,J⟩;simp only at hi hk hv J;refine zq T hC true 200 rfl ?_;refine zt rfl ?_ ?_<;>intro h
 ·have hlt:i<e.l.length:=by simpa [vaT]using h
  clear h;obtain⟨x,hx⟩:=zd hlt;rw[drop_at hx]at J;obtain⟨j,rfl,hcase⟩:=zpu J hn;have hX:=ih j ua x;rcases hcase with⟨v,hev,hnx⟩|⟨er1,hev,hE⟩
  ·rw[hev]at hX;have hX:zh _ _ _ _ _ _:=hX;have happ:vals.map yk++[[ki v]]=(vals++[v]).map yk:=by rw[u6];rfl
   repeat' first|refine gG ?_|refine gB ?_ ?_<;>intro h|refine gXE ?_|refine gC hX ?_|refine gT ?_|(refine gY T 141 ((vals++[v]).map yk) 8 ?_)
   rw[wrapN ua];exact zg (i+1,j,vals++[v]) ⟨by simp only;omega,by simp only;omega,by simp only[uC,uD];omega,hnx⟩ (ms [(140,141)]) (by simp only;omega) ⟨rfl,⟨rfl,rfl,rfl,rfl,rfl,rfl,uh⟩,⟨rfl,rfl,rfl,uh⟩,rfl,xH rfl⟩
  ·rw[hev]at hX;have hX:ya _ _ _ _ _ _:=hX;subst hE
   repeat' first|refine gG ?_|refine gB ?_ ?_<;>intro h|refine gXE ?_|(refine zr hC hX id rfl rfl (zH.refl _) rfl rfl rfl rfl rfl rfl ?_)
   exact gU (zdd (gU (zfv ⟨rfl,id,trivial,rfl,rfl⟩)))
 have hge: ¬i<e.l.length:=by simpa [vaT]using h
 clear h;rw[uA ua]at J;have J:=zsD J hn;refine gZ 140 [(8,pS (xw vals))] [] ?_;unfold opsV at J;cases h0:vals[0]? with
 |none=>rw[h0]at J;exact absurd J.symm hn
 |some a=>
  simp only[h0]at J;by_cases o5:e.op=5
  ·rw[uv o5]at J;have hF:=zsB (d:=d) hs c a e.s;rw[J]at hF;cases r with
   |out=>exact absurd rfl hn
   |ok v=>
    have hF:zh _ _ _ _ _ _:=hF
    repeat' first|refine gG ?_|exact gD|(exfalso;have U:=uj h;omega)|(exfalso;have U:=um h;omega)|refine gB ?_ ?_<;>intro h|refine ze ?_|(refine gI T (w5 h0) ?_)|refine gC hF ?_
    exact zdX ⟨.inl rfl,id,_,rfl,.refl _,trivial,rfl,rfl⟩
   |flt er=>
    have hF:ya _ _ _ _ _ _:=hF
    repeat' first|refine gG ?_|exact gD|(exfalso;have U:=uj h;omega)|(exfalso;have U:=um h;omega)|refine gB ?_ ?_<;>intro h|refine ze ?_|(refine gI T (w5 h0) ?_)|(refine xE T hC hF id [] rfl rfl (zH.refl _) rfl rfl rfl rfl rfl ud ud ?_)
    exact gU (zfv ⟨rfl,id,trivial,rfl,rfl⟩)
  rw[uu o5]at J;by_cases o7:e.op=7
  ·rw[uv o7]at J;have hM:=zsC h1 c G e.s a;rw[J]at hM;cases r with
   |out=>exact absurd rfl hn
   |ok v=>
    have hM:zh _ _ _ _ _ _:=hM
    repeat' first|refine gG ?_|exact gD|(exfalso;have U:=uj h;omega)|(exfalso;have U:=um h;omega)|refine gB ?_ ?_<;>intro h|refine ze ?_|(refine gI T (w5 h0) ?_)|refine gC hM ?_
    exact zdX ⟨.inl rfl,id,_,rfl,.refl _,trivial,rfl,rfl⟩
   |flt er=>
    have hM:ya _ _ _ _ _ _:=hM
    repeat' first|refine gG ?_|exact gD|(exfalso;have U:=uj h;omega)|(exfalso;have U:=um h;omega)|refine gB ?_ ?_<;>intro h|refine ze ?_|(refine gI T (w5 h0) ?_)|(refine xE T hC hM id [] rfl rfl (zH.refl _) rfl rfl rfl rfl rfl ud ud ?_)
    exact gU (zfv ⟨rfl,id,trivial,rfl,rfl⟩)
  rw[uu o7]at J;by_cases o8:e.op=8
  ·rw[uv o8]at J;by_cases hb:inB a
   ·rw[uv hb]at J;have hb':=hb;unfold inB at hb';have hw:IntKind.i64.wrap (0 - a)= -a:=by rw[wrap64 ua];omega
    have hN:=zmw (-a);rw[J]at hN;cases r with
    |out=>exact absurd rfl hn
    |ok v=>
     have hN:zh _ _ _ _ _ _:=hN
     repeat' first|refine gG ?_|exact gD|(exfalso;have U:=uj h;omega)|(exfalso;have U:=um h;omega)|refine gB ?_ ?_<;>intro h|refine ze ?_|(refine gI T (w5 h0) ?_)|(refine zdD hC rfl rfl rfl ?_)|(rw[hw];refine gC hN ?_)
     exact zdX ⟨.inl rfl,id,_,rfl,.refl _,trivial,rfl,rfl⟩
    |flt er=>
     have hN:ya _ _ _ _ _ _:=hN
     repeat' first|refine gG ?_|exact gD|(exfalso;have U:=uj h;omega)|(exfalso;have U:=um h;omega)|refine gB ?_ ?_<;>intro h|refine ze ?_|(refine gI T (w5 h0) ?_)|(refine zdD hC rfl rfl rfl ?_)|(rw[hw];refine zr hC hN id rfl rfl (zH.refl _) rfl rfl rfl rfl rfl rfl ?_)
     exact gU (zfv ⟨rfl,id,trivial,rfl,rfl⟩)
   ·rw[uu hb]at J;exact absurd J.symm hn
  rw[uu o8]at J;by_cases o18:e.op=18
  ·rw[uv o18]at J;by_cases hb:inB a
   ·rw[uv hb]at J;have hb':=hb;unfold inB at hb';have hw:IntKind.i64.wrap (1 - a)=1 - a:=by rw[wrap64 ua]
    subst J
    repeat' first|refine gG ?_|exact gD|(exfalso;have U:=uj h;omega)|(exfalso;have U:=um h;omega)|refine gB ?_ ?_<;>intro h|refine ze ?_|(refine gI T (w5 h0) ?_)
    rw[hw];exact zdX ⟨.inl rfl,id,_,rfl,.refl _,trivial,rfl,rfl⟩
   ·rw[uu hb]at J;exact absurd J.symm hn
  rw[uu o18]at J;by_cases o24:e.op=24
  ·rw[uv o24]at J;by_cases hb:inB a
   ·rw[uv hb]at J;subst J;by_cases ha1:a<1
    ·have hz:zlO a=0:=by unfold zlO;rw[uv ha1]
     rw[hz]
     repeat' first|refine gG ?_|exact gD|(exfalso;have U:=uj h;omega)|(exfalso;have U:=um h;omega)|refine gB ?_ ?_<;>intro h|refine ze ?_|(refine gI T (w5 h0) ?_)
     exact zdX ⟨.inl rfl,id,_,rfl,.refl _,trivial,rfl,rfl⟩
    ·have hL:=zsA hb ha1
     repeat' first|refine gG ?_|exact gD|(exfalso;have U:=uj h;omega)|(exfalso;have U:=um h;omega)|refine gB ?_ ?_<;>intro h|refine ze ?_|(refine gI T (w5 h0) ?_)|refine gC hL ?_
     exact zdX ⟨.inl rfl,id,_,rfl,.refl _,trivial,rfl,rfl⟩
   ·rw[uu hb]at J;exact absurd J.symm hn
  rw[uu o24]at J;cases h1':vals[1]? with
  |none=>rw[h1']at J;exact absurd J.symm hn
  |some b=>
   simp only[h1']at J;unfold twV at J;by_cases hb:inB a/\inB b
   ·rw[uv hb]at J;have hT:=zuz (op:=e.op) hb.1 hb.2;rw[J]at hT;cases r with
    |out=>exact absurd rfl hn
    |ok v=>
     have hT:zh _ _ _ _ _ _:=hT
     repeat' first|refine gG ?_|exact gD|(exfalso;have U:=uj h;omega)|(exfalso;have U:=um h;omega)|refine gB ?_ ?_<;>intro h|refine ze ?_|(refine gI T (w5 h0) ?_)|(refine xz T hC rfl rfl rfl ub (yZ (i:=1) h1') rfl rfl ?_)|refine gC hT ?_
     exact zdX ⟨.inl rfl,id,_,rfl,.refl _,trivial,rfl,rfl⟩
    |flt er=>
     have hT:ya _ _ _ _ _ _:=hT
     repeat' first|refine gG ?_|exact gD|(exfalso;have U:=uj h;omega)|(exfalso;have U:=um h;omega)|refine gB ?_ ?_<;>intro h|refine ze ?_|(refine gI T (w5 h0) ?_)|(refine xz T hC rfl rfl rfl ub (yZ (i:=1) h1') rfl rfl ?_)|(refine xE T hC hT id [] rfl rfl (zH.refl _) rfl rfl rfl rfl rfl ud ud ?_)
     exact gU (zfv ⟨rfl,id,trivial,rfl,rfl⟩)
   ·rw[uu hb]at J;exact absurd J.symm hn
theorem zvU(h1:zcI d m=true)(hs:xI m)(G:Nat)(c:Scp): ∀(k:Nat) (e:Ex),zjB d m c e (vaV d m G c k e):=by
 intro k
 induction k using Nat.strongRecOn with
 |_ k ih=>
 intro e;cases k with
 |zero=>rw[vaV];trivial
 |succ k=>
 have ih: ∀j,j<=k-> ∀e,zjB d m c e (vaV d m G c j e):=λj hj=>ih j ua
 have hat: ∀i,vatV d m G c k e i= .out\/ ∃x,e.l[i]?=some x/\zjB d m c x (vatV d m G c k e i):=λi=>by
  rcases zmz (d:=d) (m:=m) (G:=G) (c:=c) (g:=k) (e:=e) (i:=i)with h|⟨j,x,rfl,hx,h⟩
  ·exact .inl h
  ·exact .inr ⟨x,hx,by rw[h];exact ih j ua x⟩
 rw[vaV];by_cases o1:e.op=1\/e.op=2\/e.op=3
 ·rw[uv o1];show zh _ _ _ _ _ _;rcases o1 with o1|o1|o1
  all_goals
   refine gO T Tryz.func126 λC hC=>?_
   repeat' first|refine gG ?_|exact gD|(exfalso;simp[o1]at h;done)|refine gB ?_ ?_<;>intro h
   exact gF
 rw[uu o1];by_cases o4:e.op=4
 ·rw[uv o4];cases hr:vbV d m c e.s with
  |out=>trivial
  |flt er=>exfalso;unfold vbV at hr;((repeat' split at hr)<;>cases hr)
  |ok v=>
   have hV:=zuA hr;show zh _ _ _ _ _ _;refine gO T Tryz.func126 λC hC=>?_
   repeat' first|refine gG ?_|exact gD|(exfalso;simp[o4]at h;done)|refine gB ?_ ?_<;>intro h|refine gC hV ?_
   exact gF
 rw[uu o4];by_cases J:e.op=19\/e.op=20
 ·rw[uv J];rcases hat 0 with h|⟨x,hx,hA⟩
  ·rw[h];trivial
  ·cases hr:vatV d m G c k e 0 with
   |out=>trivial
   |flt er=>rw[hr]at hA;exact zqG (J.imp id .inl) hx hA
   |ok a=>
    rw[hr]at hA;simp only[Vn.bind];by_cases ht:(decide (a=1)==decide (e.op=19))=true
    ·rw[uv ht];rcases hat 1 with h|⟨y,hy,hB⟩
     ·rw[h];trivial
     ·exact zqF (y:=y) J hx hA _ (by rw[uv ht];exact⟨hy,hB⟩)
    ·rw[uu ht];exact zqF (y:=x) J hx hA _ (by rw[uu ht])
 rw[uu J];by_cases U:e.op=21
 ·rw[uv U];rcases hat 0 with h|⟨x,hx,hA⟩
  ·rw[h];trivial
  ·cases hr:vatV d m G c k e 0 with
   |out=>trivial
   |flt er=>rw[hr]at hA;exact zqG (.inr (.inr U)) hx hA
   |ok a=>
    rw[hr]at hA;simp only[Vn.bind];by_cases h2:inB a/\a<=2
    ·rw[uv h2];rcases hat (2 - a).toNat with h|⟨y,hy,hB⟩
     ·rw[h];trivial
     ·exact zvT U hx hA h2 hy hB
    ·rw[uu h2];trivial
 rw[uu U];by_cases hl:e.l.length<=1000000
 ·rw[uv hl];cases hr:(vasV d m G c k e.l).bind λl=>opsV d m G e l with
  |out=>trivial
  |ok v=>exact zqH h1 hs ih o1 o4 J U hl hr ue
  |flt er=>exact zqH h1 hs ih o1 o4 J U hl hr ue
 ·rw[uu hl];trivial
set_option maxRecDepth 100000 in
theorem zqI(v:Int)(rq:Option Int):
 ztQ Tryz.prog 125 [.one (.bx 3 0),.one (.bx 4 0)] [(3,.box [.p (ki v)]),(4,.box [.p (ki 0)])] (rq.map flA)
  [(3,.box [.p (ki (if rq.isSome then 0 else v))]),(4,.box [.p (ki (rq.getD 0))])]:=by
 refine zrw T (rq.map flA) (Tryz.func125) ud rfl rfl rfl rfl rfl rfl rfl (by cases rq<;>rfl) λC hC=>?_;cases rq
 all_goals
  repeat' first|refine gG ?_|refine gB ?_ ?_<;>intro h|(refine zkg hC rfl ud rfl rfl ?_)|(refine zlr hC rfl ud rfl rfl ?_)|(refine zrx hC [.int .i64 _] rfl ud rfl rfl rfl ?_)|refine ze ?_
  exact zi ⟨.inr rfl,id,_,rfl,zlI,⟨rfl,rfl,uh⟩,rfl,rfl⟩
theorem zpv(h1:zcI d m=true)(hs:xI m){k:Nat}{e:Ex}{v er:Int}(U:evV (vaV d m G c k e)=some (v,er)):
 zh Tryz.prog 85 [zF (zpt d m c),zF (ye e)] [] (.tup [I v,I er]) []:=by
 have J:=zvU h1 hs G c k e
 refine zib T (m:=1) (Rm:=[(10,.box ((zpt d m c).map V.p)),(11,.box ((ye e).map V.p)),(12,.box [.p (ki 0)]),(13,.box [.p (ki 0)])])
  (sl1:=[(2,.one (.bx 10 0)),(3,.one (.bx 11 0)),(4,.one (.bx 12 0)),(5,.one (.bx 13 0))]) (Tryz.func85) ud rfl rfl rfl rfl rfl rfl rfl rfl rfl rfl rfl (λC hC=>?_) (λC hC=>?_)
 ·repeat' first|refine gG ?_|exact gD|refine gB ?_ ?_<;>intro h
  show Goal _ _ _ [] _ _ _ _;exact zi ⟨ms [(10,1002),(11,1003),(12,1004),(13,1005)],rfl,⟨rfl,rfl,rfl,rfl,uh⟩,⟨rfl,rfl,rfl,rfl,uh⟩,rfl,rfl⟩
 ·cases hv:vaV d m G c k e with
  |out=>rw[hv]at U;cases U
  |ok v1=>
   rw[hv]at U J;cases U;have J:zh _ _ _ _ _ _:=J;have hD:=zqI v none
   repeat' first|refine gG ?_|refine gB ?_ ?_<;>intro h|refine gC J ?_
   first
    |exact zi ⟨none,_,_,_,nm [0,1,2,12,13],.inl rfl,hD,zH.refl _,⟨rfl,rfl,uh⟩,rfl,rfl,rfl,rfl,⟨.inl rfl,id,_,rfl,.refl _,trivial,rfl,rfl⟩⟩
    |exact zi ⟨none,_,_,_,nm [0,1,2,12,13],.inr rfl,hD,zH.refl _,⟨rfl,rfl,uh⟩,rfl,rfl,rfl,rfl,⟨.inl rfl,id,_,rfl,.refl _,trivial,rfl,rfl⟩⟩
  |flt er1=>
   rw[hv]at U J;cases U;have J:ya _ _ _ _ _ _:=J;have hD:=zqI 0 (some er)
   repeat' first|refine gG ?_|refine gB ?_ ?_<;>intro h|(refine zr hC J id rfl rfl (zH.refl _) rfl rfl rfl rfl rfl rfl ?_)
   exact gU (zi ⟨some (flA er),_,_,_,nm [0,1,2,12,13],rfl,hD,zH.refl _,⟨rfl,rfl,uh⟩,rfl,rfl,rfl,rfl,⟨.inl rfl,id,_,rfl,.refl _,trivial,rfl,rfl⟩⟩)
theorem zsE(f:FuncId)(px:Pr)(l:List Bd)(p:Bd->Unit->Bool)(nx:Bd->Unit->Unit)(inv:Unit->Prop)
 (hf: ∀x∈l,∀s:Unit,inv s->zh Tryz.prog f [zF (xC x),.one (.bx 0 0)] [(0,.box ((zZ px).map V.p))] (.bq (p x s)) ((λs:Unit=>[(0,.box ((zZ px).map V.p))]) (nx x s))/\(p x s=false->inv (nx x s))) (s:Unit) (hs:inv s):
 zh Tryz.prog 83 [pS (.sl 5 (l.map xC)),.one (.cl f [] [.bx 0 0])] [(0,.box ((zZ px).map V.p))] (I (idxR p nx l 0 s).1) ((λs:Unit=>[(0,.box ((zZ px).map V.p))]) (idxR p nx l 0 s).2):=by
 refine gO T Tryz.func83 λC hC=>?_;have hs0:=hs;refine wJ 0 rfl λhl=>?_;rw[uk]at hl
 repeat' first|refine gG ?_|refine gB ?_ ?_<;>intro h
 rw[uk]
 refine zn (λq:Nat×Unit=>q.1<=l.length/\inv q.2/\idxR p nx (l.drop q.1) q.1 q.2=idxR p nx l 0 s) (λq=>(λs:Unit=>([(0,pS (.sl 5 (l.map xC))),(1,.one (.cl f [] [.bx 0 0])),(7,I l.length),(8,I q.1)],[(0,some (.box ((zZ px).map V.p)))])) q.2) (λq=>l.length - q.1) hC
  (0,s) ⟨uz _,hs,rfl⟩ id gM ?_
 generalize idxR p nx l 0 s=res;clear hs hs0;rintro⟨i,s⟩ ⟨hi,hv,J⟩;simp only at hi hv J;refine zq T hC true 200 rfl ?_;refine zt rfl ?_ ?_<;>intro hh
 ·have hlt:i<l.length:=by simpa using hh
  clear hh;obtain⟨x,hx⟩:=zd hlt;rw[drop_at hx]at J;simp only[idxR]at J;have hv2:=(hf x (List.mem_of_getElem? hx) s hv).2
  repeat' first|refine gG ?_|refine gB ?_ ?_<;>intro h|refine gI T (zl hx) ?_|refine zu hC (hf x (List.mem_of_getElem? hx) s hv).1 id rfl rfl (zH.refl _) rfl rfl rfl rfl rfl rfl rfl rfl ?_|refine zo ?_
  ·rw[uv uf]at J;subst J;exact gE
  ·have U:p x s=false:=by assumption
   rw[U]at J;simp only[uy,uL]at J;rw[wrap64 ua];exact zg (i+1,nx x s) ⟨by simp only;omega,hv2 U,J⟩ id (by simp only;omega) gM
 ·have hge: ¬i<l.length:=by simpa using hh
  rw[uA ua]at J;simp only[idxR]at J;subst J
  repeat' first|refine gG ?_|refine gB ?_ ?_<;>intro h|refine ze ?_
  exact gE
theorem zmA(x:Bd)(p:Pr):zh Tryz.prog 84 [zF (xC x),.one (.bx 0 0)] [(0,.box ((zZ p).map V.p))] (.bq (decide (x.p=p.n))) [(0,.box ((zZ p).map V.p))]:=by
 refine gO T Tryz.func84 λC hC=>?_
 repeat' first|refine gG ?_|refine gB ?_ ?_<;>intro h|refine ze ?_
 exact gE
theorem zpw(h1:zcI d m=true)(hs:xI m){p:Pr}{c:Cl}{v er:Int}(J:bnE d m G p c=some (v,er)):
 zh Tryz.prog 50 [zF (zJ d),zF (xP m),zF (zZ p),zF (wY c)] [] (.tup [I v,I er]) []:=by
 have U:=zsE 84 p d.bounds (λx _=>decide (x.p=p.n)) (λ_ s=>s) (λ_=>True) (λx _ _ _=>⟨zmA x p,λ_=>trivial⟩) () trivial;rw[y3]at U;unfold bnE zwm at J;cases hi:d.bounds.findIdx? (λb=>decide (b.p=p.n))with
 |none=>
  rw[hi]at J U;cases J;simp only[idxI]at U;refine gO T Tryz.func50 λC hC=>?_
  repeat' first|refine gG ?_|exact gD|refine gB ?_ ?_<;>intro h|refine gR U (nm [1006]) ?_|refine ze ?_
  exact gF
 |some i=>
  rw[hi]at J U;simp only[idxI]at U;cases hx:d.bounds[i]? with
  |none=>simp only[hx]at J;cases J
  |some x=>
   simp only[hx]at J;have hE:=zpv h1 hs J;refine gO T Tryz.func50 λC hC=>?_
   repeat' first|refine gG ?_|(exfalso;have h9:=uj h;omega)|refine gB ?_ ?_<;>intro h|refine gR U (nm [1006]) ?_|(refine gI T (zl hx) ?_)|refine gC hE ?_|refine ze ?_
   exact gF
theorem zfV(t:Str):zh Tryz.prog 58 [Sr t] [] (.bq (plB t)) []:=by
 unfold plB;refine gO T Tryz.func58 λC hC=>?_
 repeat' first|refine gG ?_|refine gB ?_ ?_<;>intro h|refine gQ ?_|refine gL ?_
 all_goals (try simp only[uk]at*)
 all_goals first
  |rfl
  |(simp;done)
  |(simp_all;done)
  |(simp_all;omega)
  |(intros;simp_all<;>omega)
theorem zmB(f:Fld):zh Tryz.prog 60 [zF (zw f)] [] (.bq (!plB f.t)) []:=by
 have J:=zfV f.t;refine gO T Tryz.func60 λC hC=>?_
 repeat' first|refine gG ?_|refine gB ?_ ?_<;>intro h|refine gC J ?_
 exact gF
theorem zmC(x:Pr)(c:Cl):zh Tryz.prog 57 [zF (zZ x),.one (.bx 0 0)] [(0,.box ((wY c).map V.p))] (.bq (decide (x.n=c.p))) [(0,.box ((wY c).map V.p))]:=by
 refine gO T Tryz.func57 λC hC=>?_
 repeat' first|refine gG ?_|refine gB ?_ ?_<;>intro h|refine ze ?_
 exact gE
theorem zsF(f:FuncId)(cx:Cl)(l:List Pr)(p:Pr->Unit->Bool)(nx:Pr->Unit->Unit)(inv:Unit->Prop)
 (hf: ∀x∈l,∀s:Unit,inv s->zh Tryz.prog f [zF (zZ x),.one (.bx 0 0)] [(0,.box ((wY cx).map V.p))] (.bq (p x s)) ((λs:Unit=>[(0,.box ((wY cx).map V.p))]) (nx x s))/\(p x s=false->inv (nx x s))) (s:Unit) (hs:inv s):
 zh Tryz.prog 56 [pS (.sl 5 (l.map zZ)),.one (.cl f [] [.bx 0 0])] [(0,.box ((wY cx).map V.p))] (I (idxR p nx l 0 s).1) ((λs:Unit=>[(0,.box ((wY cx).map V.p))]) (idxR p nx l 0 s).2):=by
 refine gO T Tryz.func56 λC hC=>?_;have hs0:=hs;refine wJ 0 rfl λhl=>?_;rw[uk]at hl
 repeat' first|refine gG ?_|refine gB ?_ ?_<;>intro h
 rw[uk]
 refine zn (λq:Nat×Unit=>q.1<=l.length/\inv q.2/\idxR p nx (l.drop q.1) q.1 q.2=idxR p nx l 0 s) (λq=>(λs:Unit=>([(0,pS (.sl 5 (l.map zZ))),(1,.one (.cl f [] [.bx 0 0])),(7,I l.length),(8,I q.1)],[(0,some (.box ((wY cx).map V.p)))])) q.2) (λq=>l.length - q.1) hC
  (0,s) ⟨uz _,hs,rfl⟩ id gM ?_
 generalize idxR p nx l 0 s=res;clear hs hs0;rintro⟨i,s⟩ ⟨hi,hv,J⟩;simp only at hi hv J;refine zq T hC true 200 rfl ?_;refine zt rfl ?_ ?_<;>intro hh
 ·have hlt:i<l.length:=by simpa using hh
  clear hh;obtain⟨x,hx⟩:=zd hlt;rw[drop_at hx]at J;simp only[idxR]at J;have hv2:=(hf x (List.mem_of_getElem? hx) s hv).2
  repeat' first|refine gG ?_|refine gB ?_ ?_<;>intro h|refine gI T (zl hx) ?_|refine zu hC (hf x (List.mem_of_getElem? hx) s hv).1 id rfl rfl (zH.refl _) rfl rfl rfl rfl rfl rfl rfl rfl ?_|refine zo ?_
  ·rw[uv uf]at J;subst J;exact gE
  ·have U:p x s=false:=by assumption
   rw[U]at J;simp only[uy,uL]at J;rw[wrap64 ua];exact zg (i+1,nx x s) ⟨by simp only;omega,hv2 U,J⟩ id (by simp only;omega) gM
 ·have hge: ¬i<l.length:=by simpa using hh
  rw[uA ua]at J;simp only[idxR]at J;subst J
  repeat' first|refine gG ?_|refine gB ?_ ?_<;>intro h|refine ze ?_
  exact gE
def prZ(q:Int×Pr):List PV:=if q.1=0 then zZ q.2 else zPr
abbrev ckT(d:zj)(p:Pr)(c:Cl)(i:Nat):zf×Tab:=([(3,.one (.bx 1003 0)),(4,.one (.bx 1004 0)),(7,.one (.bx 1007 0)),(47,pS (zx p.params)),(48,I p.params.length),(49,I i)],
 [(1003,some (.box ((wY c).map V.p))),(1004,some (.box (zPr.map V.p))),(1007,some (.box ((zZ p).map V.p)))])
set_option maxHeartbeats 1000000 in
theorem zmD(d:zj)(c:Cl):zh Tryz.prog 40 [zF (zJ d),zF (wY c)] [] (.tup [zF (prZ (chE d c)),I (chE d c).1]) []:=by
 have hI:=zsF 57 c d.procs (λx _=>decide (x.n=c.p)) (λ_ s=>s) (λ_=>True) (λx _ _ _=>⟨zmC x c,λ_=>trivial⟩) () trivial;rw[y3]at hI;unfold chE zcZ;cases hi:d.procs.findIdx? (λp=>decide (p.n=c.p))with
 |none=>
  rw[hi]at hI;simp only[idxI]at hI;rw[show prZ ((9:Int),zoK)=zPr from by rw[prZ,uu ub]];refine gO T Tryz.func40 λC hC=>?_
  repeat' first|refine gG ?_|exact gD|refine gB ?_ ?_<;>intro h|refine gR hI (nm [1003]) ?_|refine ze ?_
  exact gF
 |some i=>
  rw[hi]at hI;simp only[idxI]at hI
  obtain⟨p,hp⟩: ∃p,d.procs[i]?=some p:=by
   obtain⟨h1,_⟩:=tN.1 hi;exact⟨_,ta h1⟩
  simp only[hp];have hP:=zfV p.res;have hA:=zc2 60 p.params (λf=> !plB f.t) (λx _=>zmB x);generalize hb2:p.params.any (λf=> !plB f.t)=b2 at hA⊢;generalize hb1:plB p.res=b1 at hP⊢;clear hb1 hb2;by_cases H:((!decide (p.res=(⟨#[]⟩:UH))&& !b1)||b2)=true
  ·rw[uv H];rw[show prZ ((12:Int),zoK)=zPr from by rw[prZ,uu ub]]
   have J:(p.res=(⟨#[]⟩:UH)/\b2=true)\/(¬p.res=(⟨#[]⟩:UH)/\b1=true/\b2=true)\/(¬p.res=(⟨#[]⟩:UH)/\b1=false):=by
    by_cases e1:p.res=(⟨#[]⟩:UH)<;>cases b1<;>cases b2<;>simp_all
   clear H;rcases J with⟨e1,rfl⟩|⟨e1,rfl,rfl⟩|⟨e1,rfl⟩
   all_goals
    refine gO T Tryz.func40 λC hC=>?_
    repeat' first|refine gG ?_|exact gD|(exfalso;have h9:=uj h;omega)|(exfalso;simp[e1]at h;done)|refine gB ?_ ?_<;>intro h|refine gR hI (nm [1003]) ?_|(refine gI T (zl hp) ?_)|refine gC hP ?_|refine gC hA ?_|refine ze ?_
    exact gF
  rw[uu H]
  have J:(p.res=(⟨#[]⟩:UH)/\b2=false)\/(¬p.res=(⟨#[]⟩:UH)/\b1=true/\b2=false):=by
   by_cases e1:p.res=(⟨#[]⟩:UH)<;>cases b1<;>cases b2<;>simp_all
  clear H;by_cases hl:c.a.length=p.params.length
  ·rw[uu (by simpa using hl)];cases ha:(List.zip c.a p.params).any agB with
   |true=>
    rw[uv rfl];rw[show prZ ((11:Int),zoK)=zPr from by rw[prZ,uu ub]];rcases J with⟨e1,rfl⟩|⟨e1,rfl,rfl⟩
    all_goals
     refine gO T Tryz.func40 λC hC=>?_;refine jn rfl 1 1 rfl rfl λhlen=>?_;rw[uk]at hlen
     repeat' first|refine gG ?_|exact gD|(exfalso;simp only[uq,ur,uk,ux,uG]at h;omega)|(exfalso;simp[e1]at h;done)|refine gB ?_ ?_<;>intro h|refine gR hI (nm [1003]) ?_|(refine gI T (zl hp) ?_)|refine gC hP ?_|refine gC hA ?_|refine ze ?_
     rw[uk]
     refine zn (λi:Nat=>i<=p.params.length/\((List.zip c.a p.params).take i).any agB=false) (ckT d p c) (λi=>p.params.length - i) hC
      0 ⟨uz _,ue⟩ id gM ?_
     rintro i ⟨hi2,hn⟩;refine zq T hC true 200 rfl ?_;refine zt rfl ?_ ?_<;>intro h
     ·have hlt:i<p.params.length:=by simpa using h
      clear h;obtain⟨v,hv⟩:=zd (l:=c.a) (i:=i) ua;obtain⟨f,hf⟩:=zd (l:=p.params) (i:=i) hlt;have hz:(List.zip c.a p.params)[i]?=some (v,f):=by rw[qa];exact⟨hv,hf⟩
      have hB:=vz v;cases hg:agB (v,f)with
      |true=>
       have U:=hg;unfold agB at U;simp only at U;generalize bdB v=bb at hB U
       repeat' first|refine gG ?_|refine gB ?_ ?_<;>intro h|(refine gI T (zl hv) ?_)|(refine gI T (zl hf) ?_)|refine gC hB ?_|refine zo ?_
       all_goals first
        |exact gF
        |(exfalso;clear hn ha hi2 hlt hl;simp_all;done)
      |false=>
       have U:=hg;unfold agB at U;simp only at U;generalize bdB v=bb at hB U
       repeat' first|refine gG ?_|refine gB ?_ ?_<;>intro h|(refine gI T (zl hv) ?_)|(refine gI T (zl hf) ?_)|refine gC hB ?_|refine zo ?_
       all_goals first
        |(rw[wrap64 ua]
          exact zg (i+1) ⟨ua,by rw[zim hz,hn];simp[hg]⟩ id ua gM)
        |(exfalso;clear hn ha hi2 hlt hl;simp_all;done)
     ·exfalso;have hge: ¬i<p.params.length:=by simpa using h
      rw[u5 (by rw[th];omega),ha]at hn;cases hn
   |false=>
    rw[uu ue];rw[show prZ ((0:Int),p)=zZ p from by rw[prZ,uv rfl]];rcases J with⟨e1,rfl⟩|⟨e1,rfl,rfl⟩
    all_goals
     refine gO T Tryz.func40 λC hC=>?_;refine jn rfl 1 1 rfl rfl λhlen=>?_;rw[uk]at hlen
     repeat' first|refine gG ?_|exact gD|(exfalso;simp only[uq,ur,uk,ux,uG]at h;omega)|(exfalso;simp[e1]at h;done)|refine gB ?_ ?_<;>intro h|refine gR hI (nm [1003]) ?_|(refine gI T (zl hp) ?_)|refine gC hP ?_|refine gC hA ?_|refine ze ?_
     rw[uk]
     refine zn (λi:Nat=>i<=p.params.length) (ckT d p c) (λi=>p.params.length - i) hC
      0 (uz _) id gM ?_
     intro i hi2;refine zq T hC true 200 rfl ?_;refine zt rfl ?_ ?_<;>intro h
     ·have hlt:i<p.params.length:=by simpa using h
      clear h;obtain⟨v,hv⟩:=zd (l:=c.a) (i:=i) ua;obtain⟨f,hf⟩:=zd (l:=p.params) (i:=i) hlt;have hz:(List.zip c.a p.params)[i]?=some (v,f):=by rw[qa];exact⟨hv,hf⟩
      have hB:=vz v
      have U:agB (v,f)=false:=by
       have:=List.any_eq_false.1 ha (v,f) (List.mem_of_getElem? hz);simpa using this
      unfold agB at U;simp only at U;generalize bdB v=bb at hB U
      repeat' first|refine gG ?_|refine gB ?_ ?_<;>intro h|(refine gI T (zl hv) ?_)|(refine gI T (zl hf) ?_)|refine gC hB ?_|refine zo ?_
      all_goals first
       |(rw[wrap64 ua]
         exact zg (i+1) ua id ua gM)
       |(exfalso;clear ha hi2 hlt hl;simp_all;done)
     ·clear h
      repeat' first|refine gG ?_|refine gB ?_ ?_<;>intro h|refine ze ?_
      exact gF
  ·rw[uv hl];rw[show prZ ((3:Int),zoK)=zPr from by rw[prZ,uu ub]];rcases J with⟨e1,rfl⟩|⟨e1,rfl,rfl⟩
   all_goals
    refine gO T Tryz.func40 λC hC=>?_
    repeat' first|refine gG ?_|exact gD|(exfalso;simp only[uq,ur,uk,ux,uG]at h;omega)|(exfalso;simp[e1]at h;done)|refine gB ?_ ?_<;>intro h|refine gR hI (nm [1003]) ?_|(refine gI T (zl hp) ?_)|refine gC hP ?_|refine gC hA ?_|refine ze ?_
    exact gF
theorem zfW{f:Int->Option (Int×Int)}{k:Int}{l:List Int}{s:Int}{F:Int->Vn Int}{R:Vn Int}(h:((sumN f (k::l) s).bind F)=R)(U:R≠ .out):
 ∃n e,f k=some (n,e)/\((¬e=0/\R= .flt e)\/(e=0/\inB n/\((bdB (s+n)=false/\R= .flt 5)\/(bdB (s+n)=true/\((sumN f l (s+n)).bind F)=R)))):=by
 rw[sumN]at h;cases hx:f k with
 |none=>rw[hx]at h;exact absurd h.symm U
 |some q=>
  obtain⟨n,e⟩:=q;rw[hx]at h;refine⟨n,e,rfl,?_⟩;simp only at h;by_cases hf:e=0
  ·rw[uu (by simpa using hf)]at h;right;refine⟨hf,?_⟩;by_cases J:inB n
   ·rw[uv J]at h;refine⟨J,?_⟩;cases hB:bdB (s+n)with
    |true=>rw[hB,uv rfl]at h;exact .inr ⟨rfl,h⟩
    |false=>rw[hB,uu ub]at h;exact .inl ⟨rfl,h.symm⟩
   ·rw[uu J]at h;exact absurd h.symm U
  ·rw[uv hf]at h;exact .inl ⟨hf,h.symm⟩
theorem zqJ{n:Int}:bdB n=true↔inB n:=by unfold bdB inB;simp
theorem zmE(hv:yD d m=true):(zad d m).order.length<=4096:=by
 have J:=zfp hv;have:=zh7 m.n.length _ J.nodup J.inr;simp only[yD,uo,ux,ur]at hv;omega
abbrev poT(d:zj)(m:Hp)(l:List Int)(q:Nat×Int):zf×Tab:=([(2,.one (.bx 1002 0)),(3,.one (.bx 1003 0)),(6,pS (xw l)),(8,I q.2),(26,pS (.sl 5 (d.pots.map zc5))),(27,I d.pots.length),(28,I q.1)],
 [(1002,some (.box ((zJ d).map V.p))),(1003,some (.box ((xP m).map V.p)))])
abbrev piT(d:zj)(m:Hp)(l:List Int)(p:Pt)(L:List Int)(i:Nat)(q:Nat×Int):zf×Tab:=([(2,.one (.bx 1002 0)),(3,.one (.bx 1003 0)),(6,pS (xw l)),(8,I q.2),(26,pS (.sl 5 (d.pots.map zc5))),(27,I d.pots.length),(28,I i),(10,.one (.bx 1010 0)),(40,pS (xw L)),(41,I L.length),(42,I q.1)],
 [(1002,some (.box ((zJ d).map V.p))),(1003,some (.box ((xP m).map V.p))),(1010,some (.box ((zc5 p).map V.p)))])
set_option maxHeartbeats 1000000 in
theorem zmF{v e:Int}(hd:yx d=true)(h:ptE d m g=some (v,e)):zh Tryz.prog 31 [zF (zJ d),zF (xP m)] [] (.tup [I v,I e]) []:=by
 unfold ptE at h;cases hv:yD d m with
 |false=>
  rw[uv hv]at h;cases h;have hR:=zfq hv;refine gO T Tryz.func31 λC hC=>?_
  repeat' first|refine gG ?_|exact gD|refine gB ?_ ?_<;>intro h|refine gC hR ?_|refine ze ?_
  exact gF
 |true=>
  rw[uu (by simp[hv])]at h;obtain⟨hs,hw⟩:=jy hd hv;have hR:=zfr hv;have hso:=(zfp hv).inr;have hol:=zmE hv;generalize (zad d m).order=l at h hR hol hso;have hnod: ∀x∈l,zvh m x:=hso;generalize hRR:ptP d m g l d.pots 0=R at h;have hRn:R≠ .out:=λe=>by subst e;cases h
  refine gO T Tryz.func31 λC hC=>?_;refine jn rfl 0 6 rfl rfl λhpl=>?_;rw[uk]at hpl
  repeat' first|refine gG ?_|exact gD|refine gB ?_ ?_<;>intro h|refine gC hR ?_
  rw[uk]
  refine zn (λq:Nat×Int=>q.1<=d.pots.length/\inB q.2/\ptP d m g l (d.pots.drop q.1) q.2=R) (poT d m l) (λq=>d.pots.length - q.1) hC
   (0,0) ⟨uz _,ub,hRR⟩ id gM ?_
  clear hRR;rintro⟨i,s⟩ ⟨hi,U,J⟩;simp only at hi U J;change Goal _ _ _ _ _ [(2,.one (.bx 1002 0)),(3,.one (.bx 1003 0)),(6,pS (xw l)),(8,I s),(26,pS (.sl 5 (d.pots.map zc5))),(27,I d.pots.length),(28,I (i:Int))] (poT d m l (i,s)).2 _;refine zq T hC true 200 rfl ?_;refine zt rfl ?_ ?_<;>intro h
  ·have hlt:i<d.pots.length:=by simpa using h
   clear h;obtain⟨p,hp⟩:=zd hlt;rw[drop_at hp]at J
   replace J:((ptN d m g p.x (ptL d m p l) s).bind λs=>ptP d m g l (d.pots.drop (i+1)) s)=R:=J
   have hF:=zsz hs hw p hnod;have hC1:=jF l ua
   have hL: ∃L,ptL d m p l=L/\L.length<=4096/\((p.t=(⟨#[]⟩:UH)/\L=[0])\/(¬p.t=(⟨#[]⟩:UH)/\L=l.filter λx=> !ziE d m p x)):=by
    unfold ptL;by_cases ht:p.t=(⟨#[]⟩:UH)
    ·rw[uv ht];exact⟨_,rfl,ue,.inl ⟨ht,rfl⟩⟩
    ·rw[uu ht];refine⟨_,rfl,tZ (Up _ _) hol,.inr ⟨ht,?_⟩⟩
     congr 1
     funext k
     simp[ziE]
   obtain⟨L,hL1,hL3,hL2⟩:=hL;rw[hL1]at J;clear hL1;rcases hL2 with⟨ht,hL4⟩|⟨ht,hLf⟩
   ·repeat' first|refine gG ?_|(exfalso;simp[ht]at h;done)|refine gB ?_ ?_<;>intro h|(refine gI T (zl hp) ?_)|refine gT ?_
    subst hL4;change Goal _ _ _ _ _ ((42,I 0)::(41,I (([0]:List Int).length:Int))::(40,pS (xw [0]))::_) _ _;generalize ([0]:List Int)=L at J hL3⊢
    refine zn (λq:Nat×Int=>q.1<=L.length/\inB q.2/\((ptN d m g p.x (L.drop q.1) q.2).bind λs=>ptP d m g l (d.pots.drop (i+1)) s)=R) (piT d m l p L i) (λq=>L.length - q.1) hC
     (0,s) ⟨uz _,U,J⟩ id gM ?_
    clear J U;rintro⟨k,s⟩ ⟨hk,U,J⟩;simp only at hk U J;change Goal _ _ _ _ _ [(2,.one (.bx 1002 0)),(3,.one (.bx 1003 0)),(6,pS (xw l)),(8,I s),(26,pS (.sl 5 (d.pots.map zc5))),(27,I d.pots.length),(28,I (i:Int)),(10,.one (.bx 1010 0)),(40,pS (xw L)),(41,I L.length),(42,I (k:Int))] (piT d m l p L i (k,s)).2 _;refine zq T hC true 200 rfl ?_;refine zt rfl ?_ ?_<;>intro h
    ·have hklt:k<L.length:=by simpa using h
     clear h;obtain⟨n0,hn0⟩:=zd hklt;rw[drop_at hn0]at J;obtain⟨n,f,hE,hcase⟩:=zfW J hRn;have hX:=ziC hE;have hsb':=U;unfold inB at hsb';rcases hcase with⟨hf,rfl⟩|⟨rfl,hnb,⟨hB,rfl⟩|⟨hB,hnx⟩⟩
     ·cases h
      repeat' first|refine gG ?_|exact gD|(exfalso;simp[hf]at h;done)|refine gB ?_ ?_<;>intro h|(refine gI T (zl hn0) ?_)|refine gC hX ?_|refine zo ?_
      exact gF
     ·cases h;unfold inB at hnb;have hw1:IntKind.i64.wrap (s+n)=s+n:=wrap64 ua;have hb:=vz (s+n);rw[hB]at hb
      repeat' first|refine gG ?_|exact gD|refine gB ?_ ?_<;>intro h|(refine gI T (zl hn0) ?_)|refine gC hX ?_|(rw[hw1];refine gC hb ?_)|refine zo ?_
      exact gF
     ·unfold inB at hnb;have hw1:IntKind.i64.wrap (s+n)=s+n:=wrap64 ua;have hb:=vz (s+n);rw[hB]at hb
      repeat' first|refine gG ?_|exact gD|refine gB ?_ ?_<;>intro h|(refine gI T (zl hn0) ?_)|refine gC hX ?_|(rw[hw1];refine gC hb ?_)|refine zo ?_
      rw[show IntKind.i64.wrap ((k:Int)+1)=((k+1:Nat):Int) by rw[wrap64 ua];omega];exact zg (k+1,s+n) ⟨by simp only;omega,zqJ.1 hB,hnx⟩ id (by simp only;omega) gM
    ·have hkge: ¬k<L.length:=by simpa using h
     clear h;rw[uA ua]at J
     replace J:ptP d m g l (d.pots.drop (i+1)) s=R:=J
     repeat' first|refine gG ?_|refine gB ?_ ?_<;>intro h|refine ze ?_
     rw[show IntKind.i64.wrap ((i:Int)+1)=((i+1:Nat):Int) by rw[wrap64 ua];omega];exact zg (i+1,s) ⟨by simp only;omega,U,J⟩ id (by simp only;omega) gM
   ·rw[<-hLf]at hF
    repeat' first|refine gG ?_|(exfalso;simp[ht]at h;done)|refine gB ?_ ?_<;>intro h|(refine gI T (zl hp) ?_)|refine gT ?_|refine gR hC1 (nm [140]) ?_|refine gR hF (nm [140,1,141,3,4,1002,1003,1010]) ?_
    refine gZ 141 [(40,pS (xw L))] [] ?_;rw[uk]
    refine zn (λq:Nat×Int=>q.1<=L.length/\inB q.2/\((ptN d m g p.x (L.drop q.1) q.2).bind λs=>ptP d m g l (d.pots.drop (i+1)) s)=R) (piT d m l p L i) (λq=>L.length - q.1) hC
     (0,s) ⟨uz _,U,J⟩ id gM ?_
    clear J U;rintro⟨k,s⟩ ⟨hk,U,J⟩;simp only at hk U J;change Goal _ _ _ _ _ [(2,.one (.bx 1002 0)),(3,.one (.bx 1003 0)),(6,pS (xw l)),(8,I s),(26,pS (.sl 5 (d.pots.map zc5))),(27,I d.pots.length),(28,I (i:Int)),(10,.one (.bx 1010 0)),(40,pS (xw L)),(41,I L.length),(42,I (k:Int))] (piT d m l p L i (k,s)).2 _;refine zq T hC true 200 rfl ?_;refine zt rfl ?_ ?_<;>intro h
    ·have hklt:k<L.length:=by simpa using h
     clear h;obtain⟨n0,hn0⟩:=zd hklt;rw[drop_at hn0]at J;obtain⟨n,f,hE,hcase⟩:=zfW J hRn;have hX:=ziC hE;have hsb':=U;unfold inB at hsb';rcases hcase with⟨hf,rfl⟩|⟨rfl,hnb,⟨hB,rfl⟩|⟨hB,hnx⟩⟩
     ·cases h
      repeat' first|refine gG ?_|exact gD|(exfalso;simp[hf]at h;done)|refine gB ?_ ?_<;>intro h|(refine gI T (zl hn0) ?_)|refine gC hX ?_|refine zo ?_
      exact gF
     ·cases h;unfold inB at hnb;have hw1:IntKind.i64.wrap (s+n)=s+n:=wrap64 ua;have hb:=vz (s+n);rw[hB]at hb
      repeat' first|refine gG ?_|exact gD|refine gB ?_ ?_<;>intro h|(refine gI T (zl hn0) ?_)|refine gC hX ?_|(rw[hw1];refine gC hb ?_)|refine zo ?_
      exact gF
     ·unfold inB at hnb;have hw1:IntKind.i64.wrap (s+n)=s+n:=wrap64 ua;have hb:=vz (s+n);rw[hB]at hb
      repeat' first|refine gG ?_|exact gD|refine gB ?_ ?_<;>intro h|(refine gI T (zl hn0) ?_)|refine gC hX ?_|(rw[hw1];refine gC hb ?_)|refine zo ?_
      rw[show IntKind.i64.wrap ((k:Int)+1)=((k+1:Nat):Int) by rw[wrap64 ua];omega];exact zg (k+1,s+n) ⟨by simp only;omega,zqJ.1 hB,hnx⟩ id (by simp only;omega) gM
    ·have hkge: ¬k<L.length:=by simpa using h
     clear h;rw[uA ua]at J
     replace J:ptP d m g l (d.pots.drop (i+1)) s=R:=J
     repeat' first|refine gG ?_|refine gB ?_ ?_<;>intro h|refine ze ?_
     rw[show IntKind.i64.wrap ((i:Int)+1)=((i+1:Nat):Int) by rw[wrap64 ua];omega];exact zg (i+1,s) ⟨by simp only;omega,U,J⟩ id (by simp only;omega) gM
  ·have hge: ¬i<d.pots.length:=by simpa using h
   clear h;rw[uA ua]at J
   replace J:Vn.ok s=R:=J
   subst J;cases h
   repeat' first|refine gG ?_|refine gB ?_ ?_<;>intro h|refine ze ?_
   exact gF
theorem zmG(d:zj)(m:Hp):zh Tryz.prog 28 [zF (zJ d),zF (xP m)] [] (I (if zcI d m=true then 0 else 1)) []:=by
 have J:=zbJ d;have U:=yW d m;unfold zcI;generalize zcT d=q at J⊢;generalize hr:(if(decide (q.2.2=0)&&yD d m)=true then(0:Int)else 1)=r;refine gO T Tryz.func28 λC hC=>?_
 repeat' first|refine gG ?_|refine gB ?_ ?_<;>intro h|refine gC J ?_|refine gC U ?_|refine ze ?_
 all_goals (simp only[ux,uG,uq,ur]at *; simp_all;subst hr;exact gF)
theorem zjC(m:Hp)(hg:m.g.length<=1000000)(hn:m.n.length<=1000000)(hf: ∀x∈m.n,x.f.length<=1000000):
 zh Tryz.prog 29 [zF (xP m)] [] (.agg [.ar 0,.ar 1]) [(0,.arr 1 (m.g.map yk)),(1,.vw [2] 2 (wRows m.n 0)),(2,.bag 1 (j9 m.n))]:=by
 have hC1:=jF m.g hg;refine gO T Tryz.func29 λC hC=>?_
 repeat' first|refine gG ?_|refine gB ?_ ?_<;>intro h|refine gR hC1 (nm [141]) ?_
 rw[uk];refine gA 150 2 [] [(1003,[.ar 141,.ar 150])] ?_;refine ztB hC rfl 151 1 rfl ?_;refine ztG rfl 150 [151] (rows:=[]) (rows':=wRows (m.n.take 0) 0) rfl rfl ?_
 refine zn (λi:Nat=>i<=m.n.length) (λi=>([(2,.one (.bx 1002 0)),(3,.one (.bx 1003 0)),(11,pS (zio m.n)),(12,I m.n.length),(13,I i)],
  [(1002,some (Res.box [.p (.k (.slice none 0 0)),.p (.k (.slice none 0 0))])),(1003,some (Res.box [.ar 141,.ar 150])),(141,some (Res.arr 1 (m.g.map yk))),(150,some (Res.vw [151] 2 (wRows (m.n.take i) 0))),(151,some (Res.bag 1 (j9 (m.n.take i))))])) (λi=>m.n.length - i) hC
  0 (uz _) id gM ?_
 intro i hi;refine zq T hC true 200 rfl ?_;refine zt rfl ?_ ?_<;>intro h
 ·have hlt:i<m.n.length:=by simpa using h
  clear h;obtain⟨x,hx⟩:=zd hlt;have hC2:=jF x.f (hf x (List.mem_of_getElem? hx));have hj:=zgt (m.n.take i) x.t 151 140;have J:=yw (m.n.take i) 0;have htl:(m.n.take i).length=i:=by rw[td];omega
  have hbt:j9 (m.n.take i)++[x.f.map yk]=j9 (m.n.take (i+1)):=by unfold j9;rw[yd hx,u6];rfl
  have U:=zgu (m.n.take i) x 151 140 161;rw[<-yd hx,<-zdN]at U
  repeat' first|refine gG ?_|refine gB ?_ ?_<;>intro h|(refine gI T (zl hx) ?_)|refine gR hC2 (nm [140]) ?_|(refine zkx T hC [PC.p (ki x.t),PC.a 0] [140] rfl rfl rfl rfl rfl rfl rfl rfl rfl rfl rfl rfl ?_)|(refine zbU T 160 hC (id:=150) (rows:=wRows (m.n.take i) 0) (rows2:=[[PC.p (ki x.t),PC.a 0]]) (ids:=[151]) (ids2:=[140]) [151,140] (wRows (m.n.take i) 0++[[PC.p (ki x.t),PC.a 1]]) (bytes:=32) rfl rfl rfl rfl (zoh.vw (T.es_ok _ _ rfl)) rfl hj.1 hj.2.1 hj.2.2.1 hj.2.2.2 rfl rfl rfl ud (by rw[J,uD];omega) (by rw[J,uD];omega) rfl rfl rfl ?_)
  rw[wrapN ua];refine zkn hC rfl 151 140 161 rfl rfl rfl rfl [] uh [(160,.vw [161] 2 (wRows (m.n.take (i+1)) 0))] ⟨⟨_,rfl,rfl,U⟩,uh⟩ ?_;exact zg (i+1) ua (ms [(150,160),(151,161)]) ua ⟨rfl,⟨rfl,rfl,rfl,rfl,rfl,uh⟩,⟨rfl,rfl,rfl,rfl,(by rw[<-hbt];rfl),uh⟩,rfl,xH rfl⟩
 ·have hge: ¬i<m.n.length:=by simpa using h
  clear h;rw[u5 ua]
  repeat' first|refine gG ?_|refine gB ?_ ?_<;>intro h|refine ze ?_
  exact gW [141,150,151]
theorem zpx{c:Cl}(h:(chE d c).1=0): ∃i,zcZ d c.p=some i/\d.procs[i]?=some (chE d c).2:=by
 unfold chE at h⊢;cases hi:zcZ d c.p with
 |none=>rw[hi]at h;cases h
 |some i=>
  simp only[hi]at h⊢;cases hp:d.procs[i]? with
  |none=>simp only[hp]at h;cases h
  |some p=>
   simp only[hp]at h⊢;refine⟨i,rfl,?_⟩;by_cases J:((!decide (p.res=(⟨#[]⟩:UH))&& !plB p.res)||p.params.any (λf=> !plB f.t))=true
   ·rw[uv J]at h;cases h
   rw[uu J]at h⊢;by_cases h2: ¬c.a.length=p.params.length
   ·rw[uv h2]at h;cases h
   rw[uu h2]at h⊢;by_cases h3:(List.zip c.a p.params).any agB=true
   ·rw[uv h3]at h;cases h
   rw[uu h3];exact hp
abbrev mzS(om:Option Hp):S:=zF (xP (om.getD ⟨[],[]⟩))
theorem zuC{x e:S}:LeS (.tup [x,.agg [.p (.k (.slice none 0 0)),.p (.k (.slice none 0 0))],e]) (.tup [x,mzS none,e]):=LeS.tup (.cons (.refl _) (.cons (LeS.agg (.cons (.nil 1) (.cons (.nil 2) .nil))) (.cons (.refl _) .nil)))
variable {fuel:Int}{om:Option Hp}{x:EnT}
theorem zsG{c:Cl}{e:Int}(h1:zcI d m=true)(J:entE d m g c fuel=some (x,om,e)):
 zh Tryz.prog 30 [zF (zJ d),zF (xP m),zF (wY c),I fuel] [] (.tup [zF (enR x),mzS om,I e]) []:=by
 obtain⟨hcw,hv⟩:=jD h1;obtain⟨hd,hf⟩:=zvg hcw;obtain⟨hs,hw⟩:=jy hd hv;have U:=zmD d c;unfold entE at J;by_cases e1:(chE d c).1=0
 ·rw[uu (by simpa using e1)]at J;obtain⟨i0,hi0,hp0⟩:=zpx e1;unfold prZ at U;rw[uv e1,e1]at U;generalize (chE d c).2=p at J U hp0;cases hpt:ptE d m g with
  |none=>rw[hpt]at J;cases J
  |some q=>
   obtain⟨be,e2⟩:=q;simp only[hpt]at J;have hP:=zmF hd hpt;by_cases z2:e2=0
   ·subst z2;rw[uu ue]at J;cases hbn:bnE d m g p c with
    |none=>rw[hbn]at J;cases J
    |some q=>
     obtain⟨bo,e3⟩:=q;simp only[hbn]at J;have hB:=zpw h1 hs hbn;by_cases z3:e3=0
     ·subst z3;rw[uu ue]at J;by_cases z4:zgg d m fuel=0
      ·rw[uu (by simpa using z4)]at J;by_cases z5:zd3 d m c=0
       ·rw[uu (by simpa using z5)]at J;cases hpl:plF (rnV d fuel g p c.a (mc0 m))with
        |none=>rw[hpl]at J;cases J
        |some w=>
         obtain⟨fl,v,y⟩:=w;simp only[hpl]at J;by_cases z6:1099511627776<y.acc.length
         ·rw[uv z6]at J;cases J
         ·rw[uu z6]at J;have hR:=zsp hs hw z5 z4 (k:=g) (fl:=fl) (v:=v) (x:=y) (λi p' hi hp'=>by rw[hi0]at hi;cases hi;rw[hp0]at hp';cases hp';exact hpl) ua;cases hpa:ptE d ⟨y.g,y.ns⟩ g with
          |none=>rw[hpa]at J;cases J
          |some q=>
           obtain⟨af,e7⟩:=q;simp only[hpa]at J;cases J;have hP2:=zmF hd hpa;refine gO T Tryz.func30 λC hC=>?_
           repeat' first|refine gG ?_|exact gD|refine gB ?_ ?_<;>intro h|refine gC U ?_|refine gC hP ?_|refine gC hB ?_|refine gC hR ?_|refine gC hP2 ?_
           exact gF
       ·rw[uv z5]at J;cases J;have hR:=zjy hs hw z4 z5;refine gO T Tryz.func30 λC hC=>?_
        repeat' first|refine gG ?_|exact gD|(exfalso;simp[z5]at h;done)|refine gB ?_ ?_<;>intro h|refine gC U ?_|refine gC hP ?_|refine gC hB ?_|refine gC hR ?_
        exact zi ⟨.inl rfl,id,_,rfl,zuC,trivial,rfl,rfl⟩
      ·rw[uv z4]at J;cases J;have hR:=zmh z4 c;refine gO T Tryz.func30 λC hC=>?_
       repeat' first|refine gG ?_|exact gD|(exfalso;simp[z4]at h;done)|refine gB ?_ ?_<;>intro h|refine gC U ?_|refine gC hP ?_|refine gC hB ?_|refine gC hR ?_
       exact zi ⟨.inl rfl,id,_,rfl,zuC,trivial,rfl,rfl⟩
     ·rw[uv z3]at J;cases J;refine gO T Tryz.func30 λC hC=>?_
      repeat' first|refine gG ?_|exact gD|(exfalso;simp[z3]at h;done)|refine gB ?_ ?_<;>intro h|refine gC U ?_|refine gC hP ?_|refine gC hB ?_
      exact zi ⟨.inl rfl,id,_,rfl,zuC,trivial,rfl,rfl⟩
   ·rw[uv z2]at J;cases J;refine gO T Tryz.func30 λC hC=>?_
    repeat' first|refine gG ?_|exact gD|(exfalso;simp[z2]at h;done)|refine gB ?_ ?_<;>intro h|refine gC U ?_|refine gC hP ?_
    exact zi ⟨.inl rfl,id,_,rfl,zuC,trivial,rfl,rfl⟩
 ·rw[uv (by simpa using e1)]at J;cases J;unfold prZ at U;rw[uu e1]at U;generalize (chE d c).1=ec at e1 U;refine gO T Tryz.func30 λC hC=>?_
  repeat' first|refine gG ?_|exact gD|(exfalso;simp[e1]at h;done)|refine gB ?_ ?_<;>intro h|refine gC U ?_
  exact zi ⟨.inl rfl,id,_,rfl,zuC,trivial,rfl,rfl⟩
def zmH(l:List Cl):PV:= .sl 2 (l.map wY)
theorem zuD{m2:Hp}{c:Cl}(U:zcI d m=true)(J:entE d m g c fuel=some (x,some m2,0)):zcI d m2=true:=by
 unfold entE at J;split at J
 ·cases J
 ·cases hpt:ptE d m g with
  |none=>rw[hpt]at J;cases J
  |some q=>
   simp only[hpt]at J;split at J
   ·cases J
   ·cases hbn:bnE d m g (chE d c).2 c with
    |none=>rw[hbn]at J;cases J
    |some q=>
     simp only[hbn]at J;split at J
     ·cases J
     ·split at J
      ·cases J
      ·split at J
       ·cases J
       ·cases hpl:plF (rnV d fuel g (chE d c).2 c.a (mc0 m))with
        |none=>rw[hpl]at J;cases J
        |some w=>
         obtain⟨fl,v,y⟩:=w;simp only[hpl]at J;split at J
         ·cases J
         ·cases hpa:ptE d ⟨y.g,y.ns⟩ g with
          |none=>rw[hpa]at J;cases J
          |some q=>
           obtain⟨af,e7⟩:=q;simp only[hpa,ui,uB]at J;obtain⟨_,rfl,rfl⟩:=J;unfold zcI;rw[uT (jD U).1,tA];cases hv:yD d ⟨y.g,y.ns⟩with
           |true=>rfl
           |false=>unfold ptE at hpa;rw[uv hv]at hpa;cases hpa
variable {xs:List EnT}
theorem zmI{f:Hp->Cl->Option (EnT×Option Hp×Int)}{c:Cl}{l:List Cl}{res:List EnT×Option Hp×Int}(h:(audF f (c::l) m).map (λq=>if q.2.2=0 then(xs++q.1,q.2)else q)=some res):
 ∃x om e,f m c=some (x,om,e)/\((∃m2,om=some m2/\e=0/\(audF f l m2).map (λq=>if q.2.2=0 then((xs++[x])++q.1,q.2)else q)=some res)\/(¬e=0/\res=([],none,e))\/(om=none/\e=0)):=by
 rw[audF]at h;cases hf:f m c with
 |none=>rw[hf]at h;cases h
 |some q=>
  obtain⟨x,om,e⟩:=q;rw[hf]at h;refine⟨x,om,e,rfl,?_⟩;cases om with
  |none=>
   by_cases J:e=0
   ·exact .inr (.inr ⟨rfl,J⟩)
   ·right;left;simp only[uO,uu J,ui]at h;exact⟨J,h.symm⟩
  |some m2=>
   by_cases J:e=0
   ·left;refine⟨m2,rfl,J,?_⟩;simp only at h;rw[uu (by simpa using J)]at h;cases hq:audF f l m2 with
    |none=>rw[hq]at h;cases h
    |some q=>
     rw[hq]at h;simp only[uO]at h⊢;rw[<-h];by_cases U:q.2.2=0
     ·rw[uv U,uv U,uv U];simp
     ·rw[uu U,uu U,uu U]
   ·right;left;simp only at h;rw[uv (by simpa using J)]at h;simp only[uO,uu J,ui]at h;exact⟨J,h.symm⟩
theorem zmJ{c:Cl}{e:Int}(J:entE d m g c fuel=some (x,none,e)): ¬e=0:=by
 unfold entE at J;split at J
 ·rename_i h;cases J;exact h
 ·cases hpt:ptE d m g with
  |none=>rw[hpt]at J;cases J
  |some q=>
   simp only[hpt]at J;split at J
   ·rename_i h;cases J;exact h
   ·cases hbn:bnE d m g (chE d c).2 c with
    |none=>rw[hbn]at J;cases J
    |some q=>
     simp only[hbn]at J;split at J
     ·rename_i h;cases J;exact h
     ·split at J
      ·rename_i h;cases J;exact h
      ·split at J
       ·rename_i h;cases J;exact h
       ·cases hpl:plF (rnV d fuel g (chE d c).2 c.a (mc0 m))with
        |none=>rw[hpl]at J;cases J
        |some w=>
         obtain⟨fl,v,y⟩:=w;simp only[hpl]at J;split at J
         ·cases J
         ·cases hpa:ptE d ⟨y.g,y.ns⟩ g with
          |none=>rw[hpa]at J;cases J
          |some q=>obtain⟨af,e7⟩:=q;simp only[hpa]at J;cases J
abbrev auT(d:zj)(l:List Cl)(fuel:Int)(q:Nat×List EnT×Hp):zf×Tab:=([(3,I fuel),(4,.one (.bx 1004 0)),(5,.one (.bx 1005 0)),(9,.one (.bx 1009 0)),(12,.one (.ar 140)),(40,pS (zmH l)),(41,I l.length),(42,I q.1)],
 [(1004,some (.box ((zJ d).map V.p))),(1005,some (.box ((xP q.2.2).map V.p))),(1009,some (.box [.p (.k (.slice none 0 0)),.p (.k (.slice none 0 0))])),(140,some (.arr 4 (q.2.1.map enR)))])
theorem zpy{e:S}:LeS (.tup [.one (.p (.k (.slice none 0 0))),.agg [.p (.k (.slice none 0 0)),.p (.k (.slice none 0 0))],e]) (.tup [pS (enL []),mzS none,e]):=LeS.tup (.cons (.one (.nil 4)) (.cons (LeS.agg (.cons (.nil 1) (.cons (.nil 2) .nil))) (.cons (.refl _) .nil)))
theorem zrd{l:List Cl}{e:Int}(U:zu3 d m g l fuel=some (xs,om,e)):
 zh Tryz.prog 9 [zF (zJ d),zF (xP m),pS (zmH l),I fuel] [] (.tup [pS (enL xs),mzS om,I e]) []:=by
 have hG:=zmG d m;unfold zu3 at U;cases h1:zcI d m with
 |false=>
  rw[uv h1]at U;cases U;rw[h1]at hG
  replace hG:zh Tryz.prog 28 [zF (zJ d),zF (xP m)] [] (I 1) []:=hG
  refine gO T Tryz.func9 λC hC=>?_
  repeat' first|refine gG ?_|exact gD|refine gB ?_ ?_<;>intro h|refine gC hG ?_|refine ze ?_
  exact zi ⟨.inl rfl,id,_,rfl,zpy,trivial,rfl,rfl⟩
 |true=>
  rw[uu (by simp[h1])]at U;rw[h1]at hG
  replace hG:zh Tryz.prog 28 [zF (zJ d),zF (xP m)] [] (I 0) []:=hG
  by_cases h2:fuel<0\/1048576<fuel
  ·rw[uv h2]at U;cases U;refine gO T Tryz.func9 λC hC=>?_
   repeat' first|refine gG ?_|exact gD|(exfalso;simp only[uW,uq,ur]at *; omega)|refine gB ?_ ?_<;>intro h|refine gC hG ?_|refine ze ?_
   all_goals exact zi ⟨.inl rfl,id,_,rfl,zpy,trivial,rfl,rfl⟩
  rw[uu h2]at U;by_cases h3:2000<l.length
  ·rw[uv h3]at U;cases U;refine gO T Tryz.func9 λC hC=>?_
   repeat' first|refine gG ?_|exact gD|(exfalso;simp only[uU,uq,ur,uk]at h;omega)|refine gB ?_ ?_<;>intro h|refine gC hG ?_|refine ze ?_
   all_goals exact zi ⟨.inl rfl,id,_,rfl,zpy,trivial,rfl,rfl⟩
  rw[uu h3]at U;obtain⟨hcw,hv⟩:=jD h1;obtain⟨hd,hf⟩:=zvg hcw;obtain⟨hs,hw⟩:=jy hd hv;have hCp:=zjC m hs.g hs.n hs.f;refine gO T Tryz.func9 λC hC=>?_
  repeat' first|refine gG ?_|exact gD|(exfalso;simp only[uU,uq,ur,uk]at h;omega)|refine gB ?_ ?_<;>intro h|refine gC hG ?_|refine gR hCp (nm [101,107,108]) ?_|refine ze ?_
  refine ze2 rfl (zj8 m 101 107 108) rfl [] uh [(1005,.box ((xP m).map V.p))] ⟨⟨_,rfl,rfl,LnR.box (.cons (LnV.ar (.head _)) (.cons (LnV.vw (ids:=[108]) (rows:=wRows m.n 0) (.tail _ (.head _)) (by rw[uk,yw]) (zbF _) (zrN _ 108 m.n (.tail _ (.tail _ (.head _))))) (zj7.refl _)))⟩,uh⟩ ?_;refine gA 140 4 [(12,.one (.ar 140))] [] ?_;rw[uk]
  refine zn (λq:Nat×List EnT×Hp=>q.1<=l.length/\q.2.1.length=q.1/\zcI d q.2.2=true/\(audF (λm c=>entE d m g c fuel) (l.drop q.1) q.2.2).map (λr=>if r.2.2=0 then(q.2.1++r.1,r.2)else r)=some (xs,om,e)) (auT d l fuel) (λq=>l.length - q.1) hC
   (0,[],m) ⟨uz _,rfl,h1,?_⟩ id gM ?_
  ·simp only[qW]
   replace U:audF (λm c=>entE d m g c fuel) l m=some (xs,om,e):=U
   rw[U];simp
  clear U h1 hv hs hw hCp hG;rintro⟨i,ys,m1⟩ ⟨hi,hyl,h1,J⟩;simp only at hi hyl h1 J;change Goal _ _ _ _ _ [(3,I fuel),(4,.one (.bx 1004 0)),(5,.one (.bx 1005 0)),(9,.one (.bx 1009 0)),(12,.one (.ar 140)),(40,pS (zmH l)),(41,I l.length),(42,I (i:Int))] (auT d l fuel (i,ys,m1)).2 _;refine zq T hC true 200 rfl ?_;refine zt rfl ?_ ?_<;>intro h
  ·have hlt:i<l.length:=by simpa using h
   clear h;obtain⟨c,hc⟩:=zd hlt;rw[drop_at hc]at J;obtain⟨x,ox,er,hE,hcase⟩:=zmI J;have hX:=zsG h1 hE;rcases hcase with⟨m2,rfl,rfl,hnx⟩|⟨he,hq⟩|⟨rfl,he⟩
   ·have h1':=zuD h1 hE;have happ:ys.map enR++[enR x]=(ys++[x]).map enR:=by rw[u6];rfl
    repeat' first|refine gG ?_|exact gD|refine gB ?_ ?_<;>intro h|(refine gI T (zl hc) ?_)|refine gC hX ?_|refine gT ?_|refine zo ?_|(refine gY T 141 ((ys++[x]).map enR) 32 ?_)
    rw[wrapN ua];exact zg (i+1,ys++[x],m2) ⟨by simp only;omega,by simp only[uC,uD];omega,h1',hnx⟩ (ms [(140,141)]) (by simp only;omega) ⟨rfl,⟨rfl,rfl,rfl,rfl,rfl,rfl,rfl,rfl,uh⟩,⟨rfl,rfl,rfl,rfl,uh⟩,rfl,xH rfl⟩
   ·cases hq
    repeat' first|refine gG ?_|exact gD|(exfalso;simp[he]at h;done)|refine gB ?_ ?_<;>intro h|(refine gI T (zl hc) ?_)|refine gC hX ?_|refine zo ?_
    exact zi ⟨.inl rfl,id,_,rfl,zpy,trivial,rfl,rfl⟩
   ·exact absurd he (zmJ hE)
  ·have hge: ¬i<l.length:=by simpa using h
   clear h;rw[uA ua,audF]at J;simp only[uO,uZ,u0,ui,uB]at J;obtain⟨rfl,rfl,rfl⟩:=J
   repeat' first|refine gG ?_|refine gB ?_ ?_<;>intro h|refine ze ?_
   refine gZ 140 [(8,pS (enL ys))] [] ?_;exact gF
end Hw.Gm
namespace Hw.Gm.Ps
open Go Go.Proofs Hw.M
structure Tok where
 k:Int
 t:Str
 n:Int
 ln:Int
 cl:Int
 deriving DecidableEq
def zes(t:Tok):List PV:=[ki t.k,ks t.t,ki t.n,ki t.ln,ki t.cl]
def zpz(l:List Tok):PV:= .sl 5 (l.map zes)
abbrev By:=List UInt8
def za4(l:By):Str:=⟨l.toArray⟩
def lst(s:Str):By:=s.data.toList
theorem zet(s:Str):za4 (lst s)=s:=by cases s;simp[za4,lst]
theorem zmK(l:By):lst (za4 l)=l:=by simp[za4,lst]
theorem vT(s:Str):(lst s).length=s.size:=by simp only[lst,tV];rfl
def wB(b:UInt8):Bool:=isWord b.toNat
def dB(b:UInt8):Bool:=isDigit b.toNat
def blB(b:UInt8):Bool:=decide (xr b.toNat=1)
def numV:By->Int->Int
 | [],a=>a
 |b::r,a=>numV r (a*10+((b.toNat:Int) - 48))
def zeu(w:By):Bool:= !decide (w=[])&& !(decide (1<w.length)&&decide (w.head?=some 48))&&w.all dB&&decide (numV w 0<=1099511627776)
def zks(w:By):Option (Int×Str×Int):=if wg (za4 w)=true then some (3,za4 w,0)else if isName (za4 w)=true then some (1,za4 w,0)else if zeu w=true then some (2,(⟨#[]⟩:UH),numV w 0)else none
def syms:List Str:=[(⟨#[61,61]⟩:UH),(⟨#[33,61]⟩:UH),(⟨#[60,61]⟩:UH),(⟨#[45,62]⟩:UH),(⟨#[40]⟩:UH),(⟨#[41]⟩:UH),⟨#[123]⟩,⟨#[125]⟩,(⟨#[91]⟩:UH),(⟨#[93]⟩:UH),(⟨#[44]⟩:UH),(⟨#[59]⟩:UH),(⟨#[58]⟩:UH),(⟨#[46]⟩:UH),(⟨#[61]⟩:UH),(⟨#[60]⟩:UH),(⟨#[43]⟩:UH),(⟨#[45]⟩:UH),(⟨#[42]⟩:UH),(⟨#[47]⟩:UH),(⟨#[37]⟩:UH)]
def zkc(l:By):Option Str:=syms.find? λy=>(lst y).isPrefixOf l
def tk:By->Option (Nat×Option (Int×Str×Int))
 | []=>none
 |c::r=>if blB c=true then some (1,none)
  else if c=35 then some (((c::r).takeWhile λb=>decide (b≠10)).length,none)
  else if wB c=true then(zks ((c::r).takeWhile wB)).map λt=>(((c::r).takeWhile wB).length,some t)
  else(zkc (c::r)).map λy=>(y.size,some (4,y,0))
def mvX(p:Int×Int)(c:UInt8):Int×Int:=if c=10 then(p.1+1,1)else(p.1,p.2+1)
def xS(p:Int×Int)(t:Int×Str×Int):Tok:=⟨t.1,t.2.1,t.2.2,p.1,p.2⟩
def lx:Nat->By->Int×Int->List Tok->List Tok×(Int×Int)×Int
 |0,_,_,_=>([],(0,0),0)
 |_+1,[],p,out=>(out++[⟨5,(⟨#[]⟩:UH),0,p.1,p.2⟩],(0,0),0)
 |f+1,c::r,p,out=>match tk (c::r)with
  |none=>([],p,7)
  |some (n,o)=>lx f ((c::r).drop n) (((c::r).take n).foldl mvX p) (out++(o.map (xS p)).toList)
theorem vU{p:UInt8->Bool}: ∀l:By,(l.takeWhile p).length<=l.length
 | []=>by simp
 |c::r=>by
  rw[qI];split
  ·simp only[uR];have:=vU (p:=p) r;omega
  ·simp
theorem jz: ∀ {a l:By},a.isPrefixOf l=true->a.length<=l.length
 | [],_,_=>by simp
 |_::_,[],h=>by simp[List.isPrefixOf]at h
 |x::a,y::l,h=>by
  simp only[List.isPrefixOf,uo]at h;have:=jz h.2;simp only[uR];omega
theorem zfX: ∀y∈syms,1<=y.size/\y.size<=2:=by decide
theorem ziF{l:By}{y:Str}(h:zkc l=some y):y∈syms/\(lst y).isPrefixOf l=true:=⟨qn h,by have:=oK h;exact this⟩
variable {o:Option (Int×Str×Int)}
theorem zmL{l:By}{n:Nat}(h:tk l=some (n,o)):1<=n/\n<=l.length:=by
 cases l with
 |nil=>cases h
 |cons c r=>
  simp only[tk]at h;split at h
  ·simp only[ui,uB]at h;obtain⟨rfl,_⟩:=h;simp
  ·split at h
   ·rename_i J;simp only[ui,uB]at h;obtain⟨rfl,_⟩:=h;refine⟨?_,vU _⟩;rw[qI,uv (by rw[J];decide)];simp
   ·split at h
    ·rename_i U;rw[uM]at h;obtain⟨t,_,h⟩:=h;simp only[uB]at h;obtain⟨rfl,_⟩:=h;refine⟨?_,vU _⟩;rw[qI,uv U];simp
    ·rw[uM]at h;obtain⟨y,hy,h⟩:=h;simp only[uB]at h;obtain⟨rfl,_⟩:=h;obtain⟨h1,h2⟩:=ziF hy;refine⟨(zfX y h1).1,?_⟩;have:=jz h2;rwa [vT]at this
theorem zqK: ∀(f g:Nat) (l:By) (p:Int×Int) (out:List Tok),l.length<f->l.length<g->lx f l p out=lx g l p out
 |0,_,_,_,_,h,_=>by omega
 |_+1,0,_,_,_,_,h=>by omega
 |_+1,_+1,[],_,_,_,_=>rfl
 |f+1,g+1,c::r,p,out,h,h'=>by
  simp only[lx];cases e:tk (c::r)with
  |none=>rfl
  |some q=>
   obtain⟨n,o⟩:=q;have J:=zmL e;simp only[uR]at h h' J;simp only;have hl:((c::r).drop n).length=r.length+1 - n:=by rw[tP,uR]
   exact zqK f g _ _ _ ua ua
theorem zsH(f:Nat)(l:By)(p:Int×Int)(out:List Tok)(h:l.length<f):lx f l p out=lx (l.length+1) l p out:=zqK _ _ _ _ _ h (qJ _)
def lxx(l:By)(p:Int×Int)(out:List Tok):List Tok×(Int×Int)×Int:=lx (l.length+1) l p out
theorem zsI(p:Int×Int)(out:List Tok):lxx [] p out=(out++[⟨5,(⟨#[]⟩:UH),0,p.1,p.2⟩],(0,0),0):=rfl
theorem zmM{c:UInt8}{r:By}(p:Int×Int)(out:List Tok)(h:tk (c::r)=none):lxx (c::r) p out=([],p,7):=by
 unfold lxx;simp only[lx,h]
theorem zbK{l:By}{n:Nat}(p:Int×Int)(out:List Tok)(h:tk l=some (n,o)):lxx l p out=lxx (l.drop n) ((l.take n).foldl mvX p) (out++(o.map (xS p)).toList):=by
 cases l with
 |nil=>cases h
 |cons c r=>
  have J:=zmL h;unfold lxx;simp only[lx,h];simp only[uR]at J;exact zsH _ _ _ _ (by rw[tP,uR];omega)
def yI(s:Str):List Tok×(Int×Int)×Int:=if 65536<s.size then([],(0,0),4)else lxx (lst s) (1,1) []
theorem zhe: ∀(l:By) (p:Int×Int),(∀b∈l,b≠10)->l.foldl mvX p=(p.1,p.2+l.length)
 | [],p,_=>by simp
 |b::r,p,h=>by
  have J:b≠10:=h b ue;rw[Ui,zhe r _ λx U=>h x (by simp[U])];simp only[mvX,uu J,uR,uB,Ub];omega
def natV:By->Nat->Nat
 | [],a=>a
 |b::r,a=>natV r (a*10+(b.toNat - 48))
theorem ziG{b:UInt8}:dB b=true↔48<=b.toNat/\b.toNat<=57:=by
 unfold dB isDigit;simp only[uo,uq];omega
theorem zev: ∀(l:By) (a:Nat),l.all dB=true->numV l a=(natV l a:Int)
 | [],a,_=>rfl
 |b::r,a,h=>by
  simp only[tX,uo]at h;have hb:=ziG.1 h.1;have e:((a:Int)*10+((b.toNat:Int) - 48))=((a*10+(b.toNat - 48):Nat):Int):=by omega
  simp only[numV,natV];rw[e];exact zev r _ h.2
theorem zmN: ∀(l:By) (a:Nat),a<=natV l a
 | [],a=>uF a
 |b::r,a=>by
  have:=zmN r (a*10+(b.toNat - 48));simp only[natV];omega
theorem zbl: ∀(l:By) (acc:Nat),l.all dB=true->acc<18446744073709551616->Lib.parseUint10 acc l=if natV l acc<18446744073709551616 then .ok (natV l acc)else .range
 | [],acc,_,ha=>by
   show Lib.NumEnd.ok acc=if acc<_ then _ else _
   rw[uv ha];rfl
 |c::r,acc,h,ha=>by
  simp only[tX,uo]at h;have U:=ziG.1 h.1;have hg:=zmN r (acc*10+(c.toNat - 48));simp only[Lib.parseUint10,natV,uv U];by_cases J:1844674407370955162<=acc
  ·rw[uv J];exact(uu ua).symm
  ·rw[uu J];by_cases h2:18446744073709551616<=acc*10+(c.toNat - 48)
   ·rw[uv h2];exact(uu ua).symm
   ·rw[uu h2];exact zbl r _ h.2 ua
theorem zhf{w:By}(U:w≠ [])(J:w.all dB=true):Lib.atoiAll w=if numV w 0<=9223372036854775807 then .ok (numV w 0)else .range:=by
 cases w with
 |nil=>exact absurd rfl U
 |cons c r=>
  have hc:=ziG.1 (by simp only[tX,uo]at J;exact J.1);rw[Lib.atoiAll_plain c r ua ua,Lib.parseMag,uu ue,zbl _ _ J ua];have hn:=zev (c::r) 0 J;rw[show((0:Nat):Int)=0 from rfl]at hn;by_cases h1:natV (c::r) 0<18446744073709551616
  ·rw[uv h1];simp only[Lib.signless];by_cases h2:9223372036854775808<=natV (c::r) 0
   ·rw[uv h2,uu ua]
   ·rw[uu h2,uv ua,hn]
  ·rw[uu h1,uu ua];rfl
def zsJ(w:By):Int:=if numV w 0<=9223372036854775807 then numV w 0 else 9223372036854775807
inductive PA (α:Type) where
 |ok (x:α) (i:Nat)
 |no (i:Nat)
 |out
variable {α β:Type}
def PA.bind(r:PA α)(f:α->Nat->PA β):PA β:=match r with
 | .ok x i=>f x i
 | .no i=> .no i
 | .out=> .out
section
variable (l:List Tok)
def isA(i:Nat)(s:Str):Bool:=match l[i]? with
 |some t=>(decide (t.k=3)||decide (t.k=4))&&decide (t.t=s)
 |none=>false
def jd(s:Str)(i:Nat):PA Unit:=if isA l i s=true then .ok () (i+1)else .no i
def wI(i:Nat):PA Str:=match l[i]? with
 |some t=>if t.k=1 then .ok t.t (i+1)else .no i
 |none=> .no i
def ztm(i:Nat):PA Int:=match l[i]? with
 |some t=>if t.k=2 then .ok t.n (i+1)else .no i
 |none=> .no i
def zn4(i:Nat):PA Str:=if isA l i (⟨#[105,110,116]⟩:UH)=true then .ok (⟨#[105,110,116]⟩:UH) (i+1)else if isA l i (⟨#[98,111,111,108]⟩:UH)=true then .ok (⟨#[98,111,111,108]⟩:UH) (i+1)else wI l i
def vb(i:Nat):PA Fld:=(wI l i).bind λn i=>(zn4 l i).bind λt i=> .ok ⟨n,t⟩ i
def listA{α:Type}(sep fin:Str)(one:Nat->PA α):Nat->Nat->List α->PA (List α)
 |0,_,_=> .out
 |f+1,i,acc=>if isA l i fin=true then .ok acc (i+1)
  else(if acc.length=0 then PA.ok () i else jd l sep i).bind λ_ i=>(one i).bind λx i=>listA sep fin one f i (acc++[x])
def opsA(n:Nat):List (Str×Int):=match n with
 |0=>[((⟨#[111,114]⟩:UH),20)]
 |1=>[((⟨#[97,110,100]⟩:UH),19)]
 |3=>[((⟨#[61,61]⟩:UH),14),((⟨#[33,61]⟩:UH),15),((⟨#[60,61]⟩:UH),17),((⟨#[60]⟩:UH),16)]
 |4=>[((⟨#[43]⟩:UH),9),((⟨#[45]⟩:UH),10)]
 |5=>[((⟨#[42]⟩:UH),11),((⟨#[47]⟩:UH),12),((⟨#[37]⟩:UH),13)]
 |_=>[]
def opA(i n:Nat):Option Int:=((opsA n).find? λp=>isA l i p.1).map (·.2)
mutual
def exprA:Nat->Nat->Nat->PA Ex
 |0,_,_=> .out
 |f+1,n,i=>
  if n=2 then if isA l i (⟨#[110,111,116]⟩:UH)=true then(exprA f 2 (i+1)).bind λx i=> .ok (.mk 18 0 (⟨#[]⟩:UH) [x]) i else exprA f 3 i
  else if n=6 then if isA l i (⟨#[45]⟩:UH)=true then(exprA f 6 (i+1)).bind λx i=> .ok (.mk 8 0 (⟨#[]⟩:UH) [x]) i else postA f i
  else(exprA f (n+1) i).bind λx i=>moreA f n x i
def moreA:Nat->Nat->Ex->Nat->PA Ex
 |0,_,_,_=> .out
 |f+1,n,x,i=>match opA l i n with
  |none=> .ok x i
  |some op=>(exprA f (n+1) (i+1)).bind λy i=>if n=3 then .ok (.mk op 0 (⟨#[]⟩:UH) [x,y]) i else moreA f n (.mk op 0 (⟨#[]⟩:UH) [x,y]) i
def postA:Nat->Nat->PA Ex
 |0,_=> .out
 |f+1,i=>(primA f i).bind λx i=>dotsA f x i
def dotsA:Nat->Ex->Nat->PA Ex
 |0,_,_=> .out
 |f+1,x,i=>if isA l i (⟨#[46]⟩:UH)=true then(wI l (i+1)).bind λs i=>dotsA f (.mk 5 0 s [x]) i else .ok x i
def argsP:Nat->Nat->List Ex->PA (List Ex)
 |0,_,_=> .out
 |f+1,i,acc=>if isA l i (⟨#[41]⟩:UH)=true then .ok acc (i+1)
  else(if acc.length=0 then PA.ok () i else jd l (⟨#[44]⟩:UH) i).bind λ_ i=>(exprA f 0 i).bind λx i=>argsP f i (acc++[x])
def partsA:Nat->Nat->Nat->List Ex->PA (List Ex)
 |0,_,_,_=> .out
 |f+1,k,i,acc=>if k=0 then(jd l (⟨#[41]⟩:UH) i).bind λ_ i=> .ok acc i
  else(jd l (if acc.length=0 then(⟨#[40]⟩:UH)else(⟨#[44]⟩:UH)) i).bind λ_ i=>(exprA f 0 i).bind λx i=>partsA f (k - 1) i (acc++[x])
def primA:Nat->Nat->PA Ex
 |0,_=> .out
 |f+1,i=>match l[i]? with
  |none=> .no i
  |some t=>
   if t.k=2 then .ok (.mk 1 t.n (⟨#[]⟩:UH) []) (i+1)
   else if t.k=1 then if isA l (i+1) (⟨#[40]⟩:UH)=true then(argsP f (i+2) []).bind λa i=> .ok (.mk 7 0 t.t a) i else .ok (.mk 4 0 t.t []) (i+1)
   else if isA l i (⟨#[116,114,117,101]⟩:UH)=true then .ok (.mk 2 1 (⟨#[]⟩:UH) []) (i+1)
   else if isA l i (⟨#[102,97,108,115,101]⟩:UH)=true then .ok (.mk 2 0 (⟨#[]⟩:UH) []) (i+1)
   else if isA l i (⟨#[110,105,108]⟩:UH)=true then .ok (.mk 3 0 (⟨#[]⟩:UH) []) (i+1)
   else if isA l i (⟨#[116,104,105,115]⟩:UH)=true then .ok (.mk 4 0 (⟨#[116,104,105,115]⟩:UH) []) (i+1)
   else if isA l i (⟨#[110,101,119]⟩:UH)=true then(wI l (i+1)).bind λs i=> .ok (.mk 6 0 s []) i
   else if isA l i (⟨#[105,102]⟩:UH)=true then(partsA f 3 (i+1) []).bind λa i=> .ok (.mk 21 0 (⟨#[]⟩:UH) a) i
   else if isA l i (⟨#[109,97,120]⟩:UH)=true then(partsA f 2 (i+1) []).bind λa i=> .ok (.mk 22 0 (⟨#[]⟩:UH) a) i
   else if isA l i (⟨#[109,105,110]⟩:UH)=true then(partsA f 2 (i+1) []).bind λa i=> .ok (.mk 23 0 (⟨#[]⟩:UH) a) i
   else if isA l i (⟨#[108,111,103]⟩:UH)=true then(partsA f 1 (i+1) []).bind λa i=> .ok (.mk 24 0 (⟨#[]⟩:UH) a) i
   else if isA l i (⟨#[40]⟩:UH)=true then(exprA f 0 (i+1)).bind λx i=>(jd l (⟨#[41]⟩:UH) i).bind λ_ i=> .ok x i
   else .no i
end
mutual
def stmtsA:Nat->Nat->List Sm->PA (List Sm)
 |0,_,_=> .out
 |f+1,i,acc=>if isA l i ⟨#[125]⟩=true then .ok acc (i+1)else(j6 f i).bind λs i=>stmtsA f i (acc++[s])
def vC:Nat->Nat->PA (List Sm)
 |0,_=> .out
 |f+1,i=>(jd l ⟨#[123]⟩ i).bind λ_ i=>stmtsA f i []
def j6:Nat->Nat->PA Sm
 |0,_=> .out
 |f+1,i=>
  if isA l i (⟨#[105,102]⟩:UH)=true then(exprA l f 0 (i+1)).bind λx i=>(vC f i).bind λa i=>
   if isA l i (⟨#[101,108,115,101]⟩:UH)=true then(vC f (i+1)).bind λb i=> .ok (.mk 3 (⟨#[]⟩:UH) [x] a b) i else .ok (.mk 3 (⟨#[]⟩:UH) [x] a []) i
  else if isA l i (⟨#[119,104,105,108,101]⟩:UH)=true then(exprA l f 0 (i+1)).bind λx i=>(vC f i).bind λa i=> .ok (.mk 4 (⟨#[]⟩:UH) [x] a []) i
  else if isA l i (⟨#[114,101,116,117,114,110]⟩:UH)=true then
   if isA l (i+1) (⟨#[59]⟩:UH)=true then .ok (.mk 5 (⟨#[]⟩:UH) [] [] []) (i+2)
   else(exprA l f 0 (i+1)).bind λx i=>(jd l (⟨#[59]⟩:UH) i).bind λ_ i=> .ok (.mk 5 (⟨#[]⟩:UH) [x] [] []) i
  else(postA l f i).bind λx i=>
   if isA l i (⟨#[61]⟩:UH)=true/\x.op=4/\x.s≠(⟨#[116,104,105,115]⟩:UH)then(exprA l f 0 (i+1)).bind λy i=>(jd l (⟨#[59]⟩:UH) i).bind λ_ i=> .ok (.mk 1 x.s [y] [] []) i
   else if isA l i (⟨#[61]⟩:UH)=true/\x.op=5 then(exprA l f 0 (i+1)).bind λy i=>(jd l (⟨#[59]⟩:UH) i).bind λ_ i=> .ok (.mk 2 x.s (x.l.take 1++[y]) [] []) i
   else if x.op=7 then(jd l (⟨#[59]⟩:UH) i).bind λ_ i=> .ok (.mk 6 (⟨#[]⟩:UH) [x] [] []) i
   else .no i
end
def locsA:Nat->Nat->List Fld->PA (List Fld)
 |0,_,_=> .out
 |f+1,i,acc=>if isA l i (⟨#[108,111,99,97,108]⟩:UH)=true then(vb l (i+1)).bind λx i=>(jd l (⟨#[59]⟩:UH) i).bind λ_ i=>locsA f i (acc++[x])else .ok acc i
def zi2(f i:Nat):PA Pr:=(wI l i).bind λn i=>(jd l (⟨#[40]⟩:UH) i).bind λ_ i=>(listA l (⟨#[44]⟩:UH) (⟨#[41]⟩:UH) (vb l) f i []).bind λps i=>
 (if isA l i ⟨#[123]⟩=true then PA.ok (⟨#[]⟩:UH) i else zn4 l i).bind λr i=>(jd l ⟨#[123]⟩ i).bind λ_ i=>(locsA l f i []).bind λls i=>
 (stmtsA l f i []).bind λb i=> .ok ⟨n,ps,r,ls,b⟩ i
def vk(f i:Nat):PA Ex:=(jd l (⟨#[61]⟩:UH) i).bind λ_ i=>exprA l f 0 i
def zas(f i:Nat):PA Ms:=(wI l i).bind λn i=>(jd l (⟨#[40]⟩:UH) i).bind λ_ i=>(wI l i).bind λt i=>(jd l (⟨#[41]⟩:UH) i).bind λ_ i=>(jd l (⟨#[110,105,108]⟩:UH) i).bind λ_ i=>
 (ztm l (if isA l i (⟨#[45]⟩:UH)=true then i+1 else i)).bind λz i'=>(vk l f i').bind λx j=> .ok ⟨n,t,if isA l i (⟨#[45]⟩:UH)=true then -z else z,x⟩ j
def zbo(f i:Nat)(d:zj):PA zj:=
 if isA l i (⟨#[116,121,112,101]⟩:UH)=true then(wI l (i+1)).bind λn i=>(jd l ⟨#[123]⟩ i).bind λ_ i=>(listA l (⟨#[59]⟩:UH) ⟨#[125]⟩ (vb l) f i []).bind λfs i=> .ok { d with types:=d.types++[⟨n,fs⟩] } i
 else if isA l i (⟨#[118,97,114]⟩:UH)=true then(vb l (i+1)).bind λx i=> .ok { d with globals:=d.globals++[x] } i
 else if isA l i (⟨#[112,114,111,99]⟩:UH)=true then(zi2 l f (i+1)).bind λp i=> .ok { d with procs:=d.procs++[p] } i
 else if isA l i (⟨#[109,101,97,115,117,114,101]⟩:UH)=true then(zas l f (i+1)).bind λm i=> .ok { d with measures:=d.measures++[m] } i
 else if isA l i (⟨#[105,110,118,97,114,105,97,110,116]⟩:UH)=true then(wI l (i+1)).bind λn i=>
  (if isA l i (⟨#[40]⟩:UH)=true then(wI l (i+1)).bind λt i=>(jd l (⟨#[41]⟩:UH) i).bind λ_ i=> .ok t i else PA.ok (⟨#[]⟩:UH) i).bind λt i=>(vk l f i).bind λx i=> .ok { d with invs:=d.invs++[⟨n,t,x⟩] } i
 else if isA l i (⟨#[112,111,116,101,110,116,105,97,108]⟩:UH)=true then(if isA l (i+1) (⟨#[61]⟩:UH)=true then PA.ok (⟨#[]⟩:UH) (i+1)else wI l (i+1)).bind λt i=>(vk l f i).bind λx i=> .ok { d with pots:=d.pots++[⟨t,x⟩] } i
 else if isA l i (⟨#[98,111,117,110,100]⟩:UH)=true then(wI l (i+1)).bind λn i=>(vk l f i).bind λx i=> .ok { d with bounds:=d.bounds++[⟨n,x⟩] } i
 else .no i
def itemsA(f:Nat):Nat->Nat->zj->PA zj
 |0,_,_=> .out
 |g+1,i,d=>if isA l i ⟨#[125]⟩=true then .ok d (i+1)else(zbo l f i d).bind λd i=>itemsA f g i d
def zeX(f:Nat):PA zj:=(jd l (⟨#[100,101,115,99]⟩:UH) 0).bind λ_ i=>(wI l i).bind λn i=>(jd l ⟨#[123]⟩ i).bind λ_ i=>itemsA l f f i ⟨n,[],[],[],[],[],[],[]⟩
end
variable {j:Nat}
theorem zK{r:PA α}{f:α->Nat->PA β}{x:β}(h:r.bind f= .ok x j): ∃y k,r= .ok y k/\f y k= .ok x j:=by
 cases r with
 |ok y k=>exact⟨y,k,rfl,h⟩
 |no k=>cases h
 |out=>cases h
variable {c:Prop}{x:α}
theorem yp[Decidable c]{a b:PA α}(h:(if c then a else b)= .ok x j):(c/\a= .ok x j)\/(¬c/\b= .ok x j):=by
 by_cases J:c
 ·rw[uv J]at h;exact .inl ⟨J,h⟩
 ·rw[uu J]at h;exact .inr ⟨J,h⟩
variable {i:Nat}{u:Unit}
section
variable {l:List Tok}
theorem vV{s:Str}(h:jd l s i= .ok u j):j=i+1/\isA l i s=true:=by
 unfold jd at h;split at h
 ·rename_i J;cases h;exact⟨rfl,J⟩
 ·cases h
theorem zcA{s:Str}(h:isA l i s=true):i<l.length:=by
 unfold isA at h;split at h
 ·rename_i t J;exact(uw.1 J).1
 ·cases h
theorem zbL{s:Str}(h:wI l i= .ok s j):j=i+1:=by
 unfold wI at h;split at h
 ·split at h
  ·cases h;rfl
  ·cases h
 ·cases h
theorem zsK{s:Str}(h:zn4 l i= .ok s j):j=i+1:=by
 unfold zn4 at h;split at h
 ·cases h;rfl
 ·split at h
  ·cases h;rfl
  ·exact zbL h
theorem zmO{x:Fld}(h:vb l i= .ok x j):i<j:=by
 unfold vb at h;obtain⟨n,k,J,h⟩:=zK h;obtain⟨t,k2,h2,h⟩:=zK h;have e1:=zbL J;have e2:=zsK h2;cases h;omega
theorem zsL{s:Str}{n:Nat}(h:(if n=0 then PA.ok () i else jd l s i)= .ok u j):i<=j:=by
 split at h
 ·cases h;exact uF _
 ·have:=(vV h).1;omega
theorem ziH: ∀f:Nat,(∀n i x j,exprA l f n i= .ok x j->i<j/\i<l.length)/\(∀n y i x j,moreA l f n y i= .ok x j->i<=j)/\(∀i x j,postA l f i= .ok x j->i<j/\i<l.length)/\(∀y i x j,dotsA l f y i= .ok x j->i<=j)/\
 (∀i a x j,argsP l f i a= .ok x j->i<j)/\(∀k i a x j,partsA l f k i a= .ok x j->i<j)/\(∀i x j,primA l f i= .ok x j->i<j/\i<l.length):=by
 intro f
 induction f with
 |zero=>
  refine⟨λn i x j h=>?_,λn y i x j h=>?_,λi x j h=>?_,λy i x j h=>?_,λi a x j h=>?_,λk i a x j h=>?_,λi x j h=>?_⟩
  all_goals simp only[exprA,moreA,postA,dotsA,argsP,partsA,primA,reduceCtorEq]at h
 |succ f ih=>
  obtain⟨iE,iM,iP,iD,iA,iK,iR⟩:=ih;refine⟨λn i x j h=>?_,λn y i x j h=>?_,λi x j h=>?_,λy i x j h=>?_,λi a x j h=>?_,λk i a x j h=>?_,λi x j h=>?_⟩
  ·unfold exprA at h;split at h
   ·split at h
    ·rename_i U;obtain⟨y,k,J,h⟩:=zK h;have:=iE _ _ _ _ J;have:=zcA U;cases h;omega
    ·exact iE _ _ _ _ h
   ·split at h
    ·split at h
     ·rename_i U;obtain⟨y,k,J,h⟩:=zK h;have:=iE _ _ _ _ J;have:=zcA U;cases h;omega
     ·exact iP _ _ _ h
    ·obtain⟨y,k,J,h⟩:=zK h;have:=iE _ _ _ _ J;have:=iM _ _ _ _ _ h;omega
  ·unfold moreA at h;split at h
   ·cases h;exact uF _
   ·obtain⟨z,k,J,h⟩:=zK h;have:=iE _ _ _ _ J;split at h
    ·cases h;omega
    ·have:=iM _ _ _ _ _ h;omega
  ·unfold postA at h;obtain⟨y,k,J,h⟩:=zK h;have:=iR _ _ _ J;have:=iD _ _ _ _ h;omega
  ·unfold dotsA at h;split at h
   ·obtain⟨s,k,J,h⟩:=zK h;have:=zbL J;have:=iD _ _ _ _ h;omega
   ·cases h;exact uF _
  ·unfold argsP at h;split at h
   ·cases h;omega
   ·obtain⟨u,k,J,h⟩:=zK h;obtain⟨y,k2,h2,h⟩:=zK h;have:=zsL J;have:=iE _ _ _ _ h2;have:=iA _ _ _ _ h;omega
  ·unfold partsA at h;split at h
   ·obtain⟨u,k,J,h⟩:=zK h;have:=(vV J).1;cases h;omega
   ·obtain⟨u,k,J,h⟩:=zK h;obtain⟨y,k2,h2,h⟩:=zK h;have:=(vV J).1;have:=iE _ _ _ _ h2;have:=iK _ _ _ _ _ h;omega
  ·unfold primA at h;cases hl:l[i]? with
   |none=>rw[hl]at h;cases h
   |some t=>
   have hL:=(uw.1 hl).1;rw[hl]at h;simp only at h;rcases yp h with⟨_,h⟩|⟨_,h⟩
   ·cases h;omega
   rcases yp h with⟨_,h⟩|⟨_,h⟩
   ·rcases yp h with⟨_,h⟩|⟨_,h⟩
    ·obtain⟨a,k,J,h⟩:=zK h;have:=iA _ _ _ _ J;cases h;omega
    ·cases h;omega
   rcases yp h with⟨_,h⟩|⟨_,h⟩
   ·cases h;omega
   rcases yp h with⟨_,h⟩|⟨_,h⟩
   ·cases h;omega
   rcases yp h with⟨_,h⟩|⟨_,h⟩
   ·cases h;omega
   rcases yp h with⟨_,h⟩|⟨_,h⟩
   ·cases h;omega
   rcases yp h with⟨_,h⟩|⟨_,h⟩
   ·obtain⟨a,k,J,h⟩:=zK h;have:=zbL J;cases h;omega
   rcases yp h with⟨_,h⟩|⟨_,h⟩
   ·obtain⟨a,k,J,h⟩:=zK h;have:=iK _ _ _ _ _ J;cases h;omega
   rcases yp h with⟨_,h⟩|⟨_,h⟩
   ·obtain⟨a,k,J,h⟩:=zK h;have:=iK _ _ _ _ _ J;cases h;omega
   rcases yp h with⟨_,h⟩|⟨_,h⟩
   ·obtain⟨a,k,J,h⟩:=zK h;have:=iK _ _ _ _ _ J;cases h;omega
   rcases yp h with⟨_,h⟩|⟨_,h⟩
   ·obtain⟨a,k,J,h⟩:=zK h;have:=iK _ _ _ _ _ J;cases h;omega
   rcases yp h with⟨_,h⟩|⟨_,h⟩
   ·obtain⟨a,k,J,h⟩:=zK h;have:=iE _ _ _ _ J;obtain⟨u,k2,h2,h⟩:=zK h;have:=(vV h2).1;cases h;omega
   ·cases h
theorem zpA: ∀f:Nat,(∀i a x j,stmtsA l f i a= .ok x j->i<j)/\(∀i x j,vC l f i= .ok x j->i<j)/\(∀i x j,j6 l f i= .ok x j->i<j/\i<l.length):=by
 intro f
 induction f with
 |zero=>
  refine⟨λi a x j h=>?_,λi x j h=>?_,λi x j h=>?_⟩
  all_goals simp only[stmtsA,vC,j6,reduceCtorEq]at h
 |succ f ih=>
  obtain⟨iT,iB,iS⟩:=ih;obtain⟨fE,fM,fP,fD,fA,fK,fR⟩:=ziH (l:=l) f;refine⟨λi a x j h=>?_,λi x j h=>?_,λi x j h=>?_⟩
  ·unfold stmtsA at h;rcases yp h with⟨_,h⟩|⟨_,h⟩
   ·cases h;omega
   ·obtain⟨s,k,J,h⟩:=zK h;have:=iS _ _ _ J;have:=iT _ _ _ _ h;omega
  ·unfold vC at h;obtain⟨u,k,J,h⟩:=zK h;have:=vV J;have:=iT _ _ _ _ h;omega
  ·unfold j6 at h;rcases yp h with⟨U,h⟩|⟨_,h⟩
   ·have:=zcA U;obtain⟨y,k,J,h⟩:=zK h;obtain⟨b,k2,h2,h⟩:=zK h;have:=fE _ _ _ _ J;have:=iB _ _ _ h2;rcases yp h with⟨_,h⟩|⟨_,h⟩
    ·obtain⟨b2,k3,h3,h⟩:=zK h;have:=iB _ _ _ h3;cases h;omega
    ·cases h;omega
   rcases yp h with⟨U,h⟩|⟨_,h⟩
   ·have:=zcA U;obtain⟨y,k,J,h⟩:=zK h;obtain⟨b,k2,h2,h⟩:=zK h;have:=fE _ _ _ _ J;have:=iB _ _ _ h2;cases h;omega
   rcases yp h with⟨U,h⟩|⟨_,h⟩
   ·have:=zcA U;rcases yp h with⟨_,h⟩|⟨_,h⟩
    ·cases h;omega
    ·obtain⟨y,k,J,h⟩:=zK h;obtain⟨b,k2,h2,h⟩:=zK h;have:=fE _ _ _ _ J;have:=vV h2;cases h;omega
   obtain⟨y,k,J,h⟩:=zK h;have:=fP _ _ _ J;rcases yp h with⟨_,h⟩|⟨_,h⟩
   ·obtain⟨z,k1,h2,h⟩:=zK h;obtain⟨b,k2,h3,h⟩:=zK h;have:=fE _ _ _ _ h2;have:=vV h3;cases h;omega
   rcases yp h with⟨_,h⟩|⟨_,h⟩
   ·obtain⟨z,k1,h2,h⟩:=zK h;obtain⟨b,k2,h3,h⟩:=zK h;have:=fE _ _ _ _ h2;have:=vV h3;cases h;omega
   rcases yp h with⟨_,h⟩|⟨_,h⟩
   ·obtain⟨b,k2,h3,h⟩:=zK h;have:=vV h3;cases h;omega
   ·cases h
end
abbrev PJ(α:Type):=Option (α×Nat×Bool)
def PJ.ok(x:α)(i:Nat):PJ α:=some (x,i,false)
def PJ.no(x:α)(i:Nat):PJ α:=some (x,i,true)
def PJ.go(r:PJ α)(f:α->Nat->PJ β)(g:α->β):PJ β:=match r with
 |none=>none
 |some (x,i,false)=>f x i
 |some (x,i,true)=>some (g x,i,true)
def PJ.er(r:PJ α):PA α:=match r with
 |none=> .out
 |some (x,i,false)=> .ok x i
 |some (_,i,true)=> .no i
theorem vW(r:PJ α)(f:α->Nat->PJ β)(g:α->β):PJ.er (PJ.go r f g)=(PJ.er r).bind λx i=>PJ.er (f x i):=by
 rcases r with _|⟨x,i,_|_⟩<;>rfl
theorem jc(x:α)(i:Nat):PJ.er (PJ.ok x i)= .ok x i:=rfl
theorem zmP(x:α)(i:Nat):PJ.er (PJ.no x i)= .no i:=rfl
theorem wC[Decidable c](a b:PJ α):PJ.er (if c then a else b)=if c then PJ.er a else PJ.er b:=by split<;>rfl
abbrev E0:Ex:= .mk 0 0 (⟨#[]⟩:UH) []
section
variable (l:List Tok)
def vX(s:Str)(i:Nat):PJ Unit:=if isA l i s=true then .ok () (i+1)else .no () i
def nameJ(i:Nat):PJ Str:=match l[i]? with
 |some t=>if t.k=1 then .ok t.t (i+1)else .no (⟨#[]⟩:UH) i
 |none=> .no (⟨#[]⟩:UH) i
def zmQ(i:Nat):PJ Int:=match l[i]? with
 |some t=>if t.k=2 then .ok t.n (i+1)else .no 0 i
 |none=> .no 0 i
def zhg(i:Nat):PJ Str:=if isA l i (⟨#[105,110,116]⟩:UH)=true then .ok (⟨#[105,110,116]⟩:UH) (i+1)else if isA l i (⟨#[98,111,111,108]⟩:UH)=true then .ok (⟨#[98,111,111,108]⟩:UH) (i+1)else nameJ l i
def wo(i:Nat):PJ Fld:=PJ.go (nameJ l i) (λn i=>PJ.go (zhg l i) (λt i=>PJ.ok ⟨n,t⟩ i) (λt=>⟨n,t⟩)) (λn=>⟨n,(⟨#[]⟩:UH)⟩)
def listJ{α:Type}(z:α)(sep fin:Str)(one:Nat->PJ α):Nat->Nat->List α->PJ (List α)
 |0,_,_=>none
 |f+1,i,acc=>if isA l i fin=true then .ok acc (i+1)
  else PJ.go (if acc.length=0 then PJ.ok () i else vX l sep i) (λ_ i=>PJ.go (one i) (λx i=>listJ z sep fin one f i (acc++[x])) (λx=>acc++[x])) (λ_=>acc++[z])
mutual
def exprJ:Nat->Nat->Nat->PJ Ex
 |0,_,_=>none
 |f+1,n,i=>
  if n=2 then if isA l i (⟨#[110,111,116]⟩:UH)=true then PJ.go (exprJ f 2 (i+1)) (λx i=> .ok (.mk 18 0 (⟨#[]⟩:UH) [x]) i) (λx=> .mk 18 0 (⟨#[]⟩:UH) [x])else exprJ f 3 i
  else if n=6 then if isA l i (⟨#[45]⟩:UH)=true then PJ.go (exprJ f 6 (i+1)) (λx i=> .ok (.mk 8 0 (⟨#[]⟩:UH) [x]) i) (λx=> .mk 8 0 (⟨#[]⟩:UH) [x])else postJ f i
  else PJ.go (exprJ f (n+1) i) (λx i=>moreJ f n x i) (λx=>x)
def moreJ:Nat->Nat->Ex->Nat->PJ Ex
 |0,_,_,_=>none
 |f+1,n,x,i=>match opA l i n with
  |none=> .ok x i
  |some op=>PJ.go (exprJ f (n+1) (i+1)) (λy i=>if n=3 then .ok (.mk op 0 (⟨#[]⟩:UH) [x,y]) i else moreJ f n (.mk op 0 (⟨#[]⟩:UH) [x,y]) i) (λy=> .mk op 0 (⟨#[]⟩:UH) [x,y])
def postJ:Nat->Nat->PJ Ex
 |0,_=>none
 |f+1,i=>PJ.go (primJ f i) (λx i=>dotsJ f x i) (λx=>x)
def dotsJ:Nat->Ex->Nat->PJ Ex
 |0,_,_=>none
 |f+1,x,i=>if isA l i (⟨#[46]⟩:UH)=true then PJ.go (nameJ l (i+1)) (λs i=>dotsJ f (.mk 5 0 s [x]) i) (λs=> .mk 5 0 s [x])else .ok x i
def argsJ:Nat->Nat->List Ex->PJ (List Ex)
 |0,_,_=>none
 |f+1,i,acc=>if isA l i (⟨#[41]⟩:UH)=true then .ok acc (i+1)
  else PJ.go (if acc.length=0 then PJ.ok () i else vX l (⟨#[44]⟩:UH) i) (λ_ i=>PJ.go (exprJ f 0 i) (λx i=>argsJ f i (acc++[x])) (λx=>acc++[x])) (λ_=>acc++[E0])
def partsJ:Nat->Nat->Nat->List Ex->PJ (List Ex)
 |0,_,_,_=>none
 |f+1,k,i,acc=>if k=0 then PJ.go (vX l (⟨#[41]⟩:UH) i) (λ_ i=> .ok acc i) (λ_=>acc)
  else PJ.go (vX l (if acc.length=0 then(⟨#[40]⟩:UH)else(⟨#[44]⟩:UH)) i) (λ_ i=>PJ.go (exprJ f 0 i) (λx i=>partsJ f (k - 1) i (acc++[x])) (λx=>acc++[x]++List.replicate (k - 1) E0)) (λ_=>acc++List.replicate k E0)
def primJ:Nat->Nat->PJ Ex
 |0,_=>none
 |f+1,i=>match l[i]? with
  |none=> .no E0 i
  |some t=>
   if t.k=2 then .ok (.mk 1 t.n (⟨#[]⟩:UH) []) (i+1)
   else if t.k=1 then if isA l (i+1) (⟨#[40]⟩:UH)=true then PJ.go (argsJ f (i+2) []) (λa i=> .ok (.mk 7 0 t.t a) i) (λa=> .mk 7 0 t.t a)else .ok (.mk 4 0 t.t []) (i+1)
   else if isA l i (⟨#[116,114,117,101]⟩:UH)=true then .ok (.mk 2 1 (⟨#[]⟩:UH) []) (i+1)
   else if isA l i (⟨#[102,97,108,115,101]⟩:UH)=true then .ok (.mk 2 0 (⟨#[]⟩:UH) []) (i+1)
   else if isA l i (⟨#[110,105,108]⟩:UH)=true then .ok (.mk 3 0 (⟨#[]⟩:UH) []) (i+1)
   else if isA l i (⟨#[116,104,105,115]⟩:UH)=true then .ok (.mk 4 0 (⟨#[116,104,105,115]⟩:UH) []) (i+1)
   else if isA l i (⟨#[110,101,119]⟩:UH)=true then PJ.go (nameJ l (i+1)) (λs i=> .ok (.mk 6 0 s []) i) (λs=> .mk 6 0 s [])
   else if isA l i (⟨#[105,102]⟩:UH)=true then PJ.go (partsJ f 3 (i+1) []) (λa i=> .ok (.mk 21 0 (⟨#[]⟩:UH) a) i) (λa=> .mk 21 0 (⟨#[]⟩:UH) a)
   else if isA l i (⟨#[109,97,120]⟩:UH)=true then PJ.go (partsJ f 2 (i+1) []) (λa i=> .ok (.mk 22 0 (⟨#[]⟩:UH) a) i) (λa=> .mk 22 0 (⟨#[]⟩:UH) a)
   else if isA l i (⟨#[109,105,110]⟩:UH)=true then PJ.go (partsJ f 2 (i+1) []) (λa i=> .ok (.mk 23 0 (⟨#[]⟩:UH) a) i) (λa=> .mk 23 0 (⟨#[]⟩:UH) a)
   else if isA l i (⟨#[108,111,103]⟩:UH)=true then PJ.go (partsJ f 1 (i+1) []) (λa i=> .ok (.mk 24 0 (⟨#[]⟩:UH) a) i) (λa=> .mk 24 0 (⟨#[]⟩:UH) a)
   else if isA l i (⟨#[40]⟩:UH)=true then PJ.go (exprJ f 0 (i+1)) (λx i=>PJ.go (vX l (⟨#[41]⟩:UH) i) (λ_ i=> .ok x i) (λ_=>x)) (λx=>x)
   else .no E0 i
end
mutual
def stmtsJ:Nat->Nat->List Sm->PJ (List Sm)
 |0,_,_=>none
 |f+1,i,acc=>if isA l i ⟨#[125]⟩=true then .ok acc (i+1)else PJ.go (zbt f i) (λs i=>stmtsJ f i (acc++[s])) (λs=>acc++[s])
def vD:Nat->Nat->PJ (List Sm)
 |0,_=>none
 |f+1,i=>PJ.go (vX l ⟨#[123]⟩ i) (λ_ i=>stmtsJ f i []) (λ_=>[])
def zbt:Nat->Nat->PJ Sm
 |0,_=>none
 |f+1,i=>
  if isA l i (⟨#[105,102]⟩:UH)=true then PJ.go (exprJ l f 0 (i+1)) (λx i=>PJ.go (vD f i) (λa i=>
   if isA l i (⟨#[101,108,115,101]⟩:UH)=true then PJ.go (vD f (i+1)) (λb i=> .ok (.mk 3 (⟨#[]⟩:UH) [x] a b) i) (λb=> .mk 3 (⟨#[]⟩:UH) [x] a b)else .ok (.mk 3 (⟨#[]⟩:UH) [x] a []) i) (λa=> .mk 3 (⟨#[]⟩:UH) [x] a [])) (λx=> .mk 3 (⟨#[]⟩:UH) [x] [] [])
  else if isA l i (⟨#[119,104,105,108,101]⟩:UH)=true then PJ.go (exprJ l f 0 (i+1)) (λx i=>PJ.go (vD f i) (λa i=> .ok (.mk 4 (⟨#[]⟩:UH) [x] a []) i) (λa=> .mk 4 (⟨#[]⟩:UH) [x] a [])) (λx=> .mk 4 (⟨#[]⟩:UH) [x] [] [])
  else if isA l i (⟨#[114,101,116,117,114,110]⟩:UH)=true then
   if isA l (i+1) (⟨#[59]⟩:UH)=true then .ok (.mk 5 (⟨#[]⟩:UH) [] [] []) (i+2)
   else PJ.go (exprJ l f 0 (i+1)) (λx i=>PJ.go (vX l (⟨#[59]⟩:UH) i) (λ_ i=> .ok (.mk 5 (⟨#[]⟩:UH) [x] [] []) i) (λ_=> .mk 5 (⟨#[]⟩:UH) [x] [] [])) (λx=> .mk 5 (⟨#[]⟩:UH) [x] [] [])
  else PJ.go (postJ l f i) (λx i=>
   if isA l i (⟨#[61]⟩:UH)=true/\x.op=4/\x.s≠(⟨#[116,104,105,115]⟩:UH)then PJ.go (exprJ l f 0 (i+1)) (λy i=>PJ.go (vX l (⟨#[59]⟩:UH) i) (λ_ i=> .ok (.mk 1 x.s [y] [] []) i) (λ_=> .mk 1 x.s [y] [] [])) (λy=> .mk 1 x.s [y] [] [])
   else if isA l i (⟨#[61]⟩:UH)=true/\x.op=5 then PJ.go (exprJ l f 0 (i+1)) (λy i=>PJ.go (vX l (⟨#[59]⟩:UH) i) (λ_ i=> .ok (.mk 2 x.s (x.l.take 1++[y]) [] []) i) (λ_=> .mk 2 x.s (x.l.take 1++[y]) [] [])) (λy=> .mk 2 x.s (x.l.take 1++[y]) [] [])
   else if x.op=7 then PJ.go (vX l (⟨#[59]⟩:UH) i) (λ_ i=> .ok (.mk 6 (⟨#[]⟩:UH) [x] [] []) i) (λ_=> .mk 6 (⟨#[]⟩:UH) [x] [] [])
   else .no (.mk 6 (⟨#[]⟩:UH) [x] [] []) i) (λx=> .mk 6 (⟨#[]⟩:UH) [x] [] [])
end
def locsJ:Nat->Nat->List Fld->PJ (List Fld)
 |0,_,_=>none
 |f+1,i,acc=>if isA l i (⟨#[108,111,99,97,108]⟩:UH)=true then PJ.go (wo l (i+1)) (λx i=>PJ.go (vX l (⟨#[59]⟩:UH) i) (λ_ i=>locsJ f i (acc++[x])) (λ_=>acc++[x])) (λx=>acc++[x])else .ok acc i
def zpB(f i:Nat):PJ Pr:=PJ.go (nameJ l i) (λn i=>PJ.go (vX l (⟨#[40]⟩:UH) i) (λ_ i=>PJ.go (listJ l ⟨(⟨#[]⟩:UH),(⟨#[]⟩:UH)⟩ (⟨#[44]⟩:UH) (⟨#[41]⟩:UH) (wo l) f i []) (λps i=>
 PJ.go (if isA l i ⟨#[123]⟩=true then PJ.ok (⟨#[]⟩:UH) i else zhg l i) (λr i=>PJ.go (vX l ⟨#[123]⟩ i) (λ_ i=>PJ.go (locsJ l f i []) (λls i=>
 PJ.go (stmtsJ l f i []) (λb i=> .ok ⟨n,ps,r,ls,b⟩ i) (λb=>⟨n,ps,r,ls,b⟩)) (λls=>⟨n,ps,r,ls,[]⟩)) (λ_=>⟨n,ps,r,[],[]⟩)) (λr=>⟨n,ps,r,[],[]⟩)) (λps=>⟨n,ps,(⟨#[]⟩:UH),[],[]⟩)) (λ_=>⟨n,[],(⟨#[]⟩:UH),[],[]⟩)) (λn=>⟨n,[],(⟨#[]⟩:UH),[],[]⟩)
def wO(f i:Nat):PJ Ex:=PJ.go (vX l (⟨#[61]⟩:UH) i) (λ_ i=>exprJ l f 0 i) (λ_=>E0)
def zbM(f i:Nat):PJ Ms:=PJ.go (nameJ l i) (λn i=>PJ.go (vX l (⟨#[40]⟩:UH) i) (λ_ i=>PJ.go (nameJ l i) (λt i=>PJ.go (vX l (⟨#[41]⟩:UH) i) (λ_ i=>PJ.go (vX l (⟨#[110,105,108]⟩:UH) i) (λ_ i=>
 PJ.go (zmQ l (if isA l i (⟨#[45]⟩:UH)=true then i+1 else i)) (λz i'=>PJ.go (wO l f i') (λx j=> .ok ⟨n,t,if isA l i (⟨#[45]⟩:UH)=true then -z else z,x⟩ j) (λx=>⟨n,t,if isA l i (⟨#[45]⟩:UH)=true then -z else z,x⟩)) (λ_=>⟨n,t,0,E0⟩))
 (λ_=>⟨n,t,0,E0⟩)) (λ_=>⟨n,t,0,E0⟩)) (λt=>⟨n,t,0,E0⟩)) (λ_=>⟨n,(⟨#[]⟩:UH),0,E0⟩)) (λn=>⟨n,(⟨#[]⟩:UH),0,E0⟩)
def zhh(f i:Nat)(d:zj):PJ zj:=
 if isA l i (⟨#[116,121,112,101]⟩:UH)=true then PJ.go (nameJ l (i+1)) (λn i=>PJ.go (vX l ⟨#[123]⟩ i) (λ_ i=>PJ.go (listJ l ⟨(⟨#[]⟩:UH),(⟨#[]⟩:UH)⟩ (⟨#[59]⟩:UH) ⟨#[125]⟩ (wo l) f i []) (λfs i=> .ok { d with types:=d.types++[⟨n,fs⟩] } i) (λfs=>{ d with types:=d.types++[⟨n,fs⟩] }))
  (λ_=>{ d with types:=d.types++[⟨n,[]⟩] })) (λn=>{ d with types:=d.types++[⟨n,[]⟩] })
 else if isA l i (⟨#[118,97,114]⟩:UH)=true then PJ.go (wo l (i+1)) (λx i=> .ok { d with globals:=d.globals++[x] } i) (λx=>{ d with globals:=d.globals++[x] })
 else if isA l i (⟨#[112,114,111,99]⟩:UH)=true then PJ.go (zpB l f (i+1)) (λp i=> .ok { d with procs:=d.procs++[p] } i) (λp=>{ d with procs:=d.procs++[p] })
 else if isA l i (⟨#[109,101,97,115,117,114,101]⟩:UH)=true then PJ.go (zbM l f (i+1)) (λm i=> .ok { d with measures:=d.measures++[m] } i) (λm=>{ d with measures:=d.measures++[m] })
 else if isA l i (⟨#[105,110,118,97,114,105,97,110,116]⟩:UH)=true then PJ.go (nameJ l (i+1)) (λn i=>
  PJ.go (if isA l i (⟨#[40]⟩:UH)=true then PJ.go (nameJ l (i+1)) (λt i=>PJ.go (vX l (⟨#[41]⟩:UH) i) (λ_ i=> .ok t i) (λ_=>t)) (λt=>t)else PJ.ok (⟨#[]⟩:UH) i) (λt i=>PJ.go (wO l f i) (λx i=> .ok { d with invs:=d.invs++[⟨n,t,x⟩] } i) (λx=>{ d with invs:=d.invs++[⟨n,t,x⟩] }))
   (λt=>{ d with invs:=d.invs++[⟨n,t,E0⟩] })) (λn=>{ d with invs:=d.invs++[⟨n,(⟨#[]⟩:UH),E0⟩] })
 else if isA l i (⟨#[112,111,116,101,110,116,105,97,108]⟩:UH)=true then PJ.go (if isA l (i+1) (⟨#[61]⟩:UH)=true then PJ.ok (⟨#[]⟩:UH) (i+1)else nameJ l (i+1)) (λt i=>PJ.go (wO l f i) (λx i=> .ok { d with pots:=d.pots++[⟨t,x⟩] } i) (λx=>{ d with pots:=d.pots++[⟨t,x⟩] })) (λt=>{ d with pots:=d.pots++[⟨t,E0⟩] })
 else if isA l i (⟨#[98,111,117,110,100]⟩:UH)=true then PJ.go (nameJ l (i+1)) (λn i=>PJ.go (wO l f i) (λx i=> .ok { d with bounds:=d.bounds++[⟨n,x⟩] } i) (λx=>{ d with bounds:=d.bounds++[⟨n,x⟩] })) (λn=>{ d with bounds:=d.bounds++[⟨n,E0⟩] })
 else .no d i
def itemsJ(f:Nat):Nat->Nat->zj->PJ zj
 |0,_,_=>none
 |g+1,i,d=>if isA l i ⟨#[125]⟩=true then .ok d (i+1)else PJ.go (zhh l f i d) (λd i=>itemsJ f g i d) (λd=>d)
def zpC(f:Nat):PJ zj:=PJ.go (vX l (⟨#[100,101,115,99]⟩:UH) 0) (λ_ i=>PJ.go (nameJ l i) (λn i=>PJ.go (vX l ⟨#[123]⟩ i) (λ_ i=>itemsJ l f f i ⟨n,[],[],[],[],[],[],[]⟩) (λ_=>⟨n,[],[],[],[],[],[],[]⟩)) (λn=>⟨n,[],[],[],[],[],[],[]⟩)) (λ_=>⟨(⟨#[]⟩:UH),[],[],[],[],[],[],[]⟩)
variable {l}
theorem ja(s:Str)(i:Nat):PJ.er (vX l s i)=jd l s i:=by unfold vX jd;split<;>rfl
theorem jA(i:Nat):PJ.er (nameJ l i)=wI l i:=by
 unfold nameJ wI;cases l[i]? with
 |none=>rfl
 |some t=>simp only[wC,jc,zmP]
theorem zuE(i:Nat):PJ.er (zmQ l i)=ztm l i:=by
 unfold zmQ ztm;cases l[i]? with
 |none=>rfl
 |some t=>simp only[wC,jc,zmP]
theorem zqL(i:Nat):PJ.er (zhg l i)=zn4 l i:=by unfold zhg zn4;simp only[wC,jc,jA]
theorem zbN(i:Nat):PJ.er (wo l i)=vb l i:=by unfold wo vb;simp only[vW,jA,zqL,jc]
theorem zmR{α:Type}(z:α)(sep fin:Str)(one:Nat->PJ α): ∀(f i:Nat) (acc:List α),PJ.er (listJ l z sep fin one f i acc)=listA l sep fin (λi=>PJ.er (one i)) f i acc
 |0,_,_=>rfl
 |f+1,i,acc=>by
  simp only[listJ,listA,wC,vW,jc,ja]
  congr 1;congr 1;funext _ i;congr 1;funext x i
  exact zmR z sep fin one f i _
theorem zcB: ∀f:Nat,(∀n i,PJ.er (exprJ l f n i)=exprA l f n i)/\(∀n x i,PJ.er (moreJ l f n x i)=moreA l f n x i)/\(∀i,PJ.er (postJ l f i)=postA l f i)/\(∀x i,PJ.er (dotsJ l f x i)=dotsA l f x i)/\
 (∀i a,PJ.er (argsJ l f i a)=argsP l f i a)/\(∀k i a,PJ.er (partsJ l f k i a)=partsA l f k i a)/\(∀i,PJ.er (primJ l f i)=primA l f i):=by
 intro f
 induction f with
 |zero=>exact⟨λ_ _=>by simp only[exprJ,exprA];rfl,λ_ _ _=>by simp only[moreJ,moreA];rfl,λ_=>by simp only[postJ,postA];rfl,λ_ _=>by simp only[dotsJ,dotsA];rfl,λ_ _=>by simp only[argsJ,argsP];rfl,λ_ _ _=>by simp only[partsJ,partsA];rfl,λ_=>by simp only[primJ,primA];rfl⟩
 |succ f ih=>
  obtain⟨J,h2,h3,h4,U,h6,h7⟩:=ih;refine⟨λn i=>?_,λn x i=>?_,λi=>?_,λx i=>?_,λi a=>?_,λk i a=>?_,λi=>?_⟩
  ·simp only[exprJ,exprA,wC,vW,jc,J,h2,h3]
  ·simp only[moreJ,moreA];cases opA l i n with
   |none=>rfl
   |some op=>simp only[wC,vW,jc,J,h2]
  ·simp only[postJ,postA,vW,h7,h4]
  ·simp only[dotsJ,dotsA,wC,vW,jc,jA,h4]
  ·simp only[argsJ,argsP,wC,vW,jc,ja,J,U]
  ·simp only[partsJ,partsA,wC,vW,jc,ja,J,h6]
  ·simp only[primJ,primA];cases l[i]? with
   |none=>rfl
   |some t=>simp only[wC,vW,jc,zmP,ja,jA,J,U,h6]
theorem zmS: ∀f:Nat,(∀i a,PJ.er (stmtsJ l f i a)=stmtsA l f i a)/\(∀i,PJ.er (vD l f i)=vC l f i)/\(∀i,PJ.er (zbt l f i)=j6 l f i):=by
 intro f
 induction f with
 |zero=>exact⟨λ_ _=>by simp only[stmtsJ,stmtsA];rfl,λ_=>by simp only[vD,vC];rfl,λ_=>by simp only[zbt,j6];rfl⟩
 |succ f ih=>
  obtain⟨J,h2,h3⟩:=ih;have U:=(zcB (l:=l) f).1;have hP:=(zcB (l:=l) f).2.2.1;refine⟨λi a=>?_,λi=>?_,λi=>?_⟩
  ·simp only[stmtsJ,stmtsA,wC,vW,jc,J,h3]
  ·simp only[vD,vC,vW,ja,J]
  ·simp only[zbt,j6,wC,vW,jc,zmP,ja,U,hP,h2]
theorem zmT: ∀(f i:Nat) (acc:List Fld),PJ.er (locsJ l f i acc)=locsA l f i acc
 |0,_,_=>rfl
 |f+1,i,acc=>by simp only[locsJ,locsA,wC,vW,jc,ja,zbN,zmT f]
theorem ziI(sep fin:Str)(f i:Nat)(acc:List Fld):PJ.er (listJ l ⟨(⟨#[]⟩:UH),(⟨#[]⟩:UH)⟩ sep fin (wo l) f i acc)=listA l sep fin (vb l) f i acc:=by
 rw[zmR];congr 1;funext i;exact zbN i
theorem zds(f i:Nat):PJ.er (wO l f i)=vk l f i:=by simp only[wO,vk,vW,ja,(zcB f).1]
theorem zsM(f i:Nat):PJ.er (zpB l f i)=zi2 l f i:=by
 simp only[zpB,zi2,vW,wC,jc,ja,jA,zqL,ziI,zmT,(zmS f).1]
theorem zjD(f i:Nat):PJ.er (zbM l f i)=zas l f i:=by
 simp only[zbM,zas,vW,jc,ja,jA,zuE,zds]
theorem zsN(f i:Nat)(d:zj):PJ.er (zhh l f i d)=zbo l f i d:=by
 simp only[zhh,zbo,vW,wC,jc,zmP,ja,jA,zbN,ziI,zds,zsM,zjD]
theorem ziJ(f:Nat): ∀(g i:Nat) (d:zj),PJ.er (itemsJ l f g i d)=itemsA l f g i d
 |0,_,_=>rfl
 |g+1,i,d=>by simp only[itemsJ,itemsA,wC,jc,vW,zsN,ziJ f g]
theorem zsO(f:Nat):PJ.er (zpC l f)=zeX l f:=by simp only[zpC,zeX,vW,ja,jA,ziJ]
end
variable {args:List S}
theorem zsP{P:Program}{f:FuncId}{R R':RL}{s s':S}(h:zh P f args R s R')(hl:LeS s s'):zh P f args R s' R':=
 ⟨h.1,λM ρ w xs U h2 h3 h4=>(h.2 M ρ w xs U h2 h3 h4).mono λe w' ⟨v,M',ρ',he,J⟩=>⟨v,M',ρ',he,{ J with rep:=hl _ _ _ J.rep }⟩⟩
structure w6 (l:List Tok):Prop where
 len:l.length<=100000
 fin: ∃t,l[l.length - 1]?=some t/\t.k=5
 num: ∀t∈l,0<=t.n/\t.n<=1099511627776
theorem w6.next{l:List Tok}(hl:w6 l){t:Tok}(h:l[i]?=some t)(hk:t.k≠5):i+1<l.length:=by
 obtain⟨u,U,J⟩:=hl.fin;have hlt:=(uw.1 h).1;by_cases e:i=l.length - 1
 ·subst e;rw[U]at h;cases h;exact absurd J hk
 ·omega
theorem zp{l:List Tok}(hl:w6 l){s:Str}(h:isA l i s=true):i+1<l.length:=by
 unfold isA at h;split at h
 ·rename_i t J;refine hl.next J λe=>?_
  rw[e]at h;simp at h
 ·cases h
def rdR(l:List Tok)(i:Nat)(b:Bool):Res:= .box [.p (zpz l),.p (ki i),.p (.k (.bool b))]
abbrev rdV:S:= .one (.bx 0 0)
def RJ(l:List Tok)(f:FuncId)(args:List S)(enc:α->S)(i:Nat)(r:PJ α):Prop:=
 ∀x j b,r=some (x,j,b)->j<l.length/\zh Tryz.prog f args [(0,rdR l i false)] (enc x) [(0,rdR l j b)]
variable {b:Bool}
theorem RJ.okI{l:List Tok}{f:FuncId}{enc:α->S}(h:j<l.length)(h2:zh Tryz.prog f args [(0,rdR l i false)] (enc x) [(0,rdR l j b)]):RJ l f args enc i (some (x,j,b)):=
 λ_ _ _ e=>by cases e;exact⟨h,h2⟩
section
variable {l:List Tok} (hl:w6 l)
include hl
theorem zhi(i:Nat)(J:i<l.length)(s:Str):zh Tryz.prog 107 [rdV,Sr s] [(0,rdR l i true)] (Bo false) [(0,rdR l i true)]:=by
 have hlen:=hl.len;obtain⟨t,U⟩:=zd J;refine gO T Tryz.func107 λC hC=>?_
 repeat' first|refine gG ?_|refine gB ?_ ?_<;>intro h|refine gI T (zl U) ?_|refine gL ?_
 exact gE
theorem ziK(i:Nat)(U:i<l.length)(s:Str):zh Tryz.prog 107 [rdV,Sr s] [(0,rdR l i false)] (.bq (isA l i s)) [(0,rdR l i false)]:=by
 have hlen:=hl.len;obtain⟨t,J⟩:=zd U;have e:isA l i s=((decide (t.k=3)||decide (t.k=4))&&decide (t.t=s)):=by unfold isA;rw[J]
 rw[e];clear e;refine gO T Tryz.func107 λC hC=>?_
 repeat' first|refine gG ?_|refine gB ?_ ?_<;>intro h|refine gI T (zl J) ?_
 all_goals first
  |exact zi ⟨.inl rfl,id,_,rfl,.qq (by simp_all),⟨rfl,uh⟩,rfl,rfl⟩
  |exact zi ⟨.inl rfl,id,_,rfl,.qb (by simp_all),⟨rfl,uh⟩,rfl,rfl⟩
theorem zjE{s:Str}(h:isA l i s=true):zh Tryz.prog 107 [rdV,Sr s] [(0,rdR l i false)] (Bo true) [(0,rdR l i false)]:=
 zsP (ziK hl i (zcA h) s) (.bq h)
theorem zcC(J:i<l.length){s:Str}(h: ¬isA l i s=true):zh Tryz.prog 107 [rdV,Sr s] [(0,rdR l i false)] (Bo false) [(0,rdR l i false)]:=
 zsP (ziK hl i J s) (.bq (by simpa using h))
theorem xk(i:Nat)(J:i<l.length)(s:Str):zh Tryz.prog 101 [rdV,Sr s] [(0,rdR l i true)] (Bo false) [(0,rdR l i true)]:=by
 refine gO T Tryz.func101 λC hC=>?_
 repeat' first|refine gG ?_|refine gB ?_ ?_<;>intro h|refine gR (zhi hl i J s) (nm [0]) ?_|refine gL ?_
 exact gE
theorem zN{s:Str}(h:isA l i s=true):zh Tryz.prog 101 [rdV,Sr s] [(0,rdR l i false)] (Bo true) [(0,rdR l (i+1) false)]:=by
 have hlen:=hl.len;have hi:=zcA h;refine gO T Tryz.func101 λC hC=>?_
 repeat' first|refine gG ?_|refine gB ?_ ?_<;>intro h|refine gR (zjE hl h) (nm [0]) ?_|refine gL ?_
 unfold rdR;rw[y7 ua];exact gE
theorem zL(J:i<l.length){s:Str}(h: ¬isA l i s=true):zh Tryz.prog 101 [rdV,Sr s] [(0,rdR l i false)] (Bo false) [(0,rdR l i false)]:=by
 refine gO T Tryz.func101 λC hC=>?_
 repeat' first|refine gG ?_|refine gB ?_ ?_<;>intro h|refine gR (zcC hl J h) (nm [0]) ?_|refine gL ?_
 exact gE
theorem yg(i:Nat)(J:i<l.length)(s:Str):zh Tryz.prog 63 [rdV,Sr s] [(0,rdR l i true)] (.tup []) [(0,rdR l i true)]:=by
 refine gO T Tryz.func63 λC hC=>?_
 repeat' first|refine gG ?_|refine gB ?_ ?_<;>intro h|refine gR (xk hl i J s) (nm [0]) ?_
 exact zi ⟨.inr rfl,id,[],rfl,.refl _,⟨rfl,uh⟩,rfl,rfl⟩
theorem zaj{s:Str}(h:isA l i s=true):zh Tryz.prog 63 [rdV,Sr s] [(0,rdR l i false)] (.tup []) [(0,rdR l (i+1) false)]:=by
 refine gO T Tryz.func63 λC hC=>?_
 repeat' first|refine gG ?_|refine gB ?_ ?_<;>intro h|refine gR (zN hl h) (nm [0]) ?_
 exact zi ⟨.inr rfl,id,[],rfl,.refl _,⟨rfl,uh⟩,rfl,rfl⟩
theorem zhj(J:i<l.length){s:Str}(h: ¬isA l i s=true):zh Tryz.prog 63 [rdV,Sr s] [(0,rdR l i false)] (.tup []) [(0,rdR l i true)]:=by
 refine gO T Tryz.func63 λC hC=>?_
 repeat' first|refine gG ?_|refine gB ?_ ?_<;>intro h|refine gR (zL hl J h) (nm [0]) ?_
 exact zi ⟨.inr rfl,id,[],rfl,.refl _,⟨rfl,uh⟩,rfl,rfl⟩
theorem xJ(i:Nat)(J:i<l.length)(s:Str):RJ l 63 [rdV,Sr s] (λ_=> .tup []) i (vX l s i):=by
 unfold vX;split
 ·rename_i h;exact .okI (zp hl h) (zaj hl h)
 ·rename_i h;exact .okI J (zhj hl J h)
theorem zcD(i:Nat)(hi:i<l.length):zh Tryz.prog 64 [rdV] [(0,rdR l i true)] (Sr (⟨#[]⟩:UH)) [(0,rdR l i true)]:=by
 have _:=hl;refine gO T Tryz.func64 λC hC=>?_
 repeat' first|refine gG ?_|refine gB ?_ ?_<;>intro h|refine gL ?_
 exact gE
theorem xK(i:Nat)(U:i<l.length):RJ l 64 [rdV] Sr i (nameJ l i):=by
 have hlen:=hl.len;obtain⟨t,J⟩:=zd U;unfold nameJ;rw[J];by_cases hk:t.k=1
 ·simp only[uv hk];refine .okI (hl.next J ua) ?_
  have w1:IntKind.i64.wrap (IntKind.i64.wrap ((i:Int)+1) - 1)=(i:Int):=by
   have e1:IntKind.i64.wrap ((i:Int)+1)=(i:Int)+1:=wrap64 ua;rw[e1,wrap64 ua];omega
  refine gO T Tryz.func64 λC hC=>?_
  repeat' first|refine gG ?_|(exfalso;exact absurd hk (by simpa using h))|refine gB ?_ ?_<;>intro h|refine gI T (zl J) ?_|refine xz T hC rfl rfl rfl (by rw[w1];exact uE _) (by rw[w1];exact zl J) rfl rfl ?_|refine gL ?_
  unfold rdR;rw[y7 ua];exact gE
 ·simp only[uu hk];refine .okI U ?_;refine gO T Tryz.func64 λC hC=>?_
  repeat' first|refine gG ?_|(exfalso;exact absurd (by simpa using h) hk)|refine gB ?_ ?_<;>intro h|refine gI T (zl J) ?_|refine gL ?_
  exact gE
theorem zpD(i:Nat)(hi:i<l.length):zh Tryz.prog 151 [rdV] [(0,rdR l i true)] (I 0) [(0,rdR l i true)]:=by
 have _:=hl;refine gO T Tryz.func151 λC hC=>?_
 repeat' first|refine gG ?_|refine gB ?_ ?_<;>intro h|refine gN ?_
 exact gE
theorem zhk(i:Nat)(U:i<l.length):RJ l 151 [rdV] I i (zmQ l i):=by
 have hlen:=hl.len;obtain⟨t,J⟩:=zd U;unfold zmQ;rw[J];by_cases hk:t.k=2
 ·simp only[uv hk];refine .okI (hl.next J ua) ?_
  have w1:IntKind.i64.wrap (IntKind.i64.wrap ((i:Int)+1) - 1)=(i:Int):=by
   have e1:IntKind.i64.wrap ((i:Int)+1)=(i:Int)+1:=wrap64 ua;rw[e1,wrap64 ua];omega
  refine gO T Tryz.func151 λC hC=>?_
  repeat' first|refine gG ?_|(exfalso;exact absurd hk (by simpa using h))|refine gB ?_ ?_<;>intro h|refine gI T (zl J) ?_|refine xz T hC rfl rfl rfl (by rw[w1];exact uE _) (by rw[w1];exact zl J) rfl rfl ?_|refine gL ?_
  unfold rdR;rw[y7 ua];exact gE
 ·simp only[uu hk];refine .okI U ?_;refine gO T Tryz.func151 λC hC=>?_
  repeat' first|refine gG ?_|(exfalso;exact absurd (by simpa using h) hk)|refine gB ?_ ?_<;>intro h|refine gI T (zl J) ?_|refine gL ?_
  exact gE
end
def zqM:PV:= .sl 1 [[ks (⟨#[105,110,116]⟩:UH)],[ks (⟨#[98,111,111,108]⟩:UH)]]
section
variable {l:List Tok} (hl:w6 l)
include hl
theorem zew(i:Nat)(J:i<l.length):zh Tryz.prog 149 [rdV] [(0,rdR l i true)] (Sr (⟨#[]⟩:UH)) [(0,rdR l i true)]:=by
 refine gO T Tryz.func149 λC hC=>?_
 repeat' first|refine gG ?_|refine gB ?_ ?_<;>intro h|refine gT ?_
 refine zn (λj:Nat=>j<=2) (λj=>([(0,rdV),(5,pS zqM),(6,I 2),(7,I j)],[(0,some (rdR l i true))])) (λj=>2 - j) hC
  0 ub id gM ?_
 intro j hj;refine zq T hC true 200 rfl ?_;refine zt rfl ?_ ?_<;>intro h
 ·have hlt:j<2:=by have:=uj h;omega
  clear h
  obtain⟨s,U⟩: ∃s:Str,([[ks (⟨#[105,110,116]⟩:UH)],[ks (⟨#[98,111,111,108]⟩:UH)]]:List (List PV))[(j:Int).toNat]?=some [ks s]:=by
   have:j=0\/j=1:=by omega
   rcases this with rfl|rfl
   ·exact⟨_,rfl⟩
   ·exact⟨_,rfl⟩
  repeat' first|refine gG ?_|refine gB ?_ ?_<;>intro h|refine gI T U ?_|refine gR (xk hl i J s) (nm [0]) ?_
  rw[y7 ua];exact zg (j+1) ua id ua gM
 ·repeat' first|refine gG ?_|refine gB ?_ ?_<;>intro h|refine ze ?_|refine gR (zcD hl i J) (nm [0]) ?_|refine gL ?_
  exact gE
theorem zhl(i:Nat)(hi:i<l.length):RJ l 149 [rdV] Sr i (zhg l i):=by
 intro x k b J
 have hk:k<l.length:=by
  unfold zhg at J;split at J
  ·rename_i h;cases J;exact zp hl h
  ·split at J
   ·rename_i h;cases J;exact zp hl h
   ·exact(xK hl i hi _ _ _ J).1
 refine⟨hk,?_⟩;refine gO T Tryz.func149 λC hC=>?_
 repeat' first|refine gG ?_|refine gB ?_ ?_<;>intro h|refine gT ?_
 refine zn (λj:Nat=>j<=2/\(0<j-> ¬isA l i (⟨#[105,110,116]⟩:UH)=true)/\(1<j-> ¬isA l i (⟨#[98,111,111,108]⟩:UH)=true)) (λj=>([(0,rdV),(5,pS zqM),(6,I 2),(7,I j)],[(0,some (rdR l i false))])) (λj=>2 - j) hC
  0 ⟨ub,λh=>absurd h ub,λh=>absurd h ub⟩ id gM ?_
 rintro j ⟨hj,hA,hB⟩;refine zq T hC true 200 rfl ?_;refine zt rfl ?_ ?_<;>intro h
 ·have hlt:j<2:=by have:=uj h;omega
  clear h;have:j=0\/j=1:=by omega
  rcases this with rfl|rfl
  ·by_cases U:isA l i (⟨#[105,110,116]⟩:UH)=true
   ·unfold zhg at J;rw[uv U]at J;cases J
    repeat' first|refine gG ?_|refine gB ?_ ?_<;>intro h|refine gI T rfl ?_|refine gR (zN hl U) (nm [0]) ?_|refine zo ?_|refine gL ?_
    exact gE
   ·repeat' first|refine gG ?_|refine gB ?_ ?_<;>intro h|refine gI T rfl ?_|refine gR (zL hl hi U) (nm [0]) ?_
    rw[y7 ua];exact zg 1 ⟨ua,λ_=>U,λh=>absurd h ub⟩ id ua gM
  ·by_cases U:isA l i (⟨#[98,111,111,108]⟩:UH)=true
   ·unfold zhg at J;rw[uu (hA ub),uv U]at J;cases J
    repeat' first|refine gG ?_|refine gB ?_ ?_<;>intro h|refine gI T rfl ?_|refine gR (zN hl U) (nm [0]) ?_|refine zo ?_|refine gL ?_
    exact gE
   ·repeat' first|refine gG ?_|refine gB ?_ ?_<;>intro h|refine gI T rfl ?_|refine gR (zL hl hi U) (nm [0]) ?_
    rw[y7 ua];exact zg 2 ⟨ua,λ_=>hA ub,λ_=>U⟩ id ua gM
 ·have hge:j=2:=by have:=um h;omega
  subst hge;unfold zhg at J;rw[uu (hA ub),uu (hB ub)]at J;have hN:=(xK hl i hi _ _ _ J).2
  repeat' first|refine gG ?_|refine gB ?_ ?_<;>intro h|refine ze ?_|refine gR hN (nm [0]) ?_|refine gL ?_
  exact gE
theorem zdt(i:Nat)(J:i<l.length):zh Tryz.prog 103 [rdV] [(0,rdR l i true)] (zF (zw ⟨(⟨#[]⟩:UH),(⟨#[]⟩:UH)⟩)) [(0,rdR l i true)]:=by
 refine gO T Tryz.func103 λC hC=>?_
 repeat' first|refine gG ?_|refine gB ?_ ?_<;>intro h|refine gR (zcD hl i J) (nm [0]) ?_|refine gR (zew hl i J) (nm [0]) ?_|refine gL ?_
 exact gE
theorem zaO(i:Nat)(hi:i<l.length):RJ l 103 [rdV] (λf=>zF (zw f)) i (wo l i):=by
 intro x k b J;unfold wo at J;rcases U:nameJ l i with _|⟨n,i1,_|_⟩
 ·rw[U]at J;cases J
 ·rw[U]at J;simp only[PJ.go]at J;obtain⟨h1,hN⟩:=xK hl i hi _ _ _ U;rcases ht:zhg l i1 with _|⟨t,i2,b2⟩
  ·rw[ht]at J;cases J
  ·obtain⟨h2,hT⟩:=zhl hl i1 h1 _ _ _ ht
   have e:x=⟨n,t⟩/\k=i2/\b=b2:=by
    rw[ht]at J;cases b2<;>simp only[PJ.ok]at J<;>cases J<;>exact⟨rfl,rfl,rfl⟩
   obtain⟨rfl,rfl,rfl⟩:=e;refine⟨h2,?_⟩;refine gO T Tryz.func103 λC hC=>?_
   repeat' first|refine gG ?_|refine gB ?_ ?_<;>intro h|refine gR hN (nm [0]) ?_|refine gR hT (nm [0]) ?_|refine gL ?_
   exact gE
 ·rw[U]at J;cases J;obtain⟨h1,hN⟩:=xK hl i hi _ _ _ U;refine⟨h1,?_⟩;refine gO T Tryz.func103 λC hC=>?_
  repeat' first|refine gG ?_|refine gB ?_ ?_<;>intro h|refine gR hN (nm [0]) ?_|refine gR (zew hl _ h1) (nm [0]) ?_|refine gL ?_
  exact gE
end
variable {f:α->Nat->PJ β}{g:α->β}{r:PJ α}
theorem zhm{x:β}(h:PJ.go r f g=some (x,j,b)):
 (∃y k,r=some (y,k,false)/\f y k=some (x,j,b))\/(∃y,r=some (y,j,true)/\x=g y/\b=true):=by
 rcases r with _|⟨y,k,_|_⟩
 ·cases h
 ·exact .inl ⟨y,k,rfl,h⟩
 ·cases h;exact .inr ⟨y,rfl,rfl,rfl⟩
def zpE(x:Str×Int):List PV:=[ks x.1,ki x.2]
def zwo:List (List (Str×Int)):=[opsA 0,opsA 1,[],opsA 3,opsA 4,opsA 5]
def zwP(o:List (Str×Int)):List PV:=[.sl 2 (o.map zpE)]
def zvV:PV:= .sl 1 (zwo.map zwP)
theorem zmU{n:Nat}(h:n<6):zwo[n]?=some (opsA n):=by
 have:n=0\/n=1\/n=2\/n=3\/n=4\/n=5:=by omega
 rcases this with rfl|rfl|rfl|rfl|rfl|rfl<;>rfl
theorem jB:zh Tryz.prog 254 [] [] (pS zvV) []:=by
 refine gO T Tryz.func254 λC hC=>?_
 repeat' first|refine gG ?_|refine gB ?_ ?_<;>intro h|refine gT ?_|refine gL ?_
 exact gF
theorem zex(f:FuncId)(tl:List Tok)(ti:Nat)(tw:Bool)(l:List (Str×Int))(p:(Str×Int)->Unit->Bool)(nx:(Str×Int)->Unit->Unit)(inv:Unit->Prop)
 (hf: ∀x∈l,∀s:Unit,inv s->zh Tryz.prog f [zF (zpE x),.one (.bx 1 0)] [(0,rdR tl ti tw),(1,.box [.bx 0 0])] (.bq (p x s)) ((λs:Unit=>[(0,rdR tl ti tw),(1,.box [.bx 0 0])]) (nx x s))/\(p x s=false->inv (nx x s))) (s:Unit) (hs:inv s):
 zh Tryz.prog 255 [pS (.sl 2 (l.map zpE)),.one (.cl f [] [.bx 1 0])] [(0,rdR tl ti tw),(1,.box [.bx 0 0])] (I (idxR p nx l 0 s).1) ((λs:Unit=>[(0,rdR tl ti tw),(1,.box [.bx 0 0])]) (idxR p nx l 0 s).2):=by
 refine gO T Tryz.func255 λC hC=>?_;have hs0:=hs;refine wJ 0 rfl λhl=>?_;rw[uk]at hl
 repeat' first|refine gG ?_|refine gB ?_ ?_<;>intro h
 rw[uk]
 refine zn (λq:Nat×Unit=>q.1<=l.length/\inv q.2/\idxR p nx (l.drop q.1) q.1 q.2=idxR p nx l 0 s) (λq=>(λs:Unit=>([(0,pS (.sl 2 (l.map zpE))),(1,.one (.cl f [] [.bx 1 0])),(7,I l.length),(8,I q.1)],[(0,some (rdR tl ti tw)),(1,some (.box [.bx 0 0]))])) q.2) (λq=>l.length - q.1) hC
  (0,s) ⟨uz _,hs,rfl⟩ id gM ?_
 generalize idxR p nx l 0 s=res;clear hs hs0;rintro⟨i,s⟩ ⟨hi,hv,J⟩;simp only at hi hv J;refine zq T hC true 200 rfl ?_;refine zt rfl ?_ ?_<;>intro hh
 ·have hlt:i<l.length:=by simpa using hh
  clear hh;obtain⟨x,hx⟩:=zd hlt;rw[drop_at hx]at J;simp only[idxR]at J;have hv2:=(hf x (List.mem_of_getElem? hx) s hv).2
  repeat' first|refine gG ?_|refine gB ?_ ?_<;>intro h|refine gI T (zl hx) ?_|refine zu hC (hf x (List.mem_of_getElem? hx) s hv).1 id rfl rfl (zH.refl _) rfl rfl rfl rfl rfl rfl rfl rfl ?_|refine zo ?_
  ·rw[uv uf]at J;subst J;exact gE
  ·have U:p x s=false:=by assumption
   rw[U]at J;simp only[uy,uL]at J;rw[wrap64 ua];exact zg (i+1,nx x s) ⟨by simp only;omega,hv2 U,J⟩ id (by simp only;omega) gM
 ·have hge: ¬i<l.length:=by simpa using hh
  rw[uA ua]at J;simp only[idxR]at J;subst J
  repeat' first|refine gG ?_|refine gB ?_ ?_<;>intro h|refine ze ?_
  exact gE
theorem zaP(op n:Int)(s:Str):LeS (.agg [.p (ki op),.p (ki n),.p (ks s),.p (.k (.slice none 0 0))]) (zF (ye (.mk op n s []))):=
 LeS.agg (.cons (.refl _) (.cons (.refl _) (.cons (.refl _) (.cons (.nil 4) .nil))))
theorem zbO{α:Type}(p:α->Bool): ∀(l:List α) (k:Nat),(l.find? p=none/\(idxR (λx (_:Unit)=>p x) (λ_ s=>s) l k ()).1= -1)\/ ∃x j,l.find? p=some x/\l[j]?=some x/\(idxR (λx (_:Unit)=>p x) (λ_ s=>s) l k ()).1=((k+j:Nat):Int)
 | [],_=> .inl ⟨rfl,rfl⟩
 |x::r,k=>by
  cases h:p x with
  |true=>exact .inr ⟨x,0,by simp[List.find?,h],rfl,by simp[idxR,h]⟩
  |false=>
   rcases zbO p r (k+1)with⟨J,h2⟩|⟨y,j,J,h2,h3⟩
   ·exact .inl ⟨by simp[List.find?,h,J],by simp only[idxR,h,uy,uL];exact h2⟩
   ·exact .inr ⟨y,j+1,by simp[List.find?,h,J],h2,by simp only[idxR,h,uy,uL];rw[h3];congr 1;omega⟩
section
variable {l:List Tok} (hl:w6 l)
include hl
theorem zfY(i:Nat)(J:i<l.length)(x:Str×Int):zh Tryz.prog 256 [zF (zpE x),.one (.bx 1 0)] [(0,rdR l i false),(1,.box [.bx 0 0])] (.bq (isA l i x.1)) [(0,rdR l i false),(1,.box [.bx 0 0])]:=by
 refine gO T Tryz.func256 λC hC=>?_
 repeat' first|refine gG ?_|refine gB ?_ ?_<;>intro h|refine gR (ziK hl i J x.1) (nm [0]) ?_|refine gQ ?_
 exact zi ⟨.inl rfl,id,_,rfl,.qq rfl,⟨rfl,rfl,uh⟩,rfl,rfl⟩
theorem zjF(i:Nat)(J:i<l.length)(x:Str×Int):zh Tryz.prog 256 [zF (zpE x),.one (.bx 1 0)] [(0,rdR l i true),(1,.box [.bx 0 0])] (.bq false) [(0,rdR l i true),(1,.box [.bx 0 0])]:=by
 refine gO T Tryz.func256 λC hC=>?_
 repeat' first|refine gG ?_|refine gB ?_ ?_<;>intro h|refine gR (zhi hl i J x.1) (nm [0]) ?_|refine gL ?_
 exact zi ⟨.inl rfl,id,_,rfl,.qb rfl,⟨rfl,rfl,uh⟩,rfl,rfl⟩
theorem ziL(i:Nat)(J:i<l.length)(o:List (Str×Int)):zh Tryz.prog 255 [pS (.sl 2 (o.map zpE)),.one (.cl 256 [] [.bx 1 0])] [(0,rdR l i true),(1,.box [.bx 0 0])] (I (-1)) [(0,rdR l i true),(1,.box [.bx 0 0])]:=by
 have h:=zex 256 l i true o (λ_ _=>false) (λ_ s=>s) (λ_=>True) (λx hx s _=>⟨zjF hl i J x,λ_=>trivial⟩) () trivial
 have e:(idxR (λ(_:Str×Int) (_:Unit)=>false) (λ_ s=>s) o 0 ()).1= -1:=by
  rcases zbO (λ_=>false) o 0 with⟨_,h2⟩|⟨y,j,U,_,_⟩
  ·exact h2
  ·exact absurd (oK U) ue
 rw[e]at h;exact h
theorem zmV(i:Nat)(U:i<l.length)(n:Nat)(J:opA l i n=none):zh Tryz.prog 255 [pS (.sl 2 ((opsA n).map zpE)),.one (.cl 256 [] [.bx 1 0])] [(0,rdR l i false),(1,.box [.bx 0 0])] (I (-1)) [(0,rdR l i false),(1,.box [.bx 0 0])]:=by
 have h:=zex 256 l i false (opsA n) (λx _=>isA l i x.1) (λ_ s=>s) (λ_=>True) (λx hx s _=>⟨zfY hl i U x,λ_=>trivial⟩) () trivial
 have e:(idxR (λ(x:Str×Int) (_:Unit)=>isA l i x.1) (λ_ s=>s) (opsA n) 0 ()).1= -1:=by
  rcases zbO (λx:Str×Int=>isA l i x.1) (opsA n) 0 with⟨_,h2⟩|⟨y,j,h1,_,_⟩
  ·exact h2
  ·unfold opA at J;rw[h1]at J;cases J
 rw[e]at h;exact h
theorem zmW(i:Nat)(hi:i<l.length)(n:Nat)(op:Int)(J:opA l i n=some op): ∃(j:Nat) (s:Str),(opsA n)[j]?=some (s,op)/\isA l i s=true/\zh Tryz.prog 255 [pS (.sl 2 ((opsA n).map zpE)),.one (.cl 256 [] [.bx 1 0])] [(0,rdR l i false),(1,.box [.bx 0 0])] (I j) [(0,rdR l i false),(1,.box [.bx 0 0])]:=by
 have h:=zex 256 l i false (opsA n) (λx _=>isA l i x.1) (λ_ s=>s) (λ_=>True) (λx hx s _=>⟨zfY hl i hi x,λ_=>trivial⟩) () trivial;rcases zbO (λx:Str×Int=>isA l i x.1) (opsA n) 0 with⟨U,_⟩|⟨⟨s,o⟩,j,U,h2,h3⟩
 ·unfold opA at J;rw[U]at J;cases J
 ·have e:o=op:=by unfold opA at J;rw[U]at J;exact uS J
  subst e;rw[h3,tC]at h;exact⟨j,s,h2,by have:=oK U;exact this,h⟩
theorem zmX(i:Nat)(hi:i<l.length):zh Tryz.prog 272 [rdV] [(0,rdR l i true)] (zF (ye E0)) [(0,rdR l i true)]:=by
 have _:=hl;refine gO T Tryz.func272 λC hC=>?_
 repeat' first|refine gG ?_|refine gB ?_ ?_<;>intro h|refine gL ?_
 exact zi ⟨.inl rfl,id,_,rfl,zaP _ _ _,⟨rfl,uh⟩,rfl,rfl⟩
theorem zmY(i:Nat)(J:i<l.length):zh Tryz.prog 253 [rdV] [(0,rdR l i true)] (zF (ye E0)) [(0,rdR l i true)]:=by
 refine gO T Tryz.func253 λC hC=>?_
 repeat' first|refine gG ?_|refine gB ?_ ?_<;>intro h|refine gR (zmX hl i J) (nm [0]) ?_
 refine zn (λ_:Unit=>True) (λ_=>([(0,rdV),(2,.one (.bx 1002 0)),(3,.one (.bx 1003 0))],[(0,some (rdR l i true)),(1002,some (Res.box (zV [ZK.int .i64,ZK.int .i64,ZK.str,ZK.slice]))),(1003,some (Res.box ((ye E0).map V.p)))])) (λ_=>0) hC
  () trivial id gM ?_
 rintro _ _
 repeat' first|refine gG ?_|refine gB ?_ ?_<;>intro h|refine gR (xk hl i J _) (nm [0]) ?_|refine ze ?_|refine gL ?_
 exact gE
theorem zmZ(i:Nat)(J:i<l.length): ∀(k n:Nat),n+k=6->zh Tryz.prog 212 [rdV,I n] [(0,rdR l i true)] (zF (ye E0)) [(0,rdR l i true)]:=by
 intro k
 induction k with
 |zero=>
  intro n hn;have:n=6:=by omega
  subst this;refine gO T Tryz.func212 λC hC=>?_
  repeat' first|refine gG ?_|exact gD|refine gB ?_ ?_<;>intro h|refine gR (xk hl i J _) (nm [0]) ?_|refine gR (zmY hl i J) (nm [0]) ?_|refine gL ?_
  exact gE
 |succ k ih=>
  intro n hn
  have U:zh Tryz.prog 212 [rdV,I (IntKind.i64.wrap ((n:Int)+1))] [(0,rdR l i true)] (zF (ye E0)) [(0,rdR l i true)]:=by
   rw[y7 ua];exact ih (n+1) ua
  refine gO T Tryz.func212 λC hC=>?_;by_cases h2:n=2
  ·repeat' first|refine gG ?_|(exfalso;exact absurd h2 (by have:=um h;omega))|refine gB ?_ ?_<;>intro h|refine gR (xk hl i J _) (nm [0]) ?_|refine gR U (nm [0]) ?_|refine gL ?_
   exact gE
  ·repeat' first|refine gG ?_|(exfalso;have h':=uj h;omega)|refine gB ?_ ?_<;>intro h|refine gR U (nm [0]) ?_|refine gL ?_
   refine zn (λ_:Unit=>True) (λ_=>([(1,I n),(2,.one (.bx 1002 0)),(4,.one (.bx 1004 0)),(5,.one (.bx 1005 0))],[(0,some (rdR l i true)),(1002,some (Res.box [.bx 0 0])),(1004,some (Res.box (zV [ZK.int .i64,ZK.int .i64,ZK.str,ZK.slice]))),(1005,some (Res.box ((ye E0).map V.p)))])) (λ_=>0) hC
    () trivial id gM ?_
   rintro _ _
   repeat' first|refine gG ?_|(exfalso;have h':=um h;omega)|refine gB ?_ ?_<;>intro h|refine xz T hC rfl rfl rfl (uE _) (zl (zmU (show n<6 by omega))) rfl rfl ?_|refine gC jB ?_|refine gR (ziL hl i J _) (nm [0,1002]) ?_|refine gL ?_|refine zo ?_
   exact gE
theorem wR(i:Nat)(J:i<l.length):zh Tryz.prog 152 [rdV] [(0,rdR l i true)] (zF (ye E0)) [(0,rdR l i true)]:=by
 refine gO T Tryz.func152 λC hC=>?_
 repeat' first|refine gG ?_|refine gB ?_ ?_<;>intro h|refine gR (zmZ hl i J 6 0 rfl) (nm [0]) ?_|refine gL ?_
 exact gE
theorem zfZ(i:Nat)(J:i<l.length):zh Tryz.prog 106 [rdV] [(0,rdR l i true)] (zF (ye E0)) [(0,rdR l i true)]:=by
 refine gO T Tryz.func106 λC hC=>?_
 repeat' first|refine gG ?_|refine gB ?_ ?_<;>intro h|refine gR (yg hl i J _) (nm [0]) ?_|refine gR (wR hl i J) (nm [0]) ?_|refine gL ?_
 exact gE
abbrev zwp:S:= .one (.p (.k (.slice none 0 0)))
theorem za5(i:Nat)(J:i<l.length):zh Tryz.prog 150 [rdV] [(0,rdR l i true)] (pS (yl [])) [(0,rdR l i true)]:=by
 refine gO T Tryz.func150 λC hC=>?_
 repeat' first|refine gG ?_|refine gB ?_ ?_<;>intro h|refine gL ?_
 refine zn (λ_:Unit=>True) (λ_=>([(0,rdV),(3,zwp)],[(0,some (rdR l i true))])) (λ_=>0) hC
  () trivial id gM ?_
 rintro _ _
 repeat' first|refine gG ?_|refine gB ?_ ?_<;>intro h|refine ze ?_|refine gR (yg hl i J _) (nm [0]) ?_|refine gL ?_
 exact zi ⟨.inl rfl,id,_,rfl,.one (.nil 5),⟨rfl,uh⟩,rfl,rfl⟩
theorem zdu(i:Nat)(J:i<l.length):zh Tryz.prog 252 [rdV] [(0,rdR l i true)] (pS (yl [])) [(0,rdR l i true)]:=by
 refine gO T Tryz.func252 λC hC=>?_
 repeat' first|refine gG ?_|refine gB ?_ ?_<;>intro h|refine gR (yg hl i J _) (nm [0]) ?_|refine gR (za5 hl i J) (nm [0]) ?_|refine gL ?_
 exact gE
theorem zjG(i:Nat)(J:i<l.length)(sep fin:Str):zh Tryz.prog 102 [rdV,Sr sep,Sr fin,.one (.cl 103 [.bx 0 0] [])] [(0,rdR l i true)] (pS (zx [])) [(0,rdR l i true)]:=by
 refine gO T Tryz.func102 λC hC=>?_
 repeat' first|refine gG ?_|refine gB ?_ ?_<;>intro h|refine gL ?_
 refine zn (λ_:Unit=>True) (λ_=>([(0,rdV),(1,Sr sep),(2,Sr fin),(9,zwp)],[(0,some (rdR l i true))])) (λ_=>0) hC
  () trivial id gM ?_
 rintro _ _
 repeat' first|refine gG ?_|refine gB ?_ ?_<;>intro h|refine ze ?_|refine gR (yg hl i J _) (nm [0]) ?_|refine gL ?_
 exact zi ⟨.inl rfl,id,_,rfl,.one (.nil 2),⟨rfl,uh⟩,rfl,rfl⟩
end
def mvP(a b i:Nat):Nat:=match Nat.beq i a with
 |true=>b
 |false=>i
theorem xL{a b:Nat}(ha:100<=a)(hi:i<100):mvP a b i=i:=by
 unfold mvP;rw[xj ua]
abbrev enE(x:Ex):S:=zF (ye x)
theorem yy{x:β}(h:PJ.go r f g=some (x,j,b)):
 ∃y k J,r=some (y,k,J)/\(J=false->f y k=some (x,j,b))/\(J=true->x=g y/\j=k/\b=true):=by
 rcases r with _|⟨y,k,_|_⟩
 ·cases h
 ·exact⟨y,k,false,rfl,λ_=>h,λh=>by cases h⟩
 ·cases h;exact⟨y,j,true,rfl,(λh=>by cases h),λ_=>⟨rfl,rfl,rfl⟩⟩
structure EX (l:List Tok) (f:Nat):Prop where
 expr: ∀(n i:Nat),n<=6->i<l.length->RJ l 212 [rdV,I n] enE i (exprJ l f n i)
 post: ∀i,i<l.length->RJ l 253 [rdV] enE i (postJ l f i)
 prim: ∀i,i<l.length->RJ l 272 [rdV] enE i (primJ l f i)
 args: ∀i,i<l.length->RJ l 284 [rdV,Sr (⟨#[44]⟩:UH),Sr (⟨#[41]⟩:UH),.one (.cl 152 [.bx 0 0] [])] (λa=>pS (wu a)) i (argsJ l f i [])
 parts: ∀(i k:Nat) (op:Int),1<=k->k<=3->i<l.length->RJ l 285 [rdV,I op,I (k:Nat)] (λa=>enE (.mk op 0 (⟨#[]⟩:UH) a)) i (partsJ l f k i [])
theorem zpF(h:r=some (x,j,false)):PJ.er r= .ok x j:=by rw[h];rfl
theorem zf0{l:List Tok}{f n:Nat}{x:Ex}(h:exprJ l f n i=some (x,j,false)):i<j:=by
 have:=zpF h;rw[(zcB f).1]at this;exact((ziH f).1 _ _ _ _ this).1
abbrev z44:Res:=Res.box (zV [ZK.int .i64,ZK.int .i64,ZK.str,ZK.slice])
section
variable {l:List Tok} (hl:w6 l)
include hl
theorem y6{f:Nat}(J:EX l f)(i:Nat)(U:i<l.length):RJ l 152 [rdV] enE i (exprJ l f 0 i):=by
 have _:=hl;intro x j b hR;obtain⟨hj,hE⟩:=J.expr 0 i ub U _ _ _ hR;refine⟨hj,?_⟩;refine gO T Tryz.func152 λC hC=>?_
 repeat' first|refine gG ?_|refine gB ?_ ?_<;>intro h|refine gR hE (nm [0]) ?_|refine gL ?_
 exact gE
theorem zjH(f:Nat)(ih: ∀g,g<=f->EX l g)(i:Nat)(hi:i<l.length):RJ l 253 [rdV] enE i (postJ l (f+1) i):=by
 intro xf jf bf hR;simp only[postJ]at hR;obtain⟨y,k,b1,hp,U,hb⟩:=yy hR;obtain⟨hk,hP⟩:=(ih f (uF _)).prim i hi _ _ _ hp
 have hjf:jf<l.length:=by
  cases b1 with
  |true=>rw[(hb rfl).2.1];exact hk
  |false=>
   have J:=U rfl;clear hR U hb hp hP
   have: ∀g y k,k<l.length->dotsJ l g y k=some (xf,jf,bf)->jf<l.length:=by
    intro g
    induction g with
    |zero=>intro y k _ h;simp only[dotsJ]at h;cases h
    |succ g ihg=>
     intro y k hk h;simp only[dotsJ]at h;split at h
     ·rename_i hs;rcases zhm h with⟨s,k2,h1,h2⟩|⟨s,h1,h2,h3⟩
      ·exact ihg _ _ (xK hl _ (zp hl hs) _ _ _ h1).1 h2
      ·exact(xK hl _ (zp hl hs) _ _ _ h1).1
     ·cases h;exact hk
   exact this f y k hk J
 refine⟨hjf,?_⟩;refine gO T Tryz.func253 λC hC=>?_
 repeat' first|refine gG ?_|refine gB ?_ ?_<;>intro h|refine gR hP (nm [0]) ?_
 refine zn (λq:Ex×Nat×Bool×Nat=>q.2.1<l.length/\(q.2.2.1=false->dotsJ l q.2.2.2 q.1 q.2.1=some (xf,jf,bf))/\(q.2.2.1=true->xf=q.1/\jf=q.2.1/\bf=true))
  (λq=>([(0,rdV),(2,.one (.bx 1002 0)),(3,.one (.bx 1003 0))],[(0,some (rdR l q.2.1 q.2.2.1)),(1002,some z44),(1003,some (Res.box ((ye q.1).map V.p)))])) (λq=>if q.2.2.1 then 0 else q.2.2.2+1) hC
  (y,k,b1,f) ⟨hk,U,hb⟩ id gM ?_
 clear hk U hb hp hP hR;rintro⟨y,k,b1,g⟩ ⟨hk,U,hb⟩;simp only at hk U hb;cases b1 with
 |true=>
  obtain⟨rfl,rfl,rfl⟩:=hb rfl
  repeat' first|refine gG ?_|refine gB ?_ ?_<;>intro h|refine gR (xk hl _ hk _) (nm [0]) ?_|refine ze ?_|refine gL ?_
  exact gE
 |false=>
  have J:=U rfl;clear U hb;cases g with
  |zero=>simp only[dotsJ]at J;cases J
  |succ g=>
   simp only[dotsJ]at J;by_cases hs:isA l k (⟨#[46]⟩:UH)=true
   ·rw[uv hs]at J;obtain⟨s,k2,b2,hn,h2,h3⟩:=yy J;obtain⟨hk2,hN⟩:=xK hl _ (zp hl hs) _ _ _ hn
    repeat' first|refine gG ?_|refine gB ?_ ?_<;>intro h|refine gR (zN hl hs) (nm [0]) ?_|refine gR hN (nm [0]) ?_|refine gH T [z8 y] ?_
    exact zg (.mk 5 0 s [y],k2,b2,g) ⟨hk2,h2,h3⟩ id (by cases b2<;>simp) gM
   ·rw[uu hs]at J;cases J
    repeat' first|refine gG ?_|refine gB ?_ ?_<;>intro h|refine gR (zL hl hk hs) (nm [0]) ?_|refine ze ?_|refine gL ?_
    exact gE
end
section
variable {l:List Tok}
def RG(l:List Tok)(r:PJ α):Prop:= ∀x j b,r=some (x,j,b)->j<l.length
theorem RG.go{α β:Type}{r:PJ α}{f:α->Nat->PJ β}{g:α->β}(h:RG l r)(hf: ∀y k,k<l.length->RG l (f y k)):RG l (PJ.go r f g):=by
 intro x j b e;rcases r with _|⟨y,k,_|_⟩
 ·cases e
 ·exact hf y k (h _ _ _ rfl) _ _ _ e
 ·cases e;exact h _ _ _ rfl
theorem RG.ok{α:Type}{x:α}{i:Nat}(h:i<l.length):RG l (PJ.ok x i):=by intro x j b e;cases e;exact h
theorem RG.no{α:Type}{x:α}{i:Nat}(h:i<l.length):RG l (PJ.no x i):=by intro x j b e;cases e;exact h
theorem RG.none{α:Type}:RG (α:=α) l (Option.none):=by intro x j b e;cases e
theorem RG.ite[Decidable c]{a b:PJ α}(J:c->RG l a)(h2: ¬c->RG l b):RG l (if c then a else b):=by
 split
 ·rename_i h;exact J h
 ·rename_i h;exact h2 h
variable (hl:w6 l)
include hl
theorem RG.one(J:i<l.length)(s:Str):RG l (vX l s i):= .ite (λh=> .ok (zp hl h)) λ_=> .no J
theorem RG.name(J:i<l.length):RG l (nameJ l i):=λ_ _ _ e=>(xK hl i J _ _ _ e).1
theorem RG.int(J:i<l.length):RG l (zmQ l i):=λ_ _ _ e=>(zhk hl i J _ _ _ e).1
theorem RG.typ(J:i<l.length):RG l (zhg l i):=λ_ _ _ e=>(zhl hl i J _ _ _ e).1
theorem RG.field(J:i<l.length):RG l (wo l i):=λ_ _ _ e=>(zaO hl i J _ _ _ e).1
theorem RG.sep(J:i<l.length)(s:Str)(n:Nat):RG l (if n=0 then PJ.ok () i else vX l s i):= .ite (λ_=> .ok J) λ_=> .one hl J s
theorem zpG{n:Nat}{op:Int}(h:opA l i n=some op):i+1<l.length:=by
 unfold opA at h;rw[uM]at h;obtain⟨a,J,_⟩:=h;have h2:=oK J;exact zp hl h2
theorem za6: ∀f:Nat,(∀n i,i<l.length->RG l (exprJ l f n i))/\(∀n x i,i<l.length->RG l (moreJ l f n x i))/\(∀i,i<l.length->RG l (postJ l f i))/\(∀x i,i<l.length->RG l (dotsJ l f x i))/\
 (∀i a,i<l.length->RG l (argsJ l f i a))/\(∀k i a,i<l.length->RG l (partsJ l f k i a))/\(∀i,i<l.length->RG l (primJ l f i)):=by
 intro f
 induction f with
 |zero=>exact⟨λ_ _ _=>by simp only[exprJ];exact .none,λ_ _ _ _=>by simp only[moreJ];exact .none,λ_ _=>by simp only[postJ];exact .none,λ_ _ _=>by simp only[dotsJ];exact .none,λ_ _ _=>by simp only[argsJ];exact .none,λ_ _ _ _=>by simp only[partsJ];exact .none,λ_ _=>by simp only[primJ];exact .none⟩
 |succ f ih=>
  obtain⟨U,h2,h3,h4,h5,h6,h7⟩:=ih;refine⟨λn i J=>?_,λn x i J=>?_,λi J=>?_,λx i J=>?_,λi a J=>?_,λk i a J=>?_,λi J=>?_⟩
  ·simp only[exprJ];exact .ite (λ_=> .ite (λh=> .go (U _ _ (zp hl h)) λ_ _ hk=> .ok hk) λ_=>U _ _ J) λ_=> .ite (λ_=> .ite (λh=> .go (U _ _ (zp hl h)) λ_ _ hk=> .ok hk) λ_=>h3 _ J) λ_=> .go (U _ _ J) λ_ _ hk=>h2 _ _ _ hk
  ·simp only[moreJ];cases ho:opA l i n with
   |none=>exact .ok J
   |some op=>exact .go (U _ _ (zpG hl ho)) λ_ _ hk=> .ite (λ_=> .ok hk) λ_=>h2 _ _ _ hk
  ·simp only[postJ];exact .go (h7 _ J) λ_ _ hk=>h4 _ _ hk
  ·simp only[dotsJ];exact .ite (λh=> .go (.name hl (zp hl h)) λ_ _ hk=>h4 _ _ hk) λ_=> .ok J
  ·simp only[argsJ];exact .ite (λh=> .ok (zp hl h)) λ_=> .go (.sep hl J _ _) λ_ _ hk=> .go (U _ _ hk) λ_ _ hk=>h5 _ _ hk
  ·simp only[partsJ];exact .ite (λ_=> .go (.one hl J _) λ_ _ hk=> .ok hk) λ_=> .go (.one hl J _) λ_ _ hk=> .go (U _ _ hk) λ_ _ hk=>h6 _ _ _ hk
  ·simp only[primJ];cases ht:l[i]? with
   |none=>exact .no J
   |some t=>
    refine .ite (λh=> .ok (hl.next ht ua)) λ_=> .ite (λh=> .ite (λh=> .go (h5 _ _ (zp hl h)) λ_ _ hk=> .ok hk) λ_=> .ok (hl.next ht ua)) λ_=>?_
    refine .ite (λh=> .ok (zp hl h)) λ_=> .ite (λh=> .ok (zp hl h)) λ_=> .ite (λh=> .ok (zp hl h)) λ_=> .ite (λh=> .ok (zp hl h)) λ_=> .ite (λh=> .go (.name hl (zp hl h)) λ_ _ hk=> .ok hk) λ_=>?_
    refine .ite (λh=> .go (h6 _ _ _ (zp hl h)) λ_ _ hk=> .ok hk) λ_=> .ite (λh=> .go (h6 _ _ _ (zp hl h)) λ_ _ hk=> .ok hk) λ_=> .ite (λh=> .go (h6 _ _ _ (zp hl h)) λ_ _ hk=> .ok hk) λ_=> .ite (λh=> .go (h6 _ _ _ (zp hl h)) λ_ _ hk=> .ok hk) λ_=>?_
    exact .ite (λh=> .go (U _ _ (zp hl h)) λ_ _ hk=> .go (.one hl hk _) λ_ _ hk=> .ok hk) λ_=> .no J
theorem zhn: ∀f:Nat,(∀i a,i<l.length->RG l (stmtsJ l f i a))/\(∀i,i<l.length->RG l (vD l f i))/\(∀i,i<l.length->RG l (zbt l f i)):=by
 intro f
 induction f with
 |zero=>exact⟨λ_ _ _=>by simp only[stmtsJ];exact .none,λ_ _=>by simp only[vD];exact .none,λ_ _=>by simp only[zbt];exact .none⟩
 |succ f ih=>
  obtain⟨h1,h2,h3⟩:=ih;have J:=(za6 hl f).1;have hP:=(za6 hl f).2.2.1;refine⟨λi a U=>?_,λi U=>?_,λi U=>?_⟩
  ·simp only[stmtsJ];exact .ite (λh=> .ok (zp hl h)) λ_=> .go (h3 _ U) λ_ _ hk=>h1 _ _ hk
  ·simp only[vD];exact .go (.one hl U _) λ_ _ hk=>h1 _ _ hk
  ·simp only[zbt];refine .ite (λh=> .go (J _ _ (zp hl h)) λ_ _ hk=> .go (h2 _ hk) λ_ _ hk=> .ite (λh=> .go (h2 _ (zp hl h)) λ_ _ hk=> .ok hk) λ_=> .ok hk) λ_=>?_;refine .ite (λh=> .go (J _ _ (zp hl h)) λ_ _ hk=> .go (h2 _ hk) λ_ _ hk=> .ok hk) λ_=>?_;refine .ite (λh=> .ite (λh=> .ok (zp hl h)) λ_=> .go (J _ _ (zp hl h)) λ_ _ hk=> .go (.one hl hk _) λ_ _ hk=> .ok hk) λ_=>?_;refine .go (hP _ U) λ_ _ hk=> .ite (λh=> .go (J _ _ (zp hl h.1)) λ_ _ hk=> .go (.one hl hk _) λ_ _ hk=> .ok hk) λ_=> .ite (λh=> .go (J _ _ (zp hl h.1)) λ_ _ hk=> .go (.one hl hk _) λ_ _ hk=> .ok hk) λ_=> .ite (λh=> .go (.one hl hk _) λ_ _ hk=> .ok hk) λ_=> .no hk
theorem zm0{α:Type}(z:α)(sep fin:Str)(one:Nat->PJ α)(J: ∀i,i<l.length->RG l (one i)): ∀(f i:Nat) (acc:List α),i<l.length->RG l (listJ l z sep fin one f i acc)
 |0,_,_,_=> .none
 |f+1,i,acc,hi=>by
  simp only[listJ];exact .ite (λh=> .ok (zp hl h)) λ_=> .go (.sep hl hi _ _) λ_ _ hk=> .go (J _ hk) λ_ _ hk=>zm0 z sep fin one J f _ _ hk
theorem zm1: ∀(f i:Nat) (acc:List Fld),i<l.length->RG l (locsJ l f i acc)
 |0,_,_,_=> .none
 |f+1,i,acc,hi=>by
  simp only[locsJ];exact .ite (λh=> .go (.field hl (zp hl h)) λ_ _ hk=> .go (.one hl hk _) λ_ _ hk=>zm1 f _ _ hk) λ_=> .ok hi
end
section
variable {l:List Tok} (hl:w6 l)
include hl
theorem zjI(f:Nat)(ih: ∀g,g<=f->EX l g)(n i:Nat)(hn:n<=6)(hi:i<l.length):RJ l 212 [rdV,I n] enE i (exprJ l (f+1) n i):=by
 intro xf jf bf J;have hjf:=(za6 hl (f+1)).1 n i hi _ _ _ J;refine⟨hjf,?_⟩;simp only[exprJ]at J;by_cases h2:n=2
 ·subst h2;rw[uv rfl]at J;by_cases hs:isA l i (⟨#[110,111,116]⟩:UH)=true
  ·rw[uv hs]at J
   obtain⟨y,hy,rfl⟩: ∃y,exprJ l f 2 (i+1)=some (y,jf,bf)/\xf= .mk 18 0 (⟨#[]⟩:UH) [y]:=by
    rcases zhm J with⟨y,k,h1,h2⟩|⟨y,h1,h2,h3⟩
    ·cases h2;exact⟨y,h1,rfl⟩
    ·subst h3;exact⟨y,h1,h2⟩
   obtain⟨_,U⟩:=(ih f (uF _)).expr 2 _ ub (zp hl hs) _ _ _ hy;refine gO T Tryz.func212 λC hC=>?_
   repeat' first|refine gG ?_|exact gD|refine gB ?_ ?_<;>intro h|refine gR (zN hl hs) (nm [0]) ?_|refine gR U (nm [0]) ?_|refine gH T [z8 y] ?_|refine gL ?_
   exact gE
  ·rw[uu hs]at J;obtain⟨_,U⟩:=(ih f (uF _)).expr 3 _ ub hi _ _ _ J;have hE':zh Tryz.prog 212 [rdV,I (IntKind.i64.wrap (((2:Nat):Int)+1))] [(0,rdR l i false)] (enE xf) [(0,rdR l jf bf)]:=U;refine gO T Tryz.func212 λC hC=>?_
   repeat' first|refine gG ?_|exact gD|refine gB ?_ ?_<;>intro h|refine gR (zL hl hi hs) (nm [0]) ?_|refine gR hE' (nm [0]) ?_|refine gL ?_
   exact gE
 rw[uu h2]at J;by_cases h6:n=6
 ·subst h6;rw[uv rfl]at J;by_cases hs:isA l i (⟨#[45]⟩:UH)=true
  ·rw[uv hs]at J
   obtain⟨y,hy,rfl⟩: ∃y,exprJ l f 6 (i+1)=some (y,jf,bf)/\xf= .mk 8 0 (⟨#[]⟩:UH) [y]:=by
    rcases zhm J with⟨y,k,h1,h2⟩|⟨y,h1,h2,h3⟩
    ·cases h2;exact⟨y,h1,rfl⟩
    ·subst h3;exact⟨y,h1,h2⟩
   obtain⟨_,U⟩:=(ih f (uF _)).expr 6 _ ub (zp hl hs) _ _ _ hy;refine gO T Tryz.func212 λC hC=>?_
   repeat' first|refine gG ?_|exact gD|refine gB ?_ ?_<;>intro h|refine gR (zN hl hs) (nm [0]) ?_|refine gR U (nm [0]) ?_|refine gH T [z8 y] ?_|refine gL ?_
   exact gE
  ·rw[uu hs]at J;obtain⟨_,U⟩:=(ih f (uF _)).post _ hi _ _ _ J;refine gO T Tryz.func212 λC hC=>?_
   repeat' first|refine gG ?_|exact gD|refine gB ?_ ?_<;>intro h|refine gR (zL hl hi hs) (nm [0]) ?_|refine gR U (nm [0]) ?_|refine gL ?_
   exact gE
 rw[uu h6]at J;obtain⟨y,k,b1,hp,hg,hb⟩:=yy J
 have U:k<l.length/\zh Tryz.prog 212 [rdV,I (IntKind.i64.wrap ((n:Int)+1))] [(0,rdR l i false)] (enE y) [(0,rdR l k b1)]:=by
  rw[y7 ua];exact(ih f (uF _)).expr (n+1) _ ua hi _ _ _ hp
 obtain⟨hk,U⟩:=U;refine gO T Tryz.func212 λC hC=>?_
 repeat' first|refine gG ?_|(exfalso;have h':=uj h;omega)|refine gB ?_ ?_<;>intro h|refine gR U (nm [0]) ?_
 refine zn (λq:Ex×Nat×Bool×Nat=>q.2.1<l.length/\q.2.2.2<=f/\(q.2.2.1=false->moreJ l q.2.2.2 n q.1 q.2.1=some (xf,jf,bf))/\(q.2.2.1=true->xf=q.1/\jf=q.2.1/\bf=true))
  (λq=>([(1,I n),(2,.one (.bx 1002 0)),(4,.one (.bx 1004 0)),(5,.one (.bx 1005 0))],[(0,some (rdR l q.2.1 q.2.2.1)),(1002,some (Res.box [.bx 0 0])),(1004,some z44),(1005,some (Res.box ((ye q.1).map V.p)))])) (λq=>if q.2.2.1 then 0 else q.2.2.2+1) hC
  (y,k,b1,f) ⟨hk,uF _,hg,hb⟩ id gM ?_
 clear hk hg hb hp U J;rintro⟨y,k,b1,g⟩ ⟨hk,hgf,hg,hb⟩;simp only at hk hgf hg hb;have hlv:=zmU (show n<6 by omega);cases b1 with
 |true=>
  obtain⟨rfl,rfl,rfl⟩:=hb rfl
  repeat' first|refine gG ?_|(exfalso;have h':=um h;omega)|refine gB ?_ ?_<;>intro h|refine gI T (zl hlv) ?_|refine gC jB ?_|refine gR (ziL hl _ hk _) (nm [0,1002]) ?_|refine gL ?_|refine zo ?_
  exact gE
 |false=>
  have hd:=hg rfl;clear hg hb;cases g with
  |zero=>simp only[moreJ]at hd;cases hd
  |succ g=>
   simp only[moreJ]at hd;cases ho:opA l k n with
   |none=>
    rw[ho]at hd;cases hd
    repeat' first|refine gG ?_|(exfalso;have h':=um h;omega)|refine gB ?_ ?_<;>intro h|refine gI T (zl hlv) ?_|refine gC jB ?_|refine gR (zmV hl _ hk _ ho) (nm [0,1002]) ?_|refine gL ?_|refine zo ?_
    exact gE
   |some op=>
    rw[ho]at hd;obtain⟨jj,s,hjj,hs,hI⟩:=zmW hl _ hk _ _ ho;obtain⟨z,k2,b2,hz,h3,h4⟩:=yy hd
    have U:k2<l.length/\zh Tryz.prog 212 [rdV,I (IntKind.i64.wrap ((n:Int)+1))] [(0,rdR l (k+1) false)] (enE z) [(0,rdR l k2 b2)]:=by
     rw[y7 ua];exact(ih g ua).expr (n+1) _ ua (zp hl hs) _ _ _ hz
    obtain⟨hk2,U⟩:=U;have hll:=hl.len
    have hE2:zh Tryz.prog 212 [rdV,I (IntKind.i64.wrap ((n:Int)+1))] [(0,Res.box [.p (zpz l),.p (ki (IntKind.i64.wrap ((k:Int)+1))),.p (.k (.bool false))])] (enE z) [(0,rdR l k2 b2)]:=by
     rw[y7 (i:=k) ua];exact U
    by_cases h3n:n=3
    ·have hfin:xf= .mk op 0 (⟨#[]⟩:UH) [y,z]/\jf=k2/\bf=b2:=by
      cases b2 with
      |false=>have h3:=h3 rfl;rw[uv h3n]at h3;cases h3;exact⟨rfl,rfl,rfl⟩
      |true=>exact h4 rfl
     obtain⟨rfl,rfl,rfl⟩:=hfin
     repeat' first|refine gG ?_|(exfalso;exact absurd h3n (by have:=um h;omega))|(exfalso;have h':=uj h;omega)|refine gB ?_ ?_<;>intro h|refine gI T (zl hlv) ?_|refine gI T (zl hjj) ?_|refine gC jB ?_|refine gR hI (nm [0,1002]) ?_|refine gR hE2 (nm [0]) ?_|refine gH T [z8 y,z8 z] ?_|refine gL ?_|refine zo ?_
     exact gE
    ·repeat' first|refine gG ?_|(exfalso;have h':=uj h;omega)|refine gB ?_ ?_<;>intro h|refine gI T (zl hlv) ?_|refine gI T (zl hjj) ?_|refine gC jB ?_|refine gR hI (nm [0,1002]) ?_|refine gR hE2 (nm [0]) ?_|refine gH T [z8 y,z8 z] ?_|refine gL ?_|refine zo ?_
     exact zg (.mk op 0 (⟨#[]⟩:UH) [y,z],k2,b2,g) ⟨hk2,by simp only;omega,λh=>by have h3:=h3 h;rw[uu h3n]at h3;exact h3,h4⟩ id (by cases b2<;>simp) gM
end
end Hw.Gm.Ps
