import Derived.Test.YtolghpfockkldaaGreatDoorC7
import Derived.Test.YtolghpfockkldaaGreatDoorC6
import Derived.Test.YtolghpfockkldaaGreatDoorC3
import Derived.Test.YtolghpfockkldaaGreatDoorC1
import Derived.Test.YtolghpfockkldaaGreatDoorC4
import Derived.Test.YtolghpfockkldaaGreatDoorC5
import Derived.Test.YtolghpfockkldaaGreatDoorC2
set_option linter.unusedVariables false
set_option linter.unusedSimpArgs false
set_option linter.unusedSectionVars false
set_option linter.unnecessarySimpa false
namespace Hw.Gm
open Go Go.Proofs Hw.M Ps
variable {c:Cl}{d:zg}{fuel:Int}{g:Nat}{m:Hp}{om:Option Hp}{x:EnT}
theorem zsu{e:Int}(h1:wS d m=true)(J:entE d m g c fuel=some (x,om,e)):
 zf Tryz.prog 30 [zr (zA d),zr (yS m),zr (yy c),I fuel] [] (.tup [zr (enR x),mzS om,I e]) []:=by
 obtain⟨hcw,hv⟩:=vG h1;obtain⟨hd,hf⟩:=ztl hcw;obtain⟨hs,hw⟩:=jj hd hv;have U:=zmf d c;unfold entE at J;by_cases e1:(chE d c).1=0
 ·rw[ur (by simpa using e1)]at J;obtain⟨i0,hi0,hp0⟩:=zpa e1;unfold prZ at U;rw[uw e1,e1]at U;generalize (chE d c).2=p at J U hp0;cases hpt:ptE d m g with
  |none=>rw[hpt]at J;cases J
  |some q=>
   obtain⟨be,e2⟩:=q;simp only[hpt]at J;have hP:=zg1 hd hpt;by_cases z2:e2=0
   ·subst z2;rw[ur ue]at J;cases hbn:bnE d m g p c with
    |none=>rw[hbn]at J;cases J
    |some q=>
     obtain⟨bo,e3⟩:=q;simp only[hbn]at J;have hB:=zo9 h1 hs hbn;by_cases z3:e3=0
     ·subst z3;rw[ur ue]at J;by_cases z4:zd0 d m fuel=0
      ·rw[ur (by simpa using z4)]at J;by_cases z5:zca d m c=0
       ·rw[ur (by simpa using z5)]at J;cases hpl:plF (rnV d fuel g p c.a (mc0 m))with
        |none=>rw[hpl]at J;cases J
        |some w=>
         obtain⟨fl,v,y⟩:=w;simp only[hpl]at J;by_cases z6:1099511627776<y.acc.length
         ·rw[uw z6]at J;cases J
         ·rw[ur z6]at J;have hR:=zsc hs hw z5 z4 (k:=g) (fl:=fl) (v:=v) (x:=y) (λi p' hi hp'=>by rw[hi0]at hi;cases hi;rw[hp0]at hp';cases hp';exact hpl) ua;cases hpa:ptE d ⟨y.g,y.ns⟩ g with
          |none=>rw[hpa]at J;cases J
          |some q=>
           obtain⟨af,e7⟩:=q;simp only[hpa]at J;cases J;have hP2:=zg1 hd hpa;refine gO T Tryz.func30 λC hC=>?_
           repeat' first|refine gG ?_|exact gD|refine gB ?_ ?_<;>intro h|refine gC U ?_|refine gC hP ?_|refine gC hB ?_|refine gC hR ?_|refine gC hP2 ?_
           exact gF
       ·rw[uw z5]at J;cases J;have hR:=zjx hs hw z4 z5;refine gO T Tryz.func30 λC hC=>?_
        repeat' first|refine gG ?_|exact gD|(exfalso;simp[z5]at h;done)|refine gB ?_ ?_<;>intro h|refine gC U ?_|refine gC hP ?_|refine gC hB ?_|refine gC hR ?_
        exact zi ⟨.inl rfl,id,_,rfl,zuK,trivial,rfl,rfl⟩
      ·rw[uw z4]at J;cases J;have hR:=zlT z4 c;refine gO T Tryz.func30 λC hC=>?_
       repeat' first|refine gG ?_|exact gD|(exfalso;simp[z4]at h;done)|refine gB ?_ ?_<;>intro h|refine gC U ?_|refine gC hP ?_|refine gC hB ?_|refine gC hR ?_
       exact zi ⟨.inl rfl,id,_,rfl,zuK,trivial,rfl,rfl⟩
     ·rw[uw z3]at J;cases J;refine gO T Tryz.func30 λC hC=>?_
      repeat' first|refine gG ?_|exact gD|(exfalso;simp[z3]at h;done)|refine gB ?_ ?_<;>intro h|refine gC U ?_|refine gC hP ?_|refine gC hB ?_
      exact zi ⟨.inl rfl,id,_,rfl,zuK,trivial,rfl,rfl⟩
   ·rw[uw z2]at J;cases J;refine gO T Tryz.func30 λC hC=>?_
    repeat' first|refine gG ?_|exact gD|(exfalso;simp[z2]at h;done)|refine gB ?_ ?_<;>intro h|refine gC U ?_|refine gC hP ?_
    exact zi ⟨.inl rfl,id,_,rfl,zuK,trivial,rfl,rfl⟩
 ·rw[uw (by simpa using e1)]at J;cases J;unfold prZ at U;rw[ur e1]at U;generalize (chE d c).1=ec at e1 U;refine gO T Tryz.func30 λC hC=>?_
  repeat' first|refine gG ?_|exact gD|(exfalso;simp[e1]at h;done)|refine gB ?_ ?_<;>intro h|refine gC U ?_
  exact zi ⟨.inl rfl,id,_,rfl,zuK,trivial,rfl,rfl⟩
def vS(l:List Cl):PV:= .sl 2 (l.map yy)
theorem zuL{m2:Hp}(U:wS d m=true)(J:entE d m g c fuel=some (x,some m2,0)):wS d m2=true:=by
 unfold entE at J;split at J
 ·cases J
 ·cases hpt:ptE d m g with
  |none=>rw[hpt]at J;cases J
  |some q=>
   simp only[hpt]at J;split at J
   ·cases J
   ·cases hbn:bnE d m g (chE d c).2 c with
    |none=>rw[hbn]at J;cases J
    |some q=>
     simp only[hbn]at J;split at J
     ·cases J
     ·split at J
      ·cases J
      ·split at J
       ·cases J
       ·cases hpl:plF (rnV d fuel g (chE d c).2 c.a (mc0 m))with
        |none=>rw[hpl]at J;cases J
        |some w=>
         obtain⟨fl,v,y⟩:=w;simp only[hpl]at J;split at J
         ·cases J
         ·cases hpa:ptE d ⟨y.g,y.ns⟩ g with
          |none=>rw[hpa]at J;cases J
          |some q=>
           obtain⟨af,e7⟩:=q;simp only[hpa,ui,uz]at J;obtain⟨_,rfl,rfl⟩:=J;unfold wS;rw[uT (vG U).1,tn];cases hv:zZ d ⟨y.g,y.ns⟩with
           |true=>rfl
           |false=>unfold ptE at hpa;rw[uw hv]at hpa;cases hpa
variable {f:Hp->Cl->Option (EnT×Option Hp×Int)}{xs:List EnT}
theorem zmh{l:List Cl}{res:List EnT×Option Hp×Int}(h:(audF f (c::l) m).map (λq=>if q.2.2=0 then(xs++q.1,q.2)else q)=some res):
 ∃x om e,f m c=some (x,om,e)/\((∃m2,om=some m2/\e=0/\(audF f l m2).map (λq=>if q.2.2=0 then((xs++[x])++q.1,q.2)else q)=some res)\/(¬e=0/\res=([],none,e))\/(om=none/\e=0)):=by
 rw[audF]at h;cases hf:f m c with
 |none=>rw[hf]at h;cases h
 |some q=>
  obtain⟨x,om,e⟩:=q;rw[hf]at h;refine⟨x,om,e,rfl,?_⟩;cases om with
  |none=>
   by_cases J:e=0
   ·exact .inr (.inr ⟨rfl,J⟩)
   ·right;left;simp only[uH,ur J,ui]at h;exact⟨J,h.symm⟩
  |some m2=>
   by_cases J:e=0
   ·left;refine⟨m2,rfl,J,?_⟩;simp only at h;rw[ur (by simpa using J)]at h;cases hq:audF f l m2 with
    |none=>rw[hq]at h;cases h
    |some q=>
     rw[hq]at h;simp only[uH]at h⊢;rw[<-h];by_cases U:q.2.2=0
     ·rw[uw U,uw U,uw U];simp
     ·rw[ur U,ur U,ur U]
   ·right;left;simp only at h;rw[uw (by simpa using J)]at h;simp only[uH,ur J,ui]at h;exact⟨J,h.symm⟩
theorem zmi{e:Int}(J:entE d m g c fuel=some (x,none,e)): ¬e=0:=by
 unfold entE at J;split at J
 ·rename_i h;cases J;exact h
 ·cases hpt:ptE d m g with
  |none=>rw[hpt]at J;cases J
  |some q=>
   simp only[hpt]at J;split at J
   ·rename_i h;cases J;exact h
   ·cases hbn:bnE d m g (chE d c).2 c with
    |none=>rw[hbn]at J;cases J
    |some q=>
     simp only[hbn]at J;split at J
     ·rename_i h;cases J;exact h
     ·split at J
      ·rename_i h;cases J;exact h
      ·split at J
       ·rename_i h;cases J;exact h
       ·cases hpl:plF (rnV d fuel g (chE d c).2 c.a (mc0 m))with
        |none=>rw[hpl]at J;cases J
        |some w=>
         obtain⟨fl,v,y⟩:=w;simp only[hpl]at J;split at J
         ·cases J
         ·cases hpa:ptE d ⟨y.g,y.ns⟩ g with
          |none=>rw[hpa]at J;cases J
          |some q=>obtain⟨af,e7⟩:=q;simp only[hpa]at J;cases J
abbrev auT(d:zg)(l:List Cl)(fuel:Int)(q:Nat×List EnT×Hp):zd×Tab:=([(3,I fuel),(4,.one (.bx 1004 0)),(5,.one (.bx 1005 0)),(9,.one (.bx 1009 0)),(12,.one (.ar 140)),(40,pS (vS l)),(41,I l.length),(42,I q.1)],
 [(1004,some (.box ((zA d).map V.p))),(1005,some (.box ((yS q.2.2).map V.p))),(1009,some (.box [.p (.k (.slice none 0 0)),.p (.k (.slice none 0 0))])),(140,some (.arr 4 (q.2.1.map enR)))])
theorem zpb{e:S}:LeS (.tup [.one (.p (.k (.slice none 0 0))),.agg [.p (.k (.slice none 0 0)),.p (.k (.slice none 0 0))],e]) (.tup [pS (enL []),mzS none,e]):=LeS.tup (.cons (.one (.nil 4)) (.cons (LeS.agg (.cons (.nil 1) (.cons (.nil 2) .nil))) (.cons (.refl _) .nil)))
theorem vH{l:List Cl}{e:Int}(U:zcE d m g l fuel=some (xs,om,e)):
 zf Tryz.prog 9 [zr (zA d),zr (yS m),pS (vS l),I fuel] [] (.tup [pS (enL xs),mzS om,I e]) []:=by
 have hG:=zfx d m;unfold zcE at U;cases h1:wS d m with
 |false=>
  rw[uw h1]at U;cases U;rw[h1]at hG
  replace hG:zf Tryz.prog 28 [zr (zA d),zr (yS m)] [] (I 1) []:=hG
  refine gO T Tryz.func9 λC hC=>?_
  repeat' first|refine gG ?_|exact gD|refine gB ?_ ?_<;>intro h|refine gC hG ?_|refine ze ?_
  exact zi ⟨.inl rfl,id,_,rfl,zpb,trivial,rfl,rfl⟩
 |true=>
  rw[ur (by simp[h1])]at U;rw[h1]at hG
  replace hG:zf Tryz.prog 28 [zr (zA d),zr (yS m)] [] (I 0) []:=hG
  by_cases h2:fuel<0\/1048576<fuel
  ·rw[uw h2]at U;cases U;refine gO T Tryz.func9 λC hC=>?_
   repeat' first|refine gG ?_|exact gD|(exfalso;simp only[u0,uq,uu]at *; omega)|refine gB ?_ ?_<;>intro h|refine gC hG ?_|refine ze ?_
   all_goals exact zi ⟨.inl rfl,id,_,rfl,zpb,trivial,rfl,rfl⟩
  rw[ur h2]at U;by_cases h3:2000<l.length
  ·rw[uw h3]at U;cases U;refine gO T Tryz.func9 λC hC=>?_
   repeat' first|refine gG ?_|exact gD|(exfalso;simp only[uO,uq,uu,uk]at h;omega)|refine gB ?_ ?_<;>intro h|refine gC hG ?_|refine ze ?_
   all_goals exact zi ⟨.inl rfl,id,_,rfl,zpb,trivial,rfl,rfl⟩
  rw[ur h3]at U;obtain⟨hcw,hv⟩:=vG h1;obtain⟨hd,hf⟩:=ztl hcw;obtain⟨hs,hw⟩:=jj hd hv;have hCp:=zjB m hs.g hs.n hs.f;refine gO T Tryz.func9 λC hC=>?_
  repeat' first|refine gG ?_|exact gD|(exfalso;simp only[uO,uq,uu,uk]at h;omega)|refine gB ?_ ?_<;>intro h|refine gC hG ?_|refine gR hCp (nm [101,107,108]) ?_|refine ze ?_
  refine zeG rfl (zjY m 101 107 108) rfl [] uh [(1005,.box ((yS m).map V.p))] ⟨⟨_,rfl,rfl,LnR.box (.cons (LnV.ar (.head _)) (.cons (LnV.vw (ids:=[108]) (rows:=wRows m.n 0) (.tail _ (.head _)) (by rw[uk,yq]) (zbu _) (zrF _ 108 m.n (.tail _ (.tail _ (.head _))))) (zjX.refl _)))⟩,uh⟩ ?_;refine gA 140 4 [(12,.one (.ar 140))] [] ?_;rw[uk]
  refine zn (λq:Nat×List EnT×Hp=>q.1<=l.length/\q.2.1.length=q.1/\wS d q.2.2=true/\(audF (λm c=>entE d m g c fuel) (l.drop q.1) q.2.2).map (λr=>if r.2.2=0 then(q.2.1++r.1,r.2)else r)=some (xs,om,e)) (auT d l fuel) (λq=>l.length - q.1) hC
   (0,[],m) ⟨uE _,rfl,h1,?_⟩ id gM ?_
  ·simp only[oq]
   replace U:audF (λm c=>entE d m g c fuel) l m=some (xs,om,e):=U
   rw[U];simp
  clear U h1 hv hs hw hCp hG;rintro⟨i,ys,m1⟩ ⟨hi,hyl,h1,J⟩;simp only at hi hyl h1 J;change Goal _ _ _ _ _ [(3,I fuel),(4,.one (.bx 1004 0)),(5,.one (.bx 1005 0)),(9,.one (.bx 1009 0)),(12,.one (.ar 140)),(40,pS (vS l)),(41,I l.length),(42,I (i:Int))] (auT d l fuel (i,ys,m1)).2 _;refine zm T hC true 200 rfl ?_;refine zp rfl ?_ ?_<;>intro h
  ·have hlt:i<l.length:=by simpa using h
   clear h;obtain⟨c,hc⟩:=zb hlt;rw[drop_at hc]at J;obtain⟨x,ox,er,hE,hcase⟩:=zmh J;have hX:=zsu h1 hE;rcases hcase with⟨m2,rfl,rfl,hnx⟩|⟨he,hq⟩|⟨rfl,he⟩
   ·have h1':=zuL h1 hE;have happ:ys.map enR++[enR x]=(ys++[x]).map enR:=by rw[u6];rfl
    repeat' first|refine gG ?_|exact gD|refine gB ?_ ?_<;>intro h|(refine gI T (zq hc) ?_)|refine gC hX ?_|refine gT ?_|refine zl ?_|(refine gY T 141 ((ys++[x]).map enR) 32 ?_)
    rw[wrapN ua];exact zh (i+1,ys++[x],m2) ⟨by simp only;omega,by simp only[uP,uU];omega,h1',hnx⟩ (ms [(140,141)]) (by simp only;omega) ⟨rfl,⟨rfl,rfl,rfl,rfl,rfl,rfl,rfl,rfl,uh⟩,⟨rfl,rfl,rfl,rfl,uh⟩,rfl,xc rfl⟩
   ·cases hq
    repeat' first|refine gG ?_|exact gD|(exfalso;simp[he]at h;done)|refine gB ?_ ?_<;>intro h|(refine gI T (zq hc) ?_)|refine gC hX ?_|refine zl ?_
    exact zi ⟨.inl rfl,id,_,rfl,zpb,trivial,rfl,rfl⟩
   ·exact absurd he (zmi hE)
  ·have hge: ¬i<l.length:=by simpa using h
   clear h;rw[uC ua,audF]at J;simp only[uH,uX,uV,ui,uz]at J;obtain⟨rfl,rfl,rfl⟩:=J
   repeat' first|refine gG ?_|refine gB ?_ ?_<;>intro h|refine ze ?_
   refine gZ 140 [(8,pS (enL ys))] [] ?_;exact gF
def zql(d:zg)(m:Hp):Bool:= !zkV d&& !zge m&&decide ((m.n.length:Int)<=40)
theorem zit(d:zg)(m:Hp):zf Tryz.prog 7 [zr (zA d),zr (yS m)] [] (.bq (zql d m)) []:=by
 have J:=zoc d;have h2:=zq6 m;unfold zql;rw[show(m.n.length:Int)=((m.n.map xL).length:Int) by rw[uk]];generalize zkV d=g at J⊢;generalize zge m=w at h2⊢;refine gO T Tryz.func7 λC hC=>?_
 repeat' first|refine gG ?_|refine gB ?_ ?_<;>intro h|refine gC J ?_|refine gC h2 ?_|refine gQ ?_|refine gL ?_
 all_goals (try simp only[uk]at*)
 all_goals simp_all
def zmj(c:Cl):Bool:=decide (100<(c.p.size:Int))||decide (20<(c.a.length:Int))
theorem zmk(c:Cl):zf Tryz.prog 27 [zr (yy c)] [] (.bq (zmj c)) []:=by
 unfold zmj;refine gO T Tryz.func27 λC hC=>?_
 repeat' first|refine gG ?_|refine gB ?_ ?_<;>intro h|refine gQ ?_|refine gL ?_
 all_goals (try simp only[uk]at*)
 all_goals (simp_all<;>(try omega))
section
variable {f:FuncId} {l:List Cl} {p:Cl->Bool} (hf: ∀x∈l,zf Tryz.prog f [zr (yy x)] [] (.bq (p x)) [])
include hf
theorem zsv:zf Tryz.prog 48 [pS (vS l),.one (.cl f [] [])] [] (I (ixB p l 0)) []:=by
 refine gO T Tryz.func48 λC hC=>?_;refine wi 0 rfl λhl=>?_;rw[uk]at hl
 repeat' first|refine gG ?_|refine gB ?_ ?_<;>intro h
 rw[uk];refine zn (λi:Nat=>i<=l.length/\ixB p (l.drop i) i=ixB p l 0) (λi=>([(0,pS (vS l)),(1,.one (.cl f [] [])),(7,I l.length),(8,I i)],[])) (λi=>l.length - i) hC 0 ⟨uE _,rfl⟩ id gM ?_;generalize ixB p l 0=res;rintro i ⟨hi,J⟩;change Goal _ _ _ _ _ [_,_,_,_] [] _;refine zm T hC true 200 rfl ?_;refine zp rfl ?_ ?_<;>intro U
 ·have hlt:i<l.length:=by simpa using U
  clear U;obtain⟨x,hx⟩:=zb hlt;rw[drop_at hx]at J;simp only[ixB]at J
  repeat' first|refine gG ?_|refine gB ?_ ?_<;>intro h|refine gI T (zq hx) ?_|refine gR (hf x (uv hx)) id ?_|refine zl ?_
  ·rw[uw uf]at J;subst J;exact gF
  ·have hpf:p x=false:=by assumption
   rw[hpf]at J;simp only[uB,uM]at J;rw[wrap64 ua];exact zh (i+1) ⟨ua,J⟩ id ua gM
 ·have hge: ¬i<l.length:=by simpa using U
  rw[uC ua]at J;simp only[ixB]at J;subst J
  repeat' first|refine gG ?_|refine gB ?_ ?_<;>intro h|refine ze ?_
  exact gF
theorem zsw:zf Tryz.prog 26 [pS (vS l),.one (.cl f [] [])] [] (.bq (l.any p)) []:=by
 have J:=zsv hf;refine gO T Tryz.func26 λC hC=>?_
 repeat' first|refine gG ?_|refine gB ?_ ?_<;>intro h|refine gR J (nm []) ?_
 exact zi ⟨.inl rfl,id,_,rfl,.qq (zgl p l 0),trivial,rfl,rfl⟩
end
def zbc(l:List Cl)(n:Int):Bool:=(decide ((l.length:Int)<=n)||(decide (2000<(l.length:Int))&&decide ((l.length:Int)<2005)))&& !l.any zmj
theorem zby(l:List Cl)(n:Int):zf Tryz.prog 8 [pS (vS l),I n] [] (.bq (zbc l n)) []:=by
 have J:=zsw (f:=27) (l:=l) (p:=zmj) λx _=>zmk x
 unfold zbc;generalize l.any zmj=w at J⊢;refine gO T Tryz.func8 λC hC=>?_
 repeat' first|refine gG ?_|refine gB ?_ ?_<;>intro h|refine gC J ?_|refine gQ ?_|refine gL ?_
 all_goals (try simp only[uk]at*)
 all_goals (simp_all<;>(try omega))
def zuM(x:EnT):List Sc:=[.i .i64 x.ac,.i .i64 x.be,.i .i64 x.af,.i .i64 x.bo]
theorem ziu{a b:EnT}:zuM a=zuM b↔a=b:=by
 constructor
 ·intro h;obtain⟨a1,a2,a3,a4⟩:=a;obtain⟨b1,b2,b3,b4⟩:=b;simpa [zuM]using h
 ·intro h;rw[h]
instance:DecidableEq EnT:=λ_ _=>decidable_of_iff _ ziu
variable {i:Nat}{α:Type}{y:α}
theorem zwQ{a b:List α}{x:α}(h:a.take i=b.take i)(J:a[i]?=some x)(U:b[i]?=some y):(x=y->a.take (i+1)=b.take (i+1))/\(¬x=y-> ¬a=b):=by
 refine⟨λe=>?_,λe h=>e ?_⟩
 ·rw[qc,qc,h,J,U,e]
 ·rw[h,U]at J;cases J;rfl
theorem zsx(a b:List EnT):zf Tryz.prog 11 [pS (enL a),pS (enL b)] [] (.bq (decide (a=b))) []:=by
 by_cases J:a.length=b.length
 ·refine gO T Tryz.func11 λC hC=>?_;refine wi 0 rfl λhl=>?_;rw[uk]at hl
  repeat' first|refine gG ?_|(exfalso;simp[J]at h;done)|refine gB ?_ ?_<;>intro h
  rw[uk];refine zn (λi:Nat=>i<=a.length/\a.take i=b.take i) (λi=>([(0,pS (enL a)),(1,pS (enL b)),(12,I a.length),(13,I i)],[])) (λi=>a.length - i) hC 0 ⟨uE _,rfl⟩ id gM ?_;rintro i ⟨hi,U⟩;change Goal _ _ _ _ _ [_,_,_,_] [] _;refine zm T hC true 200 rfl ?_;refine zp rfl ?_ ?_<;>intro hh
  ·have hlt:i<a.length:=by simpa using hh
   clear hh;obtain⟨x,hx⟩:=zb hlt;obtain⟨y,hy⟩:=zb (l:=b) (i:=i) ua;obtain⟨e1,e2⟩:=zwQ U hx hy
   repeat' first|refine gG ?_|refine gB ?_ ?_<;>intro h|refine gI T (zq hx) ?_|refine gI T (zq hy) ?_|(refine zwe hC [.i .i64,.i .i64,.i .i64,.i .i64] (zuM x) (zuM y) rfl rfl ud ud rfl rfl ud rfl rfl ?_)|refine zl ?_
   ·have: ¬x=y:=λe=>by rw[e]at h;simp at h
    rw[uF (e2 this)];exact gL rfl
   ·have:x=y:=ziu.1 (by simpa using h);rw[wrap64 ua];exact zh (i+1) ⟨ua,e1 this⟩ id ua gM
  ·have hge: ¬i<a.length:=by simpa using hh
   have:a=b:=by rw[uQ ua,uQ ua]at U;exact U
   rw[uT this]
   repeat' first|refine gG ?_|refine gB ?_ ?_<;>intro h|refine ze ?_
   exact gL rfl
 ·rw[uF (λe=>J (by rw[e]))];refine gO T Tryz.func11 λC hC=>?_
  repeat' first|refine gG ?_|(exfalso;simp at h;omega)|refine gB ?_ ?_<;>intro h|refine ze ?_
  exact gL rfl
set_option maxRecDepth 100000 in
theorem zml(m:Nat)(h:m<=1000000):zf Tryz.prog 32 [.one (.p (.k (.slice none 0 0))),I m] [] (.one (.ar 0)) [(0,.arr 4 [])]:=by
 have J:IntKind.i64.wrap ((m:Int) - IntKind.i64.wrap (0 - 0))=m:=by rw[show IntKind.i64.wrap (0 - 0)=0 from rfl,wrap64 ua];omega
 by_cases U:m=0
 ·refine gO T Tryz.func32 λC hC=>?_
  repeat' first|refine gG ?_|(exfalso;rw[J]at h;have h1:=uj h;omega)|(exfalso;first|(have U:=uj h;omega)|(have U:=uo h;omega))|refine gB ?_ ?_<;>intro h|(refine zh8 T hC rfl rfl rfl rfl ?_)
  refine gA 101 4 [(4,.one (.ar 101))] [] ?_;exact gW [101]
 ·refine gO T Tryz.func32 λC hC=>?_
  repeat' first|refine gG ?_|(exfalso;rw[J]at h;have h1:=uo h;omega)|(exfalso;first|(have U:=uj h;omega)|(have U:=uo h;omega))|refine gB ?_ ?_<;>intro h|(refine zh8 T hC rfl rfl rfl rfl ?_)|(refine zum T hC rfl rfl rfl rfl rfl ?_)|(rw[J];refine gA 101 4 [(20,.one (.ar 101))] [] ?_;refine zar T 102 hC (id:=101) (rows:=[]) (row:=enR ⟨0,0,0,0⟩) (bytes:=32) (List.replicate m (enR ⟨0,0,0,0⟩)) rfl rfl rfl rfl rfl rfl rfl rfl rfl ud (by simp only[tS];omega) (by simp only[tS];omega) rfl rfl rfl ?_)|(refine zgG T 103 hC (rows':=[]) rfl rfl rfl rfl ub ue rfl rfl rfl rfl ?_)
  exact gW [103]
def zv7(ls:List (List EnT)):PV:= .sl 1 (ls.map λl=>[enL l])
theorem zg2(ls:List (List EnT))(hn:ls.length<=1000)(ht:ls.flatten.length<=1000000):zf Tryz.prog 12 [pS (zv7 ls)] [] (pS (enL ls.flatten)) []:=by
 have J: ∀i,(ls.take i).flatten.length<=1000000:=λi=>by
  have:ls.flatten=(ls.take i).flatten++(ls.drop i).flatten:=by rw[<-tX,tH]
  rw[this,uP]at ht;omega
 have hsn: ∀ {i:Nat} {l:List EnT},ls[i]?=some l->(ls.take (i+1)).flatten=(ls.take i).flatten++l:=λh=>by rw[yc h,tX];simp
 refine gO T Tryz.func12 λC hC=>?_
 repeat' first|refine gG ?_|refine gB ?_ ?_<;>intro h
 rw[uk]
 refine zn (λi:Nat=>i<=ls.length) (λi=>([(0,pS (zv7 ls)),(9,pS (zv7 ls)),(10,I ls.length),(11,I i),(3,I (ls.take i).flatten.length)],[])) (λi=>ls.length - i) hC
  0 (uE _) id gM ?_
 intro i hi;refine zm T hC true 200 rfl ?_;refine zp rfl ?_ ?_<;>intro h
 ·have U:i<ls.length:=by simpa using h
  clear h;obtain⟨l,hl⟩:=zb U;have h1:=J i;have h2:=J (i+1);have h3:=hsn hl;have hll:((ls.take i).flatten.length:Int)+l.length=((ls.take (i+1)).flatten.length:Nat):=by rw[h3,uP];omega
  have hw1:IntKind.i64.wrap (((ls.take i).flatten.length:Int)+((l.map enR).length:Nat))=((ls.take (i+1)).flatten.length:Nat):=by rw[uk,hll,wrap64 ua]
  repeat' first|refine gG ?_|(exfalso;rw[hw1]at h;have h5:=uj h;omega)|refine gB ?_ ?_<;>intro h|(refine xX T hC (row:=[enL l]) rfl rfl rfl (uD _) (by simp only[u7,uK,hl];rfl) rfl rfl ?_)
  rw[wrapN ua,hw1];exact zh (i+1) ua id ua gM
 ·have hge: ¬i<ls.length:=by simpa using h
  clear h;rw[uQ ua];have hG:=zml ls.flatten.length ht
  repeat' first|refine gG ?_|refine gB ?_ ?_<;>intro h|refine ze ?_|refine gR hG (nm [140]) ?_
  rw[uk]
  refine zn (λi:Nat=>i<=ls.length) (λi=>([(25,pS (zv7 ls)),(26,I ls.length),(27,I i),(6,.one (.ar 150))],[(150,some (.arr 4 ((ls.take i).flatten.map enR)))])) (λi=>ls.length - i) hC
   0 (uE _) (ms [(150,140)]) ⟨rfl,⟨rfl,rfl,rfl,rfl,uh⟩,⟨rfl,uh⟩,rfl,xc rfl⟩ ?_
  clear hi hge hG;clear i;intro i hi;refine zm T hC true 200 rfl ?_;refine zp rfl ?_ ?_<;>intro h
  ·have U:i<ls.length:=by simpa using h
   clear h;obtain⟨l,hl⟩:=zb U;have h1:=J (i+1);have h3:=hsn hl;have hll:(ls.take i).flatten.length+l.length=(ls.take (i+1)).flatten.length:=by rw[h3,uP]
   have happ:(ls.take i).flatten.map enR++l.map enR=(ls.take (i+1)).flatten.map enR:=by rw[h3,u6]
   repeat' first|refine gG ?_|refine gB ?_ ?_<;>intro h|(refine xX T hC (row:=[enL l]) rfl rfl rfl (uD _) (by simp only[u7,uK,hl];rfl) rfl rfl ?_)|(refine gY T 151 ((ls.take (i+1)).flatten.map enR) 32 ?_)
   rw[wrapN ua];exact zh (i+1) ua (ms [(150,151)]) ua ⟨rfl,⟨rfl,rfl,rfl,rfl,uh⟩,⟨rfl,uh⟩,rfl,xc rfl⟩
  ·have hge: ¬i<ls.length:=by simpa using h
   clear h;rw[uQ ua];refine gZ 150 [(6,pS (enL ls.flatten))] [] ?_
   repeat' first|refine gG ?_|refine gB ?_ ?_<;>intro h|refine ze ?_
   exact gF
theorem zfy(a b:List EnT)(ha:a.length<=500000)(hb:b.length<=500000):zf Tryz.prog 12 [pS (.sl 1 [[enL a],[enL b]])] [] (pS (enL (a++b))) []:=by
 have h:=zg2 [a,b] ue ug;rw[show [a,b].flatten=a++b by simp]at h;exact h
mutual
def szE:Ex->Nat
 | .mk _ _ _ l=>1+szL l
def szL:List Ex->Nat
 | []=>0
 |x::r=>szE x+szL r
end
mutual
def okE:Ex->Prop
 | .mk op n s l=>vU (.mk op n s l)=true/\okL l
def okL:List Ex->Prop
 | []=>True
 |x::r=>okE x/\okL r
end
mutual
theorem jk: ∀(e:Ex) (d:Int),countS e d<=1000->okE e/\(szE e:Int)<=countS e d
 | .mk op n s l,d,h=>by
   simp only[countS]at h⊢;split at h
   ·omega
   ·rename_i hh;rw[ur hh];simp only[uO,uy,oX,qD]at hh;obtain⟨h1,h2⟩:=zfz l d 1 ua ua h;refine⟨⟨hh.2,h1⟩,?_⟩;simp only[szE];omega
theorem zfz: ∀(l:List Ex) (d n:Int),1<=n->n<=1000->countL l d n<=1000->okL l/\n+(szL l:Int)<=countL l d n
 | [],d,n,_,_,h=>⟨uh,by simp only[countL,szL];omega⟩
 |x::r,d,n,h0,hn,h=>by
  simp only[countL]at h⊢;split at h
  ·omega
  ·rename_i hh;rw[ur hh];have hb:=(wc x (d+1)).1;obtain⟨h3,h4⟩:=zfz r d _ ua ua h;obtain⟨h1,h2⟩:=jk x (d+1) ua;refine⟨⟨h1,h3⟩,?_⟩;simp only[szL];omega
end
theorem zqm: ∀ {l:List Ex} {i:Nat} {x:Ex},okL l->l[i]?=some x->okE x
 | [],_,_,_,h=>by simp at h
 |y::r,0,x,h,hx=>by simp only[List.getElem?_cons_zero,ui]at hx;subst hx;exact h.1
 |y::r,i+1,x,h,hx=>by simp only[uZ]at hx;exact zqm h.2 hx
theorem ziv: ∀ {l:List Ex} {i:Nat} {x:Ex},l[i]?=some x->szE x<=szL l
 | [],_,_,h=>by simp at h
 |y::r,0,x,hx=>by simp only[List.getElem?_cons_zero,ui]at hx;subst hx;simp only[szL];omega
 |y::r,i+1,x,hx=>by simp only[uZ]at hx;have:=ziv hx;simp only[szL];omega
def nmT(d:zg)(ns:List Nd)(v:Int):Str:=((ns[(v - 1).toNat]?).bind λx=>(d.types[x.t.toNat]?).map (·.n)).getD (⟨#[]⟩:UB)
def VT(d:zg)(ns:List Nd)(t:Str)(v:Int):Prop:=
 if t=(⟨#[105,110,116]⟩:UB)then inB v else if t=(⟨#[98,111,111,108]⟩:UB)then v=0\/v=1 else if t=(⟨#[110,105,108]⟩:UB)then v=0 else v=0\/(0<v/\v<=ns.length/\nmT d ns v=t)
def Xt(ns ns':List Nd):Prop:=ns.length<=ns'.length/\ ∀(i:Nat) x,ns[i]?=some x-> ∃x',ns'[i]?=some x'/\x'.t=x.t
theorem Xt.refl(ns:List Nd):Xt ns ns:=⟨uJ _,λi x h=>⟨x,h,rfl⟩⟩
theorem Xt.trans{a b c:List Nd}(J:Xt a b)(h2:Xt b c):Xt a c:=⟨tQ J.1 h2.1,λi x h=>by
 obtain⟨y,U,e1⟩:=J.2 i x h;obtain⟨z,hz,e2⟩:=h2.2 i y U
 simp_all⟩
variable {ns:List Nd}{t:Str}
theorem VT.mono{ns':List Nd}{v:Int}(h:VT d ns t v)(U:Xt ns ns'):VT d ns' t v:=by
 unfold VT at h⊢;split
 ·simp_all
 rename_i h1;rw[ur h1]at h;split
 ·simp_all
 rename_i h2;rw[ur h2]at h;split
 ·simp_all
 rename_i h3;rw[ur h3]at h;rcases h with h|⟨h4,h5,h6⟩
 ·exact .inl h
 ·right;refine⟨h4,by have:=U.1;omega,?_⟩;obtain⟨x,J⟩: ∃x,ns[(v - 1).toNat]?=some x:=zb ua;obtain⟨x',h7,h8⟩:=U.2 _ x J;unfold nmT at h6⊢
  simp_all
theorem VT.zero(d:zg)(ns:List Nd)(t:Str):VT d ns t 0:=by
 unfold VT;split
 ·exact⟨ub,ub⟩
 simp_all
theorem VT.inB{d:zg}{ns:List Nd}{t:Str}{v:Int}(h:VT d ns t v)(hn:ns.length<=4096):Gm.inB v:=by
 unfold VT at h;unfold Gm.inB;split at h
 ·exact h
 grind
theorem VT.int{v:Int}:VT d ns (⟨#[105,110,116]⟩:UB) v↔Gm.inB v:=by unfold VT;rw[uw rfl]
theorem VT.bool{v:Int}:VT d ns (⟨#[98,111,111,108]⟩:UB) v↔v=0\/v=1:=by unfold VT;simp_all
theorem VT.nil{v:Int}:VT d ns (⟨#[110,105,108]⟩:UB) v↔v=0:=by unfold VT;simp_all
theorem VT.fits{a b:Str}{v:Int}(h:VT d ns a v)(hf:yw d a b=true):VT d ns b v:=by
 unfold yw at hf;simp only[uO,um,uq]at hf;rcases hf with rfl|⟨rfl,_⟩
 ·exact h
 ·rw[VT.nil]at h;subst h;exact VT.zero d ns b
structure TyD (d:zg):Prop where
 nm: ∀t∈d.types,¬t.n=(⟨#[105,110,116]⟩:UB)/\ ¬t.n=(⟨#[98,111,111,108]⟩:UB)/\ ¬t.n=(⟨#[110,105,108]⟩:UB)
 un: ∀(i j:Nat) a b,d.types[i]?=some a->d.types[j]?=some b->a.n=b.n->i=j
theorem VT.node{v:Int}(hd:TyD d)(h:VT d ns t v)(U:yK d t=true)(h0: ¬v=0):0<v/\v<=ns.length/\nmT d ns v=t:=by
 unfold yK zgJ at U;rw[oo]at U;obtain⟨x,hx,J⟩:=U;have J:=uj J;obtain⟨n1,n2,n3⟩:=hd.nm x hx;rw[J]at n1 n2 n3;unfold VT at h
 simp_all
structure MT (d:zg) (g:List Int) (ns:List Nd):Prop where
 gl:g.length=d.globals.length
 gt: ∀(i:Nat) f v,d.globals[i]?=some f->g[i]?=some v->VT d ns f.t v
 nd: ∀x∈ns,0<=x.t/\ ∃y,d.types[x.t.toNat]?=some y/\y.f.length=x.f.length/\ ∀(i:Nat) f v,y.f[i]?=some f->x.f[i]?=some v->VT d ns f.t v
 nl:ns.length<=4096
structure FT (d:zg) (ns:List Nd) (fr:Fr):Prop where
 len:fr.va.length=fr.vs.length
 ty: ∀(i:Nat) f v,fr.vs[i]?=some f->fr.va[i]?=some v->VT d ns f.t v
theorem FT.mono{d:zg}{ns ns':List Nd}{fr:Fr}(h:FT d ns fr)(J:Xt ns ns'):FT d ns' fr:=⟨h.len,λi f v U h2=>(h.ty i f v U h2).mono J⟩
def Ph(m:Mc):Int:=m.acc.length+m.comps - 5000*m.ticks
structure MO (d:zg) (fuel:Int) (m:Mc):Prop where
 mt:MT d m.g m.ns
 t0:0<=m.ticks
 t1:m.ticks<=fuel
 c0:0<=m.calls
 c1:m.calls<=200
 p0:0<=m.comps
structure PE (d:zg) (fuel:Int) (m m':Mc) (s:Int):Prop where
 mo:MO d fuel m'
 ex:Xt m.ns m'.ns
 ca:m'.calls=m.calls
 ti:m.ticks<=m'.ticks
 ph:Ph m'<=Ph m+s
theorem PE.refl{d:zg}{fuel:Int}{m:Mc}{s:Int}(h:MO d fuel m)(hs:0<=s):PE d fuel m m s:=⟨h,Xt.refl _,rfl,qt _,ua⟩
theorem PE.trans{d:zg}{fuel:Int}{a b c:Mc}{s t:Int}(J:PE d fuel a b s)(h2:PE d fuel b c t):PE d fuel a c (s+t):=
 ⟨h2.mo,J.ex.trans h2.ex,h2.ca.trans J.ca,Int.le_trans J.ti h2.ti,by have:=J.ph;have:=h2.ph;omega⟩
theorem PE.le{a b:Mc}{s t:Int}(h:PE d fuel a b s)(hs:s<=t):PE d fuel a b t:=⟨h.mo,h.ex,h.ca,h.ti,by have:=h.ph;omega⟩
def QE(d:zg)(fuel:Int)(m:Mc)(s:Int)(V:Mc->α->Prop):An α->Prop
 | .ok v m'=>PE d fuel m m' s/\V m' v
 | .flt _ m'=>MO d fuel m'/\Ph m'<=Ph m+s
 | .out=>False
def Ev(f:Nat->An α)(Q:An α->Prop):Prop:= ∃k0 r,Q r/\ ∀k,k0<=k->f k=r
theorem Ev.const{r:An α}{Q:An α->Prop}(h:Q r):Ev (λ_=>r) Q:=⟨0,r,h,λ_ _=>rfl⟩
theorem Ev.succ{f g:Nat->An α}{Q:An α->Prop}(h:Ev g Q)(hfg: ∀k,f (k+1)=g k):Ev f Q:=by
 obtain⟨k0,r,J,hk⟩:=h;refine⟨k0+1,r,J,λk hk'=>?_⟩;obtain⟨j,rfl⟩: ∃j,k=j+1:=⟨k - 1,ua⟩
 simp_all
theorem Ev.congr{f g:Nat->An α}{Q:An α->Prop}(h:Ev g Q)(hfg: ∀k,f k=g k):Ev f Q:=by
 obtain⟨k0,r,J,hk⟩:=h;exact⟨k0,r,J,λk hk'=>by simp_all⟩
theorem Ev.imp{f:Nat->An α}{Q Q':An α->Prop}(h:Ev f Q)(J: ∀r,Q r->Q' r):Ev f Q':=by
 obtain⟨k0,r,U,hk⟩:=h;exact⟨k0,r,J r U,hk⟩
theorem Ev.bind{α β:Type}{d:zg}{fuel:Int}{m:Mc}{s t u:Int}{V:Mc->α->Prop}{W:Mc->β->Prop}{f:Nat->An α}{g:Nat->α->Mc->An β}(h:Ev f (QE d fuel m s V))(hst:s+t<=u)(ht:0<=t)
 (hg: ∀v m1,PE d fuel m m1 s->V m1 v->Ev (λk=>g k v m1) (QE d fuel m1 t W)):Ev (λk=>(f k).bind (g k)) (QE d fuel m u W):=by
 obtain⟨k0,r,U,hk⟩:=h;cases r with
 |out=>exact U.elim
 |flt e m1=>exact⟨k0,.flt e m1,⟨U.1,by have:=U.2;omega⟩,λk hk'=>by simp only[hk k hk'];rfl⟩
 |ok v m1=>
  obtain⟨k1,r2,J,hk2⟩:=hg v m1 U.1 U.2;refine⟨max k0 k1,r2,?_,λk hk'=>by simp only[hk k ua];exact hk2 k ua⟩;cases r2 with
  |out=>exact J.elim
  |flt e m2=>exact⟨J.1,by have:=J.2;have:=U.1.ph;omega⟩
  |ok w m2=>exact⟨(U.1.trans J.1).le hst,J.2⟩
theorem vI{α:Type}(p:α->Bool): ∀l:List α,(l.find? p=none/\l.findIdx? p=none)\/ ∃i x,l.findIdx? p=some i/\l[i]?=some x/\l.find? p=some x
 | []=> .inl ⟨rfl,rfl⟩
 |y::r=>by
  cases h:p y with
  |true=>grind
  |false=>
   rcases vI p r with⟨J,h2⟩|⟨i,x,J,h2,h3⟩
   ·simp_all
   grind
theorem jX{l:List Fld}{s:Str}(h:look l s=some t): ∃i f,ixF l s=some i/\l[i]?=some f/\f.t=t:=by
 unfold look at h;rcases vI (λf:Fld=>decide (f.n=s)) l with⟨J,_⟩|⟨i,x,J,h2,h3⟩
 ·simp_all
 ·rw[h3]at h;simp only[uH,ui]at h;exact⟨i,x,J,h2,h⟩
theorem zsy{l:List Fld}{s:Str}(h:look l s=none):ixF l s=none:=by
 unfold look at h;rcases vI (λf:Fld=>decide (f.n=s)) l with⟨_,J⟩|⟨i,x,J,h2,h3⟩
 ·exact J
 simp_all
theorem zd7{a b:List Fld}{s:Str}(h:look (a++b) s=some t):(∃i f,ixF a s=some i/\a[i]?=some f/\f.t=t)\/(ixF a s=none/\ ∃i f,ixF b s=some i/\b[i]?=some f/\f.t=t):=by
 cases ha:look a s with
 |some u=>
  left
  have:look (a++b) s=some u:=by
   unfold look at ha⊢;rw[qW];cases hf:a.find? (λf=>decide (f.n=s))with
   |none=>rw[hf]at ha;cases ha
   |some x=>rw[hf]at ha;simpa using ha
  rw[this]at h;cases h;exact jX ha
 |none=>
  right;refine⟨zsy ha,jX ?_⟩;unfold look at ha h⊢
  grind
variable {β:Type}
section
variable {m:Mc}
theorem MO.acc(J:MO d fuel m)(hf:fuel<=1048576)(U:Ph m<=20000000000):m.acc.length<1099511627776/\m.comps<1099511627776:=by
 have:=J.t1;have:=J.p0;have:=J.t0;unfold Ph at U;omega
theorem put_eq(J:MO d fuel m)(hf:fuel<=1048576)(U:Ph m<=20000000000)(k n f:Int)(c:Mc->An β):zct m k n f c=c { m with acc:=m.acc++[(k,n,f)] }:=by
 unfold zct ifA;rw[uw (J.acc hf U).1]
theorem zfA(J:MO d fuel m)(q:Int×Int×Int):PE d fuel m { m with acc:=m.acc++[q] } 1:=
 ⟨⟨J.mt,J.t0,J.t1,J.c0,J.c1,J.p0⟩,Xt.refl _,rfl,qt _,by simp only[Ph,uP,uU];omega⟩
theorem zwR(J:MO d fuel m)(hf:fuel<=1048576)(hp:Ph m<=20000000000){fr:Fr}(hF:FT d m.ns fr){s:Str}(h:look (fr.vs++d.globals) s=some t):QE d fuel m 1 (λm' v=>VT d m'.ns t v) (nmV d fr s m):=by
 unfold nmV;rcases zd7 h with⟨i,f,U,h2,h3⟩|⟨h0,i,f,U,h2,h3⟩
 ·rw[U];obtain⟨v,hv⟩: ∃v,fr.va[i]?=some v:=zb (by rw[hF.len];grind);simp only[atA,hv];exact⟨PE.refl J ua,by rw[<-h3];exact hF.ty i f v h2 hv⟩
 ·rw[h0,U];obtain⟨v,hv⟩: ∃v,m.g[i]?=some v:=zb (by rw[J.mt.gl];grind);simp only[opA,atA,hv,put_eq J hf hp];exact⟨zfA J _,by rw[<-h3];exact J.mt.gt i f v h2 hv⟩
theorem zg3{s:Str}{x:z7}(h:zgJ d s=some x): ∃i,zq0 d s=some i/\d.types[i]?=some x/\x.n=s:=by
 unfold zgJ at h;rcases vI (λt:z7=>decide (t.n=s)) d.types with⟨J,_⟩|⟨i,y,J,h2,h3⟩
 ·simp_all
 ·rw[h3]at h;cases h;have:=oG h3;exact⟨i,J,h2,by simpa using this⟩
theorem zjC{s:Str}{x:z7}(h:zgJ d s=some x):yK d s=true:=by unfold yK;rw[h];rfl
theorem zg4{g:List Int}(hd:TyD d)(hm:MT d g ns){v:Int}{x:z7}(hv:VT d ns t v)(ht:zgJ d t=some x)(h0: ¬v=0):
 ∃y,ns[(v - 1).toNat]?=some y/\(0<v/\v<=1000000)/\0<=y.t/\d.types[y.t.toNat]?=some x/\x.f.length=y.f.length/\ ∀(i:Nat) f u,x.f[i]?=some f->y.f[i]?=some u->VT d ns f.t u:=by
 obtain⟨h1,h2,h3⟩:=hv.node hd (zjC ht) h0;obtain⟨y,U⟩: ∃y,ns[(v - 1).toNat]?=some y:=zb ua;obtain⟨k0,z,k1,k2,k3⟩:=hm.nd y (uv U);obtain⟨i,_,J,hi3⟩:=zg3 ht;unfold nmT at h3;rw[U]at h3;simp only[ql,k1,uH,Option.getD_some]at h3;have hij:=hd.un _ _ _ _ k1 J (by rw[h3,hi3]);rw[hij,J]at k1;cases k1;have:=hm.nl;exact⟨y,U,⟨h1,ua⟩,k0,by simp_all,k2,k3⟩
theorem zaA{t1 s:Str}(h:fieldT d t1 s=(t,0)): ∃x,zgJ d t1=some x/\look x.f s=some t:=by
 unfold fieldT at h
 grind
theorem zwS(hd:TyD d)(J:MO d fuel m)(hf:fuel<=1048576)(hp:Ph m<=20000000000){t1 s:Str}{v:Int}(ht:fieldT d t1 s=(t,0))(hv:VT d m.ns t1 v):QE d fuel m 1 (λm' u=>VT d m'.ns t u) (fdV d v s m):=by
 unfold fdV;by_cases U:v=0
 ·rw[uw U];exact⟨J,ua⟩
 ·rw[ur U];obtain⟨x,hx,hl⟩:=zaA ht;obtain⟨y,h1,h2,h3,h4,h5,h6⟩:=zg4 hd J.mt hv hx U;obtain⟨i,f,hi,hif,hft⟩:=jX hl;obtain⟨u,hu⟩: ∃u,y.f[i]?=some u:=zb (by grind);unfold fdA ifA;rw[uw h2];simp only[atA,h1];rw[uw h3];simp only[h4,opA,hi,hu,put_eq J hf hp];exact⟨zfA J _,by rw[<-hft];exact h6 i f u hif hu⟩
theorem zwT(hd:TyD d)(htf: ∀x∈d.types,x.f.length<=1000000)(J:MO d fuel m)(hf:fuel<=1048576)(hp:Ph m<=20000000000){s:Str}(hs:yK d s=true):QE d fuel m 1 (λm' u=>VT d m'.ns s u) (nwV d s m):=by
 unfold nwV;by_cases h0:(m.ns.length:Int)≥4096
 ·rw[uw h0];exact⟨J,ua⟩
 ·rw[ur h0];obtain⟨x,hx⟩: ∃x,zgJ d s=some x:=Option.isSome_iff_exists.1 hs;obtain⟨i,hi1,U,hi3⟩:=zg3 hx;simp only[opA,hi1,atA,U,ifA];rw[uw (htf x (uv U))];have hxt:Xt m.ns (m.ns++[⟨(i:Int),List.replicate x.f.length 0⟩]):=⟨ue,λj y hj=>⟨y,by rw[tU (ux.1 hj).1];exact hj,rfl⟩⟩
  have hmt:MT d m.g (m.ns++[⟨(i:Int),List.replicate x.f.length 0⟩]):=by
   refine⟨J.mt.gl,λj f v h1 h2=>(J.mt.gt j f v h1 h2).mono hxt,λy hy=>?_,ug⟩;rcases tp.1 hy with hy|hy
   ·obtain⟨k0,z,k1,k2,k3⟩:=J.mt.nd y hy;exact⟨k0,z,k1,k2,λj f v h1 h2=>(k3 j f v h1 h2).mono hxt⟩
   ·simp only[tv]at hy;subst hy;refine⟨ue,x,by simpa using U,ue,λj f v h1 h2=>?_⟩;simp only[oc]at h2;split at h2
    ·cases h2;exact VT.zero _ _ _
    ·cases h2
  have hm2:MO d fuel { m with ns:=m.ns++[⟨(i:Int),List.replicate x.f.length 0⟩] }:=⟨hmt,J.t0,J.t1,J.c0,J.c1,J.p0⟩;rw[put_eq hm2 hf (by unfold Ph at hp ⊢; exact hp)];have hpe:=zfA hm2 (3,((m.ns.length+1:Nat):Int),(i:Int));refine⟨⟨hpe.mo,hxt,rfl,qt _,hpe.ph⟩,?_⟩;obtain⟨n1,n2,n3⟩:=hd.nm x (uv U);rw[hi3]at n1 n2 n3;unfold VT;rw[ur n1,ur n2,ur n3];right;refine⟨ua,ue,?_⟩;unfold nmT
  simp_all
theorem zd8(J:MO d fuel m)(n:Int):QE d fuel m 0 (λm' v=>VT d m'.ns (⟨#[105,110,116]⟩:UB) v) (vM m n):=by
 unfold vM;by_cases h:n>1099511627776\/n< -1099511627776
 ·rw[uw h];exact⟨J,ua⟩
 ·rw[ur h];exact⟨PE.refl J ua,VT.int.2 (by unfold Gm.inB;omega)⟩
theorem zuN{a b:Int}(h: ¬(¬a=0/\wW b>Int.tdiv 1099511627776 (wW a))):Gm.inB (a*b):=by
 unfold Gm.inB;by_cases J:a=0
 ·simp_all
 ·have U:wW b<=Int.tdiv 1099511627776 (wW a):=by
   by_cases hc:wW b>Int.tdiv 1099511627776 (wW a)
   ·exact absurd ⟨J,hc⟩ h
   ·omega
  have ea:wW a=(a.natAbs:Int):=by unfold wW;split<;>omega
  have eb:wW b=(b.natAbs:Int):=by unfold wW;split<;>omega
  have e:Int.tdiv 1099511627776 (a.natAbs:Int)=((1099511627776 / a.natAbs:Nat):Int):=by rw[show(1099511627776:Int)=((1099511627776:Nat):Int) from rfl];exact(Ut _ _).symm
  rw[ea,eb,e]at U;have h1:b.natAbs<=1099511627776 / a.natAbs:=by omega
  have h2:b.natAbs*a.natAbs<=1099511627776:=tQ (tD _ h1) (Nat.div_mul_le_self _ _);have h3:(a*b).natAbs<=1099511627776:=by rw[ot,Nat.mul_comm];exact h2
  omega
theorem zuO(hm:MO d fuel m){op a b:Int}(ha:Gm.inB a)(hb:Gm.inB b):QE d fuel m 0 (λm' v=>VT d m'.ns (⟨#[105,110,116]⟩:UB) v) (ztz m op a b):=by
 unfold ztz ifA;rw[uw ⟨ha,hb⟩];unfold znz;have ok: ∀v,Gm.inB v->QE d fuel m 0 (λm' v=>VT d m'.ns (⟨#[105,110,116]⟩:UB) v) (An.ok v m):=λv h=>⟨PE.refl hm ua,VT.int.2 h⟩
 have fl: ∀e,QE d fuel m 0 (λm' v=>VT d m'.ns (⟨#[105,110,116]⟩:UB) v) (An.flt e m):=λe=>⟨hm,ua⟩
 by_cases o9:op=9
 ·rw[uw o9];exact zd8 hm _
 rw[ur o9];by_cases J:op=10
 ·rw[uw J];exact zd8 hm _
 rw[ur J];by_cases U:op=11
 ·rw[uw U];by_cases h: ¬a=0/\wW b>Int.tdiv 1099511627776 (wW a)
  ·simp_all
  ·rw[ur h];exact ok _ (zuN h)
 rw[ur U];by_cases o12:op=12
 ·rw[uw o12];by_cases h:b=0
  ·simp_all
  ·rw[ur h];refine ok _ ?_;have:(Int.tdiv a b).natAbs<=a.natAbs:=by rw[Uj];exact oE _ _
   unfold Gm.inB at ha⊢;omega
 rw[ur o12];by_cases o13:op=13
 ·rw[uw o13];by_cases h:b=0
  ·simp_all
  ·rw[ur h];refine ok _ ?_;have:(Int.tmod a b).natAbs<=a.natAbs:=by rw[Uk];exact Nat.mod_le _ _
   unfold Gm.inB at ha⊢;omega
 grind
theorem xd(b:Bool):zcJ b=0\/zcJ b=1:=by cases b<;>simp[zcJ]
theorem zmm(J:MO d fuel m)(hf:fuel<=1048576)(U:Ph m<=20000000000)(b:Bool):QE d fuel m 1 (λm' v=>VT d m'.ns (⟨#[98,111,111,108]⟩:UB) v) (znA m b):=by
 unfold znA ifA;rw[uw ⟨J.p0,(J.acc hf U).2⟩];exact⟨⟨⟨J.mt,J.t0,J.t1,J.c0,J.c1,by have:=J.p0;grind⟩,Xt.refl _,rfl,qt _,by simp only[Ph];omega⟩,VT.bool.2 (xd b)⟩
end
theorem vJ{d:zg}{vs:List Fld}{b:Bool}: ∀ {l:List Ex} {ts:List Str},exsT d vs b l=(ts,0)->ts.length=l.length/\ ∀(i:Nat) x,l[i]?=some x->exT d vs b x=(lsA ts i,0)
 | [],ts,h=>by simp only[exsT,uz]at h;simp_all
 |y::r,ts,h=>by
  rw[exsT]at h;cases hy:exT d vs b y with
  |mk t e=>
   rw[hy]at h;simp only at h;by_cases U:e=0
   ·subst U;rw[uw rfl]at h;cases hr:exsT d vs b r with
    |mk us f=>
     rw[hr]at h;simp only[uz]at h;obtain⟨rfl,rfl⟩:=h;obtain⟨h1,h2⟩:=vJ hr;refine⟨by simp[h1],λi x J=>?_⟩;cases i with
     |zero=>simp only[List.getElem?_cons_zero,ui]at J;subst J;rw[hy];rfl
     |succ i=>simp only[uZ]at J;rw[h2 i x J];rfl
   simp_all
variable {b:Bool}
theorem zd9{vs:List Fld}{op n:Int}{s:Str}{l:List Ex}(h:exT d vs b (.mk op n s l)=(t,0)):
 ∃ts,exsT d vs b l=(ts,0)/\(op=7->vj d b s ts=(t,0)/\ ¬t=(⟨#[]⟩:UB))/\(¬op=7->zB d vs b op s ts=(t,0)):=by
 rw[exT]at h
 grind
variable {u:Str}
theorem zM{l:List Str}{r:Str}(h:zid l t r=(u,0)):u=r/\ ∀(i:Nat),i<l.length->lsA l i=t:=by
 unfold zid at h;split at h
 ·simp at h
 ·rename_i J;simp only[uz,qf]at h;refine⟨h.symm,λi U=>?_⟩;simp only[List.any_eq_true,not_exists,not_and]at J;have:=J l[i] (List.getElem_mem U);simp only[uy,uu,tP]at this;unfold lsA
  simp_all
variable {p:Pr}
theorem zmn{s:Str}(h:zeu d s=some p): ∃i,zaZ d s=some i/\d.procs[i]?=some p:=by
 unfold zeu at h;rcases vI (λp:Pr=>decide (p.n=s)) d.procs with⟨J,_⟩|⟨i,y,J,h2,h3⟩
 ·simp_all
 ·rw[h3]at h;cases h;exact⟨i,J,h2⟩
variable {ts:List Str}
theorem zfB{s:Str}(h:vj d true s ts=(t,0)): ∃p,zeu d s=some p/\ts.length=p.params.length/\(∀(i:Nat) f,p.params[i]?=some f->yw d (lsA ts i) f.t=true)/\p.res=t:=by
 unfold vj at h;rw[ur ub]at h;cases hp:zeu d s with
 |none=>simp_all
 |some p=>
  rw[hp]at h;simp only at h;by_cases J: ¬ts.length=p.params.length
  ·simp_all
  ·rw[ur J]at h;have J:ts.length=p.params.length:=tP.1 J;by_cases h2:(List.zip ts p.params).any (λq=> !yw d q.1 q.2.t)=true
   ·simp_all
   ·rw[ur h2]at h;simp only[uz,qf]at h;refine⟨p,rfl,J,λi f hf=>?_,h⟩;obtain⟨u,U⟩: ∃u,ts[i]?=some u:=zb (by grind);have hz:(List.zip ts p.params)[i]?=some (u,f):=by rw[tl];exact⟨U,hf⟩
    simp only[List.any_eq_true,not_exists,not_and]at h2;have:=h2 (u,f) (uv hz);unfold lsA
    simp_all
theorem zjD{e:Ex}(h:vU e=true):e.l.length<=6/\(e.op=5\/e.op=8\/e.op=18\/e.op=24->e.l.length=1)/\(e.op=21->e.l.length=3)/\(1<=e.op/\e.op<=24)/\
 (9<=e.op/\e.op<=17\/e.op=19\/e.op=20\/e.op=22\/e.op=23->e.l.length=2)/\(e.op=1->Gm.inB e.n)/\(e.op=2->e.n=0\/e.n=1):=by
 unfold vU at h;simp only[um,uy,uu,qS,uG,uq]at h;obtain⟨⟨⟨⟨J,h2⟩,h3⟩,_⟩,U⟩:=h;generalize e.op=op at J h2 h3 U⊢;have hp: ∀k:Int,zX op=k->0<=k->(e.l.length:Int)=k:=λk hk h0=>by omega
 have hop:1<=op/\op<=24:=by
  unfold zX at J;simp only[uO,um,uq]at J
  repeat' split at J
  all_goals omega
 refine⟨?_,λh=>?_,λh=>?_,hop,λh=>?_,λh=>?_,λh=>?_⟩
 ·by_cases h7:op=7
  ·subst h7;have:zX 7= -1:=rfl;omega
  ·have: ∃k:Int,zX op=k/\0<=k/\k<=3:=by
    unfold zX;simp only[uO,um,uq]
    repeat' split
    all_goals first
     |exact⟨_,rfl,ub,ub⟩
     |omega
   omega
 ·have:zX op=1:=by rcases h with rfl|rfl|rfl|rfl<;>rfl
  omega
 ·subst h;have:=hp 3 rfl ub;omega
 ·have:zX op=2:=by
   have:op=9\/op=10\/op=11\/op=12\/op=13\/op=14\/op=15\/op=16\/op=17\/op=19\/op=20\/op=22\/op=23:=by omega
   rcases this with rfl|rfl|rfl|rfl|rfl|rfl|rfl|rfl|rfl|rfl|rfl|rfl|rfl<;>rfl
  omega
 ·rw[uw h]at U;simp only[um,uq]at U;unfold Gm.inB;omega
 simp_all
theorem jl{op n:Int}{s:Str}{l:List Ex}(h:vU (.mk op n s l)=true):l.length<=6/\(op=5\/op=8\/op=18\/op=24->l.length=1)/\(op=21->l.length=3)/\(1<=op/\op<=24)/\
 (9<=op/\op<=17\/op=19\/op=20\/op=22\/op=23->l.length=2)/\(op=1->Gm.inB n)/\(op=2->n=0\/n=1):=zjD h
theorem zea{d:zg}{vs:List Fld}: ∀(e:Ex) (t:Str),okE e->exT d (vs++d.globals) true e=(t,0)->tyO d vs e=some t
 | .mk op n s l,t,hok,h=>by
   obtain⟨ts,h1,h7,J⟩:=zd9 h;obtain⟨hl,hat⟩:=vJ h1;obtain⟨_,k1,k3,kop,k2,_,_⟩:=jl hok.1;unfold tyO;by_cases o4:op=4
   ·rw[uw o4];have J:=J ua;subst o4;simp only[zB,show ¬(4:Int)=1 by decide,show ¬(4:Int)=2 by decide,show ¬(4:Int)=3 by decide,uM,uX]at J;cases hk:look (vs++d.globals) s with
    |none=>simp_all
    |some u=>
     rw[hk]at J;simp only[uz,qf]at J;subst J;rcases zd7 hk with⟨i,f,h1,h2,h3⟩|⟨h0,i,f,h1,h2,h3⟩
     ·simp_all
     simp_all
   rw[ur o4];by_cases o5:op=5
   ·rw[uw o5];have J:=J ua;have hl1:=k1 (.inl o5);subst o5
    match l,hl1,hok,hat,hl with
    | [x],_,hok,hat,hl=>
      have hx:=zea x _ hok.2.1 (hat 0 x rfl);simp only[hx,ql];simp only[zB,show ¬(5:Int)=1 by decide,show ¬(5:Int)=2 by decide,show ¬(5:Int)=3 by decide,show ¬(5:Int)=4 by decide,uM,uX]at J;obtain⟨y,hy,hlk⟩:=zaA J;obtain⟨i,hi1,hi2,_⟩:=zg3 hy;obtain⟨j,f,hj1,hj2,hj3⟩:=jX hlk;simp only[hi1,ql,hi2,hj1,hj2,uH,hj3]
   rw[ur o5];by_cases o6:op=6
   ·rw[uw o6];have J:=J ua;subst o6;simp only[zB,show ¬(6:Int)=1 by decide,show ¬(6:Int)=2 by decide,show ¬(6:Int)=3 by decide,show ¬(6:Int)=4 by decide,show ¬(6:Int)=5 by decide,uM,uX,qz]at J
    grind
   rw[ur o6];by_cases o7:op=7
   ·rw[uw o7];obtain⟨p,hp,_,_,hr⟩:=zfB (h7 o7).1;obtain⟨i,hi1,hi2⟩:=zmn hp
    simp_all
   rw[ur o7];have J:=J o7;by_cases o21:op=21
   ·rw[uw o21];have hl3:=k3 o21;subst o21
    match l,hl3,hok,hat,hl with
    | [x,y,z],_,hok,hat,hl=>
      have hy:=zea y _ hok.2.2.1 (hat 1 y rfl);have hz:=zea z _ hok.2.2.2.1 (hat 2 z rfl);simp only[hy,ql]
      simp only[zB,show ¬(21:Int)=1 by decide,show ¬(21:Int)=2 by decide,show ¬(21:Int)=3 by decide,show ¬(21:Int)=4 by decide,show ¬(21:Int)=5 by decide,show ¬(21:Int)=6 by decide,show ¬((21:Int)=14\/(21:Int)=15) by decide,
       show ¬((21:Int)=16\/(21:Int)=17) by decide,show ¬((21:Int)=18\/(21:Int)=19\/(21:Int)=20) by decide,uM,uX]at J
      split at J
      ·split at J
       ·rename_i hf;simp only[uz,qf]at J;subst J;by_cases U:lsA ts 1=(⟨#[110,105,108]⟩:UB)
        ·rw[uw U];exact hz
        ·rw[ur U];unfold yw at hf;simp only[uO,um,uq]at hf;rcases hf with hf|hf
         ·rw[hf]
         ·exact absurd hf.1 U
       ·rename_i hf1;split at J
        ·rename_i hf;simp only[uz,qf]at J;subst J;by_cases U:lsA ts 1=(⟨#[110,105,108]⟩:UB)
         ·exfalso;unfold yw at hf hf1;simp only[uO,um,uq]at hf hf1;rcases hf with hf|hf
          ·exact hf1 (.inl hf.symm)
          ·exact hf1 (.inl (by rw[U,hf.1]))
         ·rw[ur U]
        ·simp at J
      ·simp at J
   rw[ur o21];by_cases o3:op=3
   ·rw[uw o3];subst o3;simp[zB]at J;rw[J]
   rw[ur o3];by_cases ob:op=2\/op=18\/op=19\/op=20\/op=14\/op=15\/op=16\/op=17
   ·rw[uw ob];rcases ob with rfl|rfl|rfl|rfl|rfl|rfl|rfl|rfl
    ·simp[zB]at J;rw[J]
    ·simp[zB]at J;rw[(zM J).1]
    ·simp[zB]at J;rw[(zM J).1]
    ·simp[zB]at J;rw[(zM J).1]
    ·simp[zB]at J;grind
    ·simp[zB]at J;grind
    ·simp[zB]at J;rw[(zM J).1]
    ·simp[zB]at J;rw[(zM J).1]
   rw[ur ob];by_cases o1:op=1
   ·subst o1;simp[zB]at J;rw[J]
   ·unfold zB at J;rw[ur o1,ur ua,ur o3,ur o4,ur o5,ur o6,ur ua,ur ua,ur ua,ur o21]at J;rw[(zM J).1]
def HC(d:zg)(fuel C:Int):Prop:= ∀(p:Pr) (a:List Int) (m:Mc),p∈d.procs->a.length=p.params.length->(∀(i:Nat) f v,p.params[i]?=some f->a[i]?=some v->VT d m.ns f.t v)->MO d fuel m->m.calls=C->
 Ph m+4004*(199 - C)<=10000000000->Ev (λk=>rnV d fuel k p a m) (QE d fuel m 0 λm' v=>VT d m'.ns p.res v)
structure DE (d:zg) (fuel:Int):Prop where
 ty:TyD d
 tf: ∀x∈d.types,x.f.length<=1000000
 f0:0<=fuel
 f1:fuel<=1048576
def PX(d:zg)(fuel:Int)(fr:Fr)(C:Int)(e:Ex):Prop:= ∀t m,exT d (fr.vs++d.globals) true e=(t,0)->MO d fuel m->m.calls=C->FT d m.ns fr->
 Ph m+2*szE e+4004*(200 - C)<=10000004002->Ev (λk=>exV d fuel fr k e m) (QE d fuel m (2*szE e) λm' v=>VT d m'.ns t v)
variable {C:Int}
section
variable {fr:Fr} {m:Mc}
theorem Ev.pos{c:Prop}{_:Decidable c}{a b:Nat->An α}{Q:An α->Prop}(h:c)(e:Ev a Q):Ev (λk=>if c then a k else b k) Q:=e.congr λ_=>uw h
theorem Ev.neg{c:Prop}{_:Decidable c}{a b:Nat->An α}{Q:An α->Prop}(h: ¬c)(e:Ev b Q):Ev (λk=>if c then a k else b k) Q:=e.congr λ_=>ur h
theorem zg5{l:List Ex}{x:Ex}{Q:An Int->Prop}(J:l[i]?=some x)(h:Ev (λk=>exV d fuel fr k x m) Q):Ev (λk=>atA l i λy=>exV d fuel fr k y m) Q:=
 h.congr λk=>by simp only[atA,J]
theorem QE.le{α:Type}{s t:Int}{V W:Mc->α->Prop}(J:s<=t)(hv: ∀m' v,V m' v->W m' v): ∀r:An α,QE d fuel m s V r->QE d fuel m t W r
 | .ok v m',h=>⟨h.1.le J,hv m' v h.2⟩
 | .flt e m',h=>⟨h.1,by have:=h.2;omega⟩
 | .out,h=>h
theorem zqn(hC:0<=C)(hC2:C<=200): ∀ {l:List Ex} {ts:List Str} {m:Mc},(∀x∈l,PX d fuel fr C x)->exsT d (fr.vs++d.globals) true l=(ts,0)->MO d fuel m->m.calls=C->FT d m.ns fr->Ph m+2*szL l+4004*(200 - C)<=10000004002->
 Ev (λk=>exsV d fuel fr k l m) (QE d fuel m (2*szL l) λm' a=>a.length=l.length/\ ∀(i:Nat) v,a[i]?=some v->VT d m'.ns (lsA ts i) v)
 | [],ts,m,_,_,hm,_,_,_=>by
   refine Ev.succ (g:=λ_=>An.ok [] m) (Ev.const ⟨PE.refl hm ua,rfl,λi v h=>by simp at h⟩) λk=>by rw[exsV]
 |x::r,ts,m,hp,ht,hm,hc,hF,hb=>by
  obtain⟨hl,hat⟩:=vJ ht;have hsz:(szL (x::r):Int)=szE x+szL r:=by simp only[szL];omega
  have hr:exsT d (fr.vs++d.globals) true r=(ts.drop 1,0):=by
   have hx:=hat 0 x rfl;rw[exsT,hx]at ht;simp only[uX]at ht;cases hq:exsT d (fr.vs++d.globals) true r with
   |mk us f=>
    rw[hq]at ht;simp only[uz]at ht;obtain⟨h5,rfl⟩:=ht;rw[<-h5];rfl
  refine Ev.succ (g:=λk=>(exV d fuel fr k x m).bind λv m=>(exsV d fuel fr k r m).bind λq m=> .ok (v::q) m) ?_ λk=>by rw[exsV]
  have h1:=hp x ue _ m (hat 0 x rfl) hm hc hF ua;refine Ev.bind h1 (t:=2*szL r) ua ua λv m1 J hv=>?_;have h2:=zqn hC hC2 (l:=r) (ts:=ts.drop 1) (m:=m1) (λy hy=>hp y (by simp[hy])) hr J.mo (J.ca.trans hc) (hF.mono J.ex) (by have:=J.ph;omega);refine Ev.bind h2 (t:=0) ua ua λa m2 U ha=>Ev.const ⟨PE.refl U.mo ua,by simp[ha.1],λi u hu=>?_⟩
  cases i with
  |zero=>simp only[List.getElem?_cons_zero,ui]at hu;subst hu;exact hv.mono U.ex
  |succ i=>
   simp only[uZ]at hu;have:=ha.2 i u hu;have e:lsA (ts.drop 1) i=lsA ts (i+1):=by unfold lsA;rw[u9,oK]
   grind
theorem zqo(J:HC d fuel C)(hC:0<=C)(hC2:C<=200){e:Ex}(hp: ∀x∈e.l,PX d fuel fr C x)(hlen:e.l.length<=6)(ht:exsT d (fr.vs++d.globals) true e.l=(ts,0))(hcT:vj d true e.s ts=(t,0))(hm:MO d fuel m)(hc:m.calls=C)(hF:FT d m.ns fr)
 (hb:Ph m+2*szL e.l+4004*(200 - C)<=10000004002):Ev (λk=>clV d fuel fr k e m) (QE d fuel m (2*szL e.l) λm' v=>VT d m'.ns t v):=by
 obtain⟨p,hp1,hp2,hp3,hp4⟩:=zfB hcT;obtain⟨i,hi1,hi2⟩:=zmn hp1;obtain⟨hl,_⟩:=vJ ht
 refine Ev.succ (g:=λk=>(exsV d fuel fr k e.l m).bind λa m=>rnV d fuel k p a m) ?_ λk=>by
  rw[clV,ifA,uw ua]
  congr 1
  funext a m
  simp only[opA,hi1,atA,hi2]
 refine Ev.bind (zqn hC hC2 hp ht hm hc hF hb) (t:=0) ua ua λa m1 U ha=>?_;rw[<-hp4];refine J p a m1 (uv hi2) ua (λj f v hf hv=>?_) U.mo (U.ca.trans hc) (by have:=U.ph;omega);exact(ha.2 j v hv).fits (hp3 j f hf)
theorem zuP(hm:MO d fuel m)(hf:fuel<=1048576)(hp:Ph m<=20000000000){x:Ex}{op a b:Int}{s ta tb tx:Str}(ho:9<=op/\op<=17\/op=22\/op=23)(J:zB d (fr.vs++d.globals) true op s [ta,tb]=(t,0))(hx:tyO d fr.vs x=some tx)
 (ha:VT d m.ns ta a) (hb:VT d m.ns tb b):QE d fuel m 1 (λm' v=>VT d m'.ns t v) (ztd d fr x op a b m):=by
 unfold ztd;by_cases h1:op=14\/op=15
 ·rw[uw h1]
  have ht:t=(⟨#[98,111,111,108]⟩:UB):=by
   rcases h1 with rfl|rfl
   all_goals
    simp[zB]at J;split at J
    ·simp at J
    ·simp only[uz,qf]at J;exact J.symm
  subst ht;simp only[opA,hx];split
  ·exact zmm hm hf hp _
  ·exact⟨PE.refl hm ua,VT.bool.2 (xd _)⟩
 rw[ur h1];by_cases h2:op=16
 ·rw[uw h2];subst h2;simp[zB]at J;rw[(zM J).1];exact zmm hm hf hp _
 rw[ur h2];by_cases h3:op=17
 ·rw[uw h3];subst h3;simp[zB]at J;rw[(zM J).1];exact zmm hm hf hp _
 rw[ur h3];unfold zB at J;rw[ur ua,ur ua,ur ua,ur ua,ur ua,ur ua,ur ua,ur ua,ur ua,ur ua]at J;obtain⟨rfl,U⟩:=zM J;have e1:ta=(⟨#[105,110,116]⟩:UB):=U 0 ue;have e2:tb=(⟨#[105,110,116]⟩:UB):=U 1 ue;subst e1 e2;exact QE.le ua (λ_ _ h=>h) _ (zuO hm (VT.int.1 ha) (VT.int.1 hb))
end
mutual
theorem ziw{d:zg}{fuel:Int}{fr:Fr}{C:Int}(hD:DE d fuel)(hcall:HC d fuel C)(hC:0<=C)(hC2:C<=200): ∀e:Ex,okE e->PX d fuel fr C e
 | .mk op n s l,hok=>by
   have ihl:=zqp hD hcall hC hC2 (fr:=fr) l hok.2;intro t m ht hm hc hF hb;obtain⟨ts,hts,h7,hn⟩:=zd9 ht;obtain⟨hl,hat⟩:=vJ hts;obtain⟨klen,k1,k3,kop,k2,kn1,kn2⟩:=jl hok.1;have hsz:(szE (.mk op n s l):Int)=1+szL l:=by simp only[szE];omega
   rw[hsz]at hb⊢;have hp:Ph m<=20000000000:=by have:=hm.c1;omega
   -- the first part, and what is done with its value
   have fst: ∀(f:Nat->Int->Mc->An Int) (x:Ex),l[0]?=some x->(∀v m1,PE d fuel m m1 (2*szE x)->VT d m1.ns (lsA ts 0) v->Ev (λk=>f k v m1) (QE d fuel m1 (2+2*szL l - 2*szE x) λm' v=>VT d m'.ns t v))->
    Ev (λk=>(atA l 0 λx=>exV d fuel fr k x m).bind (f k)) (QE d fuel m (2*(1+szL l)) λm' v=>VT d m'.ns t v):=λf x hx hf=>by
    have hle:=ziv hx;have h1:=ihl x (uv hx) _ m (hat 0 x hx) hm hc hF ua;exact Ev.bind (zg5 hx h1) (t:=2+2*szL l - 2*szE x) ua ua hf
   have one:(op=5\/op=8\/op=18\/op=24)-> ∃x,l=[x]:=λh=>by
    have:=k1 h
    match l,this with
    | [x],_=>exact⟨x,rfl⟩
   refine Ev.succ (g:=λk=>exV d fuel fr (k+1) (.mk op n s l) m) ?_ λk=>rfl
   simp only[exV,Ex.op,Ex.n,Ex.s,Ex.l];by_cases o1:op=1\/op=2
   ·refine Ev.pos o1 ?_;refine Ev.const ⟨PE.refl hm ua,?_⟩;rcases o1 with rfl|rfl
    ·have:=hn ub;simp[zB]at this;rw[<-this];exact VT.int.2 (kn1 rfl)
    ·have:=hn ub;simp[zB]at this;rw[<-this];exact VT.bool.2 (kn2 rfl)
   refine Ev.neg o1 ?_;by_cases o3:op=3
   ·refine Ev.pos o3 ?_;exact Ev.const ⟨PE.refl hm ua,VT.zero _ _ _⟩
   refine Ev.neg o3 ?_;by_cases o4:op=4
   ·refine Ev.pos o4 ?_;subst o4;have hn:=hn ub;simp only[zB,show ¬(4:Int)=1 by decide,show ¬(4:Int)=2 by decide,show ¬(4:Int)=3 by decide,uM,uX]at hn;cases hk:look (fr.vs++d.globals) s with
    |none=>simp_all
    |some u=>
     rw[hk]at hn;simp only[uz,qf]at hn;subst hn;exact Ev.const (QE.le ua (λ_ _ h=>h) _ (zwR hm hD.f1 hp hF hk))
   refine Ev.neg o4 ?_;by_cases o5:op=5
   ·refine Ev.pos o5 ?_;obtain⟨x,rfl⟩:=one (.inl o5);subst o5;have hn:=hn ub;simp only[zB,show ¬(5:Int)=1 by decide,show ¬(5:Int)=2 by decide,show ¬(5:Int)=3 by decide,show ¬(5:Int)=4 by decide,uM,uX]at hn;refine fst _ x rfl λv m1 hpe hv=>Ev.const (QE.le (by simp only[szL];omega) (λ_ _ h=>h) _ (zwS hD.ty hpe.mo hD.f1 (by have:=hpe.ph;have:=ziv (l:=[x]) (i:=0) rfl;omega) hn hv))
   refine Ev.neg o5 ?_;by_cases o6:op=6
   ·refine Ev.pos o6 ?_;subst o6;have hn:=hn ub;simp only[zB,show ¬(6:Int)=1 by decide,show ¬(6:Int)=2 by decide,show ¬(6:Int)=3 by decide,show ¬(6:Int)=4 by decide,show ¬(6:Int)=5 by decide,uM,uX,qz]at hn;split at hn
    ·simp at hn
    ·rename_i hnb;simp only[uz,qf]at hn;subst hn;exact Ev.const (QE.le ua (λ_ _ h=>h) _ (zwT hD.ty hD.tf hm hD.f1 hp (by simpa using hnb)))
   refine Ev.neg o6 ?_;by_cases o7:op=7
   ·refine Ev.pos o7 ?_;have:=zqo (e:= .mk op n s l) hcall hC hC2 (fr:=fr) ihl klen hts (h7 o7).1 hm hc hF (by simp only[Ex.l];omega);exact this.imp λr hr=>QE.le (by simp only[Ex.l];omega) (λ_ _ h=>h) r hr
   refine Ev.neg o7 ?_;have hn:=hn o7;by_cases o8:op=8
   ·refine Ev.pos o8 ?_;obtain⟨x,rfl⟩:=one (.inr (.inl o8));subst o8;simp[zB]at hn;obtain⟨rfl,hall⟩:=zM hn;refine fst _ x rfl λv m1 hpe hv=>?_;rw[hall 0 (by rw[hl];simp)]at hv;have hi:=VT.int.1 hv;refine Ev.const ?_;simp only[ifA,uw hi];exact QE.le (by simp only[szL];omega) (λ_ _ h=>h) _ (zd8 hpe.mo _)
   refine Ev.neg o8 ?_;by_cases o24:op=24
   ·refine Ev.pos o24 ?_;obtain⟨x,rfl⟩:=one (.inr (.inr (.inr o24)));subst o24;simp[zB]at hn;obtain⟨rfl,hall⟩:=zM hn;refine fst _ x rfl λv m1 hpe hv=>?_;rw[hall 0 (by rw[hl];simp)]at hv;have hi:=VT.int.1 hv;refine Ev.const ?_;simp only[ifA,uw hi];refine⟨PE.refl hpe.mo (by simp only[szL];omega),VT.int.2 ?_⟩;unfold Gm.inB at hi⊢;unfold ztc
    have hlg:Nat.log2 (if v<1 then 1 else v.toNat)<64:=by
     rw[oC (by split<;>omega)];split<;>omega
    omega
   refine Ev.neg o24 ?_;by_cases o18:op=18
   ·refine Ev.pos o18 ?_;obtain⟨x,rfl⟩:=one (.inr (.inr (.inl o18)));subst o18;simp[zB]at hn;obtain⟨rfl,hall⟩:=zM hn;refine fst _ x rfl λv m1 hpe hv=>?_;rw[hall 0 (by rw[hl];simp)]at hv;have hi:=VT.bool.1 hv;refine Ev.const ?_;simp only[ifA,uw (show Gm.inB v by unfold Gm.inB;omega)];exact⟨PE.refl hpe.mo (by simp only[szL];omega),VT.bool.2 ua⟩
   refine Ev.neg o18 ?_
   -- a later part
   have nxt: ∀(i:Nat) (x y:Ex) (m1:Mc),l[0]?=some x->l[i]?=some y->i≠0->PE d fuel m m1 (2*szE x)->Ev (λk=>atA l i λy=>exV d fuel fr k y m1) (QE d fuel m1 (2*szE y) λm' v=>VT d m'.ns (lsA ts i) v)/\szE x+szE y<=szL l:=λi x y m1 hx hy hi hpe=>by
    have hsum:szE x+szE y<=szL l:=by
     cases l with
     |nil=>simp at hx
     |cons z r=>
      simp only[List.getElem?_cons_zero,ui]at hx;subst hx;obtain⟨j,rfl⟩: ∃j,i=j+1:=⟨i - 1,ua⟩;simp only[uZ]at hy;have:=ziv hy;simp only[szL];omega
    exact⟨zg5 hy (ihl y (uv hy) _ m1 (hat i y hy) hpe.mo (hpe.ca.trans hc) (hF.mono hpe.ex) (by have:=hpe.ph;omega)),hsum⟩
   by_cases o19:op=19
   ·refine Ev.pos o19 ?_;have hl2:=k2 ua;subst o19;simp[zB]at hn;obtain⟨rfl,hall⟩:=zM hn;obtain⟨x,hx⟩: ∃x,l[0]?=some x:=zb ua;obtain⟨y,hy⟩: ∃y,l[1]?=some y:=zb ua;refine fst _ x hx λv m1 hpe hv=>?_;obtain⟨h2,hsum⟩:=nxt 1 x y m1 hx hy ub hpe;rw[hall 1 ua]at h2;by_cases h0:v=0
    ·refine Ev.pos h0 ?_;exact Ev.const ⟨PE.refl hpe.mo ua,VT.zero _ _ _⟩
    ·refine Ev.neg h0 ?_;exact h2.imp λr hr=>QE.le ua (λ_ _ h=>h) r hr
   refine Ev.neg o19 ?_;by_cases o20:op=20
   ·refine Ev.pos o20 ?_;have hl2:=k2 ua;subst o20;simp[zB]at hn;obtain⟨rfl,hall⟩:=zM hn;obtain⟨x,hx⟩: ∃x,l[0]?=some x:=zb ua;obtain⟨y,hy⟩: ∃y,l[1]?=some y:=zb ua;refine fst _ x hx λv m1 hpe hv=>?_;obtain⟨h2,hsum⟩:=nxt 1 x y m1 hx hy ub hpe;rw[hall 1 ua]at h2;by_cases h0:v=1
    ·refine Ev.pos h0 ?_;exact Ev.const ⟨PE.refl hpe.mo ua,VT.bool.2 (.inr rfl)⟩
    ·refine Ev.neg h0 ?_;exact h2.imp λr hr=>QE.le ua (λ_ _ h=>h) r hr
   refine Ev.neg o20 ?_;by_cases o21:op=21
   ·refine Ev.pos o21 ?_;have hl3:=k3 o21;subst o21;obtain⟨x,hx⟩: ∃x,l[0]?=some x:=zb ua;obtain⟨y,hy⟩: ∃y,l[1]?=some y:=zb ua;obtain⟨z,hz⟩: ∃z,l[2]?=some z:=zb ua
    simp only[zB,show ¬(21:Int)=1 by decide,show ¬(21:Int)=2 by decide,show ¬(21:Int)=3 by decide,show ¬(21:Int)=4 by decide,show ¬(21:Int)=5 by decide,show ¬(21:Int)=6 by decide,show ¬((21:Int)=14\/(21:Int)=15) by decide,
     show ¬((21:Int)=16\/(21:Int)=17) by decide,show ¬((21:Int)=18\/(21:Int)=19\/(21:Int)=20) by decide,uM,uX]at hn
    have hfit: ∀(ns:List Nd) (v:Int),(VT d ns (lsA ts 1) v->VT d ns t v)/\(VT d ns (lsA ts 2) v->VT d ns t v):=λns v=>by
     split at hn
     ·split at hn
      ·rename_i hf;simp only[uz,qf]at hn;subst hn;exact⟨λh=>h.fits hf,λh=>h⟩
      ·split at hn
       ·rename_i hf;simp only[uz,qf]at hn;subst hn;exact⟨λh=>h,λh=>h.fits hf⟩
       ·simp at hn
     ·simp at hn
    refine fst _ x hx λv m1 hpe hv=>?_;obtain⟨h2,hsum⟩:=nxt 1 x y m1 hx hy ub hpe;obtain⟨h3,hsum3⟩:=nxt 2 x z m1 hx hz ub hpe;by_cases h0:v=1
    ·refine Ev.pos h0 ?_;exact h2.imp λr hr=>QE.le ua (λm' v h=>(hfit m'.ns v).1 h) r hr
    ·refine Ev.neg h0 ?_;exact h3.imp λr hr=>QE.le ua (λm' v h=>(hfit m'.ns v).2 h) r hr
   refine Ev.neg o21 ?_
   -- two parts
   have ho:9<=op/\op<=17\/op=22\/op=23:=by omega
   have hl2:=k2 ua
   match l,hl2,hok,ihl,hat,hl,fst,nxt,hb,ht with
   | [x,y],_,hok,ihl,hat,hl,fst,nxt,hb,ht=>
     have hts2:ts=[lsA ts 0,lsA ts 1]:=by
      match ts,hl with
      | [a,b],_=>rfl
     rw[hts2]at hn;have htx:=zea x _ hok.2.1 (hat 0 x rfl)
     have hfst:=fst (λk a m=>(atA [x,y] 1 λy=>exV d fuel fr k y m).bind λb m=>ztd d fr x op a b m) x rfl λv m1 hpe hv=>by
      obtain⟨h2,hsum⟩:=nxt 1 x y m1 rfl rfl ub hpe;refine Ev.bind h2 (t:=1) ua ua λu m2 hpe2 hu=>Ev.const ?_
      exact zuP hpe2.mo hD.f1 (by have:=hpe.ph;have:=hpe2.ph;have:=hm.c1;omega) ho hn htx (hv.mono hpe2.ex) hu
     exact hfst
theorem zqp{d:zg}{fuel:Int}{fr:Fr}{C:Int}(hD:DE d fuel)(hcall:HC d fuel C)(hC:0<=C)(hC2:C<=200): ∀l:List Ex,okL l-> ∀x∈l,PX d fuel fr C x
 | [],_=>λx hx=>by cases hx
 |y::r,hok=>λx hx=>by
  have h1:=ziw hD hcall hC hC2 (fr:=fr) y hok.1;have h2:=zqp hD hcall hC hC2 (fr:=fr) r hok.2
  grind
end
mutual
def zwU(d:zg)(vs:List Fld)(res:Str):Sm->Prop
 | .mk op s e l els=>stmT d vs res (.mk op s e l els)=0/\vO (.mk op s e l els)=true/\zsz d vs res l/\zsz d vs res els
def zsz(d:zg)(vs:List Fld)(res:Str):List Sm->Prop
 | []=>True
 |x::r=>zwU d vs res x/\zsz d vs res r
end
mutual
theorem zsA{d:zg}{vs:List Fld}{res:Str}: ∀(x:Sm) (n dp c:Int),(smOne d vs res x n).1.2=0->stN x dp c<=200->0<=c->c<=200->zwU d vs res x
 | .mk op s e l els,n,dp,c,h,hs,hc0,hc=>by
   rw[smOne]at h;by_cases h0:stmT d vs res (.mk op s e l els)=0
   ·rw[uw h0]at h;simp only[stN]at hs;split at hs
    ·omega
    ·rename_i hh;simp only[uO,uy,oX,qD]at hh;cases hq:smsT d vs res l (n+1)with
     |mk q m=>
      rw[hq]at h;simp only at h;by_cases hq2:q.2=0
      ·rw[uw hq2]at h;have p1:=(y9 l (dp+1) 0 ua ua).1;have p2:=(y9 els (dp+1) 0 ua ua).1;generalize hA:stL l (dp+1) 0=A at hs p1;generalize hB:stL els (dp+1) 0=B at hs p2
       have hAB:A<=200/\B<=200:=by
        unfold zeH at hs;by_cases hc1:c+1<=200
        ·rw[uw hc1]at hs;by_cases hc2:c+1+A<=200
         ·rw[uw hc2]at hs;omega
         ·rw[ur hc2]at hs;omega
        ·rw[ur hc1,ur hc1]at hs;omega
       have hb1:stL l (dp+1) 0<=200:=by omega
       have hb2:stL els (dp+1) 0<=200:=by omega
       exact⟨h0,hh.2,zeb l (n+1) (dp+1) 0 (by simp_all) hb1 ua ua,zeb els m (dp+1) 0 h hb2 ua ua⟩
      simp_all
   simp_all
theorem zeb{d:zg}{vs:List Fld}{res:Str}: ∀(l:List Sm) (n dp c:Int),(smsT d vs res l n).1.2=0->stL l dp c<=200->0<=c->c<=200->zsz d vs res l
 | [],_,_,_,_,_,_,_=>trivial
 |x::r,n,dp,c,h,hs,hc0,hc=>by
  rw[smsT]at h;simp only[stL]at hs;split at hs
  ·omega
  ·rename_i hh;cases hq:smOne d vs res x n with
   |mk q m=>
    rw[hq]at h;simp only at h;by_cases hq2:q.2=0
    ·rw[uw hq2]at h;exact⟨zsA x n dp c (by simp_all) ua hc0 hc,zeb r m dp _ h hs (zeI x dp c hc0 hc).1 ua⟩
    simp_all
end
def VS(d:zg)(vs:List Fld)(res:Str)(m':Mc)(q:Option Int×Fr):Prop:=q.2.vs=vs/\FT d m'.ns q.2/\ ∀v,q.1=some v->VT d m'.ns res v
variable {j:Nat}
section
variable {fr:Fr} {m:Mc}
theorem zix{l:List α}{x:α}(h:(l.set i x)[j]?=some y):(i=j/\y=x)\/(i≠j/\l[j]?=some y):=by
 grind
theorem zuQ(J:MO d fuel m)(hf:fuel<=1048576)(hp:Ph m<=20000000000)(hF:FT d m.ns fr){s res:Str}{v:Int}(h:look (fr.vs++d.globals) s=some t)(hv:VT d m.ns t v):QE d fuel m 1 (VS d fr.vs res) (stV d fr s v m):=by
 unfold stV;rcases zd7 h with⟨i,f,h1,h2,h3⟩|⟨h0,i,f,h1,h2,h3⟩
 ·rw[h1];have U:i<fr.va.length:=by rw[hF.len];exact(ux.1 h2).1
  simp only[ifA,uw U];refine⟨PE.refl J ua,rfl,⟨by simp only[qQ];exact hF.len,λj f' u hj hu=>?_⟩,λv h=>by cases h⟩;rcases zix hu with⟨rfl,rfl⟩|⟨_,hu⟩
  ·simp_all
  ·exact hF.ty j f' u hj hu
 ·rw[h0,h1];have U:i<m.g.length:=by rw[J.mt.gl];exact(ux.1 h2).1
  simp only[opA,ifA,uw U,put_eq J hf hp];have hpe:=zfA J (2,0,(i:Int))
  have hmt:MT d (m.g.set i v) m.ns:=⟨by rw[qQ];exact J.mt.gl,λj f' u hj hu=>by
   rcases zix hu with⟨rfl,rfl⟩|⟨_,hu⟩
   ·rw[h2]at hj;cases hj;rw[h3];exact hv
   ·exact J.mt.gt j f' u hj hu,J.mt.nd,J.mt.nl⟩
  exact⟨⟨⟨hmt,J.t0,J.t1,J.c0,J.c1,J.p0⟩,Xt.refl _,rfl,qt _,hpe.ph⟩,rfl,hF,λv h=>by cases h⟩
theorem zuR(hd:TyD d)(J:MO d fuel m)(hf:fuel<=1048576)(hp:Ph m<=20000000000)(hF:FT d m.ns fr){s t1 res:Str}{n v:Int}(ht:fieldT d t1 s=(t,0))(hn:VT d m.ns t1 n)(hv:VT d m.ns t v):QE d fuel m 1 (VS d fr.vs res) (ptV d fr s n v m):=by
 unfold ptV;by_cases h0:n=0
 ·rw[uw h0];exact⟨J,ua⟩
 ·rw[ur h0];obtain⟨x,hx,hl⟩:=zaA ht;obtain⟨y,h1,h2,h3,h4,h5,h6⟩:=zg4 hd J.mt hn hx h0;obtain⟨i,f,hi,hif,hft⟩:=jX hl;have hlt:i<y.f.length:=by rw[<-h5];exact(ux.1 hif).1
  unfold fdA;simp only[ifA,uw h2,atA,h1,uw h3,h4,opA,hi,uw hlt,put_eq J hf hp];have hpe:=zfA J (2,n,(i:Int))
  have U:Xt m.ns (m.ns.set (n - 1).toNat ⟨y.t,y.f.set i v⟩):=⟨ue,λj z hj=>by
   by_cases e:(n - 1).toNat=j
   ·subst e;rw[h1]at hj;cases hj;exact⟨⟨y.t,y.f.set i v⟩,by rw[qU,uw rfl,uw (ux.1 h1).1],rfl⟩
   ·exact⟨z,by rw[qU,ur e];exact hj,rfl⟩⟩
  have hmt:MT d m.g (m.ns.set (n - 1).toNat ⟨y.t,y.f.set i v⟩):=by
   refine⟨J.mt.gl,λj f' u hj hu=>(J.mt.gt j f' u hj hu).mono U,λz hz=>?_,by rw[qQ];exact J.mt.nl⟩;obtain⟨j,hj⟩:=tK hz;rcases zix hj with⟨rfl,rfl⟩|⟨_,hj⟩
   ·refine⟨h3,x,h4,by simp only[qQ];exact h5,λk f' u hk hu=>?_⟩;rcases zix hu with⟨rfl,rfl⟩|⟨_,hu⟩
    ·rw[hif]at hk;cases hk;rw[hft];exact hv.mono U
    ·exact(h6 k f' u hk hu).mono U
   ·obtain⟨k0,w,k1,k2,k3⟩:=J.mt.nd z (uv hj);exact⟨k0,w,k1,k2,λk f' u hk hu=>(k3 k f' u hk hu).mono U⟩
  exact⟨⟨⟨hmt,J.t0,J.t1,J.c0,J.c1,J.p0⟩,U,rfl,qt _,hpe.ph⟩,rfl,hF.mono U,λv h=>by cases h⟩
theorem zmo(U:MO d fuel m)(hf:fuel<=1048576){c:Nat->Mc->An α}{V:Mc->α->Prop}{u:Int}(hu:0<=u)
 (h:m.ticks<fuel->PE d fuel m { m with ticks:=m.ticks+1 } (-5000)->Ev (λk=>c k { m with ticks:=m.ticks+1 }) (QE d fuel { m with ticks:=m.ticks+1 } (u+5000) V)):Ev (λk=>zbF fuel m (c k)) (QE d fuel m u λm' q=>V m' q/\m.ticks+1<=m'.ticks):=by
 by_cases h0:m.ticks≥fuel
 ·exact(Ev.const (r:=An.flt 20 m) ⟨U,ua⟩).congr λk=>by unfold zbF;rw[uw h0]
 ·have hm1:MO d fuel { m with ticks:=m.ticks+1 }:=⟨U.mt,by have:=U.t0;simp only;omega,by simp only;omega,U.c0,U.c1,U.p0⟩;have hpe:PE d fuel m { m with ticks:=m.ticks+1 } (-5000):=⟨hm1,Xt.refl _,rfl,by simp only;omega,by simp only[Ph];omega⟩;have h1:=h ua hpe
  have:Ev (λk=>zbF fuel m (c k)) (QE d fuel { m with ticks:=m.ticks+1 } (u+5000) V):=h1.congr λk=>by
   unfold zbF ifA;rw[ur h0,uw (by have:=U.t0;omega)]
  refine this.imp λr J=>?_;cases r with
  |out=>exact J
  |flt e m'=>exact⟨J.1,by have:=J.2;simp only[Ph]at this ⊢; omega⟩
  |ok v m'=>exact⟨⟨J.1.mo,J.1.ex,J.1.ca,by have:=J.1.ti;grind,by have:=J.1.ph;simp only[Ph]at this ⊢; omega⟩,J.2,by have:=J.1.ti;omega⟩
end
theorem wH{s:Sm}{lo J:Int}(h:wL s lo J=true):lo<=(s.e.length:Int)/\(s.e.length:Int)<=J/\ ∀x∈s.e,okE x/\szE x<=1000:=by
 simp only[wL,um,uy,uu,List.all_eq_true]at h;refine⟨ua,ua,λx U=>?_⟩;have:=h.2 x U;unfold yE at this;have h2:=uj this;obtain⟨h3,h4⟩:=jk x 1 h2
 grind
section
variable {vs:List Fld} {res:Str}
def S1(d:zg)(fuel C:Int)(vs:List Fld)(res:Str)(T:Int):Prop:= ∀x fr m,zwU d (vs++d.globals) res x->fr.vs=vs->MO d fuel m->m.calls=C->FT d m.ns fr->Ph m+4004*(200 - C)<=10000000000->fuel - m.ticks<=T->
 Ev (λk=>sV d fuel k fr x m) (QE d fuel m 0 λm' q=>VS d vs res m' q/\m.ticks+1<=m'.ticks)
def SS(d:zg)(fuel C:Int)(vs:List Fld)(res:Str)(T:Int):Prop:= ∀l fr m,zsz d (vs++d.globals) res l->fr.vs=vs->MO d fuel m->m.calls=C->FT d m.ns fr->Ph m+4004*(200 - C)<=10000000000->fuel - m.ticks<=T->
 Ev (λk=>ssV d fuel k fr l m) (QE d fuel m 0 (VS d vs res))
def WH(d:zg)(fuel C:Int)(vs:List Fld)(res:Str)(T:Int):Prop:= ∀c l fr m,okE c->szE c<=1000->exT d (vs++d.globals) true c=((⟨#[98,111,111,108]⟩:UB),0)->zsz d (vs++d.globals) res l->fr.vs=vs->MO d fuel m->m.calls=C->FT d m.ns fr->Ph m+2*szE c+4004*(200 - C)<=10000000000->fuel - m.ticks<=T->
 Ev (λk=>whV d fuel k fr c l m) (QE d fuel m (2*szE c) (VS d vs res))
theorem zwV{T:Int}(h1:S1 d fuel C vs res T)(ih:SS d fuel C vs res (T - 1)):SS d fuel C vs res T:=by
 intro l fr m U hv hm hc hF hb hT;cases l with
 |nil=>exact Ev.succ (g:=λ_=>An.ok (none,fr) m) (Ev.const ⟨PE.refl hm ua,hv,hF,λv h=>by cases h⟩) λk=>by rw[ssV]
 |cons x r=>
  refine Ev.succ (g:=λk=>(sV d fuel k fr x m).bind λq m=>match q.1 with
   |some v=> .ok (some v,q.2) m
   |none=>ssV d fuel k q.2 r m) ?_ λk=>by rw[ssV];rfl
  refine Ev.bind (h1 x fr m U.1 hv hm hc hF hb hT) (t:=0) ua ua λq m1 J hq=>?_;obtain⟨⟨q1,q2,q3⟩,q4⟩:=hq;cases hq1:q.1 with
  |some v=>exact Ev.const ⟨PE.refl J.mo ua,q1,q2,λu hu=>by simp_all⟩
  |none=>exact ih r q.2 m1 U.2 q1 J.mo (J.ca.trans hc) q2 (by have:=J.ph;omega) ua
theorem zwW{T:Int}(hD:DE d fuel)(hcall:HC d fuel C)(hC:0<=C)(hC2:C<=200)(hs:SS d fuel C vs res T)(ih:WH d fuel C vs res (T - 1)):WH d fuel C vs res T:=by
 intro c l fr m hok hsz hty hl hv hm hc hF hb hT
 refine Ev.succ (g:=λk=>(exV d fuel fr k c m).bind λv m=>if v=1 then((ssV d fuel k fr l m).bind λq m=>match q.1 with
  |some r=> .ok (some r,q.2) m
  |none=>zbF fuel m λm=>whV d fuel k q.2 c l m)else .ok (none,fr) m) ?_ λk=>by rw[whV];rfl
 subst hv;have hX:=ziw hD hcall hC hC2 (fr:=fr) c hok _ m hty hm hc hF ua;refine Ev.bind hX (t:=0) ua ua λv m1 J hv=>?_;by_cases h1:v=1
 ·refine Ev.pos h1 ?_;refine Ev.bind (hs l fr m1 hl rfl J.mo (J.ca.trans hc) (hF.mono J.ex) (by have:=J.ph;omega) (by have:=J.ti;omega)) (t:=0) ua ua λq m2 U hq=>?_;obtain⟨q1,q2,q3⟩:=hq;cases hq1:q.1 with
  |some r=>exact Ev.const ⟨PE.refl U.mo ua,q1,q2,λu hu=>by simp_all⟩
  |none=>
   have:=zmo U.mo hD.f1 (c:=λk m=>whV d fuel k q.2 c l m) (V:=VS d fr.vs res) (u:=0) ua λhlt hpe3=>by
    have hph:=J.ph;have hph2:=U.ph;have hph3:=hpe3.ph;have hti:=J.ti;have hti2:=U.ti;have hW:=ih c l q.2 { m2 with ticks:=m2.ticks+1 } hok hsz hty hl q1 hpe3.mo (U.ca.trans (J.ca.trans hc)) q2 ua (by simp only;omega);exact hW.imp λr hr=>QE.le ua (λ_ _ h=>h) r hr
   exact this.imp λr hr=>QE.le ua (λ_ _ h=>h.1) r hr
 ·refine Ev.neg h1 ?_;exact Ev.const ⟨PE.refl J.mo ua,rfl,hF.mono J.ex,λv h=>by cases h⟩
theorem zmp{x:Sm}(h:vO x=true):(∀y∈x.e,okE y/\szE y<=1000)/\(1<=x.op/\x.op<=6)/\(x.op=1\/x.op=3\/x.op=4\/x.op=6->x.e.length=1)/\(x.op=2->x.e.length=2)/\(x.op=5->x.e.length<=1)/\(x.op=6->(x.e[0]?).map Ex.op=some 7):=by
 unfold vO zhI at h;by_cases U:x.op=1
 ·rw[uw U]at h;simp only[um]at h;obtain⟨J,h2,h3⟩:=wH h.1.2
  grind
 rw[ur U]at h;by_cases o2:x.op=2
 ·rw[uw o2]at h;simp only[um]at h;obtain⟨J,h2,h3⟩:=wH h.1.2
  grind
 rw[ur o2]at h;by_cases o3:x.op=3
 ·rw[uw o3]at h;simp only[um]at h;obtain⟨J,h2,h3⟩:=wH h.2
  grind
 rw[ur o3]at h;by_cases o4:x.op=4
 ·rw[uw o4]at h;simp only[um]at h;obtain⟨J,h2,h3⟩:=wH h.1.2
  grind
 rw[ur o4]at h;by_cases o5:x.op=5
 ·rw[uw o5]at h;simp only[um]at h;obtain⟨J,h2,h3⟩:=wH h.1.2
  grind
 rw[ur o5]at h;by_cases o6:x.op=6
 ·rw[uw o6]at h;simp only[um,uq]at h;obtain⟨J,h2,h3⟩:=wH h.1.1.2
  grind
 simp_all
theorem zwX{T:Int}(hD:DE d fuel)(hcall:HC d fuel C)(hC:0<=C)(hC2:C<=200)(hs:SS d fuel C vs res (T - 1))(hw:WH d fuel C vs res (T - 1)):S1 d fuel C vs res T:=by
 intro x fr m hok hv hm hc hF hb hT;subst hv;obtain⟨op,s,e,l,els⟩:=x;obtain⟨J,hsh,hl,hels⟩:=hok;obtain⟨hx,hop,he1,he2,he5,he6⟩:=zmp hsh;simp only[Sm.e,Sm.op]at hx hop he1 he2 he5 he6;refine Ev.succ (g:=λk=>sV d fuel (k+1) fr (.mk op s e l els) m) ?_ λk=>rfl
 simp only[sV,Sm.op,Sm.s,Sm.e,Sm.l,Sm.els];refine zmo hm hD.f1 ua λhlt hpe=>?_;have hm1:=hpe.mo;have hph:=hpe.ph;have hc1:({ m with ticks:=m.ticks+1 }:Mc).calls=C:=hpe.ca.trans hc;have hF1:FT d ({ m with ticks:=m.ticks+1 }:Mc).ns fr:=hF;have hti:fuel - ({ m with ticks:=m.ticks+1 }:Mc).ticks<=T - 1:=by simp only;omega
 generalize ({ m with ticks:=m.ticks+1 }:Mc)=m1 at hm1 hph hc1 hF1 hti⊢;clear hpe hlt hm hc hF hT;have hPX: ∀y∈e,PX d fuel fr C y:=λy hy=>ziw hD hcall hC hC2 y (hx y hy).1
 have hph1:Ph m1+5000<=10000000000:=by omega
 have hgt: ∀ {m2:Mc} {k:Int},PE d fuel m1 m2 k->k<=4004->Ph m2<=20000000000:=λh hk=>by have:=h.ph;omega
 have hone:op=1\/op=3\/op=4\/op=6-> ∃y,e=[y]:=λh=>by
  have:=he1 h
  match e,this with
  | [y],_=>exact⟨y,rfl⟩
 by_cases o6:op=6
 ·refine Ev.neg ua (Ev.neg ua (Ev.neg ua (Ev.neg ua (Ev.neg ua (Ev.pos o6 ?_)))));obtain⟨y,rfl⟩:=hone ua;have h7:y.op=7:=by have:=he6 o6;simpa using this
  unfold stmT at J;rw[uw (show(Sm.mk op s [y] l els).op=6 from o6)]at J;unfold caT at J;rw[show exA (Sm.mk op s [y] l els).e 0=y from rfl]at J;cases hq:exsT d (fr.vs++d.globals) true y.l with
  |mk ts f=>
   rw[hq]at J;simp only at J;by_cases hf:f=0
   ·subst hf;rw[uw rfl]at J;obtain⟨hok,hsz⟩:=hx y ue;have hcl: ∃r,vj d true y.s ts=(r,0):=⟨(vj d true y.s ts).1,by rw[<-J]⟩;obtain⟨r,hr⟩:=hcl;have hsy:szL y.l<=1000:=by cases y;simp only[szE,Ex.l]at hsz ⊢; omega
    have hoy:okL y.l/\y.l.length<=6:=by cases y;exact⟨hok.2,(jl hok.1).1⟩
    have:=zqo (e:=y) hcall hC hC2 (fr:=fr) (λz hz=>by
     obtain⟨j,hj⟩:=tK hz
     exact ziw hD hcall hC hC2 z (zqm hoy.1 hj)) hoy.2 hq hr hm1 hc1 hF1 ua
    refine Ev.bind (s:=2*szL y.l) (V:=λm' v=>VT d m'.ns r v) (this.congr λk=>by simp only[atA,List.getElem?_cons_zero]) (t:=0) ua ua λv m2 U hv=>Ev.const ⟨PE.refl U.mo ua,rfl,hF1.mono U.ex,λv h=>by cases h⟩
   simp_all
 unfold stmT at J;rw[ur (show ¬(Sm.mk op s e l els).op=6 from o6)]at J;cases hq:exsT d (fr.vs++d.globals) true e with
 |mk ts f=>
 rw[show(Sm.mk op s e l els).e=e from rfl,hq]at J;rw[show(Sm.mk op s e l els).op=op from rfl,show(Sm.mk op s e l els).s=s from rfl]at J
 replace J:(if f=0 then
  (if op=1 then(match look (fr.vs++d.globals) s with|none=>9|some t=>if yw d (lsA ts 0) t=true then 0 else 11)
  else if op=2 then(if(fieldT d (lsA ts 0) s).2=0 then(if yw d (lsA ts 1) (fieldT d (lsA ts 0) s).1=true then 0 else 11)else(fieldT d (lsA ts 0) s).2)
  else if op=3\/op=4 then(if lsA ts 0=(⟨#[98,111,111,108]⟩:UB)then 0 else 11)
  else if op=5 then(if ts.length=0 then(if res=(⟨#[]⟩:UB)then 0 else 11)else if ¬res=(⟨#[]⟩:UB)/\yw d (lsA ts 0) res=true then 0 else 11)
  else 0)else f)=0:=J
 by_cases hf:f=0
 rotate_left
 ·omega
 subst hf;rw[uw rfl]at J;obtain⟨hlen,hat⟩:=vJ hq;by_cases o1:op=1
 ·refine Ev.pos o1 ?_;rw[uw o1]at J;obtain⟨y,rfl⟩:=hone ua;obtain⟨hok,hsz⟩:=hx y ue;cases hk:look (fr.vs++d.globals) s with
  |none=>simp_all
  |some t=>
   rw[hk]at J;simp only at J
   have hfit:yw d (lsA ts 0) t=true:=by
    cases hh:yw d (lsA ts 0) t with
    |true=>rfl
    |false=>rw[hh]at J;cases J
   refine Ev.bind (zg5 (i:=0) rfl (hPX y ue _ m1 (hat 0 y rfl) hm1 hc1 hF1 ua)) (t:=1) ua ua λv m2 U hv=>Ev.const ?_
   exact zuQ U.mo hD.f1 (hgt U ua) (hF1.mono U.ex) hk (hv.fits hfit)
 refine Ev.neg o1 ?_;rw[ur o1]at J;by_cases o2:op=2
 ·refine Ev.pos o2 ?_;rw[uw o2]at J;have h2:=he2 o2
  match e,h2,hx,hPX,hq,hlen,hat with
  | [y,z],_,hx,hPX,hq,hlen,hat=>
    obtain⟨hok,hsz⟩:=hx y ue;obtain⟨hok2,hsz2⟩:=hx z ue;by_cases hft:(fieldT d (lsA ts 0) s).2=0
    ·rw[uw hft]at J
     have hfit:yw d (lsA ts 1) (fieldT d (lsA ts 0) s).1=true:=by
      cases hh:yw d (lsA ts 1) (fieldT d (lsA ts 0) s).1 with
      |true=>rfl
      |false=>rw[hh]at J;cases J
     have hfe:fieldT d (lsA ts 0) s=((fieldT d (lsA ts 0) s).1,0):=by rw[<-hft]
     refine Ev.bind (zg5 (i:=0) rfl (hPX y ue _ m1 (hat 0 y rfl) hm1 hc1 hF1 ua)) (t:=2*szE z+1) ua ua λn m2 U hn=>?_;refine Ev.bind (zg5 (i:=1) rfl (hPX z ue _ m2 (hat 1 z rfl) U.mo (U.ca.trans hc1) (hF1.mono U.ex) (by have:=U.ph;omega))) (t:=1) ua ua λv m3 hpe3 hv=>Ev.const ?_
     exact zuR hD.ty hpe3.mo hD.f1 (by have:=U.ph;have:=hpe3.ph;omega) ((hF1.mono U.ex).mono hpe3.ex) hfe (hn.mono hpe3.ex) (hv.fits hfit)
    ·rw[ur hft]at J;exact absurd J hft
 refine Ev.neg o2 ?_;rw[ur o2]at J;by_cases o3:op=3
 ·refine Ev.pos o3 ?_;rw[uw (.inl o3)]at J;obtain⟨y,rfl⟩:=hone ua;obtain⟨hok,hsz⟩:=hx y ue
  have hb1:lsA ts 0=(⟨#[98,111,111,108]⟩:UB):=by
   by_cases hh:lsA ts 0=(⟨#[98,111,111,108]⟩:UB)
   ·exact hh
   ·rw[ur hh]at J;cases J
  refine Ev.bind (zg5 (i:=0) rfl (hPX y ue _ m1 (hat 0 y rfl) hm1 hc1 hF1 ua)) (t:=0) ua ua λv m2 U hv=>?_;have hp2:=U.ph;have ht2:=U.ti;by_cases h1:v=1
  ·exact Ev.pos h1 (hs l fr m2 hl rfl U.mo (U.ca.trans hc1) (hF1.mono U.ex) ua ua)
  ·exact Ev.neg h1 (hs els fr m2 hels rfl U.mo (U.ca.trans hc1) (hF1.mono U.ex) ua ua)
 refine Ev.neg o3 ?_;by_cases o4:op=4
 ·refine Ev.pos o4 ?_;rw[uw (.inr o4)]at J;obtain⟨y,rfl⟩:=hone ua;obtain⟨hok,hsz⟩:=hx y ue
  have hb1:lsA ts 0=(⟨#[98,111,111,108]⟩:UB):=by
   by_cases hh:lsA ts 0=(⟨#[98,111,111,108]⟩:UB)
   ·exact hh
   ·rw[ur hh]at J;cases J
  have:=hw y l fr m1 hok hsz (by rw[hat 0 y rfl,hb1]) hl rfl hm1 hc1 hF1 ua hti;refine(this.congr λk=>by simp only[atA,List.getElem?_cons_zero]).imp λr hr=>QE.le ua (λ_ _ h=>h) r hr
 refine Ev.neg o4 ?_;rw[ur ua]at J;by_cases o5:op=5
 ·refine Ev.pos o5 ?_;rw[uw o5]at J;by_cases h0:e.length=0
  ·exact Ev.pos h0 (Ev.const ⟨PE.refl hm1 ua,rfl,hF1,λv h=>by simp only at h;cases h;exact VT.zero _ _ _⟩)
  ·refine Ev.neg h0 ?_;have h5:=he5 o5;have hl0: ¬ts.length=0:=by omega
   rw[ur hl0]at J
   match e,h5,h0,hx,hPX,hq,hlen,hat with
   | [y],_,_,hx,hPX,hq,hlen,hat=>
     obtain⟨hok,hsz⟩:=hx y ue
     have hfit:yw d (lsA ts 0) res=true:=by
      by_cases hh: ¬res=(⟨#[]⟩:UB)/\yw d (lsA ts 0) res=true
      ·exact hh.2
      ·rw[ur hh]at J;cases J
     refine Ev.bind (zg5 (i:=0) rfl (hPX y ue _ m1 (hat 0 y rfl) hm1 hc1 hF1 ua)) (t:=0) ua ua λv m2 U hv=>Ev.const ⟨PE.refl U.mo ua,rfl,hF1.mono U.ex,λu hu=>by simp only at hu;cases hu;exact hv.fits hfit⟩
 exfalso;omega
theorem zsB(hD:DE d fuel)(J:HC d fuel C)(hC:0<=C)(U:C<=200): ∀T:Nat,SS d fuel C vs res T/\WH d fuel C vs res T:=by
 have neg: ∀T:Int,T<0->SS d fuel C vs res T/\WH d fuel C vs res T:=λT hT=>⟨λl fr m _ _ hm _ _ _ h=>by have:=hm.t1;omega,λc l fr m _ _ _ _ _ hm _ _ _ h=>by have:=hm.t1;omega⟩
 have step: ∀T:Int,SS d fuel C vs res (T - 1)/\WH d fuel C vs res (T - 1)->SS d fuel C vs res T/\WH d fuel C vs res T:=λT ih=>by
  have h1:=zwX hD J hC U ih.1 ih.2;have h2:=zwV h1 ih.1;exact⟨h2,zwW hD J hC U h2 ih.2⟩
 intro T
 induction T with
 |zero=>simp_all
 |succ T ih=>simp_all
end
structure DP (d:zg) (fuel:Int):Prop extends DE d fuel where
 pr: ∀p∈d.procs,zsz d (p.params++p.locs++d.globals) p.res p.body/\p.params.length<=100000/\p.locs.length<=100000
theorem zuS(hD:DP d fuel): ∀(n:Nat) (C:Int),0<=C->C<=200->200 - C<=n->HC d fuel C:=by
 intro n
 induction n with
 |zero=>
  intro C h0 h1 h2 p a m hp hl hty U hc hb;exact Ev.succ (g:=λ_=>An.flt 19 m) (Ev.const ⟨U,ua⟩) λk=>by rw[rnV,uw ua]
 |succ n ih=>
  intro C h0 h1 h2 p a m hp hl hty U hc hb;by_cases h3:m.calls≥200
  ·exact Ev.succ (g:=λ_=>An.flt 19 m) (Ev.const ⟨U,ua⟩) λk=>by rw[rnV,uw h3]
  obtain⟨q1,q2,q3⟩:=hD.pr p hp
  refine Ev.succ (g:=λk=>(ssV d fuel k ⟨p.params++p.locs,a++List.replicate p.locs.length 0⟩ p.body { m with calls:=m.calls+1 }).bind λq m=>ifA (0<m.calls/\m.calls<=1000) (.ok (q.1.getD 0) { m with calls:=m.calls - 1 })) ?_ λk=>by
   rw[rnV,ur h3,ifA,uw ⟨U.c0,ua,q2,q3⟩]
  have hm1:MO d fuel { m with calls:=m.calls+1 }:=⟨U.mt,U.t0,U.t1,by have:=U.c0;simp only;omega,by simp only;omega,U.p0⟩
  have hF:FT d m.ns ⟨p.params++p.locs,a++List.replicate p.locs.length 0⟩:=by
   refine⟨by simp[hl],λi f v hf hv=>?_⟩;simp only at hf hv;by_cases hi:i<p.params.length
   ·rw[tU hi]at hf;rw[tU ua]at hv;exact hty i f v hf hv
   ·rw[qu ua]at hv;simp only[oc]at hv;split at hv
    ·cases hv;exact VT.zero _ _ _
    ·cases hv
  have hS:=(zsB (vs:=p.params++p.locs) (res:=p.res) hD.toDE (ih (C+1) ua ua ua) ua ua (fuel - m.ticks).toNat).1 p.body ⟨p.params++p.locs,a++List.replicate p.locs.length 0⟩ { m with calls:=m.calls+1 } q1 rfl hm1 (by simp only;omega) hF (by simp only[Ph]at hb ⊢; omega) (by simp only;omega);obtain⟨k0,r,hr,hk⟩:=hS;refine⟨k0,r.bind λq m=>ifA (0<m.calls/\m.calls<=1000) (.ok (q.1.getD 0) { m with calls:=m.calls - 1 }),?_,λk hk'=>by simp_all⟩;cases r with
  |out=>exact hr
  |flt e m2=>exact⟨hr.1,by have:=hr.2;simp only[Ph]at this ⊢; omega⟩
  |ok q m2=>
   obtain⟨J,w1,w2,w3⟩:=hr;have hca:=J.ca;simp only at hca;simp only[An.bind,ifA];rw[uw ua];refine⟨⟨⟨J.mo.mt,J.mo.t0,J.mo.t1,by simp only;omega,by simp only;omega,J.mo.p0⟩,J.ex,by simp only;omega,J.ti,by have:=J.ph;simp only[Ph]at this ⊢; omega⟩,?_⟩;cases hq:q.1 with
   |none=>exact VT.zero _ _ _
   |some v=>exact w3 v hq
theorem y7{a b:Ft}(h:orF a b=none):a=none/\b=none:=by
 cases a with
 |none=>exact⟨rfl,h⟩
 |some f=>cases h
theorem zci{α:Type}{g:α->Nat->Ft}: ∀ {l:List α} {k:Nat},firstF g l k=none-> ∀ {i:Nat} {x:α},l[i]?=some x->g x (k+i)=none
 | [],_,_,i,x,hx=>by simp at hx
 |y::l,k,h,i,x,hx=>by
  have e:firstF g (y::l) k=match g y k with|some f=>some f|none=>firstF g l (k+1):=rfl
  rw[e]at h;cases hg:g y k with
  |some f=>simp_all
  |none=>
   rw[hg]at h;cases i with
   |zero=>simp_all
   |succ i=>rw[uZ]at hx;rw[show k+(i+1)=k+1+i by omega];exact zci h hx
theorem xR{g:α->Nat->Ft}{l:List α}{k:Nat}(h:firstF g l k=none){x:α}(J:x∈l): ∃i,g x (k+i)=none:=by
 obtain⟨i,U⟩:=tK J;exact⟨i,zci h U⟩
theorem zuT{l:List Str}(h:twB l i=false)(J:j<i){a b:Str}(U:l[j]?=some a)(hb:l[i]?=some b): ¬a=b:=by
 intro e;subst e;unfold twB lsA at h;rw[hb,List.any_eq_false]at h;have hm:a∈l.take i:=uv (i:=j) (by rw[List.getElem?_take_of_lt J];exact U)
 grind
theorem zwY{key:α->Str}{l:List α}(h: ∀(i:Nat) x,l[i]?=some x->twB (l.map key) i=false){a b:α}(J:l[i]?=some a)(hb:l[j]?=some b)(e:key a=key b):i=j:=by
 have q: ∀ {i j:Nat} {a b:α},l[i]?=some a->l[j]?=some b->key a=key b-> ¬j<i:=λ{i j a b} J hb e U=>
  zuT (h i a J) U (a:=key b) (b:=key a) (by rw[uK,hb];rfl) (by rw[uK,J];rfl) e.symm
 grind
theorem zg6{d:zg}{all:List Str}: ∀ {l:List Fld} {i:Nat},fieldsE d all l i=0-> ∀f∈l,yQ d f.t=true
 | [],_,_,f,hf=>by cases hf
 |x::l,i,h,f,hf=>by
  unfold fieldsE at h;split at h
  ·cases h
  ·split at h
   ·cases h
   ·rename_i h1 h2;cases hf with
    |head=>simpa using h2
    |tail _ hf=>exact zg6 h f hf
structure KD (d:zg):Prop extends TyD d where
 gl: ∀f∈d.globals,yQ d f.t=true
 fl: ∀t∈d.types,∀f∈t.f,yQ d f.t=true
theorem zmq:isName (⟨#[105,110,116]⟩:UB)=false/\isName (⟨#[98,111,111,108]⟩:UB)=false/\isName (⟨#[110,105,108]⟩:UB)=false:=by decide
theorem zsC(hv:yl d=true)(hc:zfX d=none):KD d:=by
 obtain⟨U,_⟩:=y7 hc;obtain⟨U,h2⟩:=y7 U;obtain⟨h2,h3⟩:=y7 h2
 have ht: ∀t∈d.types,isName t.n=true:=λt ht=>by
  simp only[yl,um,List.all_eq_true]at hv;have:=hv.1.1.2 t ht;simp only[zag,um]at this;exact this.1
 obtain⟨n1,n2,n3⟩:=zmq;refine⟨⟨λt h=>⟨λe=>?_,λe=>?_,λe=>?_⟩,λi j a b ha hb e=>zwY (key:=λt:z7=>t.n) (λi x hx=>?_) ha hb e⟩,λf hf=>?_,λt h f hf=>?_⟩
 ·grind
 ·grind
 ·grind
 ·have:=zci U hx
  simp_all
 ·obtain⟨i,J⟩:=xR h3 hf
  grind
 ·obtain⟨i,J⟩:=xR h2 h;unfold ftE at J;split at J
  ·rename_i q;exact zg6 q f hf
  ·cases J
theorem zwZ(hv:yl d=true)(U:zfX d=none)(h0:0<=fuel)(h1:fuel<=1048576):DP d fuel:=by
 have hs:=jB hv;have hk:=zsC hv U;obtain⟨_,h2⟩:=y7 U;obtain⟨_,h2⟩:=y7 h2;obtain⟨_,h2⟩:=y7 h2;obtain⟨h2,_⟩:=y7 h2;simp only[yl,jx,um,List.all_eq_true]at hv;refine⟨⟨hk.toTyD,hs.tyf,h0,h1⟩,λp hp=>?_⟩;have J:=hv.1.2 p hp;simp only[zaf,xh,um,uq]at J;obtain⟨⟨⟨⟨_,⟨q2,_⟩⟩,⟨q3,_⟩⟩,_⟩,q5⟩:=J;obtain⟨i,hi⟩:=xR h2 hp;split at hi
 ·rename_i q;exact⟨zeb p.body 0 1 0 q q5 ua ua,ua,ua⟩
 ·cases hi
section
variable {v:Int}
theorem zal(hT:yj d=true){y:z7}(h:d.types[j]?=some y):vd d y.n=(j:Int):=by
 simp only[yj,um,List.all_eq_true]at hT;have J:(y,j)∈d.types.zipIdx:=uv (i:=j) (by rw[oA,h];simp);have:=hT.2 _ J;simp only[zvT,um,uq]at this;exact this.1
theorem ziy(hk:KD d)(hT:yj d=true)(ht:yQ d t=true)(hsh: ∀x∈m.n,0<=x.t/\ ∃y,d.types[x.t.toNat]?=some y):zcM d m t v=true↔VT d m.n t v:=by
 unfold zcM VT;by_cases U:t=(⟨#[105,110,116]⟩:UB)
 ·rw[uw U,uw U];simp only[um,uq];rfl
 rw[ur U,ur U];by_cases e2:t=(⟨#[98,111,111,108]⟩:UB)
 ·simp_all
 rw[ur e2,ur e2]
 have hn:yK d t=true:=by
  unfold yQ at ht;simp only[uO,uq,U,e2,oV]at ht;exact ht
 unfold yK zgJ at hn;rw[oo]at hn;obtain⟨y,hy,J⟩:=hn;have J:=uj J;obtain⟨j,hj⟩:=tK hy;rw[ur (by rw[<-J];exact(hk.nm y hy).2.2)];simp only[uO,um,uq,and_assoc];have hti:=zal hT hj;rw[J]at hti;refine or_congr Iff.rfl ⟨λ⟨h1,h2,h3⟩=>⟨ua,h2,?_⟩,λ⟨h1,h2,h3⟩=>⟨ua,h2,?_⟩⟩
 all_goals obtain⟨x,hx⟩:=zb (l:=m.n) (i:=(v - 1).toNat) ua
 all_goals obtain⟨h0,z,hz⟩:=hsh x (uv hx)
 ·rw[hx]at h3;simp only[uH,ui]at h3;unfold nmT
  simp_all
 ·unfold nmT at h3;rw[hx]at h3;simp only[ql]at h3;rw[hz]at h3;simp only[uH,Option.getD_some]at h3;have:=zal hT hz;rw[hx];simp only[uH,ui];rw[<-h3,this];omega
end
theorem zaW(h:zZ d m=true):yj d=true:=by
 simp only[zZ,um]at h;simp_all
theorem zuU(hk:KD d)(h:zZ d m=true):MT d m.g m.n:=by
 have hT:=zaW h;simp only[zZ,um,uq,uy,uu,List.all_eq_true]at h;obtain⟨⟨⟨⟨⟨_,h1⟩,h2⟩,h3⟩,h4⟩,h5⟩:=h
 have J: ∀x∈m.n,0<=x.t/\ ∃y,d.types[x.t.toNat]?=some y:=λx hx=>by
  obtain⟨q0,y,U,_⟩:=wg (h3 x hx);exact⟨q0,y,U⟩
 refine⟨ua,λi f v hf hv=>?_,λx hx=>?_,ua⟩
 ·have hz:=h4 (f,v) (uv (i:=i) (by rw[tl];exact⟨hf,hv⟩));exact(ziy hk hT (hk.gl f (uv hf)) J).1 hz
 ·obtain⟨q0,y,U,hl⟩:=wg (h3 x hx);refine⟨q0,y,U,hl,λi f v hf hv=>?_⟩;have hn:=h5 x hx;unfold we at hn;rw[U]at hn;simp only[uH,Option.getD_some,List.all_eq_true]at hn;have hz:=hn (f,v) (uv (i:=i) (by rw[tl];exact⟨hf,hv⟩));exact(ziy hk hT (hk.fl y (uv U) f (uv hf)) J).1 hz
theorem ziz{g:List Int}(hk:KD d)(hT:yj d=true)(h:MT d g ns):zZ d ⟨g,ns⟩=true:=by
 have U: ∀x∈(⟨g,ns⟩:Hp).n,0<=x.t/\ ∃y,d.types[x.t.toNat]?=some y:=λx hx=>by
  obtain⟨q0,y,J,_⟩:=h.nd x hx;exact⟨q0,y,J⟩
 simp only[zZ,um,uq,uy,uu,List.all_eq_true];refine⟨⟨⟨⟨⟨hT,by have:=h.gl;omega⟩,by have:=h.nl;omega⟩,λx hx=>?_⟩,λq hq=>?_⟩,λx hx=>?_⟩
 ·obtain⟨q0,y,J,hl,_⟩:=h.nd x hx;have:=ux.1 J;obtain⟨q1,_⟩:=this;simp only[xb,um,uy,uu,uq]
  grind
 ·obtain⟨i,hi⟩:=tK hq;obtain⟨hf,hv⟩:=zhP hi;exact(ziy hk hT (hk.gl q.1 (uv hf)) U).2 (h.gt i q.1 q.2 hf hv)
 ·obtain⟨q0,y,J,hl,hf⟩:=h.nd x hx;unfold we;rw[J];simp only[uH,Option.getD_some,List.all_eq_true];intro q hq;obtain⟨i,hi⟩:=tK hq;obtain⟨h1,h2⟩:=zhP hi;exact(ziy hk hT (hk.fl y (uv J) q.1 (uv h1)) U).2 (hf i q.1 q.2 h1 h2)
theorem zbz(h:wS d m=true):yl d=true/\zfX d=none/\zZ d m=true:=by
 unfold wS at h;simp only[um,uq]at h;obtain⟨h1,h2⟩:=ztl h.1
 simp_all
theorem zsD{m2:Hp}(h:wS d m=true)(hv:zZ d m2=true):wS d m2=true:=by
 unfold wS at h⊢
 simp_all
theorem zw0{v:Int}(hk:KD d)(U:yQ d t=true)(h:rtB d m t v=true):VT d m.n t v:=by
 unfold rtB at h;unfold VT;by_cases e1:t=(⟨#[105,110,116]⟩:UB)
 ·rw[uw e1]at h ⊢; simp only[um,uq]at h;exact h
 rw[ur e1]at h⊢;by_cases e2:t=(⟨#[98,111,111,108]⟩:UB)
 ·simp_all
 rw[ur e2]at h⊢
 have hn:yK d t=true:=by
  unfold yQ at U;simp only[uO,uq,e1,e2,oV]at U;exact U
 unfold yK zgJ at hn;rw[oo]at hn;obtain⟨y,hy,J⟩:=hn;have J:=uj J;rw[ur (by rw[<-J];exact(hk.nm y hy).2.2)];simp only[uO,um,uq,and_assoc]at h;refine h.imp id λ⟨h1,h2,h3⟩=>⟨h1,h2,?_⟩
 obtain⟨x,hx⟩:=zb (l:=m.n) (i:=(v - 1).toNat) ua;unfold tyN ndG at h3;unfold nmT
 simp_all
theorem zfC(U:zfX d=none)(hp:p∈d.procs): ∀f∈p.params,yQ d f.t=true:=by
 obtain⟨_,h2⟩:=y7 U;obtain⟨h2,_⟩:=y7 h2;intro f hf;obtain⟨i,J⟩:=xR h2 hp;split at J
 ·cases J
 ·split at J
  ·rename_i q;exact zg6 q f (List.mem_append_left _ hf)
  simp_all
theorem zpc(h:wS d m=true)(h0:0<=fuel)(h1:fuel<=1048576)(hi:zaZ d c.p=some i)(hp:d.procs[i]?=some p)(hc:zca d m c=0):
 ∃k0 q,(∀k,k0<=k->plF (rnV d fuel k p c.a (mc0 m))=some q)/\q.2.2.acc.length<=1099511627776/\zZ d ⟨q.2.2.g,q.2.2.ns⟩=true:=by
 obtain⟨hv,hf,hm⟩:=zbz h;have hk:=zsC hv hf;have hD:=zwZ hv hf h0 h1;have hmt:=zuU hk hm;have hpm:p∈d.procs:=uv hp;unfold zca at hc;rw[hi]at hc;simp only[hp]at hc;split at hc
 ·cases hc
 rename_i hl;split at hc
 ·cases hc
 rename_i hz;have hmo:MO d fuel (mc0 m):=⟨hmt,by simp[mc0],by simpa [mc0]using h0,by simp[mc0],by simp[mc0],by simp[mc0]⟩
 obtain⟨k0,r,hr,hkk⟩:=zuS hD 200 0 ua ua ua p c.a (mc0 m) hpm ua (λj f v hf2 hv2=>by
  refine zw0 hk (zfC hf hpm f (uv hf2)) ?_;rw[Bool.not_eq_true,List.any_eq_false]at hz;have:=hz (v,f) (uv (i:=j) (by rw[tl];exact⟨hv2,hf2⟩))
  simpa using this) hmo rfl (by simp[Ph,mc0])
 cases r with
 |out=>exact absurd hr id
 |ok v m'=>
  obtain⟨U,_⟩:=hr;refine⟨k0,(0,v,m'),λk hk'=>by have e:=hkk k hk';simp only at e;rw[e];rfl,?_,ziz hk (zaW hm) U.mo.mt⟩;have h2:=U.ph;have h3:=U.mo.t1;have h4:=U.mo.p0;simp only[Ph,mc0,tS]at h2
  grind
 |flt e m'=>
  obtain⟨J,h2⟩:=hr;refine⟨k0,(e,0,m'),λk hk'=>by have e:=hkk k hk';simp only at e;rw[e];rfl,?_,ziz hk (zaW hm) J.mt⟩;have h3:=J.t1;have h4:=J.p0;simp only[Ph,mc0,tS]at h2
  grind
def EvB(f:Nat->Bn)(Q:Bn->Prop):Prop:= ∃k0 r,Q r/\ ∀k,k0<=k->f k=r
variable {Q:Bn->Prop}
theorem EvB.const{r:Bn}(h:Q r):EvB (λ_=>r) Q:=⟨0,r,h,λ_ _=>rfl⟩
theorem EvB.succ{f g:Nat->Bn}(h:EvB g Q)(hfg: ∀k,f (k+1)=g k):EvB f Q:=by
 obtain⟨k0,r,J,hk⟩:=h;refine⟨k0+1,r,J,λk hk'=>?_⟩;obtain⟨j,rfl⟩: ∃j,k=j+1:=⟨k - 1,ua⟩
 simp_all
theorem EvB.congr{f g:Nat->Bn}(h:EvB g Q)(hfg: ∀k,f k=g k):EvB f Q:=by
 obtain⟨k0,r,J,hk⟩:=h;exact⟨k0,r,J,λk hk'=>by simp_all⟩
theorem EvB.imp{f:Nat->Bn}{Q':Bn->Prop}(h:EvB f Q)(J: ∀r,Q r->Q' r):EvB f Q':=by
 obtain⟨k0,r,U,hk⟩:=h;exact⟨k0,r,J r U,hk⟩
theorem EvB.pos{c:Prop}{_:Decidable c}{a b:Nat->Bn}(h:c)(e:EvB a Q):EvB (λk=>if c then a k else b k) Q:=e.congr λ_=>uw h
theorem EvB.neg{c:Prop}{_:Decidable c}{a b:Nat->Bn}(h: ¬c)(e:EvB b Q):EvB (λk=>if c then a k else b k) Q:=e.congr λ_=>ur h
structure KW (k:Kn):Prop where
 kn: ∀q,lkI k.kn q=some none\/ ∃v,lkI k.kn q=some (some v)/\Gm.inB v
 bu: ∀q,lkB k.bu q=some false\/lkB k.bu q=some true
 nd:(k.bu.map (·.1)).Nodup
def Bz(k k':Kn):Prop:= ∀q,lkB k'.bu q=lkB k.bu q
def QB(k:Kn)(V:Int->Prop):Bn->Prop
 | .ok v k'=>KW k'/\Bz k k'/\V v
 | .flt _ _=>True
 | .out=>False
theorem QB.imp{k:Kn}{V W:Int->Prop}(h: ∀v,V v->W v): ∀r,QB k V r->QB k W r
 | .ok v k',q=>⟨q.1,q.2.1,h v q.2.2⟩
 | .flt _ _,_=>trivial
 | .out,q=>q
theorem EvB.bind{k:Kn}{V W:Int->Prop}{f:Nat->Bn}{g:Nat->Int->Kn->Bn}(h:EvB f (QB k V))(hg: ∀v k',KW k'->Bz k k'->V v->EvB (λn=>g n v k') (QB k' W)):EvB (λn=>(f n).bind (g n)) (QB k W):=by
 obtain⟨k0,r,U,hk⟩:=h;cases r with
 |out=>exact absurd U id
 |flt e k'=>exact⟨k0,.flt e k',trivial,λn hn=>by simp only[hk n hn,Bn.bind]⟩
 |ok v k'=>
  obtain⟨h1,h2,h3⟩:=U;obtain⟨k1,r2,J,hk1⟩:=hg v k' h1 h2 h3;refine⟨max k0 k1,r2,?_,λn hn=>by simp only[hk n ua,Bn.bind];grind⟩;cases r2 with
  |out=>exact J
  |flt e k2=>trivial
  |ok u k2=>exact⟨J.1,λq=>(J.2.1 q).trans (h2 q),J.2.2⟩
def zsE:List K2:=(List.range 20).flatMap λi=>(List.range 5000).filterMap λ(n:Nat)=>zpK i (n:Int)
theorem zuV{v:Int}(J:i<20)(U:0<=v)(h1:v<5000): ∃q,zpK i v=some q/\q∈zsE:=by
 have hk:zpK i v=some (⟨i,ua⟩,⟨v.toNat,ua⟩):=by
  unfold zpK;rw[oB ⟨ua,U,ua⟩]
 refine⟨_,hk,?_⟩;unfold zsE;rw[List.mem_flatMap];refine⟨i,List.mem_range.2 J,?_⟩
 grind
def nfK(k:Kn):Nat:=(zsE.filter λq=>decide (lkB k.bu q=some false)).length
theorem filter_le{α:Type}{p J:α->Bool}(h: ∀x,J x=true->p x=true): ∀l:List α,(l.filter J).length<=(l.filter p).length
 | []=>uJ _
 |x::l=>by
  have:=filter_le h l
  grind
theorem filter_lt{α:Type}{p J:α->Bool}(h: ∀x,J x=true->p x=true){y:α}(U:p y=true)(h2: ¬J y=true): ∀l:List α,y∈l->(l.filter J).length<(l.filter p).length
 |x::l,hy=>by
  have hle:=filter_le h l;simp only[qY];cases hy with
  |head=>grind
  |tail _ hy=>
   have:=filter_lt h U h2 l hy
   grind
theorem zqq{k k':Kn}(h:Bz k k'):nfK k'=nfK k:=by
 have e:(λq=>decide (lkB k'.bu q=some false))=λq=>decide (lkB k.bu q=some false):=funext λq=>by rw[h q]
 unfold nfK;rw[e]
variable {q:K2}
theorem zec{l:List (K2×EV)}{J:K2}:lkB (putG l q (.o (.k (.bool b)))) J=if q=J then some b else lkB l J:=by
 unfold lkB;rw[ju]
 grind
theorem zsF{l:List (K2×EV)}{J:K2}{v:Int}:lkI (putG l q (.o (ki v))) J=if q=J then some (some v)else lkI l J:=by
 unfold lkI;rw[ju]
 grind
theorem zuW{l:List (K2×EV)}(h:q∉l.map (·.1)):getG l q=none:=by
 induction l with
 |nil=>rfl
 |cons p l ih=>
  simp only[uN,uI,oX]at h;obtain⟨a,b⟩:=p;simp only[getG,ur (Ne.symm h.1)];exact ih h.2
theorem zmr{q U:K2}: ∀ {l:List (K2×EV)},(l.map (·.1)).Nodup->getG (zbp l q) U=if q=U then none else getG l U
 | [],_=>by simp[zbp,getG]
 |(a,b)::l,h=>by
  simp only[uN,qk]at h;simp only[zbp];by_cases e:a=q
  ·rw[uw e];subst e;by_cases J:a=U
   ·subst J;rw[uw rfl];exact zuW h.1
   ·rw[ur J];simp only[getG,ur J]
  ·rw[ur e];simp only[getG];by_cases J:a=U
   ·grind
   ·rw[ur J,ur J];exact zmr h.2
theorem ziA{q x:K2}: ∀ {l:List (K2×EV)},x∈(zbp l q).map (·.1)->x∈l.map (·.1)
 | [],h=>h
 |(a,b)::l,h=>by
  simp only[zbp]at h;by_cases e:a=q
  ·simp_all
  ·rw[ur e]at h;simp only[uN,uI]at h⊢;exact h.imp id ziA
theorem zfD{q:K2}: ∀ {l:List (K2×EV)},(l.map (·.1)).Nodup->((zbp l q).map (·.1)).Nodup
 | [],h=>h
 |(a,b)::l,h=>by
  simp only[uN,qk]at h;simp only[zbp];by_cases e:a=q
  ·simp_all
  ·rw[ur e];simp only[uN,qk];exact⟨λJ=>h.1 (ziA J),zfD h.2⟩
theorem ziB{q x:K2}{v:EV}: ∀ {l:List (K2×EV)},x∈(putG l q v).map (·.1)->x=q\/x∈l.map (·.1)
 | [],h=>by simp only[putG,uN,qv,tv]at h;exact .inl h
 |(a,b)::l,h=>by
  simp only[putG]at h;by_cases e:a=q
  ·simp_all
  ·rw[ur e]at h;simp only[uN,uI]at h⊢;rcases h with h|h
   ·simp_all
   ·exact(ziB h).imp id .inr
theorem zfE{q:K2}{v:EV}: ∀ {l:List (K2×EV)},(l.map (·.1)).Nodup->((putG l q v).map (·.1)).Nodup
 | [],h=>by simp[putG]
 |(a,b)::l,h=>by
  simp only[uN,qk]at h;simp only[putG];by_cases e:a=q
  ·simp_all
  ·rw[ur e];simp only[uN,qk];exact⟨λJ=>(ziB J).elim e h.1,zfE h.2⟩
theorem zms{l:List (K2×EV)}{J:K2}(h:(l.map (·.1)).Nodup):lkB (zbp l q) J=if q=J then some false else lkB l J:=by
 unfold lkB;rw[zmr h]
 grind
structure FM (d:zg) (m:Hp):Prop where
 kd:KD d
 mt:MT d m.g m.n
 ml:d.measures.length<20
 ms: ∀x∈d.measures,okE x.x/\exT d (zbh d x.t) false x.x=((⟨#[105,110,116]⟩:UB),0)/\Gm.inB x.z/\yK d x.t=true/\ ¬x.t=(⟨#[]⟩:UB)
section
variable {k:Kn}
theorem Bz.refl(k:Kn):Bz k k:=λ_=>rfl
theorem zmt(hF:FM d m)(hk:KW k){t1 s:Str}{v:Int}(ht:fieldT d t1 s=(t,0))(hv:VT d m.n t1 v):QB k (VT d m.n t) (fldI d m v s k):=by
 unfold fldI;by_cases J:v=0
 ·rw[uw J];trivial
 ·rw[ur J];obtain⟨x,hx,hl⟩:=zaA ht;obtain⟨y,h1,h2,h3,h4,h5,h6⟩:=zg4 hF.kd.toTyD hF.mt hv hx J;obtain⟨i,f,hi,U,hft⟩:=jX hl;obtain⟨u,hu⟩: ∃u,y.f[i]?=some u:=zb (by grind);rw[ur ua];simp only[h1];rw[ur ua];simp only[h4,hi,hu];exact⟨hk,Bz.refl k,by rw[<-hft];exact h6 i f u U hu⟩
theorem zmu(hF:FM d m)(hk:KW k){s:Str}(h:look d.globals s=some u):QB k (VT d m.n u) (match ixF d.globals s with
 |none=>Bn.out
 |some i=>match m.g[i]? with
  |none=> .out
  |some v=> .ok v k):=by
 obtain⟨i,f,hi,J,U⟩:=jX h;obtain⟨v,hv⟩: ∃v,m.g[i]?=some v:=zb (by rw[hF.mt.gl];grind);simp only[hi,hv];exact⟨hk,Bz.refl k,by rw[<-U];exact hF.mt.gt i f v J hv⟩
theorem zsG(hF:FM d m)(hk:KW k){s:Str}{nd:Int}(hn:VT d m.n t nd)(h0:t=(⟨#[]⟩:UB)->nd=0)(h:look (zbh d t) s=some u):QB k (VT d m.n u) (namI d m nd s k):=by
 unfold namI;unfold zbh at h;by_cases U:t=(⟨#[]⟩:UB)
 ·rw[uw U]at h;by_cases J:s=(⟨#[116,104,105,115]⟩:UB)
  ·rw[uw J,h0 U];exact⟨hk,Bz.refl k,VT.zero _ _ _⟩
  ·rw[ur J];exact zmu hF hk h
 ·rw[ur U]at h;by_cases J:s=(⟨#[116,104,105,115]⟩:UB)
  ·rw[uw J];have e:look (⟨(⟨#[116,104,105,115]⟩:UB),t⟩::d.globals) s=some t:=by unfold look;rw[List.find?_cons_of_pos (by simpa using J.symm)];rfl
   rw[e,ui]at h;subst h;exact⟨hk,Bz.refl k,hn⟩
  ·rw[ur J];have e:look (⟨(⟨#[116,104,105,115]⟩:UB),t⟩::d.globals) s=look d.globals s:=by unfold look;rw[List.find?_cons_of_neg (by simpa using λe=>J e.symm)]
   rw[e]at h;exact zmu hF hk h
theorem ziC(hk:KW k)(n:Int):QB k (VT d m.n (⟨#[105,110,116]⟩:UB)) (bdI n k):=by
 unfold bdI;split
 ·trivial
 ·exact⟨hk,Bz.refl k,VT.int.2 (by unfold Gm.inB;omega)⟩
theorem zsH(hk:KW k){vs:List Fld}{op a b:Int}{s ta tb:Str}(ho:9<=op/\op<=17\/op=22\/op=23)(J:zB d vs false op s [ta,tb]=(t,0))(ha:VT d m.n ta a)(hb:VT d m.n tb b):QB k (VT d m.n t) (zjV op a b k):=by
 by_cases h1:op=14\/op=15
 ·have ht:t=(⟨#[98,111,111,108]⟩:UB):=by
   rcases h1 with rfl|rfl
   all_goals
    simp[zB]at J;split at J
    ·simp at J
    ·simp only[uz,qf]at J;exact J.symm
  subst ht;rcases h1 with rfl|rfl
  ·exact⟨hk,Bz.refl k,VT.bool.2 (xd _)⟩
  ·exact⟨hk,Bz.refl k,VT.bool.2 (xd _)⟩
 by_cases h2:op=16
 ·subst h2;simp[zB]at J;rw[(zM J).1];exact⟨hk,Bz.refl k,VT.bool.2 (xd _)⟩
 by_cases h3:op=17
 ·subst h3;simp[zB]at J;rw[(zM J).1];exact⟨hk,Bz.refl k,VT.bool.2 (xd _)⟩
 unfold zB at J;rw[ur ua,ur ua,ur ua,ur ua,ur ua,ur ua,ur ua,ur ua,ur ua,ur ua]at J;obtain⟨rfl,U⟩:=zM J;have e1:ta=(⟨#[105,110,116]⟩:UB):=U 0 ue;have e2:tb=(⟨#[105,110,116]⟩:UB):=U 1 ue;subst e1 e2;have ia:=VT.int.1 ha;have ib:=VT.int.1 hb;unfold Gm.inB at ia ib;unfold zjV;by_cases o9:op=9
 ·rw[uw o9];exact ziC hk _
 rw[ur o9];by_cases o10:op=10
 ·rw[uw o10];exact ziC hk _
 rw[ur o10];by_cases o11:op=11
 ·rw[uw o11];unfold znP;rw[uw (by unfold zke;omega)];split
  ·trivial
  ·rename_i hp;refine⟨hk,Bz.refl k,VT.int.2 ?_⟩;have:(a*b).natAbs<=1099511627776:=by rw[ot];omega
   unfold Gm.inB;omega
 rw[ur o11];by_cases o22:op=22
 ·rw[uw o22];exact⟨hk,Bz.refl k,VT.int.2 (by unfold Gm.inB;omega)⟩
 rw[ur o22];by_cases o23:op=23
 ·rw[uw o23];exact⟨hk,Bz.refl k,VT.int.2 (by unfold Gm.inB;omega)⟩
 rw[ur o23,ur (λe=>h1 (.inl e)),ur (λe=>h1 (.inr e)),ur h2,ur h3];by_cases b0:b=0
 ·rw[uw b0];trivial
 rw[ur b0];by_cases o12:op=12
 ·rw[uw o12];exact ziC hk _
 rw[ur o12];refine⟨hk,Bz.refl k,VT.int.2 ?_⟩;have:(Int.tmod a b).natAbs<=a.natAbs:=by rw[Uk];exact Nat.mod_le _ _
 unfold Gm.inB;omega
end
def ME(d:zg)(m:Hp)(n:Nat):Prop:= ∀(i:Nat) x v k,d.measures[i]?=some x->VT d m.n x.t v->KW k->nfK k<=n->EvB (λg=>meV d m g i v k) (QB k (VT d m.n (⟨#[105,110,116]⟩:UB)))
def PI(d:zg)(m:Hp)(n:Nat)(t:Str)(nd:Int)(e:Ex):Prop:= ∀u k,exT d (zbh d t) false e=(u,0)->KW k->nfK k<=n->EvB (λg=>inV d m g nd e k) (QB k (VT d m.n u))
theorem zcj{s:Str}(h:vj d false s ts=(u,0)): ∃i x,zpL d s=some i/\d.measures[i]?=some x/\ts.length=1/\yw d (lsA ts 0) x.t=true/\u=(⟨#[105,110,116]⟩:UB):=by
 unfold vj at h;rw[uw rfl]at h;unfold zaR ztj at h;rcases vI (λx:Ms=>decide (x.n=s)) d.measures with⟨J,_⟩|⟨i,x,J,h2,h3⟩
 ·simp_all
 ·rw[h3]at h;simp only at h;split at h
  ·simp at h
  ·rename_i q1;split at h
   ·simp at h
   ·rename_i U;simp only[uz,qf]at h;exact⟨i,x,J,h2,ua,by simpa using U,h.symm⟩
theorem zuX{op n nd:Int}{s:Str}{l:List Ex}{x:Ex}{k:Kn}(J:l[i]?=some x)(h:EvB (λg=>inV d m g nd x k) Q):EvB (λg=>atV d m g nd (.mk op n s l) i k) Q:=
 h.succ λg=>by rw[atV];simp only[Ex.l,J]
mutual
theorem zmv{d:zg}{m:Hp}{N:Nat}{t:Str}{nd:Int}(hF:FM d m)(hM:ME d m N)(hnd:VT d m.n t nd)(h0:t=(⟨#[]⟩:UB)->nd=0): ∀e:Ex,okE e->PI d m N t nd e
 | .mk op n s l,hok=>by
   have ihl:=zqr hF hM hnd h0 l hok.2;intro u k ht hk hb;obtain⟨ts,hts,h7,hn⟩:=zd9 ht;obtain⟨hl,hat⟩:=vJ hts;obtain⟨klen,k1,k3,kop,k2,kn1,kn2⟩:=jl hok.1
   -- a part
   have prt: ∀(i:Nat) (x:Ex) (k':Kn),l[i]?=some x->KW k'->Bz k k'->EvB (λg=>atV d m g nd (.mk op n s l) i k') (QB k' (VT d m.n (lsA ts i))):=λi x k' hx hk' hz=>
    zuX hx (ihl x (uv hx) _ k' (hat i x hx) hk' (by rw[zqq hz];exact hb))
   have one:(op=5\/op=8\/op=18\/op=24)-> ∃x,l[0]?=some x:=λh=>zb (by have:=k1 h;omega)
   have two:(9<=op/\op<=17\/op=19\/op=20\/op=22\/op=23)->(∃x,l[0]?=some x)/\ ∃x,l[1]?=some x:=λh=>⟨zb (by have:=k2 h;omega),zb (by have:=k2 h;omega)⟩
   refine EvB.succ (g:=λg=>inV d m (g+1) nd (.mk op n s l) k) ?_ λg=>rfl
   simp only[inV,Ex.op,Ex.n,Ex.s];by_cases o1:op=1\/op=2
   ·refine EvB.pos o1 ?_;refine EvB.const ⟨hk,Bz.refl k,?_⟩;rcases o1 with rfl|rfl
    ·have:=hn ub;simp[zB]at this;rw[<-this];exact VT.int.2 (kn1 rfl)
    ·have:=hn ub;simp[zB]at this;rw[<-this];exact VT.bool.2 (kn2 rfl)
   refine EvB.neg o1 ?_;by_cases o3:op=3
   ·refine EvB.pos o3 ?_;exact EvB.const ⟨hk,Bz.refl k,VT.zero _ _ _⟩
   refine EvB.neg o3 ?_;by_cases o4:op=4
   ·refine EvB.pos o4 ?_;subst o4;have hn:=hn ub;simp only[zB,show ¬(4:Int)=1 by decide,show ¬(4:Int)=2 by decide,show ¬(4:Int)=3 by decide,uM,uX]at hn;cases hlk:look (zbh d t) s with
    |none=>simp_all
    |some u'=>
     rw[hlk]at hn;simp only[uz,qf]at hn;subst hn;exact EvB.const (zsG hF hk hnd h0 hlk)
   refine EvB.neg o4 ?_;by_cases o5:op=5
   ·refine EvB.pos o5 ?_;obtain⟨x,hx⟩:=one (.inl o5);subst o5;have hn:=hn ub;simp only[zB,show ¬(5:Int)=1 by decide,show ¬(5:Int)=2 by decide,show ¬(5:Int)=3 by decide,show ¬(5:Int)=4 by decide,uM,uX]at hn;exact(prt 0 x k hx hk (Bz.refl k)).bind λv k' hk' _ hv=>EvB.const (zmt hF hk' hn hv)
   refine EvB.neg o5 ?_;by_cases o7:op=7
   ·refine EvB.pos o7 ?_;obtain⟨i,x,hi,hx,hl1,hf,rfl⟩:=zcj (h7 o7).1;obtain⟨y,hy⟩: ∃y,l[0]?=some y:=zb ua;simp only[hi];exact(prt 0 y k hy hk (Bz.refl k)).bind λv k' hk' hz hv=>hM i x v k' hx (hv.fits hf) hk' (by rw[zqq hz];exact hb)
   refine EvB.neg o7 ?_;have hn:=hn o7;by_cases o8:op=8
   ·refine EvB.pos o8 ?_;obtain⟨x,hx⟩:=one (.inr (.inl o8));subst o8;simp[zB]at hn;obtain⟨rfl,hall⟩:=zM hn;exact(prt 0 x k hx hk (Bz.refl k)).bind λv k' hk' _ hv=>EvB.const (ziC hk' _)
   refine EvB.neg o8 ?_;by_cases o18:op=18
   ·refine EvB.pos o18 ?_;obtain⟨x,hx⟩:=one (.inr (.inr (.inl o18)));have hl0:=k1 (.inr (.inr (.inl o18)));subst o18;simp[zB]at hn;obtain⟨rfl,hall⟩:=zM hn;refine(prt 0 x k hx hk (Bz.refl k)).bind λv k' hk' _ hv=>EvB.const ⟨hk',Bz.refl k',?_⟩
    rw[hall 0 ua]at hv;have hi:=VT.bool.1 hv;rw[wrap64 ua];exact VT.bool.2 ua
   refine EvB.neg o18 ?_;by_cases o24:op=24
   ·refine EvB.pos o24 ?_;obtain⟨x,hx⟩:=one (.inr (.inr (.inr o24)));have hl0:=k1 (.inr (.inr (.inr o24)));subst o24;simp[zB]at hn;obtain⟨rfl,hall⟩:=zM hn;refine(prt 0 x k hx hk (Bz.refl k)).bind λv k' hk' _ hv=>?_;rw[hall 0 ua]at hv;have hi:=VT.int.1 hv;unfold Gm.inB at hi;refine EvB.pos ua (EvB.const ⟨hk',Bz.refl k',VT.int.2 ?_⟩);unfold Gm.inB zi5;split
    ·omega
    ·have hlg:Nat.log2 v.toNat<64:=by rw[oC ua];omega
     omega
   refine EvB.neg o24 ?_;by_cases o19:op=19
   ·refine EvB.pos o19 ?_;obtain⟨⟨x,hx⟩,y,hy⟩:=two ua;have hl2:=k2 ua;subst o19;simp[zB]at hn;obtain⟨rfl,hall⟩:=zM hn;refine(prt 0 x k hx hk (Bz.refl k)).bind λv k' hk' hz hv=>?_;have h2:=prt 1 y k' hy hk' hz;rw[hall 1 ua]at h2;by_cases v0:v=0
    ·refine EvB.pos v0 ?_;exact EvB.const ⟨hk',Bz.refl k',VT.zero _ _ _⟩
    simp_all
   refine EvB.neg o19 ?_;by_cases o20:op=20
   ·refine EvB.pos o20 ?_;obtain⟨⟨x,hx⟩,y,hy⟩:=two ua;have hl2:=k2 ua;subst o20;simp[zB]at hn;obtain⟨rfl,hall⟩:=zM hn;refine(prt 0 x k hx hk (Bz.refl k)).bind λv k' hk' hz hv=>?_;have h2:=prt 1 y k' hy hk' hz;rw[hall 1 ua]at h2;by_cases v0:v=0
    ·simp_all
    ·refine EvB.neg v0 ?_;exact EvB.const ⟨hk',Bz.refl k',VT.bool.2 (.inr rfl)⟩
   refine EvB.neg o20 ?_;by_cases o21:op=21
   ·refine EvB.pos o21 ?_;have hl3:=k3 o21;subst o21;obtain⟨x,hx⟩: ∃x,l[0]?=some x:=zb ua;obtain⟨y,hy⟩: ∃y,l[1]?=some y:=zb ua;obtain⟨z,hz⟩: ∃z,l[2]?=some z:=zb ua
    simp only[zB,show ¬(21:Int)=1 by decide,show ¬(21:Int)=2 by decide,show ¬(21:Int)=3 by decide,show ¬(21:Int)=4 by decide,show ¬(21:Int)=5 by decide,show ¬(21:Int)=6 by decide,show ¬((21:Int)=14\/(21:Int)=15) by decide,
     show ¬((21:Int)=16\/(21:Int)=17) by decide,show ¬((21:Int)=18\/(21:Int)=19\/(21:Int)=20) by decide,uM,uX]at hn
    have hfit: ∀(ns:List Nd) (v:Int),(VT d ns (lsA ts 1) v->VT d ns u v)/\(VT d ns (lsA ts 2) v->VT d ns u v):=λns v=>by
     split at hn
     ·split at hn
      ·rename_i hf;simp only[uz,qf]at hn;subst hn;exact⟨λh=>h.fits hf,λh=>h⟩
      ·split at hn
       ·rename_i hf;simp only[uz,qf]at hn;subst hn;exact⟨λh=>h,λh=>h.fits hf⟩
       ·simp at hn
     ·simp at hn
    refine(prt 0 x k hx hk (Bz.refl k)).bind λv k' hk' hz2 hv=>?_;by_cases v0:v=0
    ·exact EvB.pos v0 ((prt 2 z k' hz hk' hz2).imp (QB.imp λv h=>(hfit m.n v).2 h))
    ·exact EvB.neg v0 ((prt 1 y k' hy hk' hz2).imp (QB.imp λv h=>(hfit m.n v).1 h))
   refine EvB.neg o21 ?_;by_cases o6:op=6
   ·subst o6;simp[zB]at hn
   -- two parts
   have ho:9<=op/\op<=17\/op=22\/op=23:=by omega
   obtain⟨⟨x,hx⟩,y,hy⟩:=two ua;have hl2:=k2 ua
   have hts2:ts=[lsA ts 0,lsA ts 1]:=by
    match ts,hl.trans hl2 with
    | [a,b],_=>rfl
   rw[hts2]at hn;refine(prt 0 x k hx hk (Bz.refl k)).bind λa k' hk' hz ha=>?_;exact(prt 1 y k' hy hk' hz).bind λb k2 hk2 _ hb2=>EvB.const (zsH hk2 ho hn ha hb2)
theorem zqr{d:zg}{m:Hp}{N:Nat}{t:Str}{nd:Int}(hF:FM d m)(hM:ME d m N)(hnd:VT d m.n t nd)(h0:t=(⟨#[]⟩:UB)->nd=0): ∀l:List Ex,okL l-> ∀x∈l,PI d m N t nd x
 | [],_=>λx hx=>by cases hx
 |y::r,hok=>λx hx=>by
  have h1:=zmv hF hM hnd h0 y hok.1;have h2:=zqr hF hM hnd h0 r hok.2
  grind
end
theorem zmw{n:Nat}(U:FM d m)(ih:1<=n->ME d m (n - 1)):ME d m n:=by
 intro i x v k hx hv hk hb;obtain⟨q1,q2,q3,q4,q5⟩:=U.ms x (uv hx);refine EvB.succ (g:=λg=>meV d m (g+1) i v k) ?_ λg=>rfl
 simp only[meV,hx];by_cases h0:v=0
 ·exact EvB.pos h0 (EvB.const ⟨hk,Bz.refl k,VT.int.2 q3⟩)
 refine EvB.neg h0 ?_;obtain⟨p1,p2,_⟩:=hv.node U.kd.toTyD q4 h0;have hnl:=U.mt.nl;obtain⟨q,hq,hqm⟩:=zuV (i:=i) (v:=v) (by have:=(ux.1 hx).1;have:=U.ml;omega) ua ua;simp only[hq];rcases hk.kn q with h1|⟨w,h1,h2⟩
 ·simp only[h1];rcases hk.bu q with h3|h3
  ·simp only[h3]
   have hk1:KW { k with bu:=putG k.bu q (.o (.k (.bool true))) }:=⟨hk.kn,λJ=>by
    simp only[zec];by_cases e:q=J
    ·rw[uw e];exact .inr rfl
    ·rw[ur e];exact hk.bu J,zfE hk.nd⟩
   have hlt:nfK { k with bu:=putG k.bu q (.o (.k (.bool true))) }<nfK k:=by
    unfold nfK;refine filter_lt (y:=q) (λJ h=>?_) (by simp[h3]) (by simp[zec]) _ hqm;simp only[zec,uq]at h⊢;by_cases e:q=J
    ·rw[uw e]at h;cases h
    ·rw[ur e]at h;exact h
   obtain⟨k0,r,hr,hkk⟩:=zmv U (ih ua) hv (λe=>absurd e q5) x.x q1 _ _ q2 hk1 ua;cases r with
   |out=>exact absurd hr id
   |flt e k'=>exact⟨k0,.flt e k',trivial,λg hg=>by have e:=hkk g hg;simp only at e;simp only[e,Bn.bind]⟩
   |ok u k'=>
    obtain⟨r1,r2,r3⟩:=hr;refine⟨k0,.ok u ⟨putG k'.kn q (.o (ki u)),zbp k'.bu q⟩,⟨⟨λJ=>?_,λJ=>?_,zfD r1.nd⟩,λJ=>?_,r3⟩,λg hg=>by have e:=hkk g hg;simp only at e;simp only[e,Bn.bind]⟩
    ·simp only[zsF];by_cases e:q=J
     ·rw[uw e];exact .inr ⟨u,rfl,VT.int.1 r3⟩
     ·rw[ur e];exact r1.kn J
    ·simp only[zms r1.nd];by_cases e:q=J
     ·simp_all
     ·rw[ur e];exact r1.bu J
    ·simp only[zms r1.nd];by_cases e:q=J
     ·simp_all
     ·rw[ur e,r2 J];simp only[zec,ur e]
  ·simp only[h3];exact EvB.const trivial
 ·simp only[h1];exact EvB.const ⟨hk,Bz.refl k,VT.int.2 h2⟩
theorem zuY(J:FM d m): ∀n,ME d m n:=by
 intro n
 induction n with
 |zero=>exact zmw J λh=>absurd h ua
 |succ n ih=>exact zmw J λ_=>ih
theorem kw0:KW kn0:=⟨λ_=> .inl rfl,λ_=> .inl rfl,List.Pairwise.nil⟩
theorem zu2(h:wS d m=true):FM d m:=by
 obtain⟨hv,hc,hm⟩:=zbz h;have hk:=zsC hv hc;have U:=zuU hk hm;obtain⟨_,h2⟩:=y7 hc;obtain⟨_,h2⟩:=y7 h2;obtain⟨h3,h2⟩:=y7 h2;obtain⟨_,h2⟩:=y7 h2;obtain⟨h3,_⟩:=y7 h3;obtain⟨h2,_⟩:=y7 h2;simp only[yl,jx,yr,um,List.all_eq_true,uy,uu]at hv;refine⟨hk,U,ua,λx hx=>?_⟩;have J:=hv.2.1.1.1 x hx;simp only[vP,um,uy,uu]at J;obtain⟨⟨⟨⟨_,m1⟩,m2⟩,m3⟩,m4⟩:=J;have hex:okE x.x:=by unfold yE at m4;exact(jk x.x 1 (uj m4)).1
 refine⟨hex,?_,by unfold Gm.inB;omega,?_,λe=>?_⟩
 ·obtain⟨i,hi⟩:=xR h2 hx;unfold y5 at hi
  grind
 ·obtain⟨i,hi⟩:=xR h3 hx
  grind
 ·rw[e]at m1;exact absurd m1 ub
def EvO(f:Nat->Option α)(Q:α->Prop):Prop:= ∃k0 r,Q r/\ ∀k,k0<=k->f k=some r
def QV(V:α->Prop):Vn α->Prop
 | .ok v=>V v
 | .flt _=>True
 | .out=>False
def EvV(f:Nat->Vn α)(V:α->Prop):Prop:= ∃k0 r,QV V r/\ ∀k,k0<=k->f k=r
theorem EvO.const{r:α}{Q:α->Prop}(h:Q r):EvO (λ_=>some r) Q:=⟨0,r,h,λ_ _=>rfl⟩
variable {r:Vn α}
theorem EvV.const{V:α->Prop}(h:QV V r):EvV (λ_=>r) V:=⟨0,r,h,λ_ _=>rfl⟩
theorem EvV.bind{α β:Type}{f:Nat->Vn α}{g:Nat->α->Vn β}{V:α->Prop}{W:β->Prop}(h:EvV f V)(hg: ∀v,V v->EvV (λk=>g k v) W):EvV (λk=>(f k).bind (g k)) W:=by
 obtain⟨k0,r,U,hk⟩:=h;cases r with
 |out=>exact absurd U id
 |flt e=>exact⟨k0,.flt e,trivial,λk h=>by simp only[hk k h,Vn.bind]⟩
 |ok v=>
  obtain⟨k1,r2,J,hk1⟩:=hg v U;exact⟨max k0 k1,r2,J,λk h=>by simp only[hk k ua,Vn.bind];grind⟩
theorem trB{f:Nat->Bn}(h:EvB f (QB kn0 (VT d m.n t))):EvO (λg=>(trV (f g)).map λq=>(q.1,q.2.1)) λq=>q.2=0->q.1=0\/VT d m.n t q.1:=by
 obtain⟨k0,r,U,hk⟩:=h;cases r with
 |out=>exact absurd U id
 |flt e k=>exact⟨k0,(0,e),λ_=> .inl rfl,λg J=>by simp only[hk g J];rfl⟩
 |ok v k=>exact⟨k0,(v,0),λ_=> .inr U.2.2,λg J=>by simp only[hk g J];rfl⟩
theorem zu3{n:Int}(h:isB m n=true):0<=n/\n<=m.n.length:=by
 unfold isB at h;simpa using h
theorem zqs(J:FM d m){n:Int}(h:isB m n=true):VT d m.n (tyI d m n) n/\(¬n=0-> ∃y∈d.types,y.n=tyI d m n):=by
 obtain⟨h0,h1⟩:=zu3 h;by_cases U:n=0
 ·rw[U];exact⟨VT.zero _ _ _,λh=>absurd rfl h⟩
 ·obtain⟨x,hx⟩:=zb (l:=m.n) (i:=(n - 1).toNat) ua;obtain⟨q0,y,hy,_⟩:=J.mt.nd x (uv hx);have e:tyI d m n=y.n:=by unfold tyI tyN ndG;rw[ur U,hx];simp only[Option.getD_some,hy,uH]
  have hm:=uv hy;obtain⟨n1,n2,n3⟩:=J.kd.nm y hm;refine⟨?_,λ_=>⟨y,hm,e.symm⟩⟩;rw[e];unfold VT;rw[ur n1,ur n2,ur n3];refine .inr ⟨ua,h1,?_⟩;unfold nmT
  simp_all
theorem zu4(U:FM d m)(s:Str)(nd:Int):EvO (λg=>meaE d m g s nd) λq=>q.2=0->Gm.inB q.1:=by
 unfold meaE;by_cases J:isB m nd=false
 ·simp only[uw J];exact EvO.const (λh=>absurd h ub)
 simp only[ur J];rcases vI (λx:Ms=>decide (x.n=s)) d.measures with⟨_,h2⟩|⟨i,x,h2,h3,_⟩
 ·have e:zpL d s=none:=h2;simp only[e];exact EvO.const (λh=>absurd h ub)
 ·have e:zpL d s=some i:=h2;simp only[e,h3];by_cases h4: ¬nd=0/\ ¬tyI d m nd=x.t
  ·simp only[uw h4];exact EvO.const (λh=>absurd h ub)
  ·simp only[ur h4];have hb:isB m nd=true:=by simpa using J
   have hv:VT d m.n x.t nd:=by
    by_cases hz:nd=0
    ·rw[hz];exact VT.zero _ _ _
    ·have e:tyI d m nd=x.t:=tC λe=>h4 ⟨hz,e⟩
     rw[<-e];exact(zqs U hb).1
   obtain⟨k0,r,hr,hk⟩:=trB (zuY U (nfK kn0) i x nd kn0 h3 hv kw0 (uJ _));exact⟨k0,r,λh=>(hr h).elim (λe=>by rw[e];unfold Gm.inB;omega) VT.int.1,hk⟩
theorem zpd(hv:yl d=true): ∀t∈d.types,¬t.n=(⟨#[]⟩:UB):=λt J e=>by
 simp only[yl,um,List.all_eq_true]at hv;have:=hv.1.1.2 t J;simp only[zag,um]at this;rw[e]at this;exact absurd this.1 ub
theorem zu5(e:Ex)(nd:Int):EvO (λg=>ztk d m g e nd) λq=>q.2=0->Gm.inB q.1:=by
 unfold ztk;by_cases h1:wS d m=false\/yE e=false
 ·simp only[uw h1];exact EvO.const (λh=>absurd h ub)
 simp only[ur h1];by_cases h2:isB m nd=false
 ·simp only[uw h2];exact EvO.const (λh=>absurd h ub)
 simp only[ur h2];by_cases h3: ¬(exT d (zbh d (tyI d m nd)) false e).2=0
 ·simp only[uw h3];exact EvO.const (λh=>absurd h h3)
 simp only[ur h3];have J:wS d m=true:=by simpa using λh=>h1 (.inl h)
 have U:yE e=true:=by simpa using λh=>h1 (.inr h)
 have hF:=zu2 J;have hb:isB m nd=true:=by simpa using h2
 have hokE:okE e:=by unfold yE at U;exact(jk e 1 (uj U)).1
 obtain⟨hv,hm⟩:=zqs hF hb
 have h0:tyI d m nd=(⟨#[]⟩:UB)->nd=0:=λe=>tC λhz=>by
  obtain⟨y,hy,hyn⟩:=hm hz;exact zpd (zbz J).1 y hy (hyn.trans e)
 obtain⟨k0,r,hr,hk⟩:=trB (zmv hF (zuY hF (nfK kn0)) hv h0 e hokE _ kn0 (oN rfl (tP.1 h3)) kw0 (uJ _));exact⟨k0,r,λh=>(hr h).elim (λe=>by rw[e];unfold Gm.inB;omega) λh=>h.inB hF.mt.nl,hk⟩
theorem zmx{f:Nat->Int->Option (Int×Int)}(hf: ∀n,EvO (λg=>f g n) λq=>q.2=0->Gm.inB q.1): ∀(l:List Int) (s:Int),EvV (λg=>sumN (f g) l s) λ_=>True
 | [],s=>EvV.const trivial
 |n::r,s=>by
  obtain⟨k0,⟨v,e⟩,hr,hk⟩:=hf n
  replace hk: ∀k,k0<=k->f k n=some (v,e):=hk
  by_cases he:e=0
  ·have hi:=hr he;by_cases hb:bdB (s+v)=true
   ·obtain⟨k1,r2,J,U⟩:=zmx hf r (s+v);refine⟨max k0 k1,r2,J,λk h=>?_⟩;rw[<-U k ua];show sumN (f k) (n::r) s=_;rw[sumN,hk k ua]
    simp_all
   ·refine⟨k0,.flt 5,trivial,λk h=>?_⟩;show sumN (f k) (n::r) s=_;rw[sumN,hk k h]
    simp_all
  ·refine⟨k0,.flt e,trivial,λk h=>?_⟩;show sumN (f k) (n::r) s=_;rw[sumN,hk k h]
   simp_all
theorem zmy{f:Nat->Pt->Int->Vn Int}(hf: ∀p s,EvV (λg=>f g p s) λ_=>True): ∀(l:List Pt) (s:Int),EvV (λg=>zv4 (f g) l s) λ_=>True
 | [],s=>EvV.const trivial
 |p::r,s=>(hf p s).bind (g:=λg s=>zv4 (f g) r s) λv _=>zmy hf r v
theorem zqt{f:Nat->Vn Int}{V:Int->Prop}(h:EvV f V):EvO (λg=>evV (f g)) λq=>q.2=0->q.1=0\/V q.1:=by
 obtain⟨k0,r,U,hk⟩:=h;cases r with
 |out=>exact absurd U id
 |flt e=>exact⟨k0,(0,e),λ_=> .inl rfl,λg J=>by simp only[hk g J];rfl⟩
 |ok v=>exact⟨k0,(v,0),λ_=> .inr U,λg J=>by simp only[hk g J];rfl⟩
theorem zpe(d:zg)(m:Hp):EvO (λg=>ptE d m g) λ_=>True:=by
 unfold ptE;by_cases h:zZ d m=false
 ·simp only[uw h];exact EvO.const trivial
 simp only[ur h]
 have J:EvV (λg=>ptP d m g (vz d m).order d.pots 0) λ_=>True:=
  zmy (f:=λg p s=>ptN d m g p.x (ptL d m p (vz d m).order) s) (λp s=>zmx (f:=λg=>ztk d m g p.x) (λn=>zu5 p.x n) _ s) _ _
 obtain⟨k0,r,_,hk⟩:=zqt J;exact⟨k0,r,trivial,hk⟩
def EvW(f:Nat->Nat->Vn α)(V:α->Prop):Prop:= ∃k0 r,QV V r/\ ∀G g,k0<=G->k0<=g->f G g=r
theorem EvW.const{V:α->Prop}(h:QV V r):EvW (λ_ _=>r) V:=⟨0,r,h,λ_ _ _ _=>rfl⟩
theorem EvW.succ{f g:Nat->Nat->Vn α}{V:α->Prop}(h:EvW g V)(hfg: ∀G k,f G (k+1)=g G k):EvW f V:=by
 obtain⟨k0,r,J,hk⟩:=h;refine⟨k0+1,r,J,λG k hG hk'=>?_⟩;obtain⟨j,rfl⟩: ∃j,k=j+1:=⟨k - 1,ua⟩
 grind
theorem EvW.congr{f g:Nat->Nat->Vn α}{V:α->Prop}(h:EvW g V)(hfg: ∀G k,f G k=g G k):EvW f V:=by
 obtain⟨k0,r,J,hk⟩:=h;exact⟨k0,r,J,λG k h1 h2=>by simp_all⟩
theorem EvW.pos{c:Prop}{_:Decidable c}{a b:Nat->Nat->Vn α}{V:α->Prop}(h:c)(e:EvW a V):EvW (λG k=>if c then a G k else b G k) V:=e.congr λ_ _=>uw h
theorem EvW.neg{c:Prop}{_:Decidable c}{a b:Nat->Nat->Vn α}{V:α->Prop}(h: ¬c)(e:EvW b V):EvW (λG k=>if c then a G k else b G k) V:=e.congr λ_ _=>ur h
theorem EvW.imp{f:Nat->Nat->Vn α}{V W:α->Prop}(h:EvW f V)(hv: ∀v,V v->W v):EvW f W:=by
 obtain⟨k0,r,J,hk⟩:=h;refine⟨k0,r,?_,hk⟩;cases r with
 |ok v=>exact hv v J
 |flt e=>trivial
 |out=>exact J
theorem EvW.bind{α β:Type}{f:Nat->Nat->Vn α}{g:Nat->Nat->α->Vn β}{V:α->Prop}{W:β->Prop}(h:EvW f V)(hg: ∀v,V v->EvW (λG k=>g G k v) W):EvW (λG k=>(f G k).bind (g G k)) W:=by
 obtain⟨k0,r,U,hk⟩:=h;cases r with
 |out=>exact absurd U id
 |flt e=>exact⟨k0,.flt e,trivial,λG k h h2=>by simp only[hk G k h h2,Vn.bind]⟩
 |ok v=>
  obtain⟨k1,r2,J,hk1⟩:=hg v U;exact⟨max k0 k1,r2,J,λG k h h2=>by simp only[hk G k ua ua,Vn.bind];grind⟩
theorem QV.imp{V W:α->Prop}(h: ∀v,V v->W v): ∀ {r:Vn α},QV V r->QV W r
 | .ok v,q=>h v q
 | .flt _,_=>trivial
 | .out,q=>q
theorem zmz{op n:Int}{s:Str}{l:List Ex}(h:vU (.mk op n s l)=true)(ho:op=3):n=0:=by
 unfold vU at h;simp only[um,Ex.op,Ex.n]at h
 grind
structure SC (d:zg) (m:Hp) (c:Scp):Prop where
 len:c.va.length=c.ps.length
 ty: ∀(i:Nat) f v,c.ps[i]?=some f->c.va[i]?=some v->VT d m.n f.t v
section
variable {c:Scp}
theorem zu6(U:FM d m)(hc:SC d m c){s:Str}(h:look (c.ps++d.globals) s=some t):QV (VT d m.n t) (vbV d m c s):=by
 unfold vbV;rcases zd7 h with⟨i,f,J,h2,h3⟩|⟨h0,i,f,J,h2,h3⟩
 ·obtain⟨v,hv⟩: ∃v,c.va[i]?=some v:=zb (by rw[hc.len];grind);simp only[J,hv];rw[<-h3];exact hc.ty i f v h2 hv
 ·obtain⟨v,hv⟩: ∃v,m.g[i]?=some v:=zb (by rw[U.mt.gl];grind);simp only[h0,J,hv];rw[<-h3];exact U.mt.gt i f v h2 hv
theorem zmA(n:Int):QV (VT d m.n (⟨#[105,110,116]⟩:UB)) (nbV n):=by
 unfold nbV;split
 ·trivial
 ·exact VT.int.2 (by unfold Gm.inB;omega)
theorem zu7(hF:FM d m){vs:List Fld}{op a b:Int}{s ta tb:Str}(ho:9<=op/\op<=17\/op=22\/op=23)(J:zB d vs false op s [ta,tb]=(t,0))(ha:VT d m.n ta a)(hb:VT d m.n tb b):QV (VT d m.n t) (twV op a b):=by
 have ia:=ha.inB hF.mt.nl;have ib:=hb.inB hF.mt.nl;unfold twV;rw[uw ⟨ia,ib⟩];unfold tw0;by_cases h1:op=14\/op=15
 ·have ht:t=(⟨#[98,111,111,108]⟩:UB):=by
   rcases h1 with rfl|rfl
   all_goals
    simp[zB]at J;split at J
    ·simp at J
    ·simp only[uz,qf]at J;exact J.symm
  subst ht;rcases h1 with rfl|rfl
  ·exact VT.bool.2 (xd _)
  ·exact VT.bool.2 (xd _)
 by_cases h2:op=16
 ·subst h2;simp[zB]at J;rw[(zM J).1];exact VT.bool.2 (xd _)
 by_cases h3:op=17
 ·subst h3;simp[zB]at J;rw[(zM J).1];exact VT.bool.2 (xd _)
 unfold zB at J;rw[ur ua,ur ua,ur ua,ur ua,ur ua,ur ua,ur ua,ur ua,ur ua,ur ua]at J;obtain⟨rfl,_⟩:=zM J;by_cases o9:op=9
 ·rw[uw o9];exact zmA _
 rw[ur o9];by_cases U:op=10
 ·rw[uw U];exact zmA _
 rw[ur U];unfold Gm.inB at ia ib;by_cases o11:op=11
 ·rw[uw o11];unfold pdV;split
  ·trivial
  ·rename_i hp;refine VT.int.2 ?_;have:(a*b).natAbs<=1099511627776:=by rw[ot];omega
   unfold Gm.inB;omega
 rw[ur o11,ur (λe=>h1 (.inl e)),ur (λe=>h1 (.inr e)),ur h2,ur h3];by_cases o22:op=22
 ·rw[uw o22];exact VT.int.2 (by unfold Gm.inB;omega)
 rw[ur o22];by_cases o23:op=23
 ·rw[uw o23];exact VT.int.2 (by unfold Gm.inB;omega)
 rw[ur o23];by_cases b0:b=0
 ·rw[uw b0];trivial
 rw[ur b0];by_cases o12:op=12
 ·rw[uw o12];have:(Int.tdiv a b).natAbs<=a.natAbs:=by rw[Uj];exact oE _ _
  refine VT.int.2 ?_;unfold Gm.inB;omega
 rw[ur o12];have:(Int.tmod a b).natAbs<=a.natAbs:=by rw[Uk];exact Nat.mod_le _ _
 refine VT.int.2 ?_;unfold Gm.inB;omega
theorem zw1{r:Bn}{V:Int->Prop}(h:QB kn0 V r):QV V r.vn:=by
 cases r with
 |ok v k=>exact h.2.2
 |flt e k=>trivial
 |out=>exact h
theorem zsI(hF:FM d m)(s:Str)(nd:Int):EvW (λG _=>mesV d m G s nd) (VT d m.n (⟨#[105,110,116]⟩:UB)):=by
 obtain⟨k0,⟨v,e⟩,hr,hk⟩:=zu4 hF s nd;by_cases J:e=0
 ·exact⟨k0,.ok v,VT.int.2 (hr J),λG g U _=>by have h:=hk G U;simp only at h;simp only[mesV,h,uw J]⟩
 ·exact⟨k0,.flt e,trivial,λG g U _=>by have h:=hk G U;simp only at h;simp only[mesV,h,ur J]⟩
end
def PW(d:zg)(m:Hp)(c:Scp)(e:Ex):Prop:= ∀u,exT d (c.ps++d.globals) false e=(u,0)->EvW (λG g=>vaV d m G c g e) (VT d m.n u)
theorem zu8{c:Scp}{op n:Int}{s:Str}{l:List Ex}{x:Ex}{V:Int->Prop}(J:l[i]?=some x)(h:EvW (λG g=>vaV d m G c g x) V):EvW (λG g=>vatV d m G c g (.mk op n s l) i) V:=
 h.succ λG g=>by rw[vatV];simp only[Ex.l,J]
theorem zqu{d:zg}{m:Hp}{c:Scp}: ∀ {l:List Ex} {ts:List Str},(∀x∈l,PW d m c x)->exsT d (c.ps++d.globals) false l=(ts,0)->
 EvW (λG g=>vasV d m G c g l) λa=>a.length=l.length/\ ∀(i:Nat) v,a[i]?=some v->VT d m.n (lsA ts i) v
 | [],ts,_,_=>EvW.succ (g:=λ_ _=>Vn.ok []) (EvW.const ⟨rfl,λi v h=>by simp at h⟩) λG k=>by rw[vasV]
 |x::r,ts,hp,ht=>by
  obtain⟨hl,J⟩:=vJ ht
  have hr:exsT d (c.ps++d.globals) false r=(ts.drop 1,0):=by
   have hx:=J 0 x rfl;rw[exsT,hx]at ht;simp only[uX]at ht;cases hq:exsT d (c.ps++d.globals) false r with
   |mk us f=>
    rw[hq]at ht;simp only[uz]at ht;obtain⟨h5,rfl⟩:=ht;rw[<-h5];rfl
  refine EvW.succ (g:=λG k=>(vaV d m G c k x).bind λv=>(vasV d m G c k r).bind λq=> .ok (v::q)) ?_ λG k=>by rw[vasV]
  refine EvW.bind (hp x ue _ (J 0 x rfl)) λv hv=>?_;refine EvW.bind (zqu (l:=r) (ts:=ts.drop 1) (λy hy=>hp y (by simp[hy])) hr) λa U=>EvW.const ⟨by simp[U.1],λi u hu=>?_⟩
  cases i with
  |zero=>simp_all
  |succ i=>
   simp only[uZ]at hu;have:=U.2 i u hu;have e:lsA (ts.drop 1) i=lsA ts (i+1):=by unfold lsA;rw[u9,oK]
   grind
mutual
theorem zqv{d:zg}{m:Hp}{c:Scp}(hF:FM d m)(hc:SC d m c): ∀e:Ex,okE e->PW d m c e
 | .mk op n s l,hok=>by
   have ihl:=zqw hF hc l hok.2;intro u ht;obtain⟨ts,hts,h7,hn⟩:=zd9 ht;obtain⟨hl,hat⟩:=vJ hts;obtain⟨klen,k1,k3,kop,k2,kn1,kn2⟩:=jl hok.1
   have prt: ∀(i:Nat) (x:Ex),l[i]?=some x->EvW (λG g=>vatV d m G c g (.mk op n s l) i) (VT d m.n (lsA ts i)):=λi x hx=>
    zu8 hx (ihl x (uv hx) _ (hat i x hx))
   have two:(9<=op/\op<=17\/op=19\/op=20\/op=22\/op=23)->(∃x,l[0]?=some x)/\ ∃x,l[1]?=some x:=λh=>⟨zb (by have:=k2 h;omega),zb (by have:=k2 h;omega)⟩
   refine EvW.succ (g:=λG g=>vaV d m G c (g+1) (.mk op n s l)) ?_ λG g=>rfl
   simp only[vaV,Ex.op,Ex.n,Ex.s,Ex.l];by_cases o1:op=1\/op=2\/op=3
   ·refine EvW.pos o1 ?_;refine EvW.const ?_;rcases o1 with rfl|rfl|rfl
    ·have:=hn ub;simp[zB]at this;rw[<-this];exact VT.int.2 (kn1 rfl)
    ·have:=hn ub;simp[zB]at this;rw[<-this];exact VT.bool.2 (kn2 rfl)
    ·rw[zmz hok.1 rfl];exact VT.zero _ _ _
   refine EvW.neg o1 ?_;by_cases o4:op=4
   ·refine EvW.pos o4 ?_;subst o4;have hn:=hn ub;simp only[zB,show ¬(4:Int)=1 by decide,show ¬(4:Int)=2 by decide,show ¬(4:Int)=3 by decide,uM,uX]at hn;cases hlk:look (c.ps++d.globals) s with
    |none=>simp_all
    |some u'=>
     rw[hlk]at hn;simp only[uz,qf]at hn;subst hn;exact EvW.const (zu6 hF hc hlk)
   refine EvW.neg o4 ?_;by_cases o19:op=19\/op=20
   ·refine EvW.pos o19 ?_;obtain⟨⟨x,hx⟩,y,hy⟩:=two ua;have hl2:=k2 ua;have hn:=hn ua
    have hb:u=(⟨#[98,111,111,108]⟩:UB)/\ ∀i,i<ts.length->lsA ts i=(⟨#[98,111,111,108]⟩:UB):=by
     rcases o19 with rfl|rfl
     ·simp[zB]at hn;exact zM hn
     ·simp[zB]at hn;exact zM hn
    obtain⟨rfl,hall⟩:=hb;refine(prt 0 x hx).bind λa ha=>?_;have h2:=prt 1 y hy;rw[hall 1 ua]at h2;rw[hall 0 ua]at ha;by_cases v0:(decide (a=1)==decide (op=19))=true
    ·grind
    ·exact EvW.neg v0 (EvW.const ha)
   refine EvW.neg o19 ?_;by_cases o21:op=21
   ·refine EvW.pos o21 ?_;have hl3:=k3 o21;subst o21;have hn:=hn ub;obtain⟨x,hx⟩: ∃x,l[0]?=some x:=zb ua;obtain⟨y,hy⟩: ∃y,l[1]?=some y:=zb ua;obtain⟨z,hz⟩: ∃z,l[2]?=some z:=zb ua
    simp only[zB,show ¬(21:Int)=1 by decide,show ¬(21:Int)=2 by decide,show ¬(21:Int)=3 by decide,show ¬(21:Int)=4 by decide,show ¬(21:Int)=5 by decide,show ¬(21:Int)=6 by decide,show ¬((21:Int)=14\/(21:Int)=15) by decide,
     show ¬((21:Int)=16\/(21:Int)=17) by decide,show ¬((21:Int)=18\/(21:Int)=19\/(21:Int)=20) by decide,uM,uX]at hn
    have hfit:lsA ts 0=(⟨#[98,111,111,108]⟩:UB)/\ ∀(ns:List Nd) (v:Int),(VT d ns (lsA ts 1) v->VT d ns u v)/\(VT d ns (lsA ts 2) v->VT d ns u v):=by
     split at hn
     ·rename_i h0;refine⟨h0,λns v=>?_⟩;split at hn
      ·rename_i hf;simp only[uz,qf]at hn;subst hn;exact⟨λh=>h.fits hf,λh=>h⟩
      ·split at hn
       ·rename_i hf;simp only[uz,qf]at hn;subst hn;exact⟨λh=>h,λh=>h.fits hf⟩
       ·simp at hn
     ·simp at hn
    refine(prt 0 x hx).bind λa ha=>?_;rw[hfit.1]at ha;rcases VT.bool.1 ha with rfl|rfl
    ·refine EvW.pos (by unfold Gm.inB;omega) ?_;exact(prt 2 z hz).imp λv h=>(hfit.2 m.n v).2 h
    ·refine EvW.pos (by unfold Gm.inB;omega) ?_;exact(prt 1 y hy).imp λv h=>(hfit.2 m.n v).1 h
   refine EvW.neg o21 (EvW.pos ua ?_);refine(zqu ihl hts).bind λa ha=>?_;obtain⟨ha1,ha2⟩:=ha;unfold opsV;by_cases o6:op=6
   ·subst o6;have hn:=hn ub;simp[zB]at hn
   have hl1:1<=l.length:=by
    by_cases o7:op=7
    ·obtain⟨_,_,_,_,q,_⟩:=zcj (h7 o7).1;omega
    ·by_cases q:op=5\/op=8\/op=18\/op=24
     ·have:=k1 q;omega
     ·have:=k2 ua;omega
   obtain⟨v,hv⟩: ∃v,a[0]?=some v:=zb ua;have hvt:=ha2 0 v hv;have hvi:=hvt.inB hF.mt.nl;simp only[hv,Ex.op,Ex.s];by_cases o5:op=5
   ·refine EvW.pos o5 ?_;subst o5;have hn:=hn ub;simp only[zB,show ¬(5:Int)=1 by decide,show ¬(5:Int)=2 by decide,show ¬(5:Int)=3 by decide,show ¬(5:Int)=4 by decide,uM,uX]at hn;exact EvW.const (zw1 (zmt hF kw0 hn hvt))
   refine EvW.neg o5 ?_;by_cases o7:op=7
   ·refine EvW.pos o7 ?_;obtain⟨_,_,_,_,_,_,rfl⟩:=zcj (h7 o7).1;exact zsI hF s v
   refine EvW.neg o7 ?_;have hn:=hn o7;by_cases o8:op=8
   ·refine EvW.pos o8 ?_;subst o8;simp[zB]at hn;obtain⟨rfl,_⟩:=zM hn;exact EvW.pos hvi (EvW.const (zmA _))
   refine EvW.neg o8 ?_;by_cases o18:op=18
   ·refine EvW.pos o18 ?_;subst o18;simp[zB]at hn;obtain⟨rfl,hall⟩:=zM hn;rw[hall 0 ua]at hvt;have:=VT.bool.1 hvt;exact EvW.pos hvi (EvW.const (VT.bool.2 ua))
   refine EvW.neg o18 ?_;by_cases o24:op=24
   ·refine EvW.pos o24 ?_;subst o24;simp[zB]at hn;obtain⟨rfl,_⟩:=zM hn;refine EvW.pos hvi (EvW.const (VT.int.2 ?_));unfold Gm.inB at hvi⊢;unfold zi5;split
    ·omega
    ·have hlg:Nat.log2 v.toNat<64:=by rw[oC ua];omega
     omega
   refine EvW.neg o24 ?_;have ho:9<=op/\op<=17\/op=22\/op=23:=by omega
   have hl2:=k2 ua;obtain⟨w,hw⟩: ∃w,a[1]?=some w:=zb ua;have hwt:=ha2 1 w hw;simp only[hw]
   have hts2:ts=[lsA ts 0,lsA ts 1]:=by
    match ts,hl.trans hl2 with
    | [a,b],_=>rfl
   rw[hts2]at hn;exact EvW.const (zu7 hF ho hn hvt hwt)
theorem zqw{d:zg}{m:Hp}{c:Scp}(hF:FM d m)(hc:SC d m c): ∀l:List Ex,okL l-> ∀x∈l,PW d m c x
 | [],_=>λx hx=>by cases hx
 |y::r,hok=>λx hx=>by
  have h1:=zqv hF hc y hok.1;have h2:=zqw hF hc r hok.2
  grind
end
theorem zmB(h:(chE d c).1=0): ∃i p,zaZ d c.p=some i/\d.procs[i]?=some p/\(chE d c).2=p/\c.a.length=p.params.length/\(∀f∈p.params,plB f.t=true)/\(List.zip c.a p.params).any agB=false:=by
 unfold chE at h⊢
 grind
theorem zsJ{s:Str}(J:zaZ d s=some i)(h2:d.procs[i]?=some p):zeu d s=some p/\p.n=s:=by
 rcases vI (λp:Pr=>decide (p.n=s)) d.procs with⟨_,q⟩|⟨j,x,q1,U,q3⟩
 ·unfold zaZ at J;simp_all
 ·unfold zaZ at J;rw[q1]at J;cases J;rw[h2]at U;cases U;have:=oG q3;exact⟨q3,uj this⟩
theorem zw2(hl:c.a.length=p.params.length)(hp: ∀f∈p.params,plB f.t=true)(U:(List.zip c.a p.params).any agB=false):SC d m ⟨p.params,c.a⟩:=by
 refine⟨hl,λi f v hf hv=>?_⟩;have J:=hp f (uv hf);rw[List.any_eq_false]at U;have h2:=U (v,f) (uv (i:=i) (by rw[tl];exact⟨hv,hf⟩));unfold plB at J;simp only[uO,uq]at J;rcases J with e|e
 ·rw[e];refine VT.int.2 (tC λhn=>h2 ?_)
  have hb:bdB v=false:=by
   unfold bdB;unfold Gm.inB at hn;by_cases q: -1099511627776<=v
   ·rw[uF (show ¬v<=1099511627776 by omega),qI]
   ·rw[uF q,tJ]
  unfold agB
  simp_all
 ·rw[e];refine VT.bool.2 (tC λhn=>h2 ?_);unfold agB
  simp_all
theorem zw3(hok:wS d m=true)(h:(chE d c).1=0):EvO (λg=>bnE d m g (chE d c).2 c) λ_=>True:=by
 obtain⟨i,p,h1,h2,h3,h4,h5,h6⟩:=zmB h;rw[h3];obtain⟨hpo,hpn⟩:=zsJ h1 h2;unfold bnE;rcases vI (λb:Bd=>decide (b.p=p.n)) d.bounds with⟨_,q⟩|⟨j,b,q1,q2,q3⟩
 ·have e:zv5 d p.n=none:=q;simp only[e];exact EvO.const trivial
 ·have e:zv5 d p.n=some j:=q1;simp only[e,q2];have hbp:b.p=p.n:=by have:=oG q3;exact uj this
  have hbm:=uv q2;obtain⟨hv,hc,_⟩:=zbz hok;have hF:=zu2 hok;obtain⟨_,J⟩:=y7 hc;obtain⟨_,J⟩:=y7 J;obtain⟨_,J⟩:=y7 J;obtain⟨_,J⟩:=y7 J;obtain⟨_,J⟩:=y7 J;obtain⟨_,J⟩:=y7 J;obtain⟨_,J⟩:=y7 J
  have hex:exT d (p.params++d.globals) false b.x=((⟨#[105,110,116]⟩:UB),0):=by
   obtain⟨i,U⟩:=xR J hbm;unfold y5 at U;have e:zp4 d b.p=p.params++d.globals:=by unfold zp4;rw[hbp,hpn,hpo];rfl
   rw[e]at U;split at U
   ·rename_i r1;split at U
    ·rename_i r2;exact oN r2 r1
    ·cases U
   ·cases U
  have hE:okE b.x:=by
   simp only[yl,yr,um,List.all_eq_true]at hv;have:=hv.2.2 b hbm;simp only[zaJ,um]at this;have h:=this.2;unfold yE at h;exact(jk b.x 1 (uj h)).1
  obtain⟨k0,r,hr,hk⟩:=zqv hF (zw2 (m:=m) h4 h5 h6) b.x hE _ hex;have h9:EvV (λg=>vaV d m g ⟨p.params,c.a⟩ g b.x) λ_=>True:=⟨k0,r,by cases r<;>first|trivial|exact hr,λg hg=>hk g g hg hg⟩
  obtain⟨k1,r1,_,hk1⟩:=zqt h9;exact⟨k1,r1,trivial,hk1⟩
def QA(d:zg)(q:α×Option Hp×Int):Prop:=q.2.2=0-> ∃m2,q.2.1=some m2/\wS d m2=true
theorem zu9(hok:wS d m=true)(c:Cl)(fuel:Int):EvO (λg=>entE d m g c fuel) (QA d):=by
 unfold entE;by_cases h1: ¬(chE d c).1=0
 ·simp only[uw h1];exact EvO.const λe=>absurd e h1
 simp only[ur h1];have h1:=tP.1 h1;obtain⟨k1,⟨be,e1⟩,_,hk1⟩:=zpe d m
 replace hk1: ∀k,k1<=k->ptE d m k=some (be,e1):=hk1
 by_cases he1: ¬e1=0
 ·refine⟨k1,(⟨0,0,0,0⟩,none,e1),λe=>absurd e he1,λk h=>?_⟩
  simp_all
 obtain⟨k2,⟨bo,e2⟩,_,hk2⟩:=zw3 hok h1
 replace hk2: ∀k,k2<=k->bnE d m k (chE d c).2 c=some (bo,e2):=hk2
 by_cases he2: ¬e2=0
 ·refine⟨max k1 k2,(⟨0,0,0,0⟩,none,e2),λe=>absurd e he2,λk h=>?_⟩
  grind
 by_cases hg: ¬zd0 d m fuel=0
 ·refine⟨max k1 k2,(⟨0,be,0,bo⟩,none,zd0 d m fuel),λe=>absurd e hg,λk h=>?_⟩
  grind
 by_cases hc: ¬zca d m c=0
 ·refine⟨max k1 k2,(⟨0,be,0,bo⟩,none,zca d m c),λe=>absurd e hc,λk h=>?_⟩
  grind
 have J:=tP.1 hg
 have hf:0<=fuel/\fuel<=1048576:=by
  unfold zd0 at J;split at J
  ·exact absurd J ub
  ·split at J
   ·exact absurd J ub
   ·omega
 obtain⟨i,p,p1,p2,p3,_⟩:=zmB h1;rw[p3]at hk2;obtain⟨k3,⟨fl,v,x⟩,hk3,hacc,U⟩:=zpc hok hf.1 hf.2 p1 p2 (tP.1 hc);simp only at hacc U;obtain⟨k4,⟨af,e4⟩,_,hk4⟩:=zpe d ⟨x.g,x.ns⟩
 replace hk4: ∀k,k4<=k->ptE d ⟨x.g,x.ns⟩ k=some (af,e4):=hk4
 refine⟨max (max k1 k2) (max k3 k4),(⟨(ndC x.acc:Nat),be,af,bo⟩,some ⟨x.g,x.ns⟩,e4),λ_=>⟨_,rfl,zsD hok U⟩,λk h=>?_⟩
 grind
theorem zmC{d:zg}{f:Nat->Hp->Cl->Option (EnT×Option Hp×Int)}(hf: ∀m c,wS d m=true->EvO (λg=>f g m c) (QA d)): ∀(l:List Cl) (m:Hp),wS d m=true->
 EvO (λg=>audF (f g) l m) λq=>QA d q/\(¬q.2.2=0->q.1=[]/\q.2.1=none)
 | [],m,h=>EvO.const ⟨λ_=>⟨m,rfl,h⟩,λe=>absurd rfl e⟩
 |c::r,m,h=>by
  obtain⟨k0,⟨x,om,e⟩,hq,hk⟩:=hf m c h
  replace hk: ∀k,k0<=k->f k m c=some (x,om,e):=hk
  have h0: ∀k,audF (f k) (c::r) m=match f k m c with
   |none=>none
   |some (x,some m2,e)=>if ¬e=0 then some ([],none,e)else(audF (f k) r m2).map λq=>if q.2.2=0 then(x::q.1,q.2)else q
   |some (_,none,e)=>some ([],none,e):=λk=>by rw[audF];rfl
  by_cases he:e=0
  ·obtain⟨m2,rfl,h2⟩:=hq he;obtain⟨k1,q,J,U⟩:=zmC hf r m2 h2
   replace U: ∀k,k1<=k->audF (f k) r m2=some q:=U
   refine⟨max k0 k1,if q.2.2=0 then(x::q.1,q.2)else q,?_,λk h=>?_⟩
   ·split
    ·rename_i e;exact⟨λ_=>J.1 e,λh=>absurd e h⟩
    ·exact J
   grind
  ·refine⟨k0,([],none,e),⟨λh=>absurd h he,λ_=>⟨rfl,rfl⟩⟩,λk h=>?_⟩
   grind
theorem zg7(J:wS d m=true)(l:List Cl)(fuel:Int):EvO (λg=>zj0 d g fuel l m) λq=>QA d q/\(¬q.2.2=0->q.1=[]/\q.2.1=none):=
 zmC (f:=λg m c=>entE d m g c fuel) (λm c h=>zu9 h c fuel) l m J
theorem zaB(c:Cl)(r:List Cl)(m:Hp):audF f (c::r) m=match f m c with
 |none=>none
 |some (x,some m2,e)=>if ¬e=0 then some ([],none,e)else(audF f r m2).map λq=>if q.2.2=0 then(x::q.1,q.2)else q
 |some (_,none,e)=>some ([],none,e):=by rw[audF];rfl
theorem ziD: ∀ {l r:List Cl} {m:Hp} {q:List EnT×Option Hp×Int},audF f l m=some q-> ¬q.2.2=0->audF f (l++r) m=some q
 | [],r,m,q,h,he=>by simp only[audF,ui]at h;grind
 |c::l,r,m,q,h,he=>by
  rw[uL,zaB]at*;cases hf:f m c with
  |none=>simp_all
  |some w=>
   obtain⟨x,om,e⟩:=w;rw[hf]at h;cases om with
   |none=>omega
   |some m2=>
    simp only at h⊢;by_cases J: ¬e=0
    ·simp_all
    ·rw[ur J]at h⊢;cases hl:audF f l m2 with
     |none=>simp_all
     |some q2=>
      rw[hl]at h;simp only[uH,ui]at h;by_cases h2:q2.2.2=0
      ·grind
      ·rw[ur h2]at h;subst h;rw[ziD hl h2]
       simp_all
theorem ziE: ∀ {l r:List Cl} {m p:Hp} {a:List EnT},audF f l m=some (a,some p,0)->audF f (l++r) m=(audF f r p).map λq=>if q.2.2=0 then(a++q.1,q.2)else q
 | [],r,m,p,a,h=>by
   simp only[audF,ui,uz,qf]at h
   simp_all
 |c::l,r,m,p,a,h=>by
  rw[uL,zaB]at*;cases hf:f m c with
  |none=>simp_all
  |some w=>
   obtain⟨x,om,e⟩:=w;rw[hf]at h;cases om with
   |none=>simp at h
   |some m2=>
    simp only at h⊢;by_cases J: ¬e=0
    ·simp_all
    ·rw[ur J]at h⊢;cases hl:audF f l m2 with
     |none=>simp_all
     |some q2=>
      obtain⟨a2,op,U⟩:=q2;rw[hl]at h;simp only[uH,ui]at h;by_cases h2:U=0
      ·rw[uw h2]at h;simp only[uz]at h;obtain⟨rfl,rfl,_⟩:=h;subst h2;rw[ziE hl];cases hr:audF f r p with
       |none=>rfl
       |some q=>
        grind
      simp_all
theorem zpf{m2:Hp}(h:entE d m g c fuel=some (x,some m2,0)):ptE d m g=some (x.be,0)/\ptE d m2 g=some (x.af,0):=by
 unfold entE at h;split at h
 ·simp at h
 ·cases h1:ptE d m g with
  |none=>simp_all
  |some w=>
   obtain⟨be,e1⟩:=w;rw[h1]at h
   grind
theorem ziF{d:zg}{g:Nat}{fuel:Int}: ∀ {l:List Cl} {m n:Hp} {xs:List EnT},zj0 d g fuel l m=some (xs,some n,0)->(xs=[]/\n=m)\/(∃y z,xs[0]?=some y/\xs[xs.length - 1]?=some z/\ptE d m g=some (y.be,0)/\ptE d n g=some (z.af,0))
 | [],m,n,xs,h=>by
   simp only[zj0,audF,ui,uz,qf]at h
   simp_all
 |c::l,m,n,xs,h=>by
  right;unfold zj0 at h;rw[zaB]at h;cases hf:entE d m g c fuel with
  |none=>simp_all
  |some w=>
   obtain⟨x,om,e⟩:=w;rw[hf]at h;cases om with
   |none=>simp at h
   |some m2=>
    simp only at h;by_cases J: ¬e=0
    ·simp_all
    ·rw[ur J]at h;have J:=tP.1 J;subst J;obtain⟨b1,b2⟩:=zpf hf;cases hl:audF (λm c=>entE d m g c fuel) l m2 with
     |none=>simp_all
     |some U=>
      obtain⟨a2,op,e2⟩:=U;rw[hl]at h;simp only[uH,ui]at h;by_cases h2:e2=0
      ·rw[uw h2]at h;simp only[uz]at h;obtain⟨rfl,rfl,_⟩:=h;subst h2;rcases ziF (l:=l) hl with⟨rfl,rfl⟩|⟨y,z,q1,U,q3,q4⟩
       ·simp_all
       grind
      simp_all
theorem zg8(U:wS d m=true)(l:List Cl)(k:Nat)(h0:0<=fuel)(h1:fuel<=1048576)(hl:l.length<=2000):
 ∃g x n e a p f,zcE d m g l fuel=some (x,n,e)/\zcE d m g (l.take k) fuel=some (a,p,f)/\((¬f=0/\e=f/\a=[]/\x=[]/\p=none/\n=none)\/(f=0/\ ∃p' b q e2,p=some p'/\wS d p'=true/\zcE d p' g (l.drop k) fuel=some (b,q,e2)/\
  ((¬e=0/\e2=e/\x=[]/\b=[]/\n=none/\q=none)\/(e=0/\e2=0/\x=a++b/\ ∃n',n=some n'/\q=some n'/\wS d n'=true/\ ∃v1 e1 v2 e2',ptE d m g=some (v1,e1)/\ptE d n' g=some (v2,e2')/\
    (x=[]\/ ∃y z,x[0]?=some y/\x[x.length - 1]?=some z/\e1=0/\e2'=0/\v1=y.be/\v2=z.af))))):=by
 have hE: ∀m' l' g,wS d m'=true->l'.length<=2000->zcE d m' g l' fuel=zj0 d g fuel l' m':=λm' l' g h q=>by
  unfold zcE;rw[ur (by rw[h];decide),ur ua,ur ua]
 obtain⟨k1,⟨x,n,e⟩,hx,J⟩:=zg7 U l fuel;obtain⟨k2,⟨a,p,f⟩,ha,hk2⟩:=zg7 U (l.take k) fuel
 replace J: ∀g,k1<=g->zj0 d g fuel l m=some (x,n,e):=J
 replace hk2: ∀g,k2<=g->zj0 d g fuel (l.take k) m=some (a,p,f):=hk2
 have ht:(l.take k).length<=2000:=by rw[tj];omega
 have hd:(l.drop k).length<=2000:=by rw[tA];omega
 by_cases hf:f=0
 ·obtain⟨p',hp,hp2⟩:=ha.1 hf;simp only at hp;subst hp hf;obtain⟨k3,⟨b,q,e2⟩,hb,hk3⟩:=zg7 hp2 (l.drop k) fuel
  replace hk3: ∀g,k3<=g->zj0 d g fuel (l.drop k) p'=some (b,q,e2):=hk3
  obtain⟨k4,⟨v1,e1⟩,_,hk4⟩:=zpe d m
  replace hk4: ∀g,k4<=g->ptE d m g=some (v1,e1):=hk4
  have happ: ∀g,k1<=g->k2<=g->k3<=g->(if e2=0 then(a++b,q,e2)else(b,q,e2))=(x,n,e):=λg g1 g2 g3=>by
   have:=ziE (r:=l.drop k) (hk2 g g2);rw[tH]at this;have h2:=J g g1;unfold zj0 at h2;rw[this]at h2;have h3:=hk3 g g3;unfold zj0 at h3;rw[h3]at h2;simpa using h2
  have hE2:=happ (max k1 (max k2 k3)) ua ua ua;by_cases he:e2=0
  ·rw[uw he]at hE2;simp only[uz]at hE2;obtain⟨rfl,rfl,rfl⟩:=hE2;subst he;obtain⟨n',hn,hn2⟩:=hx.1 rfl;simp only at hn;subst hn;obtain⟨k5,⟨v2,e2'⟩,_,hk5⟩:=zpe d n'
   replace hk5: ∀g,k5<=g->ptE d n' g=some (v2,e2'):=hk5
   let g:=max k1 (max k2 (max k3 (max k4 k5)))
   refine⟨g,_,_,_,_,_,_,(hE m l g U hl).trans (J g ua),(hE m _ g U ht).trans (hk2 g ua),.inr ⟨rfl,p',b,_,0,rfl,hp2,(hE p' _ g hp2 hd).trans (hk3 g ua),.inr ⟨rfl,rfl,rfl,n',rfl,rfl,hn2,v1,e1,v2,e2',hk4 g ua,hk5 g ua,?_⟩⟩⟩;rcases ziF (J g ua)with⟨q,_⟩|⟨y,z,q1,q2,q3,q4⟩
   ·exact .inl q
   grind
  ·rw[ur he]at hE2;simp only[uz]at hE2;obtain⟨rfl,rfl,rfl⟩:=hE2;obtain⟨hb1,hb2⟩:=hb.2 he
   let g:=max k1 (max k2 k3)
   exact⟨g,_,_,_,_,_,_,(hE m l g U hl).trans (J g ua),(hE m _ g U ht).trans (hk2 g ua),.inr ⟨rfl,p',_,_,_,rfl,hp2,(hE p' _ g hp2 hd).trans (hk3 g ua),.inl ⟨he,rfl,hb1,hb1,hb2,hb2⟩⟩⟩
 ·have hbad: ∀g,k2<=g->zj0 d g fuel l m=some (a,p,f):=λg hg=>by
   have:=ziD (r:=l.drop k) (hk2 g hg) hf;rw[tH]at this;exact this
  have h2:=J (max k1 k2) ua
  grind
end Hw.Gm
