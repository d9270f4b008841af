import Derived.Test.YtolghpfockkldaaGreatDoorC2
import Derived.Test.YtolghpfockkldaaGreatDoorC8
import Derived.Test.YtolghpfockkldaaGreatDoorC7
import Derived.Test.YtolghpfockkldaaGreatDoorC4
import Derived.Test.YtolghpfockkldaaGreatDoorC1
import Derived.Test.YtolghpfockkldaaGreatDoorC5
import Derived.Test.YtolghpfockkldaaGreatDoorE3
import Derived.Shelf.Strconv.AtoiAll
import Derived.Test.YtolghpfockkldaaGreatDoorProg
import Derived.KernelRfl
import Derived.Shelf.Small.Strs
import Derived.Shelf.Strings.Prefix
set_option linter.defProp false
set_option linter.unusedVariables false
set_option linter.unusedSimpArgs false
set_option linter.unusedSectionVars false
set_option linter.unnecessarySimpa false
namespace Hw.Gm
open Go Go.Proofs Hw.M Ps Tryz
theorem zmM(v:List Int)(hv:v.length<=1000000):zh prog 42 [pS (yx v)] [] (pS (yx v)) []:=by
 refine gFo func42 λC hC=>?_;have hl:(v.map zN).length=v.length:=uj _
 repeat' first|refine gG ?_|refine gB ?_ ?_<;>intro h
 refine zln (rows:=v.map zN) (e:=1) (et:=3) rfl ud rfl (λb U=>?_)
 repeat' first|refine gG ?_|refine gB ?_ ?_<;>intro h
 ·have J:v=[]:=oN.1 (U h);subst J;exact gFl id rfl (LeS.one (.nil 1))
 ·refine zlo T hC rfl rfl rfl rfl rfl ?_
  repeat' first|refine gG ?_|refine gB ?_ ?_<;>intro h|refine gY T 102 (v.map zN) 8 ?_
  refine gZ 102 [(2,pS (yx v))] [] ?_;exact gF
variable {d:zf}{m:Hp}
theorem zfV(cs:List Cl)(n fuel:Int)(h:vi d m=false):
 zh prog 19 [zn (zr d),zn (yp m),pS (yj cs),I n,I fuel] [] (.tup [pS (yj []),I 0,I 1]) []:=by
 have J:=zcb d m;rw[h]at J
 replace J:zh prog 28 [zn (zr d),zn (yp m)] [] (I 1) []:=J
 refine gFo func19 λC hC=>?_
 repeat' first|refine gG ?_|exact gD|refine gB ?_ ?_<;>intro h|refine gC J ?_|refine zd ?_
 exact gFl id rfl (LeS.tup (.cons (.one (.nil 2)) (yG.refl _)))
def chL(d:zf):List Cl->Int
 | []=>0
 |c::r=>if(chE d c).1=0 then chL d r else(chE d c).1
def yU(cs:List Cl)(l:List Int):List Cl:=l.map λi=>(cs[i.toNat]?).getD ⟨(⟨#[]⟩:UI),[]⟩
def zwI(d:zf)(cs:List Cl)(st:BSt):S:= .tup (if chL d cs=0 then [pS (yj (yU cs (st.1.getD []))),I st.2,I 0]else [pS (yj []),I 0,I (chL d cs)])
def zjO(run:Hp->Cl->Option (Int×Hp))(cs:List Cl)(n:Nat)(m:Hp):BSt:=if n=0 then(none,0)else frm run cs n m [] 0 (none,0)
variable {Kp:Hp->Prop}{run:Hp->Cl->Option (Int×Hp)}
theorem zpz(d:zf)(cs:List Cl)(fuel:Int)(U: ∀m,Kp m-> ∀c∈cs,zpy d fuel run Kp m c)(J:cs.length<=1000000){n:Nat}(hn:n<=1000)(hK:Kp m):
 zh prog 41 [.one (.bx 0 0),zn (yp m),pS (.k (.slice none 0 0)),I 0,I n] [(0,seB d cs fuel (none,0))] (.tup []) [(0,seB d cs fuel (zjO run cs n m))]:=by
 unfold zjO;cases n with
 |zero=>exact zpw d cs fuel m 0 0
 |succ k=>
  rw[ur ua];have h:=zmL d cs fuel U J (k+1) m [] 0 (none,0) hK (.inr ua) (by simpa using hn) ub ua ue;refine zh.zye h rfl (λid r h=>?_) (by simp[RL.ids]) λid r h=>?_
  ·simp only[tb,zm,tg]at h;split at h
   ·cases h;rename_i e;subst e;exact⟨ub,rfl⟩
   ·cases h
  ·simp only[tb,zm,tg]at h;split at h
   ·rename_i e;subst e;decide
   ·cases h
variable {cs:List Cl}{fuel:Int}
theorem zn3{n:Nat}(hok:vi d m=true)(hf0:0<=fuel)(hf1:fuel<=100)(hl1:0<cs.length)(hl2:cs.length<=5)(hn:n<=4)(hK:Kp m)
 (hR:chL d cs=0-> ∀m,Kp m-> ∀c∈cs,zpy d fuel run Kp m c) (hca: ∀c∈cs,c.a.length<=1000000) (hB:chL d cs=0-> ∀l,(zjO run cs n m).1=some l->l.length<=1000/\ ∀x∈l,0<=x/\x<cs.length):
 zh prog 19 [zn (zr d),zn (yp m),pS (yj cs),I n,I fuel] [] (zwI d cs (zjO run cs n m)) []:=by
 have hG:=zcb d m;rw[hok]at hG
 replace hG:zh prog 28 [zn (zr d),zn (yp m)] [] (I 0) []:=hG
 have hF:=λh0=>zpz d cs fuel (hR h0) ua (tG hn ub) hK
 have hP: ∀q,q<=4->cs.length ^ q<=625:=λq hq=>tG (Nat.pow_le_pow_left hl2 q) (Ux ub hq)
 generalize hfin:zjO run cs n m=fin at hB⊢;unfold zwI;refine gFo func19 λC hC=>?_
 repeat' first|refine gG ?_|exact gD|(exfalso;simp only[uJ,uq,uu,uj]at h;omega)|refine gB ?_ ?_<;>intro h|refine gC hG ?_
 rw[uj]
 refine zj (λi:Nat=>i<=cs.length/\chL d (cs.drop i)=chL d cs) (λi=>([(2,pS (yj cs)),(3,I n),(4,I fuel),(5,.one (.bx 1005 0)),(6,.one (.bx 1006 0)),(53,pS (yj cs)),(54,I cs.length),(55,I i)],[(1005,some (.box ((zr d).map V.p))),(1006,some (.box ((yp m).map V.p)))])) (λi=>cs.length - i) hC
  0 ⟨uD _,rfl⟩ id gM ?_
 rintro i ⟨hi,hc⟩;refine gLc ?_ ?_<;>intro J
 ·have hlt:i<cs.length:=by simpa using J
  clear J;obtain⟨c,hx⟩:=za hlt;rw[drop_at hx]at hc;simp only[chL]at hc;have U:=zfu d c;by_cases he:(chE d c).1=0
  ·rw[uw he]at hc;unfold prZ at U;rw[uw he,he]at U
   repeat' first|refine gG ?_|exact gD|refine gB ?_ ?_<;>intro h|refine gIt (zl hx) ?_|refine gC U ?_
   rw[wrapN ua];exact zg (i+1) ⟨ua,hc⟩ id ua gM
  ·rw[ur he]at hc;unfold prZ at U;rw[ur he]at U
   repeat' first|refine gG ?_|(exfalso;simp[he]at h;done)|refine gB ?_ ?_<;>intro h|refine gIt (zl hx) ?_|refine gC U ?_|refine zk ?_
   rw[<-hc,ur he];exact gFl id rfl (LeS.tup (.cons (.one (.nil 2)) (yG.refl _)))
 ·have hge: ¬i<cs.length:=by simpa using J
  clear J;rw[uC ua]at hc;simp only[chL]at hc;rw[<-hc,uw rfl]
  replace hF:=hF hc.symm
  rw[hfin]at hF
  repeat' first|refine gG ?_|refine gB ?_ ?_<;>intro h|refine zd ?_
  refine zj (λq:Nat=>q<=n) (λq=>([(2,pS (yj cs)),(3,I n),(4,I fuel),(5,.one (.bx 1005 0)),(6,.one (.bx 1006 0)),(18,I (cs.length ^ q:Nat)),(69,I n),(70,I q)],[(1005,some (.box ((zr d).map V.p))),(1006,some (.box ((yp m).map V.p)))])) (λq=>n - q) hC
   0 (uD _) id gM ?_
  intro q hq;refine gLc ?_ ?_<;>intro J
  ·have hlt:q<n:=by simpa using J
   clear J;have hp:=hP (q+1) ua
   have hw:IntKind.i64.wrap (((cs.length ^ q:Nat):Int)*((cs.map yf).length:Nat))=((cs.length ^ (q+1):Nat):Int):=by
    have he:cs.length ^ q*cs.length=cs.length ^ (q+1):=(UG ..).symm;rw[uj,<-oK,he];generalize cs.length ^ (q+1)=z at hp⊢;exact wrap64 ua
   repeat' first|refine gG ?_|(exfalso;have h':=uk h;rw[hw]at h';omega)|refine gB ?_ ?_<;>intro h
   rw[hw,wrapN ua];exact zg (q+1) ua id ua gM
  ·have hge: ¬q<n:=by simpa using J
   clear J;obtain⟨_|l,bc⟩:=fin
   ·unfold seB at hF;simp only[bestP]at hF
    repeat' first|refine gG ?_|refine gB ?_ ?_<;>intro h|refine zd ?_|refine gR hF (nm [1083]) ?_
    refine zj (λi:Nat=>i=0) (λ_=>([(19,.one (.bx 1083 0)),(20,pS (.k (.slice none 0 0))),(92,I 0),(93,I 0)],[(1083,some (.box ((zr d++[yj cs,ki fuel,.k (.slice none 0 0),ki bc]).map V.p)))])) (λi=>i) hC
     0 rfl id gM ?_
    intro i hi;refine gLc ?_ ?_<;>intro J
    ·exact absurd J ub
    ·repeat' first|refine gG ?_|refine gB ?_ ?_<;>intro h|refine zd ?_
     exact gFl id rfl (LeS.tup (.cons (.one (.nil 2)) (yG.refl _)))
   ·unfold seB at hF;simp only[bestP]at hF;unfold yx at hF;obtain⟨hl,hlB⟩:=hB hc.symm l rfl
    repeat' first|refine gG ?_|refine gB ?_ ?_<;>intro h|refine zd ?_|refine gR hF (nm [1083]) ?_
    refine gA 140 2 [(20,.one (.ar 140))] [] ?_;rw[uj]
    refine zj (λi:Nat=>i<=l.length) (λi=>([(2,pS (yj cs)),(19,.one (.bx 1083 0)),(20,.one (.ar 140)),(91,pS (yx l)),(92,I l.length),(93,I i)],[(1083,some (.box ((zr d++[yj cs,ki fuel,yx l,ki bc]).map V.p))),(140,some (.arr 2 ((yU cs (l.take i)).map yf)))])) (λi=>l.length - i) hC
     0 (uD _) id gM ?_
    intro i hi;refine gLc ?_ ?_<;>intro J
    ·have hlt:i<l.length:=by simpa using J
     clear J;obtain⟨x,hx⟩:=za hlt;obtain⟨hx0,hx1⟩:=hlB x (uv hx);obtain⟨j,rfl⟩:=oh hx0;obtain⟨c,hcj⟩:=za (l:=cs) (i:=j) ua;have hCl:=zmM c.a (hca c (uv hcj));have htl:(yU cs (l.take i)).length=i:=by unfold yU;rw[uj,u9];omega
     have happ:(yU cs (l.take i)).map yf++[yf c]=(yU cs (l.take (i+1))).map yf:=by
      rw[zO hx];unfold yU;simp only[u5,uH,tI,tj,hcj,Option.getD_some]
     repeat' first|refine gG ?_|refine gB ?_ ?_<;>intro h|refine gIt (zl hx) ?_|refine gIt (zl hcj) ?_|refine gC hCl ?_|refine gT ?_|refine gY T 141 ((yU cs (l.take (i+1))).map yf) 40 ?_
     rw[wrapN ua];exact zg (i+1) ua (ms [(140,141)]) ua ⟨rfl,⟨rfl,rfl,rfl,rfl,rfl,rfl,uh⟩,⟨rfl,rfl,uh⟩,rfl,y4 rfl⟩
    ·have hge: ¬i<l.length:=by simpa using J
     clear J;rw[u0 ua]
     repeat' first|refine gG ?_|refine gB ?_ ?_<;>intro h|refine zd ?_
     refine gZ 140 [(10,pS (yj (yU cs l)))] [] ?_;exact gF
def pcL(run:Hp->Cl->Option (Int×Hp)):List Cl->Hp->Int
 | [],_=>0
 |c::r,m=>match run m c with
  |some (n,m2)=>n+pcL run r m2
  |none=>0
def inI(cs:List Cl)(w:List Int):Prop:= ∀x∈w,0<=x/\x<cs.length
structure FrS (run:Hp->Cl->Option (Int×Hp)) (cs:List Cl) (k:Nat) (m:Hp) (a:List Int) (cost:Int) (st st':BSt) (ok:List Int->Prop):Prop where
 is:st'=st\/ ∃w,w.length=k/\inI cs w/\st'=(some (a++w),cost+pcL run (yU cs w) m)
 mono:st.1≠none->st'.1≠none/\st.2<=st'.2
 most: ∀w,w.length=k->inI cs w->ok w->st'.1≠none/\cost+pcL run (yU cs w) m<=st'.2
theorem ziq{f:Hp->List Int->Int->BSt->BSt}{k:Nat}(hf: ∀m a c st,Kp m->FrS run cs k m a c st (f m a c st) λ_=>True)(hr: ∀m,Kp m-> ∀c∈cs,∃n m2,run m c=some (n,m2)/\Kp m2){m:Hp}(hK:Kp m)(a:List Int)(cost:Int):
 ∀(l:List Cl) (i:Nat) (st:BSt),l=cs.drop i->FrS run cs (k+1) m a cost st (frmL run f m a cost l i st) λw=> ∃j:Nat,w.head?=some (j:Int)/\i<=j
 | [],i,st,h=>⟨.inl rfl,λh=>⟨h,qz _⟩,λw J h2 ⟨j,h3,h4⟩=>by
     have U:=h2 j (List.mem_of_head? h3)
     have:cs.length<=i:=by
      have:=u7 List.length h;rw[tD]at this;simp only[tN]at this;omega
     omega⟩
 |c::r,i,st,h=>by
  have hc:cs[i]?=some c:=by
   have:=u7 (λl=>l[0]?) h;simp only[List.getElem?_cons_zero,tc,qe]at this;exact this.symm
  have hd:r=cs.drop (i+1):=by
   have:=u7 (List.drop 1) h;rw[tC]at this;simpa [oz]using this
  have hlt:i<cs.length:=(uy.1 hc).1;obtain⟨n,m2,hn,hK2⟩:=hr m hK c (uv hc);have J:=hf m2 (a++[(i:Int)]) (cost+n) st hK2;have h2:=ziq hf hr hK a cost r (i+1) (f m2 (a++[(i:Int)]) (cost+n) st) hd
  have hp: ∀w,pcL run (yU cs ((i:Int)::w)) m=n+pcL run (yU cs w) m2:=λw=>by
   unfold yU;simp only[uH,tj,hc,Option.getD_some,pcL,hn]
  have e:frmL run f m a cost (c::r) i st=frmL run f m a cost r ((i+1:Nat):Int) (f m2 (a++[(i:Int)]) (cost+n) st):=by
   simp only[frmL,hn];rfl
  rw[e];generalize f m2 (a++[(i:Int)]) (cost+n) st=s1 at J h2⊢;generalize frmL run f m a cost r ((i+1:Nat):Int) s1=s2 at h2⊢;refine⟨?_,λh=>?_,λw hw hi ⟨j,U,hij⟩=>?_⟩
  ·rcases h2.is with rfl|h2
   ·rcases J.is with rfl|⟨w,q1,q2,q3⟩
    ·exact .inl rfl
    ·refine .inr ⟨(i:Int)::w,by simp[q1],λx hx=>?_,by rw[q3,hp];simp[Int.add_assoc]⟩;rcases uF.1 hx with rfl|hx
     ·omega
     ·exact q2 x hx
   ·exact .inr h2
  ·have q1:=J.mono h;have q2:=h2.mono q1.1;exact⟨q2.1,ua⟩
  ·by_cases e:j=i
   ·subst e;cases w with
    |nil=>cases U
    |cons x w=>
     simp only[List.head?_cons,ui]at U;subst U;have q1:=J.most w (by simpa using hw) (λx hx=>hi x (u3 _ hx)) trivial;have q2:=h2.mono q1.1;rw[hp];exact⟨q2.1,ua⟩
   ·exact h2.most w hw hi ⟨j,U,ua⟩
theorem zhr(hr: ∀m,Kp m-> ∀c∈cs,∃n m2,run m c=some (n,m2)/\Kp m2): ∀(k:Nat) (m:Hp) (a:List Int) (cost:Int) (st:BSt),Kp m->FrS run cs k m a cost st (frm run cs k m a cost st) λ_=>True
 |0,m,a,cost,st,_=>by
  simp only[frm];split
  ·rename_i h;refine⟨.inr ⟨[],rfl,λ_ h=>(by cases h),by simp[yU,pcL]⟩,λh2=>⟨ue,by have:=h.resolve_left h2;simp only;omega⟩,λw J _ _=>?_⟩;rw[uY.1 J];exact⟨ue,by simp[yU,pcL]⟩
  ·rename_i h;simp only[oW]at h;refine⟨.inl rfl,λh2=>⟨h2,qz _⟩,λw J _ _=>?_⟩;rw[uY.1 J];exact⟨h.1,by simp only[yU,tI,pcL];omega⟩
 |k+1,m,a,cost,st,U=>by
  simp only[frm];have h:=ziq (λm a c st U=>zhr hr k m a c st U) hr U a cost cs 0 st rfl;refine⟨h.is,h.mono,λw J hi _=>h.most w J hi ?_⟩;cases w with
  |nil=>cases J
  |cons x w=>
   have:=hi x (List.mem_cons_self ..);exact⟨x.toNat,by simp only[List.head?_cons,ui];omega,uD _⟩
variable {c:Cl}
theorem zxw(h:(chE d c).1=0):za6 d m c=0:=by
 obtain⟨i,p,h1,h2,_,h3,h4,U⟩:=zmq h;unfold za6;simp only[h1,h2];rw[ur ua,ur];rw[oE,List.any_eq_false];intro q hq;rw[List.any_eq_false]at U;have h6:=U q hq;have J:=h4 q.2 (List.of_mem_zip hq).2;simp only[agB,bdB,plB,uJ,uq,um,ux,qa,uu]at h6 J;unfold rtB;rcases J with J|J
 ·rw[uw J];simp only[ux,qa,uu];omega
 ·rw[ur (by rw[J];decide),uw J];simp only[ux,uT,uu];refine tU λhn=>h6 (.inr ⟨⟨J,?_⟩,?_⟩)<;>omega
theorem zvC(h:vi d m=true)(h0:0<=fuel)(h1:fuel<=1048576):zej d m fuel=0:=by
 obtain⟨h2,h3⟩:=vl h;unfold zej;rw[ur (by simp[h2,h3]),ur ua]
theorem zmN(h:vi d m=true)(g:Nat):ptE (bare d) m g=some (0,0):=by
 unfold ptE;rw[zmt (zbn h).2.2];rfl
theorem zs9(d:zf)(m:Hp)(g:Nat)(p:Pr)(c:Cl):bnE (bare d) m g p c=some (1099511627776,0):=rfl
theorem zvD(J:vi d m=true)(h0:0<=fuel)(h1:fuel<=1048576)(hc:(chE d c).1=0):
 ∃fl v co n m2,0<=n/\n<=68719476736/\vi d m2=true/\zh prog 51 [zn (zr d),zn (yp m),zn (yf c),I fuel] [] (.tup [.agg (zh6 fl v co n),zn (yp m2),I 0]) []/\
  ∃k0,∀g,k0<=g->entE (bare d) m g c fuel=some (⟨n,0,0,1099511627776⟩,some m2,0):=by
 obtain⟨i,p,hi,hp,hpe,_⟩:=zmq hc;have hca:=zxw (m:=m) hc;obtain⟨k0,⟨fl,v,x⟩,hk,hacc,U⟩:=zpn J h0 h1 hi hp hca;simp only at hacc U;obtain⟨hd,hf,hv⟩:=zbn J;obtain⟨hs,hw⟩:=vg hd hv;have hok2:=zsP J U;have hac2:x.acc.length<=1099511627776:=by omega
 have hlen:ndC x.acc<=x.acc.length:=oB _ _;refine⟨fl,v,x.comps,(ndC x.acc:Nat),⟨x.g,x.ns⟩,uL _,ua,hok2,zma hs hw hca (zvC J h0 h1) (k:=k0) (λi' p' hi' hp'=>?_) hac2,k0,λg hg=>?_⟩
 ·rw[hi]at hi';cases hi';rw[hp]at hp';cases hp';exact hk k0 (uM _)
 ·unfold entE;rw[zsX,zsW,zsV,hc,hpe,zmN J,zs9,zvC (zmu J) h0 h1,hca,hk g hg];simp only[zmN hok2,not_true_eq_false,uN];rw[ur ua]
theorem zir{α:Type}(p:α->Bool): ∀(l:List α),(anyR (λ(x:α) (_:Unit)=>p x) (λ_ s=>s) l ()).1=l.any p
 | []=>rfl
 |x::r=>by
  simp only[anyR,qp];cases p x with
  |true=>simp
  |false=>simp only[uB,uN,tw];exact zir p r
theorem zfw(l:List EnT):zh prog 34 [pS (enL l),.one (.cl 35 [] [])] [] (.bq (l.any wU)) []:=by
 have:=zsN 35 l (λx _=>wU x) (λ_ s=>s) (λ_=>True) (λx _ _ _=>⟨zpl x,λ_=>trivial⟩) () trivial;rwa [zir]at this
variable {x:EnT}
theorem zgu(J:wU x=false):zh prog 37 [zn (enR x)] [] (.bq (zpk x)) []:=by
 have hb:=zd2 J;have U:IntKind.i64.wrap (x.ac+x.af)=x.ac+x.af:=wrap64 ua;have w2:IntKind.i64.wrap (x.ac+x.af - x.be)=x.ac+x.af - x.be:=wrap64 ua;unfold zpk;refine gFo func37 λC hC=>?_
 repeat' first|refine gG ?_|refine gB ?_ ?_<;>intro h|refine gQ ?_|refine gL ?_|(rw[U,w2])
 all_goals (simp_all<;>omega)
def ztX(l:List EnT):Int×Int:=if l.any wU=true then(0,1)else(idxI (l.findIdx? zpk),0)
theorem zkd(l:List EnT):zh prog 14 [pS (enL l)] [] (.tup [I (ztX l).1,I (ztX l).2]) []:=by
 have J:=zfw l;unfold ztX;cases hw:l.any wU with
 |true=>
  rw[hw]at J;refine gFo func14 λC hC=>?_
  repeat' first|refine gG ?_|exact gD|refine gB ?_ ?_<;>intro h|refine gC J ?_
  exact gF
 |false=>
  rw[hw]at J;have U:=zmh 37 l (λx _=>zpk x) (λ_ s=>s) (λ_=>True) (λx hx _ _=>⟨zgu (by have:=List.any_eq_false.1 hw x hx;simpa using this),λ_=>trivial⟩) () trivial;rw[yR]at U;refine gFo func14 λC hC=>?_
  repeat' first|refine gG ?_|exact gD|refine gB ?_ ?_<;>intro h|refine gC J ?_|refine gC U ?_
  exact gF
def sumE(f:EnT->Int):List EnT->Int
 | []=>0
 |x::r=>f x+sumE f r
theorem zfx(f:EnT->Int)(x:EnT): ∀l,sumE f (l++[x])=sumE f l+f x
 | []=>by simp[sumE]
 |y::l=>by simp only[uK,sumE,zfx f x l];omega
variable {i:Nat}
theorem zfy(f:EnT->Int){l:List EnT}(h:l[i]?=some x):sumE f (l.take (i+1))=sumE f (l.take i)+f x:=by rw[zO h,zfx]
theorem zgY(f:EnT->Int): ∀l:List EnT,(∀x∈l,inB (f x))-> -(1099511627776*(l.length:Int))<=sumE f l/\sumE f l<=1099511627776*(l.length:Int)
 | [],_=>by simp[sumE]
 |x::r,h=>by
  have J:=h x ue;have h2:=zgY f r λy U=>h y (by simp[U])
  unfold inB at J;simp only[sumE,uX];omega
def znK(l:List EnT):Bool:=l.any λx=>decide (x.bo=1099511627776)
def zE:EnT:=⟨0,0,0,0⟩
def ztI(l:List EnT)(n:Nat):EnT×Int:=
 if(!bdB (sumE (·.ac) (l.take n))|| !bdB (if znK (l.take n)=true then 1099511627776 else sumE (·.bo) (l.take n)))=true then(zE,5)else if n=0 then(zE,0)
 else(⟨sumE (·.ac) (l.take n),((l[0]?).map (·.be)).getD 0,((l[n - 1]?).map (·.af)).getD 0,if znK (l.take n)=true then 1099511627776 else sumE (·.bo) (l.take n)⟩,0)
def zpA(l:List EnT)(n:Int):EnT×Int:=if l.any wU=true then(zE,1)else if n<0\/(l.length:Int)<n then(zE,2)else ztI l n.toNat
theorem zmO{l:List EnT}(h:l[i]?=some x):znK (l.take (i+1))=(znK (l.take i)||decide (x.bo=1099511627776)):=by
 unfold znK;rw[zO h,Uo];simp
variable {α:Type}
theorem zta{l:List α}{f:α->List PV}{x:α}(h:l[0]?=some x):(l.map f)[(0:Int).toNat]?=some (f x):=zl (i:=0) h
abbrev boS(b:Bool):S:= .one (.p (.k (.bool b)))
theorem ztb{l:List EnT}(hl:l.length<=1000000)(n:Int):zh prog 15 [pS (enL l),I n] [] (.tup [zn (enR (zpA l n).1),I (zpA l n).2]) []:=by
 have hW:=zfw l;unfold zpA;cases hw:l.any wU with
 |true=>
  rw[hw]at hW;refine gFo func15 λC hC=>?_
  repeat' first|refine gG ?_|exact gD|refine gB ?_ ?_<;>intro h|refine gC hW ?_
  exact gF
 |false=>
  rw[hw]at hW;rw[ur ue];have hvl: ∀x∈l,wU x=false:=λx J=>by have:=List.any_eq_false.1 hw x J;simpa using this
  clear hw;by_cases h2:n<0\/(l.length:Int)<n
  ·rw[uw h2];refine gFo func15 λC hC=>?_
   repeat' first|refine gG ?_|exact gD|(exfalso;simp only[uT,uq,uu,uj]at *; omega)|refine gB ?_ ?_<;>intro h|refine gC hW ?_
   all_goals exact gF
  rw[ur h2];obtain⟨k,rfl⟩: ∃k:Nat,n=k:=⟨n.toNat,ua⟩;rw[tj];by_cases hk:k=0
  ·subst hk;have hz:ztI l 0=(zE,0):=by unfold ztI;simp[sumE,znK,bdB]
   rw[hz];refine gFo func15 λC hC=>?_
   repeat' first|refine gG ?_|exact gD|(exfalso;simp only[uJ,uq,uu,uj]at h;omega)|refine gB ?_ ?_<;>intro h|refine gC hW ?_
   all_goals exact gF
  obtain⟨x0,hx0⟩:=za (l:=l) (i:=0) ua;obtain⟨xn,hxn⟩:=za (l:=l) (i:=k - 1) ua;have wk:IntKind.i64.wrap ((k:Int) - 1)=((k - 1:Nat):Int):=by rw[wrap64 ua];omega
  have hkl:(l.take k).length=k:=by rw[u9];omega
  have htk:(l.map enR).take ((k:Int)).toNat=(l.take k).map enR:=by rw[tj,qG]
  refine gFo func15 λC hC=>?_
  repeat' first|refine gG ?_|exact gD|(exfalso;simp only[uJ,uq,uu,uj]at h;omega)|refine gB ?_ ?_<;>intro h|refine gC hW ?_|refine gIt (zta hx0) ?_|(rw[wk];refine gIt (zl hxn) ?_)|refine zbs T hC ((l.take k).map enR) rfl rfl rfl (uL _) (by rw[uj];omega) htk rfl rfl ?_
  rw[uj,hkl];have hvt: ∀j x,(l.take k)[j]?=some x->wU x=false:=λj x hj=>hvl x (qd (uv hj))
  have hti: ∀i,i<=k->(l.take k).take i=l.take i:=λi hi=>by rw[List.take_take,Up hi]
  have hbd: ∀i,i<=k->(-1099511627776000000<=sumE (·.ac) (l.take i)/\sumE (·.ac) (l.take i)<=1099511627776000000)/\ -1099511627776000000<=sumE (·.bo) (l.take i)/\sumE (·.bo) (l.take i)<=1099511627776000000:=λi hi=>by
   have h1:=zgY (·.ac) (l.take i) λx J=>by
    have:=zd2 (hvl x (qd J));unfold inB;omega
   have h2:=zgY (·.bo) (l.take i) λx J=>by
    have:=zd2 (hvl x (qd J));unfold inB;omega
   rw[u9]at h1 h2;omega
  refine zj (λq:Nat×Bool=>q.1<=k/\q.2=znK (l.take q.1)) (λq=>([(4,.one (.bx 1004 0)),(6,.one (.bx 1006 0)),(7,boS q.2),(38,pS (.sl 4 ((l.take k).map enR))),(39,I k),(40,I q.1)],
   [(1004,some (.box ((enR zE).map V.p))),(1006,some (.box [.p (ki (sumE (·.ac) (l.take q.1))),.p (ki x0.be),.p (ki xn.af),.p (ki (sumE (·.bo) (l.take q.1)))]))])) (λq=>k - q.1) hC
   (0,false) ⟨uD _,rfl⟩ id gM ?_
  rintro⟨i,b⟩ ⟨hi,hb⟩;simp only at hi hb
  change Goal _ _ _ _ _ [(4,.one (.bx 1004 0)),(6,.one (.bx 1006 0)),(7,boS b),(38,pS (.sl 4 ((l.take k).map enR))),(39,I (k:Int)),(40,I (i:Int))]
   [(1004,some (.box ((enR zE).map V.p))),(1006,some (.box [.p (ki (sumE (·.ac) (l.take i))),.p (ki x0.be),.p (ki xn.af),.p (ki (sumE (·.bo) (l.take i)))]))] _
  refine gLc ?_ ?_<;>intro h
  ·have hlt:i<k:=by have:=uk h;omega
   clear h;obtain⟨x,J⟩:=za (l:=l.take k) (i:=i) ua;have hxl:l[i]?=some x:=by rw[qv,uw hlt]at J;exact J
   have h1:=hbd i hi;have h3:=hbd (i+1) ua;have s1:=zfy (·.ac) hxl;have s2:=zfy (·.bo) hxl
   try simp only at s1 s2
   have w1:IntKind.i64.wrap (sumE (·.ac) (l.take i)+x.ac)=sumE (·.ac) (l.take (i+1)):=by rw[<-s1];exact wrap64 ua
   have w2:IntKind.i64.wrap (sumE (·.bo) (l.take i)+x.bo)=sumE (·.bo) (l.take (i+1)):=by rw[<-s2];exact wrap64 ua
   have hfr:=zmO hxl;rw[<-hb]at hfr;have w3:IntKind.i64.wrap ((i:Int)+1)=((i+1:Nat):Int):=by rw[wrap64 ua];omega
   cases b with
   |true=>
    repeat' first|refine gG ?_|exact gD|refine gB ?_ ?_<;>intro h|refine gIt (zl J) ?_
    rw[w1,w2,w3];exact zg (i+1,true) ⟨by simp only;omega,by simp only;rw[hfr];rfl⟩ id (by simp only;omega) gM
   |false=>
    repeat' first|refine gG ?_|exact gD|refine gB ?_ ?_<;>intro h|refine gIt (zl J) ?_
    refine zr7 rfl 7 rfl (LeS.bq (b':=decide (x.bo=1099511627776)) rfl) ?_;rw[w1,w2,w3];exact zg (i+1,decide (x.bo=1099511627776)) ⟨by simp only;omega,by simp only;rw[hfr];rfl⟩ id (by simp only;omega) gM
  ·have hik:i=k:=by have:=uo h;omega
   clear h;subst hik;have hA:=vh (sumE (·.ac) (l.take i));have U:=vh (if b=true then 1099511627776 else sumE (·.bo) (l.take i))
   have htp:ztI l i=if(!bdB (sumE (·.ac) (l.take i))|| !bdB (if b=true then 1099511627776 else sumE (·.bo) (l.take i)))=true then(zE,5)else(⟨sumE (·.ac) (l.take i),x0.be,xn.af,if b=true then 1099511627776 else sumE (·.bo) (l.take i)⟩,0):=by
    unfold ztI;rw[<-hb,ur hk,hx0,hxn];rfl
   rw[htp];clear htp hb hbd;generalize sumE (·.ac) (l.take i)=A at hA⊢;generalize sumE (·.bo) (l.take i)=B at U⊢;cases b with
   |true=>
    replace U:zh prog 38 [I 1099511627776] [] (.bq (bdB 1099511627776)) []:=U
    rw[show(if true=true then(1099511627776:Int)else B)=1099511627776 from rfl];cases hu:bdB A<;>rw[hu]at hA<;>cases hv:bdB 1099511627776<;>rw[hv]at U
    all_goals
     repeat' first|refine gG ?_|exact gD|refine gB ?_ ?_<;>intro h|refine zd ?_|refine gC hA ?_|refine gC U ?_
     exact gF
   |false=>
    replace U:zh prog 38 [I B] [] (.bq (bdB B)) []:=U
    rw[show(if false=true then(1099511627776:Int)else B)=B from rfl];cases hu:bdB A<;>rw[hu]at hA<;>cases hv:bdB B<;>rw[hv]at U
    all_goals
     repeat' first|refine gG ?_|exact gD|refine gB ?_ ?_<;>intro h|refine zd ?_|refine gC hA ?_|refine gC U ?_
     exact gF
def okK(d:zf)(m:Hp):Prop:=vi d m=true
theorem zt0(h0:0<=fuel)(h1:fuel<=1048576): ∃run:Hp->Cl->Option (Int×Hp),∀m c,okK d m->(chE d c).1=0->
 zpy d fuel run (okK d) m c/\ ∃n m2,run m c=some (n,m2)/\okK d m2/\0<=n/\n<=68719476736/\ ∃k0,∀g,k0<=g->entE (bare d) m g c fuel=some (⟨n,0,0,1099511627776⟩,some m2,0):=by
 have key: ∀m c,∃q:Option (Int×Hp),okK d m->(chE d c).1=0-> ∃fl v co n m2,q=some (n,m2)/\0<=n/\n<=68719476736/\vi d m2=true/\zh prog 51 [zn (zr d),zn (yp m),zn (yf c),I fuel] [] (.tup [.agg (zh6 fl v co n),zn (yp m2),I 0]) []/\
  ∃k0,∀g,k0<=g->entE (bare d) m g c fuel=some (⟨n,0,0,1099511627776⟩,some m2,0):=λm c=>by
  by_cases h:okK d m/\(chE d c).1=0
  ·obtain⟨fl,v,co,n,m2,h2⟩:=zvD h.1 h0 h1 h.2;exact⟨some (n,m2),λ_ _=>⟨fl,v,co,n,m2,rfl,h2⟩⟩
  ·exact⟨none,λh2 h3=>absurd ⟨h2,h3⟩ h⟩
 refine⟨λm c=>(key m c).choose,λm c hm hc=>?_⟩;obtain⟨fl,v,co,n,m2,J,U,q3,q4,q5,q6⟩:=(key m c).choose_spec hm hc;exact⟨.inl ⟨fl,v,co,n,m2,J,q4,U,ua,q5⟩,n,m2,J,q4,U,q3,q6⟩
theorem zbd{d:zf}: ∀ {l:List Cl},chL d l=0-> ∀c∈l,(chE d c).1=0
 | [],_,_,h=>by cases h
 |x::r,h,c,J=>by
  unfold chL at h;split at h
  ·rename_i e;rcases uF.1 J with rfl|J
   ·exact e
   ·exact zbd h c J
  ·rename_i e;exact absurd h e
section
variable (hr: ∀m c,okK d m->(chE d c).1=0-> ∃n m2,run m c=some (n,m2)/\okK d m2/\0<=n/\n<=68719476736/\ ∃k0,∀g,k0<=g->entE (bare d) m g c fuel=some (⟨n,0,0,1099511627776⟩,some m2,0))
include hr
theorem zmP: ∀(l:List Cl) (m:Hp),okK d m->(∀c∈l,(chE d c).1=0)-> ∃k0 xs m2,(∀g,k0<=g->zxm (bare d) g fuel l m=some (xs,some m2,0))/\xs.length=l.length/\sumE (·.ac) xs=pcL run l m/\ ∀x∈xs,∃n,0<=n/\n<=68719476736/\x=⟨n,0,0,1099511627776⟩
 | [],m,_,_=>⟨0,[],m,λ_ _=>rfl,rfl,rfl,λ_ h=>by cases h⟩
 |c::l,m,hm,hc=>by
  obtain⟨n,m2,U,q2,q3,q4,k0,q5⟩:=hr m c hm (hc c ue);obtain⟨k1,xs,m3,p1,p2,p3,p4⟩:=zmP l m2 q2 λc h=>hc c (by simp[h])
  refine⟨max k0 k1,⟨n,0,0,1099511627776⟩::xs,m3,λg hg=>?_,by simp[p2],by simp only[sumE,pcL,U,p3],λx J=>?_⟩
  ·have e:=p1 g ua;unfold zxm at e⊢;rw[zmr,q5 g ua];simp only[not_true_eq_false,uN,e,uG,uW]
  ·rcases uF.1 J with rfl|J
   ·exact⟨n,q3,q4,rfl⟩
   ·exact p4 x J
end
theorem zmQ: ∀ {l:List EnT},(∀x∈l,∃n,0<=n/\n<=68719476736/\x=(⟨n,0,0,1099511627776⟩:EnT))->0<=sumE (·.ac) l/\sumE (·.ac) l<=68719476736*(l.length:Int)
 | [],_=>by simp[sumE]
 |x::r,h=>by
  obtain⟨n,h1,h2,rfl⟩:=h x ue;have h3:=zmQ (l:=r) λx J=>h x (by simp[J])
  simp only[sumE,uX];omega
theorem ztc{l:List EnT}(h: ∀x∈l,∃n,0<=n/\n<=68719476736/\x=(⟨n,0,0,1099511627776⟩:EnT))(hl:l.length<=16):(zpA l l.length).2=0/\(zpA l l.length).1.ac=sumE (·.ac) l:=by
 have J:=zmQ h;unfold zpA;rw[ur,ur ua]
 ·unfold ztI;rw[tj,List.take_length,ur]
  ·split
   ·rename_i e;rw[uY.1 e];exact⟨rfl,rfl⟩
   ·exact⟨rfl,rfl⟩
  ·simp only[bdB,uJ,ux,qa,uu];cases l with
   |nil=>simp[znK,sumE]
   |cons x r=>
    obtain⟨n,_,_,rfl⟩:=h x ue;have hf:znK (⟨n,0,0,1099511627776⟩::r)=true:=by simp[znK]
    rw[hf,uw rfl];omega
 ·rw[oE,List.any_eq_false];intro x U;obtain⟨n,J,h2,rfl⟩:=h x U;simp only[wU,bdB,oE,uT,uE,um,uq,uu];omega
theorem zvE{m2:Hp}{g:Nat}{l:List Cl}{s:Int}{xs:List EnT}(hl:l.length<=16)(hfu:0<=fuel/\fuel<=100)(ha:ztz d m g l fuel=some (xs,some m2,0))(hx:xs.length=l.length)(ht:(zpA xs xs.length).2=0)(hs:(zpA xs xs.length).1.ac=s):
 zh prog 20 [pS (yj l),.one (.bx 0 0),.one (.bx 1 0),.one (.bx 2 0)] [(0,.box ((zr d).map V.p)),(1,.box ((yp m).map V.p)),(2,.box [.p (.k (.int .u8 fuel))])] (.tup [I s,.bq true])
  [(0,.box ((zr d).map V.p)),(1,.box ((yp m).map V.p)),(2,.box [.p (.k (.int .u8 fuel))])]:=by
 have J:=zkc ha;have hT:=ztb (l:=xs) ua xs.length;have hw:IntKind.i64.wrap fuel=fuel:=wrap64 ua;rw[ht]at hT;subst hs;generalize (zpA xs xs.length).1=t at hT⊢;obtain⟨ac,be,af,bo⟩:=t;simp only[mzS]at J;rw[<-hw]at J;have U:(xs.map enR).length=xs.length:=uj _;rw[<-U]at hT;refine gFo func20 λC hC=>?_
 repeat' first|refine gG ?_|exact gD|refine gB ?_ ?_<;>intro h|refine gC J ?_|refine gC hT ?_
 rw[show decide ((((xs.map enR).length:Nat):Int)=(((l.map yf).length:Nat):Int))=true by simp[hx]];exact gE
theorem zke(hr: ∀m c,okK d m->(chE d c).1=0-> ∃n m2,run m c=some (n,m2)/\okK d m2/\0<=n/\n<=68719476736/\ ∃k0,∀g,k0<=g->entE (bare d) m g c fuel=some (⟨n,0,0,1099511627776⟩,some m2,0))
 (U:okK d m) {l:List Cl} (hc: ∀c∈l,(chE d c).1=0) (hl:l.length<=16) (J:0<=fuel/\fuel<=100):
 zh prog 20 [pS (yj l),.one (.bx 0 0),.one (.bx 1 0),.one (.bx 2 0)] [(0,.box ((zr (bare d)).map V.p)),(1,.box ((yp m).map V.p)),(2,.box [.p (.k (.int .u8 fuel))])] (.tup [I (pcL run l m),.bq true])
  [(0,.box ((zr (bare d)).map V.p)),(1,.box ((yp m).map V.p)),(2,.box [.p (.k (.int .u8 fuel))])]:=by
 obtain⟨k0,xs,m2,h1,h2,h3,h4⟩:=zmP hr l m U hc;have ht:=ztc h4 ua;refine zvE (d:=bare d) (g:=k0) (m2:=m2) hl J ?_ h2 ht.1 (ht.2.trans h3);unfold ztz;rw[ur (by rw[zmu U];decide),ur ua,ur ua];exact h1 k0 (uM _)
theorem zhs{w:List Int}(h:inI cs w): ∀c∈yU cs w,c∈cs:=λc U=>by
 obtain⟨x,hx,rfl⟩:=tO.1 U;have h1:=h x hx;obtain⟨y,J⟩:=za (l:=cs) (i:=x.toNat) ua;rw[J];exact uv J
def zwH(d:zf)(m:Hp):Bool:= !zlb d&& !zf1 m&&decide ((m.n.length:Int)<=40)
theorem ztZ(d:zf)(m:Hp):zh prog 7 [zn (zr d),zn (yp m)] [] (.bq (zwH d m)) []:=by
 have J:=zoz d;have h2:=zrz m;unfold zwH;rw[show(m.n.length:Int)=((m.n.map wy).length:Int) by rw[uj]];generalize zlb d=g at J⊢;generalize zf1 m=w at h2⊢;refine gFo func7 λC hC=>?_
 repeat' first|refine gG ?_|refine gB ?_ ?_<;>intro h|refine gC J ?_|refine gC h2 ?_|refine gQ ?_|refine gL ?_
 all_goals (try simp only[uj]at*)
 all_goals simp_all
def ziQ(c:Cl):Bool:=decide (100<(c.p.size:Int))||decide (20<(c.a.length:Int))
theorem zmR(c:Cl):zh prog 27 [zn (yf c)] [] (.bq (ziQ c)) []:=by
 unfold ziQ;refine gFo func27 λC hC=>?_
 repeat' first|refine gG ?_|refine gB ?_ ?_<;>intro h|refine gQ ?_|refine gL ?_
 all_goals (try simp only[uj]at*)
 all_goals (simp_all<;>(try omega))
section
variable {f:FuncId} {l:List Cl} {p:Cl->Bool} (hf: ∀x∈l,zh prog f [zn (yf x)] [] (.bq (p x)) [])
include hf
theorem ztd:zh prog 48 [pS (yj l),.one (.cl f [] [])] [] (I (ixB p l 0)) []:=by
 refine gFo func48 λC hC=>?_;refine wG 0 rfl λhl=>?_;rw[uj]at hl
 repeat' first|refine gG ?_|refine gB ?_ ?_<;>intro h
 rw[uj];refine zj (λi:Nat=>i<=l.length/\ixB p (l.drop i) i=ixB p l 0) (λi=>([(0,pS (yj l)),(1,.one (.cl f [] [])),(7,I l.length),(8,I i)],[])) (λi=>l.length - i) hC 0 ⟨uD _,rfl⟩ id gM ?_;generalize ixB p l 0=res;rintro i ⟨hi,J⟩;change Goal _ _ _ _ _ [_,_,_,_] [] _;refine gLc ?_ ?_<;>intro U
 ·have hlt:i<l.length:=by simpa using U
  clear U;obtain⟨x,hx⟩:=za hlt;rw[drop_at hx]at J;simp only[ixB]at J
  repeat' first|refine gG ?_|refine gB ?_ ?_<;>intro h|refine gIt (zl hx) ?_|refine gR (hf x (uv hx)) id ?_|refine zk ?_
  ·rw[uw uf]at J;subst J;exact gF
  ·have hpf:p x=false:=by assumption
   rw[hpf]at J;simp only[uB,uN]at J;rw[wrap64 ua];exact zg (i+1) ⟨ua,J⟩ id ua gM
 ·have hge: ¬i<l.length:=by simpa using U
  rw[uC ua]at J;simp only[ixB]at J;subst J
  repeat' first|refine gG ?_|refine gB ?_ ?_<;>intro h|refine zd ?_
  exact gF
theorem zte:zh prog 26 [pS (yj l),.one (.cl f [] [])] [] (.bq (l.any p)) []:=by
 have J:=ztd hf;refine gFo func26 λC hC=>?_
 repeat' first|refine gG ?_|refine gB ?_ ?_<;>intro h|refine gR J (nm []) ?_
 exact gFl id rfl (.qq (zgk p l 0))
end
def zhq(l:List Cl)(n:Int):Bool:=(decide ((l.length:Int)<=n)||(decide (2000<(l.length:Int))&&decide ((l.length:Int)<2005)))&& !l.any ziQ
theorem zn2(l:List Cl)(n:Int):zh prog 8 [pS (yj l),I n] [] (.bq (zhq l n)) []:=by
 have J:=zte (f:=27) (l:=l) (p:=ziQ) λx _=>zmR x
 unfold zhq;generalize l.any ziQ=w at J⊢;refine gFo func8 λC hC=>?_
 repeat' first|refine gG ?_|refine gB ?_ ?_<;>intro h|refine gC J ?_|refine gQ ?_|refine gL ?_
 all_goals (try simp only[uj]at*)
 all_goals (simp_all<;>(try omega))
end Hw.Gm
namespace Hw
open Go
def ix:List Nat->Nat->Nat
 | [],_=>0
 |j::r,i=>match Nat.beq j i with
  |true=>0
  |false=>ix r i+1
theorem zvF(m:List Nat): ∀ {l:List Nat} {i:Nat},hasB i l=true->(l++m)[ix l i]?=some i
 | [],_,h=>by cases h
 |j::r,i,h=>by
  simp only[ix];split
  ·rename_i e;simp[uA e]
  ·rename_i e;simp only[hasB,e,tw]at h;simpa using zvF m h
variable {i:Nat}
theorem zvG{m l:List Nat}(h:hasB i l=true):nm (l++m) (ix l i)=i:=by
 unfold nm;rw[zvF m h];rfl
section
variable {l:List Nat} {f g:Nat->Nat}
mutual
theorem V.back(hl: ∀i,hasB i l=true->g (f i)=i): ∀v:V,cloV l v=true->(v.ren f).ren g=v
 | .p _,_=>rfl
 | .pi _ _,_=>rfl
 | .bx i j,h=>by simp only[V.ren];rw[hl i h]
 | .ar i,h=>by simp only[V.ren];rw[hl i h]
 | .el i j,h=>by simp only[V.ren];rw[hl i h]
 | .mp i,h=>by simp only[V.ren];rw[hl i h]
 | .bs i j k,h=>by simp only[V.ren];rw[hl i h]
 | .nv i j,h=>by simp only[V.ren];rw[hl i h]
 | .np i j k,h=>by simp only[V.ren];rw[hl i h]
 | .sv i j k,h=>by simp only[V.ren];rw[hl i h]
 | .cl n a b,h=>by
   simp only[cloV,um]at h;simp only[V.ren];rw[Vs.back hl a h.1,Vs.back hl b h.2]
theorem Vs.back(hl: ∀i,hasB i l=true->g (f i)=i): ∀v:List V,cloVs l v=true->Vs.ren g (Vs.ren f v)=v
 | [],_=>rfl
 |v::vs,h=>by
  simp only[cloVs,um]at h;simp only[Vs.ren];rw[V.back hl v h.1,Vs.back hl vs h.2]
end
mutual
theorem S.back(hl: ∀i,hasB i l=true->g (f i)=i): ∀v:S,cloS l v=true->(v.ren f).ren g=v
 | .one v,h=>by simp only[S.ren];rw[V.back hl v h]
 | .agg v,h=>by simp only[S.ren];rw[Vs.back hl v h]
 | .tup v,h=>by simp only[S.ren];rw[Ss.back hl v h]
 | .gd b v,h=>by simp only[S.ren];rw[S.back hl v h]
 | .bq _,_=>rfl
 | .un,_=>rfl
theorem Ss.back(hl: ∀i,hasB i l=true->g (f i)=i): ∀v:List S,cloSs l v=true->Ss.ren g (Ss.ren f v)=v
 | [],_=>rfl
 |v::vs,h=>by
  simp only[cloSs,um]at h;simp only[Ss.ren];rw[S.back hl v h.1,Ss.back hl vs h.2]
end
def zx3(l:List Nat):Res->Bool
 | .box vs=>cloVs l vs
 | .arr _ _=>true
 |_=>false
def gRL(l:List Nat):RL->Bool
 | []=>true
 |(i,r)::t=>hasB i l&&(zx3 l r&&gRL l t)
theorem Res.back(J: ∀i,hasB i l=true->g (f i)=i): ∀ {r:Res},zx3 l r=true->(r.ren f).ren g=r
 | .box vs,h=>by simp only[Res.ren];rw[Vs.back J vs h]
 | .arr _ _,_=>rfl
theorem RL.back(J: ∀i,hasB i l=true->g (f i)=i): ∀ {R:RL},gRL l R=true->(R.ren f).ren g=R
 | [],_=>rfl
 |(i,r)::t,h=>by
  simp only[gRL,um]at h;simp only[RL.ren];rw[J i h.1,Res.back J h.2.1,RL.back J h.2.2]
theorem zgZ{n:Nat}{sl:zb}{tab:Tab}(J: ∀i,hasB i l=true->g (f i)=i): ∀ {R:RL},gRL l R=true->okT R ⟨n,sl,tab⟩->mR g tab (R.ren f)
 | [],_,_=>trivial
 |(i,r)::t,h,ht=>by
  simp only[gRL,um]at h;exact⟨by rw[J i h.1,Res.back J h.2.1];exact ht.1,zgZ J h.2.2 ht.2⟩
end
theorem zvH{g:Nat->Nat}{st:St}: ∀ {R:RL},mR g st.tab R->mT g st (tb R)
 | [],_=>trivial
 |(_,_)::_,h=>⟨h.1,zvH h.2⟩
theorem zmS: ∀R:RL,(tb R).map (·.1)=R.ids
 | []=>rfl
 |(_,_)::t=>by simp only[tb,uH,RL.ids,zmS t]
def pickR(tab:Tab):List Nat->Option RL
 | []=>some []
 |i::r=>match tg tab i with
  |some x=>match pickR tab r with
   |some t=>some ((i,x)::t)
   |none=>none
  |none=>none
theorem zbo{n:Nat}{sl:zb}{tab:Tab}: ∀ {l:List Nat} {R:RL},pickR tab l=some R->R.ids=l/\okT R ⟨n,sl,tab⟩
 | [],R,h=>by simp only[pickR,ui]at h;subst h;exact⟨rfl,uh⟩
 |i::r,R,h=>by
  simp only[pickR]at h;split at h
  ·rename_i x J;split at h
   ·rename_i t U;simp only[ui]at h;subst h;have:=zbo (n:=n) (sl:=sl) U;exact⟨by simp only[RL.ids,this.1],J,this.2⟩
   ·cases h
  ·cases h
variable {α:Type}
def fcN:Nat->(Nat->α)->α
 |0,f=>f 0
 |n+1,f=>f (n+1)
theorem wJ(n:Nat)(f:Nat->α):fcN n f=f n:=by cases n<;>rfl
def fcI:Int->(Int->α)->α
 | .ofNat n,f=>fcN n λn=>f (.ofNat n)
 | .negSucc n,f=>fcN n λn=>f (.negSucc n)
theorem zvI(n:Int)(f:Int->α):fcI n f=f n:=by cases n<;>simp only[fcI,wJ]
def fcK:Value->(Value->α)->α
 | .int k i,f=>fcI i λi=>f (.int k i)
 | .bool true,f=>f (.bool true)
 | .bool false,f=>f (.bool false)
 |v,f=>f v
theorem zvJ(v:Value)(f:Value->α):fcK v f=f v:=by unfold fcK;split<;>simp only[zvI]
def fcP:PV->(PV->α)->α
 | .k v,f=>fcK v λv=>f (.k v)
 |x,f=>f x
theorem zvK(v:PV)(f:PV->α):fcP v f=f v:=by cases v<;>simp only[fcP,zvJ]
mutual
def fcV:V->(V->α)->α
 | .p x,f=>fcP x λx=>f (.p x)
 | .bx i j,f=>fcN i λi=>fcN j λj=>f (.bx i j)
 | .el i j,f=>fcN i λi=>fcN j λj=>f (.el i j)
 | .ar i,f=>fcN i λi=>f (.ar i)
 | .pi r j,f=>fcN j λj=>f (.pi r j)
 | .cl n a b,f=>fcVs a λa=>fcVs b λb=>f (.cl n a b)
 |v,f=>f v
def fcVs:List V->(List V->α)->α
 | [],f=>f []
 |v::vs,f=>fcV v λv=>fcVs vs λvs=>f (v::vs)
end
mutual
theorem zqO: ∀(v:V) (f:V->α),fcV v f=f v
 | .p x,f=>by simp only[fcV,zvK]
 | .bx i j,f=>by simp only[fcV,wJ]
 | .el i j,f=>by simp only[fcV,wJ]
 | .ar i,f=>by simp only[fcV,wJ]
 | .pi r j,f=>by simp only[fcV,wJ]
 | .cl n a b,f=>by simp only[fcV];rw[zcc a,zcc b]
 | .mp _,f=>by simp only[fcV]
 | .bs _ _ _,f=>by simp only[fcV]
 | .nv _ _,f=>by simp only[fcV]
 | .np _ _ _,f=>by simp only[fcV]
 | .sv _ _ _,f=>by simp only[fcV]
theorem zcc: ∀(v:List V) (f:List V->α),fcVs v f=f v
 | [],f=>by simp only[fcVs]
 |v::vs,f=>by simp only[fcVs];rw[zqO v,zcc vs]
end
mutual
def fcS:S->(S->α)->α
 | .one v,f=>fcV v λv=>f (.one v)
 | .agg v,f=>fcVs v λv=>f (.agg v)
 | .tup v,f=>fcSs v λv=>f (.tup v)
 |v,f=>f v
def fcSs:List S->(List S->α)->α
 | [],f=>f []
 |v::vs,f=>fcS v λv=>fcSs vs λvs=>f (v::vs)
end
mutual
theorem zfz: ∀(v:S) (f:S->α),fcS v f=f v
 | .one v,f=>by simp only[fcS,zqO]
 | .agg v,f=>by simp only[fcS,zcc]
 | .tup v,f=>by simp only[fcS];rw[zg0 v]
 | .gd _ _,f=>by simp only[fcS]
 | .bq _,f=>by simp only[fcS]
 | .un,f=>by simp only[fcS]
theorem zg0: ∀(v:List S) (f:List S->α),fcSs v f=f v
 | [],f=>by simp only[fcSs]
 |v::vs,f=>by simp only[fcSs];rw[zfz v,zg0 vs]
end
def fcRows:List (List PV)->(List (List PV)->α)->α
 | [],f=>f []
 |r::rs,f=>fcRows rs λrs=>f (r::rs)
theorem zfA: ∀(v:List (List PV)) (f:List (List PV)->α),fcRows v f=f v
 | [],f=>rfl
 |v::vs,f=>by simp only[fcRows];rw[zfA vs]
def fcR:Res->(Res->α)->α
 | .box vs,f=>fcVs vs λvs=>f (.box vs)
 | .arr e rows,f=>fcRows rows λrows=>f (.arr e rows)
 |r,f=>f r
theorem zqP(v:Res)(f:Res->α):fcR v f=f v:=by cases v<;>simp only[fcR,zcc,zfA]
def fcRL:RL->(RL->α)->α
 | [],f=>f []
 |(i,r)::t,f=>fcN i λi=>fcR r λr=>fcRL t λt=>f ((i,r)::t)
theorem zd4: ∀(v:RL) (f:RL->α),fcRL v f=f v
 | [],f=>rfl
 |(i,r)::t,f=>by simp only[fcRL,wJ,zqP];rw[zd4 t]
def fcL:List Nat->(List Nat->α)->α
 | [],f=>f []
 |i::t,f=>fcN i λi=>fcL t λt=>f (i::t)
theorem zcd: ∀(v:List Nat) (f:List Nat->α),fcL v f=f v
 | [],f=>rfl
 |i::t,f=>by simp only[fcL,wJ];rw[zcd t]
def fcT:Tab->Tab->(Tab->α)->α
 | [],t,f=>f t
 |(i,none)::r,t,f=>fcN i λi=>fcT r t λt=>f ((i,none)::t)
 |(i,some x)::r,t,f=>fcN i λi=>fcR x λx=>fcT r t λt=>f ((i,some x)::t)
theorem jA: ∀(v t:Tab) (f:Tab->α),fcT v t f=f (v++t)
 | [],t,f=>rfl
 |(i,none)::r,t,f=>by simp only[fcT,wJ];rw[jA r];rfl
 |(i,some x)::r,t,f=>by simp only[fcT,wJ,zqP];rw[jA r];rfl
def addN(i:Nat)(a:List Nat):List Nat:=match hasB i a with
 |true=>a
 |false=>a++[i]
mutual
def adV:V->List Nat->List Nat
 | .bx i _,a=>addN i a
 | .ar i,a=>addN i a
 | .el i _,a=>addN i a
 | .cl _ x y,a=>zvL y (zvL x a)
 |_,a=>a
def zvL:List V->List Nat->List Nat
 | [],a=>a
 |v::vs,a=>zvL vs (adV v a)
end
mutual
def adS:S->List Nat->List Nat
 | .one v,a=>adV v a
 | .agg v,a=>zvL v a
 | .tup v,a=>zxx v a
 |_,a=>a
def zxx:List S->List Nat->List Nat
 | [],a=>a
 |v::vs,a=>zxx vs (adS v a)
end
def growI(tab:Tab):List Nat->List Nat->List Nat
 | [],a=>a
 |i::r,a=>match tg tab i with
  |some (.box vs)=>growI tab r (zvL vs a)
  |_=>growI tab r a
def zis(tab:Tab)(a:List Nat)(f:List Nat->α):α:=
 fcL a λa=>fcL (growI tab a a) λb=>fcL (growI tab b b) λc=>fcL (growI tab c c) f
structure Kno (P:Program) where
 fo:Nat->Option Func
 fo_ok: ∀(f:Nat) (fn:Func),fo f=some fn->P.funcs[f]?=some fn/\(fn.name== "runtime.NumGoroutine")=false
 bo:Nat->Option Nat
 bo_ok: ∀t b,bo t=some b->(P.info? t).map (·.bytes)=some b
 lf:FuncId->List S->RL->Option (S×RL)
 lf_ok: ∀f a R r R',lf f a R=some (r,R')->zh P f a R r R'
def asc{α:Type}:List (Nat×α)->Nat->Option α
 | [],_=>none
 |(i,a)::r,j=>match Nat.beq i j with
  |true=>some a
  |false=>asc r j
def zwi{α:Type}(p:Nat->α->Prop):List (Nat×α)->Prop
 | []=>True
 |(i,a)::r=>p i a/\zwi p r
theorem zj6{α:Type}{p:Nat->α->Prop}: ∀ {l:List (Nat×α)},zwi p l-> ∀i a,asc l i=some a->p i a
 | [],_,_,_,h=>by cases h
 |(j,b)::r,hp,i,a,h=>by
  simp only[asc]at h;split at h
  ·rename_i e;rw[<-uA e];simp only[ui]at h;subst h;exact hp.1
  ·exact zj6 hp.2 i a h
def toB:Law->Law
 |⟨d,rs,rt,fr,.bq b,wt⟩=>⟨d,rs,rt,fr,Bo b,wt⟩
 |L=>L
def LOK(P:Program)(o:Oper)(n:Nat)(sl:zb)(tab:Tab)(L:Law):Prop:=Snd P o L.rs L.rt L.fr L.v L.wt/\L.d=o.dst/\okL L n sl tab
theorem LOK.toB{P:Program}{o:Oper}{n:Nat}{sl:zb}{tab:Tab}{L:Law}(h:LOK P o n sl tab L):LOK P o n sl tab (toB L):=by
 unfold Hw.toB;split
 ·exact⟨h.1.sub (.bq rfl),h.2⟩
 ·exact h
variable {P:Program}
section
variable (T:Ty P) (N:Kno P) (d n:Nat) (sl:zb) (tab:Tab)
def xIdx(t:TypeId)(x y:Operand):Option Law:=match ev sl x with
 |some (.one (.p (.sl e rows)))=>match ev sl y with
  |some (.one (.p (.k (.int k (.ofNat j)))))=>match T.es t with
   |some (_,e')=>match Nat.beq e' e with
    |true=>match rows[j]? with
     |some row=>some ⟨some d,rq x (.one (.p (.sl e rows)))++rq y (Kk k (.ofNat j)),[],[],.one (.pi row 0),[]⟩
     |none=>none
    |false=>none
   |none=>none
  |_=>none
 |_=>none
def xLit(t:TypeId)(len:Nat)(l:Array (Nat×Operand)):Option Law:=match evs sl (l.toList.map (·.2))with
 |some ss=>match T.es t with
  |some (el,e)=>match T.zs el with
   |some _=>match partsR e 0 (l.toList.map (·.1)) ss with
    |some rows=>match Nat.beq l.toList.length len&&(Nat.ble (len*e) 16777216&&Nat.ble len 16777216)with
     |true=>some ⟨some d,rqs (l.toList.map (·.2)) ss,[],[],.one (.p (.sl e rows)),[]⟩
     |false=>none
    |none=>none
   |none=>none
  |none=>none
 |none=>none
def zxy(f:FuncId)(fs l:Array Operand):Option Law:=match evs sl fs.toList with
 |some ssf=>match onesOf ssf with
  |some first=>match evs sl l.toList with
   |some ss=>match onesOf ss with
    |some caps=>some ⟨some d,rqs fs.toList ssf++rqs l.toList ss,[],[],.one (.cl f first caps),[]⟩
    |none=>none
   |none=>none
  |none=>none
 |none=>none
def xApp(aZ:Array Operand)(ts:Array TypeId):Option Law:=match aZ.toList with
 | [x,y]=>match ts.toList with
   | [t,tx]=>match ev sl y with
     |some (.one (.p (.sl e rows2)))=>match T.es tx with
      |some (_,e2)=>match T.es t with
       |some (el,e1)=>match T.zs el with
        |some z=>match N.bo el with
         |some bytes=>match Nat.beq e2 e&&(Nat.beq e1 e&&(Nat.beq z.length e&&(Nat.ble 100 (1000+d)&&freshB (1000+d) ⟨n,sl,tab⟩)))with
          |true=>match ev sl x with
           |some (.one (.ar id))=>match tg tab id with
            |some (.arr e3 rows)=>match Nat.beq e3 e&&(Nat.ble ((rows.length+rows2.length)*bytes) 140737488355328&&Nat.ble (rows.length+rows2.length) 9223372036854775807)with
             |true=>some ⟨some d,rq x (.one (.ar id))++rq y (.one (.p (.sl e rows2))),[(id,.arr e3 rows)],[1000+d],.one (.ar (1000+d)),[(1000+d,some (.arr e3 (rows++rows2))),(id,none)]⟩
             |false=>none
            |_=>none
           |some (.one (.p (.k (.slice none 0 0))))=>match Nat.ble (rows2.length*bytes) 140737488355328&&Nat.ble rows2.length 9223372036854775807 with
            |true=>some ⟨some d,rq x (.one (.p (.k (.slice none 0 0))))++rq y (.one (.p (.sl e rows2))),[],[1000+d],.one (.ar (1000+d)),[(1000+d,some (.arr e rows2))]⟩
            |false=>none
           |_=>none
          |false=>none
         |none=>none
        |none=>none
       |none=>none
      |none=>none
     |_=>none
   |_=>none
 |_=>none
def frs(d:Nat):Nat->List Nat
 |0=>[]
 |k+1=>frs d k++[1000*(k+1)+d]
def xCall(ce:FuncId->List S->RL->Option (S×RL))(x:Operand)(l:Array Operand):Option Law:=match ev sl x with
 |some (.one (.cl f first caps))=>match evs sl l.toList with
  |some ss=>zis tab (zxx (ones first++ss++ones caps) []) λids=>match pickR tab ids with
   |some R0=>match cloSs ids (ones first++ss++ones caps)&&gRL ids R0 with
    |true=>fcSs (Ss.ren (ix ids) (ones first++ss++ones caps)) λargs=>fcRL (R0.ren (ix ids)) λR=>match ce f args R with
     |some (res,R')=>fcL (ids++frs d (zC R R').length) λnw=>
      match injB (nm nw) R.ids&&(injB (nm nw) R'.ids&&(cloS (R.ids++R'.ids) res&&(yM (R.ids++R'.ids) R'&&allB (λid=>Nat.ble 100 id&&freshB id ⟨n,sl,tab⟩) ((zC R R').map (nm nw)))))with
      |true=>some ⟨some d,rq x (.one (.cl f first caps))++rqs l.toList ss,R0,(zC R R').map (nm nw),res.ren (nm nw),tb (R'.ren (nm nw))++yF ids⟩
      |false=>none
     |none=>none
    |false=>none
   |none=>none
  |none=>none
 |_=>none
def goX(ce:FuncId->List S->RL->Option (S×RL))(o:Oper):Option Law:=
 match goL T n true o sl tab with
 |some L=>some (toB L)
 |none=>match o.dst with
  |none=>none
  |some d=>match Nat.blt d n with
   |false=>none
   |true=>match o.op with
    | .indexAddr t x y=>xIdx T d sl t x y
    | .buildSlice t len l=>xLit T d sl t len l
    | .makeFunc (.func f) fs l=>zxy d sl f fs l
    | .call ⟨.builtin .append,aZ,ts⟩=>xApp T N d n sl tab aZ ts
    | .call ⟨.value x,l,_⟩=>xCall d n sl tab ce x l
    |_=>none
end
variable {L:Law}{N:Kno P}{af:Array Edge}{ce:FuncId->List S->RL->Option (S×RL)}{f:FuncId}{g:Option (Nat×Bool)}{o:Oper}{ps:String}{t:TypeId}{tab:Tab}{ts:Array TypeId}
section
variable {T:Ty P} {d n:Nat} {sl:zb}
theorem ztf{x y:Operand}(h:xIdx T d sl t x y=some L){ty:TypeId}(hd:Nat.blt d n=true):
 LOK P ⟨some d,.indexAddr t x y,ty,ps,af,g⟩ n sl tab L:=by
 unfold xIdx at h;split at h
 ·rename_i e rows hx;split at h
  ·rename_i k j hy;split at h
   ·rename_i el e' he;split at h
    ·rename_i J;have J:=uA J;subst J;split at h
     ·rename_i row hr;simp only[ui]at h;subst h;have U:=xV (st:=⟨n,sl,tab⟩) hx;have e2:=xV (st:=⟨n,sl,tab⟩) hy;exact⟨zaI U.1 e2.1 (T.es_ok _ _ he) (uL _) hr,rfl,by rw[ze];exact⟨U.2,e2.2⟩,trivial,rfl,hd⟩
     ·cases h
    ·cases h
   ·cases h
  ·cases h
 ·cases h
theorem ztg{len:Nat}{l:Array (Nat×Operand)}(h:xLit T d sl t len l=some L){ty:TypeId}(hd:Nat.blt d n=true):
 LOK P ⟨some d,.buildSlice t len l,ty,ps,af,g⟩ n sl tab L:=by
 obtain⟨l⟩:=l;unfold xLit at h;split at h
 ·rename_i ss hl;split at h
  ·rename_i el e he;split at h
   ·rename_i z hz;split at h
    ·rename_i rows hr;split at h
     ·rename_i J;simp only[um]at J;simp only[ui]at h;subst h;have U:=w7 (st:=⟨n,sl,tab⟩) hl;exact⟨zvM U.1 (T.es_ok _ _ he) (T.zs_ok _ _ hz) hr J.1 J.2.1 J.2.2,rfl,U.2,trivial,rfl,hd⟩
     ·cases h
    ·cases h
   ·cases h
  ·cases h
 ·cases h
theorem zth{fs l:Array Operand}(h:zxy d sl f fs l=some L){ty:TypeId}(hd:Nat.blt d n=true):
 LOK P ⟨some d,.makeFunc (.func f) fs l,ty,ps,af,g⟩ n sl tab L:=by
 obtain⟨fs⟩:=fs;obtain⟨l⟩:=l;unfold zxy at h;split at h
 ·rename_i ssf hf;split at h
  ·rename_i first h1
   split at h
   ·rename_i ss hl;split at h
    ·rename_i caps h2;simp only[ui]at h;subst h;have J:=w7 (st:=⟨n,sl,tab⟩) hf;have U:=w7 (st:=⟨n,sl,tab⟩) hl;exact⟨zfQ J.1 h1 U.1 h2,rfl,by rw[ze];exact⟨J.2,U.2⟩,trivial,rfl,hd⟩
    ·cases h
   ·cases h
  ·cases h
 ·cases h
theorem zti{aZ:Array Operand}(h:xApp T N d n sl tab aZ ts=some L){ty:TypeId}(hd:Nat.blt d n=true):
 LOK P ⟨some d,.call ⟨.builtin .append,aZ,ts⟩,ty,ps,af,g⟩ n sl tab L:=by
 obtain⟨aZ⟩:=aZ;obtain⟨ts⟩:=ts;unfold xApp at h;split at h
 ·rename_i x y U;simp only at U;subst U;split at h
  ·rename_i t tx hts;simp only at hts;subst hts;split at h
   ·rename_i e rows2 hy;split at h
    ·rename_i el2 e2 he2;split at h
     ·rename_i el e1 he1;split at h
      ·rename_i z hz;split at h
       ·rename_i bytes hby;split at h
        ·rename_i hb;simp only[um]at hb;obtain⟨b1,b2,b3,b4,b5⟩:=hb;have b1:=uA b1;have b2:=uA b2;subst b1;subst b2;have E2:=xV (st:=⟨n,sl,tab⟩) hy;split at h
         ·rename_i id hx;split at h
          ·rename_i e3 rows ht;split at h
           ·rename_i J;simp only[um]at J;have c1:=uA J.1;subst c1;simp only[ui]at h;subst h;have E1:=xV (st:=⟨n,sl,tab⟩) hx
            exact⟨zit E1.1 E2.1 (zat.sl (T.es_ok _ _ he2)) (T.es_ok _ _ he1) (T.zs_ok _ _ hz) (uA b3) (N.bo_ok _ _ hby) (uS J.2.1) (uS J.2.2),
             rfl,by rw[ze];exact⟨E1.2,E2.2⟩,⟨ht,uh⟩,vU (by simp only[um];exact⟨b4,b5⟩),hd⟩
           ·cases h
          ·cases h
         ·rename_i hx;split at h
          ·rename_i J;simp only[um]at J;simp only[ui]at h;subst h;have E1:=xV (st:=⟨n,sl,tab⟩) hx
           exact⟨zl3 E1.1 E2.1 (zat.sl (T.es_ok _ _ he2)) (T.es_ok _ _ he1) (T.zs_ok _ _ hz) (uA b3) (N.bo_ok _ _ hby) (uS J.1) (uS J.2),
            rfl,by rw[ze];exact⟨E1.2,E2.2⟩,trivial,vU (by simp only[um];exact⟨b4,b5⟩),hd⟩
          ·cases h
         ·cases h
        ·cases h
       ·cases h
      ·cases h
     ·cases h
    ·cases h
   ·cases h
  ·cases h
 ·cases h
theorem zpB(hce: ∀f a R r R',ce f a R=some (r,R')->zh P f a R r R'){x:Operand}{l:Array Operand}(h:xCall d n sl tab ce x l=some L)
 {ty:TypeId} (hd:Nat.blt d n=true):
 LOK P ⟨some d,.call ⟨.value x,l,ts⟩,ty,ps,af,g⟩ n sl tab L:=by
 obtain⟨l⟩:=l;unfold xCall at h;simp only[zis,zcd,zg0,zd4]at h;split at h
 ·rename_i f first caps hx
  split at h
  ·rename_i ss hl;generalize growI tab _ _=ids at h;split at h
   ·rename_i R0 hR;split at h
    ·rename_i hg;simp only[um]at hg;split at h
     ·rename_i res R' hf;split at h
      ·rename_i hb;simp only[um]at hb;obtain⟨b1,b2,b3,b4,b5⟩:=hb;simp only[ui]at h;subst h;have hi: ∀i,hasB i ids=true->nm (ids++frs d (zC (R0.ren (ix ids)) R').length) (ix ids i)=i:=λi hi=>zvG hi
       have e1:=xV (st:=⟨n,sl,tab⟩) hx;have e2:=w7 (st:=⟨n,sl,tab⟩) hl;have hp:=zbo (n:=n) (sl:=sl) hR
       have hL:=zhm (ty:=ty) (ps:=ps) (af:=af) (g:=g) (d:=some d) (ts:=ts) (hce _ _ _ _ _ hf) (nm (ids++frs d (zC (R0.ren (ix ids)) R').length)) e1.1 e2.1
        (by rw[Ss.back hi _ hg.1];exact yG.refl _) b1 b2 b3 b4
       have J:=RL.back hi hg.2;rw[J]at hL;have U:(RL.ids (RL.ren (ix ids) R0)).map (nm (ids++frs d (zC (R0.ren (ix ids)) R').length))=ids:=by rw[<-zmT,J,hp.1]
       rw[U]at hL;exact⟨hL,rfl,by rw[ze];exact⟨e1.2,e2.2⟩,hp.2,b5,hd⟩
      ·cases h
     ·cases h
    ·cases h
   ·cases h
  ·cases h
 ·cases h
theorem zvN(U: ∀f a R r R',ce f a R=some (r,R')->zh P f a R r R')(h:goX T N n sl tab ce o=some L):LOK P o n sl tab L:=by
 unfold goX at h;split at h
 ·rename_i L0 hL;simp only[ui]at h;subst h;exact LOK.toB (zce T hL)
 ·obtain⟨dd,op,ty,ps,af,g⟩:=o;simp only at h;split at h
  ·cases h
  ·rename_i d;split at h
   ·cases h
   ·rename_i J;split at h
    ·exact ztf h J
    ·exact ztg h J
    ·exact zth h J
    ·exact zti h J
    ·exact zpB U h J
    ·cases h
end
def stepW(n:Nat)(all:Array Oper)(o:Oper)(sl:zb)(g:Option Law):Option Law:=
 match o.guard with
 |none=>g
 |some (j,want)=>match(all[j]?).bind (·.dst)with
  |some t=>match sg sl t with
   |some (.one (.p (.k (.bool c))))=>match zbu want c with
    |true=>match g with
     |some ⟨d,rs,rt,fr,v,wt⟩=>some ⟨d,(t,Bo c)::rs,rt,fr,v,wt⟩
     |none=>none
    |false=>match dok o.dst n with
     |true=>some ⟨o.dst,[(t,Bo c)],[],[],.gd false (Bo false),[]⟩
     |false=>none
   |some (.gd false (.one (.p (.k (.bool c)))))=>match dok o.dst n with
    |true=>some ⟨o.dst,[(t,.gd false (Bo c))],[],[],.gd false (Bo false),[]⟩
    |false=>none
   |_=>none
  |none=>none
variable {all:Array Oper}
theorem zpC{n:Nat}{sl:zb}{g:Option Law}(hg: ∀L,g=some L->LOK P o n sl tab L)(h:stepW n all o sl g=some L):
 yC P all o L.rs L.rt L.fr L.v L.wt/\L.d=o.dst/\okL L n sl tab:=by
 unfold stepW at h;split at h
 ·rename_i hn;obtain⟨h1,h2,h3⟩:=hg L h;exact⟨yC.plain hn h1,h2,h3⟩
 ·rename_i j want hj;split at h
  ·rename_i t ht
   have off: ∀ {c:Bool} {s:S},(s=Bo c/\zbu want c=false\/s= .gd false (Bo c))->sg sl t=some s->dok o.dst n=true->L=⟨o.dst,[(t,s)],[],[],.gd false (Bo false),[]⟩->yC P all o L.rs L.rt L.fr L.v L.wt/\L.d=o.dst/\okL L n sl tab:=
    λ{c s} hs U J e=>by
     subst e
     have hgi:vj all o t s false:=by
      rcases hs with⟨rfl,hw⟩|rfl
      ·exact⟨j,want,hj,ht,.inl ⟨c,rfl,hw.symm⟩⟩
      ·exact⟨j,want,hj,ht,.inr ⟨false,c,rfl,rfl⟩⟩
     refine⟨λC st M ρ a w hH h4 h5 h6 J k Q hk=>?_,rfl,⟨U,uh⟩,trivial,rfl,J⟩;rw[hgi.wanted (hH.slots t _ h4.1)];simp only[uB,uN];exact hk _ _ M ρ (hH.jO J (by simp[RepS]))
   split at h
   ·rename_i c U;split at h
    ·rename_i hw;split at h
     ·rename_i d rs rt fr v wt;simp only[ui]at h;subst h;obtain⟨h1,h2,h3⟩:=hg _ rfl;refine⟨λC st M ρ a w hH h4 h5 h6 J k Q hk=>?_,h2,⟨U,h3.1⟩,h3.2⟩;rw[vj.wanted (ops:=all) (o:=o) (t:=t) (gs:=Bo c) (b:=zbu want c) ⟨j,want,hj,ht,.inl ⟨c,rfl,rfl⟩⟩ (hH.slots t _ h4.1),hw,uw rfl];exact h1 C st M ρ a w hH h4.2 h5 h6 J k Q hk
     ·cases h
    ·rename_i hw;split at h
     ·rename_i J;simp only[ui]at h;exact off (.inl ⟨rfl,hw⟩) U J h.symm
     ·cases h
   ·rename_i c U;split at h
    ·rename_i J;simp only[ui]at h;exact off (c:=c) (.inr rfl) U J h.symm
    ·cases h
   ·cases h
  ·cases h
def zvO(P:Program)(c:Code)(Q:Exit->Act->World->Prop)(a:Act)(w:World):Prop:=
 ∀b k cs,∃e a' w',Q e a' w'/\Arrives P (lone (b.at a (.code c:: .inLoop c::k)) cs w) b k cs e a' w'
def zxz(P:Program)(C:Ctx)(c:Code)(Q:Exit->St->Prop):Exit->St->Prop
 | .normal,st=> ∀M ρ a w,Holds C st M ρ a w->zvO P c (lift C Q) a w
 |e,st=>Q e st
variable {C:Ctx}{Q:Exit->St->Prop}{c:Code}{st:St}
theorem zmU(h:Tri P C c st (zxz P C c Q)): ∀M ρ a w,Holds C st M ρ a w->zvO P c (lift C Q) a w:=by
 intro M ρ a w hH b k cs;obtain⟨e,a₁,w₁,⟨st',M',ρ',hq,U⟩,J⟩:=h M ρ a w hH b (.inLoop c::k) cs;cases e with
 |normal=>
  obtain⟨e₂,a₂,w₂,hq₂,harr₂⟩:=hq M' ρ' a₁ w₁ U b k cs;exact⟨e₂,a₂,w₂,hq₂,.of_steps (Steps.trans J (.one step_inLoop)) harr₂⟩
 |exit id=>exact⟨_,a₁,w₁,⟨st',M',ρ',hq,U⟩,.pass (x:= .inLoop c) rfl (λ_ _=> .inl ue) J⟩
 |goto l=>exact⟨_,a₁,w₁,⟨st',M',ρ',hq,U⟩,.pass (x:= .inLoop c) rfl (λ_ _=> .inl ue) J⟩
 |ret=>exact⟨_,a₁,w₁,⟨st',M',ρ',hq,U⟩,.pass (x:= .inLoop c) rfl (λ_ _=> .inl ue) J⟩
 |panic ch=>exact⟨_,a₁,w₁,⟨st',M',ρ',hq,U⟩,.pass (x:= .inLoop c) rfl (λ_ _=> .inl ue) J⟩
 |outgrown=>exact⟨_,a₁,w₁,⟨st',M',ρ',hq,U⟩,.pass (x:= .inLoop c) rfl (λ_ _=> .inl ue) J⟩
theorem zvP(h:Tri P C c st (zxz P C c Q)):Tri P C (.loop c) st Q:=by
 intro M ρ a w U b k cs;obtain⟨e,a',w',hq,J⟩:=zmU h M ρ a w U b k cs;exact⟨e,a',w',hq,.of_steps (.one step_loop) J⟩
def lvI(tab:Tab):Tab->List Nat->List Nat
 | [],a=>a
 |(i,_)::r,a=>match hasB i a with
  |true=>lvI tab r a
  |false=>match tg tab i with
   |some _=>lvI tab r (i::a)
   |none=>lvI tab r a
def zvQ(c:Nat):List Nat->List (Nat×Nat)
 | []=>[]
 |i::r=>match Nat.blt i 1000 with
  |true=>(i,i)::zvQ c r
  |false=>fcN c λc=>(i,c)::zvQ (c+1) r
def zvR:Nat->List Nat->Nat
 |m,[]=>m
 |m,i::r=>match Nat.blt i 1000&&Nat.ble m i with
  |true=>zvR (i+1) r
  |false=>zvR m r
def goI:List (Nat×Nat)->Nat->Nat
 | [],i=>i
 |(j,k)::r,i=>match Nat.beq j i with
  |true=>k
  |false=>goI r i
def baI:List (Nat×Nat)->Nat->Nat
 | [],i=>i
 |(j,k)::r,i=>match Nat.beq k i with
  |true=>j
  |false=>baI r i
def lowI:List (Nat×Nat)->Bool
 | []=>true
 |(i,j)::r=>(Nat.ble 100 j||Nat.beq i j)&&lowI r
theorem zmV: ∀ {l:List (Nat×Nat)},lowI l=true-> ∀i,i<100->baI l i=i
 | [],_,i,_=>rfl
 |(a,b)::r,h,i,hi=>by
  simp only[lowI,um,uJ]at h;simp only[baI];split
  ·rename_i e;have e:=uA e;rcases h.1 with J|J
   ·have:=uS J;omega
   ·rw[uA J];exact e
  ·exact zmV h.2 i hi
def cmS{α:Type}(ids:List Nat)(f:Nat->Nat)(sl:zb):zb->List Nat->(zb->Option α)->Option α
 | [],_,k=>k []
 |(t,_)::r,seen,k=>match hasB t seen with
  |true=>cmS ids f sl r seen k
  |false=>match sg sl t with
   |some s=>match cloS ids s with
    |true=>fcS (s.ren f) λs'=>cmS ids f sl r (t::seen) λsl'=>k ((t,s')::sl')
    |false=>cmS ids f sl r (t::seen) k
   |none=>cmS ids f sl r (t::seen) k
theorem zfB{α:Type}{ids:List Nat}{f g:Nat->Nat}{n:Nat}{sl:zb}{tab:Tab}(J: ∀i,hasB i ids=true->g (f i)=i): ∀ {r:zb} {seen:List Nat} {k:zb->Option α} {x:α},cmS ids f sl r seen k=some x->
 ∃sl',mS g ⟨n,sl,tab⟩ sl'/\k sl'=some x
 | [],_,k,x,h=>⟨[],trivial,h⟩
 |(t,_)::r,seen,k,x,h=>by
  simp only[cmS]at h;split at h
  ·exact zfB J h
  ·split at h
   ·rename_i s U;split at h
    ·rename_i hc;rw[zfz]at h;obtain⟨sl',h1,h2⟩:=zfB J h;exact⟨(t,s.ren f)::sl',⟨by rw[S.back J s hc];exact U,h1⟩,h2⟩
    ·exact zfB J h
   ·exact zfB J h
def cmX(sl:zb)(tab:Tab)(k:zb->Tab->Option α):Option α:=
 fcL (lvI tab tab []) λids=>match pickR tab ids with
 |some R0=>fcM (zvQ (zvR 100 ids) ids) λl=>match gRL ids R0&&(allB (λi=>Nat.beq (baI l (goI l i)) i) ids&&(lowI l&&injB (baI l) (R0.ren (goI l)).ids))with
  |true=>fcRL (R0.ren (goI l)) λR=>cmS ids (goI l) sl sl [] λsl'=>fcT (tb R) [] λtab'=>k sl' tab'
  |false=>none
 |none=>none
where fcM:List (Nat×Nat)->(List (Nat×Nat)->Option α)->Option α
 | [],f=>f []
 |(i,j)::r,f=>fcN i λi=>fcN j λj=>fcM r λr=>f ((i,j)::r)
theorem zqQ{α:Type}: ∀(v:List (Nat×Nat)) (f:List (Nat×Nat)->Option α),cmX.fcM v f=f v
 | [],f=>rfl
 |(i,j)::r,f=>by simp only[cmX.fcM,wJ];rw[zqQ r]
variable {x:α}
theorem zqR{n:Nat}{sl:zb}{k:zb->Tab->Option α}(h:cmX sl tab k=some x): ∃sl' tab' σ,Matches σ ⟨n,sl,tab⟩ ⟨n,sl',tab'⟩/\k sl' tab'=some x:=by
 unfold cmX at h;simp only[zcd,zqQ,zd4,jA]at h;split at h
 ·rename_i R0 hR;split at h
  ·rename_i J;simp only[um]at J;obtain⟨b1,b2,b3,b4⟩:=J
   have U: ∀i,hasB i (lvI tab tab [])=true->baI (zvQ (zvR 100 (lvI tab tab [])) (lvI tab tab [])) (goI (zvQ (zvR 100 (lvI tab tab [])) (lvI tab tab [])) i)=i:=
    λi hi=>uA (zy b2 i (zW hi))
   obtain⟨sl',h1,h2⟩:=zfB (n:=n) (tab:=tab) U h;refine⟨sl',_,_,⟨rfl,h1,?_,?_,zmV b3⟩,h2⟩
   ·rw[uV];exact zvH (zgZ (n:=n) (sl:=sl) U b1 (zbo hR).2)
   ·rw[uV,zmS];exact b4
  ·cases h
 ·cases h
def cA(L:Law)(m:Nat):List Law->Nat->Bool
 | [],_=>true
 |X::r,k=>fcN (k - 1) λk=>((za4 m k||(apart X L&&apart L X))&&allB (λid=>noL id X) L.fr)&&cA L m r k
theorem zvS{L:Law}{m:Nat}: ∀ {l:List Law} {k:Nat},k=l.length->cA L m l k=true-> ∀j X,at? l j=some X->((za4 m j||(apart X L&&apart L X))&&allB (λid=>noL id X) L.fr)=true
 | [],_,_,_,_,_,hX=>by cases hX
 |Y::r,k,hk,h,j,X,hX=>by
  simp only[cA,wJ]at h;have J:k - 1=r.length:=by rw[hk];rfl
  rw[J,um]at h;rw[z7]at hX;split at hX
  ·rename_i e;subst e;simp only[ui]at hX;subst hX;exact h.1
  ·exact zvS rfl h.2 j X hX
def cM(all:Array Oper)(ms:List Nat)(st:St):List Law->Bool
 | []=>true
 |L::l=>fcN l.length λk=>(match all[k]? with
  |some o=>allB (λp=>Nat.blt p k) (zM o)&&allLt (λj=> !za4 (nth ms k) j||anyB (λp=>Nat.beq p j||(Nat.blt j p&&za4 (nth ms p) j)) (zM o)) k&&fcN (nth ms k) (λm=>cA L m l k)&&allB (λid=>Nat.ble 100 id&&freshB id st) L.fr
  |none=>false)&&cM all ms st l
theorem zmW{l:List Law}{i:Nat}(J:i<l.length): ∀p:List Law,at? (p++l) i=at? l i
 | []=>rfl
 |X::p=>by
  rw[uK,z7,ur (by rw[uQ];omega),zmW J p]
theorem zd5{p:Nat->Bool}: ∀ {n:Nat},(∀i,i<n->p i=true)->allLt p n=true
 |0,_=>rfl
 |n+1,h=>by simp only[allLt,um];exact⟨h n ua,zd5 λi hi=>h i ua⟩
theorem zvT{all:Array Oper}{ms:List Nat}{st:St}: ∀ {l:List Law},cM all ms st l=true-> ∀(p:List Law) (i:Nat),i<l.length->checkAt all ms st (p++l) i=true
 | [],_,_,_,hi=>absurd hi (oO _)
 |L::l,h,p,i,hi=>by
  simp only[cM,wJ,um]at h;by_cases e:i=l.length
  ·subst e;have J:=h.1;split at J
   ·rename_i o ho;simp only[um]at J;have hL:at? (p++L::l) l.length=some L:=by rw[zmW hi,z7,uw rfl]
    unfold checkAt;rw[ho,hL];simp only[um];refine⟨⟨⟨J.1.1.1,J.1.1.2⟩,zd5 λj hj=>?_⟩,J.2⟩;obtain⟨X,hX⟩:=zgH hj;have U:at? (p++L::l) j=some X:=by rw[zmW (by simp only[uX];omega),z7,ur ua];exact hX
    rw[U];exact zvS rfl J.1.2 j X hX
   ·cases J
  ·have:=zvT h.2 (p++[L]) i (by simp only[uX]at hi;omega);rwa [tE]at this
def zmX(all:Array Oper)(st:St)(l:List Law):Bool:=Nat.beq l.length all.size&&fcL (xy all.toList []) λms=>cM all ms st l
theorem zmY{l:List Law}(h:zmX all st l=true):check all (xy all.toList []) st l=true:=by
 unfold zmX at h;rw[zcd,um]at h;unfold check;rw[um];refine⟨h.1,zd5 λi J=>?_⟩;have:=zvT h.2 [] i (by rw[uA h.1];exact J);exact this
def fcSl{α:Type}:zb->(zb->α)->α
 | [],f=>f []
 |(k,s)::r,f=>fcN k λk=>fcSl r λr=>f ((k,s)::r)
theorem zg1{α:Type}: ∀(v:zb) (f:zb->α),fcSl v f=f v
 | [],f=>rfl
 |(k,s)::r,f=>by simp only[fcSl,wJ];rw[zg1 r]
def zvU{α:Type}:RL->(RL->α)->α
 | [],f=>f []
 |(k,s)::r,f=>fcN k λk=>zvU r λr=>f ((k,s)::r)
theorem zg2{α:Type}: ∀(v:RL) (f:RL->α),zvU v f=f v
 | [],f=>rfl
 |(k,s)::r,f=>by simp only[zvU,wJ];rw[zg2 r]
inductive FrX where
 |seq (c:Code)
 |blk (i:Nat)
 |rnd (c:Code)
def unX(P:Program)(C:Ctx):List FrX->(Exit->St->Prop)->Exit->St->Prop
 | [],Q=>Q
 | .seq c::k,Q=>zpD P C c (unX P C k Q)
 | .blk i::k,Q=>blockQ i (unX P C k Q)
 | .rnd c::k,Q=>zxz P C c (unX P C k Q)
def arIn(tab:Tab):List V->Option (Nat×Nat×List (List PV))
 | []=>none
 | .ar id::r=>match tg tab id with
   |some (.arr e rows)=>some (id,e,rows)
   |_=>arIn tab r
 |_::r=>arIn tab r
def ztj(id e:Nat)(rows:List (List PV)):List V->List V
 | []=>[]
 | .ar i::r=>match Nat.beq i id with
   |true=> .p (.sl e rows)::ztj id e rows r
   |false=> .ar i::ztj id e rows r
 |v::r=>v::ztj id e rows r
theorem zmZ{id e:Nat}{rows:List (List PV)}: ∀vs:List V,zck id e rows vs (ztj id e rows vs)
 | []=>zck.nil
 |v::r=>by
  have J:=zmZ (id:=id) (e:=e) (rows:=rows) r;unfold ztj;split
  ·rename_i h;cases h
  ·rename_i i r' h;simp only[qC]at h;obtain⟨rfl,rfl⟩:=h;split
   ·rename_i e;rw[uA e];exact zck.cons FrV.ar J
   ·exact zck.cons (FrV.refl _) J
  ·rename_i h;simp only[qC]at h;obtain⟨rfl,rfl⟩:=h;exact zck.cons (FrV.refl _) J
def preL(T:Ty P)(o:Oper)(sl:zb)(tab:Tab):Option (Nat×List V×Nat×Nat×List (List PV)):=
 match o.op with
 | .load t x=>match T.sh t with
   |some (some _)=>match ev sl x with
    |some (.one (.bx b _))=>match tg tab b with
     |some (.box vs)=>match arIn tab vs with
      |some (id,e,rows)=>match tg tab id with
       |some (.arr e' rows')=>match Nat.beq b id with
        |true=>none
        |false=>some (b,vs,id,e',rows')
       |_=>none
      |none=>none
     |_=>none
    |_=>none
   |_=>none
 |_=>none
section
variable (T:Ty P) (N:Kno P) (ce:FuncId->List S->RL->Option (S×RL)) (n:Nat) (k:List FrX) (sl:zb) (tab:Tab) (go:Cur->List FrX->zb->Tab->Option α)
def xC(c:Code):Option α:=match c with
 | .seq a b=>go (.code a) (.seq b::k) sl tab
 | .skip=>go (.fin .normal) k sl tab
 | .exit i=>go (.fin (.exit i)) k sl tab
 | .ret=>go (.fin .ret) k sl tab
 | .block i c=>go (.code c) (.blk i::k) sl tab
 | .loop c=>cmX sl tab λsl tab=>go (.code c) (.rnd c::k) sl tab
 | .region _ ops dr=>match dr with
   |false=>go (.ops ops ops.toList none) k sl tab
   |true=>go (.ops ops ops.toList (some (sl,tab,[]))) k sl tab
 | .cond c a b=>match ev sl c with
   |some (.one (.p (.k (.bool bb))))=>match bb with
    |true=>go (.code a) k sl tab
    |false=>go (.code b) k sl tab
   |_=>none
 |_=>none
def xE(all:Array Oper)(md:Mode):Option α:=match md with
 |none=>go (.fin .normal) k sl tab
 |some (s,t,done)=>match zmX all ⟨n,s,t⟩ done with
  |true=>go (.fin .normal) k sl tab
  |false=>none
def xPut(all:Array Oper)(r:List Oper)(L:Option Law):Option α:=match L with
 |some ⟨some d,_,_,_,v,wt⟩=>fcS v λv=>fcT wt tab λtab=>go (.ops all r none) k ((d,v)::sl) tab
 |some ⟨none,_,_,_,_,wt⟩=>fcT wt tab λtab=>go (.ops all r none) k sl tab
 |none=>none
def zvV(all:Array Oper)(r:List Oper)(s:zb)(t:Tab)(done:List Law)(L:Option Law):Option α:=match L with
 |some ⟨some d,rs,rt,fr,v,wt⟩=>fcSl rs λrs=>zvU rt λrt=>fcL fr λfr=>fcS v λv=>fcT wt [] λwt=>fcT wt tab λtab=>go (.ops all r (some (s,t,⟨some d,rs,rt,fr,v,wt⟩::done))) k ((d,v)::sl) tab
 |some ⟨none,rs,rt,fr,v,wt⟩=>fcSl rs λrs=>zvU rt λrt=>fcL fr λfr=>fcT wt [] λwt=>fcT wt tab λtab=>go (.ops all r (some (s,t,⟨none,rs,rt,fr,v,wt⟩::done))) k sl tab
 |none=>none
def xO(all:Array Oper)(o:Oper)(r:List Oper)(md:Mode):Option α:=match md with
 |none=>match preL T o sl tab with
  |some (b,vs,id,e,rows)=>fcT [(b,some (.box (ztj id e rows vs)))] ((id,none)::tab) λtab=>go (.ops all (o::r) none) k sl tab
  |none=>xPut k sl tab go all r (stepW n all o sl (goX T N n sl tab ce o))
 |some (s,t,done)=>zvV k sl tab go all r s t done (stepW n all o sl (goX T N n sl tab ce o))
def xF(e:Exit)(f:FrX):Option α:=match e with
 | .normal=>match f with
   | .seq c=>go (.code c) k sl tab
   | .blk _=>go (.fin .normal) k sl tab
   | .rnd c=>cmX sl tab λsl tab=>go (.code c) (.rnd c::k) sl tab
 | .exit i=>match f with
   | .blk j=>match Nat.beq i j with
     |true=>go (.fin .normal) k sl tab
     |false=>go (.fin (.exit i)) k sl tab
   |_=>go (.fin (.exit i)) k sl tab
 | .ret=>go (.fin .ret) k sl tab
 |_=>none
def stepX(cur:Cur):Option α:=match cur with
 | .code c=>xC k sl tab go c
 | .ops all r md=>match r with
   | []=>xE n k sl tab go all md
   |o::r=>xO T N ce n k sl tab go all o r md
 | .fin e=>match k with
   | []=>none
   |f::k=>xF k sl tab go e f
end
theorem ziu{T:Ty P}(hce: ∀f a R r R',ce f a R=some (r,R')->zh P f a R r R')(hC:C.low){n:Nat}{cur:Cur}{k:List FrX}{sl:zb}
 {go:Cur->List FrX->zb->Tab->Option α} (h:stepX T N ce n k sl tab go cur=some x)
 (J: ∀cur k sl tab,go cur k sl tab=some x->Goal P C cur [] n sl tab (unX P C k Q)):Goal P C cur [] n sl tab (unX P C k Q):=by
 have law: ∀ {all:Array Oper} {o:Oper} {r:List Oper} {md:Mode} {L:Law},stepW n all o sl (goX T N n sl tab ce o)=some L->Goal P C (.ops all r (nx md L)) [] n (app L.d L.v L.wt ⟨n,sl,tab⟩).sl (L.wt++tab) (unX P C k Q)->Goal P C (.ops all (o::r) md) [] n sl tab (unX P C k Q):=λhs g=>by
  obtain⟨h1,h2,h3⟩:=zpC (λL hL=>zvN hce hL) hs;exact zbF hC h1 h2 h3 g
 cases cur with
 |code c=>
  simp only[stepX,xC]at h;split at h
  ·exact zvW (J _ _ _ _ h)
  ·have g:=J _ _ _ _ h;exact λM ρ a w U=>wp_skip (g M ρ a w U)
  ·have g:=J _ _ _ _ h;exact λM ρ a w U=>wp_exit (g M ρ a w U)
  ·have g:=J _ _ _ _ h;exact λM ρ a w U=>wp_ret (g M ρ a w U)
  ·exact zm0 (J _ _ _ _ h)
  ·obtain⟨sl',tab',σ,hm,h2⟩:=zqR (n:=n) h;have g:=J _ _ _ _ h2;exact zvP λM ρ a w U=>g _ _ _ _ (U.matches hC hm)
  ·split at h
   ·have g:=J _ _ _ _ h;exact λM ρ a w U=>wp_region_list (g M ρ a w U)
   ·have g:=J _ _ _ _ h;exact λM ρ a w U=>g trivial (λ_=>rfl) (λ_=>rfl) rfl M ρ a w _ U
  ·split at h
   ·rename_i hc;split at h
    ·exact zm1 hc (J _ _ _ _ h)
    ·exact zm2 hc (J _ _ _ _ h)
   ·cases h
  ·cases h
 |ops all r md=>
  simp only[stepX,xE,xO,xPut,zvV]at h;split at h
  ·split at h
   ·have g:=J _ _ _ _ h;exact λM ρ a w U=>wpList_nil (g M ρ a w U)
   ·split at h
    ·rename_i hc;exact ziN T hC (zmY hc) (J _ _ _ _ h)
    ·cases h
  ·rename_i o r;split at h
   ·split at h
    ·rename_i b vs id e rows hp;rw[jA]at h;have g:=J _ _ _ _ h
     have hq:tg tab b=some (.box vs)/\tg tab id=some (.arr e rows)/\Nat.beq b id=false:=by
      unfold preL at hp;split at hp
      ·split at hp
       ·split at hp
        ·split at hp
         ·rename_i hb;split at hp
          ·split at hp
           ·rename_i ha;split at hp
            ·cases hp
            ·rename_i hne;simp only[ui,uz]at hp;obtain⟨rfl,rfl,rfl,rfl,rfl⟩:=hp;exact⟨hb,ha,hne⟩
           ·cases hp
          ·cases hp
         ·cases hp
        ·cases hp
       ·cases hp
      ·cases hp
     exact zdc rfl hq.2.1 [] uh [(b,ztj id e rows vs)] ⟨⟨vs,hq.1,(λe=>by have h3:=hq.2.2;rw[e,vq]at h3;cases h3),zmZ vs⟩,uh⟩ g
    ·split at h
     ·rename_i hs;rw[zfz,jA]at h;exact law hs (J _ _ _ _ h)
     ·rename_i hs;rw[jA]at h;exact law hs (J _ _ _ _ h)
     ·cases h
   ·split at h
    ·rename_i hs;rw[zg1,zg2,zcd,zfz,jA,jA,uV]at h;exact law hs (J _ _ _ _ h)
    ·rename_i hs;rw[zg1,zg2,zcd,jA,jA,uV]at h;exact law hs (J _ _ _ _ h)
    ·cases h
 |fin e=>
  simp only[stepX,xF]at h;split at h
  ·cases h
  ·rename_i f k;split at h
   ·split at h
    ·have g:=J _ _ _ _ h;exact λM ρ a w U=>⟨_,M,ρ,g,U⟩
    ·have g:=J _ _ _ _ h;exact g
    ·obtain⟨sl',tab',σ,hm,h2⟩:=zqR (n:=n) h;have g:=J _ _ _ _ h2;exact λM ρ a w U=>⟨_,M,ρ,zmU (st:=⟨n,sl,tab⟩) λM ρ a w U=>g _ _ _ _ (U.matches hC hm),U⟩
   ·split at h
    ·split at h
     ·rename_i hb;have g:=J _ _ _ _ h;refine λM ρ a w U=>?_;obtain⟨st,M',ρ',hq,hH'⟩:=g M ρ a w U;exact⟨st,M',ρ',by simp only[unw,unX,blockQ,hb];exact hq,hH'⟩
     ·rename_i hb;have g:=J _ _ _ _ h;refine λM ρ a w U=>?_;obtain⟨st,M',ρ',hq,hH'⟩:=g M ρ a w U;exact⟨st,M',ρ',by simp only[unw,unX,blockQ,hb];exact hq,hH'⟩
    ·rename_i hf;have g:=J _ _ _ _ h;cases f with
     |seq c=>exact g
     |rnd c=>exact g
     |blk j=>exact absurd rfl (hf j)
   ·have g:=J _ _ _ _ h;cases f<;>exact g
   ·cases h
def runX{α:Type}{P:Program}(T:Ty P)(N:Kno P)(ce:FuncId->List S->RL->Option (S×RL))(n:Nat)(out:Exit->zb->Tab->Option α):Nat->Cur->List FrX->zb->Tab->Option α
 |0,_,_,_,_=>none
 |f+1,cur,k,sl,tab=>match k with
  | []=>match cur with
    | .fin e=>out e sl tab
    |cur=>stepX T N ce n [] sl tab (runX T N ce n out f) cur
  |x::k=>stepX T N ce n (x::k) sl tab (runX T N ce n out f) cur
theorem zg3{α:Type}{P:Program}{T:Ty P}{N:Kno P}{ce:FuncId->List S->RL->Option (S×RL)}(J: ∀f a R r R',ce f a R=some (r,R')->zh P f a R r R'){C:Ctx}(hC:C.low){n:Nat}{Q:Exit->St->Prop}{out:Exit->zb->Tab->Option α}{x:α}
 (U: ∀e sl tab,out e sl tab=some x->Goal P C (.fin e) [] n sl tab Q): ∀(f:Nat) {cur:Cur} {k:List FrX} {sl:zb} {tab:Tab},runX T N ce n out f cur k sl tab=some x->Goal P C cur [] n sl tab (unX P C k Q)
 |0,_,_,_,_,h=>by cases h
 |f+1,cur,k,sl,tab,h=>by
  unfold runX at h;split at h
  ·split at h
   ·exact U _ _ _ h
   ·exact ziu J hC h λ_ _ _ _ h=>zg3 J hC U f h
  ·exact ziu J hC h λ_ _ _ _ h=>zg3 J hC U f h
def frzX{α:Type}:List ResultVar->zb->Tab->(zb->Tab->Option α)->Option α
 | [],sl,tab,f=>f sl tab
 | .tmp t::r,sl,tab,f=>match sg sl t with
   |some (.one (.ar id))=>match tg tab id with
    |some (.arr e rows)=>frzX r ((t,.one (.p (.sl e rows)))::sl) ((id,none)::tab) f
    |_=>frzX r sl tab f
   |_=>frzX r sl tab f
 |_::r,sl,tab,f=>frzX r sl tab f
theorem zcf{α:Type}{P:Program}{C:Ctx}{n:Nat}{e:Exit}{Q:Exit->St->Prop}{f:zb->Tab->Option α}{x:α}(hf: ∀sl tab,f sl tab=some x->Goal P C (.fin e) [] n sl tab Q): ∀ {rv:List ResultVar} {sl:zb} {tab:Tab},frzX rv sl tab f=some x->Goal P C (.fin e) [] n sl tab Q
 | [],_,_,h=>hf _ _ h
 | .cell _ _::r,_,_,h=>zcf hf (rv:=r) h
 | .tmp t::r,sl,tab,h=>by
   simp only[frzX]at h;split at h
   ·rename_i id J;split at h
    ·rename_i U rows ht;exact zdc rfl ht [(t,.one (.p (.sl U rows)))] ⟨⟨_,J,FrS.ar⟩,uh⟩ [] uh (zcf hf (rv:=r) h)
    ·exact zcf hf (rv:=r) h
   ·exact zcf hf (rv:=r) h
def zxA:Exit->Bool
 | .ret=>true
 | .normal=>true
 |_=>false
def onI(tab:Tab):List Nat->List Nat
 | []=>[]
 |i::r=>match tg tab i with
  |some _=>i::onI tab r
  |none=>onI tab r
def zx4(T:Ty P)(rv:List ResultVar)(n:Nat)(R:RL)(e:Exit)(sl:zb)(tab:Tab):Option (S×RL):=match zxA e with
 |true=>frzX rv sl tab λsl tab=>match rvsOf T ⟨n,sl,tab⟩ rv with
  |some ss=>zis tab (adS (tupOf ss) R.ids) λids=>match pickR tab (onI tab ids)with
   |some R0=>match cloS ids (tupOf ss)&&(gRL ids R0&&(injB (nm ids) (R0.ren (ix ids)).ids&&allB (λi=>Nat.beq (nm ids i) i) R.ids))with
    |true=>fcS ((tupOf ss).ren (ix ids)) λres=>fcRL (R0.ren (ix ids)) λR'=>some (res,R')
    |false=>none
   |none=>none
  |none=>none
 |false=>none
def evalF{P:Program}(T:Ty P)(K:Kno P)(N:Nat):Nat->FuncId->List S->RL->Option (S×RL)
 |0,f,args,R=>K.lf f args R
 |m+1,f,args,R=>match K.lf f args R with
  |some r=>some r
  |none=>match K.fo f with
   |some fn=>match fn.body with
    |some c=>match allB (λi=>Nat.blt i 100) R.ids&&Nat.ble args.length fn.ntmps with
     |true=>fcN fn.ntmps λn=>runX T K (evalF T K N m) n (zx4 T fn.results.toList n R) N (.code c) [] (enum 0 args) (tb R)
     |false=>none
    |none=>none
   |none=>none
theorem ziv{P:Program}{T:Ty P}{K:Kno P}{N:Nat}: ∀(m:Nat) (f:FuncId) (a:List S) (R:RL) (r:S) (R':RL),evalF T K N m f a R=some (r,R')->zh P f a R r R'
 |0,f,a,R,r,R',h=>K.lf_ok f a R r R' h
 |m+1,f,a,R,r,R',h=>by
  unfold evalF at h;split at h
  ·rename_i q hq;simp only[ui]at h;subst h;exact K.lf_ok _ _ _ _ _ hq
  ·split at h
   ·rename_i fn hf;split at h
    ·rename_i c hc;split at h
     ·rename_i hb;simp only[um]at hb;rw[wJ]at h;refine zro T (K.fo_ok _ _ hf).1 (K.fo_ok _ _ hf).2 hc (rv:=fn.results.toList) (oG).symm hb.1 hb.2 λC hC=>?_;refine zg3 (ziv m) hC (Q:=zcn T fn.results.toList R r R') (x:=(r,R')) (λe sl tab h=>?_) N (k:=[]) h;unfold zx4 at h;split at h
      ·rename_i he;refine zcf (λsl tab h=>?_) h;split at h
       ·rename_i ss hss;simp only[zis,zcd,zfz,zd4]at h;generalize growI tab _ _=ids at h;split at h
        ·rename_i R0 hR;split at h
         ·rename_i J;simp only[um]at J;simp only[ui,uz]at h;obtain⟨rfl,rfl⟩:=h
          have U: ∀i,hasB i ids=true->nm ids (ix ids i)=i:=λi U=>by
           have:=zvG (m:=[]) U;rwa [uV]at this
          refine zK ⟨?_,nm ids,ss,hss,?_,zgZ (n:=fn.ntmps) (sl:=sl) U J.2.1 (zbo hR).2,J.2.2.1,J.2.2.2⟩
          ·cases e<;>first|exact .inl rfl|exact .inr rfl|cases he
          ·rw[S.back U _ J.1];exact .refl _
         ·cases h
        ·cases h
       ·cases h
      ·cases h
     ·cases h
    ·cases h
   ·cases h
def eqY:List UInt8->List UInt8->Bool
 | [],[]=>true
 |a::r,b::s=>match Nat.beq a.toNat b.toNat with
  |true=>eqY r s
  |false=>false
 |_,_=>false
theorem zqS: ∀ {a b:List UInt8},eqY a b=decide (a=b)
 | [],[]=>rfl
 | [],_::_=>rfl
 |_::_,[]=>rfl
 |a::r,b::s=>by
  simp only[eqY];split
  ·rename_i h;have:a=b:=oo.1 (uA h);subst this;rw[zqS];simp
  ·rename_i h;have:a≠b:=λe=>by subst e;rw[Nat.beq_refl]at h;cases h
   simp[this]
theorem eqS(a b:ByteArray):decide (a=b)=eqY a.data.toList b.data.toList:=by
 rw[zqS,q9];constructor
 ·exact λh=>by rw[h]
 ·exact λh=>by cases a;cases b;simp only at h;congr 1;exact Array.toList_inj.1 h
def leK:Value->Value->Bool
 | .int .i64 (.ofNat i),.int .i64 (.ofNat j)=>Nat.beq i j
 | .int .i64 (.negSucc i),.int .i64 (.negSucc j)=>Nat.beq i j
 | .string a,.string b=>eqY a.data.toList b.data.toList
 | .bool true,.bool true=>true
 | .bool false,.bool false=>true
 | .slice none 0 0,.slice none 0 0=>true
 |_,_=>false
theorem zvX{v w:Value}(h:leK v w=true):v=w:=by
 unfold leK at h;split at h
 ·rw[uA h]
 ·rw[uA h]
 ·rw[<-eqS]at h;rw[uk h]
 ·rfl
 ·rfl
 ·rfl
 ·cases h
def nilK:Value->Bool
 | .slice none 0 0=>true
 |_=>false
mutual
def leP:PV->PV->Bool
 | .k v,y=>match y with
   | .k w=>leK v w
   | .sl _ []=>nilK v
   |_=>false
 | .sl e r,y=>match y with
   | .sl e' r'=>Nat.beq e e'&&leRows r r'
   |_=>false
 | .pr _,_=>false
def leRow:List PV->List PV->Bool
 | [],y=>match y with
   | []=>true
   |_=>false
 |x::xs,y=>match y with
  |y::ys=>leRow xs ys&&leP x y
  | []=>false
def leRows:List (List PV)->List (List PV)->Bool
 | [],y=>match y with
   | []=>true
   |_=>false
 |x::xs,y=>match y with
  |y::ys=>leRow x y&&leRows xs ys
  | []=>false
end
mutual
theorem zqT{M:Mem}: ∀ {x y:PV} {v:Value},leP x y=true->RepPV M x v->RepPV M y v
 | .k v,y,c,h,hr=>by
   simp only[leP]at h;split at h
   ·rw[<-zvX h];exact hr
   ·unfold nilK at h;split at h
    ·exact LeV.nil _ M (λ_=> .bool true) c hr
    ·cases h
   ·cases h
 | .sl e r,y,c,h,hr=>by
   simp only[leP]at h;split at h
   ·rename_i e' r';rw[um]at h;have he:=uA h.1;subst he;have hl:=zc2 h.2;simp only[RepPV]at hr⊢;obtain⟨a,cap,h1,h2,h3,h4⟩:=hr;refine⟨a,cap,by rw[<-hl];exact h1,ua,ua,?_⟩;rcases h4 with rfl|⟨b,o,h5,h6⟩
    ·exact .inl (uY.1 hl.symm)
    ·exact .inr ⟨b,o,h5,zfC h.2 h6⟩
   ·cases h
theorem zfD: ∀ {x y:List PV},leRow x y=true->x.length=y.length
 | [],[],_=>rfl
 | [],_::_,h=>by cases h
 |_::_,[],h=>by simp only[leRow]at h;cases h
 |x::xs,y::ys,h=>by
  simp only[leRow,um]at h;simp only[uX,zfD h.1]
theorem ziw{M:Mem}{g:Nat->Option Value}: ∀ {x y:List PV} {o:Nat},leRow x y=true->RowIn M g x o->RowIn M g y o
 | [],[],_,_,_=>by simp only[RowIn]
 | [],_::_,_,h,_=>by cases h
 |_::_,[],_,h,_=>by simp only[leRow]at h;cases h
 |x::xs,y::ys,o,h,hr=>by
  simp only[leRow,um]at h;simp only[RowIn]at hr⊢;obtain⟨⟨c,h1,h2⟩,h3⟩:=hr;exact⟨⟨c,h1,zqT h.2 h2⟩,ziw h.1 h3⟩
theorem zc2: ∀ {x y:List (List PV)},leRows x y=true->x.length=y.length
 | [],[],_=>rfl
 | [],_::_,h=>by cases h
 |_::_,[],h=>by simp only[leRows]at h;cases h
 |x::xs,y::ys,h=>by
  simp only[leRows,um]at h;simp only[uX,zc2 h.2]
theorem zfC{M:Mem}{g:Nat->Option Value}{e:Nat}: ∀ {x y:List (List PV)} {o:Nat},leRows x y=true->RowsIn M g e x o->RowsIn M g e y o
 | [],[],_,_,_=>by simp only[RowsIn]
 | [],_::_,_,h,_=>by cases h
 |_::_,[],_,h,_=>by simp only[leRows]at h;cases h
 |x::xs,y::ys,o,h,hr=>by
  simp only[leRows,um]at h;simp only[RowsIn]at hr⊢;exact⟨by rw[<-zfD h.1];exact hr.1,ziw h.1 hr.2.1,zfC h.2 hr.2.2⟩
end
def leV:V->V->Bool
 | .p x,.p y=>leP x y
 | .bx i j,.bx i' j'=>Nat.beq i i'&&Nat.beq j j'
 |_,_=>false
theorem zqU{x y:V}(h:leV x y=true):LeV x y:=by
 unfold leV at h;split at h
 ·exact λM ρ c hr=>zqT h hr
 ·rw[um]at h;rw[uA h.1,uA h.2];exact .refl _
 ·cases h
def leVs:List V->List V->Bool
 | [],[]=>true
 |x::xs,y::ys=>leVs xs ys&&leV x y
 |_,_=>false
theorem zg4: ∀ {x y:List V},leVs x y=true->znD x y
 | [],[],_=> .refl _
 | [],_::_,h=>by cases h
 |_::_,[],h=>by cases h
 |x::xs,y::ys,h=>by
  simp only[leVs,um]at h;exact .cons (zqU h.2) (zg4 h.1)
mutual
def leS:S->S->Bool
 | .one x,t=>match t with
   | .one y=>leV x y
   |_=>false
 | .agg x,t=>match t with
   | .agg y=>leVs x y
   |_=>false
 | .tup x,t=>match t with
   | .tup y=>leSs x y
   |_=>false
 |_,_=>false
def leSs:List S->List S->Bool
 | [],t=>match t with
   | []=>true
   |_=>false
 |x::xs,t=>match t with
  |y::ys=>leS x y&&leSs xs ys
  | []=>false
end
mutual
theorem zqV: ∀ {x y:S},leS x y=true->LeS x y
 | .one x,y,h=>by
   simp only[leS]at h;split at h
   ·exact .one (zqU h)
   ·cases h
 | .agg x,y,h=>by
   simp only[leS]at h;split at h
   ·exact .agg (zg4 h)
   ·cases h
 | .tup x,y,h=>by
   simp only[leS]at h;split at h
   ·exact .tup (zg5 h)
   ·cases h
 | .gd _ _,_,h=>by simp only[leS]at h;cases h
 | .bq _,_,h=>by simp only[leS]at h;cases h
 | .un,_,h=>by simp only[leS]at h;cases h
theorem zg5: ∀ {x y:List S},leSs x y=true->yG x y
 | [],[],_=> .nil
 | [],_::_,h=>by simp only[leSs]at h;cases h
 |_::_,[],h=>by simp only[leSs]at h;cases h
 |x::xs,y::ys,h=>by
  simp only[leSs,um]at h;exact .cons (zqV h.1) (zg5 h.2)
end
def leRL:RL->RL->Bool
 | [],[]=>true
 |(i,.box x)::r,(j,.box y)::s=>(Nat.beq i j&&leVs x y)&&leRL r s
 |_,_=>false
theorem zix: ∀ {x y:RL},leRL x y=true->x.ids=y.ids
 | [],[],_=>rfl
 | [],_::_,h=>by cases h
 |(i,.box x)::r,(j,.box y)::s,h=>by
  simp only[leRL,um]at h;simp only[RL.ids,uA h.1.1,zix h.2]
theorem zar{M:Mem}{ρ:Nat->Value}{w:World}: ∀ {x y:RL},leRL x y=true-> ∀ {k:Nat} {q:Res},tg (tb y) k=some q-> ∃r,tg (tb x) k=some r/\(zA M ρ w k r->zA M ρ w k q)
 | [],[],_,_,_,h=>by cases h
 | [],_::_,h,_,_,_=>by cases h
 |(i,.box x)::r,(j,.box y)::s,h,k,q,hk=>by
  simp only[leRL,um]at h;have e:=uA h.1.1;subst e;simp only[tb,zm]at hk⊢;split at hk
  ·rename_i e;subst e;simp only[ui]at hk;subst hk;exact⟨.box x,uw rfl,λ⟨b,cs,el,J,h2,h3⟩=>⟨b,cs,el,J,h2,zg4 h.1.2 _ _ _ h3⟩⟩
  ·rename_i U;obtain⟨r',J,h2⟩:=zar h.2 hk;exact⟨r',by rw[ur U];exact J,h2⟩
variable {ρ:Nat->Value}
theorem ziy{x y:RL}(h:x.ids=y.ids){b:Nat}(U:zaO (tb x) ρ b):zaO (tb y) ρ b:=by
 obtain⟨i,r,h1,h2⟩:=U;have J:=zH (zF h1);rw[h]at J;obtain⟨r',h3⟩:=vS J;exact⟨i,r',h3,h2⟩
theorem zh.le{a a':List S}{R0 R R':RL}{r r':S}(h:zh P f a R r R')(ha:yG a' a)(U:leRL R0 R=true)(hr:LeS r r'):zh P f a' R0 r' R':=by
 have e:=zix U;have oi: ∀ {ρ:Nat->Value} {b:Nat},zaO (tb R) ρ b->zaO (tb R0) ρ b:=λho=>ziy e.symm ho
 have io: ∀ {ρ:Nat->Value} {b:Nat},zaO (tb R0) ρ b->zaO (tb R) ρ b:=λho=>ziy e ho
 refine⟨h.1,λM ρ w xs h1 h2 h3 h4=>(h.2 M ρ w xs (ha _ _ _ h1) ⟨λi q J=>?_,λi j ri rj b h5 h6 hne hb1 hb2=>?_,λi q b h5 hb=>?_⟩ h3 h4).mono λe' w' ⟨v,M',ρ',he,J⟩=>
  ⟨v,M',ρ',he,⟨hr _ _ _ J.rep,J.zz,J.imm,J.mle,λb o u hu=>(J.newM b o u hu).imp id (Or.imp id oi),λb hb=>(J.own b hb).imp id oi,λb h7 h8=>J.fram b h7 λho=>h8 (oi ho),J.size,J.os,J.tape,J.output,λid hid=>J.keep id (by rw[<-e];exact hid)⟩⟩⟩
 ·obtain⟨r1,h5,h6⟩:=zar (M:=M) (ρ:=ρ) (w:=w) U J;exact h6 (h2.res i r1 h5)
 ·obtain⟨r1,h7,_⟩:=zar (M:=M) (ρ:=ρ) (w:=w) U h5;obtain⟨r2,h8,_⟩:=zar (M:=M) (ρ:=ρ) (w:=w) U h6;exact h2.dis i j r1 r2 b h7 h8 hne hb1 hb2
 ·obtain⟨r1,h7,_⟩:=zar (M:=M) (ρ:=ρ) (w:=w) U h5;exact h2.own i r1 b h7 hb
theorem znX{args:List S}{R R':RL}{s s':S}(h:zh P f args R s R')(J:LeS s s'):zh P f args R s' R':=
 ⟨h.1,λM ρ w xs U h2 h3 h4=>(h.2 M ρ w xs U h2 h3 h4).mono λe w' ⟨v,M',ρ',he,hr⟩=>⟨v,M',ρ',he,{ hr with rep:=J _ _ _ hr.rep }⟩⟩
structure Ent where
 f:FuncId
 a:List S
 R:RL
 r:S
 R':RL
def lfT:List Ent->FuncId->List S->RL->Option (S×RL)
 | [],_,_,_=>none
 |e::l,f,a,R=>match Nat.beq e.f f&&(leRL R e.R&&leSs a e.a)with
  |true=>some (e.r,e.R')
  |false=>lfT l f a R
def zj5(P:Program):List Ent->Prop
 | []=>True
 |e::l=>zh P e.f e.a e.R e.r e.R'/\zj5 P l
theorem zpX{P:Program}: ∀ {l:List Ent},zj5 P l-> ∀ {f:FuncId} {a:List S} {R:RL} {r:S} {R':RL},lfT l f a R=some (r,R')->zh P f a R r R'
 | [],_,_,_,_,_,_,h=>by cases h
 |e::l,hl,f,a,R,r,R',h=>by
  simp only[lfT]at h;split at h
  ·rename_i J;simp only[um]at J;simp only[ui,uz]at h;obtain⟨rfl,rfl⟩:=h;rw[<-uA J.1];exact hl.1.le (zg5 J.2.2) J.2.1 (.refl _)
  ·exact zpX hl.2 h
variable {K:Kno P}
theorem xh{T:Ty P}{N m:Nat}{a:List S}{R R':RL}{t:S}(h:(evalF T K N m f a R).map (λq=>(leS q.1 t,q.2))=some (true,R')):zh P f a R t R':=by
 obtain⟨q,J,h2⟩:=uR.1 h;simp only[uz]at h2;have:=ziv (T:=T) (K:=K) (N:=N) m f a R q.1 q.2 J;rw[h2.2]at this;exact znX this (zqV h2.1)
end Hw
namespace Hw.Gm
open Go Go.Proofs Hw.M Tryz
theorem zqW{rows:List (List PV)}{i:Nat}{k:Int}{t:Str}{x y z:PV}(h:rows[i]?=some [ki k,ks t,x,y,z])(s:Str):
 zh prog 107 [.one (.bx 0 0),Sr s] [(0,.box [.p (.sl 5 rows),.p (ki i),.p (.k (.bool false))])] (.bq ((decide (k=3)||decide (k=4))&&decide (t=s))) [(0,.box [.p (.sl 5 rows),.p (ki i),.p (.k (.bool false))])]:=by
 refine gFo func107 λC hC=>?_
 repeat' first|refine gG ?_|refine gB ?_ ?_<;>intro h|refine gIt h ?_
 all_goals first
  |exact gFl id rfl (.qq (by simp_all))
  |exact gFl id rfl (.qb (by simp_all))
def isC(k:Int)(t s:Str):Bool:=match k with
 | .ofNat k=>match Nat.beq k 3||Nat.beq k 4 with
   |true=>eqY t.data.toList s.data.toList
   |false=>false
 |_=>false
theorem zqX(k:Int)(t s:Str):((decide (k=3)||decide (k=4))&&decide (t=s))=isC k t s:=by
 cases k with
 |ofNat k=>
  unfold isC;rw[eqS];have J:decide (Int.ofNat k=3)=Nat.beq k 3:=by rw[oc,uq,Nat.beq_eq];exact⟨λh=>by injection h,λh=>by rw[h];rfl⟩
  have U:decide (Int.ofNat k=4)=Nat.beq k 4:=by rw[oc,uq,Nat.beq_eq];exact⟨λh=>by injection h,λh=>by rw[h];rfl⟩
  rw[J,U];simp only;cases Nat.beq k 3||Nat.beq k 4<;>rfl
 |negSucc k=>
  have J:decide (Int.negSucc k=3)=false:=rfl;have U:decide (Int.negSucc k=4)=false:=rfl;rw[J,U];rfl
def lfI(a:List S)(R:RL):Option (S×RL):=match a with
 | [.one (.bx b j),.one (.p (.k (.string s)))]=>match R with
   | [(q,.box [.p (.sl e rows),.p (.k (.int .i64 (.ofNat i))),.p (.k (.bool false))])]=>match Nat.beq b 0&&(Nat.beq j 0&&(Nat.beq q 0&&Nat.beq e 5))with
     |true=>match rows[i]? with
      |some [.k (.int .i64 k),.k (.string t),_,_,_]=>match isC k t s with
       |true=>some (Bo true,R)
       |false=>some (Bo false,R)
      |_=>none
     |false=>none
   |_=>none
 |_=>none
theorem ztW{a:List S}{R:RL}{r:S}{R':RL}(h:lfI a R=some (r,R')):zh prog 107 a R r R':=by
 unfold lfI at h;split at h
 ·split at h
  ·split at h
   ·rename_i hb;simp only[um]at hb;obtain⟨J,h2,h3,h4⟩:=hb;have J:=uA J;have h2:=uA h2;have h3:=uA h3;have h4:=uA h4;subst J h2 h3 h4;split at h
    ·rename_i hr;split at h
     ·rename_i U;simp only[ui,uz]at h;obtain⟨rfl,rfl⟩:=h;exact znX (zqW hr _) (.bq (by rw[zqX];exact U))
     ·rename_i U;simp only[ui,uz]at h;obtain⟨rfl,rfl⟩:=h;exact znX (zqW hr _) (.bq (by rw[zqX];exact U))
    ·cases h
   ·cases h
  ·cases h
 ·cases h
end Hw.Gm
namespace Hw.Gm.Ps
open Go Go.Proofs Hw.M
structure Tok where
 k:Int
 t:Str
 n:Int
 ln:Int
 cl:Int
 deriving DecidableEq
def zd6(t:Tok):List PV:=[ki t.k,ks t.t,ki t.n,ki t.ln,ki t.cl]
def zj9(l:List Tok):PV:= .sl 5 (l.map zd6)
abbrev By:=List UInt8
def zaL(l:By):Str:=⟨l.toArray⟩
def lst(s:Str):By:=s.data.toList
theorem zd7(s:Str):zaL (lst s)=s:=by cases s;simp[zaL,lst]
theorem zm3(l:By):lst (zaL l)=l:=by simp[zaL,lst]
theorem je(s:Str):(lst s).length=s.size:=by simp only[lst,qh];rfl
def wB(b:UInt8):Bool:=isWord b.toNat
def dB(b:UInt8):Bool:=isDigit b.toNat
def blB(b:UInt8):Bool:=decide (xi b.toNat=1)
def numV:By->Int->Int
 | [],a=>a
 |b::r,a=>numV r (a*10+((b.toNat:Int) - 48))
def zfE(w:By):Bool:= !decide (w=[])&& !(decide (1<w.length)&&decide (w.head?=some 48))&&w.all dB&&decide (numV w 0<=1099511627776)
def znU(w:By):Option (Int×Str×Int):=if wC (zaL w)=true then some (3,zaL w,0)else if isName (zaL w)=true then some (1,zaL w,0)else if zfE w=true then some (2,(⟨#[]⟩:UI),numV w 0)else none
def syms:List Str:=[(⟨#[61,61]⟩:UI),(⟨#[33,61]⟩:UI),(⟨#[60,61]⟩:UI),(⟨#[45,62]⟩:UI),(⟨#[40]⟩:UI),(⟨#[41]⟩:UI),⟨#[123]⟩,⟨#[125]⟩,(⟨#[91]⟩:UI),(⟨#[93]⟩:UI),(⟨#[44]⟩:UI),(⟨#[59]⟩:UI),(⟨#[58]⟩:UI),(⟨#[46]⟩:UI),(⟨#[61]⟩:UI),(⟨#[60]⟩:UI),(⟨#[43]⟩:UI),(⟨#[45]⟩:UI),(⟨#[42]⟩:UI),(⟨#[47]⟩:UI),(⟨#[37]⟩:UI)]
def zjU(l:By):Option Str:=syms.find? λy=>(lst y).isPrefixOf l
def tk:By->Option (Nat×Option (Int×Str×Int))
 | []=>none
 |c::r=>if blB c=true then some (1,none)
  else if c=35 then some (((c::r).takeWhile λb=>decide (b≠10)).length,none)
  else if wB c=true then(znU ((c::r).takeWhile wB)).map λt=>(((c::r).takeWhile wB).length,some t)
  else(zjU (c::r)).map λy=>(y.size,some (4,y,0))
def mvX(p:Int×Int)(c:UInt8):Int×Int:=if c=10 then(p.1+1,1)else(p.1,p.2+1)
def jI(p:Int×Int)(t:Int×Str×Int):Tok:=⟨t.1,t.2.1,t.2.2,p.1,p.2⟩
def lx:Nat->By->Int×Int->List Tok->List Tok×(Int×Int)×Int
 |0,_,_,_=>([],(0,0),0)
 |_+1,[],p,out=>(out++[⟨5,(⟨#[]⟩:UI),0,p.1,p.2⟩],(0,0),0)
 |f+1,c::r,p,out=>match tk (c::r)with
  |none=>([],p,7)
  |some (n,o)=>lx f ((c::r).drop n) (((c::r).take n).foldl mvX p) (out++(o.map (jI p)).toList)
theorem vG{p:UInt8->Bool}: ∀l:By,(l.takeWhile p).length<=l.length
 | []=>by simp
 |c::r=>by
  rw[qH];split
  ·simp only[uX];have:=vG (p:=p) r;omega
  ·simp
theorem jf: ∀ {a l:By},a.isPrefixOf l=true->a.length<=l.length
 | [],_,_=>by simp
 |_::_,[],h=>by simp[List.isPrefixOf]at h
 |x::a,y::l,h=>by
  simp only[List.isPrefixOf,um]at h;have:=jf h.2;simp only[uX];omega
theorem zfF: ∀y∈syms,1<=y.size/\y.size<=2:=by decide
theorem zm4{l:By}{y:Str}(h:zjU l=some y):y∈syms/\(lst y).isPrefixOf l=true:=⟨qB h,by have:=List.find?_some h;exact this⟩
variable {o:Option (Int×Str×Int)}
theorem zqY{l:By}{n:Nat}(h:tk l=some (n,o)):1<=n/\n<=l.length:=by
 cases l with
 |nil=>cases h
 |cons c r=>
  simp only[tk]at h;split at h
  ·simp only[ui,uz]at h;obtain⟨rfl,_⟩:=h;simp
  ·split at h
   ·rename_i J;simp only[ui,uz]at h;obtain⟨rfl,_⟩:=h;refine⟨?_,vG _⟩;rw[qH,uw (by rw[J];decide)];simp
   ·split at h
    ·rename_i U;rw[uR]at h;obtain⟨t,_,h⟩:=h;simp only[uz]at h;obtain⟨rfl,_⟩:=h;refine⟨?_,vG _⟩;rw[qH,uw U];simp
    ·rw[uR]at h;obtain⟨y,hy,h⟩:=h;simp only[uz]at h;obtain⟨rfl,_⟩:=h;obtain⟨h1,h2⟩:=zm4 hy;refine⟨(zfF y h1).1,?_⟩;have:=jf h2;rwa [je]at this
theorem zqZ: ∀(f g:Nat) (l:By) (p:Int×Int) (out:List Tok),l.length<f->l.length<g->lx f l p out=lx g l p out
 |0,_,_,_,_,h,_=>by omega
 |_+1,0,_,_,_,_,h=>by omega
 |_+1,_+1,[],_,_,_,_=>rfl
 |f+1,g+1,c::r,p,out,h,h'=>by
  simp only[lx];cases e:tk (c::r)with
  |none=>rfl
  |some q=>
   obtain⟨n,o⟩:=q;have J:=zqY e;simp only[uX]at h h' J;simp only;have hl:((c::r).drop n).length=r.length+1 - n:=by rw[tD,uX]
   exact zqZ f g _ _ _ ua ua
theorem ztk(f:Nat)(l:By)(p:Int×Int)(out:List Tok)(h:l.length<f):lx f l p out=lx (l.length+1) l p out:=zqZ _ _ _ _ _ h (Nat.lt_succ_self _)
def lxx(l:By)(p:Int×Int)(out:List Tok):List Tok×(Int×Int)×Int:=lx (l.length+1) l p out
theorem ztl(p:Int×Int)(out:List Tok):lxx [] p out=(out++[⟨5,(⟨#[]⟩:UI),0,p.1,p.2⟩],(0,0),0):=rfl
theorem zm5{c:UInt8}{r:By}(p:Int×Int)(out:List Tok)(h:tk (c::r)=none):lxx (c::r) p out=([],p,7):=by
 unfold lxx;simp only[lx,h]
theorem zbp{l:By}{n:Nat}(p:Int×Int)(out:List Tok)(h:tk l=some (n,o)):lxx l p out=lxx (l.drop n) ((l.take n).foldl mvX p) (out++(o.map (jI p)).toList):=by
 cases l with
 |nil=>cases h
 |cons c r=>
  have J:=zqY h;unfold lxx;simp only[lx,h];simp only[uX]at J;exact ztk _ _ _ _ (by rw[tD,uX];omega)
def vk(s:Str):List Tok×(Int×Int)×Int:=if 65536<s.size then([],(0,0),4)else lxx (lst s) (1,1) []
theorem zg6: ∀(l:By) (p:Int×Int),(∀b∈l,b≠10)->l.foldl mvX p=(p.1,p.2+l.length)
 | [],p,_=>by simp
 |b::r,p,h=>by
  have J:b≠10:=h b ue;rw[List.foldl_cons,zg6 r _ λx U=>h x (by simp[U])];simp only[mvX,ur J,uX,uz,Uq];omega
def natV:By->Nat->Nat
 | [],a=>a
 |b::r,a=>natV r (a*10+(b.toNat - 48))
theorem ziz{b:UInt8}:dB b=true↔48<=b.toNat/\b.toNat<=57:=by
 unfold dB isDigit;simp only[um,uq];omega
theorem ziA: ∀(l:By) (a:Nat),l.all dB=true->numV l a=(natV l a:Int)
 | [],a,_=>rfl
 |b::r,a,h=>by
  simp only[tQ,um]at h;have hb:=ziz.1 h.1;have e:((a:Int)*10+((b.toNat:Int) - 48))=((a*10+(b.toNat - 48):Nat):Int):=by omega
  simp only[numV,natV];rw[e];exact ziA r _ h.2
theorem zm6: ∀(l:By) (a:Nat),a<=natV l a
 | [],a=>uM a
 |b::r,a=>by
  have:=zm6 r (a*10+(b.toNat - 48));simp only[natV];omega
theorem za2: ∀(l:By) (acc:Nat),l.all dB=true->acc<18446744073709551616->Lib.parseUint10 acc l=if natV l acc<18446744073709551616 then .ok (natV l acc)else .range
 | [],acc,_,ha=>by
   show Lib.NumEnd.ok acc=if acc<_ then _ else _
   rw[uw ha];rfl
 |c::r,acc,h,ha=>by
  simp only[tQ,um]at h;have U:=ziz.1 h.1;have hg:=zm6 r (acc*10+(c.toNat - 48));simp only[Lib.parseUint10,natV,uw U];by_cases J:1844674407370955162<=acc
  ·rw[uw J];exact(ur ua).symm
  ·rw[ur J];by_cases h2:18446744073709551616<=acc*10+(c.toNat - 48)
   ·rw[uw h2];exact(ur ua).symm
   ·rw[ur h2];exact za2 r _ h.2 ua
theorem zg7{w:By}(U:w≠ [])(J:w.all dB=true):Lib.atoiAll w=if numV w 0<=9223372036854775807 then .ok (numV w 0)else .range:=by
 cases w with
 |nil=>exact absurd rfl U
 |cons c r=>
  have hc:=ziz.1 (by simp only[tQ,um]at J;exact J.1);rw[Lib.atoiAll_plain c r ua ua,Lib.parseMag,ur ue,za2 _ _ J ua];have hn:=ziA (c::r) 0 J;rw[show((0:Nat):Int)=0 from rfl]at hn;by_cases h1:natV (c::r) 0<18446744073709551616
  ·rw[uw h1];simp only[Lib.signless];by_cases h2:9223372036854775808<=natV (c::r) 0
   ·rw[uw h2,ur ua]
   ·rw[ur h2,uw ua,hn]
  ·rw[ur h1,ur ua];rfl
def ztm(w:By):Int:=if numV w 0<=9223372036854775807 then numV w 0 else 9223372036854775807
end Hw.Gm.Ps
namespace Hw.Gm
open Go Go.Proofs Go.Shelf Tryz
def zg8:Go.Shelf.Ren:=⟨λ|137=>148|217=>210|266=>251|n=>n,λ|9=>9|5=>5|3=>3|n=>n,λ|n=>n⟩
theorem ztn:Go.Proofs.Lays.n137 prog zg8 where
 mixed:=by kernel_rfl
 f137:=func148.trans (u7 some ud)
 f217:=func210.trans (u7 some ud)
 f266:=func251.trans (u7 some ud)
 t3:=underlying3
 a3:=isAgg3
 z3:=sizeOf3
 v3:=zeroValue3
 t5:=underlying5
 a5:=isAgg5
 z5:=sizeOf5
 v5:=zeroValue5
 t9:=underlying9
 a9:=isAgg9
 z9:=sizeOf9
 v9:=zeroValue9
def zg9:Go.Shelf.Ren:=⟨λ|99=>147|206=>209|n=>n,λ|9=>9|4=>4|3=>3|n=>n,λ|n=>n⟩
theorem zto:Go.Proofs.Lays.n99 prog zg9 where
 mixed:=by kernel_rfl
 f99:=func147.trans (u7 some ud)
 f206:=func209.trans (u7 some ud)
 t3:=underlying3
 a3:=isAgg3
 z3:=sizeOf3
 v3:=zeroValue3
 t4:=underlying4
 a4:=isAgg4
 z4:=sizeOf4
 v4:=zeroValue4
 t9:=underlying9
 a9:=isAgg9
 z9:=sizeOf9
 v9:=zeroValue9
def wV:Go.Shelf.Ren:=⟨λ|172=>208|244=>249|245=>250|247=>267|279=>268|280=>269|281=>270|282=>271|287=>280|316=>281|171=>283|205=>282|321=>294|322=>295|243=>296|246=>299|283=>300|284=>301|285=>302|286=>303|129=>203|317=>304|318=>305|319=>306|320=>307|337=>308|338=>309|n=>n,λ|9=>9|3=>3|75=>319|76=>320|4=>4|5=>5|167=>370|37=>59|0=>0|85=>371|2=>2|168=>373|53=>314|175=>384|46=>259|210=>387|127=>404|145=>407|143=>405|21=>21|171=>411|173=>413|212=>415|51=>312|20=>20|213=>416|232=>417|233=>418|80=>147|n=>n,λ|15=>3|16=>4|17=>5|18=>6|19=>7|n=>n⟩
theorem ziB:Go.Proofs.LaysC.n172 prog wV where
 mixed:=by kernel_rfl
 f129:=func203.trans (u7 some ud)
 f171:=func283.trans (u7 some ud)
 f172:=func208.trans (u7 some ud)
 f205:=func282.trans (u7 some ud)
 f243:=func296.trans (u7 some ud)
 f244:=func249.trans (u7 some ud)
 f245:=func250.trans (u7 some ud)
 f246:=func299.trans (u7 some ud)
 f247:=func267.trans (u7 some ud)
 f279:=func268.trans (u7 some ud)
 f280:=func269.trans (u7 some ud)
 f281:=func270.trans (u7 some ud)
 f282:=func271.trans (u7 some ud)
 f283:=func300.trans (u7 some ud)
 f284:=func301.trans (u7 some ud)
 f285:=func302.trans (u7 some ud)
 f286:=func303.trans (u7 some ud)
 f287:=func280.trans (u7 some ud)
 f316:=func281.trans (u7 some ud)
 f317:=func304.trans (u7 some ud)
 f318:=func305.trans (u7 some ud)
 f319:=func306.trans (u7 some ud)
 f320:=func307.trans (u7 some ud)
 f321:=func294.trans (u7 some ud)
 f322:=func295.trans (u7 some ud)
 f337:=func308.trans (u7 some ud)
 f338:=func309.trans (u7 some ud)
 t0:=underlying0
 a0:=isAgg0
 z0:=sizeOf0
 v0:=zeroValue0
 t2:=underlying2
 a2:=isAgg2
 z2:=sizeOf2
 v2:=zeroValue2
 t3:=underlying3
 a3:=isAgg3
 z3:=sizeOf3
 v3:=zeroValue3
 t4:=underlying4
 a4:=isAgg4
 z4:=sizeOf4
 v4:=zeroValue4
 t5:=underlying5
 a5:=isAgg5
 z5:=sizeOf5
 v5:=zeroValue5
 t9:=underlying9
 a9:=isAgg9
 z9:=sizeOf9
 v9:=zeroValue9
 t20:=underlying20
 a20:=isAgg20
 z20:=sizeOf20
 v20:=zeroValue20
 t21:=underlying21
 a21:=isAgg21
 z21:=sizeOf21
 v21:=zeroValue21
 t37:=underlying59
 a37:=isAgg59
 z37:=sizeOf59
 v37:=zeroValue59
 t46:=underlying259
 a46:=isAgg259
 z46:=sizeOf259
 v46:=zeroValue259
 t51:=underlying312
 a51:=isAgg312
 z51:=sizeOf312
 v51:=zeroValue312
 t53:=underlying314
 a53:=isAgg314
 z53:=sizeOf314
 v53:=zeroValue314
 t75:=underlying319
 a75:=isAgg319
 z75:=sizeOf319
 v75:=zeroValue319
 t76:=underlying320
 a76:=isAgg320
 z76:=sizeOf320
 v76:=zeroValue320
 t85:=underlying371
 a85:=isAgg371
 z85:=sizeOf371
 v85:=zeroValue371
 t127:=underlying404
 a127:=isAgg404
 z127:=sizeOf404
 v127:=zeroValue404
 t143:=underlying405
 a143:=isAgg405
 z143:=sizeOf405
 v143:=zeroValue405
 t145:=underlying407
 a145:=isAgg407
 z145:=sizeOf407
 v145:=zeroValue407
 t167:=underlying370
 a167:=isAgg370
 z167:=sizeOf370
 v167:=zeroValue370
 t168:=underlying373
 a168:=isAgg373
 z168:=sizeOf373
 v168:=zeroValue373
 t171:=underlying411
 a171:=isAgg411
 z171:=sizeOf411
 v171:=zeroValue411
 t173:=underlying413
 a173:=isAgg413
 z173:=sizeOf413
 v173:=zeroValue413
 t175:=underlying384
 a175:=isAgg384
 z175:=sizeOf384
 v175:=zeroValue384
 t210:=underlying387
 a210:=isAgg387
 z210:=sizeOf387
 v210:=zeroValue387
 t212:=underlying415
 a212:=isAgg415
 z212:=sizeOf415
 v212:=zeroValue415
 t213:=underlying416
 a213:=isAgg416
 z213:=sizeOf416
 t232:=underlying417
 a232:=isAgg417
 z232:=sizeOf417
 v232:=zeroValue417
 t233:=underlying418
 a233:=isAgg418
 z233:=sizeOf418
 v233:=zeroValue418
 g15:=by kernel_rfl
 g16:=by kernel_rfl
 g17:=by kernel_rfl
 g18:=by kernel_rfl
 g19:=by kernel_rfl
 t80:=underlying147
 a80:=isAgg147
 z80:=sizeOf147
 v80:=zeroValue147
 i0:=by kernel_rfl
 i2:=by kernel_rfl
 i3:=by kernel_rfl
 i4:=by kernel_rfl
 i5:=by kernel_rfl
 i9:=by kernel_rfl
 i20:=by kernel_rfl
 i21:=by kernel_rfl
 i37:=by kernel_rfl
 i46:=by kernel_rfl
 i51:=by kernel_rfl
 i53:=by kernel_rfl
 i75:=by kernel_rfl
 i76:=by kernel_rfl
 i80:=by kernel_rfl
 i85:=by kernel_rfl
 i127:=by kernel_rfl
 i143:=by kernel_rfl
 i145:=by kernel_rfl
 i167:=by kernel_rfl
 i168:=by kernel_rfl
 i171:=by kernel_rfl
 i173:=by kernel_rfl
 i175:=by kernel_rfl
 i210:=by kernel_rfl
 i212:=by kernel_rfl
 i232:=by kernel_rfl
 i233:=by kernel_rfl
 m15:=by kernel_rfl
 m16:=by kernel_rfl
 m17:=by kernel_rfl
 m18:=by kernel_rfl
 m19:=by kernel_rfl
 c0:=by kernel_rfl
 c2:=by kernel_rfl
 c3:=by kernel_rfl
 c4:=by kernel_rfl
 c5:=by kernel_rfl
 c9:=by kernel_rfl
 c20:=by kernel_rfl
 c21:=by kernel_rfl
 c37:=by kernel_rfl
 c46:=by kernel_rfl
 c51:=by kernel_rfl
 c53:=by kernel_rfl
 c75:=by kernel_rfl
 c76:=by kernel_rfl
 c80:=by kernel_rfl
 c85:=by kernel_rfl
 c127:=by kernel_rfl
 c143:=by kernel_rfl
 c145:=by kernel_rfl
 c167:=by kernel_rfl
 c168:=by kernel_rfl
 c171:=by kernel_rfl
 c173:=by kernel_rfl
 c175:=by kernel_rfl
 c210:=by kernel_rfl
 c212:=by kernel_rfl
 c213:=by kernel_rfl
 c232:=by kernel_rfl
 c233:=by kernel_rfl
end Hw.Gm
namespace Hw.Gm.Ps
open Go Go.Proofs Go.Shelf Hw.M Tryz
theorem zd8{f:FuncId}{fn:Func}(h:prog.funcs[f]?=some fn)(J:(fn.name== "runtime.NumGoroutine")=false)(h2:fn.body.isNone=false):ju prog f:=⟨fn,h,J,h2⟩
theorem zd9(s p:Str):zh prog 147 [Sr s,Sr p] [] (Bo ((lst p).isPrefixOf (lst s))) []:=
 @zhh _ _ [.string s,.string p] _ (zd8 func147 ud ud) (λw _=>Any.strings_HasPrefix zto s p w) rfl
theorem zfG(s:Str)(c:UInt8):zh prog 148 [Sr s,uc c.toNat] [] (I (Lib.indexByte (lst s) c)) []:=
 @zhh _ _ [.string s,.int .u8 c.toNat] _ (zd8 func148 ud ud) (λw _=>by
  have:=Any.strings_IndexByte ztn s c.toNat w;have e:((c.toNat:Int).toNat).toUInt8=c:=by simp
  rw[e]at this
  exact this) rfl
theorem ztp{s:Str}{v:Int}(h:Lib.atoiAll (lst s)= .ok v)(hs:s.size<=1000000):zh prog 208 [Sr s] [] (.tup [I v,.one (.p (.k .nilIface))]) []:=by
 refine⟨zd8 func208 ud ud,λM ρ w xs J _ U hG=>?_⟩;obtain rfl:=zel (av:=[.string s]) J;refine(Any.strconv_Atoi_ok ziB s ua v h w).mono λe w' ⟨he,hw⟩=>?_
 have hb:RowKit.Below w.heap.size w w':=by
  rcases hw with rfl|⟨t,rfl⟩
  ·exact RowKit.Below.refl _ _
  ·exact Lib.bytesWorld_below w _ t
 exact⟨_,M,ρ,he,zjW U hb (by simp only[RepS];exact⟨[.int .i64 v,.nilIface],rfl,by simp only[RepSs,RepS,RepV,RepPV];exact⟨⟨uh,rfl⟩,⟨uh,rfl⟩,uh⟩⟩)⟩
theorem zjy{s:Str}(h:Lib.atoiAll (lst s)= .range)(hs:s.size<=1000000)(hn:Lib.atoiSat (lst s)=9223372036854775807):zh prog 208 [Sr s] [] (.tup [I 9223372036854775807,.one (.ar 0)]) [(0,.ifc)]:=by
 refine⟨zd8 func208 ud ud,λM ρ w xs hx hT hI hG=>?_⟩;obtain rfl:=zel (av:=[.string s]) hx;obtain⟨te,pe,hev⟩:=hG.er 4 (by simp[G3]);have hv:=hI _ _ _ hev;refine(Any.strconv_Atoi_range ziB s ua h _ w hv (.inr ⟨te,pe,rfl⟩)).mono λe w' ⟨N,he,_,_,J⟩=>?_;have hn':Lib.atoiSat s.data.toList=9223372036854775807:=hn;rw[hn']at he
 have only: ∀i r,tg (tb [(0,Res.ifc)]) i=some r->i=0/\r= .ifc:=λi r U=>by
  simp only[tb,zm]at U;split at U
  ·rename_i e;exact⟨e.symm,(uU U).symm⟩
  ·cases U
 have nob: ∀ {i r b},tg (tb [(0,Res.ifc)]) i=some r->Bk (upd ρ 0 (.iface (wV.t 168) (.pointer (some ⟨N,0,none⟩))) i) b->False:=λ{i r b} U J=>by
  obtain⟨rfl,_⟩:=only i r U;rw[zo]at J;simp[Bk,blk]at J
 refine⟨_,M,upd ρ 0 (.iface (wV.t 168) (.pointer (some ⟨N,0,none⟩))),he,?_⟩
 refine⟨?_,⟨λi r U=>?_,λi j ri rj b U _ _ J _=>nob U J,λi r b U J=>(nob U J).elim⟩,λb o u hu=>by rw[cell_of_heap (J.block b (jC (hI b o u hu)))];exact hI b o u hu,MLe.refl M,λb o u hu=> .inl hu,
  λb ⟨i,r,U,J⟩=>(nob U J).elim,λb h _=>J.block b h,J.size,J.os,J.tape,J.output,λid hid=>by simp[RL.ids]at hid⟩
 ·simp only[RepS];exact⟨[.int .i64 9223372036854775807,.iface (wV.t 168) (.pointer (some ⟨N,0,none⟩))],rfl,by simp only[RepSs,RepS,RepV,RepPV];exact⟨⟨uh,rfl⟩,⟨by rw[zo],rfl⟩,uh⟩⟩
 ·obtain⟨rfl,rfl⟩:=only i r U;exact⟨_,_,zo _ _ _⟩
variable {i:Nat}
theorem vL{s:Str}{b:UInt8}(h:(lst s)[i]?=some b):s[((i:Nat):Int).toNat]?=some b:=by
 have J:i<s.data.size:=by
  have:=(uy.1 h).1;simpa [lst]using this
 have:s.data[i]=b:=by unfold lst at h;rw[qu,tT J]at h;exact uU h
 have U:i<s.size:=J;simp only[tj];rw[getElem?_pos s i U];exact u7 some this
theorem zfH(c:Int):decide (xi c=3)=isDigit c:=by
 unfold xi isDigit;by_cases h1:c=32
 ·subst h1;rfl
 by_cases h2:c=9
 ·subst h2;rfl
 by_cases h3:c=13
 ·subst h3;rfl
 by_cases h4:c=10
 ·subst h4;rfl
 simp only[h1,h2,h3,h4,uN];by_cases U:(decide (97<=c)&&decide (c<=122))=true
 ·rw[uw U];simp only[um,uq]at U;rw[uI (show ¬c<=57 by omega)];simp
 ·rw[ur U];by_cases h6:(decide (65<=c)&&decide (c<=90))=true
  ·rw[uw h6];simp only[um,uq]at h6;rw[uI (show ¬c<=57 by omega)];simp
  ·rw[ur h6];by_cases J:(decide (48<=c)&&decide (c<=57))=true
   ·rw[uw J,J];rfl
   ·rw[ur J];have h7':(decide (48<=c)&&decide (c<=57))=false:=by simpa using J
    rw[h7'];by_cases h8:c=95
    ·rw[uw h8];rfl
    ·rw[ur h8];rfl
def zha(w:By):Bool:=decide (w=[])||(decide (1<w.length)&&decide (w.head?=some 48))
theorem zea(w:By):zfE w=(!zha w&&w.all dB&&decide (numV w 0<=1099511627776)):=by
 unfold zfE zha;cases decide (w=[])<;>cases(decide (1<w.length)&&decide (w.head?=some 48))<;>simp
def zq0(w:By):Int:=if(!zha w&&w.all dB)=true then ztm w else 0
theorem zjz{w:By}(J:w≠ [])(U:w.all dB=true):Lib.atoiSat w=9223372036854775807:=by
 cases w with
 |nil=>exact absurd rfl J
 |cons c r=>
  have hc:=ziz.1 (by simp only[tQ,um]at U;exact U.1);exact Lib.atoiSat_other c r ua
theorem zjA(s:Str)(hs:s.size<=1000000):zh prog 146 [Sr s] [] (.tup [I (zq0 (lst s)),.bq (zfE (lst s))]) []:=by
 have hl:=je s
 have no:zha (lst s)=true->zq0 (lst s)=0/\zfE (lst s)=false:=λh=>by
  rw[zea];unfold zq0;rw[h];simp
 by_cases h0:s=⟨#[]⟩
 ·obtain⟨e1,e2⟩:=no (by rw[h0];rfl);rw[e1,e2];refine gFo func146 λC hC=>?_
  repeat' first|refine gG ?_|refine gB ?_ ?_<;>intro h
  all_goals first
   |exact gFl id rfl (LeS.tup (.cons (.refl _) (.cons (.qb rfl) .nil)))
   |(exfalso;simp_all;done)
 have U:lst s≠ []:=λe=>h0 (by rw[<-zd7 s,e];rfl)
 have hpos:0<(lst s).length:=List.length_pos_iff.2 U;obtain⟨b,hb⟩:=za hpos;have hhd:(lst s).head?=some b:=by rw[List.head?_eq_getElem?];exact hb
 by_cases h1:(decide (1<(lst s).length)&&decide ((lst s).head?=some 48))=true
 ·obtain⟨e1,e2⟩:=no (by unfold zha;rw[h1];simp);rw[e1,e2];simp only[um,uq,hhd,ui]at h1;obtain⟨h1,rfl⟩:=h1;refine gFo func146 λC hC=>?_
  repeat' first|refine gG ?_|refine gB ?_ ?_<;>intro h|refine gIx (vL hb) ?_
  all_goals first
   |exact gFl id rfl (LeS.tup (.cons (.refl _) (.cons (.qb rfl) .nil)))
   |(exfalso;simp_all;done)
   |(exfalso;simp only[uq,uu]at *; omega)
   |(exfalso;revert h;decide)
 have hnn:zha (lst s)=false:=by
  unfold zha;rw[uI U];simpa using h1
 have hif:zq0 (lst s)=if(lst s).all dB=true then ztm (lst s)else 0:=by unfold zq0;rw[hnn];simp
 have hok:zfE (lst s)=((lst s).all dB&&decide (numV (lst s) 0<=1099511627776)):=by rw[zea,hnn];rfl
 have h48:1<(lst s).length->b≠48:=λh e=>h1 (by rw[hhd,e];simp[h])
 rw[hif,hok];clear no h1 hhd;refine gFo func146 λC hC=>?_
 repeat' first|refine gG ?_|refine gB ?_ ?_<;>intro h|refine gIx (vL hb) ?_
 all_goals first
  |(exfalso;simp_all;done)
  |(exfalso;simp only[uq,uu]at *; refine h48 ua ?_;apply oo.1;have h48':(48:UInt8).toNat=48:=rfl;omega)
  |skip
 all_goals
  refine zj (λi:Nat=>i<=s.size/\((lst s).take i).all dB=true) (λi=>([(0,Sr s),(20,I s.size),(21,I i)],[])) (λi=>s.size - i) hC
   0 ⟨uD _,ue⟩ id gM ?_
  rintro i ⟨hi,hn⟩;refine gLc ?_ ?_<;>intro hh
  ·have hlt:i<(lst s).length:=by have:=uk hh;omega
   clear hh;obtain⟨x,hx⟩:=za hlt
   repeat' first|refine gG ?_|refine gB ?_ ?_<;>intro h|refine gIx (vL hx) ?_|refine gC (vy _) ?_|refine zk ?_
   all_goals first
    |(have hd:dB x=false:=by unfold dB;rw[<-zfH];simpa using h
      rw[zac hx hd]
      exact gFl id rfl (LeS.tup (.cons (.refl _) (.cons (.qb rfl) .nil))))
    |(have hd:dB x=true:=by unfold dB;rw[<-zfH];simpa using h
      rw[vd ua];refine zg (i+1) ⟨ua,?_⟩ id ua gM
      rw[xG hx,hn,hd];rfl)
  ·have hge: ¬i<(lst s).length:=by have:=uo hh;omega
   have J:=vZ (p:=dB) ua hn;clear hh;rw[J,tn];have ha:=zg7 U J;have hsat:=zjz U J;by_cases hv:numV (lst s) 0<=9223372036854775807
   ·rw[uw hv]at ha;have hA:=ztp ha hs;have hi':ztm (lst s)=numV (lst s) 0:=by unfold ztm;rw[uw hv]
    rw[hi',uw rfl]
    repeat' first|refine gG ?_|refine gB ?_ ?_<;>intro h|refine zd ?_|refine gC hA ?_|refine ztR hC rfl ud rfl rfl ?_
    all_goals first
     |exact gFl id rfl (LeS.tup (.cons (.refl _) (.cons (.qq rfl) .nil)))
     |(exfalso;simp_all;done)
   ·rw[ur hv]at ha;have hA:=zjy ha hs hsat;have hi':ztm (lst s)=9223372036854775807:=by unfold ztm;rw[ur hv]
    rw[hi',uI (show ¬numV (lst s) 0<=1099511627776 by omega),uw rfl]
    repeat' first|refine gG ?_|refine gB ?_ ?_<;>intro h|refine zd ?_|refine gR hA iE ?_|refine ztQ hC rfl rfl ud rfl rfl ?_
    all_goals first
     |exact gFl id rfl (LeS.tup (.cons (.refl _) (.cons (.qb rfl) .nil)))
     |(exfalso;simp_all;done)
theorem zhb(s:Str)(i j:Nat):lst (s.extract i j)=((lst s).drop i).take (j - i):=by
 simp only[lst,ByteArray.data_extract,Uv,oV]
theorem jV(s:Str)(i j:Nat):s.extract i j=zaL (((lst s).drop i).take (j - i)):=by rw[<-zhb,zd7]
variable {c:UInt8}
theorem zm7{r:By}(h: ∀y∈[(⟨#[61,61]⟩:UI),(⟨#[33,61]⟩:UI),(⟨#[60,61]⟩:UI),(⟨#[45,62]⟩:UI)],(lst y).isPrefixOf (c::r)=false):zjU (c::r)=if 0<=Lib.indexByte (lst (⟨#[40,41,123,125,91,93,44,59,58,46,61,60,43,45,42,47,37]⟩:Str)) c then some (zaL [c])else none:=by
 have key: ∀i:Fin 256,(([(⟨#[40]⟩:UI),(⟨#[41]⟩:UI),⟨#[123]⟩,⟨#[125]⟩,(⟨#[91]⟩:UI),(⟨#[93]⟩:UI),(⟨#[44]⟩:UI),(⟨#[59]⟩:UI),(⟨#[58]⟩:UI),(⟨#[46]⟩:UI),(⟨#[61]⟩:UI),(⟨#[60]⟩:UI),(⟨#[43]⟩:UI),(⟨#[45]⟩:UI),(⟨#[42]⟩:UI),(⟨#[47]⟩:UI),(⟨#[37]⟩:UI)]:List Str).find? λy=>(lst y).isPrefixOf [UInt8.ofNat i.val])=
  if 0<=Lib.indexByte (lst (⟨#[40,41,123,125,91,93,44,59,58,46,61,60,43,45,42,47,37]⟩:Str)) (UInt8.ofNat i.val)then some (zaL [UInt8.ofNat i.val])else none:=by decide+kernel
 have U:UInt8.ofNat c.toNat=c:=by simp
 have hk:=key ⟨c.toNat,c.toNat_lt⟩;simp only[U]at hk;rw[<-hk];have e:syms=[(⟨#[61,61]⟩:UI),(⟨#[33,61]⟩:UI),(⟨#[60,61]⟩:UI),(⟨#[45,62]⟩:UI)]++[(⟨#[40]⟩:UI),(⟨#[41]⟩:UI),⟨#[123]⟩,⟨#[125]⟩,(⟨#[91]⟩:UI),(⟨#[93]⟩:UI),(⟨#[44]⟩:UI),(⟨#[59]⟩:UI),(⟨#[58]⟩:UI),(⟨#[46]⟩:UI),(⟨#[61]⟩:UI),(⟨#[60]⟩:UI),(⟨#[43]⟩:UI),(⟨#[45]⟩:UI),(⟨#[42]⟩:UI),(⟨#[47]⟩:UI),(⟨#[37]⟩:UI)]:=rfl;unfold zjU;rw[e,qW]
 have hn:([(⟨#[61,61]⟩:UI),(⟨#[33,61]⟩:UI),(⟨#[60,61]⟩:UI),(⟨#[45,62]⟩:UI)]:List Str).find? (λy=>(lst y).isPrefixOf (c::r))=none:=by
  rw[List.find?_eq_none];intro y J;rw[h y J];simp
 rw[hn,Option.none_or];have one: ∀y∈([(⟨#[40]⟩:UI),(⟨#[41]⟩:UI),⟨#[123]⟩,⟨#[125]⟩,(⟨#[91]⟩:UI),(⟨#[93]⟩:UI),(⟨#[44]⟩:UI),(⟨#[59]⟩:UI),(⟨#[58]⟩:UI),(⟨#[46]⟩:UI),(⟨#[61]⟩:UI),(⟨#[60]⟩:UI),(⟨#[43]⟩:UI),(⟨#[45]⟩:UI),(⟨#[42]⟩:UI),(⟨#[47]⟩:UI),(⟨#[37]⟩:UI)]:List Str),(lst y).length=1:=by decide+kernel
 have: ∀l:List Str,(∀y∈l,(lst y).length=1)->l.find? (λy=>(lst y).isPrefixOf (c::r))=l.find? (λy=>(lst y).isPrefixOf [c]):=λl=>by
  induction l with
  |nil=>intro _;rfl
  |cons y l ih=>
   intro hl;have J:=hl y ue
   have e2:(lst y).isPrefixOf (c::r)=(lst y).isPrefixOf [c]:=by
    match lst y,J with
    | [u],_=>rfl
    | [],J=>simp at J
    |_::_::_,J=>simp at J
   rw[qS,qS,e2,ih λz hz=>hl z (by simp[hz])]
 exact this _ one
theorem zpE:zjU []=none:=by decide+kernel
theorem zm8(s:Str):zh prog 100 [Sr s] [] (Sr ((zjU (lst s)).getD (⟨#[]⟩:UI))) []:=by
 have hl:=je s;have hP:=λy:Str=>zd9 s y
 refine gFo func100 λC hC=>?_
 repeat' first|refine gG ?_|refine gB ?_ ?_<;>intro h|refine znO (vs:=[.p (ks (⟨#[61,61]⟩:UI)),.p (ks (⟨#[33,61]⟩:UI)),.p (ks (⟨#[60,61]⟩:UI)),.p (ks (⟨#[45,62]⟩:UI))]) (len:=4) (e:=1) (el:=9) (zs:=List.replicate 4 (.p (ks (⟨#[]⟩:UI)))) hC rfl ud ud ud rfl ud rfl rfl ?_
 refine zj (λi:Nat=>i<=4/\ ∀y∈([(⟨#[61,61]⟩:UI),(⟨#[33,61]⟩:UI),(⟨#[60,61]⟩:UI),(⟨#[45,62]⟩:UI)]:List Str).take i,(lst y).isPrefixOf (lst s)=false) (λi=>([(0,Sr s),(5,.agg [.p (ks (⟨#[61,61]⟩:UI)),.p (ks (⟨#[33,61]⟩:UI)),.p (ks (⟨#[60,61]⟩:UI)),.p (ks (⟨#[45,62]⟩:UI))]),(6,I i)],[])) (λi=>4 - i) hC
  0 ⟨uD _,ue⟩ id gM ?_
 rintro i ⟨hi,hn⟩;refine gLc ?_ ?_<;>intro hh
 ·have hlt:i<4:=by have:=uk hh;omega
  clear hh;obtain⟨y,hy⟩:=za (l:=([(⟨#[61,61]⟩:UI),(⟨#[33,61]⟩:UI),(⟨#[60,61]⟩:UI),(⟨#[45,62]⟩:UI)]:List Str)) (i:=i) (by simpa using hlt)
  have hyv:([.p (ks (⟨#[61,61]⟩:UI)),.p (ks (⟨#[33,61]⟩:UI)),.p (ks (⟨#[60,61]⟩:UI)),.p (ks (⟨#[45,62]⟩:UI))]:List V)[((i:Nat):Int).toNat]?=some (.p (ks y)):=by
   have:([.p (ks (⟨#[61,61]⟩:UI)),.p (ks (⟨#[33,61]⟩:UI)),.p (ks (⟨#[60,61]⟩:UI)),.p (ks (⟨#[45,62]⟩:UI))]:List V)=([(⟨#[61,61]⟩:UI),(⟨#[33,61]⟩:UI),(⟨#[60,61]⟩:UI),(⟨#[45,62]⟩:UI)]:List Str).map λy=>V.p (ks y):=rfl
   rw[this,uO,tj,hy];rfl
  have J:=hP y;cases hp:(lst y).isPrefixOf (lst s)with
  |true=>
   rw[hp]at J
   have hsy:zjU (lst s)=some y:=by
    unfold zjU;have e:syms=([(⟨#[61,61]⟩:UI),(⟨#[33,61]⟩:UI),(⟨#[60,61]⟩:UI),(⟨#[45,62]⟩:UI)]:List Str)++[(⟨#[40]⟩:UI),(⟨#[41]⟩:UI),⟨#[123]⟩,⟨#[125]⟩,(⟨#[91]⟩:UI),(⟨#[93]⟩:UI),(⟨#[44]⟩:UI),(⟨#[59]⟩:UI),(⟨#[58]⟩:UI),(⟨#[46]⟩:UI),(⟨#[61]⟩:UI),(⟨#[60]⟩:UI),(⟨#[43]⟩:UI),(⟨#[45]⟩:UI),(⟨#[42]⟩:UI),(⟨#[47]⟩:UI),(⟨#[37]⟩:UI)]:=rfl;rw[e,qW]
    have:([(⟨#[61,61]⟩:UI),(⟨#[33,61]⟩:UI),(⟨#[60,61]⟩:UI),(⟨#[45,62]⟩:UI)]:List Str).find? (λy=>(lst y).isPrefixOf (lst s))=some y:=by
     rw[List.find?_eq_some_iff_getElem];refine⟨hp,i,by simpa using hlt,?_,λj hj=>?_⟩
     ·have:=(uy.1 hy).2;exact this
     ·have:=hn (([(⟨#[61,61]⟩:UI),(⟨#[33,61]⟩:UI),(⟨#[60,61]⟩:UI),(⟨#[45,62]⟩:UI)]:List Str)[j]'ug) (List.mem_take_iff_getElem.2 ⟨j,ug,rfl⟩);rw[this];rfl
    rw[this];rfl
   rw[hsy]
   repeat' first|refine gG ?_|refine gB ?_ ?_<;>intro h|refine zhl (len:=4) (el:=9) hC rfl rfl ud ud ud (uL _) ua hyv rfl rfl ?_|refine gC J ?_|refine zk ?_
   exact gF
  |false=>
   rw[hp]at J
   repeat' first|refine gG ?_|refine gB ?_ ?_<;>intro h|refine zhl (len:=4) (el:=9) hC rfl rfl ud ud ud (uL _) ua hyv rfl rfl ?_|refine gC J ?_
   rw[vd ua];refine zg (i+1) ⟨ua,λz U=>?_⟩ id ua gM;rw[qV,hy]at U;rcases tp.1 U with U|U
   ·exact hn z U
   ·simp only[Option.toList_some,tv]at U;subst U;exact hp
 ·have hge:i=4:=by have:=uo hh;omega
  subst hge;clear hh;have hn4: ∀y∈([(⟨#[61,61]⟩:UI),(⟨#[33,61]⟩:UI),(⟨#[60,61]⟩:UI),(⟨#[45,62]⟩:UI)]:List Str),(lst y).isPrefixOf (lst s)=false:=λy hy=>hn y (by simpa using hy)
  match hls:lst s with
  | []=>
    have h0:s=⟨#[]⟩:=by rw[<-zd7 s,hls];rfl
    subst h0;rw[zpE]
    repeat' first|refine gG ?_|refine gB ?_ ?_<;>intro h|refine zd ?_
    all_goals first
     |exact gF
     |(exfalso;simp_all;done)
  |c::r=>
   rw[hls]at hn4 hl;have hsz:1<=s.size:=by simp only[uX]at hl;omega
   have hc0:(lst s)[0]?=some c:=by rw[hls];rfl
   have hI:=zfG ⟨#[40,41,123,125,91,93,44,59,58,46,61,60,43,45,42,47,37]⟩ c;have hne:s≠⟨#[]⟩:=λe=>by subst e;simp[lst]at hls
   rw[zm7 hn4];generalize Lib.indexByte (lst (⟨#[40,41,123,125,91,93,44,59,58,46,61,60,43,45,42,47,37]⟩:Str)) c=q at hI
   have hx:s.extract 0 (1:Int).toNat=zaL [c]:=by
    rw[jV,hls];rfl
   repeat' first|refine gG ?_|refine gB ?_ ?_<;>intro h|refine zd ?_|refine gIx (vL hc0) ?_|refine gC hI ?_|refine ztO hC rfl rfl ud ub ua rfl rfl ?_
   all_goals first
    |(rw[uw (by simpa using h),hx]
      exact gF)
    |(rw[ur (by simpa using h)]
      exact gF)
    |(exfalso;simp_all;done)
def zx5(k:Int)(t:Str)(n ln cl:Int):List PV:=[ki k,ks t,ki n,ki ln,ki cl]
theorem zjB(s:Str)(hs:s.size<=1000000):(∀t,znU (lst s)=some t->zh prog 99 [Sr s] [] (.tup [zn (zx5 t.1 t.2.1 t.2.2 0 0),Bo true]) [])/\(znU (lst s)=none->zh prog 99 [Sr s] [] (.tup [zn (zx5 2 (⟨#[]⟩:UI) (zq0 (lst s)) 0 0),Bo false]) []):=by
 have U:=zaf s;have hN:=yl s;have hI:=zjA s hs
 have hif:zfE (lst s)=true->zq0 (lst s)=numV (lst s) 0:=λh=>by
  rw[zea]at h;simp only[um,uq]at h;unfold zq0 ztm;rw[uw (by simp[h.1.1,h.1.2]),uw ua]
 unfold znU;rw[zd7];cases hk:wC s with
 |true=>
  rw[hk]at U;refine⟨λt J=>?_,λh=>by simp at h⟩;rw[uw rfl]at J;obtain rfl:=uU J;refine gFo func99 λC hC=>?_
  repeat' first|refine gG ?_|refine gB ?_ ?_<;>intro h|refine gC U ?_
  all_goals first
   |exact gF
   |(exfalso;simp_all;done)
 |false=>
 rw[hk]at U;cases hn:isName s with
 |true=>
  rw[hn]at hN;refine⟨λt J=>?_,λh=>by simp at h⟩;simp only[uB,uN,uW]at J;obtain rfl:=uU J;refine gFo func99 λC hC=>?_
  repeat' first|refine gG ?_|refine gB ?_ ?_<;>intro h|refine gC U ?_|refine gC hN ?_
  all_goals first
   |exact gF
   |(exfalso;simp_all;done)
 |false=>
 rw[hn]at hN;cases ho:zfE (lst s)with
 |true=>
  rw[ho,hif ho]at hI;refine⟨λt J=>?_,λh=>by simp at h⟩;simp only[uB,uN,uW]at J;obtain rfl:=uU J;refine gFo func99 λC hC=>?_
  repeat' first|refine gG ?_|refine gB ?_ ?_<;>intro h|refine gC U ?_|refine gC hN ?_|refine gC hI ?_
  all_goals first
   |exact gFl id rfl (LeS.tup (.cons (.refl _) (.cons (.bq rfl) .nil)))
   |exact gF
   |(exfalso;simp_all;done)
 |false=>
  rw[ho]at hI;refine⟨λt J=>by simp at J,λ_=>?_⟩;refine gFo func99 λC hC=>?_
  repeat' first|refine gG ?_|refine gB ?_ ?_<;>intro h|refine gC U ?_|refine gC hN ?_|refine gC hI ?_
  all_goals first
   |exact gFl id rfl (LeS.tup (.cons (.refl _) (.cons (.bq rfl) .nil)))
   |exact gF
   |(exfalso;simp_all;done)
def mvU(a b i:Nat):Nat:=match Nat.beq i a with
 |true=>b
 |false=>i
theorem zhc{a b:Nat}(ha:100<=a)(hi:i<100):mvU a b i=i:=by
 unfold mvU;rw[xr ua]
theorem zm9{p:UInt8->Bool}: ∀(l:By) (k:Nat),(l.take k).all p=true->(∀x,l[k]?=some x->p x=false)->l.takeWhile p=l.take k
 | [],k,_,_=>by simp
 |x::l,0,_,h=>by
  have:=h x rfl;rw[qH,ur (by simp[this])];rfl
 |x::l,k+1,ha,h=>by
  rw[tW,tQ,um]at ha;rw[qH,uw ha.1,tW,zm9 l k ha.2 (λy J=>h y (by simpa using J))]
theorem zhd{l:By}(h:l[i]?=some c):l.drop i=c::l.drop (i+1):=by
 obtain⟨J,rfl⟩:=uy.1 h;exact qk J
theorem zna:blB c=true↔xi c.toNat=1:=by unfold blB;exact oQ
theorem znb:wB c=true↔2<=xi c.toNat:=by
 have:=zaB c.toNat;unfold wB;cases h:isWord (c.toNat:Int)with
 |true=>rw[h]at this;simp at this;simpa using this
 |false=>rw[h]at this;simp at this;simp;omega
theorem zjC{l:By}(p:Int×Int)(out:List Tok)(h:l[i]?=some c)(J:blB c=true):lxx (l.drop i) p out=lxx (l.drop (i+1)) (mvX p c) out:=by
 have U:tk (l.drop i)=some (1,none):=by rw[zhd h];simp only[tk,uw J]
 rw[zbp p out U,tC,zhd h];simp
variable {p:UInt8->Bool}
theorem zfI{l:By}(J:p 10=false)(q:Int×Int):(l.take (l.takeWhile p).length).foldl mvX q=(q.1,q.2+(l.takeWhile p).length):=by
 have e:l.take (l.takeWhile p).length=l.takeWhile p:=(Ub.1 (List.takeWhile_prefix p)).symm;rw[e];refine zg6 _ _ λb U e=>?_;subst e;have:=(List.all_eq_true.1 (List.all_takeWhile (p:=p) (l:=l))) _ U;rw[J]at this;cases this
theorem zpF{l:By}{k:Nat}(p:Int×Int)(out:List Tok)(h:l[i]?=some 35)(hk:((l.drop i).takeWhile λb=>decide (b≠10)).length=k):lxx (l.drop i) p out=lxx (l.drop (i+k)) (p.1,p.2+k) out:=by
 subst hk
 have J:tk (l.drop i)=some (((l.drop i).takeWhile λb=>decide (b≠10)).length,none):=by
  rw[zhd h];simp only[tk];rw[ur ub];rfl
 rw[zbp p out J,tC,zfI ub];simp
theorem znc{l:By}(p:Int×Int)(out:List Tok)(h:l[i]?=some c)(U:blB c=false)(hc:c≠35)(hw:wB c=true){t:Int×Str×Int}(J:znU ((l.drop i).takeWhile wB)=some t):lxx (l.drop i) p out=lxx (l.drop (i+((l.drop i).takeWhile wB).length)) (p.1,p.2+((l.drop i).takeWhile wB).length) (out++[jI p t]):=by
 have hk:tk (l.drop i)=some (((l.drop i).takeWhile wB).length,some t):=by
  rw[zhd h]at J⊢;simp only[tk];rw[ur (by simp[U]),ur hc,uw hw,J];rfl
 rw[zbp p out hk,tC,zfI ub];rfl
theorem zpG{l:By}(p:Int×Int)(out:List Tok)(h:l[i]?=some c)(U:blB c=false)(hc:c≠35)(hw:wB c=true)(J:znU ((l.drop i).takeWhile wB)=none):lxx (l.drop i) p out=([],p,7):=by
 rw[zhd h]at J⊢;refine zm5 p out ?_;simp only[tk];rw[ur (by simp[U]),ur hc,uw hw,J];rfl
theorem znd: ∀y∈syms,∀b∈lst y,b≠10:=by decide+kernel
variable {y:Str}
theorem zpH{l:By}(h:zjU l=some y)(q:Int×Int):(l.take y.size).foldl mvX q=(q.1,q.2+(y.size:Int)):=by
 obtain⟨J,h2⟩:=zm4 h
 have e:l.take y.size=lst y:=by
  rw[<-je];exact(Ub.1 (List.isPrefixOf_iff_prefix.1 h2)).symm
 rw[e,zg6 _ _ (znd y J),je]
theorem zpI{l:By}(p:Int×Int)(out:List Tok)(h:l[i]?=some c)(U:blB c=false)(hc:c≠35)(hw:wB c=false)(J:zjU (l.drop i)=some y):lxx (l.drop i) p out=lxx (l.drop (i+y.size)) (p.1,p.2+(y.size:Int)) (out++[jI p (4,y,0)]):=by
 have hk:tk (l.drop i)=some (y.size,some (4,y,0)):=by
  rw[zhd h]at J⊢;simp only[tk];rw[ur (by simp[U]),ur hc,ur (by simp[hw]),J];rfl
 rw[zbp p out hk,tC,zpH J];rfl
theorem ztq{l:By}(p:Int×Int)(out:List Tok)(h:l[i]?=some c)(U:blB c=false)(hc:c≠35)(hw:wB c=false)(J:zjU (l.drop i)=none):lxx (l.drop i) p out=([],p,7):=by
 rw[zhd h]at J⊢;refine zm5 p out ?_;simp only[tk];rw[ur (by simp[U]),ur hc,ur (by simp[hw]),J];rfl
theorem zem(s:Str)(hs:s.size<=1000000):zh prog 62 [Sr s] [] (.tup [pS (zj9 (vk s).1),zn [ki (vk s).2.1.1,ki (vk s).2.1.2],I (vk s).2.2]) []:=by
 have hl:=je s;by_cases hbig:65536<s.size
 ·have hR:vk s=([],(0,0),4):=uw hbig;rw[hR];refine gFo func62 λC hC=>?_
  repeat' first|refine gG ?_|refine gB ?_ ?_<;>intro h
  all_goals first
   |exact zK ⟨.inl rfl,id,_,rfl,LeS.tup (.cons (LeS.one (.nil 5)) (.cons (.refl _) (.cons (.refl _) .nil))),trivial,rfl,rfl⟩
   |(exfalso;simp only[uu]at h;omega)
 have hR:vk s=lxx ((lst s).drop 0) (1,1) []:=ur hbig;generalize vk s=R at hR;refine gFo func62 λC hC=>?_
 repeat' first|refine gG ?_|refine gB ?_ ?_<;>intro h
 ·exfalso;have:=uk h;omega
 refine gA 101 5 [(5,.one (.ar 101))] [] ?_
 refine zj (λq:Nat×Nat×Nat×List Tok=>q.1<=s.size/\q.2.2.1<=q.1/\q.2.1<=q.1+1/\q.2.2.2.length<=q.1/\R=lxx ((lst s).drop q.1) (q.2.1,(q.1:Int) - q.2.2.1+1) q.2.2.2) (λq=>([(0,Sr s),(3,.one (.bx 1003 0)),(5,.one (.ar 101)),(6,I q.2.1),(7,I q.2.2.1),(8,I q.1)],[(1003,some (Res.box [.p (ki 0),.p (ki 0)])),(101,some (Res.arr 5 (q.2.2.2.map zd6)))])) (λq=>s.size - q.1) hC
  (0,1,0,[]) ⟨uD _,uD _,ub,uD _,hR⟩ id gM ?_
 rintro⟨i,ln,bg,out⟩ ⟨hi,hb,hlnn,hout,U⟩;simp only at hi hb hlnn hout U;refine gLc ?_ ?_<;>intro hh
 rotate_left
 ·have hge:i=s.size:=by have:=uo hh;omega
  clear hh;rw[Ud ua,ztl]at U;subst U;have w1:IntKind.i64.wrap ((s.size:Int) - bg)=(s.size:Int) - bg:=wrap64 ua;have w2:IntKind.i64.wrap ((s.size:Int) - bg+1)=(s.size:Int) - bg+1:=wrap64 ua;have hol:(out.map zd6).length=out.length:=uj _;have happ:out.map zd6++[[ki 5,ks (⟨#[]⟩:UI),ki 0,ki ln,ki (IntKind.i64.wrap (IntKind.i64.wrap ((s.size:Int) - bg)+1))]]=(out++[(⟨5,(⟨#[]⟩:UI),0,ln,(i:Int) - bg+1⟩:Tok)]).map zd6:=by rw[w1,w2,hge,u5];rfl
  repeat' first|refine gG ?_|refine gB ?_ ?_<;>intro h|refine zd ?_|refine gT ?_|refine gY T 102 ((out++[(⟨5,(⟨#[]⟩:UI),0,ln,(i:Int) - bg+1⟩:Tok)]).map zd6) 48 ?_
  refine gZ 102 [(2,pS (zj9 (out++[(⟨5,(⟨#[]⟩:UI),0,ln,(i:Int) - bg+1⟩:Tok)])))] [] ?_;exact gF
 have hlt:i<(lst s).length:=by have:=uk hh;omega
 clear hh;obtain⟨c,hc⟩:=za hlt;have hK:=vy c.toNat;have w1:IntKind.i64.wrap ((i:Int) - bg)=(i:Int) - bg:=wrap64 ua;have w2:IntKind.i64.wrap ((i:Int) - bg+1)=(i:Int) - bg+1:=wrap64 ua;cases hbl:blB c with
 |true=>
  have hcl:=zna.1 hbl;rw[zjC _ _ hc hbl]at U;rw[hcl]at hK
  repeat' first|refine gG ?_|exact gD|refine gB ?_ ?_<;>intro h|refine gIx (vL hc) ?_|refine gC hK ?_
  ·have h10:c=10:=oo.1 (by have:=uk h;have e:(10:UInt8).toNat=10:=rfl;omega);subst h10;dsimp only;rw[vd ua,vd ua];refine zg (i+1,ln+1,i+1,out) ⟨by simp only;omega,uM _,by simp only;omega,by simp only;omega,?_⟩ id (by simp only;omega) gM;rw[U];simp[mvX]
  ·have h10:c≠10:=λe=>by subst e;exact absurd h ub
   dsimp only;rw[vd ua];refine zg (i+1,ln,bg,out) ⟨by simp only;omega,by simp only;omega,by simp only;omega,by simp only;omega,?_⟩ id (by simp only;omega) gM;rw[U];unfold mvX;rw[ur h10]
   congr 2
   show(i:Int) - bg+1+1=((i+1:Nat):Int) - bg+1;omega
 |false=>
 have hcl:xi c.toNat≠1:=λe=>by rw[zna.2 e]at hbl;cases hbl
 by_cases h35:c=35
 ·subst h35;rw[show xi ((35:UInt8).toNat:Int)=0 from rfl]at hK
  repeat' first|refine gG ?_|exact gD|refine gB ?_ ?_<;>intro h|refine gIx (vL hc) ?_|refine gC hK ?_
  all_goals (try (exfalso;revert h;decide))
  refine zj (λk:Nat=>i+k<=s.size/\(((lst s).drop i).take k).all (λb=>decide (b≠10))=true) (λk=>([(0,Sr s),(3,.one (.bx 1003 0)),(5,.one (.ar 101)),(6,I ln),(7,I bg),(8,I (i+k:Nat))],[(1003,some (Res.box [.p (ki 0),.p (ki 0)])),(101,some (Res.arr 5 (out.map zd6)))])) (λk=>s.size - i - k) hC
   0 ⟨ua,ue⟩ id gM ?_
  rintro k ⟨hk,hall⟩
  have hcom:(∀x,((lst s).drop i)[k]?=some x->x=10)->0<k/\R=lxx ((lst s).drop (i+k)) (ln,((i+k:Nat):Int) - bg+1) out:=λJ=>by
   have htw:=zm9 _ k hall (λx h=>by simpa using J x h);refine⟨?_,?_⟩
   ·rcases qK k with rfl|h
    ·have:=J 35 (by rw[tc];exact hc);cases this
    ·exact h
   ·rw[U,zpF _ _ hc (k:=k) (by rw[htw,u9,tD];omega)];have e:(i:Int) - bg+1+k=((i+k:Nat):Int) - bg+1:=by omega
    show lxx _ ((ln:Int),(i:Int) - bg+1+k) out=_;rw[e]
  refine w9 T hC true 200 rfl ?_;by_cases hj:i+k<s.size
  ·obtain⟨x,J⟩:=za (l:=lst s) (i:=i+k) ua;have hxd:((lst s).drop i)[k]?=some x:=by rw[tc];exact J
   repeat' first|refine gG ?_|(exfalso;have h2:=uo h;omega)|refine gB ?_ ?_<;>intro h|refine gIx (vL J) ?_|refine zd ?_
   ·have hx10:x≠10:=λe=>by subst e;exact absurd h ub
    rw[vd ua];exact zg (k+1) ⟨ua,by rw[xG hxd,hall];simpa using hx10⟩ id ua gM
   ·obtain⟨h0,hL'⟩:=hcom λy hy=>by
     rw[hxd]at hy;obtain rfl:=uU hy;exact oo.1 (by have e2:(10:UInt8).toNat=10:=rfl;simp at h;omega)
    exact zg (i+k,ln,bg,out) ⟨by simp only;omega,by simp only;omega,by simp only;omega,by simp only;omega,hL'⟩ id (by simp only;omega) gM
  ·repeat' first|refine gG ?_|(exfalso;have h2:=uk h;omega)|refine gB ?_ ?_<;>intro h|refine zd ?_
   obtain⟨h0,hL'⟩:=hcom λy hy=>by
    rw[tc,tY ua]at hy;cases hy
   exact zg (i+k,ln,bg,out) ⟨by simp only;omega,by simp only;omega,by simp only;omega,by simp only;omega,hL'⟩ id (by simp only;omega) gM
 have hwd:= @znb c;have h35c: ¬(c.toNat:Int)=35:=λe=>h35 (oo.1 (by have e2:(35:UInt8).toNat=35:=rfl;omega))
 generalize hcv:xi (c.toNat:Int)=cv at hK hcl hwd;cases hw:wB c with
 |true=>
  rw[hw]at hwd;have hcw:2<=cv:=hwd.1 rfl
  repeat' first|refine gG ?_|(exfalso;have h2:=uk h;omega)|(exfalso;have h2:=uo h;omega)|refine gB ?_ ?_<;>intro h|refine gIx (vL hc) ?_|refine gC hK ?_
  dsimp only;rw[w1,w2]
  refine zj (λk:Nat=>i+k<=s.size/\(((lst s).drop i).take k).all wB=true) (λk=>([(0,Sr s),(3,.one (.bx 1003 0)),(5,.one (.ar 101)),(6,I ln),(7,I bg),(8,I i),(9,.one (.bx 1009 0)),(11,I (i+k:Nat))],[(1003,some (Res.box [.p (ki 0),.p (ki 0)])),(1009,some (Res.box [.p (ki ln),.p (ki ((i:Int) - bg+1))])),(101,some (Res.arr 5 (out.map zd6)))])) (λk=>s.size - i - k) hC
   0 ⟨ua,ue⟩ id gM ?_
  rintro k ⟨hk,hall⟩
  have hwe:(∀x,((lst s).drop i)[k]?=some x->wB x=false)->0<k/\((lst s).drop i).takeWhile wB=((lst s).drop i).take k/\(((lst s).drop i).takeWhile wB).length=k:=λJ=>by
   have htw:=zm9 _ k hall J;refine⟨?_,htw,?_⟩
   ·rcases qK k with rfl|h
    ·have:=J c (by rw[tc];exact hc);rw[hw]at this;cases this
    ·exact h
   ·rw[htw,u9,tD];omega
  have hex:s.extract i (i+k)=zaL (((lst s).drop i).take k):=by rw[jV,show i+k - i=k by omega]
  have hlx:lst (s.extract ((i:Nat):Int).toNat ((i+k:Nat):Int).toNat)=((lst s).drop i).take k:=by rw[tj,tj,hex,zm3]
  have hW:=zjB (s.extract ((i:Nat):Int).toNat ((i+k:Nat):Int).toNat) (by rw[<-je,hlx,u9];omega);rw[hlx]at hW;have hol:(out.map zd6).length=out.length:=uj _;by_cases hend: ∃x,(lst s)[i+k]?=some x/\wB x=true
  ·obtain⟨x,J,hwx⟩:=hend;have hxd:((lst s).drop i)[k]?=some x:=by rw[tc];exact J
   have hxl:=(uy.1 J).1;have hKx:=vy x.toNat;have hcx:=znb.1 hwx;refine w9 T hC true 200 rfl ?_
   repeat' first|refine gG ?_|(exfalso;have h2:=uk h;omega)|(exfalso;have h2:=uo h;omega)|refine gB ?_ ?_<;>intro h|refine gIx (vL J) ?_|refine gC hKx ?_
   rw[vd ua];exact zg (k+1) ⟨ua,by rw[xG hxd,hall,hwx];rfl⟩ id ua gM
  ·have hno: ∀x,((lst s).drop i)[k]?=some x->wB x=false:=λx J=>by
    rw[tc]at J;cases hwx:wB x with
    |false=>rfl
    |true=>exact absurd ⟨x,J,hwx⟩ hend
   obtain⟨h0,htw,hlen⟩:=hwe hno
   have hend2:s.size<=i+k\/ ∃x,(lst s)[i+k]?=some x/\ ¬2<=xi (x.toNat:Int):=by
    by_cases hz:s.size<=i+k
    ·exact .inl hz
    ·obtain⟨x,J⟩:=za (l:=lst s) (i:=i+k) ua;refine .inr ⟨x,J,λe=>?_⟩;have:=hno x (by rw[tc];exact J);rw[znb.2 e]at this;cases this
   cases ht:znU (((lst s).drop i).take k)with
   |none=>
    have hW2:=hW.2 ht;have hbad:=zpG ((ln:Int),(i:Int) - bg+1) out hc hbl h35 hw (by rw[htw];exact ht);rw[hbad]at U;subst U;refine w9 T hC true 200 rfl ?_;rcases hend2 with hz|⟨x,J,hcx⟩
    ·repeat' first|refine gG ?_|(exfalso;have h2:=uk h;omega)|(exfalso;have h2:=uo h;omega)|refine gB ?_ ?_<;>intro h|refine zd ?_|refine zdb hC rfl rfl rfl ud (uL _) ua ua rfl rfl ?_|refine gC hW2 ?_|refine zk ?_
     exact zK ⟨.inl rfl,id,_,rfl,LeS.tup (.cons (LeS.one (.nil 5)) (.cons (.refl _) (.cons (.refl _) .nil))),trivial,rfl,rfl⟩
    ·have hKx:=vy x.toNat;have hxl:=(uy.1 J).1
     repeat' first|refine gG ?_|(exfalso;have h2:=uk h;omega)|(exfalso;have h2:=uo h;omega)|refine gB ?_ ?_<;>intro h|refine gIx (vL J) ?_|refine gC hKx ?_|refine zd ?_|refine zdb hC rfl rfl rfl ud (uL _) ua ua rfl rfl ?_|refine gC hW2 ?_|refine zk ?_
     exact zK ⟨.inl rfl,id,_,rfl,LeS.tup (.cons (LeS.one (.nil 5)) (.cons (.refl _) (.cons (.refl _) .nil))),trivial,rfl,rfl⟩
   |some t=>
    have hW1:=hW.1 t ht;have hgo:=znc ((ln:Int),(i:Int) - bg+1) out hc hbl h35 hw (t:=t) (by rw[htw];exact ht);rw[hlen]at hgo;rw[hgo]at U;have e:(i:Int) - bg+1+k=((i+k:Nat):Int) - bg+1:=by omega
    simp only[e]at U;have happ:out.map zd6++[zd6 (jI ((ln:Int),(i:Int) - bg+1) t)]=(out++[jI ((ln:Int),(i:Int) - bg+1) t]).map zd6:=by rw[u5];rfl
    refine w9 T hC true 200 rfl ?_;rcases hend2 with hz|⟨x,J,hcx⟩
    ·repeat' first|refine gG ?_|(exfalso;have h2:=uk h;omega)|(exfalso;have h2:=uo h;omega)|refine gB ?_ ?_<;>intro h|refine zd ?_|refine zdb hC rfl rfl rfl ud (uL _) ua ua rfl rfl ?_|refine gC hW1 ?_|refine gT ?_|refine gY T 102 ((out++[jI ((ln:Int),(i:Int) - bg+1) t]).map zd6) 48 ?_|refine zk ?_
     exact zg (i+k,ln,bg,out++[jI ((ln:Int),(i:Int) - bg+1) t]) ⟨by simp only;omega,by simp only;omega,by simp only;omega,by simp only[uQ,uP];omega,U⟩ (mvU 101 102) (by simp only;omega) ⟨rfl,⟨rfl,rfl,rfl,rfl,rfl,rfl,uh⟩,⟨rfl,rfl,uh⟩,rfl,λi hi=>zhc ua hi⟩
    ·have hKx:=vy x.toNat;have hxl:=(uy.1 J).1
     repeat' first|refine gG ?_|(exfalso;have h2:=uk h;omega)|(exfalso;have h2:=uo h;omega)|refine gB ?_ ?_<;>intro h|refine gIx (vL J) ?_|refine gC hKx ?_|refine zd ?_|refine zdb hC rfl rfl rfl ud (uL _) ua ua rfl rfl ?_|refine gC hW1 ?_|refine gT ?_|refine gY T 102 ((out++[jI ((ln:Int),(i:Int) - bg+1) t]).map zd6) 48 ?_|refine zk ?_
     exact zg (i+k,ln,bg,out++[jI ((ln:Int),(i:Int) - bg+1) t]) ⟨by simp only;omega,by simp only;omega,by simp only;omega,by simp only[uQ,uP];omega,U⟩ (mvU 101 102) (by simp only;omega) ⟨rfl,⟨rfl,rfl,rfl,rfl,rfl,rfl,uh⟩,⟨rfl,rfl,uh⟩,rfl,λi hi=>zhc ua hi⟩
 |false=>
  rw[hw]at hwd;have hcw: ¬2<=cv:=λe=>by have:=hwd.2 e;cases this
  repeat' first|refine gG ?_|(exfalso;have h2:=uk h;omega)|(exfalso;have h2:=uo h;omega)|refine gB ?_ ?_<;>intro h|refine gIx (vL hc) ?_|refine gC hK ?_
  dsimp only;rw[w1,w2];have hsx:lst (s.extract ((i:Nat):Int).toNat s.size)=(lst s).drop i:=by rw[tj,jV,zm3,u0 (by rw[tD];omega)]
  have hS:=zm8 (s.extract ((i:Nat):Int).toNat s.size);rw[hsx]at hS;have hol:(out.map zd6).length=out.length:=uj _;cases hy:zjU ((lst s).drop i)with
  |none=>
   rw[hy]at hS;have hbad:=ztq ((ln:Int),(i:Int) - bg+1) out hc hbl h35 hw hy;rw[hbad]at U;subst U
   repeat' first|refine gG ?_|(exfalso;exact absurd h ub)|refine gB ?_ ?_<;>intro h|refine zhk hC rfl rfl ud (uL _) ua rfl rfl ?_|refine gC hS ?_|refine zk ?_
   exact zK ⟨.inl rfl,id,_,rfl,LeS.tup (.cons (LeS.one (.nil 5)) (.cons (.refl _) (.cons (.refl _) .nil))),trivial,rfl,rfl⟩
  |some y=>
   rw[hy]at hS;have hys:=zm4 hy;have hyz:=zfF y hys.1;have hyl:=jf hys.2;rw[je,tD]at hyl;have hyne:y≠⟨#[]⟩:=λe=>by subst e;exact absurd hyz.1 ub
   have hgo:=zpI ((ln:Int),(i:Int) - bg+1) out hc hbl h35 hw hy;rw[hgo]at U;have e:(i:Int) - bg+1+(y.size:Int)=((i+y.size:Nat):Int) - bg+1:=by omega
   simp only[e]at U;have happ:out.map zd6++[zd6 (jI ((ln:Int),(i:Int) - bg+1) (4,y,0))]=(out++[jI ((ln:Int),(i:Int) - bg+1) (4,y,0)]).map zd6:=by rw[u5];rfl
   repeat' first|refine gG ?_|(exfalso;exact hyne (uk h))|refine gB ?_ ?_<;>intro h|refine zhk hC rfl rfl ud (uL _) ua rfl rfl ?_|refine gC hS ?_|refine gT ?_|refine gY T 102 ((out++[jI ((ln:Int),(i:Int) - bg+1) (4,y,0)]).map zd6) 48 ?_|refine zk ?_
   show Goal _ _ _ _ _ ((8,Kk IntKind.i64 (IntKind.i64.wrap ((i:Int)+(y.size:Int))))::_) _ _;rw[show IntKind.i64.wrap ((i:Int)+(y.size:Int))=((i+y.size:Nat):Int) from by rw[wrap64 ua];omega];exact zg (i+y.size,ln,bg,out++[jI ((ln:Int),(i:Int) - bg+1) (4,y,0)]) ⟨by simp only;omega,by simp only;omega,by simp only;omega,by simp only[uQ,uP];omega,U⟩ (mvU 101 102) (by simp only;omega) ⟨rfl,⟨rfl,rfl,rfl,rfl,rfl,rfl,uh⟩,⟨rfl,rfl,uh⟩,rfl,λi hi=>zhc ua hi⟩
end Hw.Gm.Ps
namespace Hw.Gm
open Go Go.Proofs Go.Shelf Hw.M Ps Tryz
def opsOf:Code->List Oper
 | .region _ ops _=>ops.toList
 | .seq a b=>opsOf a++opsOf b
 |_=>[]
def rowOf(o:Oper):List (Str×Str×Int):=match o.op with
 | .build _ ps=>match ps.toList with
   | [(_,.const (.string n)),(_,.const (.string x)),(_,.const (.int _ k))]=>[(n,x,k)]
   |_=>[]
 |_=>[]
noncomputable def zww:List (Str×Str×Int):=match f61.body with
 |some c=>(opsOf c).flatMap rowOf
 |none=>[]
def zeb(x:Str×Str×Int):List PV:=[ks x.1,ks x.2.1,ki x.2.2]
theorem zvY:zh prog 61 [] [] (pS (.sl 3 (zww.map zeb))) []:=by
 refine gFo func61 λC hC=>?_
 repeat' first|refine gG ?_|refine gB ?_ ?_<;>intro h|refine gT ?_
 exact gF
def noS:Str×Str×Int:=((⟨#[]⟩:UI),(⟨#[]⟩:UI),0)
noncomputable def zrj(s:Str):Option (Str×Str×Int):=zww.find? λx=>decide (x.1=s)
theorem zpJ:zww.length=11:=by kernel_rfl
theorem ziC{α:Type}{p:α->Bool}: ∀ {l:List α} {i:Nat} {x:α},l[i]?=some x->p x=true->(l.take i).any p=false->l.find? p=some x
 | [],i,x,h,_,_=>by simp at h
 |y::ys,0,x,h,hp,_=>by simp at h;subst h;simp[List.find?,hp]
 |y::ys,i+1,x,h,hp,hn=>by
  simp only[tW,qp,uT]at hn;simp only[u6]at h;simp only[List.find?,hn.1];exact ziC h hp hn.2
theorem ziD{α:Type}{p:α->Bool}: ∀ {l:List α},l.any p=false->l.find? p=none
 | [],_=>rfl
 |y::ys,h=>by
  simp only[qp,uT]at h;simp only[List.find?,h.1];exact ziD h.2
theorem znZ(s:Str):zh prog 43 [Sr s] [] (.tup [zn (zeb ((zrj s).getD noS)),I (if(zrj s).isSome then 0 else 9)]) []:=by
 have hA:=zvY;have hL:=zpJ;unfold zrj;generalize zww=L at hA hL;refine gFo func43 λC hC=>?_
 repeat' first|refine gG ?_|refine gB ?_ ?_<;>intro h|refine gC hA ?_
 rw[uj]
 refine zj (λi:Nat=>i<=L.length/\(L.take i).any (λx=>decide (x.1=s))=false) (λi=>([(0,Sr s),(2,.one (.bx 1002 0)),(6,pS (.sl 3 (L.map zeb))),(7,I L.length),(8,I i)],[(1002,some (Res.box ((zeb noS).map V.p)))])) (λi=>L.length - i) hC
  0 ⟨uD _,ue⟩ id gM ?_
 rintro i ⟨hi,J⟩;refine gLc ?_ ?_<;>intro h
 ·have U:i<L.length:=by simpa using h
  clear h;obtain⟨x,hx⟩:=za U
  repeat' first|refine gG ?_|refine gB ?_ ?_<;>intro h|refine gX ?_|refine zk ?_
  ·have e:L.find? (λx=>decide (x.1=s))=some x:=ziC hx uf J;rw[e];exact gF
  ·rw[wrapN ua];refine zg (i+1) ⟨ua,?_⟩ id ua gM;rw[qV,hx,Uo,J];simpa using h
 ·have hge:L.length=i:=by have:=uo h;omega
  rw[<-hge,List.take_length]at J;rw[ziD J];clear h
  repeat' first|refine gG ?_|refine gB ?_ ?_<;>intro h|refine zd ?_
  exact gF
noncomputable def znC:Str:=((zrj (⟨#[108,105,115,116]⟩:UI)).getD noS).2.1
theorem zn0:(zrj (⟨#[108,105,115,116]⟩:UI)).isSome=true:=by kernel_rfl
def awC:List Cl:=[⟨(⟨#[112,117,116]⟩:UI),[1,5]⟩,⟨(⟨#[112,117,116]⟩:UI),[2,6]⟩,⟨(⟨#[103,101,116]⟩:UI),[2]⟩]
end Hw.Gm
