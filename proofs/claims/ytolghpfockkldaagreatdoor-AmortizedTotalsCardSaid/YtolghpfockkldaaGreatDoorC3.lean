import Derived.Test.YtolghpfockkldaaGreatDoorC2
import Derived.Test.YtolghpfockkldaaGreatDoorE3
import Derived.Test.YtolghpfockkldaaGreatDoorC1
import Derived.WalkSmall
import Derived.Recover
set_option linter.unusedVariables false
set_option linter.unusedSimpArgs false
set_option linter.unusedSectionVars false
set_option linter.unnecessarySimpa false
namespace Hw.Gm.Ps
open Go Go.Proofs Hw.M
def stepF{α:Type}(bad:α->Bool)(f:α->Int->Int):List α->Int->Int
 | [],n=>n
 |x::r,n=>if 0<=n then(if bad x then -1 else stepF bad f r (f x n))else n
variable {α:Type}{bad:α->Bool}{f:α->Int->Int}
theorem jq{l:List α}{n:Int}(h:n<0):stepF bad f l n=n:=by
 cases l with
 |nil=>rfl
 |cons e es=>simp only[stepF];rw[uu ua]
theorem xV{α:Type}{bad:α->Bool}{f:α->Int->Int}(hf: ∀x n,0<=n-> -1<=f x n/\f x n<=n): ∀ {l:List α} {n:Int}, -1<=n-> -1<=stepF bad f l n/\stepF bad f l n<=n
 | [],n,h=>by simp only[stepF];omega
 |x::r,n,h=>by
  simp only[stepF];by_cases J:0<=n
  ·rw[uv J];by_cases U:bad x=true
   ·rw[uv U];omega
   ·rw[uu U];have h1:=hf x n J;have h2:=xV (bad:=bad) hf (l:=r) h1.1;omega
  ·rw[uu J];omega
def long(s:Str):Bool:=decide (100<(s.size:Int))
def zk9(t:yn):Bool:=long t.n||ze3 t.f
def zrm(p:Pr):Bool:=long p.n||long p.res||ze3 p.params||ze3 p.locs
def zrn(m:Ms):Bool:=long m.n||long m.t
def zro(m:Iv):Bool:=long m.n||long m.t
def zrp(m:Pt):Bool:=long m.t
def zrq(m:Bd):Bool:=long m.p
def pF(p:Pr)(n:Int):Int:=laS p.body 65 n
def mF(m:Ms)(n:Int):Int:=leftS m.x 65 n
def iF(m:Iv)(n:Int):Int:=leftS m.x 65 n
def oF(m:Pt)(n:Int):Int:=leftS m.x 65 n
def bF(m:Bd)(n:Int):Int:=leftS m.x 65 n
theorem zwa(x:Pr)(n:Int)(h:0<=n): -1<=pF x n/\pF x n<=n:=zkJ h
theorem zwb(x:Ms)(n:Int)(h:0<=n): -1<=mF x n/\mF x n<=n:=xp _ _ _ ua
theorem zwc(x:Iv)(n:Int)(h:0<=n): -1<=iF x n/\iF x n<=n:=xp _ _ _ ua
theorem zwd(x:Pt)(n:Int)(h:0<=n): -1<=oF x n/\oF x n<=n:=xp _ _ _ ua
theorem zwe(x:Bd)(n:Int)(h:0<=n): -1<=bF x n/\bF x n<=n:=xp _ _ _ ua
def st1(d:zj)(n:Int):Int:=stepF zrm pF d.procs n
def st2(d:zj)(n:Int):Int:=stepF zrn mF d.measures (st1 d n)
def st3(d:zj)(n:Int):Int:=stepF zro iF d.invs (st2 d n)
def st4(d:zj)(n:Int):Int:=stepF zrp oF d.pots (st3 d n)
def st5(d:zj)(n:Int):Int:=stepF zrq bF d.bounds (st4 d n)
def zdR(d:zj):Bool:=long d.n||decide (60<(d.types.length:Int))||decide (60<(d.procs.length:Int))||decide (60<(d.measures.length:Int))||decide (60<(d.invs.length:Int))||
 decide (60<(d.pots.length:Int))||decide (60<(d.bounds.length:Int))||ze3 d.globals
def zow(d:zj)(n:Int):Bool:=zdR d|| !(d.types.all λt=> !zk9 t)||decide (st5 d n<0)
theorem zla(d:zj)(n:Int)(hn1:0<=n)(hn2:n<=1000000):zh Tryz.prog 47 [zF (zJ d),I n] [] (.bq (zow d n)) []:=by
 refine gO T Tryz.func47 λC hC=>?_
 repeat' first|refine gG ?_|refine gB ?_ ?_<;>intro h|refine gC (zgw _) ?_|refine gL ?_
 all_goals (try simp only[uk]at*)
 rotate_right
 ·rename_i h1 h2 h3 h4 h5 h6 h7;have hpre:zdR d=false:=by simp_all[zdR,long]
  have hv:zow d n=(!(d.types.all λt=> !zk9 t)||decide (st5 d n<0)):=by simp only[zow,hpre,tO]
  rw[hv];have l1: ¬60<(d.types.length:Int):=um uf;have l2: ¬60<(d.procs.length:Int):=um uf;have l3: ¬60<(d.measures.length:Int):=um uf;have l4: ¬60<(d.invs.length:Int):=um uf;have l5: ¬60<(d.pots.length:Int):=um uf;have l6: ¬60<(d.bounds.length:Int):=um uf;clear h h1 h2 h3 h4 h5 h6 h7 hpre hv
  repeat' first|refine gG ?_|refine gB ?_ ?_<;>intro h
  refine zn (λi:Nat=>i<=(d.types).length/\((d.types).take i).all (λt=> !zk9 t)=true) (λi=>([(1,I n),(2,.one (.bx 1002 0)),(5,I i)],[(1002,some (.box ((zJ d).map V.p)))])) (λi=>(d.types).length - i) hC
   0 ⟨uz _,ue⟩ id gM ?_
  rintro i ⟨hi,hn⟩;refine zq T hC true 200 rfl ?_;refine zt rfl ?_ ?_<;>intro h
  ·have hlt:i<(d.types).length:=by first|simpa using h|(have h':=uj h;simp only[uk,th]at h' ⊢; omega)
   clear h;obtain⟨x,hx⟩:=zd hlt
   repeat' first|refine gG ?_|refine gB ?_ ?_<;>intro h|refine gX ?_|refine gC (zgw _) ?_|refine zo ?_|refine gL ?_
   all_goals first
    |(have hp:(λt=> !zk9 t) x=true:=by clear hn hx hlt hi;simp_all[zk9,long, -List.all_eq_true, -List.all_eq_false]<;>omega
      have hlt':=hlt
      try simp only[th,qC]at hlt'
      rw[wrap64 ua];refine zg (i+1) ⟨ua,?_⟩ id ua gM
      rw[x7 (p:=λt=> !zk9 t) hx,hn,tA];exact hp)
    |(have hp:(λt=> !zk9 t) x=false:=by clear hn hx hlt hi;simp_all[zk9,long, -List.all_eq_true, -List.all_eq_false]<;>omega
      have hno:=zau (p:=λt=> !zk9 t) hx hp
      rw[hno];rfl)
  have hge: ¬i<(d.types).length:=by first|simpa using h|(have h':=um h;simp only[uk,th]at h' ⊢; omega)
  have hall:(d.types).all (λt=> !zk9 t)=true:=jm (p:=λt=> !zk9 t) ua hn;clear h hge hn hi;rw[hall,qp,tO]
  repeat' first|refine gG ?_|refine gB ?_ ?_<;>intro h|refine ze ?_
  have c1: -1<=st1 d n/\st1 d n<=n:=xV zwa ua;have c2: -1<=st2 d n/\st2 d n<=st1 d n:=xV zwb ua;have c3: -1<=st3 d n/\st3 d n<=st2 d n:=xV zwc ua;have c4: -1<=st4 d n/\st4 d n<=st3 d n:=xV zwd ua;have c5: -1<=st5 d n/\st5 d n<=st4 d n:=xV zwe ua;have e1:stepF zrm pF d.procs n=st1 d n:=rfl;have e2:stepF zrn mF d.measures (st1 d n)=st2 d n:=rfl;have e3:stepF zro iF d.invs (st2 d n)=st3 d n:=rfl;have e4:stepF zrp oF d.pots (st3 d n)=st4 d n:=rfl;have e5:stepF zrq bF d.bounds (st4 d n)=st5 d n:=rfl;generalize st1 d n=A1 at*;generalize st2 d n=A2 at*;generalize st3 d n=A3 at*;generalize st4 d n=A4 at*;generalize st5 d n=A5 at*;clear hall;refine zab [(1,I A1),(2,.one (.bx 1002 0))] [(1002,some (.box ((zJ d).map V.p)))] hC ?_ ?_
  ·refine zn (λp:Nat×Int=>p.1<=(d.procs).length/\ -1<=p.2/\p.2<=1000000/\stepF zrm pF ((d.procs).drop p.1) p.2=A1) (λp=>([(1,I p.2),(2,.one (.bx 1002 0)),(6,I p.1)],[(1002,some (.box ((zJ d).map V.p)))])) (λp=>(d.procs).length - p.1) hC
    (0,n) ⟨uz _,by simp only;omega,by simp only;omega,e1⟩ id gM ?_
   rintro⟨k,q⟩ ⟨hk,hq1,hq2,J⟩;simp only at hk hq1 hq2 J;refine zq T hC true 1 rfl ?_
   repeat' first|refine gG ?_|refine gB ?_ ?_<;>intro h|refine ze ?_
   ·rename_i hlt0;have hlt2:k<(d.procs).length:=by simpa using hlt0
    have hq0:0<=q:=uj h;clear hlt0 h;obtain⟨x,hx⟩:=zd hlt2;rw[drop_at hx]at J;simp only[stepF,uv hq0]at J;have hb:=zwa x q hq0
    repeat' first|refine gG ?_|refine gB ?_ ?_<;>intro h|refine gX ?_|refine gC (zgw _) ?_|refine vZ hC (zi8 (sizeOf x.body+1) x.body 65 q ua ua ua hq0 hq2) rfl rfl (zH.refl _) rfl rfl rfl ?_|refine zcb ?_|refine gL ?_|refine zo ?_
    all_goals first
     |(have U:zrm x=true:=by clear J;simp_all[zrm,long]
       rw[uv U]at J
       exact(uT ua).symm)
     |(have U:zrm x=false:=by clear J;simp_all[zrm,long]
       rw[U]at J;simp only[uy,uL]at J;simp only;rw[y7 ua]
       exact zg (k+1,pF x q) ⟨by simp only;omega,by simp only;omega,by simp only;omega,J⟩ id (by simp only;omega) gM)
   ·have hqa:q=A1:=by rw[jq (qS.1 (um h))]at J;exact J
    subst hqa;exact xh id gM
   ·have hge: ¬k<(d.procs).length:=by simpa using h
    have hqa:q=A1:=by rw[uA ua]at J;exact J
    subst hqa;exact xh id gM
  repeat' first|refine gG ?_|refine gB ?_ ?_<;>intro h
  refine zab [(1,I A2),(2,.one (.bx 1002 0))] [(1002,some (.box ((zJ d).map V.p)))] hC ?_ ?_
  ·refine zn (λp:Nat×Int=>p.1<=(d.measures).length/\ -1<=p.2/\p.2<=1000000/\stepF zrn mF ((d.measures).drop p.1) p.2=A2) (λp=>([(1,I p.2),(2,.one (.bx 1002 0)),(8,I p.1)],[(1002,some (.box ((zJ d).map V.p)))])) (λp=>(d.measures).length - p.1) hC
    (0,A1) ⟨uz _,by simp only;omega,by simp only;omega,e2⟩ id gM ?_
   rintro⟨k,q⟩ ⟨hk,hq1,hq2,J⟩;simp only at hk hq1 hq2 J;refine zq T hC true 1 rfl ?_
   repeat' first|refine gG ?_|refine gB ?_ ?_<;>intro h|refine ze ?_
   ·rename_i hlt0;have hlt2:k<(d.measures).length:=by simpa using hlt0
    have hq0:0<=q:=uj h;clear hlt0 h;obtain⟨x,hx⟩:=zd hlt2;rw[drop_at hx]at J;simp only[stepF,uv hq0]at J;have hb:=zwb x q hq0
    repeat' first|refine gG ?_|refine gB ?_ ?_<;>intro h|refine gX ?_|refine vZ hC (zaw x.x 65 q ua ua hq1 hq2) rfl rfl (zH.refl _) rfl rfl rfl ?_|refine zcb ?_|refine gL ?_|refine zo ?_
    all_goals first
     |(have U:zrn x=true:=by clear J;simp_all[zrn,long]
       rw[uv U]at J
       exact(uT ua).symm)
     |(have U:zrn x=false:=by clear J;simp_all[zrn,long]
       rw[U]at J;simp only[uy,uL]at J;simp only;rw[y7 ua]
       exact zg (k+1,mF x q) ⟨by simp only;omega,by simp only;omega,by simp only;omega,J⟩ id (by simp only;omega) gM)
   ·have hqa:q=A2:=by rw[jq (qS.1 (um h))]at J;exact J
    subst hqa;exact xh id gM
   ·have hge: ¬k<(d.measures).length:=by simpa using h
    have hqa:q=A2:=by rw[uA ua]at J;exact J
    subst hqa;exact xh id gM
  repeat' first|refine gG ?_|refine gB ?_ ?_<;>intro h
  refine zab [(1,I A3),(2,.one (.bx 1002 0))] [(1002,some (.box ((zJ d).map V.p)))] hC ?_ ?_
  ·refine zn (λp:Nat×Int=>p.1<=(d.invs).length/\ -1<=p.2/\p.2<=1000000/\stepF zro iF ((d.invs).drop p.1) p.2=A3) (λp=>([(1,I p.2),(2,.one (.bx 1002 0)),(9,I p.1)],[(1002,some (.box ((zJ d).map V.p)))])) (λp=>(d.invs).length - p.1) hC
    (0,A2) ⟨uz _,by simp only;omega,by simp only;omega,e3⟩ id gM ?_
   rintro⟨k,q⟩ ⟨hk,hq1,hq2,J⟩;simp only at hk hq1 hq2 J;refine zq T hC true 1 rfl ?_
   repeat' first|refine gG ?_|refine gB ?_ ?_<;>intro h|refine ze ?_
   ·rename_i hlt0;have hlt2:k<(d.invs).length:=by simpa using hlt0
    have hq0:0<=q:=uj h;clear hlt0 h;obtain⟨x,hx⟩:=zd hlt2;rw[drop_at hx]at J;simp only[stepF,uv hq0]at J;have hb:=zwc x q hq0
    repeat' first|refine gG ?_|refine gB ?_ ?_<;>intro h|refine gX ?_|refine vZ hC (zaw x.x 65 q ua ua hq1 hq2) rfl rfl (zH.refl _) rfl rfl rfl ?_|refine zcb ?_|refine gL ?_|refine zo ?_
    all_goals first
     |(have U:zro x=true:=by clear J;simp_all[zro,long]
       rw[uv U]at J
       exact(uT ua).symm)
     |(have U:zro x=false:=by clear J;simp_all[zro,long]
       rw[U]at J;simp only[uy,uL]at J;simp only;rw[y7 ua]
       exact zg (k+1,iF x q) ⟨by simp only;omega,by simp only;omega,by simp only;omega,J⟩ id (by simp only;omega) gM)
   ·have hqa:q=A3:=by rw[jq (qS.1 (um h))]at J;exact J
    subst hqa;exact xh id gM
   ·have hge: ¬k<(d.invs).length:=by simpa using h
    have hqa:q=A3:=by rw[uA ua]at J;exact J
    subst hqa;exact xh id gM
  repeat' first|refine gG ?_|refine gB ?_ ?_<;>intro h
  refine zab [(1,I A4),(2,.one (.bx 1002 0))] [(1002,some (.box ((zJ d).map V.p)))] hC ?_ ?_
  ·refine zn (λp:Nat×Int=>p.1<=(d.pots).length/\ -1<=p.2/\p.2<=1000000/\stepF zrp oF ((d.pots).drop p.1) p.2=A4) (λp=>([(1,I p.2),(2,.one (.bx 1002 0)),(10,I p.1)],[(1002,some (.box ((zJ d).map V.p)))])) (λp=>(d.pots).length - p.1) hC
    (0,A3) ⟨uz _,by simp only;omega,by simp only;omega,e4⟩ id gM ?_
   rintro⟨k,q⟩ ⟨hk,hq1,hq2,J⟩;simp only at hk hq1 hq2 J;refine zq T hC true 1 rfl ?_
   repeat' first|refine gG ?_|refine gB ?_ ?_<;>intro h|refine ze ?_
   ·rename_i hlt0;have hlt2:k<(d.pots).length:=by simpa using hlt0
    have hq0:0<=q:=uj h;clear hlt0 h;obtain⟨x,hx⟩:=zd hlt2;rw[drop_at hx]at J;simp only[stepF,uv hq0]at J;have hb:=zwd x q hq0
    repeat' first|refine gG ?_|refine gB ?_ ?_<;>intro h|refine gX ?_|refine vZ hC (zaw x.x 65 q ua ua hq1 hq2) rfl rfl (zH.refl _) rfl rfl rfl ?_|refine zcb ?_|refine gL ?_|refine zo ?_
    all_goals first
     |(have U:zrp x=true:=by clear J;simp_all[zrp,long]
       rw[uv U]at J
       exact(uT ua).symm)
     |(have U:zrp x=false:=by clear J;simp_all[zrp,long]
       rw[U]at J;simp only[uy,uL]at J;simp only;rw[y7 ua]
       exact zg (k+1,oF x q) ⟨by simp only;omega,by simp only;omega,by simp only;omega,J⟩ id (by simp only;omega) gM)
   ·have hqa:q=A4:=by rw[jq (qS.1 (um h))]at J;exact J
    subst hqa;exact xh id gM
   ·have hge: ¬k<(d.pots).length:=by simpa using h
    have hqa:q=A4:=by rw[uA ua]at J;exact J
    subst hqa;exact xh id gM
  repeat' first|refine gG ?_|refine gB ?_ ?_<;>intro h
  refine zab [(1,I A5),(2,.one (.bx 1002 0))] [(1002,some (.box ((zJ d).map V.p)))] hC ?_ ?_
  ·refine zn (λp:Nat×Int=>p.1<=(d.bounds).length/\ -1<=p.2/\p.2<=1000000/\stepF zrq bF ((d.bounds).drop p.1) p.2=A5) (λp=>([(1,I p.2),(2,.one (.bx 1002 0)),(11,I p.1)],[(1002,some (.box ((zJ d).map V.p)))])) (λp=>(d.bounds).length - p.1) hC
    (0,A4) ⟨uz _,by simp only;omega,by simp only;omega,e5⟩ id gM ?_
   rintro⟨k,q⟩ ⟨hk,hq1,hq2,J⟩;simp only at hk hq1 hq2 J;refine zq T hC true 1 rfl ?_
   repeat' first|refine gG ?_|refine gB ?_ ?_<;>intro h|refine ze ?_
   ·rename_i hlt0;have hlt2:k<(d.bounds).length:=by simpa using hlt0
    have hq0:0<=q:=uj h;clear hlt0 h;obtain⟨x,hx⟩:=zd hlt2;rw[drop_at hx]at J;simp only[stepF,uv hq0]at J;have hb:=zwe x q hq0
    repeat' first|refine gG ?_|refine gB ?_ ?_<;>intro h|refine gX ?_|refine vZ hC (zaw x.x 65 q ua ua hq1 hq2) rfl rfl (zH.refl _) rfl rfl rfl ?_|refine zcb ?_|refine gL ?_|refine zo ?_
    all_goals first
     |(have U:zrq x=true:=by clear J;simp_all[zrq,long]
       rw[uv U]at J
       exact(uT ua).symm)
     |(have U:zrq x=false:=by clear J;simp_all[zrq,long]
       rw[U]at J;simp only[uy,uL]at J;simp only;rw[y7 ua]
       exact zg (k+1,bF x q) ⟨by simp only;omega,by simp only;omega,by simp only;omega,J⟩ id (by simp only;omega) gM)
   ·have hqa:q=A5:=by rw[jq (qS.1 (um h))]at J;exact J
    subst hqa;exact xh id gM
   ·have hge: ¬k<(d.bounds).length:=by simpa using h
    have hqa:q=A5:=by rw[uA ua]at J;exact J
    subst hqa;exact xh id gM
  repeat' first|refine gG ?_|refine gB ?_ ?_<;>intro h
  refine zhI T (.inl rfl) rfl ?_;rfl
 all_goals (simp_all[zow,zdR,long])
variable {i:Nat}
theorem zlb{l:List α}{x:α×Nat}(h:l.zipIdx[i]?=some x):l[i]?=some x.1/\x.2=i:=by
 rw[Ux]at h;cases e:l[i]? with
 |none=>rw[e]at h;cases h
 |some y=>rw[e]at h;simp at h;subst h;exact⟨rfl,rfl⟩
theorem zqh{β:Type}{l:List α}{r:List β}{x:α×β}(h:(l.zip r)[i]?=some x):l[i]?=some x.1/\r[i]?=some x.2:=by
 rw[qa]at h;exact h
def zvv(d:zj)(x:yn×Nat):Bool:=decide (vt d x.1.n=(x.2:Int))&&x.1.f.all (known d)
def yT(d:zj):Bool:=yx d&&d.globals.all (known d)&&d.types.zipIdx.all (zvv d)
def xD(d:zj)(x:Nd):Bool:= !decide (x.t<0)&& !decide ((d.types.length:Int)<=x.t)&&decide ((d.types[x.t.toNat]?).map (λt=>t.f.length)=some x.f.length)
def zbe(d:zj)(m:Hp)(p:Fld×Int):Bool:=zhW d m p.1.t p.2
def vx(d:zj)(m:Hp)(x:Nd):Bool:=((((d.types[x.t.toNat]?).map (λt=>t.f)).getD []).zip x.f).all (zbe d m)
def yD(d:zj)(m:Hp):Bool:=yT d&&decide ((m.g.length:Int)=(d.globals.length:Int))&& !decide (4096<(m.n.length:Int))&&m.n.all (xD d)&&(d.globals.zip m.g).all (zbe d m)&&m.n.all (vx d m)
variable {d:zj}
theorem jr{x:Nd}(h:xD d x=true):0<=x.t/\ ∃ty,d.types[x.t.toNat]?=some ty/\ty.f.length=x.f.length:=by
 simp only[xD,uo,ux,ur,uq,uM]at h;obtain⟨⟨h1,_⟩,ty,h3,h4⟩:=h;exact⟨ua,ty,h3,h4⟩
theorem zh3{x:yn}(U:d.types[i]?=some x):(d.types.take i).any (λt=>decide (t.n=x.n))=false↔vt d x.n=(i:Int):=by
 constructor
 ·exact λh=>zh4 U (uT rfl) h
 ·intro h;rcases wK (p:=λt:yn=>decide (t.n=x.n)) (l:=d.types)with J|⟨j,y,J,_,_,h4⟩
  ·simp only[vt]at h;rw[J]at h;omega
  ·simp only[vt]at h;rw[J]at h;obtain rfl:j=i:=by omega
   exact h4
def zfj(d:zj):Bool:=d.types.zipIdx.all λx=>decide (vt d x.1.n=(x.2:Int))
theorem zgI(p q:α->Bool)(l:List α):(l.all λx=>p x&&q x)=(l.all p&&l.all q):=by
 induction l with
 |nil=>rfl
 |cons a l ih=>
  simp only[tX,ih];cases p a<;>cases q a<;>cases l.all p<;>cases l.all q<;>rfl
theorem zc7{α:Type}(p:α->Bool): ∀(l:List α) (k:Nat),((l.zipIdx k).all λx=>p x.1)=l.all p
 | [],_=>rfl
 |a::l,k=>by simp only[List.zipIdx_cons,tX,zc7 p l (k+1)]
theorem zcc(d:zj):yT d=(yx d&&zfj d&&d.globals.all (known d)&&d.types.all λt=>t.f.all (known d)):=by
 have:d.types.zipIdx.all (zvv d)=(zfj d&&d.types.all λt=>t.f.all (known d)):=by
  have e:zvv d=λx:yn×Nat=>decide (vt d x.1.n=(x.2:Int))&&x.1.f.all (known d):=rfl
  rw[e,zgI,zc7 (λt:yn=>t.f.all (known d))];rfl
 rw[yT,this];cases yx d<;>cases zfj d<;>cases d.globals.all (known d)<;>cases(d.types.all λt=>t.f.all (known d))<;>rfl
theorem zox{x:yn}(J:d.types[i]?=some x)(h:(d.types.take i).any (λt=>decide (t.n=x.n))=true):zfj d=false:=by
 have: ¬vt d x.n=(i:Int):=λe=>by rw[(zh3 J).2 e]at h;cases h
 refine zau (l:=d.types.zipIdx) (i:=i) (x:=(x,i)) ?_ (uJ this);rw[Ux,J];simp
theorem zlc(h: ∀i x,d.types[i]?=some x->(d.types.take i).any (λt=>decide (t.n=x.n))=false):zfj d=true:=by
 rw[zfj,List.all_eq_true];rintro⟨x,i⟩ U;obtain⟨j,hj⟩:=qd.1 U;obtain⟨J,h2⟩:=zlb hj;simp only at J h2;subst h2;exact uT ((zh3 J).1 (h _ _ J))
theorem jR(s:Str)(l:List yn)(k:Nat):(getK (entsF k l) s).isSome=l.any λt=>decide (t.n=s):=by
 rw[zaV];have:=zca (λt:yn=>decide (t.n=s)) l;by_cases h:idxOf (λt:yn=>decide (t.n=s)) l<0
 ·rw[uv h];rw[uT h]at this;cases e:(l.any λt=>decide (t.n=s))with
  |false=>rfl
  |true=>rw[e]at this;cases this
 ·rw[uu h];rw[uJ h]at this;cases e:(l.any λt=>decide (t.n=s))with
  |true=>rfl
  |false=>rw[e]at this;cases this
theorem isSome_none{o:Option α}(h:o.isSome=false):o=none:=by cases o with|none=>rfl|some _=>cases h
def zcN(d:zj):S:=if yT d=true then .one (.mp 0)else .one (.p (.k (.map none)))
def znL(d:zj):RL:=if yT d=true then [(0,.map (yU zW (tm d)))]else []
theorem zc8(d:zj):zh Tryz.prog 45 [zF (zJ d)] [] (zcN d) (znL d):=by
 have no:yT d=false->zcN d= .one (.p (.k (.map none)))/\znL d=[]:=λh=>by simp[zcN,znL,h]
 have yes:yT d=true->zcN d= .one (.mp 0)/\znL d=[(0,.map (yU zW (tm d)))]:=λh=>by simp[zcN,znL,h]
 have J:=zcc d;have hB:=zk8 73 d d.types (λy _=> !y.f.all (known d)) (λ_ s=>s) (λ_=>True) (λy _ _ _=>⟨zov d y,λ_=>trivial⟩) () trivial;rw[zb5,vK]at hB;refine gO T Tryz.func45 λC hC=>?_;refine jn rfl 0 1 rfl rfl λhlen=>?_;rw[uk]at hlen
 have fail: ∀ {n sl tab},yT d=false->sg sl 2=some (.one (.p (.k (.map none))))->Goal Tryz.prog C (.fin .ret) [] n sl tab (zeL T [.tmp 2] [] (zcN d) (znL d)):=λh h2=>by
  obtain⟨e1,e2⟩:=no h;rw[e1,e2];exact zi ⟨.inl rfl,id,[.one (.p (.k (.map none)))],by simp only[rvsOf,rvOf,h2],.refl _,trivial,rfl,rfl⟩
 repeat' first|refine gG ?_|refine gB ?_ ?_<;>intro h|refine gC (wV d) ?_|refine zfk zW hC rfl rfl rfl ?_
 ·have hv:yx d=false:=by simpa using h
  refine fail (by rw[J,hv];rfl) rfl
 ·have hv:yx d=true:=by simpa using h
  clear h;rw[hv,tA]at J;rw[uk]
  refine zn (λi:Nat=>i<=d.types.length/\ ∀j x,j<i->d.types[j]?=some x->(d.types.take j).any (λt=>decide (t.n=x.n))=false) (λi=>([(1,.one (.bx 1001 0)),(3,.one (.bx 1003 0)),(14,.one (.p (.sl 2 (d.types.map zS)))),(15,I d.types.length),(16,I i)],[(1001,some (.box ((zJ d).map V.p))),(1003,some (.box [.mp 1012])),(1012,some (.map (yU zW (entsF 0 (d.types.take i)))))])) (λi=>d.types.length - i) hC
   0 ⟨uz _,λj x hj=>by omega⟩ id gM ?_
  rintro i ⟨hi,hn⟩;refine zq T hC true 200 rfl ?_;refine zt rfl ?_ ?_<;>intro h
  ·have hlt:i<d.types.length:=by simpa using h
   clear h;obtain⟨x,hx⟩:=zd hlt;have U:(d.types.take i).length=i:=by rw[td];omega
   repeat' first|refine gG ?_|refine gB ?_ ?_<;>intro h|refine gX ?_|refine zfi zW hC (kt:=9) (et:=3) (c0:= .int .i64 0) rfl rfl rfl ud ud ud rfl rfl (jR x.n _ _) rfl rfl ?_|refine zo ?_
   ·exact fail (by rw[J,zox hx h];rfl) rfl
   ·have hnone:getK (entsF 0 (d.types.take i)) x.n=none:=isSome_none (by rw[jR];exact h);refine zh5 zW hC (kt:=9) (et:=3) (l':=entsF 0 (d.types.take (i+1))) rfl rfl rfl rfl ud ud ?_ rfl ?_
    ·rw[zdS hnone,yd hx,zc6,U];simp
    ·repeat' first|refine gG ?_|refine gB ?_ ?_<;>intro h
     rw[y7 ua];refine zg (i+1) ⟨ua,λj y hj hy=>?_⟩ id ua gM;by_cases hji:j<i
     ·exact hn j y hji hy
     ·obtain rfl:j=i:=by omega
      rw[hx]at hy;simp only[ui]at hy;subst hy;exact h
  ·have hge: ¬i<d.types.length:=by simpa using h
   have hnd:zfj d=true:=zlc λj x hx=>hn j x (by have:=(uw.1 hx).1;omega) hx
   rw[hnd,tA]at J;rw[u5 ua];have htm:entsF 0 d.types=tm d:=rfl;rw[htm];clear h
   repeat' first|refine gG ?_|refine gB ?_ ?_<;>intro h|refine ze ?_|refine gR (zh2 d d.globals) (nm [1012,1003]) ?_|refine gR hB (nm [1012,1003,1008]) ?_
   ·exact fail (by rw[J];simp_all[-List.all_eq_true, -List.all_eq_false]) rfl
   ·exact fail (by rw[J];simp_all[-List.all_eq_true, -List.all_eq_false]) rfl
   ·obtain⟨e1,e2⟩:=yes (by rw[J];simp_all[-List.all_eq_true, -List.all_eq_false]);rw[e1,e2];exact gW [1012]
abbrev zti(d:zj):RL:=[(0,.map (yU zW (tm d)))]
def zc9(d:zj)(m:Hp)(t:Str)(v:Int):Bool:=
 if t=(⟨#[105,110,116]⟩:UH)then decide (-1099511627776<=v)&&decide (v<=1099511627776)
 else if t=(⟨#[98,111,111,108]⟩:UH)then decide (v=0)||decide (v=1)
 else decide (v=0)||(decide (0<v)&&decide (v<=m.n.length)&&decide ((m.n[(v - 1).toNat]?).map (·.t)=some (tyD d t)))
variable {m:Hp}
theorem vAt{v:Int}(hl:m.n.length<=9223372036854775807)(J:decide (0<v)=true)(h2:decide (v<=((m.n.map vy).length:Int))=true):IntKind.i64.wrap (v - 1)=v - 1/\0<=v - 1/\ ∃x,m.n[(v - 1).toNat]?=some x:=by
 have e1:=uj J;have U:=uj h2;rw[uk]at U;exact⟨wrap64 ua,ua,zd ua⟩
theorem zji(d:zj)(m:Hp)(t:Str)(v:Int):zh Tryz.prog 117 [.one (.mp 0),zF (xP m),Sr t,I v] (zti d) (.bq (zc9 d m t v)) (zti d):=by
 refine gO T Tryz.func117 λC hC=>?_;refine jn rfl 1 1 rfl rfl λJ=>?_;rw[uk]at J
 repeat' first|refine znJ T hC true 400 rfl rfl ?_|refine zdQ rfl (λh=>?_) (λh=>?_)|refine zkj T hC ud ?_|refine zao (λh=>?_) (λh=>?_)|refine zap rfl rfl rfl (λh=>?_) (λh=>?_)|refine zaq rfl rfl (λh=>?_) (λh=>?_)|refine zfl zW hC (kt:=9) (et:=3) (c0:= .int .i64 0) rfl rfl rfl ud ud ud rfl (zk5 d t) rfl rfl ?_|(obtain⟨hw,U,x,hx⟩:=vAt (m:=m) (v:=v) J uf uf;rw[hw];refine xz T hC rfl rfl rfl U (yZ hx) rfl rfl ?_)
 all_goals (try simp only[uk]at*)
 all_goals first
  |exact zi ⟨.inl rfl,id,_,rfl,.qb (by simp_all[zc9]<;>(intros;omega)),⟨rfl,uh⟩,rfl,rfl⟩
  |exact zi ⟨.inl rfl,id,_,rfl,.qq (by simp_all[zc9]<;>(intros;omega)),⟨rfl,uh⟩,rfl,rfl⟩
def zcd(d:zj)(m:Hp)(p:Fld×Int):Bool:=zc9 d m p.1.t p.2
def zcO(d:zj)(m:Hp)(l:List Fld)(v:List Int):Bool:=decide ((l.length:Int)=(v.length:Int))&&(l.zip v).all (zcd d m)
theorem zfm(d:zj)(m:Hp)(l:List Fld)(v:List Int):zh Tryz.prog 76 [.one (.mp 0),zF (xP m),pS (zx l),pS (xw v)] (zti d) (.bq (zcO d m l v)) (zti d):=by
 refine gO T Tryz.func76 λC hC=>?_;refine wJ 2 rfl λU=>?_;rw[uk]at U
 repeat' first|refine gG ?_|refine gB ?_ ?_<;>intro h
 all_goals (try simp only[uk]at*)
 ·have:zcO d m l v=false:=by simp only[zcO];rw[qO];left;simpa using h
  rw[this];exact zi ⟨.inl rfl,id,_,rfl,.qb rfl,⟨rfl,uh⟩,rfl,rfl⟩
 ·have hlv:(l.length:Int)=(v.length:Int):=by simpa using h
  have hv:zcO d m l v=(l.zip v).all (zcd d m):=by simp only[zcO,uT hlv,tA]
  rw[hv];clear h hv
  refine zn (λi:Nat=>i<=(l.zip v).length/\((l.zip v).take i).all (zcd d m)=true) (λi=>([(0,.one (.mp 0)),(3,pS (xw v)),(5,.one (.bx 1005 0)),(16,pS (zx l)),(17,I l.length),(18,I i)],[(0,some (.map (yU zW (tm d)))),(1005,some (.box ((xP m).map V.p)))])) (λi=>(l.zip v).length - i) hC
   0 ⟨uz _,ue⟩ id gM ?_
  rintro i ⟨hi,hn⟩;refine zq T hC true 200 rfl ?_;refine zt rfl ?_ ?_<;>intro h
  ·have J:i<(l.zip v).length:=by first|simpa using h|(have h':=uj h;simp only[uk,th]at h' ⊢; omega)
   clear h;obtain⟨x,hx⟩:=zd J;obtain⟨hx1,hx2⟩:=zqh hx
   repeat' first|refine gG ?_|refine gB ?_ ?_<;>intro h|refine gX ?_|refine gR (zji d m _ _) (nm [0]) ?_|refine zo ?_
   all_goals first
    |(have hp:(zcd d m) x=true:=by clear hn hx J hi;simp_all[zcd, -List.all_eq_true, -List.all_eq_false]<;>omega
      have hlt':=J
      try simp only[th,qC]at hlt'
      rw[wrap64 ua];refine zg (i+1) ⟨ua,?_⟩ id ua gM
      rw[x7 (p:=zcd d m) hx,hn,tA];exact hp)
    |(have hp:(zcd d m) x=false:=by clear hn hx J hi;simp_all[zcd, -List.all_eq_true, -List.all_eq_false]<;>omega
      have hno:=zau (p:=zcd d m) hx hp
      (rw[hno];exact zi ⟨.inl rfl,id,_,rfl,.qb rfl,⟨rfl,uh⟩,rfl,rfl⟩))
  have hge: ¬i<(l.zip v).length:=by first|simpa using h|(have h':=um h;simp only[uk,th]at h' ⊢; omega)
  have hall:(l.zip v).all (zcd d m)=true:=jm (p:=zcd d m) ua hn;clear h hge hn hi;rw[hall]
  repeat' first|refine gG ?_|refine gB ?_ ?_<;>intro h|refine ze ?_
  exact zi ⟨.inl rfl,id,_,rfl,.qb rfl,⟨rfl,uh⟩,rfl,rfl⟩
def zay(d:zj)(x:Nd):Bool:=decide (x.t<0)||decide ((d.types.length:Int)<=x.t)
theorem zgJ(d:zj)(x:Nd):zh Tryz.prog 75 [zF (vy x),.one (.bx 0 0)] [(0,.box ((zJ d).map V.p))] (.bq (zay d x)) [(0,.box ((zJ d).map V.p))]:=by
 refine gO T Tryz.func75 λC hC=>?_
 repeat' first|refine gG ?_|refine gB ?_ ?_<;>intro h
 all_goals (try simp only[uk]at*)
 all_goals first
  |exact zi ⟨.inl rfl,id,_,rfl,.qb (by simp_all[zay]<;>(intros;omega)),⟨rfl,uh⟩,rfl,rfl⟩
  |exact zi ⟨.inl rfl,id,_,rfl,.qq (by simp_all[zay]<;>(intros;omega)),⟨rfl,uh⟩,rfl,rfl⟩
theorem zld(f:FuncId)(d:zj)(l:List Nd)(p:Nd->Unit->Bool)(nx:Nd->Unit->Unit)(inv:Unit->Prop)
 (hf: ∀x∈l,∀s:Unit,inv s->zh Tryz.prog f [zF (vy x),.one (.bx 0 0)] [(0,.box ((zJ d).map V.p))] (.bq (p x s)) ((λs:Unit=>[(0,.box ((zJ d).map V.p))]) (nx x s))/\(p x s=false->inv (nx x s))) (s:Unit) (hs:inv s):
 zh Tryz.prog 116 [pS (.sl 2 (l.map vy)),.one (.cl f [] [.bx 0 0])] [(0,.box ((zJ d).map V.p))] (I (idxR p nx l 0 s).1) ((λs:Unit=>[(0,.box ((zJ d).map V.p))]) (idxR p nx l 0 s).2):=by
 refine gO T Tryz.func116 λC hC=>?_;have hs0:=hs;refine wJ 0 rfl λhl=>?_;rw[uk]at hl
 repeat' first|refine gG ?_|refine gB ?_ ?_<;>intro h
 rw[uk]
 refine zn (λq:Nat×Unit=>q.1<=l.length/\inv q.2/\idxR p nx (l.drop q.1) q.1 q.2=idxR p nx l 0 s) (λq=>(λs:Unit=>([(0,pS (.sl 2 (l.map vy))),(1,.one (.cl f [] [.bx 0 0])),(7,I l.length),(8,I q.1)],[(0,some (.box ((zJ d).map V.p)))])) q.2) (λq=>l.length - q.1) hC
  (0,s) ⟨uz _,hs,rfl⟩ id gM ?_
 generalize idxR p nx l 0 s=res;clear hs hs0;rintro⟨i,s⟩ ⟨hi,hv,J⟩;simp only at hi hv J;refine zq T hC true 200 rfl ?_;refine zt rfl ?_ ?_<;>intro hh
 ·have hlt:i<l.length:=by simpa using hh
  clear hh;obtain⟨x,hx⟩:=zd hlt;rw[drop_at hx]at J;simp only[idxR]at J;have hv2:=(hf x (List.mem_of_getElem? hx) s hv).2
  repeat' first|refine gG ?_|refine gB ?_ ?_<;>intro h|refine gI T (zl hx) ?_|refine zu hC (hf x (List.mem_of_getElem? hx) s hv).1 id rfl rfl (zH.refl _) rfl rfl rfl rfl rfl rfl rfl rfl ?_|refine zo ?_
  ·rw[uv uf]at J;subst J;exact gE
  ·have U:p x s=false:=by assumption
   rw[U]at J;simp only[uy,uL]at J;rw[wrap64 ua];exact zg (i+1,nx x s) ⟨by simp only;omega,hv2 U,J⟩ id (by simp only;omega) gM
 ·have hge: ¬i<l.length:=by simpa using hh
  rw[uA ua]at J;simp only[idxR]at J;subst J
  repeat' first|refine gG ?_|refine gB ?_ ?_<;>intro h|refine ze ?_
  exact gE
theorem zle(f:FuncId)(d:zj)(l:List Nd)(p:Nd->Unit->Bool)(nx:Nd->Unit->Unit)(inv:Unit->Prop)
 (hf: ∀x∈l,∀s:Unit,inv s->zh Tryz.prog f [zF (vy x),.one (.bx 0 0)] [(0,.box ((zJ d).map V.p))] (.bq (p x s)) ((λs:Unit=>[(0,.box ((zJ d).map V.p))]) (nx x s))/\(p x s=false->inv (nx x s))) (s:Unit) (J:inv s):
 zh Tryz.prog 74 [pS (.sl 2 (l.map vy)),.one (.cl f [] [.bx 0 0])] [(0,.box ((zJ d).map V.p))] (.bq (anyR p nx l s).1) ((λs:Unit=>[(0,.box ((zJ d).map V.p))]) (anyR p nx l s).2):=by
 refine gO T Tryz.func74 λC hC=>?_
 repeat' first|refine gG ?_|refine gB ?_ ?_<;>intro h|refine gR (zld f d l p nx inv hf s J) (nm [0]) ?_
 exact zi ⟨.inl rfl,id,_,rfl,.qq (zbb p nx l 0 s),by rw[<-zbc p nx l 0 s];exact⟨rfl,uh⟩,rfl,rfl⟩
def wL(d:zj)(m:Hp)(x:Nd):Bool:=zcO d m (((d.types[x.t.toNat]?).map (λt=>t.f)).getD []) x.f
theorem zgK(d:zj)(m:Hp)(x:Nd)(U:zay d x=false):zh Tryz.prog 77 [zF (vy x),.one (.bx 1 0),.one (.bx 2 0),.one (.bx 3 0)] [(0,.map (yU zW (tm d))),(1,.box [.mp 0]),(2,.box ((xP m).map V.p)),(3,.box ((zJ d).map V.p))] (.bq (!wL d m x))
 [(0,.map (yU zW (tm d))),(1,.box [.mp 0]),(2,.box ((xP m).map V.p)),(3,.box ((zJ d).map V.p))]:=by
 simp only[zay,uW,ur]at U;obtain⟨ty,J⟩:=zd (l:=d.types) (i:=x.t.toNat) ua;have hv:wL d m x=zcO d m ty.f x.f:=by simp[wL,J]
 rw[hv];refine gO T Tryz.func77 λC hC=>?_
 repeat' first|refine gG ?_|refine gB ?_ ?_<;>intro h|refine xz T hC rfl rfl rfl (Int.not_lt.1 U.1) (yZ J) rfl rfl ?_|refine gR (zfm d m ty.f x.f) (nm [0]) ?_
 exact zi ⟨.inl rfl,id,_,rfl,.qq rfl,⟨rfl,rfl,rfl,rfl,uh⟩,rfl,rfl⟩
theorem zlf(f:FuncId)(d:zj)(m:Hp)(l:List Nd)(p:Nd->Unit->Bool)(nx:Nd->Unit->Unit)(inv:Unit->Prop)
 (hf: ∀x∈l,∀s:Unit,inv s->zh Tryz.prog f [zF (vy x),.one (.bx 1 0),.one (.bx 2 0),.one (.bx 3 0)] [(0,.map (yU zW (tm d))),(1,.box [.mp 0]),(2,.box ((xP m).map V.p)),(3,.box ((zJ d).map V.p))] (.bq (p x s)) ((λs:Unit=>[(0,.map (yU zW (tm d))),(1,.box [.mp 0]),(2,.box ((xP m).map V.p)),(3,.box ((zJ d).map V.p))]) (nx x s))/\(p x s=false->inv (nx x s))) (s:Unit) (hs:inv s):
 zh Tryz.prog 116 [pS (.sl 2 (l.map vy)),.one (.cl f [] [.bx 1 0,.bx 2 0,.bx 3 0])] [(0,.map (yU zW (tm d))),(1,.box [.mp 0]),(2,.box ((xP m).map V.p)),(3,.box ((zJ d).map V.p))] (I (idxR p nx l 0 s).1) ((λs:Unit=>[(0,.map (yU zW (tm d))),(1,.box [.mp 0]),(2,.box ((xP m).map V.p)),(3,.box ((zJ d).map V.p))]) (idxR p nx l 0 s).2):=by
 refine gO T Tryz.func116 λC hC=>?_;have hs0:=hs;refine wJ 0 rfl λhl=>?_;rw[uk]at hl
 repeat' first|refine gG ?_|refine gB ?_ ?_<;>intro h
 rw[uk]
 refine zn (λq:Nat×Unit=>q.1<=l.length/\inv q.2/\idxR p nx (l.drop q.1) q.1 q.2=idxR p nx l 0 s) (λq=>(λs:Unit=>([(0,pS (.sl 2 (l.map vy))),(1,.one (.cl f [] [.bx 1 0,.bx 2 0,.bx 3 0])),(7,I l.length),(8,I q.1)],[(0,some (.map (yU zW (tm d)))),(1,some (.box [.mp 0])),(2,some (.box ((xP m).map V.p))),(3,some (.box ((zJ d).map V.p)))])) q.2) (λq=>l.length - q.1) hC
  (0,s) ⟨uz _,hs,rfl⟩ id gM ?_
 generalize idxR p nx l 0 s=res;clear hs hs0;rintro⟨i,s⟩ ⟨hi,hv,J⟩;simp only at hi hv J;refine zq T hC true 200 rfl ?_;refine zt rfl ?_ ?_<;>intro hh
 ·have hlt:i<l.length:=by simpa using hh
  clear hh;obtain⟨x,hx⟩:=zd hlt;rw[drop_at hx]at J;simp only[idxR]at J;have hv2:=(hf x (List.mem_of_getElem? hx) s hv).2
  repeat' first|refine gG ?_|refine gB ?_ ?_<;>intro h|refine gI T (zl hx) ?_|refine zu hC (hf x (List.mem_of_getElem? hx) s hv).1 id rfl rfl (zH.refl _) rfl rfl rfl rfl rfl rfl rfl rfl ?_|refine zo ?_
  ·rw[uv uf]at J;subst J;exact gE
  ·have U:p x s=false:=by assumption
   rw[U]at J;simp only[uy,uL]at J;rw[wrap64 ua];exact zg (i+1,nx x s) ⟨by simp only;omega,hv2 U,J⟩ id (by simp only;omega) gM
 ·have hge: ¬i<l.length:=by simpa using hh
  rw[uA ua]at J;simp only[idxR]at J;subst J
  repeat' first|refine gG ?_|refine gB ?_ ?_<;>intro h|refine ze ?_
  exact gE
theorem zlg(f:FuncId)(d:zj)(m:Hp)(l:List Nd)(p:Nd->Unit->Bool)(nx:Nd->Unit->Unit)(inv:Unit->Prop)
 (hf: ∀x∈l,∀s:Unit,inv s->zh Tryz.prog f [zF (vy x),.one (.bx 1 0),.one (.bx 2 0),.one (.bx 3 0)] [(0,.map (yU zW (tm d))),(1,.box [.mp 0]),(2,.box ((xP m).map V.p)),(3,.box ((zJ d).map V.p))] (.bq (p x s)) ((λs:Unit=>[(0,.map (yU zW (tm d))),(1,.box [.mp 0]),(2,.box ((xP m).map V.p)),(3,.box ((zJ d).map V.p))]) (nx x s))/\(p x s=false->inv (nx x s))) (s:Unit) (J:inv s):
 zh Tryz.prog 74 [pS (.sl 2 (l.map vy)),.one (.cl f [] [.bx 1 0,.bx 2 0,.bx 3 0])] [(0,.map (yU zW (tm d))),(1,.box [.mp 0]),(2,.box ((xP m).map V.p)),(3,.box ((zJ d).map V.p))] (.bq (anyR p nx l s).1) ((λs:Unit=>[(0,.map (yU zW (tm d))),(1,.box [.mp 0]),(2,.box ((xP m).map V.p)),(3,.box ((zJ d).map V.p))]) (anyR p nx l s).2):=by
 refine gO T Tryz.func74 λC hC=>?_
 repeat' first|refine gG ?_|refine gB ?_ ?_<;>intro h|refine gR (zlf f d m l p nx inv hf s J) (nm [0,1,2,3]) ?_
 exact zi ⟨.inl rfl,id,_,rfl,.qq (zbb p nx l 0 s),by rw[<-zbc p nx l 0 s];exact⟨rfl,rfl,rfl,rfl,uh⟩,rfl,rfl⟩
def zce(d:zj)(m:Hp):Bool:= !decide (4096<(m.n.length:Int))&& !m.n.any (zay d)&&zcO d m d.globals m.g&&m.n.all (wL d m)
theorem zlh(d:zj)(m:Hp):zh Tryz.prog 46 [.one (.mp 0),zF (zJ d),zF (xP m)] (zti d) (.bq (zce d m)) (zti d):=by
 have J:=zle 75 d m.n (λy _=>zay d y) (λ_ s=>s) (λ_=>True) (λy _ _ _=>⟨zgJ d y,λ_=>trivial⟩) () trivial;rw[zb5]at J;have U:=λ(ho:m.n.any (zay d)=false)=>zlg 77 d m m.n (λy _=> !wL d m y) (λ_ s=>s) (λ_=>True) (λy hy _ _=>⟨zgK d m y (by rw[List.any_eq_false]at ho;simpa using ho y hy),λ_=>trivial⟩) () trivial
 rw[zb5,vK]at U;refine gO T Tryz.func46 λC hC=>?_
 repeat' first|refine gG ?_|refine gB ?_ ?_<;>intro h|refine zh6 hC (kt:=9) (et:=3) rfl rfl ud rfl rfl ?_|refine gR J (nm [1004]) ?_|refine gR (zfm d m _ _) (nm [0]) ?_|refine zu hC (U uf) (nm [0,1003,1005,1004]) rfl rfl (zH.refl _) rfl rfl rfl rfl rfl rfl rfl rfl ?_
 all_goals (try simp only[uk]at*)
 all_goals clear J U
 all_goals first
  |exact zi ⟨.inl rfl,id,_,rfl,.qb (by simp_all[zce, -List.all_eq_true, -List.all_eq_false, -List.any_eq_true, -List.any_eq_false]),⟨rfl,uh⟩,rfl,rfl⟩
  |exact zi ⟨.inl rfl,id,_,rfl,.qq (by simp_all[zce, -List.all_eq_true, -List.all_eq_false, -List.any_eq_true, -List.any_eq_false]),⟨rfl,uh⟩,rfl,rfl⟩
theorem zli(d:zj)(m:Hp):zh Tryz.prog 46 [.one (.p (.k (.map none))),zF (zJ d),zF (xP m)] [] (.bq false) []:=by
 refine gO T Tryz.func46 λC hC=>?_
 repeat' first|refine gG ?_|refine gB ?_ ?_<;>intro h|refine zfn hC (kt:=9) (et:=3) rfl ud rfl rfl ?_
 exact zi ⟨.inl rfl,id,_,rfl,.qb rfl,trivial,rfl,rfl⟩
theorem zoy{t:Str}{v:Int}(h:(zaa t|| !decide (vt d t<0))=true):zc9 d m t v=zhW d m t v:=by
 simp only[zc9,zhW];by_cases J:t=(⟨#[105,110,116]⟩:UH)
 ·rw[uv J,uv J]
 ·rw[uu J,uu J];by_cases h2:t=(⟨#[98,111,111,108]⟩:UH)
  ·rw[uv h2,uv h2]
  ·rw[uu h2,uu h2]
   have: ¬vt d t<0:=by
    intro h3;rw[uT h3]at h;simp[zaa,J,h2]at h
   have e:tyD d t=vt d t:=by rw[tyD,uu this]
   rw[e];by_cases U:0<v
   ·rw[uT U,uT (show(1:Int)<=v by omega)]
   ·rw[uJ U,uJ (show ¬(1:Int)<=v by omega)]
theorem all_congr{p q:α->Bool}{l:List α}(h: ∀x∈l,p x=q x):l.all p=l.all q:=by
 induction l with
 |nil=>rfl
 |cons a l ih=>simp only[tX,h a ue,ih λx J=>h x (by simp[J])]
theorem zbf{α β:Type}{x:α×β}: ∀ {l:List α} {r:List β},x∈l.zip r->x.1∈l
 | [],_,h=>by simp at h
 |_::_,[],h=>by simp at h
 |a::l,b::r,h=>by
  simp only[List.zip_cons_cons,uI]at h⊢;rcases h with rfl|h
  ·exact .inl rfl
  ·exact .inr (zbf h)
theorem zlj{l:List Fld}{v:List Int}(h:l.all (known d)=true):zcO d m l v=(decide ((l.length:Int)=(v.length:Int))&&(l.zip v).all (zbe d m)):=by
 simp only[zcO]
 congr 1
 refine all_congr λx J=>?_;exact zoy (List.all_eq_true.1 h _ (zbf J))
theorem zoz(p:α->Bool)(l:List α):(!l.any p)=l.all λx=> !p x:=by
 induction l with
 |nil=>rfl
 |cons a l ih=>simp only[ql,tX,Bool.not_or,ih]
theorem jS(h:yT d=true):yx d=true/\zfj d=true/\d.globals.all (known d)=true/\ ∀t∈d.types,t.f.all (known d)=true:=by
 rw[zcc]at h;simp only[uo]at h;exact⟨h.1.1.1,h.1.1.2,h.1.2,λt J=>List.all_eq_true.1 h.2 t J⟩
theorem zlk(h:yT d=true):zce d m=yD d m:=by
 obtain⟨_,_,hg,ht⟩:=jS h
 have e1:(!m.n.any (zay d)&&m.n.all (wL d m))=(m.n.all (xD d)&&m.n.all (vx d m)):=by
  rw[zoz,<-zgI,<-zgI];refine all_congr λx _=>?_;by_cases U:zay d x=true
  ·have:xD d x=false:=by
    simp only[zay,uU]at U;simp only[xD];rcases U with U|U<;>rw[U]<;>simp
   rw[U,this];rfl
  ·have ho':zay d x=false:=by simpa using U
   have hh:=ho';simp only[zay,uW,ur]at hh;obtain⟨ty,J⟩:=zd (l:=d.types) (i:=x.t.toNat) ua;have hk:=ht ty (List.mem_of_getElem? J)
   have e2:wL d m x=(decide ((ty.f.length:Int)=(x.f.length:Int))&&(ty.f.zip x.f).all (zbe d m)):=by
    simp only[wL,J,uO,Option.getD_some];exact zlj hk
   have e3:xD d x=decide ((ty.f.length:Int)=(x.f.length:Int)):=by
    simp only[xD,J,uO,ui];rw[uJ hh.1,uJ hh.2];simp only[qE,tA];exact oA.2 ua
   have e4:vx d m x=(ty.f.zip x.f).all (zbe d m):=by simp[vx,J]
   rw[ho',e2,e3,e4];rfl
 have e2:decide ((d.globals.length:Int)=(m.g.length:Int))=decide ((m.g.length:Int)=(d.globals.length:Int)):=oA.2 ua;simp only[zce,yD,h,zlj hg,e2,tA];clear e2;generalize decide (4096<(m.n.length:Int))=a at*;generalize (d.globals.zip m.g).all (zbe d m)=b at*;generalize decide ((m.g.length:Int)=(d.globals.length:Int))=c at*
 revert e1
 generalize (!m.n.any (zay d))=e;generalize m.n.all (wL d m)=f;generalize m.n.all (xD d)=g;generalize m.n.all (vx d m)=i
 revert a b c e f g i;decide
theorem yW(d:zj)(m:Hp):zh Tryz.prog 23 [zF (zJ d),zF (xP m)] [] (.bq (yD d m)) []:=by
 have hT:=zc8 d;cases h:yT d with
 |true=>
  simp only[zcN,znL,h,uZ]at hT;rw[<-zlk h];refine gO T Tryz.func23 λC hC=>?_
  repeat' first|refine gG ?_|refine gB ?_ ?_<;>intro h|(refine gR hT (nm [1006]) ?_)|refine gR (zlh d m) (nm [1006]) ?_
  exact zi ⟨.inl rfl,id,_,rfl,.qq rfl,trivial,rfl,rfl⟩
 |false=>
  simp only[zcN,znL,h,uy,uL]at hT;have e:yD d m=false:=by simp[yD,h]
  rw[e];refine gO T Tryz.func23 λC hC=>?_
  repeat' first|refine gG ?_|refine gB ?_ ?_<;>intro h|refine gC hT ?_|refine gC (zli d m) ?_
  exact zi ⟨.inl rfl,id,_,rfl,.qq rfl,trivial,rfl,rfl⟩
def zhP(d:zj):S:=if yT d=true then .tup [zF (xP (zod d)),I 0]else .tup [zF (xP ⟨[],[]⟩),I 1]
theorem zi3(d:zj):zh Tryz.prog 22 [zF (zJ d)] [] (zhP d) []:=by
 have hT:=zc8 d;cases h:yT d with
 |true=>
  simp only[zcN,znL,h,uZ]at hT;simp only[zhP,h,uZ]
  have hlen:d.globals.length<=8:=by
   have:=(jS h).1;simp only[yx,zbz,xB,uo,uq]at this;have:=this.1.1.1.1.1.1.1.1.2.1;omega
  refine gO T Tryz.func22 λC hC=>?_
  repeat' first|refine gG ?_|refine gB ?_ ?_<;>intro h|(refine gR hT (nm [1005]) ?_)|refine zh6 hC (kt:=9) (et:=3) rfl rfl ud rfl rfl ?_
  rw[uk];refine zrr T hC (bytes:=8) d.globals.length rfl rfl rfl rfl rfl rfl ud rfl ua rfl rfl ?_;refine zvw 11 rfl (s':=pS (xw (List.replicate d.globals.length 0))) (uX (λr=>S.one (.p (.sl 1 r))) (newRow _)) ?_
  repeat' first|refine gG ?_|refine gB ?_ ?_<;>intro h
  exact zi ⟨.inl rfl,id,_,rfl,LeS.tup (.cons (LeS.agg (.cons (.refl _) (.cons (.nil 2) .nil))) (.cons (.refl _) .nil)),trivial,rfl,rfl⟩
 |false=>
  simp only[zcN,znL,h,uy,uL]at hT;simp only[zhP,h,uy,uL];refine gO T Tryz.func22 λC hC=>?_
  repeat' first|refine gG ?_|refine gB ?_ ?_<;>intro h|refine gC hT ?_|refine zfn hC (kt:=9) (et:=3) rfl ud rfl rfl ?_
  exact zi ⟨.inl rfl,id,_,rfl,LeS.tup (.cons (LeS.agg (.cons (.nil 1) (.cons (.nil 2) .nil))) (.cons (.refl _) .nil)),trivial,rfl,rfl⟩
structure SS where
 order:List Int
 again:Int
def zdT(d:zj)(t:Int):List Fld:=((d.types[t.toNat]?).map (λt=>t.f)).getD []
def pairsOf(d:zj)(m:Hp)(n:Int):List (Fld×Int):=match m.n[(n - 1).toNat]? with
 |some x=>(zdT d x.t).zip x.f
 |none=>[]
def isRef(p:Fld×Int):Bool:= !zaa p.1.t&& !decide (p.2=0)
def enterS:Nat->zj->Hp->Int->SS->SS
 |0,_,_,_,s=>s
 |k+1,d,m,n,s=>if(s.order.any λx=>decide (x=n))=true then⟨s.order,if s.again=0 then n else s.again⟩
  else(pairsOf d m n).foldl (λs p=>if isRef p=true then enterS k d m p.2 s else s) ⟨s.order++[n],s.again⟩
def zcP(k:Nat)(d:zj)(m:Hp)(ps:List (Fld×Int))(s:SS):SS:=ps.foldl (λs p=>if isRef p=true then enterS k d m p.2 s else s) s
theorem zaW(k:Nat)(d:zj)(m:Hp)(p:Fld×Int)(ps:List (Fld×Int))(s:SS):zcP k d m (p::ps) s=zcP k d m ps (if isRef p=true then enterS k d m p.2 s else s):=rfl
theorem zda{k:Nat}{n:Int}{s:SS}(h:(s.order.any λx=>decide (x=n))=false):enterS (k+1) d m n s=zcP k d m (pairsOf d m n) ⟨s.order++[n],s.again⟩:=by
 simp only[enterS,h,uy,uL];rfl
theorem zaX{k:Nat}{n:Int}{s:SS}(h:(s.order.any λx=>decide (x=n))=true):enterS (k+1) d m n s=⟨s.order,if s.again=0 then n else s.again⟩:=by
 simp only[enterS,h,uZ]
def entsI:Int->List Int->List (Int×PV)
 |_,[]=>[]
 |k,v::r=>(v,ki k)::entsI (k+1) r
def ztN(l:List Int)(v:Int):Int:=idxOf (λx=>decide (x=v)) l+1
theorem zaY(v:Int): ∀(l:List Int) (k:Int),getK (entsI k l) v=if idxOf (λx=>decide (x=v)) l<0 then none else some (ki (k+idxOf (λx=>decide (x=v)) l))
 | [],k=>rfl
 |a::r,k=>by
  simp only[entsI,getK];by_cases h:a=v
  ·have e:idxOf (λx:Int=>decide (x=v)) (a::r)=0:=by rw[idxOf_cons,uv (uT h)]
   rw[uv h,e,uu ua,Int.add_zero]
  ·rw[uu h,zaY v r (k+1)];have U: ¬(decide (a=v)=true):=by simp[h]
   rcases wK (p:=λx:Int=>decide (x=v)) (l:=r)with J|⟨i,x,J,_⟩
   ·have e:idxOf (λx:Int=>decide (x=v)) (a::r)= -1:=by rw[idxOf_cons,uu U,J];rfl
    rw[J,e];rfl
   ·have e:idxOf (λx:Int=>decide (x=v)) (a::r)=(i:Int)+1:=by rw[idxOf_cons,uu U,J,uu ua]
    rw[J,e,uu ua,uu ua];have:k+1+(i:Int)=k+((i:Int)+1):=by omega
    rw[this]
theorem zoA(l:List Int)(v:Int):(getK (entsI 1 l) v).getD (.k (.int .i64 0))=ki (ztN l v):=by
 rw[zaY,ztN];rcases wK (p:=λx:Int=>decide (x=v)) (l:=l)with J|⟨i,x,J,_⟩
 ·rw[J];rfl
 ·rw[J,uu ua];simp only[Option.getD_some];rw[Int.add_comm]
theorem zoB(l:List Int)(v:Int):(!decide (ztN l v=0))=l.any λx=>decide (x=v):=by
 have h:=zca (λx:Int=>decide (x=v)) l
 have e:decide (ztN l v=0)=decide (idxOf (λx=>decide (x=v)) l<0):=by
  rw[ztN];rcases wK (p:=λx:Int=>decide (x=v)) (l:=l)with J|⟨i,x,J,_⟩
  ·rw[J];rfl
  ·rw[J];exact oA.2 ua
 rw[e,h,UG]
theorem zdb(x:Int): ∀(l:List Int) (k:Int),entsI k (l++[x])=entsI k l++[(x,ki (k+l.length))]
 | [],k=>by simp[entsI]
 |t::r,k=>by
  have:k+1+(r.length:Int)=k+((r.length+1:Nat):Int):=by omega
  simp only[uN,entsI,zdb x r (k+1),uR,this]
theorem ve{l:List Int}{v:Int}(h:(l.any λx=>decide (x=v))=false):getK (entsI 1 l) v=none:=by
 rw[zaY,uv];have:=zca (λx:Int=>decide (x=v)) l;rw[h]at this;exact uj this
structure zgL (m:Hp) (s:SS):Prop where
 nodup:s.order.Nodup
 inr: ∀x∈s.order,1<=x/\x<=(m.n.length:Int)
theorem zh7: ∀(N:Nat) (l:List Int),l.Nodup->(∀x∈l,1<=x/\x<=(N:Int))->l.length<=N
 |0,l,_,h=>by
  cases l with
  |nil=>simp
  |cons a l=>have:=h a ue;omega
 |N+1,l,hn,h=>by
  by_cases U:((N+1:Nat):Int)∈l
  ·have h1:=zh7 N (l.erase ((N+1:Nat):Int)) (hn.erase _) (λx J=>by
    have h2:=(List.Nodup.mem_erase_iff hn).1 J;have:=h x h2.2;have:=h2.1
    omega)
   rw[List.length_erase_of_mem U]at h1;omega
  ·have:=zh7 N l hn (λx J=>by
    have:=h x J;have:x≠((N+1:Nat):Int):=λe=>U (e ▸ J)
    omega)
   omega
theorem zgL.le{s:SS}(h:zgL m s):s.order.length<=m.n.length:=zh7 _ _ h.nodup h.inr
theorem zrs{l:List Int}{n:Int}:(l.any λx=>decide (x=n))=true↔n∈l:=by simp
theorem zgL.snoc{s:SS}{n:Int}(h:zgL m s)(h1:1<=n)(h2:n<=(m.n.length:Int))(hn:(s.order.any λx=>decide (x=n))=false)(a:Int):zgL m ⟨s.order++[n],a⟩:=by
 have U:n∉s.order:=λe=>by rw[zrs.2 e]at hn;cases hn
 refine⟨?_,λx J=>?_⟩
 ·rw[oe];refine⟨h.nodup,ue,λa ha b hb=>?_⟩;simp only[tB]at hb;subst hb;rintro rfl;exact U ha
 ·rcases tj.1 J with J|J
  ·exact h.inr x J
  ·simp only[tB]at J;subst J;exact⟨h1,h2⟩
def zgM(m:Hp)(p:Fld×Int):Prop:=isRef p=true->1<=p.2/\p.2<=(m.n.length:Int)
structure WF (d:zj) (m:Hp):Prop where
 small:m.n.length<=4096
 node: ∀x∈m.n,0<=x.t/\ ∃ty,d.types[x.t.toNat]?=some ty/\ty.f.length=x.f.length/\ ∀p∈ty.f.zip x.f,zgM m p
theorem WF.zvx(h:WF d m)(n:Int): ∀p∈pairsOf d m n,zgM m p:=by
 intro p J;unfold pairsOf at J;split at J
 ·rename_i x U;obtain⟨_,ty,h1,_,h2⟩:=h.node x (List.mem_of_getElem? U);simp only[zdT,h1,uO,Option.getD_some]at J;exact h2 p J
 ·cases J
theorem zac{d:zj}{m:Hp}(hw:WF d m): ∀(k:Nat) (n:Int) (s:SS),1<=n->n<=(m.n.length:Int)->zgL m s->zgL m (enterS k d m n s)/\s.order.length<=(enterS k d m n s).order.length
 |0,n,s,_,_,h=>⟨h,uF _⟩
 |k+1,n,s,h1,h2,h=>by
  cases hb:(s.order.any λx=>decide (x=n))with
  |true=>rw[zaX hb];exact⟨⟨h.nodup,h.inr⟩,uF _⟩
  |false=>
   rw[zda hb]
   have: ∀(ps:List (Fld×Int)) (s:SS),(∀p∈ps,zgM m p)->zgL m s->zgL m (zcP k d m ps s)/\s.order.length<=(zcP k d m ps s).order.length:=by
    intro ps
    induction ps with
    |nil=>exact λs _ h=>⟨h,uF _⟩
    |cons p ps ih=>
     intro s J h;rw[zaW];by_cases U:isRef p=true
     ·rw[uv U];have hv:=J p ue U;have e:=zac hw k p.2 s hv.1 hv.2 h;have f:=ih _ (λq hq=>J q (by simp[hq])) e.1;exact⟨f.1,tZ e.2 f.2⟩
     ·rw[uu U];exact ih s (λq hq=>J q (by simp[hq])) h
   have e:=this (pairsOf d m n) ⟨s.order++[n],s.again⟩ (hw.zvx n) (h.snoc h1 h2 hb _);refine⟨e.1,?_⟩;have:=e.2;simp only[uC,uD]at this;omega
def mv(a b i:Nat):Nat:=match Nat.beq i a with
 |true=>b
 |false=>i
theorem zqi{a b:Nat}(ha:100<=a)(hi:i<100):mv a b i=i:=by
 unfold mv;rw[xj ua]
def zqj(d:zj)(m:Hp)(again:Int)(a:Nat):List V:=(zJ d).map V.p++((xP m).map V.p++[.ar a,.mp 2,.p (ki again)])
def sRL(d:zj)(m:Hp)(s:SS)(a:Nat):RL:=[(0,.box (zqj d m s.again a)),(a,.arr 1 (s.order.map yk)),(2,.map (yU (zfo .i64) (entsI 1 s.order)))]
def zwx(d:zj)(m:Hp)(s:SS)(a:Nat):Tab:=[(0,some (.box (zqj d m s.again a))),(a,some (.arr 1 (s.order.map yk))),(2,some (.map (yU (zfo .i64) (entsI 1 s.order))))]
def zll(d:zj)(m:Hp)(k:Nat):Prop:= ∀(n:Int) (s:SS),1<=n->n<=(m.n.length:Int)->zgL m s->m.n.length - s.order.length<k->
 zh Tryz.prog 189 [.one (.bx 0 0),I n] (sRL d m s 1) (.tup []) (sRL d m (enterS k d m n s) 3)
theorem look_ok(hw:WF d m){k:Nat}(hE:zll d m k)(l:List Fld)(v:List Int)(hlv:l.length=v.length)(s:SS)(hp: ∀p∈l.zip v,zgM m p)(U:zgL m s)(hk:m.n.length - s.order.length<k):
 zh Tryz.prog 130 [.one (.bx 0 0),pS (zx l),pS (xw v)] (sRL d m s 1) (.tup []) (sRL d m (zcP k d m (l.zip v) s) 3):=by
 refine gO T Tryz.func130 λC hC=>?_;refine wJ 1 rfl λhlen=>?_;rw[uk]at hlen
 repeat' first|refine gG ?_|refine gB ?_ ?_<;>intro h
 rw[uk];generalize hR:zcP k d m (l.zip v) s=RES
 refine zn (λq:Nat×SS=>q.1<=l.length/\zgL m q.2/\m.n.length - q.2.order.length<k/\zcP k d m ((l.zip v).drop q.1) q.2=RES)
  (λq=>([(0,.one (.bx 0 0)),(2,pS (xw v)),(8,pS (zx l)),(9,I l.length),(10,I q.1)],zwx d m q.2 150)) (λq=>l.length - q.1) hC
  (0,s) ⟨uz _,U,hk,hR⟩ (mv 150 1) ⟨rfl,⟨rfl,rfl,rfl,rfl,rfl,uh⟩,⟨rfl,rfl,rfl,uh⟩,rfl,λi hi=>zqi ua hi⟩ ?_
 clear hR U hk;rintro⟨i,s⟩ ⟨hi,U,hk,J⟩;simp only at hi U hk J;refine zq T hC true 200 rfl ?_;refine zt rfl ?_ ?_<;>intro h
 rotate_left
 ·have hge: ¬i<l.length:=by simpa using h
  rw[uA (by rw[th];omega)]at J;have hn':s=RES:=J;subst hn'
  repeat' first|refine gG ?_|refine gB ?_ ?_<;>intro h|refine ze ?_
  exact zi ⟨.inr rfl,mv 3 150,[],rfl,.refl _,⟨rfl,rfl,rfl,uh⟩,rfl,rfl⟩
 have hlt:i<l.length:=by simpa using h
 clear h;obtain⟨x,hx⟩:=zd (l:=l.zip v) (i:=i) (by rw[th];omega);obtain⟨hx1,hx2⟩:=zqh hx;rw[drop_at hx,zaW]at J;have hrx:=hp x (List.mem_of_getElem? hx)
 repeat' first|refine gG ?_|refine gB ?_ ?_<;>intro h|refine gX ?_|refine gC (zh1 _) ?_
 ·rename_i hpl;have hr:isRef x=true:=by simp only[isRef,hpl,h,Bool.and_self]
  rw[uv hr]at J;have hv:=hrx hr;have hkeep:=zac hw k x.2 s hv.1 hv.2 U
  repeat' first|refine gG ?_|refine gB ?_ ?_<;>intro h|refine gR (hE x.2 s hv.1 hv.2 U hk) (nm [0,150,2,160]) ?_
  rw[y7 ua];exact zg (i+1,enterS k d m x.2 s) ⟨by simp only;omega,hkeep.1,by simp only;omega,J⟩ (mv 150 160) (by simp only;omega) ⟨rfl,⟨rfl,rfl,rfl,rfl,rfl,uh⟩,⟨rfl,rfl,rfl,uh⟩,rfl,λi hi=>zqi ua hi⟩
 all_goals
  have hr:isRef x=false:=by simp only[isRef,h,tW,qX]
  rw[hr]at J;simp only[uy,uL]at J;simp only;rw[y7 ua];exact zg (i+1,s) ⟨by simp only;omega,U,hk,J⟩ id (by simp only;omega) gM
theorem zoC(hw:WF d m): ∀k,zll d m k:=by
 intro k
 induction k with
 |zero=>intro n s _ _ _ h;omega
 |succ k ih=>
  intro n s h1 h2 hs hk;have hsm:=hw.small;have hle:=hs.le;obtain⟨x,hx⟩:=zd (l:=m.n) (i:=(n - 1).toNat) ua;obtain⟨ht,ty,hty,hlen,hrefs⟩:=hw.node x (List.mem_of_getElem? hx);have U:pairsOf d m n=ty.f.zip x.f:=by simp only[pairsOf,hx,zdT,hty,uO,Option.getD_some]
  have J:=zoB s.order n;refine gO T Tryz.func189 λC hC=>?_
  repeat' first|refine gG ?_|refine gB ?_ ?_<;>intro h|refine zfl (zfo .i64) hC (kt:=3) (et:=3) (c0:= .int .i64 0) rfl rfl rfl ud ud ud rfl (zoA s.order n) rfl rfl ?_
  ·rename_i h0;rw[J]at h0;rw[zaX h0,uv (uj h)];exact zi ⟨.inl rfl,mv 3 1,[],rfl,.refl _,⟨rfl,rfl,rfl,uh⟩,rfl,rfl⟩
  ·rename_i h0;rw[J]at h0;rw[zaX h0,uu (um h)];exact zi ⟨.inl rfl,mv 3 1,[],rfl,.refl _,⟨rfl,rfl,rfl,uh⟩,rfl,rfl⟩
  ·rw[J]at h;have hs':=hs.snoc h1 h2 h s.again;have hle':=hs'.le;simp only[uC,uD]at hle';rw[zda h,U];have hL:=look_ok hw ih ty.f x.f hlen ⟨s.order++[n],s.again⟩ hrefs hs' (by simp only[uC,uD];omega);have w1:IntKind.i64.wrap (n - 1)=n - 1:=wrap64 ua;have hlen2:(s.order.map yk).length=s.order.length:=uk _
   repeat' first|refine gG ?_|refine gB ?_ ?_<;>intro h|refine gT ?_|refine gY T 101 ((s.order++[n]).map yk) 8 ?_
   refine zh5 (zfo .i64) hC (kt:=3) (et:=3) (l':=entsI 1 (s.order++[n])) rfl rfl rfl rfl ud ud ?_ rfl ?_
   ·rw[zdS (ve h),zdb];simp only[uk,uC,uD];rw[show((s.order.length+1:Nat):Int)=1+(s.order.length:Int) by omega]
   ·repeat' first|refine gG ?_|refine gB ?_ ?_<;>intro h|(rw[w1];refine gI T (yZ hx) ?_)|refine xz T hC rfl rfl rfl ht (yZ hty) rfl rfl ?_|refine gR hL (nm [0,101,2,170]) ?_
    exact zi ⟨.inr rfl,mv 3 170,[],rfl,.refl _,⟨rfl,rfl,rfl,uh⟩,rfl,rfl⟩
def zad(d:zj)(m:Hp):SS:=zcP (m.n.length+1) d m (d.globals.zip m.g) ⟨[],0⟩
structure WG (d:zj) (m:Hp):Prop extends WF d m where
 glen:d.globals.length=m.g.length
 gref: ∀p∈d.globals.zip m.g,zgM m p
theorem zgN(J:WG d m):zh Tryz.prog 87 [zF (zJ d),zF (xP m)] [] (.one (.bx 0 0)) (sRL d m (zad d m) 1):=by
 have U:=look_ok J.toWF (zoC J.toWF (m.n.length+1)) d.globals m.g J.glen ⟨[],0⟩ J.gref ⟨ue,ue⟩ ue;refine gO T Tryz.func87 λC hC=>?_
 repeat' first|refine gG ?_|refine gB ?_ ?_<;>intro h|refine zfk (zfo .i64) hC rfl rfl rfl ?_
 refine zkl hC rfl 101 1 rfl [] uh [(1010,(zJ d).map V.p++((xP m).map V.p++[.ar 101,.mp 1008,.p (ki 0)]))] ⟨⟨_,rfl,ub,?_⟩,uh⟩ ?_
 ·exact .cons (.refl _) (.cons (.refl _) (.cons (.refl _) (.cons (.refl _) (.cons (.refl _) (.cons (.refl _) (.cons (.refl _) (.cons (.refl _) (.cons (.refl _) (.cons (.refl _) (.cons .nil (.cons (.refl _) (.cons (.refl _) .nil))))))))))))
 repeat' first|refine gG ?_|refine gB ?_ ?_<;>intro h|refine gR U (nm [1010,101,1008,160]) ?_
 exact gW [1010,160,1008]
theorem jF(v:List Int)(hv:v.length<=1000000):zh Tryz.prog 42 [pS (xw v)] [] (.one (.ar 0)) [(0,.arr 1 (v.map yk))]:=by
 refine gO T Tryz.func42 λC hC=>?_;have hl:(v.map yk).length=v.length:=uk _
 repeat' first|refine gG ?_|refine gB ?_ ?_<;>intro h
 refine zrt (rows:=v.map yk) (e:=1) (et:=3) rfl ud rfl (λb U=>?_)
 repeat' first|refine gG ?_|refine gB ?_ ?_<;>intro h
 ·have J:v=[]:=List.map_eq_nil_iff.1 (U h);subst J;refine gA 101 1 [(2,.one (.ar 101))] [] ?_;exact gW [101]
 ·refine ztO T hC rfl rfl rfl rfl rfl ?_
  repeat' first|refine gG ?_|refine gB ?_ ?_<;>intro h|refine gY T 102 (v.map yk) 8 ?_
  exact gW [102]
theorem zqk{p:Fld×Int}(h:zbe d m p=true):zgM m p:=by
 intro J;simp only[isRef,uo,ux,ur,zaa,uW]at J;obtain⟨⟨U,h2⟩,h3⟩:=J;simp only[zbe,zhW,U,h2,h3,uL,qH,tO,uo,uq]at h;exact⟨h.1.1,h.1.2⟩
theorem ztP(h:yD d m=true):WG d m:=by
 simp only[yD,uo,uq,ux,ur]at h;obtain⟨⟨⟨⟨⟨_,hg⟩,hn⟩,hs⟩,hp⟩,hr⟩:=h;refine⟨⟨ua,λx hx=>?_⟩,ua,λp J=>zqk (List.all_eq_true.1 hp p J)⟩;obtain⟨h0,ty,U,hle⟩:=jr (List.all_eq_true.1 hs x hx);refine⟨h0,ty,U,hle,λp J=>zqk (d:=d) ?_⟩;have:=List.all_eq_true.1 hr x hx;simp only[vx,U,uO,Option.getD_some]at this;exact List.all_eq_true.1 this p J
theorem zfp(h:yD d m=true):zgL m (zad d m):=by
 have hw:=ztP h
 have: ∀(ps:List (Fld×Int)) (s:SS),(∀p∈ps,zgM m p)->zgL m s->zgL m (zcP (m.n.length+1) d m ps s):=by
  intro ps
  induction ps with
  |nil=>exact λs _ h=>h
  |cons p ps ih=>
   intro s J h;rw[zaW];by_cases U:isRef p=true
   ·rw[uv U];have hv:=J p ue U;exact ih _ (λq hq=>J q (by simp[hq])) (zac hw.toWF _ p.2 s hv.1 hv.2 h).1
   ·rw[uu U];exact ih s (λq hq=>J q (by simp[hq])) h
 exact this _ _ hw.gref ⟨ue,ue⟩
theorem zfq(J:yD d m=false):zh Tryz.prog 52 [zF (zJ d),zF (xP m)] [] (.tup [pS (xw []),I 1]) []:=by
 refine gO T Tryz.func52 λC hC=>?_
 repeat' first|refine gG ?_|refine gB ?_ ?_<;>intro h|refine gC (yW d m) ?_
 ·exact zi ⟨.inl rfl,id,_,rfl,LeS.tup (.cons (.one (.nil 1)) (.cons (.refl _) .nil)),trivial,rfl,rfl⟩
 ·rw[J]at h;cases h
theorem zfr(J:yD d m=true):zh Tryz.prog 52 [zF (zJ d),zF (xP m)] [] (.tup [pS (xw (zad d m).order),I 0]) []:=by
 refine gO T Tryz.func52 λC hC=>?_
 repeat' first|refine gG ?_|refine gB ?_ ?_<;>intro h|refine gC (yW d m) ?_|refine gR (zgN (ztP J)) (nm [150,151,152]) ?_
 ·rw[J]at h;cases h
 ·refine gZ 151 [(4,pS (xw (zad d m).order))] [] ?_;exact gF
end Hw.Gm.Ps
namespace Hw
open Go
def chn(v:Value):List PanicEntry:=[{ v:=v,recovered:=false }]
def ya(P:Program)(f:FuncId)(args:List S)(R:RL)(pv:Value)(R':RL):Prop:=
 jM P f/\ ∀(M:Mem) (ρ:Nat->Value) (w:World) (xs:List Value),RepSs M ρ args xs->wc M ρ w (tb R)->Imm M w->GOk M w->
  Calls P f xs.toArray w λe w'=> ∃M' ρ',e= .panicked (chn pv)/\Ret M ρ w R .un R' undef M' ρ' w'
def zql(P:Program)(all:Array Oper)(o:Oper)(rs:zf)(rt:RL)(fr:List Nat)(pv:Value)(wt:Tab):Prop:=
 ∀(C:Ctx) (st:St) (M:Mem) (ρ:Nat->Value) (a:Act) (w:World),Holds C st M ρ a w->okS rs st->okT rt st->okF C fr st->
  ∀(K:Act->World->Prop) (Q:Exit->Act->World->Prop),(∀M' ρ' w',Holds C ⟨st.n,st.sl,wt++st.tab⟩ M' ρ' a w'->Q (.panic (chn pv)) a w')->
   if Region.wanted o (yielded all a.tmps)then o.wp P a w K Q else K (a.put o.dst undef) w
def PnO(P:Program)(o:Oper)(rs:zf)(rt:RL)(fr:List Nat)(pv:Value)(wt:Tab):Prop:=
 ∀(C:Ctx) (st:St) (M:Mem) (ρ:Nat->Value) (a:Act) (w:World),Holds C st M ρ a w->okS rs st->okT rt st->okF C fr st->
  ∀(K:Act->World->Prop) (Q:Exit->Act->World->Prop),(∀M' ρ' w',Holds C ⟨st.n,st.sl,wt++st.tab⟩ M' ρ' a w'->Q (.panic (chn pv)) a w')->o.wp P a w K Q
variable {P:Program}{af:Array Edge}{all:Array Oper}{d:Option Nat}{g:Option (Nat×Bool)}{gs rs:zf}{ps:String}{pv:Value}{rt:RL}{tab wt:Tab}
theorem zdU{sl:zf}{op:Op}{ty:TypeId}{fr:List Nat}
 (J:metL all sl g=some gs) (hL:PnO P ⟨d,op,ty,ps,af,g⟩ rs rt fr pv wt) {n:Nat} :zql P all ⟨d,op,ty,ps,af,g⟩ (gs++rs) rt fr pv wt/\okS gs ⟨n,sl,tab⟩:=by
 cases g with
 |none=>
  simp only[metL,ui]at J;subst J;refine⟨λC st M ρ a w U h1 h2 h3 K Q hk=>?_,uh⟩;simp only[Region.wanted,uZ];exact hL C st M ρ a w U h1 h2 h3 K Q hk
 |some p=>
  obtain⟨j,want⟩:=p;simp only[metL]at J;split at J
  ·rename_i t ht;split at J
   ·rename_i c hc;split at J
    ·rename_i hw;simp only[ui]at J;subst J;refine⟨λC st M ρ a w U h1 h2 h3 K Q hk=>?_,hc,uh⟩;have hw':=zae.wanted (ops:=all) (o:=⟨d,op,ty,ps,af,some (j,want)⟩) (t:=t) (gs:=Bo c) (b:=zfs want c) ⟨j,want,rfl,ht,.inl ⟨c,rfl,rfl⟩⟩ (U.slots t _ h1.1);rw[hw',hw,uv rfl];exact hL C st M ρ a w U h1.2 h2 h3 K Q hk
    ·cases J
   ·cases J
  ·cases J
variable {R R':RL}{args ss:List S}{caps:List V}{f:FuncId}{t:TypeId}{ts:Array TypeId}{x:Operand}
section
variable {ty:TypeId}
theorem zgO(h:ya P f args R pv R')(σ:Nat->Nat){l:List Operand}{first:List V}
 (hx:okc x (.one (.cl f first caps))) (hl:zeK l ss) (hle:zH (ones first++ss++ones caps) (Ss.ren σ args)) (hi:injB σ R.ids=true) (hi2:injB σ R'.ids=true)
 (hcR:x9 (R.ids++R'.ids) R'=true):
 PnO P ⟨d,.call ⟨.value x,l.toArray,ts⟩,ty,ps,af,g⟩ (rq x (.one (.cl f first caps))++rqs l ss) (R.ren σ) ((yc R R').map σ) pv (tb (R'.ren σ)++xy (R.ids.map σ)):=by
 intro C st M ρ a w J U hT hF K Q hk;rw[za]at U;have e1:=J.evS (zz hx U.1);have e2:=J.zhE (w8 hl U.2);simp only[RepS,RepV]at e1;obtain⟨xs,ys,e3,e4,e5⟩:=e1
 have e6:RepSs M (λi=>ρ (σ i)) args (xs++l.map a.eval++ys):=
  (RepSs.ren _ _).1 (hle _ _ _ (yF (yF (yJ e4) e2) (yJ e5)))
 have tk: ∀i r,tg (tb R) i=some r->tg st.tab (σ i)=some (r.ren σ):=λi r hm=>xm hT (zcf (zQ hm))
 have e7:wc M (λi=>ρ (σ i)) w (tb R):=⟨λi r hr=>(J.zP.res _ _ (tk i r hr)).ren,
  λi j ri rj b U h2 hne hb1 hb2=>J.zP.dis _ _ _ _ b (tk i ri U) (tk j rj h2) (yK hi i j (zR (zQ U)) (zR (zQ h2)) hne) hb1 hb2,
  λi r b U hb=>J.zP.own _ _ b (tk i r U) hb⟩
 unfold Oper.wp;rw[zby h.1 e3,Oper.upon_enter];refine Calls.mono (h.2 M _ w _ e6 e7 J.run.imm J.gok) λe w' ⟨M',ρ',he,hr⟩=>?_;subst he
 have hi3:injB σ (yc R R')=true:=by
  have key: ∀(l:List Nat) (p:Nat->Bool),injB σ l=true->injB σ (l.filter p)=true:=by
   intro l p
   induction l with
   |nil=>exact λh=>h
   |cons y ys ih=>
    intro h;simp only[injB,uo,List.all_eq_true]at h;simp only[oy];split
    ·simp only[injB,uo,List.all_eq_true];exact⟨λz hz=>h.1 z (qN.1 hz).1,ih h.2⟩
    ·exact ih h.2
  exact key _ _ hi2
 obtain⟨ρ3,h3⟩:=J.called (d:=none) hr hT hi3 hi2 hF rfl hcR rfl;exact hk _ _ _ h3
theorem zru{v:Value}(hx:okc x (.one (.p (.k (.iface t v))))):PnO P ⟨d,.panic x,ty,ps,af,g⟩ (rq x (.one (.p (.k (.iface t v))))) [] [] (.iface t v) []:=by
 intro C st M ρ a w U h1 hT hF K Q hk;have e:=U.k (zz hx h1);unfold Oper.wp
 have J:(execOp a.eval ⟨d,.panic x,ty,ps,af,g⟩).run P w= .halt (.panic (.iface t v)) w:=by
  simp[execOp,e,run_panic_iface]
 rw[J,Oper.upon_panic];exact hk M ρ w U
end
def vf(all:Array Oper)(ms:List Nat)(st:St)(l:List Law):Bool:=allLt (checkAt all ms st l) l.length
variable {C:Ctx}{D:Nat->Bool}{K:Act->World->Prop}{L:Law}{M:Mem}{a:Act}{i:Nat}{kp:RL}{o:Oper}{st:St}{w:World}{ρ:Nat->Value}
section
variable {l:List Law} {ms:List Nat}
theorem yL(hc:vf all ms st l=true)(hi:i<l.length): ∃o L,all[i]?=some o/\at? l i=some L/\(∀p∈yb o,p<i)/\
 (∀j,j<i->zcQ (nth ms i) j=true-> ∃p∈yb o,p=j\/(j<p/\zcQ (nth ms p) j=true))/\
 (∀j X,j<i->at? l j=some X->(zcQ (nth ms i) j=true\/(apart X L=true/\apart L X=true))/\ ∀id∈L.fr,noL id X=true)/\
 (∀id∈L.fr,100<=id/\freshB id st=true):=by
 have h:=yv hc i hi;unfold checkAt at h;split at h
 ·rename_i o L ho hL;simp only[uo]at h;refine⟨o,L,ho,hL,λp hp=>by have:=zM h.1.1.1 p hp;simpa [tG]using this,λj J hb=>?_,λj X J hX=>?_,λid U=>?_⟩
  ·have:=yv h.1.1.2 j J;simp only[hb,qp,tO]at this;exact anyB_pred this
  ·have:=yv h.1.2 j J;simp only[hX,uo,uU]at this;exact⟨this.1,zM this.2⟩
  ·have:=zM h.2 id U;simp only[uo]at this;exact⟨uV this.1,this.2⟩
 ·cases h
where
 anyB_pred {ms:List Nat} {j:Nat}: ∀ {l:List Nat},anyB (λp=>Nat.beq p j||(Nat.blt j p&&zcQ (nth ms p) j)) l=true-> ∃p∈l,p=j\/(j<p/\zcQ (nth ms p) j=true)
  | [],h=>by cases h
  |y::ys,h=>by
   simp only[anyB,uU,uo]at h;rcases h with(h|h)|h
   ·exact⟨y,ue,.inl (uH h)⟩
   ·exact⟨y,ue,.inr ⟨by simpa [tG]using h.1,h.2⟩⟩
   ·obtain⟨p,h1,h2⟩:=anyB_pred h;exact⟨p,uP _ h1,h2⟩
theorem xW(hc:vf all ms st l=true)(hD:Down all D): ∀(i:Nat),i<l.length-> ∀o,all[i]?=some o->(∀p∈yb o,D p=true)-> ∀j,j<i->zcQ (nth ms i) j=true->D j=true:=by
 intro i
 induction i using Nat.strongRecOn with
 |_ i ih=>
  intro hi o ho hp j hj hb;obtain⟨o',L,J,hL,hlt,hbit,_⟩:=yL hc hi;rw[ho]at J;simp only[ui]at J;subst J;obtain⟨p,U,h1⟩:=hbit j hj hb;rcases h1 with rfl|⟨hjp,h1⟩
  ·exact hp p U
  ·have hpi:=hlt p U;obtain⟨op,_,hop,_⟩:=yL hc (i:=p) ua;exact ih p hpi ua _ hop (hD p _ hop (hp p U)) j hjp h1
theorem zaf(hc:vf all ms st l=true)(hD:Down all D)(hi:i<l.length)(ho:all[i]?=some o)(hn:D i=false)(hp: ∀p∈yb o,D p=true)
 (hL:at? l i=some L) {j:Nat} {X:Law} (hX:at? l j=some X) (J:D j≠decide (j<i)) (hji:j≠i):apart X L=true/\apart L X=true:=by
 have hj:j<l.length:=wi hX;rcases tp j i with h|h
 ·have U:D j=false:=by
   cases e:D j
   ·rfl
   ·rw[e,uT h]at J;exact absurd rfl J
  obtain⟨o',L',ho',hL',_,_,h3,_⟩:=yL hc hi;rw[hL]at hL';simp only[ui]at hL';subst hL';rcases(h3 j X h hX).1 with h4|h4
  ·have:=xW hc hD i hi o ho hp j h h4;rw[U]at this;cases this
  ·exact h4
 ·have U:D j=true:=by
   cases e:D j
   ·rw[e,uJ ua]at J;exact absurd rfl J
   ·rfl
  obtain⟨oj,Lj,hoj,hLj,_,_,h3,_⟩:=yL hc hj;rw[hX]at hLj;simp only[ui]at hLj;subst hLj;rcases(h3 i L ua hL).1 with h4|h4
  ·have:=xW hc hD j hj oj hoj (hD j oj hoj U) i ua h4;rw[hn]at this;cases this
  ·exact⟨h4.2,h4.1⟩
theorem zlm(hd:wW P all st l)(hc:vf all ms st l=true)(hD:Down all D)(hi:i<l.length)(ho:all[i]?=some o)(hn:D i=false)(hp: ∀p∈yb o,D p=true)
 (hC:C.low) (hH:Holds C (apps st (sel D l)) M ρ a w) {Q:Exit->Act->World->Prop}
 (hk: ∀a' w' M' ρ',Holds C (apps st (sel (zge D i) l)) M' ρ' a' w'->K a' w'):if Region.wanted o (yielded all a.tmps)then o.wp P a w K Q else K (a.put o.dst undef) w:=by
 obtain⟨o',L,U,hL,_,_,h3,h4⟩:=yL hc hi;rw[ho]at U;simp only[ui]at U;subst U;obtain⟨o',U,hstep,hdst,hS,hT,hdk⟩:=hd.at hL;rw[ho]at U;simp only[ui]at U;subst U;have ap: ∀j X,at? l j=some X->D j≠decide (j<i)->j≠i->apart X L=true/\apart L X=true:=λj X J hne hji=>zaf hc hD hi ho hn hp hL J hne hji
 have eqi: ∀j X,at? l j=some X->(apart X L=true->False)->D j=decide (j<i):=λj X J hno=>by
  by_cases hji:j=i
  ·subst hji;rw[hn];simp
  ·by_cases hne:D j=decide (j<i)
   ·exact hne
   ·exact(hno (ap j X J hne hji).1).elim
 have hS':okS L.rs (apps st (sel D l)):=jT hS λk hk=>zaz λj X J hw=>eqi j X J λh=>by have:=(vg h hw).1;rw[hk]at this;cases this
 have hT':okT L.rt (apps st (sel D l)):=vh hT λk hk=>jt λj X J hw=>eqi j X J λh=>by have:=(wj h hw).1;rw[hk]at this;cases this
 have hF':okF C L.fr (apps st (sel D l)):=by
  have one: ∀id∈L.fr,wG C id (apps st (sel D l)):=λid hid=>by
   refine xX (h4 id hid).2 (by
    cases e:tg C.tab0 id with
    |none=>rfl
    |some r=>have:=hC id r e;have:=(h4 id hid).1;omega) λX J=>?_
   obtain⟨j,hj,hX'⟩:=zag J;rcases tp j i with h|h
   ·exact(h3 j X h hX').2 id hid
   ·have hji:j≠i:=λe=>by subst e;rw[hn]at hj;cases hj
    exact zbB (ap j X hX' (by rw[hj,uJ ua];simp) hji).1 id hid
  have: ∀fr:List Nat,(∀id∈fr,wG C id (apps st (sel D l)))->okF C fr (apps st (sel D l)):=λfr=>by
   induction fr with
   |nil=>exact λ_=>trivial
   |cons x xs ih=>exact λh=>⟨h x ue,ih λid hid=>h id (uP _ hid)⟩
  exact this _ one
 refine hstep C _ M ρ a w hH hS' hT' hF' (by rw[wv,<-hdst];exact hdk) K Q λa' w' M' ρ' hH'=>hk a' w' M' ρ' (hH'.ext ?_ ?_ ?_)
 ·rw[wv];simp only[app,wv]
 ·intro k
  have e0:sg (app o.dst L.v L.wt (apps st (sel D l))).sl k=if wr L k=true then some L.v else sg (apps st (sel D l)).sl k:=by
   rw[<-hdst];exact vo st L (sel D l) k
  rw[e0];by_cases hw:wr L k=true
  ·rw[uv hw]
   exact zdV hL (yf D i) hw λj X J hij hDj=>by
    rw[zA ua]at hDj;cases hx:wr X k with
    |false=>rfl
    |true=>
     have:=(vg (ap j X J (by rw[hDj,uJ ua];simp) ua).1 hx).2;rw[hw]at this;cases this
  ·rw[uu hw]
   exact zaz λj X J hx=>zA λe=>by
    subst e;rw[hL]at J;simp only[ui]at J;subst J;exact hw hx
 ·intro k;cases hw:wrT L k with
  |true=>
   simp only[app]
   exact zbC hL (yf D i) hw λj X J hij hDj=>by
    rw[zA ua]at hDj;cases hx:wrT X k with
    |false=>rfl
    |true=>
     have:=(wj (ap j X J (by rw[hDj,uJ ua];simp) ua).1 hx).2;rw[hw]at this;cases this
  |false=>
   simp only[app];rw[y2 hw]
   exact jt λj X J hx=>zA λe=>by
    subst e;rw[hL]at J;simp only[ui]at J;subst J;rw[hw]at hx;cases hx
def checkP(all:Array Oper)(ms:List Nat)(st:St)(l:List Law)(L:Law)(kp:List Nat):Bool:=
 match all[l.length]? with
 |some o=>
  allB (λp=>Nat.blt p l.length) (yb o)&&
  allLt (λj=> !zcQ (nth ms l.length) j||anyB (λp=>Nat.beq p j||(Nat.blt j p&&zcQ (nth ms p) j)) (yb o)) l.length&&
  allLt (λj=>match at? l j with
   |some X=>(zcQ (nth ms l.length) j||(apart X L&& !anyB (λi=>hasB i kp) (keysT X.wt)))&&allB (λid=>noL id X) L.fr
   |none=>false) l.length&&
  allB (λid=>Nat.ble 100 id&&freshB id st) L.fr&&
  allLt (λq=>match all[q+l.length+1]? with
   |some o'=>allB (λp=>Nat.blt p (q+l.length+1)) (yb o')&&anyB (λp=>Nat.ble l.length p) (yb o')
   |none=>true) (all.size - l.length)
 |none=>false
theorem Holds.drop{st':St}(h:Holds C st M ρ a w)(U:st'.n=st.n)(hs: ∀k s,sg st'.sl k=some s->sg st.sl k=some s)(J: ∀i r,tg st'.tab i=some r->tg st.tab i=some r):Holds C st' M ρ a w where
 dfr:=h.dfr
 sz:=by rw[U];exact h.sz
 slots:=λk s e=>h.slots k s (hs k s e)
 zP:=⟨λi r e=>h.zP.res i r (J i r e),λi j ri rj b e1 e2=>h.zP.dis i j ri rj b (J i ri e1) (J j rj e2),λi r b e=>h.zP.own i r b (J i r e)⟩
 ownf:=λi r b e=>h.ownf i r b (J i r e)
 run:=h.run
 keep:=h.keep
theorem zrv(hc:vf all ms st l=true)(hp:checkP all ms st l L kp.ids=true)(ho:all[l.length]?=some o)(hL:zql P all o L.rs L.rt L.fr pv L.wt)
 (hS:okS L.rs (apps st l)) (hT:okT L.rt (apps st l)) (hK:okT kp (apps st l)) (hC:C.low) (hD:Down all D) (hpr: ∀p∈yb o,D p=true)
 (hH:Holds C (apps st (sel D l)) M ρ a w) {Q:Exit->Act->World->Prop}
 (hQ: ∀a w M ρ,Holds C ⟨st.n,[],L.wt++tb kp⟩ M ρ a w->Q (.panic (chn pv)) a w):if Region.wanted o (yielded all a.tmps)then o.wp P a w K Q else K (a.put o.dst undef) w:=by
 unfold checkP at hp;rw[ho]at hp;simp only[uo]at hp;obtain⟨⟨⟨⟨_,h2⟩,h3⟩,h4⟩,_⟩:=hp
 have ran: ∀j,j<l.length->zcQ (nth ms l.length) j=true->D j=true:=λj hj hb=>by
  have:=yv h2 j hj;simp only[hb,qp,tO]at this;obtain⟨p,hpm,h⟩:=yL.anyB_pred this;rcases h with rfl|⟨hjp,h⟩
  ·exact hpr p hpm
  ·have hlt:p<l.length:=by
    have:=zM (p:=λp=>Nat.blt p l.length) uf p hpm;simpa [tG]using this
   obtain⟨op,_,hop,_⟩:=yL hc (i:=p) hlt;exact xW hc hD p hlt op hop (hD p op hop (hpr p hpm)) j hjp h
 have two: ∀j X,at? l j=some X->(zcQ (nth ms l.length) j=true\/(apart X L=true/\anyB (λi=>hasB i kp.ids) (keysT X.wt)=false))/\ ∀id∈L.fr,noL id X=true:=λj X J=>by
  have:=yv h3 j (wi J);simp only[J,uo,uU,ux]at this;exact⟨this.1,zM this.2⟩
 have full:sel (λj=>decide (j<l.length)) l=l:=zbg (uF _)
 have hS':okS L.rs (apps st (sel D l)):=jT hS λk hk=>by
  have e:sg (apps st (sel D l)).sl k=sg (apps st (sel (λj=>decide (j<l.length)) l)).sl k:=zaz λj X J hw=>by
   rw[uT (wi J)];rcases(two j X J).1 with h|h
   ·exact ran j (wi J) h
   ·have:=(vg h.1 hw).1;rw[hk]at this;cases this
  rw[full]at e;exact e
 have hT':okT L.rt (apps st (sel D l)):=vh hT λk hk=>by
  have e:tg (apps st (sel D l)).tab k=tg (apps st (sel (λj=>decide (j<l.length)) l)).tab k:=jt λj X J hw=>by
   rw[uT (wi J)];rcases(two j X J).1 with h|h
   ·exact ran j (wi J) h
   ·have:=(wj h.1 hw).1;rw[hk]at this;cases this
  rw[full]at e;exact e
 have hK':okT kp (apps st (sel D l)):=vh hK λk hk=>by
  have e:tg (apps st (sel D l)).tab k=tg (apps st (sel (λj=>decide (j<l.length)) l)).tab k:=jt λj X J hw=>by
   rw[uT (wi J)];rcases(two j X J).1 with h|h
   ·exact ran j (wi J) h
   ·have:=jG h.2 k hw;rw[hk]at this;cases this
  rw[full]at e;exact e
 have hF':okF C L.fr (apps st (sel D l)):=by
  have one: ∀id∈L.fr,wG C id (apps st (sel D l)):=λid U=>by
   have:=zM h4 id U;simp only[uo]at this
   refine xX this.2 (by
    cases e:tg C.tab0 id with
    |none=>rfl
    |some r=>have:=hC id r e;have:=uV (by assumption:Nat.ble 100 id=true/\_).1;omega) λX J=>?_
   obtain⟨j,_,hX'⟩:=zag J;exact(two j X hX').2 id U
  have: ∀fr:List Nat,(∀id∈fr,wG C id (apps st (sel D l)))->okF C fr (apps st (sel D l)):=λfr=>by
   induction fr with
   |nil=>exact λ_=>trivial
   |cons x xs ih=>exact λh=>⟨h x ue,ih λid U=>h id (uP _ U)⟩
  exact this _ one
 refine hL C _ M ρ a w hH hS' hT' hF' K Q λM' ρ' w' hH'=>hQ a w' M' ρ' (hH'.drop (by rw[wv]) (λk s e=>by cases e) λi r e=>?_)
 cases hk:hasB i (keysT L.wt)with
 |true=>
  have e:tg (L.wt++tb kp) i=some r:=e;show tg (L.wt++(apps st (sel D l)).tab) i=some r;rw[<-e];exact wM hk
 |false=>
  have e:tg (L.wt++tb kp) i=some r:=e;show tg (L.wt++(apps st (sel D l)).tab) i=some r;rw[y2 hk]at e⊢;exact xm hK' (zQ e)
theorem zln{id:Nat}(hm:P.follows .mixedOrders=true)(hd:wW P all st l)(hc:vf all ms st l=true)(hp:checkP all ms st l L kp.ids=true)(ho:all[l.length]?=some o)(hL:zql P all o L.rs L.rt L.fr pv L.wt)
 (hS:okS L.rs (apps st l)) (hT:okT L.rt (apps st l)) (hK:okT kp (apps st l)) (hC:C.low)
 {Q:Exit->Act->World->Prop} (hQ: ∀a w M ρ,Holds C ⟨st.n,[],L.wt++tb kp⟩ M ρ a w->Q (.panic (chn pv)) a w)
 (hH:Holds C st M ρ a w):(Code.region id all true).wp P Q a w:=by
 have hsz:l.length<all.size:=(tz.1 ho).1;have hp0:=hp;unfold checkP at hp0;rw[ho]at hp0;simp only[uo]at hp0;obtain⟨⟨⟨⟨h1,_⟩,_⟩,_⟩,h5⟩:=hp0
 have main: ∀(fuel:Nat) (listed:Array Bool) (M:Mem) (ρ:Nat->Value) (a:Act) (w:World),listed.size=all.size->left (λj=>listed.getD j false) all.size=fuel->Down all (λj=>listed.getD j false)->
  (∀k,l.length<=k->listed.getD k false=false)->Holds C (apps st (sel (λj=>listed.getD j false) l)) M ρ a w->wpAny P .any all Q fuel listed a w:=by
  intro fuel
  induction fuel with
  |zero=>
   intro listed M ρ a w hs hl hD hno hH;have:=ju hl l.length hsz;rw[hno l.length (uF _)]at this;cases this
  |succ fuel ih=>
   intro listed M ρ a w hs hl hD hno hH;refine⟨λhr=>?_,λi hi=>?_⟩
   ·exfalso
    have fullj: ∀j,j<=l.length->listed.getD j false=true:=by
     intro j
     induction j using Nat.strongRecOn with
     |_ j ih=>
      intro hj;cases e:listed.getD j false with
      |true=>rfl
      |false=>
       obtain⟨oj,hoj,U⟩: ∃oj,all[j]?=some oj/\ ∀p∈yb oj,p<j:=by
        by_cases h:j=l.length
        ·subst h;exact⟨o,ho,λp hp=>by have:=zM h1 p hp;simpa [tG]using this⟩
        ·obtain⟨oj,_,h1,_,h2,_⟩:=yL hc (i:=j) ua;exact⟨oj,h1,h2⟩
       have:j∈Region.ready .any all listed:=mem_ready.2 ⟨by
        have U:j<listed.size:=by omega
        simp only[Array.getD,U,ou]at e ⊢; exact e,oj,hoj,λe' he hb=>ih e'.on (U _ (wm he hb)) (by have:=U _ (wm he hb);omega)⟩
       rw[hr]at this;cases this
    have:=fullj l.length (uF _);rw[hno l.length (uF _)]at this;cases this
   ·obtain⟨h1,oi,J,hall⟩:=mem_ready.1 hi;have hx:i<all.size:=(tz.1 J).1;have U:i<listed.size:=by omega
    have hn:listed.getD i false=false:=by simp only[Array.getD,U,ou]at h1 ⊢; exact h1
    have hput: ∀j,(listed.setIfInBounds i true).getD j false=zge (λj=>listed.getD j false) i j:=λj=>by
     by_cases e:j=i
     ·subst e;simp[yf,U]
     ·rw[zA e,getD_set_ne false (λh=>e h.symm)]
    have hput':(λj=>(listed.setIfInBounds i true).getD j false)=zge (λj=>listed.getD j false) i:=funext hput
    have hpr: ∀p∈yb oi,listed.getD p false=true:=λp hp=>by
     obtain⟨e,he,hb,rfl⟩:=zbD hp;exact hall e he hb
    unfold wpOp;simp only[J]
    have key:if Region.wanted oi (yielded all a.tmps)then oi.wp P a w (wpAny P .any all Q fuel (listed.setIfInBounds i true)) Q else wpAny P .any all Q fuel (listed.setIfInBounds i true) (a.put oi.dst undef) w:=by
     rcases Nat.lt_trichotomy i l.length with h|h|h
     ·refine zlm hd hc hD h J hn hpr hC hH λa' w' M' ρ' hH'=>?_;refine ih _ M' ρ' a' w' (by simpa using hs) ?_ ?_ ?_ ?_
      ·rw[hput'];have:=zaA (D:=λj=>listed.getD j false) hn (n:=all.size);rw[uv hx]at this;omega
      ·rw[hput'];intro k ok hk hDk p hpk;by_cases e:k=i
       ·subst e;rw[J]at hk;simp only[ui]at hk;subst hk;by_cases e2:p=k
        ·subst e2;exact yf _ _
        ·rw[zA e2];exact hpr p hpk
       ·rw[zA e]at hDk;have:=hD k ok hk hDk p hpk;by_cases e2:p=i
        ·subst e2;exact yf _ _
        ·rw[zA e2];exact this
      ·intro k hk;rw[hput,zA ua];exact hno k hk
      ·rw[hput'];exact hH'
     ·subst h;rw[ho]at J;simp only[ui]at J;subst J;exact zrv hc hp ho hL hS hT hK hC hD hpr hH hQ
     ·exfalso;have:=yv h5 (i - l.length - 1) ua;rw[show i - l.length - 1+l.length+1=i by omega,J]at this;simp only[uo]at this
      have any: ∀ {ps:List Nat},anyB (λp=>Nat.ble l.length p) ps=true-> ∃p∈ps,l.length<=p:=by
       intro ps
       induction ps with
       |nil=>intro h;cases h
       |cons y ys ih=>
        intro h;simp only[anyB,uU]at h;rcases h with h|h
        ·exact⟨y,ue,uV h⟩
        ·obtain⟨p,h1,h2⟩:=ih h;exact⟨p,uP _ h1,h2⟩
      obtain⟨p,hpm,hge⟩:=any this.2;have:=hpr p hpm;rw[hno p hge]at this;cases this
    split
    ·rename_i hw;rw[uv hw]at key;exact .inl key
    ·rename_i hw;rw[uu hw]at key;exact key
 have h0: ∀j,(Array.replicate all.size false).getD j false=false:=λj=>by
  by_cases h:j<all.size
  ·simp[h]
  ·simp[h]
 have h0':(λj=>(Array.replicate all.size false).getD j false)=λ_=>false:=funext h0
 refine wp_region_any hm (main _ _ M ρ a _ ue ?_ ?_ (λk _=>h0 k) ?_)
 ·rw[h0']
  have: ∀n,left (λ_=>false) n=n:=λn=>by
   induction n with
   |zero=>rfl
   |succ n ih=>simp only[left,ih];omega
  exact this _
 ·rw[h0'];intro i o _ h;cases h
 ·rw[h0',jH λ_ _=>rfl];exact hH.grow (λ_ _=>rfl) (uF _) rfl rfl rfl
end
variable {Q:Exit->St->Prop}{done:List Law}{g0:Option (Nat×Bool)}{rest:List Oper}{sl0:zf}{tab0:Tab}
section
variable {k:List Frm} {n:Nat} {sl:zf}
def pick(tab:Tab):List Nat->RL
 | []=>[]
 |i::l=>match tg tab i with
  |some r=>(i,r)::pick tab l
  |none=>pick tab l
theorem zdW{n:Nat}{sl:zf}{tab:Tab}: ∀ {l:List Nat},okT (pick tab l) ⟨n,sl,tab⟩
 | []=>trivial
 |i::l=>by
  simp only[pick];split
  ·rename_i r h;exact⟨h,zdW⟩
  ·exact zdW
theorem zvy(T:Ty P){fr:List Nat}(hC:C.low)(ks:List Nat)(hL:zql P all o rs rt fr pv wt)(hS:okS rs ⟨n,sl,tab⟩)(hT:okT rt ⟨n,sl,tab⟩)
 (hc:vf all (vM all.toList []) ⟨n,sl0,tab0⟩ done=true) (hp:checkP all (vM all.toList []) ⟨n,sl0,tab0⟩ done ⟨none,rs,rt,fr,.un,wt⟩ (pick tab ks).ids=true)
 (g:Goal P C (.fin (.panic (chn pv))) k n [] (wt++tb (pick tab ks)) Q):Goal P C (.ops all (o::rest) (some (sl0,tab0,done))) k n sl tab Q:=by
 intro hD hs U hr M ρ a w id J
 have ho:all[done.length]?=some o:=by
  have:(all.toList.drop done.length)[0]?=some o:=by rw[hr];rfl
  rw[uY]at this;simpa using this
 refine zln (L:=⟨none,rs,rt,fr,.un,wt⟩) (kp:=pick tab ks) T.mix hD hc hp ho hL (jT hS λk _=>(hs k).symm) (vh hT λi _=>(U i).symm) (vh (zdW (n:=n) (sl:=sl)) λi _=>(U i).symm) hC (λa w M ρ J=>g M ρ a w J) J
theorem xE(T:Ty P){l:List Operand}{ty:TypeId}(hC:C.low){first:List V}
 (h:ya P f args R pv R') (σ:Nat->Nat) (ks:List Nat) (hx:ev sl x=some (.one (.cl f first caps))) (hl:evs sl l=some ss) (ha:zH (ones first++ss++ones caps) (Ss.ren σ args)) (hi:injB σ R.ids=true) (J:injB σ R'.ids=true)
 (U:x9 (R.ids++R'.ids) R'=true) (hT:rdT tab (R.ren σ)=R.ren σ) (hm:metL all sl g0=some gs)
 (hc:vf all (vM all.toList []) ⟨n,sl0,tab0⟩ done=true) (hp:checkP all (vM all.toList []) ⟨n,sl0,tab0⟩ done ⟨none,gs++(rq x (.one (.cl f first caps))++rqs l ss),R.ren σ,(yc R R').map σ,.un,tb (R'.ren σ)++xy (R.ids.map σ)⟩ (pick tab ks).ids=true)
 (g:Goal P C (.fin (.panic (chn pv))) k n [] ((tb (R'.ren σ)++xy (R.ids.map σ))++tb (pick tab ks)) Q):
 Goal P C (.ops all (⟨d,.call ⟨.value x,l.toArray,ts⟩,ty,ps,af,g0⟩::rest) (some (sl0,tab0,done))) k n sl tab Q:=by
 have e1:=zB (st:=⟨n,sl,tab⟩) hx;have e2:=xO (st:=⟨n,sl,tab⟩) hl;have:=zdU hm (zgO (ty:=ty) (ps:=ps) (af:=af) (g:=g0) (d:=d) (ts:=ts) h σ e1.1 e2.1 ha hi J U) (n:=n) (tab:=tab);exact zvy T hC ks this.1 (by rw[za,za];exact⟨this.2,e1.2,e2.2⟩) (jg hT) hc hp g
theorem zcg{P:Program}{C:Ctx}{Q:Exit->St->Prop}{ch:List PanicEntry}{st:St}: ∀ {k:List Frm},Q (.panic ch) st->unw P C k Q (.panic ch) st
 | [],h=>h
 | .seq _::k,h=>zcg (k:=k) h
 | .blk _::k,h=>zcg (k:=k) h
end
def zvz(pv:Value)(R R':RL):Exit->St->Prop:=λe st=>e= .panic (chn pv)/\ ∃σ:Nat->Nat,mR σ st.tab R'/\injB σ R'.ids=true/\allB (λi=>Nat.beq (σ i) i) R.ids=true
variable {c:Code}{fn:Func}
theorem zX(_T:Ty P)(hf:P.funcs[f]?=some fn)
 (hname:(fn.name== "runtime.NumGoroutine")=false) (U:fn.body=some c) (hlow:allB (λi=>Nat.blt i 100) R.ids=true)
 (hn:Nat.ble args.length fn.ntmps=true) (body: ∀C:Ctx,C.low->Goal P C (.code c) [] fn.ntmps (enum 0 args) (tb R) (zvz pv R R')):ya P f args R pv R':=by
 refine⟨⟨fn,hf,hname,by rw[U];rfl⟩,λM ρ w xs hx hT hI hG=>?_⟩;have hlen:=hx.length;have hnn:args.length<=fn.ntmps:=uV hn
 have hgf: ∀p∈G2,¬zeN (tb R) ρ p.1:=λp hp ⟨id,r,h1,h2⟩=>by
  obtain⟨v,hv⟩:=zlo p hp;have:=hG.le _ _ _ hv;rw[hT.own id r p.1 h1 h2 0]at this;cases this
 let C:Ctx:=⟨w,M,ρ,tb R,hG,hgf,[]⟩
 have hC:C.low:=λi r h=>by
  have:=zM hlow i (zR (zQ h));simpa [tG]using this
 have hH:Holds C ⟨fn.ntmps,enum 0 args,tb R⟩ M ρ { tmps:=xs.toArray++Array.replicate (fn.ntmps - xs.toArray.size) undef,defers:=[] } w:=by
  refine⟨rfl,ug,λk s hk=>?_,hT,λid r b h1 h2 h3=>h3.2 ⟨id,r,h1,h2⟩,⟨hI,λ_ _=>rfl,uF _,MLe.refl _,λ_ _ _ h=> .inl h,rfl,rfl,rfl⟩,λ_ _ _=>rfl⟩;have:=(jI (n:=fn.ntmps - xs.toArray.size) hx hk).2;simpa using this
 refine calls_of_wp hf U (wp_mono (body C hC M ρ _ w hH) λe a w' ⟨st,M',ρ',hq,J⟩=>?_);simp only[unw]at hq;obtain⟨he,σ,h3,h4,h5⟩:=hq
 have frb: ∀b,¬C.fr b->w.heap.size<=b\/zeN (tb R) ρ b:=λb U=>by
  rcases tp b w.heap.size with h|h
  ·exact .inr (qD λhn=>U ⟨h,hn⟩)
  ·exact .inl h
 have tk: ∀i r,tg (tb R') i=some r->tg st.tab (σ i)=some (r.ren σ):=λi r h=>zdc h3 (zQ h)
 have ti: ∀i r,tg (tb R') i=some r->i∈R'.ids:=λi r h=>zR (zQ h)
 subst he;refine⟨J.dfr,M',λi=>ρ' (σ i),rfl,?_⟩
 refine⟨by simp only[RepS],⟨λi r hr=>(J.zP.res _ _ (tk i r hr)).ren,?_,?_⟩,J.run.imm,J.run.base,λb o u hu=>(J.run.newM b o u hu).imp id (frb b),?_,λb U hn=>J.run.fram b ⟨U,hn⟩,
  J.run.size,J.run.os,J.run.tape,J.run.output,?_⟩
 ·intro i j ri rj b e1 e2 hne hb1 hb2;exact J.zP.dis _ _ _ _ b (tk i ri e1) (tk j rj e2) (yK h4 i j (ti i ri e1) (ti j rj e2) hne) hb1 hb2
 ·intro i r b e1 U;exact J.zP.own _ _ b (tk i r e1) U
 ·rintro b ⟨i,r,e1,U⟩;exact frb b (J.ownf _ _ b (tk i r e1) U)
 ·intro id hid;have e:=uH (zM h5 id hid);rw[e];obtain⟨r,hr⟩:=jU hid;exact J.keep id r hr
inductive End where
 |ok (res:S) (R':RL)
 |pn (pv:Value) (R':RL)
 |no
def FnX(P:Program)(f:FuncId)(args:List S)(R:RL):End->Prop
 | .ok res R'=>zh P f args R res R'
 | .pn pv R'=>ya P f args R pv R'
 | .no=>True
def modeOf:Option Value->FrameMode
 |none=> .returning
 |some v=> .panicking (chn v)
def rcV:Option Value->Value
 |none=> .nilIface
 |some v=>v
def rcS(rv:Option Value):S:= .one (.p (.k (rcV rv)))
def ztQ(P:Program)(f:FuncId)(args:List S)(R:RL)(rv:Option Value)(R':RL):Prop:=
 jM P f/\ ∀(M:Mem) (ρ:Nat->Value) (w:World) (xs:List Value),RepSs M ρ args xs->wc M ρ w (tb R)->Imm M w->GOk M w->
  CallsD P f xs.toArray (modeOf rv) w λe u' w'=>(∃v,e= .returned v)/\settle u'= .returning/\ ∃M' ρ',Ret M ρ w R .un R' undef M' ρ' w'
variable {ch:List PanicEntry}{m:Nat}
section
variable {k:List Frm} {n:Nat} {sl:zf}
theorem gU(g:Goal P C (.fin (.panic ch)) [] n sl tab Q):Goal P C (.fin (.panic ch)) k n sl tab Q:=
 λM ρ a w U=>let ⟨st,M',ρ',hq,J⟩:=g M ρ a w U;⟨st,M',ρ',zcg hq,J⟩
theorem zdd{α:Type}{φ:α->Prop}{T:α->zf×Tab}{μ:α->Nat}(g:Goal P C (.fin (.panic ch)) k n sl tab Q):Goal P C (.fin (.panic ch)) [] n sl tab (zft φ T μ n m (unw P C k Q)):=g
end
variable {res:S}
theorem zh8(h0:C.tab0=tb R){M':Mem}{ρ':Nat->Value}{w':World}(J:Holds C st M' ρ' a w'){σ:Nat->Nat}{v:Value}(hv:RepS M' ρ' (res.ren σ) v)
 (h3:mR σ st.tab R') (h4:injB σ R'.ids=true) (h5:allB (λi=>Nat.beq (σ i) i) R.ids=true):Ret C.M0 C.ρ0 C.w0 R res R' v M' (λi=>ρ' (σ i)) w':=by
 have frb: ∀b,¬C.fr b->C.w0.heap.size<=b\/zeN (tb R) C.ρ0 b:=λb U=>by
  rcases tp b C.w0.heap.size with h|h
  ·exact .inr (qD λhn=>U ⟨h,by rw[h0];exact hn⟩)
  ·exact .inl h
 have tk: ∀i r,tg (tb R') i=some r->tg st.tab (σ i)=some (r.ren σ):=λi r h=>zdc h3 (zQ h)
 have ti: ∀i r,tg (tb R') i=some r->i∈R'.ids:=λi r h=>zR (zQ h)
 refine⟨(RepS.ren _ _).1 hv,⟨λi r hr=>(J.zP.res _ _ (tk i r hr)).ren,?_,?_⟩,J.run.imm,J.run.base,λb o u hu=>(J.run.newM b o u hu).imp id (frb b),?_,λb U hn=>J.run.fram b ⟨U,by rw[h0];exact hn⟩,
  J.run.size,J.run.os,J.run.tape,J.run.output,?_⟩
 ·intro i j ri rj b e1 e2 hne hb1 hb2;exact J.zP.dis _ _ _ _ b (tk i ri e1) (tk j rj e2) (yK h4 i j (ti i ri e1) (ti j rj e2) hne) hb1 hb2
 ·intro i r b e1 U;exact J.zP.own _ _ b (tk i r e1) U
 ·rintro b ⟨i,r,e1,U⟩;exact frb b (J.ownf _ _ b (tk i r e1) U)
 ·intro id hid;have e:=uH (zM h5 id hid);rw[e];obtain⟨r,hr⟩:=jU hid;exact J.keep id r (by rw[h0];exact hr)
theorem vN{xs:List Value}(J:allB (λi=>Nat.blt i 100) R.ids=true)(hn:Nat.ble args.length m=true)
 (hx:RepSs M ρ args xs) (hT:wc M ρ w (tb R)) (hI:Imm M w) (hG:GOk M w):
 ∃C:Ctx,C.low/\C.w0=w/\C.M0=M/\C.ρ0=ρ/\C.tab0=tb R/\C.df=[]/\Holds C ⟨m,enum 0 args,tb R⟩ M ρ { tmps:=xs.toArray++Array.replicate (m - xs.toArray.size) undef,defers:=[] } w:=by
 have hlen:=hx.length;have hnn:args.length<=m:=uV hn
 have U: ∀p∈G2,¬zeN (tb R) ρ p.1:=λp hp ⟨id,r,h1,h2⟩=>by
  obtain⟨v,hv⟩:=zlo p hp;have:=hG.le _ _ _ hv;rw[hT.own id r p.1 h1 h2 0]at this;cases this
 refine⟨⟨w,M,ρ,tb R,hG,U,[]⟩,λi r h=>by
  have:=zM J i (zR (zQ h));simpa [tG]using this,rfl,rfl,rfl,rfl,rfl,?_⟩
 refine⟨rfl,ug,λk s hk=>?_,hT,λid r b h1 h2 h3=>h3.2 ⟨id,r,h1,h2⟩,⟨hI,λ_ _=>rfl,uF _,MLe.refl _,λ_ _ _ h=> .inl h,rfl,rfl,rfl⟩,λ_ _ _=>rfl⟩;have:=(jI (n:=m - xs.toArray.size) hx hk).2;simpa using this
variable {cs:List Frame}
theorem zgP(rv:Option Value){c0:Frame}(h:c0.mode=modeOf rv):
 (match rv with
   |none=>recoverD (c0::cs)=none
   |some v=> ∃J,settle J= .returning/\recoverD (c0::cs)=some (v,{ c0 with mode:=J }::cs)):=by
 cases rv with
 |none=>simp only[modeOf]at h;simp only[recoverD,h]
 |some v=>
  simp only[modeOf,chn]at h;exact⟨.panicking [{ v:=v,recovered:=true }],rfl,by simp only[recoverD,h]⟩
theorem zch{ρ:Operand->Value}{ty:TypeId}:
 (execOp ρ ⟨d,.call ⟨.builtin .recover,#[],ts⟩,ty,ps,af,g⟩).run P w= .ok .recover w:=by
 simp[execOp,resolve];rfl
theorem zci{ρ:Operand->Value}{ty:TypeId}:
 (execOp ρ ⟨d,.assign x,ty,ps,af,g⟩).run P w= .ok (.value (ρ x)) w:=by
 simp[execOp]
theorem zh9{P:Program}{C:Ctx}{Q:Exit->St->Prop}{e:Exit}(J:e≠ .normal): ∀ {l:List Code} {st:St},unw P C (l.map Frm.seq) Q e st->Q e st
 | [],_,h=>h
 |b::l,st,h=>zh9 J (l:=l) (by
  cases e with
  |normal=>exact absurd rfl J
  |_=>exact h)
def leftCut:Code->Code×List Code
 | .seq a b=>((leftCut a).1,(leftCut a).2++[b])
 |c=>(c,[])
def chainS(P:Program)(Q:Exit->Act->List Frame->World->Prop):List Code->Act->List Frame->World->Prop
 | []=>Q .normal
 |b::l=>b.wpS P (Exit.thenS (chainS P Q l) Q)
theorem zaZ(Q:Exit->Act->List Frame->World->Prop):Exit.thenS (Q .normal) Q=Q:=by
 funext e a cs w;cases e<;>rfl
theorem zde(K K2:Act->List Frame->World->Prop)(Q:Exit->Act->List Frame->World->Prop):Exit.thenS K (Exit.thenS K2 Q)=Exit.thenS K Q:=by
 funext e a cs w;cases e<;>rfl
theorem zcj(P:Program)(Q:Exit->Act->List Frame->World->Prop)(b:Code): ∀l:List Code,chainS P Q (l++[b])=chainS P (Exit.thenS (b.wpS P Q) Q) l
 | []=>by simp only[qg,chainS,zaZ];rfl
 |x::l=>by simp only[uN,chainS,zcj P Q b l,zde]
theorem zoD: ∀(c:Code) {Q:Exit->Act->List Frame->World->Prop} {a:Act} {cs:List Frame} {w:World},(leftCut c).1.wpS P (Exit.thenS (chainS P Q (leftCut c).2) Q) a cs w->c.wpS P Q a cs w:=by
 intro c
 induction c with
 |seq x y ihx _=>
  intro Q a cs w h;simp only[leftCut,zcj]at h;refine wpS_seq (ihx ?_);rw[zde];exact h
 |_=>
  intro Q a cs w h;simp only[leftCut,chainS,zaZ]at h;exact h
theorem zia{P:Program}{C:Ctx}{Q:Exit->St->Prop}{W:Exit->Act->List Frame->World->Prop}{cs:List Frame}(U: ∀e a w,lift C Q e a w->W e a cs w): ∀ {l:List Code} {c:Code} {st:St} {M:Mem} {ρ:Nat->Value} {a:Act} {w:World},
 Tri P C c st (unw P C (l.map Frm.seq) Q)->Holds C st M ρ a w->chainS P W (c::l) a cs w
 | [],c,st,M,ρ,a,w,h,hH=>by
   simp only[chainS,zaZ];exact wpS_of_wp (wp_mono (h M ρ a w hH) λe a' w' hl=>U e a' w' hl)
 |b::l,c,st,M,ρ,a,w,h,hH=>by
  simp only[chainS];refine wpS_of_wp (wp_mono (h M ρ a w hH) λe a' w' hl=>?_);obtain⟨st',M',ρ',hq,J⟩:=hl;cases e with
  |normal=>exact zia U (l:=l) hq J
  |_=>exact U _ a' w' ⟨st',M',ρ',zh9 (l:=b::l) ue hq,J⟩
theorem zrw(T:Ty P){id:Nat}{r1:Code}{rs:List Code}(rv:Option Value){J t2:Nat}{ty ty2:TypeId}{ps2:String}{af2:Array Edge}
 (hf:P.funcs[f]?=some fn) (hname:(fn.name== "runtime.NumGoroutine")=false) (hb:fn.body=some c)
 (hc:leftCut c=(.region id #[⟨some J,.call ⟨.builtin .recover,#[],ts⟩,ty,ps,af,none⟩,⟨some t2,.assign (.tmp J),ty2,ps2,af2,none⟩] false,r1::rs))
 (hres:fn.results=([]:List ResultVar).toArray) (hlow:allB (λi=>Nat.blt i 100) R.ids=true) (hn:Nat.ble args.length fn.ntmps=true) (h7:Nat.blt J fn.ntmps=true) (h2:Nat.blt t2 fn.ntmps=true) (hp:(rcV rv).oneCell'=true)
 (body: ∀C:Ctx,C.low->Goal P C (.code r1) (rs.map Frm.seq) fn.ntmps ((t2,rcS rv)::(J,rcS rv)::enum 0 args) (tb R) (zeL T [] R .un R')):ztQ P f args R rv R':=by
 refine⟨⟨fn,hf,hname,by rw[hb];rfl⟩,λM ρ w xs hx hT hI hG=>?_⟩;obtain⟨C,hC,e1,e2,e3,e4,e5,hH⟩:=vN hlow hn hx hT hI hG;refine callsD_of_wpS hf hb λc0 cs hu=>?_;have h7':J<fn.ntmps:=by simpa [tG]using h7
 have h2':t2<fn.ntmps:=by simpa [tG]using h2
 generalize hA:({ tmps:=xs.toArray++Array.replicate (fn.ntmps - xs.toArray.size) undef,defers:=[] }:Act)=a at hH⊢;have rep: ∀(M:Mem) (ρ:Nat->Value),RepS M ρ (rcS rv) (rcV rv):=λM ρ=>by simp only[rcS,RepS,RepV,RepPV];exact⟨uh,hp⟩
 have key: ∀(cs':List Frame),(∃U,settle U= .returning/\cs'={ c0 with mode:=U }::cs)->
  chainS P (bodyPostS P fn c0 cs λe U w'=>(∃v,e= .returned v)/\settle U= .returning/\ ∃M' ρ',Ret M ρ w R .un R' undef M' ρ' w') (r1::rs) ((a.put (some J) (rcV rv)).put (some t2) (rcV rv)) cs' w:=by
  rintro cs' ⟨U,hu1,rfl⟩;have hH2:=(hH.put (d:=J) h7' (rep M ρ)).put (d:=t2) (s:=rcS rv) (x:=rcV rv) h2' (rep M ρ);refine zia (C:=C) (λe a' w' ⟨st,M',ρ',hq,hH'⟩=>?_) (body C hC) hH2;obtain⟨he,σ,ss,g1,g2,g3,g4,g5⟩:=hq;obtain⟨v,hv,hrep⟩:=wX T hres hH' g1;have hret:=zh8 (res:= .un) (v:=undef) e4 hH' (σ:=σ) (by simp only[S.ren,RepS]) g3 g4 g5;rw[e1,e2,e3]at hret
  have fin:a'.defers=[]/\ ∃u'',{ c0 with mode:=U }::cs={ c0 with mode:=u'' }::cs/\ ∃v,(results fn a'.tmps).run P w'= .ok v w'/\(∃v',Ending.returned v= .returned v')/\settle u''= .returning/\ ∃M' ρ',Ret M ρ w R .un R' undef M' ρ' w':=
   ⟨by rw[<-e5];exact hH'.dfr,U,rfl,v,hv,⟨v,rfl⟩,hu1,M',_,hret⟩
  rcases he with rfl|rfl<;>exact fin
 refine zoD c ?_;rw[hc];refine wpS_region ?_
 have ht7:(a.put (some J) (rcV rv)).eval (.tmp J)=rcV rv:=by
  simp only[Act.eval];exact y9 (by rw[hH.sz];exact h7')
 have hr:List.range (#[(⟨some J,.call ⟨.builtin .recover,#[],ts⟩,ty,ps,af,none⟩:Oper),⟨some t2,.assign (.tmp J),ty2,ps2,af2,none⟩]).size=[0,1]:=rfl;rw[hr];have hrec:=zgP rv (c0:=c0) (cs:=cs) hu;cases rv with
 |none=>
  simp only[rcV]at key ht7;simp only[wpOpsS,tu,List.getElem?_cons_zero,tr,Region.wanted,uZ,zch,hrec,zci,Oper.upon,ht7,Exit.thenS];exact key _ ⟨c0.mode,by rw[hu];rfl,rfl⟩
 |some v=>
  obtain⟨U,h1,h2⟩:=hrec;simp only[rcV]at key ht7;simp only[wpOpsS,tu,List.getElem?_cons_zero,tr,Region.wanted,uZ,zch,h2,zci,Oper.upon,ht7,Exit.thenS];exact key _ ⟨U,h1,rfl⟩
def cutSeq:Nat->Code->List Code×Code
 |0,c=>([],c)
 |n+1,.seq a b=>(a::(cutSeq n b).1,(cutSeq n b).2)
 |_+1,c=>([],c)
theorem zck: ∀(n:Nat) (c:Code),c=(cutSeq n c).1.foldr Code.seq (cutSeq n c).2
 |0,_=>rfl
 |n+1,c=>by
  cases c with
  |seq a b=>simp only[cutSeq,List.foldr_cons];rw[<-zck n b]
  |_=>rfl
theorem zlp{P:Program}{C:Ctx}{Q:Exit->St->Prop}{r:Code}{W:Exit->Act->World->Prop}
 (hQ: ∀a w,lift C Q .normal a w->r.wp P W a w) (hE: ∀e a w,e≠ .normal->lift C Q e a w->W e a w): ∀ {l:List Code} {c:Code} {st:St} {M:Mem} {ρ:Nat->Value} {a:Act} {w:World},
 Tri P C c st (unw P C (l.map Frm.seq) Q)->Holds C st M ρ a w->(Code.seq c (l.foldr Code.seq r)).wp P W a w
 | [],c,st,M,ρ,a,w,h,hH=>wp_seq (wp_mono (h M ρ a w hH) λe U w' hl=>by
   cases e with
   |normal=>exact hQ U w' hl
   |_=>exact hE _ U w' ue hl)
 |b::l,c,st,M,ρ,a,w,h,hH=>wp_seq (wp_mono (h M ρ a w hH) λe U w' hl=>by
  obtain⟨st',M',ρ',hq,J⟩:=hl;cases e with
  |normal=>exact zlp hQ hE (l:=l) hq J
  |_=>exact hE _ U w' ue ⟨st',M',ρ',zh9 (l:=b::l) ue hq,J⟩)
def dfQ(T:Ty P)(rv:List ResultVar)(R:RL)(res:S)(R':RL)(g:FuncId)(caps:List V):Exit->St->Prop:=λe st=>
 ∃(rq:Option Value) (args:List S) (R1 R1':RL) (σ:Nat->Nat),(match rq with|none=>e= .ret\/e= .normal|some v=>e= .panic (chn v))/\ztQ P g args R1 rq R1'/\
  zH (ones caps) (Ss.ren σ args)/\okT (R1.ren σ) st/\injB σ R1.ids=true/\injB σ R1'.ids=true/\allB (λid=>Nat.ble 100 id&&freshB id st) ((yc R1 R1').map σ)=true/\x9 (R1.ids++R1'.ids) R1'=true/\
  zeL T rv R res R' .ret ⟨st.n,st.sl,(tb (R1'.ren σ)++xy (R1.ids.map σ))++st.tab⟩
def dfA(T:Ty P)(rv:List ResultVar)(R:RL)(res:S)(R':RL)(n:Nat)(sl1:zf)(Rm:RL):Exit->St->Prop
 | .normal,st=> ∃σ:Nat->Nat,st.n=n/\mS σ st sl1/\mR σ st.tab Rm/\injB σ Rm.ids=true/\allB (λi=>Nat.beq (σ i) i) R.ids=true
 |e,st=>zeL T rv R res R' e st
theorem Holds.up{C':Ctx}{st1:St}{M1:Mem}{ρ1:Nat->Value}{a1:Act}{w1:World}(J:Holds C st1 M1 ρ1 a1 w1)(hw:C'.w0=w1)(hM:C'.M0=M1)(U: ∀b,C.fr b->C'.fr b)(h:Holds C' st M ρ a w)
 (hk: ∀id r,tg C.tab0 id=some r->ρ id=C.ρ0 id):Holds { C with df:=C'.df } st M ρ a w where
 dfr:=h.dfr
 sz:=h.sz
 slots:=h.slots
 zP:=h.zP
 ownf:=λid r b hr hb hn=>h.ownf id r b hr hb (U b hn)
 run:=⟨h.run.imm,λb hb=>by rw[h.run.fram b (U b hb),hw];exact J.run.fram b hb,tZ J.run.size (by rw[<-hw];exact h.run.size),J.run.base.trans (by rw[<-hM];exact h.run.base),
  λb o v hv=>(h.run.newM b o v hv).elim (λe=>J.run.newM b o v (by rw[<-hM];exact e)) (λhn=> .inr λhf=>hn (U b hf)),h.run.os.trans (by rw[hw];exact J.run.os),h.run.tape.trans (by rw[hw];exact J.run.tape),h.run.output.trans (by rw[hw];exact J.run.output)⟩
 keep:=hk
variable {rv:List ResultVar}
theorem zib(T:Ty P){c0:Code}{cs:List Code}{id:Nat}{tm:Nat}{g:FuncId}{lo:List Operand}{ty ty2:TypeId}{ps2:String}{af2:Array Edge}{cB:Code}
 {sl1:zf} {Rm:RL}
 (hf:P.funcs[f]?=some fn) (hname:(fn.name== "runtime.NumGoroutine")=false) (hb:fn.body=some c)
 (hc:cutSeq m c=(c0::cs,.seq (.region id #[⟨some tm,.makeFunc (.func g) #[] lo.toArray,ty,ps,af,none⟩,⟨none,.defer ⟨.value (.tmp tm),#[],ts⟩,ty2,ps2,af2,none⟩] false) cB))
 (hrv:fn.results=rv.toArray) (hlow:allB (λi=>Nat.blt i 100) R.ids=true) (hn:Nat.ble args.length fn.ntmps=true) (htm:Nat.blt tm fn.ntmps=true)
 (hl:evs sl1 lo=some ss) (hcp:onesOf ss=some caps) (hlm:allB (λi=>Nat.blt i 100) Rm.ids=true) (hin:allB (λi=>hasB i Rm.ids) R.ids=true) (hcc:cloVs Rm.ids caps=true)
 (hA: ∀C:Ctx,C.low->Goal P C (.code c0) (cs.map Frm.seq) fn.ntmps (enum 0 args) (tb R) (dfA T rv R res R' fn.ntmps sl1 Rm))
 (hB: ∀C:Ctx,C.low->Goal P C (.code cB) [] fn.ntmps ((tm,.one (.cl g [] caps))::sl1) (tb Rm) (dfQ T rv R res R' g caps)):zh P f args R res R':=by
 refine⟨⟨fn,hf,hname,by rw[hb];rfl⟩,λM ρ w xs hx hT hI hG=>?_⟩;obtain⟨C,hC,e1,e2,e3,e4,e5,hH⟩:=vN hlow hn hx hT hI hG;have htm':tm<fn.ntmps:=by simpa [tG]using htm
 refine calls_of_wp_defers hf hb ?_;generalize ({ tmps:=xs.toArray++Array.replicate (fn.ntmps - xs.toArray.size) undef,defers:=[] }:Act)=a at hH⊢;rw[zck m c,hc];simp only[List.foldr_cons]
 have fin: ∀ {C':Ctx} {st:St} {M':Mem} {ρ':Nat->Value} {U:Act} {w':World},C'.tab0=tb R->C'.w0=w->C'.M0=M->C'.ρ0=ρ->Holds C' st M' ρ' U w'->zeL T rv R res R' .ret st->
  ∃v,(results fn U.tmps).run P w'= .ok v w'/\ ∃v' M' ρ',Ending.returned v= .returned v'/\Ret M ρ w R res R' v' M' ρ' w':=λ{C' st M' ρ' U w'} k1 k2 k3 k4 J hq=>by
  obtain⟨he,σ,ss,g1,g2,g3,g4,g5⟩:=hq;obtain⟨v,hv,hrep⟩:=wX T hrv J g1;have hret:=zh8 k1 J (σ:=σ) (g2 _ _ _ hrep) g3 g4 g5;rw[k2,k3,k4]at hret;exact⟨v,hv,v,M',_,rfl,hret⟩
 refine zlp (C:=C) ?_ ?_ (hA C hC) hH
 ·rintro U w' ⟨st,M',ρ',⟨σ,hsn,hms,hmr,hinj,hfix⟩,J⟩;have tk: ∀i r,tg (tb Rm) i=some r->tg st.tab (σ i)=some (r.ren σ):=λi r h=>zdc hmr (zQ h)
  have ti: ∀i r,tg (tb Rm) i=some r->i∈Rm.ids:=λi r h=>zR (zQ h)
  -- the context of what comes behind
  have hTm:wc M' (λi=>ρ' (σ i)) w' (tb Rm):=⟨λi r hr=>(J.zP.res _ _ (tk i r hr)).ren,λi j ri rj b h1 h2 hne hb1 hb2=>J.zP.dis _ _ _ _ b (tk i ri h1) (tk j rj h2) (yK hinj i j (ti i ri h1) (ti j rj h2) hne) hb1 hb2,
   λi r b h1 hb=>J.zP.own _ _ b (tk i r h1) hb⟩
  have hgf: ∀p∈G2,¬zeN (tb Rm) (λi=>ρ' (σ i)) p.1:=λp hp ⟨id,r,h1,h2⟩=>by
   obtain⟨v,hv⟩:=zlo p hp;have:=J.gok.le _ _ _ hv;rw[hTm.own id r p.1 h1 h2 0]at this;cases this
  have hvs:=(show RepVs M' (λi=>ρ' (σ i)) caps (lo.map U.eval) from by
   have hsl: ∀k s,sg sl1 k=some s->RepS M' (λi=>ρ' (σ i)) s (U.tmps.getD k undef):=λk s hk=>(RepS.ren s _).1 (J.slots k _ (zfu hms (zbh hk)))
   have hX:Holds ⟨w',M',λi=>ρ' (σ i),tb Rm,J.gok,hgf,U.defers⟩ ⟨fn.ntmps,sl1,tb Rm⟩ M' (λi=>ρ' (σ i)) U w':=
    ⟨rfl,by rw[<-hsn];exact J.sz,hsl,hTm,λid r b h1 h2 h3=>h3.2 ⟨id,r,h1,h2⟩,⟨J.run.imm,λ_ _=>rfl,uF _,MLe.refl _,λ_ _ _ h=> .inl h,rfl,rfl,rfl⟩,λ_ _ _=>rfl⟩
   have he:=xO (st:=⟨fn.ntmps,sl1,tb Rm⟩) hl
   exact xR hcp (hX.zhE (w8 he.1 he.2)))
  refine wp_seq (wp_region ?_);have hr:List.range (#[(⟨some tm,.makeFunc (.func g) #[] lo.toArray,ty,ps,af,none⟩:Oper),⟨none,.defer ⟨.value (.tmp tm),#[],ts⟩,ty2,ps2,af2,none⟩]).size=[0,1]:=rfl;rw[hr];have hmk:(execOp U.eval ⟨some tm,.makeFunc (.func g) #[] lo.toArray,ty,ps,af,none⟩).run P w'= .ok (.value (.func (.func g) #[] (lo.map U.eval).toArray)) w':=by simp[execOp,Instr.makeFunc]
  generalize lo.map U.eval=ys at hvs hmk
  have htv:(U.put (some tm) (.func (.func g) #[] ys.toArray)).eval (.tmp tm)= .func (.func g) #[] ys.toArray:=by
   simp only[Act.eval];exact y9 (by rw[J.sz,hsn];exact htm')
  have hdf:(execOp (U.put (some tm) (.func (.func g) #[] ys.toArray)).eval ⟨none,.defer ⟨.value (.tmp tm),#[],ts⟩,ty2,ps2,af2,none⟩).run P w'= .ok (.defer ⟨.fn (.func g) ys.toArray,#[]⟩) w':=by
   simp[execOp,resolve,Deferred.ofValue,htv]
  let C1:Ctx:=⟨w',M',λi=>ρ' (σ i),tb Rm,J.gok,hgf,[⟨.fn (.func g) ys.toArray,#[]⟩]⟩
  have hC1:C1.low:=λi r h=>by
   have:=zM hlm i (zR (zQ h));simpa [tG]using this
  have hH1:Holds C1 ⟨fn.ntmps,(tm,.one (.cl g [] caps))::sl1,tb Rm⟩ M' (λi=>ρ' (σ i)) ⟨(U.put (some tm) (.func (.func g) #[] ys.toArray)).tmps,⟨.fn (.func g) ys.toArray,#[]⟩::(U.put (some tm) (.func (.func g) #[] ys.toArray)).defers⟩ w':=by
   have hsl: ∀k s,sg sl1 k=some s->RepS M' (λi=>ρ' (σ i)) s (U.tmps.getD k undef):=λk s hk=>(RepS.ren s _).1 (J.slots k _ (zfu hms (zbh hk)))
   have hd:U.defers=[]:=by rw[J.dfr,e5]
   have hX:Holds ⟨w',M',λi=>ρ' (σ i),tb Rm,J.gok,hgf,[]⟩ ⟨fn.ntmps,sl1,tb Rm⟩ M' (λi=>ρ' (σ i)) U w':=
    ⟨hd,by rw[<-hsn];exact J.sz,hsl,hTm,λid r b h1 h2 h3=>h3.2 ⟨id,r,h1,h2⟩,⟨J.run.imm,λ_ _=>rfl,uF _,MLe.refl _,λ_ _ _ h=> .inl h,rfl,rfl,rfl⟩,λ_ _ _=>rfl⟩
   have hY:=hX.put (d:=tm) (s:= .one (.cl g [] caps)) (x:= .func (.func g) #[] ys.toArray) htm' (by
    simp only[RepS,RepV];exact⟨[],ys,rfl,by simp only[RepVs],hvs⟩)
   exact⟨by show _::U.defers=_;rw[hd],hY.sz,hY.slots,hY.zP,hY.ownf,⟨hY.run.imm,hY.run.fram,hY.run.size,hY.run.base,hY.run.newM,hY.run.os,hY.run.tape,hY.run.output⟩,hY.keep⟩
  have hup: ∀ {st2:St} {M2:Mem} {ρ2:Nat->Value} {a2:Act} {w2:World},Holds C1 st2 M2 ρ2 a2 w2->Holds { C with df:=C1.df } st2 M2 ρ2 a2 w2:=λ{st2 M2 ρ2 a2 w2} h=>by
   refine Holds.up J rfl rfl (λb hb=>⟨qM hb.1 J.run.size,λ⟨i,r,h1,h2⟩=>J.ownf _ _ b (tk i r h1) h2 hb⟩) h λi r hr=>?_;rw[e4]at hr;have hi:=zR (zQ hr);obtain⟨r2,hr2⟩:=jU (yh (zM hin i hi));have k1:ρ2 i=ρ' (σ i):=h.keep i r2 hr2;rw[k1,uH (zM hfix i hi)];exact J.keep i r (by rw[e4];exact hr)
  simp only[wpOps,tu,List.getElem?_cons_zero,tr,Region.wanted,uZ,hmk,hdf,Oper.upon,Oper.wp,Exit.then];refine .inl (.inl (wp_mono (hB C1 hC1 M' _ _ w' hH1) λe a2 w2 hl2=>?_));obtain⟨st2,M2,ρ2,hq,hH2⟩:=hl2;simp only[unw]at hq;obtain⟨rq,args1,R1,R1',σ1,hex,hfd,hle,hT1,hi1,hi2,hfr1,hcl,hend⟩:=hq;have hd2:a2.defers=[⟨.fn (.func g) ys.toArray,#[]⟩]:=hH2.dfr
  have hcv:RepVs M2 ρ2 caps ys:=by
   refine RepVs.agree (X:=λi=>i∉Rm.ids) (ρ:=λi=>ρ' (σ i)) (λi hi=>?_) caps ys (λi hi=>xY hi caps hcc) (RepVs.mono hH2.run.base _ _ hvs);obtain⟨r2,hr2⟩:=jU (oV.1 hi);exact hH2.keep i r2 hr2
  have e6:RepSs M2 (λi=>ρ2 (σ1 i)) args1 ys:=(RepSs.ren _ _).1 (hle _ _ _ (yJ hcv));have tk1: ∀i r,tg (tb R1) i=some r->tg st2.tab (σ1 i)=some (r.ren σ1):=λi r hm=>xm hT1 (zcf (zQ hm))
  have e7:wc M2 (λi=>ρ2 (σ1 i)) w2 (tb R1):=⟨λi r hr=>(hH2.zP.res _ _ (tk1 i r hr)).ren,
   λi j ri rj b h1 h2 hne hb1 hb2=>hH2.zP.dis _ _ _ _ b (tk1 i ri h1) (tk1 j rj h2) (yK hi1 i j (zR (zQ h1)) (zR (zQ h2)) hne) hb1 hb2,
   λi r b h1 hb=>hH2.zP.own _ _ b (tk1 i r h1) hb⟩
  have hi3:injB σ1 (yc R1 R1')=true:=by
   have key: ∀(l:List Nat) (p:Nat->Bool),injB σ1 l=true->injB σ1 (l.filter p)=true:=by
    intro l p
    induction l with
    |nil=>exact λh=>h
    |cons y ys ih=>
     intro h;simp only[injB,uo,List.all_eq_true]at h;simp only[oy];split
     ·simp only[injB,uo,List.all_eq_true];exact⟨λz hz=>h.1 z (qN.1 hz).1,ih h.2⟩
     ·exact ih h.2
   exact key _ _ hi2
  have hinv:(invoke (.fn (.func g) ys.toArray) #[]).run P w2= .ok (.enter g ys.toArray) w2:=by
   obtain⟨fng,k1,k2,k3⟩:=hfd.1;have hn': ¬(fng.name= "runtime.NumGoroutine"):=by simpa using k2
   have hp:program.run P w2= .ok P w2:=rfl;have hb': ¬fng.body=none:=λe=>by rw[e]at k3;cases k3
   simp[invoke,callFunc,k1,hn',hb',hp]
  have hcall:=hfd.2 M2 _ w2 ys e6 e7 hH2.run.imm hH2.gok
  have done:Leaves P fn a2.tmps (λe w'=> ∃v' M' ρ',e=Ending.returned v'/\Ret M ρ w R res R' v' M' ρ' w') [⟨.fn (.func g) ys.toArray,#[]⟩] (modeOf rq) w2:=by
   refine leaves_cons (by cases rq<;>simp[modeOf]) hinv (hcall.mono λe u' w3 ⟨⟨v,hv⟩,hu,M3,ρ3,hret⟩=>?_);subst hv;simp only[hu];obtain⟨ρ4,h4⟩:=hH2.called (d:=none) hret hT1 hi3 hi2 (zaB hC1 hfr1) rfl hcl rfl;exact fin (C':={ C with df:=C1.df }) e4 e1 e2 e3 (hup h4) hend
  cases rq with
  |none=>
   rcases hex with rfl|rfl
   ·simp only[bodyPostD,hd2];exact done
   ·simp only[bodyPostD,hd2];exact done
  |some v=>
   have hex:e= .panic (chn v):=hex;subst hex;simp only[bodyPostD,hd2];exact done
 ·rintro e U w' hne ⟨st,M',ρ',hq,J⟩
  have hq':zeL T rv R res R' e st:=by
   cases e with
   |normal=>exact absurd rfl hne
   |_=>exact hq
  obtain⟨he,hq2⟩:=hq';have hd:U.defers=[]:=by rw[J.dfr,e5]
  have:=fin e4 e1 e2 e3 J ⟨.inl rfl,hq2⟩;rcases he with rfl|rfl
  ·simp only[bodyPostD,hd,Leaves];exact this
  ·exact absurd rfl hne
section
variable {k:List Frm} {n:Nat} {sl:zf}
theorem ztR{fr:List Nat}(hC:C.low)(U:zql P all o rs rt fr pv wt)(hS:okS rs ⟨n,sl,tab⟩)(hT:okT rt ⟨n,sl,tab⟩)(hF:allB (λid=>Nat.ble 100 id&&freshB id ⟨n,sl,tab⟩) fr=true)
 (g:Goal P C (.fin (.panic (chn pv))) k n sl (wt++tab) Q):Goal P C (.ops all (o::rest) none) k n sl tab Q:=
 λM ρ a w hH=>wpList_step λK _=>U C ⟨n,sl,tab⟩ M ρ a w hH hS hT (zaB hC hF) K _ λM' ρ' w' J=>g M' ρ' a w' J
theorem zr{l:List Operand}{ty:TypeId}(hC:C.low){first:List V}
 (h:ya P f args R pv R') (σ:Nat->Nat) (hx:ev sl x=some (.one (.cl f first caps))) (hl:evs sl l=some ss) (ha:zH (ones first++ss++ones caps) (Ss.ren σ args)) (hi:injB σ R.ids=true) (J:injB σ R'.ids=true)
 (U:x9 (R.ids++R'.ids) R'=true) (hT:rdT tab (R.ren σ)=R.ren σ) (hfr:allB (λid=>Nat.ble 100 id&&freshB id ⟨n,sl,tab⟩) ((yc R R').map σ)=true) (hm:metL all sl g0=some gs)
 (g:Goal P C (.fin (.panic (chn pv))) k n sl ((tb (R'.ren σ)++xy (R.ids.map σ))++tab) Q):
 Goal P C (.ops all (⟨d,.call ⟨.value x,l.toArray,ts⟩,ty,ps,af,g0⟩::rest) none) k n sl tab Q:=by
 have e1:=zB (st:=⟨n,sl,tab⟩) hx;have e2:=xO (st:=⟨n,sl,tab⟩) hl;have:=zdU hm (zgO (ty:=ty) (ps:=ps) (af:=af) (g:=g0) (d:=d) (ts:=ts) h σ e1.1 e2.1 ha hi J U) (n:=n) (tab:=tab);exact ztR hC this.1 (by rw[za,za];exact⟨this.2,e1.2,e2.2⟩) (jg hT) hfr g
theorem xF{v:Value}{ty:TypeId}(hC:C.low)(U:ev sl x=some (.one (.p (.k (.iface t v)))))(hm:metL all sl g0=some gs)
 (g:Goal P C (.fin (.panic (chn (.iface t v)))) k n sl tab Q):Goal P C (.ops all (⟨d,.panic x,ty,ps,af,g0⟩::rest) none) k n sl tab Q:=by
 have J:=zB (st:=⟨n,sl,tab⟩) U;have:=zdU hm (zru (P:=P) (ty:=ty) (ps:=ps) (af:=af) (g:=g0) (d:=d) J.1) (n:=n) (tab:=tab);exact ztR (wt:=[]) hC this.1 (by rw[za];exact⟨this.2,J.2⟩) trivial rfl g
end
variable {pe:Value}
section
variable {ty:TypeId}
theorem zlq{M:Mem}{ρ:Nat->Value}: ∀ {vs cs:List Value},RepVs M ρ (vs.map λv=>V.p (.k v)) cs->cs=vs/\ ∀v∈vs,v.oneCell'=true
 | [],[],_=>⟨rfl,λ_ h=>by cases h⟩
 | [],_::_,h=>by simp only[qt,RepVs]at h
 |_::_,[],h=>by simp only[uQ,RepVs]at h
 |v::vs,c::cs,h=>by
  simp only[uQ,RepVs,RepV,RepPV]at h;obtain⟨⟨rfl,J⟩,h2⟩:=h;obtain⟨rfl,h3⟩:=zlq h2;exact⟨rfl,λx U=>(uI.1 U).elim (λe=>e ▸ J) (h3 x)⟩
theorem zdf{M:Mem}{ρ:Nat->Value}: ∀ {vs:List Value},(∀v∈vs,v.oneCell'=true)->RepVs M ρ (vs.map λv=>V.p (.k v)) vs
 | [],_=>by simp only[qt,RepVs]
 |v::vs,h=>by
  simp only[uQ,RepVs,RepV,RepPV];exact⟨⟨uh,h v ue⟩,zdf λx J=>h x (by simp[J])⟩
def notIfc(P:Program)(t:TypeId):Bool:=match P.underlying t with
 |some (.interface _)=>false
 |some _=>true
 |none=>false
theorem zcl(h:notIfc P t=true): ∃u,P.underlying t=some u/\ ∀ms,u≠ .interface ms:=by
 unfold notIfc at h;split at h
 ·cases h
 ·rename_i u J e;exact⟨u,e,λms U=>J ms U⟩
 ·cases h
theorem zvA{vs:List Value}(hx:okc x (.agg (vs.map λv=> .p (.k v))))(hu:notIfc P t=true):
 Snd P ⟨d,.makeInterface t x,ty,ps,af,g⟩ (rq x (.agg (vs.map λv=> .p (.k v)))) [] [] (.one (.p (.k (.iface t (.agg vs.toArray))))) []:=
 zm λC st M ρ a w hH h1 hT=>by
  have e1:=hH.evS (zz hx h1);simp only[RepS]at e1;obtain⟨cs,e2,e3⟩:=e1;obtain⟨rfl,_⟩:=zlq e3;obtain⟨u,J,U⟩:=zcl hu
  exact⟨.iface t (.agg cs.toArray),by
   cases u with
   |interface ms=>exact absurd rfl (U ms)
   |_=>simp[execOp,e2,Instr.makeInterface,run_underlying J,Result.andThen],by simp only[RepS,RepV,RepPV];exact⟨uh,rfl⟩⟩
theorem zvB{xT:TypeId}{vs:List Value}(hx:okc x (.one (.p (.k (.iface t (.agg vs.toArray))))))(hu:notIfc P t=true)(hv:vs.all Value.oneCell'=true):
 Snd P ⟨d,.typeAssert x xT t true,ty,ps,af,g⟩ (rq x (.one (.p (.k (.iface t (.agg vs.toArray)))))) [] [] (.tup [.agg (vs.map λv=> .p (.k v)),Bo true]) []:=
 zm λC st M ρ a w hH h1 hT=>by
  have e1:=hH.evS (zz hx h1);simp only[RepS,RepV,RepPV]at e1;obtain⟨u,J,U⟩:=zcl hu;refine⟨.tuple #[.agg vs.toArray,.bool true],?_,?_⟩
  ·rw[show execOp a.eval ⟨d,.typeAssert x xT t true,ty,ps,af,g⟩=Instr.typeAssert (a.eval x) xT t true >>= λv=>pure (.value v) from by simp[execOp]];rw[e1.1];cases u with
   |interface ms=>exact absurd rfl (U ms)
   |_=>simp[Instr.typeAssert,run_underlying J,go_sem,Result.andThen]
  ·simp only[RepS];refine⟨[.agg vs.toArray,.bool true],rfl,?_⟩;simp only[RepSs,RepS,RepV,RepPV];exact⟨⟨vs,rfl,zdf λv hv'=>List.all_eq_true.1 hv v hv'⟩,⟨uh,rfl⟩,uh⟩
theorem zvC{t' te:TypeId}{neg:Bool}(hx:okc x (.one (.p (.k (.iface te pe)))))(J:isIfc P t=true):
 Snd P ⟨d,.binOp (if neg=true then .neq else .eql) t x (.const .nilIface) t',ty,ps,af,g⟩ (rq x (.one (.p (.k (.iface te pe))))) [] [] (Bo neg) []:=
 zm λC st M ρ a w hH h1 hT=>by
  obtain⟨ms,J⟩:=zaR J;have U:=hH.evS (zz hx h1);simp only[RepS,RepV,RepPV]at U;have h: ∀q:Nat,(Op.equalIn (q+1) t (.iface te pe) .nilIface).run P w= .ok false w:=λq=>by simp[Op.equalIn,run_underlying J]
  have e0:a.eval (.const .nilIface)= .nilIface:=rfl;refine⟨.bool neg,?_,ztd neg⟩;cases neg with
  |true=>
   simp only[execOp,uZ,U.1,e0,Sem.run_bind];simp[eqGuard,binOp,Op.equal,Op.maxDepth,h 9999,Sem.run_pure]
  |false=>
   simp only[execOp,uy,uL,U.1,e0,Sem.run_bind];simp[eqGuard,binOp,Op.equal,Op.maxDepth,h 9999,Sem.run_pure]
end
variable {md:Mode}
section
variable {k:List Frm} {n:Nat} {sl:zf}
theorem zcm{d:Nat}{ty:TypeId}(hC:C.low)(vs:List Value)(U:ev sl x=some (.agg (vs.map λv=> .p (.k v))))(hu:notIfc P t=true)(hm:metL all sl g0=some gs)(hd:Nat.blt d n=true)
 (g:Goal P C (.ops all rest (nx md ⟨some d,gs++rq x (.agg (vs.map λv=> .p (.k v))),[],[],.one (.p (.k (.iface t (.agg vs.toArray)))),[]⟩)) k n ((d,.one (.p (.k (.iface t (.agg vs.toArray)))))::sl) tab Q):
 Goal P C (.ops all (⟨some d,.makeInterface t x,ty,ps,af,g0⟩::rest) md) k n sl tab Q:=by
 have J:=zB (st:=⟨n,sl,tab⟩) U;have:=zk hm (zvA (P:=P) (ty:=ty) (ps:=ps) (af:=af) (g:=g0) (d:=some d) (t:=t) J.1 hu) (n:=n) (tab:=tab);exact zT (L:=⟨some d,gs++rq x (.agg (vs.map λv=> .p (.k v))),[],[],.one (.p (.k (.iface t (.agg vs.toArray)))),[]⟩) hC this.1 rfl ⟨by rw[za];exact⟨this.2,J.2⟩,trivial,rfl,hd⟩ g
theorem zrx{d:Nat}{xT ty:TypeId}(hC:C.low)(vs:List Value)(U:ev sl x=some (.one (.p (.k (.iface t (.agg vs.toArray))))))(hu:notIfc P t=true)(hv:vs.all Value.oneCell'=true)(hm:metL all sl g0=some gs)(hd:Nat.blt d n=true)
 (g:Goal P C (.ops all rest (nx md ⟨some d,gs++rq x (.one (.p (.k (.iface t (.agg vs.toArray))))),[],[],.tup [.agg (vs.map λv=> .p (.k v)),Bo true],[]⟩)) k n ((d,.tup [.agg (vs.map λv=> .p (.k v)),Bo true])::sl) tab Q):
 Goal P C (.ops all (⟨some d,.typeAssert x xT t true,ty,ps,af,g0⟩::rest) md) k n sl tab Q:=by
 have J:=zB (st:=⟨n,sl,tab⟩) U;have:=zk hm (zvB (P:=P) (ty:=ty) (ps:=ps) (af:=af) (g:=g0) (d:=some d) (xT:=xT) J.1 hu hv) (n:=n) (tab:=tab);exact zT (L:=⟨some d,gs++rq x (.one (.p (.k (.iface t (.agg vs.toArray))))),[],[],.tup [.agg (vs.map λv=> .p (.k v)),Bo true],[]⟩) hC this.1 rfl ⟨by rw[za];exact⟨this.2,J.2⟩,trivial,rfl,hd⟩ g
theorem zlr{d:Nat}{t' te ty:TypeId}(hC:C.low)(U:ev sl x=some (.one (.p (.k (.iface te pe)))))(ht:isIfc P t=true)(hm:metL all sl g0=some gs)(hd:Nat.blt d n=true)
 (g:Goal P C (.ops all rest (nx md ⟨some d,gs++rq x (.one (.p (.k (.iface te pe)))),[],[],Bo true,[]⟩)) k n ((d,Bo true)::sl) tab Q):
 Goal P C (.ops all (⟨some d,.binOp .neq t x (.const .nilIface) t',ty,ps,af,g0⟩::rest) md) k n sl tab Q:=by
 have J:=zB (st:=⟨n,sl,tab⟩) U;have:=zk hm (zvC (P:=P) (ty:=ty) (ps:=ps) (af:=af) (g:=g0) (d:=some d) (t':=t') (neg:=true) J.1 ht) (n:=n) (tab:=tab);exact zT (L:=⟨some d,gs++rq x (.one (.p (.k (.iface te pe)))),[],[],Bo true,[]⟩) hC this.1 rfl ⟨by rw[za];exact⟨this.2,J.2⟩,trivial,rfl,hd⟩ g
end
section
variable {k:List Frm} {n:Nat} {sl:zf} {cur:Cur}
theorem zry(id:Nat){ids:List Nat}{e:Nat}{rows:List (List PC)}(U:lst cur=true)(J:tg tab id=some (.vw ids e rows))(g:rows.length<=9223372036854775807->Goal P C cur k n sl tab Q):Goal P C cur k n sl tab Q:=
 zic (λa r p e=>by subst e;cases U) (λ{M ρ a w} h=>by
  obtain⟨_,_,_,h1,h2,_⟩:=h.zP.res id _ J
  omega) g
theorem zls(id:Nat){e:Nat}{rows:List (List PV)}(U:lst cur=true)(J:tg tab id=some (.arr e rows))(g:rows.length<=9223372036854775807->Goal P C cur k n sl tab Q):Goal P C cur k n sl tab Q:=
 zic (λa r p e=>by subst e;cases U) (λ{M ρ a w} h=>by
  obtain⟨_,_,_,h1,h2,_⟩:=h.zP.res id _ J
  omega) g
end
def zvD(T:Ty P)(rv:List ResultVar)(R:RL):End->Exit->St->Prop
 | .ok res R'=>zeL T rv R res R'
 | .pn pv R'=>zvz pv R R'
 | .no=>λ_ _=>True
theorem zwf(T:Ty P){en:End}(hf:P.funcs[f]?=some fn)
 (J:(fn.name== "runtime.NumGoroutine")=false) (hb:fn.body=some c) (hrv:fn.results=rv.toArray) (U:allB (λi=>Nat.blt i 100) R.ids=true)
 (hn:Nat.ble args.length fn.ntmps=true) (body: ∀C:Ctx,C.low->Goal P C (.code c) [] fn.ntmps (enum 0 args) (tb R) (zvD T rv R en)):FnX P f args R en:=by
 cases en with
 |ok res R'=>exact zty T hf J hb hrv U hn body
 |pn pv R'=>exact zX T hf J hb U hn body
 |no=>trivial
section
variable {n:Nat} {sl:zf} {T:Ty P}
theorem zdX{e:Exit}(h:zeL T rv R res R' e ⟨n,sl,tab⟩):Goal P C (.fin e) [] n sl tab (zvD T rv R (.ok res R')):=zi h
theorem zfv{e:Exit}(h:zvz pv R R' e ⟨n,sl,tab⟩):Goal P C (.fin e) [] n sl tab (zvD T rv R (.pn pv R')):=zi h
end
end Hw
namespace Hw.Gm
open Go Go.Proofs Hw.M Ps
def idxI:Option Nat->Int
 |some i=>i
 |none=> -1
theorem jJ(f:FuncId)(l:List Fld)(p:Fld->Str->Bool)(nx:Fld->Str->Str)(inv:Str->Prop)
 (hf: ∀x∈l,∀s:Str,inv s->zh Tryz.prog f [zF (zw x),.one (.bx 0 0)] [(0,.box [.p (ks s)])] (.bq (p x s)) ((λs:Str=>[(0,.box [.p (ks s)])]) (nx x s))/\(p x s=false->inv (nx x s))) (s:Str) (hs:inv s):
 zh Tryz.prog 97 [pS (.sl 2 (l.map zw)),.one (.cl f [] [.bx 0 0])] [(0,.box [.p (ks s)])] (I (idxR p nx l 0 s).1) ((λs:Str=>[(0,.box [.p (ks s)])]) (idxR p nx l 0 s).2):=by
 refine gO T Tryz.func97 λC hC=>?_;have hs0:=hs;refine wJ 0 rfl λhl=>?_;rw[uk]at hl
 repeat' first|refine gG ?_|refine gB ?_ ?_<;>intro h
 rw[uk]
 refine zn (λq:Nat×Str=>q.1<=l.length/\inv q.2/\idxR p nx (l.drop q.1) q.1 q.2=idxR p nx l 0 s) (λq=>(λs:Str=>([(0,pS (.sl 2 (l.map zw))),(1,.one (.cl f [] [.bx 0 0])),(7,I l.length),(8,I q.1)],[(0,some (.box [.p (ks s)]))])) q.2) (λq=>l.length - q.1) hC
  (0,s) ⟨uz _,hs,rfl⟩ id gM ?_
 generalize idxR p nx l 0 s=res;clear hs hs0;rintro⟨i,s⟩ ⟨hi,hv,J⟩;simp only at hi hv J;refine zq T hC true 200 rfl ?_;refine zt rfl ?_ ?_<;>intro hh
 ·have hlt:i<l.length:=by simpa using hh
  clear hh;obtain⟨x,hx⟩:=zd hlt;rw[drop_at hx]at J;simp only[idxR]at J;have hv2:=(hf x (List.mem_of_getElem? hx) s hv).2
  repeat' first|refine gG ?_|refine gB ?_ ?_<;>intro h|refine gI T (zl hx) ?_|refine zu hC (hf x (List.mem_of_getElem? hx) s hv).1 id rfl rfl (zH.refl _) rfl rfl rfl rfl rfl rfl rfl rfl ?_|refine zo ?_
  ·rw[uv uf]at J;subst J;exact gE
  ·have U:p x s=false:=by assumption
   rw[U]at J;simp only[uy,uL]at J;rw[wrap64 ua];exact zg (i+1,nx x s) ⟨by simp only;omega,hv2 U,J⟩ id (by simp only;omega) gM
 ·have hge: ¬i<l.length:=by simpa using hh
  rw[uA ua]at J;simp only[idxR]at J;subst J
  repeat' first|refine gG ?_|refine gB ?_ ?_<;>intro h|refine ze ?_
  exact gE
theorem zlt(f:FuncId)(l:List yn)(p:yn->Str->Bool)(nx:yn->Str->Str)(inv:Str->Prop)
 (hf: ∀x∈l,∀s:Str,inv s->zh Tryz.prog f [zF (zS x),.one (.bx 0 0)] [(0,.box [.p (ks s)])] (.bq (p x s)) ((λs:Str=>[(0,.box [.p (ks s)])]) (nx x s))/\(p x s=false->inv (nx x s))) (s:Str) (hs:inv s):
 zh Tryz.prog 115 [pS (.sl 2 (l.map zS)),.one (.cl f [] [.bx 0 0])] [(0,.box [.p (ks s)])] (I (idxR p nx l 0 s).1) ((λs:Str=>[(0,.box [.p (ks s)])]) (idxR p nx l 0 s).2):=by
 refine gO T Tryz.func115 λC hC=>?_;have hs0:=hs;refine wJ 0 rfl λhl=>?_;rw[uk]at hl
 repeat' first|refine gG ?_|refine gB ?_ ?_<;>intro h
 rw[uk]
 refine zn (λq:Nat×Str=>q.1<=l.length/\inv q.2/\idxR p nx (l.drop q.1) q.1 q.2=idxR p nx l 0 s) (λq=>(λs:Str=>([(0,pS (.sl 2 (l.map zS))),(1,.one (.cl f [] [.bx 0 0])),(7,I l.length),(8,I q.1)],[(0,some (.box [.p (ks s)]))])) q.2) (λq=>l.length - q.1) hC
  (0,s) ⟨uz _,hs,rfl⟩ id gM ?_
 generalize idxR p nx l 0 s=res;clear hs hs0;rintro⟨i,s⟩ ⟨hi,hv,J⟩;simp only at hi hv J;refine zq T hC true 200 rfl ?_;refine zt rfl ?_ ?_<;>intro hh
 ·have hlt:i<l.length:=by simpa using hh
  clear hh;obtain⟨x,hx⟩:=zd hlt;rw[drop_at hx]at J;simp only[idxR]at J;have hv2:=(hf x (List.mem_of_getElem? hx) s hv).2
  repeat' first|refine gG ?_|refine gB ?_ ?_<;>intro h|refine gI T (zl hx) ?_|refine zu hC (hf x (List.mem_of_getElem? hx) s hv).1 id rfl rfl (zH.refl _) rfl rfl rfl rfl rfl rfl rfl rfl ?_|refine zo ?_
  ·rw[uv uf]at J;subst J;exact gE
  ·have U:p x s=false:=by assumption
   rw[U]at J;simp only[uy,uL]at J;rw[wrap64 ua];exact zg (i+1,nx x s) ⟨by simp only;omega,hv2 U,J⟩ id (by simp only;omega) gM
 ·have hge: ¬i<l.length:=by simpa using hh
  rw[uA ua]at J;simp only[idxR]at J;subst J
  repeat' first|refine gG ?_|refine gB ?_ ?_<;>intro h|refine ze ?_
  exact gE
theorem zlu(f:FuncId)(l:List Pr)(p:Pr->Str->Bool)(nx:Pr->Str->Str)(inv:Str->Prop)
 (hf: ∀x∈l,∀s:Str,inv s->zh Tryz.prog f [zF (zZ x),.one (.bx 0 0)] [(0,.box [.p (ks s)])] (.bq (p x s)) ((λs:Str=>[(0,.box [.p (ks s)])]) (nx x s))/\(p x s=false->inv (nx x s))) (s:Str) (hs:inv s):
 zh Tryz.prog 56 [pS (.sl 5 (l.map zZ)),.one (.cl f [] [.bx 0 0])] [(0,.box [.p (ks s)])] (I (idxR p nx l 0 s).1) ((λs:Str=>[(0,.box [.p (ks s)])]) (idxR p nx l 0 s).2):=by
 refine gO T Tryz.func56 λC hC=>?_;have hs0:=hs;refine wJ 0 rfl λhl=>?_;rw[uk]at hl
 repeat' first|refine gG ?_|refine gB ?_ ?_<;>intro h
 rw[uk]
 refine zn (λq:Nat×Str=>q.1<=l.length/\inv q.2/\idxR p nx (l.drop q.1) q.1 q.2=idxR p nx l 0 s) (λq=>(λs:Str=>([(0,pS (.sl 5 (l.map zZ))),(1,.one (.cl f [] [.bx 0 0])),(7,I l.length),(8,I q.1)],[(0,some (.box [.p (ks s)]))])) q.2) (λq=>l.length - q.1) hC
  (0,s) ⟨uz _,hs,rfl⟩ id gM ?_
 generalize idxR p nx l 0 s=res;clear hs hs0;rintro⟨i,s⟩ ⟨hi,hv,J⟩;simp only at hi hv J;refine zq T hC true 200 rfl ?_;refine zt rfl ?_ ?_<;>intro hh
 ·have hlt:i<l.length:=by simpa using hh
  clear hh;obtain⟨x,hx⟩:=zd hlt;rw[drop_at hx]at J;simp only[idxR]at J;have hv2:=(hf x (List.mem_of_getElem? hx) s hv).2
  repeat' first|refine gG ?_|refine gB ?_ ?_<;>intro h|refine gI T (zl hx) ?_|refine zu hC (hf x (List.mem_of_getElem? hx) s hv).1 id rfl rfl (zH.refl _) rfl rfl rfl rfl rfl rfl rfl rfl ?_|refine zo ?_
  ·rw[uv uf]at J;subst J;exact gE
  ·have U:p x s=false:=by assumption
   rw[U]at J;simp only[uy,uL]at J;rw[wrap64 ua];exact zg (i+1,nx x s) ⟨by simp only;omega,hv2 U,J⟩ id (by simp only;omega) gM
 ·have hge: ¬i<l.length:=by simpa using hh
  rw[uA ua]at J;simp only[idxR]at J;subst J
  repeat' first|refine gG ?_|refine gB ?_ ?_<;>intro h|refine ze ?_
  exact gE
theorem zlv(x:Fld)(s:Str):zh Tryz.prog 291 [zF (zw x),.one (.bx 0 0)] [(0,.box [.p (ks s)])] (.bq (decide (x.n=s))) [(0,.box [.p (ks s)])]:=by
 refine gO T Tryz.func291 λC hC=>?_
 repeat' first|refine gG ?_|refine gB ?_ ?_<;>intro h
 all_goals exact gE
theorem zjj(x:Pr)(s:Str):zh Tryz.prog 259 [zF (zZ x),.one (.bx 0 0)] [(0,.box [.p (ks s)])] (.bq (decide (x.n=s))) [(0,.box [.p (ks s)])]:=by
 refine gO T Tryz.func259 λC hC=>?_
 repeat' first|refine gG ?_|refine gB ?_ ?_<;>intro h
 all_goals exact gE
theorem zjk(x:yn)(s:Str):zh Tryz.prog 297 [zF (zS x),.one (.bx 0 0)] [(0,.box [.p (ks s)])] (.bq (decide (x.n=s))) [(0,.box [.p (ks s)])]:=by
 refine gO T Tryz.func297 λC hC=>?_
 repeat' first|refine gG ?_|refine gB ?_ ?_<;>intro h
 all_goals exact gE
theorem zlw{α σ:Type}(p:α->Bool): ∀(l:List α) (k:Nat) (s:σ),(idxR (λx _=>p x) (λ_ s=>s) l k s)=(match l.findIdx? p with|some i=>((k+i:Nat):Int)|none=> -1,s)
 | [],k,s=>rfl
 |x::r,k,s=>by
  simp only[idxR,List.findIdx?_cons];by_cases h:p x=true
  ·rw[uv h,uv h];rfl
  ·rw[uu h,uu h,zlw p r (k+1) s];cases r.findIdx? p with
   |none=>rfl
   |some i=>simp only[uO];rw[show k+1+i=k+(i+1) by omega]
theorem y3{α σ:Type}(p:α->Bool)(l:List α)(s:σ):(idxR (λx _=>p x) (λ_ s=>s) l 0 s)=(idxI (l.findIdx? p),s):=by
 rw[zlw];cases l.findIdx? p with
 |none=>rfl
 |some i=>simp only[tC,idxI]
theorem zdY(l:List Fld)(s:Str):zh Tryz.prog 275 [pS (zx l),Sr s] [] (I (idxI (ixF l s))) []:=by
 have J:=jJ 291 l (λx _=>decide (x.n=s)) (λ_ s=>s) (λc=>c=s) (λx hx c U=>⟨by subst U;exact zlv x c,λ_=>U⟩) s rfl;rw[y3]at J;refine gO T Tryz.func275 λC hC=>?_
 repeat' first|refine gG ?_|refine gB ?_ ?_<;>intro h|refine gR J (nm [1003]) ?_
 exact gF
theorem zcn(d:zj)(s:Str):zh Tryz.prog 230 [zF (zJ d),Sr s] [] (I (idxI (zcZ d s))) []:=by
 have J:=zlu 259 d.procs (λx _=>decide (x.n=s)) (λ_ s=>s) (λc=>c=s) (λx hx c U=>⟨by subst U;exact zjj x c,λ_=>U⟩) s rfl;rw[y3]at J;refine gO T Tryz.func230 λC hC=>?_
 repeat' first|refine gG ?_|refine gB ?_ ?_<;>intro h|refine gR J (nm [1003]) ?_
 exact gF
def zgQ(q:Int×Int×Int):List PV:=[ki q.1,ki q.2.1,ki q.2.2]
def mcC(d:zj)(fuel:Int)(m:Mc)(g n a:Nat):List V:=(zJ d).map V.p++[.ar g,.ar n,.p (ki fuel),.p (ki m.ticks),.p (ki m.calls),.p (ki m.comps),.ar a]
abbrev mcR(d:zj)(fuel:Int)(m:Mc)(g n b a:Nat):RL:=[(0,.box (mcC d fuel m g n a)),(g,.arr 1 (m.g.map yk)),(n,.vw [b] 2 (wRows m.ns 0)),(b,.bag 1 (j9 m.ns)),(a,.arr 3 (m.acc.map zgQ))]
abbrev znM(e:Int):Value:= .iface 294 (.agg #[.int .i64 e])
theorem zlx(d:zj)(fuel:Int)(m:Mc)(s:Str):zh Tryz.prog 286 [.one (.bx 0 0),Sr s] (mcR d fuel m 1 2 3 4) (I (idxI (zte d s))) (mcR d fuel m 1 2 3 4):=by
 have J:=zlt 297 d.types (λx _=>decide (x.n=s)) (λ_ s=>s) (λc=>c=s) (λx hx c U=>⟨by subst U;exact zjk x c,λ_=>U⟩) s rfl;rw[y3]at J;refine gO T Tryz.func286 λC hC=>?_
 repeat' first|refine gG ?_|refine gB ?_ ?_<;>intro h|refine gR J (nm [1003]) ?_
 exact gE
theorem vO(e:Int):ya Tryz.prog 232 [.un,I e] [] (znM e) []:=by
 refine zX T Tryz.func232 ud rfl rfl rfl λC hC=>?_
 repeat' first|refine gG ?_|refine gB ?_ ?_<;>intro h|refine zcm hC [.int .i64 e] rfl ud rfl rfl ?_
 refine xF hC rfl rfl ?_;exact zi ⟨rfl,id,trivial,rfl,rfl⟩
theorem jv(d:zj)(fuel:Int)(m:Mc)(k n f:Int)(h:m.acc.length<1099511627776):zh Tryz.prog 276 [.one (.bx 0 0),I k,I n,I f] (mcR d fuel m 1 2 3 4) (.tup []) (mcR d fuel { m with acc:=m.acc++[(k,n,f)] } 1 2 3 9):=by
 have happ:m.acc.map zgQ++[zgQ (k,n,f)]=(m.acc++[(k,n,f)]).map zgQ:=by rw[u6];rfl
 refine gO T Tryz.func276 λC hC=>?_
 repeat' first|refine gG ?_|refine gB ?_ ?_<;>intro h|refine gT ?_|(refine gY T 109 ((m.acc++[(k,n,f)]).map zgQ) 24 ?_)
 exact zi ⟨.inr rfl,nm [0,1,2,3,4,5,6,7,8,109],_,rfl,.refl _,⟨rfl,rfl,rfl,rfl,rfl,uh⟩,rfl,rfl⟩
end Hw.Gm
namespace Hw
open Go
variable {P:Program}{rows:List (List PC)}
section
variable {d:Option Nat} {ty:TypeId} {ps:String} {af:Array Edge} {g:Option (Nat×Bool)} {x y z:Operand} {t:TypeId}
theorem ztS{M:Mem}{ρ:Nat->Value}{w:World}{id e:Nat}{ids:List Nat}{l h:Nat}{a:Option Addr}{cap:Nat}(hr:zO M ρ w id (.vw ids e rows))(hv:ρ id= .slice a rows.length cap)(h1:l<=h)(h2:h<=rows.length):
 RepV M ρ (.sv id (l*e) (h - l)) (sliced a l h cap e):=by
 obtain⟨a',cap',J,e2,e3,_,e4⟩:=hr;rw[hv]at J;simp only[Value.slice.injEq]at J;obtain⟨rfl,_,rfl⟩:=J;simp only[RepV];by_cases U:cap=l
 ·left;exact⟨ua,a,cap - l,by simp only[sliced,uv U];congr 1;omega⟩
 ·rcases e4 with⟨rfl,rfl⟩|⟨b,o,cs,el,fz,rfl,_⟩
  ·omega
  ·right;exact⟨b,o,_,cap,cap - l,hv,by simp[sliced,uu U,Addr.add],ua,ua⟩
theorem zoh.sv{e:Nat}{tx el:TypeId}{id l m:Nat}{ids:List Nat}{rows:List (List PC)}(h:elemSz P tx=some (el,e))(hl:l+m<=rows.length):zoh P e tx (.one (.sv id (l*e) m)) [(id,.vw ids e rows)] ((rows.drop l).take m) ids:=by
 intro C st M ρ a w v hH hr ht;obtain⟨_,hu,_,_⟩:=zy h;have U:((rows.drop l).take m).length=m:=by rw[td,tP];omega
 obtain⟨b,cap,h1,h2,h3,hle,h4⟩:=hH.zP.res id _ ht.1;have J: ∀r∈(rows.drop l).take m,r.length=e:=λr hr=>hle r (List.mem_of_mem_drop (qj hr))
 simp only[RepS,RepV]at hr;rw[U];rcases hr with⟨rfl,a0,c0,rfl⟩|⟨b0,o0,N,cap0,c0,f1,rfl,f3,f4⟩
 ·refine⟨[],?_,ue,ue⟩;cases a0 with
  |none=>exact Src.ofNil w hu c0
  |some ad=>exact Src.ofSlice w hu ad 0 c0 [] ue ue ue
 ·rcases h4 with⟨rfl,hc⟩|⟨b',o,cs,el',fz,rfl,h6,_,_,h8⟩
  ·rw[h1]at f1;simp at f1
  ·rw[h1]at f1;simp only[Value.slice.injEq,ui,Addr.mk.injEq]at f1;obtain⟨⟨rfl,rfl,_⟩,_,rfl⟩:=f1;have hfl:=jE J;rw[U]at hfl
   have hat: ∀j x,((rows.drop l).take m).flatten[j]?=some x->rows.flatten[l*e+j]?=some x:=λj x hj=>by
    obtain⟨i,c,row,g1,g2,g3,g4⟩:=zdL J hj;have him:i<m:=by have:=(uw.1 g3).1;omega
    rw[tT,uv him,uY]at g3;have:=ji hle (i:=l+i) (c:=c) g2;rw[g3,tH]at this;rw[g1,<-qf,this];exact g4
   obtain⟨us,h9,h10⟩:=wE (M:=M) (ρ:=ρ) (vs:=((rows.drop l).take m).flatten.map (toV ids)) (g:=λj=>cs[o+(l*e+j)]?) λj u hj=>by
    rw[uK,uM]at hj;obtain⟨p,hp,rfl⟩:=hj;exact h8 _ p (hat j p hp)
   refine⟨us,Src.ofSlice w hu _ _ c0 us (by rw[h9.length,uk,hfl]) (λj u hj=>by rw[ym];have:=h10 j u hj;simp only[<-qf]at this;simp[World.cell?,h6,this]) h9.one,λj p hj=>?_,J⟩;exact xx h9 (m:=j) (by rw[uK,hj];rfl)
end
variable {C:Ctx}{Q:Exit->St->Prop}{tab:Tab}
section
variable {k:List Frm} {n:Nat} {sl:zf} {all:Array Oper} {rest:List Oper}
end
def OpF(id id' id2 j:Nat)(ρ:Nat->Value):Prop:= ∃(cs:List Value) (v:Value),ρ id= .tuple cs.toArray/\cs[j]?=some v/\ρ id2=v/\ρ id'= .tuple (cs.set j (.slice none 0 0)).toArray
theorem OpF.nv{id id' J j i:Nat}(h:i≠j):RwV (OpF id id' J j) (.nv id i) (.nv id' i):=λM ρ x hF hr=>by
 obtain⟨cs,v,h1,h2,h3,h4⟩:=hF;simp only[RepV]at hr⊢;obtain⟨xs,U,f2,f3⟩:=hr;rw[h1]at U;have:xs=cs:=by simp only[Value.tuple.injEq]at U;have:=uX Array.toList U;simpa using this.symm
 subst this;exact⟨_,h4,by rw[oD (λe=>h e.symm)];exact f2,f3⟩
theorem OpF.ar{id id' J j:Nat}:RwV (OpF id id' J j) (.nv id j) (.ar J):=λM ρ x hF hr=>by
 obtain⟨cs,v,h1,h2,h3,h4⟩:=hF;simp only[RepV]at hr⊢;obtain⟨xs,U,f2,f3⟩:=hr;rw[h1]at U;have:xs=cs:=by simp only[Value.tuple.injEq]at U;have:=uX Array.toList U;simpa using this.symm
 subst this;rw[h2]at f2;exact⟨by rw[h3];exact(uS f2).symm,f3⟩
section
variable {k:List Frm} {n:Nat} {sl:zf} {cur:Cur}
end
theorem zeJ.nv{e q:Nat}{tx el:TypeId}{id:Nat}{L:List (List (List PV))}{rs:List (List PV)}(h:elemSz P tx=some (el,e))(hq:L[q]?=some rs)(hl: ∀r∈rs,r.length=e):zeJ P e tx (.one (.nv id q)) [(id,.bag e L)] rs:=by
 intro C st M ρ a w v hH J hT;obtain⟨_,U,_,_⟩:=zy h;simp only[RepS,RepV]at J;obtain⟨xs,f1,f2,_⟩:=J;obtain⟨a',cap,rfl,h2,h3,h4⟩:=zar (hH.zP.res id _ hT.1) hq f1 f2;rcases h4 with⟨rfl,hc⟩|⟨b',o,cs,el',fz,rfl,h6,_,_,h8⟩
 ·have:rs=[]:=u3.1 ua;subst this;exact⟨[],Src.ofNil w U cap,by simp[RepVs],ue⟩
 ·obtain⟨us,g1,g2,g3⟩:=h8.cells (ρ:=ρ);exact⟨us,Src.ofSlice w U _ _ cap us g2 (λj u hj=>by rw[ym];have:=g3 j u hj;simp[World.cell?,h6,this]) g1.one,g1,hl⟩
end Hw
