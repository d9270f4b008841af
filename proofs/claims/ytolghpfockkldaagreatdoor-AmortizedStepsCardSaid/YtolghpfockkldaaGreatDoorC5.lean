import Derived.Test.YtolghpfockkldaaGreatDoorC4
import Derived.Test.YtolghpfockkldaaGreatDoorC2
import Derived.Test.YtolghpfockkldaaGreatDoorC1
import Derived.Test.YtolghpfockkldaaGreatDoorE3
import Derived.RangeFuncLeaves
import Derived.RangeFuncRecord
import Derived.RangeFuncSeq
import Derived.OrdersIn
import Derived.TacticsIn
import Derived.Test.YtolghpfockkldaaGreatDoorC3
set_option linter.defProp false
set_option linter.unusedVariables false
set_option linter.unusedSimpArgs false
set_option linter.unusedSectionVars false
set_option linter.unnecessarySimpa false
namespace Hw.Gm
open Go Go.Proofs Hw.M Ps
set_option maxRecDepth 100000 in
def zoo(m:Nat)(h:m<=1000000):zf Tryz.prog 219 [.one (.p (.k (.slice none 0 0))),I m] [] (.one (.ar 0)) [(0,.arr 2 [])]:=by
 have J:IntKind.i64.wrap ((m:Int) - IntKind.i64.wrap (0 - 0))=m:=by rw[show IntKind.i64.wrap (0 - 0)=0 from rfl,wrap64 ua];omega
 by_cases U:m=0
 ·refine gO T Tryz.func219 λC hC=>?_
  repeat' first|refine gG ?_|(exfalso;rw[J]at h;have h1:=uj h;omega)|(exfalso;first|(have U:=uj h;omega)|(have U:=uo h;omega))|refine gB ?_ ?_<;>intro h|(refine zh8 T hC rfl rfl rfl rfl ?_)
  refine gA 101 2 [(4,.one (.ar 101))] [] ?_;exact gW [101]
 ·refine gO T Tryz.func219 λC hC=>?_
  repeat' first|refine gG ?_|(exfalso;rw[J]at h;have h1:=uo h;omega)|(exfalso;first|(have U:=uj h;omega)|(have U:=uo h;omega))|refine gB ?_ ?_<;>intro h|(refine zh8 T hC rfl rfl rfl rfl ?_)|(refine zum T hC rfl rfl rfl rfl rfl ?_)|(rw[J];refine gA 101 2 [(20,.one (.ar 101))] [] ?_;refine zar T 102 hC (id:=101) (rows:=[]) (row:=zG ⟨(⟨#[]⟩:UB),(⟨#[]⟩:UB)⟩) (bytes:=32) (List.replicate m (zG ⟨(⟨#[]⟩:UB),(⟨#[]⟩:UB)⟩)) rfl rfl rfl rfl rfl rfl rfl rfl rfl ud (by simp only[tS];omega) (by simp only[tS];omega) rfl rfl rfl ?_)|(refine zgG T 103 hC (rows':=[]) rfl rfl rfl rfl ub ue rfl rfl rfl rfl ?_)
  exact gW [103]
def lsP(ls:List (List Fld)):PV:= .sl 1 (ls.map λl=>[zC l])
def zjo(ls:List (List Fld))(hn:ls.length<=1000)(ht:ls.flatten.length<=1000000):zf Tryz.prog 169 [pS (lsP ls)] [] (pS (zC ls.flatten)) []:=by
 have J: ∀i,(ls.take i).flatten.length<=1000000:=λi=>by
  have:ls.flatten=(ls.take i).flatten++(ls.drop i).flatten:=by rw[<-tX,tH]
  rw[this,uP]at ht;omega
 have hsn: ∀ {i:Nat} {l:List Fld},ls[i]?=some l->(ls.take (i+1)).flatten=(ls.take i).flatten++l:=λh=>by rw[yc h,tX];simp
 refine gO T Tryz.func169 λC hC=>?_
 repeat' first|refine gG ?_|refine gB ?_ ?_<;>intro h
 rw[uk]
 refine zn (λi:Nat=>i<=ls.length) (λi=>([(0,pS (lsP ls)),(9,pS (lsP ls)),(10,I ls.length),(11,I i),(3,I (ls.take i).flatten.length)],[])) (λi=>ls.length - i) hC
  0 (uE _) id gM ?_
 intro i hi;refine zm T hC true 200 rfl ?_;refine zp rfl ?_ ?_<;>intro h
 ·have U:i<ls.length:=by simpa using h
  clear h;obtain⟨l,hl⟩:=zb U;have h1:=J i;have h2:=J (i+1);have h3:=hsn hl;have hll:((ls.take i).flatten.length:Int)+l.length=((ls.take (i+1)).flatten.length:Nat):=by rw[h3,uP];omega
  have hw1:IntKind.i64.wrap (((ls.take i).flatten.length:Int)+((l.map zG).length:Nat))=((ls.take (i+1)).flatten.length:Nat):=by rw[uk,hll,wrap64 ua]
  repeat' first|refine gG ?_|(exfalso;rw[hw1]at h;have h5:=uj h;omega)|refine gB ?_ ?_<;>intro h|(refine xX T hC (row:=[zC l]) rfl rfl rfl (uD _) (by simp only[u7,uK,hl];rfl) rfl rfl ?_)
  rw[wrapN ua,hw1];exact zh (i+1) ua id ua gM
 ·have hge: ¬i<ls.length:=by simpa using h
  clear h;rw[uQ ua];have hG:=zoo ls.flatten.length ht
  repeat' first|refine gG ?_|refine gB ?_ ?_<;>intro h|refine ze ?_|refine gR hG (nm [140]) ?_
  rw[uk]
  refine zn (λi:Nat=>i<=ls.length) (λi=>([(25,pS (lsP ls)),(26,I ls.length),(27,I i),(6,.one (.ar 150))],[(150,some (.arr 2 ((ls.take i).flatten.map zG)))])) (λi=>ls.length - i) hC
   0 (uE _) (ms [(150,140)]) ⟨rfl,⟨rfl,rfl,rfl,rfl,uh⟩,⟨rfl,uh⟩,rfl,xc rfl⟩ ?_
  clear hi hge hG;clear i;intro i hi;refine zm T hC true 200 rfl ?_;refine zp rfl ?_ ?_<;>intro h
  ·have U:i<ls.length:=by simpa using h
   clear h;obtain⟨l,hl⟩:=zb U;have h1:=J (i+1);have h3:=hsn hl;have hll:(ls.take i).flatten.length+l.length=(ls.take (i+1)).flatten.length:=by rw[h3,uP]
   have happ:(ls.take i).flatten.map zG++l.map zG=(ls.take (i+1)).flatten.map zG:=by rw[h3,u6]
   repeat' first|refine gG ?_|refine gB ?_ ?_<;>intro h|(refine xX T hC (row:=[zC l]) rfl rfl rfl (uD _) (by simp only[u7,uK,hl];rfl) rfl rfl ?_)|(refine gY T 151 ((ls.take (i+1)).flatten.map zG) 32 ?_)
   rw[wrapN ua];exact zh (i+1) ua (ms [(150,151)]) ua ⟨rfl,⟨rfl,rfl,rfl,rfl,uh⟩,⟨rfl,uh⟩,rfl,xc rfl⟩
  ·have hge: ¬i<ls.length:=by simpa using h
   clear h;rw[uQ ua];refine gZ 150 [(6,pS (zC ls.flatten))] [] ?_
   repeat' first|refine gG ?_|refine gB ?_ ?_<;>intro h|refine ze ?_
   exact gF
def zc1(a b:List Fld)(ha:a.length<=500000)(hb:b.length<=500000):zf Tryz.prog 169 [pS (.sl 1 [[zC a],[zC b]])] [] (pS (zC (a++b))) []:=by
 have h:=zjo [a,b] ue ug;rw[show [a,b].flatten=a++b by simp]at h;exact h
abbrev zxN(r:Option Int):S:= .agg [.p (.k (.bool r.isSome)),.p (ki (r.getD 0))]
def ssE(d:zg)(fuel:Int):An (Option Int×Fr)->End
 | .ok (r,fr) m=> .ok (zxN r) (mcR d fuel m 1 7 8 9++frR fr)
 | .flt e m=> .pn (znD e) (mcR d fuel m 1 7 8 9)
 | .out=> .no
abbrev zti(d:zg)(fuel:Int)(fr:Fr)(l:List Sm)(m:Mc)(r:An (Option Int×Fr)):Prop:=
 FnX Tryz.prog 233 [.one (.bx 0 0),.one (.bx 5 0),pS (yF l)] (mcR d fuel m 1 2 3 4++frR fr) (ssE d fuel r)
variable {d:zg}{fuel:Int}
set_option maxRecDepth 100000 in
set_option maxHeartbeats 1000000 in
theorem zrB{k:Nat}(ihS: ∀fr l m,zti d fuel fr l m (ssV d fuel k fr l m))(p:Pr)(a:List Int)(m:Mc):zvW d fuel p a m (rnV d fuel (k+1) p a m):=by
 rw[rnV];by_cases h0:m.calls≥200
 ·rw[uw h0];have hf:=vB 19;show zU _ _ _ _ _ _;refine zR T Tryz.func188 ud rfl rfl rfl λC hC=>?_
  repeat' first|refine gG ?_|(exfalso;first|(have h0:=uj h;omega)|(have h0:=uo h;omega))|refine gB ?_ ?_<;>intro h|(refine zo hC hf id rfl rfl zpY rfl rfl rfl rfl rfl rfl ?_)
  exact gU (zi ⟨rfl,nm [0,1,2,3,4,5,6,2,3,4],⟨rfl,rfl,rfl,rfl,rfl,uh⟩,rfl,rfl⟩)
 rw[ur h0];obtain⟨fr,hfr⟩: ∃fr:Fr,fr=⟨p.params++p.locs,a++List.replicate p.locs.length 0⟩:=⟨_,rfl⟩;obtain⟨m0,hm0⟩: ∃m0:Mc,m0={ m with calls:=m.calls+1 }:=⟨_,rfl⟩;rw[<-hfr,<-hm0];rcases wo (p:=0<=m.calls/\a.length<=1000000/\p.params.length<=100000/\p.locs.length<=100000) (x:=(ssV d fuel k fr p.body m0).bind λq m=>ifA (0<m.calls/\m.calls<=1000) (.ok (q.1.getD 0) { m with calls:=m.calls - 1 }))with h|⟨⟨hc,hal,hpl,hll⟩,h⟩
 ·rw[h];trivial
 rw[h];clear h;have hS:=ihS fr p.body m0;have hK:=zc1 p.params p.locs ua ua;have hC1:=jy a hal;have hw:IntKind.i64.wrap (m.calls+1)=m.calls+1:=wrap64 ua;have hrep:a.map z8++List.replicate p.locs.length [ki 0]=(a++List.replicate p.locs.length 0).map z8:=by simp only[u6,oM,z8]
 subst hfr;cases hr:ssV d fuel k ⟨p.params++p.locs,a++List.replicate p.locs.length 0⟩ p.body m0 with
 |out=>trivial
 |flt er mE=>
  rw[hr]at hS;have hS:zU _ _ _ _ _ _:=hS;subst hm0;show zU _ _ _ _ _ _;refine zR T Tryz.func188 ud rfl rfl rfl λC hC=>?_
  repeat' first|refine gG ?_|(exfalso;first|(have h0:=uj h;omega)|(have h0:=uo h;omega))|refine gB ?_ ?_<;>intro h|refine gT ?_|refine gC hK ?_|refine gR hC1 (nm [141]) ?_|(rw[uk];refine zar T 142 hC (id:=141) (rows:=a.map z8) (row:=[ki 0]) (bytes:=8) ((a++List.replicate p.locs.length 0).map z8) rfl rfl rfl rfl rfl rfl rfl hrep rfl ud (by simp only[uk];omega) (by simp only[uk];omega) rfl rfl rfl ?_)
  rw[hw];refine zo hC hS (nm [0,1,2,3,4,1030,142,107,108,109]) rfl rfl (zI.refl _) rfl rfl rfl rfl rfl rfl ?_;exact gU (zi ⟨rfl,nm [0,1,2,3,4,5,6,107,108,109],⟨rfl,rfl,rfl,rfl,rfl,uh⟩,rfl,rfl⟩)
 |ok q mE=>
  rw[hr]at hS;obtain⟨r,fr2⟩:=q;have hS:zf _ _ _ _ _ _:=hS;simp only[An.bind];rcases wo (p:=0<mE.calls/\mE.calls<=1000) (x:=An.ok (r.getD 0) { mE with calls:=mE.calls - 1 })with h|⟨hc2,h⟩
  ·rw[h];trivial
  rw[h];have hw2:IntKind.i64.wrap (mE.calls - 1)=mE.calls - 1:=wrap64 ua;subst hm0;show zf _ _ _ _ _ _;refine gO T Tryz.func188 λC hC=>?_
  repeat' first|refine gG ?_|(exfalso;first|(have h0:=uj h;omega)|(have h0:=uo h;omega))|refine gB ?_ ?_<;>intro h|refine gT ?_|refine gC hK ?_|refine gR hC1 (nm [141]) ?_|(rw[uk];refine zar T 142 hC (id:=141) (rows:=a.map z8) (row:=[ki 0]) (bytes:=8) ((a++List.replicate p.locs.length 0).map z8) rfl rfl rfl rfl rfl rfl rfl hrep rfl ud (by simp only[uk];omega) (by simp only[uk];omega) rfl rfl rfl ?_)
  rw[hw]
  repeat' first|refine gG ?_|refine gB ?_ ?_<;>intro h|refine gR hS (nm [0,1,2,3,4,1030,142,107,108,109]) ?_
  rw[hw2];exact gW [0,1,2,3,4,5,6,107,108,109]
abbrev zfW(d:zg)(fuel:Int)(fr:Fr)(x:Sm)(m:Mc)(r:An (Option Int×Fr)):Prop:=
 FnX Tryz.prog 260 [.one (.bx 0 0),.one (.bx 5 0),zr (zgq x)] (mcR d fuel m 1 2 3 4++frR fr) (ssE d fuel r)
variable {m:Mc}{res:An (Option Int×Fr)}{x:Sm}
theorem zlo{fr:Fr}{k:Nat}{r:List Sm}(h:ssV d fuel k fr (x::r) m=res)(J:res≠ .out):
 ∃j,k=j+1/\((∃v fr2 m1,sV d fuel j fr x m= .ok (some v,fr2) m1/\res= .ok (some v,fr2) m1)\/(∃fr2 m1,sV d fuel j fr x m= .ok (none,fr2) m1/\ssV d fuel j fr2 r m1=res)\/ ∃er m1,sV d fuel j fr x m= .flt er m1/\res= .flt er m1):=by
 cases k with
 |zero=>rw[ssV]at h;exact absurd h.symm J
 |succ j=>
  refine⟨j,rfl,?_⟩;rw[ssV]at h;cases hx:sV d fuel j fr x m with
  |out=>rw[hx]at h;exact absurd h.symm J
  |flt er m1=>rw[hx]at h;exact .inr (.inr ⟨er,m1,rfl,h.symm⟩)
  |ok q m1=>
   rw[hx]at h;obtain⟨o,fr2⟩:=q;cases o with
   |some v=>exact .inl ⟨v,fr2,m1,rfl,h.symm⟩
   |none=>exact .inr (.inl ⟨fr2,m1,rfl,h⟩)
theorem zp3{fr:Fr}{k:Nat}(h:ssV d fuel k fr [] m=res)(J:res≠ .out):res= .ok (none,fr) m:=by
 cases k with
 |zero=>rw[ssV]at h;exact absurd h.symm J
 |succ j=>rw[ssV]at h;exact h.symm
def ssT(d:zg)(fuel:Int)(l:List Sm)(q:Nat×Nat×Fr×Mc):zd×Tab:=
 ([(0,.one (.bx 0 0)),(1,.one (.bx 5 0)),(10,pS (yF l)),(11,I l.length),(12,I q.1),(6,.one (.bx 1006 0))],
  [(1006,some (.box [.p (.k (.bool false)),.p (ki 0)])),(0,some (.box (mcC d fuel q.2.2.2 1 107 109))),(1,some (.arr 1 (q.2.2.2.g.map z8))),(107,some (.vw [108] 2 (wRows q.2.2.2.ns 0))),(108,some (.bag 1 (jR q.2.2.2.ns))),(109,some (.arr 3 (q.2.2.2.acc.map zgC))),
   (5,some (.box [.p (zC q.2.2.1.vs),.ar 6])),(6,some (.arr 1 (q.2.2.1.va.map z8)))])
theorem zrC{k:Nat}(ihS: ∀j,j<=k-> ∀fr x m,zfW d fuel fr x m (sV d fuel j fr x m))(fr:Fr)(l:List Sm)(m:Mc):zti d fuel fr l m (ssV d fuel (k+1) fr l m):=by
 obtain⟨res,U⟩: ∃res,ssV d fuel (k+1) fr l m=res:=⟨_,rfl⟩;rw[U];cases res with
 |out=>trivial
 |ok q0 mF=>
  obtain⟨o,frF⟩:=q0;show zf _ _ _ _ _ _;refine gO T Tryz.func233 λC hC=>?_;refine wi 2 rfl λhlen=>?_;rw[uk]at hlen
  repeat' first|refine gG ?_|refine gB ?_ ?_<;>intro h
  rw[uk]
  refine zn (λq:Nat×Nat×Fr×Mc=>q.1<=l.length/\q.2.1<=k+1/\ssV d fuel q.2.1 q.2.2.1 (l.drop q.1) q.2.2.2= .ok (o,frF) mF) (ssT d fuel l) (λq=>l.length - q.1) hC
   (0,k+1,fr,m) ⟨uE _,uJ _,U⟩ (ms [(107,2),(108,3),(109,4)]) ⟨rfl,⟨rfl,rfl,rfl,rfl,rfl,rfl,uh⟩,⟨rfl,rfl,rfl,rfl,rfl,rfl,rfl,rfl,uh⟩,rfl,xc rfl⟩ ?_
  clear U;rintro⟨i,k1,fr1,m1⟩ ⟨hi,hk,hv⟩;simp only at hi hk hv;refine zm T hC true 200 rfl ?_;refine zp rfl ?_ ?_<;>intro h
  ·have hlt:i<l.length:=by simpa [ssT]using h
   clear h;obtain⟨x,hx⟩:=zb hlt;rw[drop_at hx]at hv;obtain⟨j,rfl,hcase⟩:=zlo hv ue;have hX:=ihS j ua fr1 x m1;rcases hcase with⟨v,fr2,m2,J,hE⟩|⟨fr2,m2,J,hE⟩|⟨er,m2,J,hE⟩
   ·rw[J]at hX;have hX:zf _ _ _ _ _ _:=hX;cases hE
    repeat' first|refine gG ?_|refine gB ?_ ?_<;>intro h|refine gXT ?_|refine gR hX (nm [0,1,107,108,109,5,6,117,118,119]) ?_|refine zl ?_
    exact gW [0,1,2,3,4,5,6,117,118,119]
   ·rw[J]at hX;have hX:zf _ _ _ _ _ _:=hX
    repeat' first|refine gG ?_|refine gB ?_ ?_<;>intro h|refine gXT ?_|refine gR hX (nm [0,1,107,108,109,5,6,117,118,119]) ?_|refine zl ?_
    rw[wrap64 ua];exact zh (i+1,j,fr2,m2) ⟨by simp only;omega,by simp only;omega,hE⟩ (ms [(107,117),(108,118),(109,119)]) (by simp only;omega) ⟨rfl,⟨rfl,rfl,rfl,rfl,rfl,rfl,uh⟩,⟨rfl,rfl,rfl,rfl,rfl,rfl,rfl,rfl,uh⟩,rfl,xc rfl⟩
   ·cases hE
  ·have hge: ¬i<l.length:=by simpa [ssT]using h
   clear h;rw[uC ua]at hv;cases zp3 hv ue
   repeat' first|refine gG ?_|refine gB ?_ ?_<;>intro h|refine ze ?_
   exact gW [0,1,2,3,4,5,6,107,108,109]
 |flt er mF=>
  show zU _ _ _ _ _ _;refine zR T Tryz.func233 ud rfl rfl rfl λC hC=>?_;refine wi 2 rfl λhlen=>?_;rw[uk]at hlen
  repeat' first|refine gG ?_|refine gB ?_ ?_<;>intro h
  rw[uk]
  refine zn (λq:Nat×Nat×Fr×Mc=>q.1<=l.length/\q.2.1<=k+1/\ssV d fuel q.2.1 q.2.2.1 (l.drop q.1) q.2.2.2= .flt er mF) (ssT d fuel l) (λq=>l.length - q.1) hC
   (0,k+1,fr,m) ⟨uE _,uJ _,U⟩ (ms [(107,2),(108,3),(109,4)]) ⟨rfl,⟨rfl,rfl,rfl,rfl,rfl,rfl,uh⟩,⟨rfl,rfl,rfl,rfl,rfl,rfl,rfl,rfl,uh⟩,rfl,xc rfl⟩ ?_
  clear U;rintro⟨i,k1,fr1,m1⟩ ⟨hi,hk,hv⟩;simp only at hi hk hv;refine zm T hC true 200 rfl ?_;refine zp rfl ?_ ?_<;>intro h
  ·have hlt:i<l.length:=by simpa [ssT]using h
   clear h;obtain⟨x,hx⟩:=zb hlt;rw[drop_at hx]at hv;obtain⟨j,rfl,hcase⟩:=zlo hv ue;have hX:=ihS j ua fr1 x m1;rcases hcase with⟨v,fr2,m2,J,hE⟩|⟨fr2,m2,J,hE⟩|⟨er,m2,J,hE⟩
   ·cases hE
   ·rw[J]at hX;have hX:zf _ _ _ _ _ _:=hX
    repeat' first|refine gG ?_|refine gB ?_ ?_<;>intro h|refine gXT ?_|refine gR hX (nm [0,1,107,108,109,5,6,117,118,119]) ?_|refine zl ?_
    rw[wrap64 ua];exact zh (i+1,j,fr2,m2) ⟨by simp only;omega,by simp only;omega,hE⟩ (ms [(107,117),(108,118),(109,119)]) (by simp only;omega) ⟨rfl,⟨rfl,rfl,rfl,rfl,rfl,rfl,uh⟩,⟨rfl,rfl,rfl,rfl,rfl,rfl,rfl,rfl,uh⟩,rfl,xc rfl⟩
   ·rw[J]at hX;have hX:zU _ _ _ _ _ _:=hX;cases hE
    repeat' first|refine gG ?_|refine gB ?_ ?_<;>intro h|refine gXT ?_|(refine zo hC hX (nm [0,1,107,108,109,5,6,117,118,119]) rfl rfl (zI.refl _) rfl rfl rfl rfl rfl rfl ?_)
    exact gU (zcX (gU (zi ⟨rfl,nm [0,1,2,3,4,5,6,117,118,119],⟨rfl,rfl,rfl,rfl,rfl,uh⟩,rfl,rfl⟩)))
  ·have hge: ¬i<l.length:=by simpa [ssT]using h
   clear h;rw[uC ua]at hv;cases zp3 hv ue
def Mc.tk(m:Mc):Mc:={ m with ticks:=m.ticks+1 }
variable {m1:Mc}{y:Ex}
section
variable {fr:Fr}
def zrD(h:m.ticks≥fuel):zfW d fuel fr x m (.flt 20 m):=by
 have hT:=zli d fuel m h;show zU _ _ _ _ _ _;refine zR T Tryz.func260 ud rfl rfl rfl λC hC=>?_
 repeat' first|refine gG ?_|refine gB ?_ ?_<;>intro h|(refine zo hC hT id rfl rfl (zI.refl _) rfl rfl rfl rfl rfl rfl ?_)
 exact gU (zi ⟨rfl,nm [0,1,2,3,4,5,6,2,3,4],⟨rfl,rfl,rfl,rfl,rfl,uh⟩,rfl,rfl⟩)
variable (hT:zf Tryz.prog 273 [.one (.bx 0 0)] (mcR d fuel m 1 2 3 4) (.tup []) (mcR d fuel m.tk 1 2 3 4))
include hT
def zxO{er:Int}(J:x.op=1\/x.op=2\/x.op=3\/(x.op=5/\x.e.length≠0))(hy:x.e[0]?=some y)(U:wE d fuel fr y m.tk (.flt er m1)):zfW d fuel fr x m (.flt er m1):=by
 have U:zU _ _ _ _ _ _:=U;have hlt:=(ux.1 hy).1;show zU _ _ _ _ _ _;rcases J with J|J|J|⟨J,hne⟩
 all_goals
  refine zR T Tryz.func260 ud rfl rfl rfl λC hC=>?_
  repeat' first|refine gG ?_|(exfalso;first|(have h0:=uj h;omega)|(have h0:=uo h;omega))|(exfalso;have h0:=uj h;simp only[uk]at h0;omega)|refine gB ?_ ?_<;>intro h|refine gR hT (nm [0,1,2,3,4]) ?_|(refine gI T (zD hy) ?_)|(refine zo hC U (nm [0,1,2,3,4,5,6,107,108,109]) rfl rfl (zI.refl _) rfl rfl rfl rfl rfl rfl ?_)
  exact gU (zi ⟨rfl,nm [0,1,2,3,4,5,6,107,108,109],⟨rfl,rfl,rfl,rfl,rfl,uh⟩,rfl,rfl⟩)
theorem zxP{a:An Int}(hop:x.op=6)(hy:x.e[0]?=some y)(J:zrx d fuel fr y m.tk a):zfW d fuel fr x m (a.bind λ_ m=> .ok (none,fr) m):=by
 cases a with
 |out=>trivial
 |ok v m1=>
  have J:zf _ _ _ _ _ _:=J;show zf _ _ _ _ _ _;refine gO T Tryz.func260 λC hC=>?_
  repeat' first|refine gG ?_|(exfalso;first|(have U:=uj h;omega)|(have U:=uo h;omega))|refine gB ?_ ?_<;>intro h|refine gR hT (nm [0,1,2,3,4]) ?_|(refine gI T (zD hy) ?_)|refine gR J (nm [0,1,2,3,4,5,6,107,108,109]) ?_
  exact gW [0,1,2,3,4,5,6,107,108,109]
 |flt er m1=>
  have J:zU _ _ _ _ _ _:=J;show zU _ _ _ _ _ _;refine zR T Tryz.func260 ud rfl rfl rfl λC hC=>?_
  repeat' first|refine gG ?_|(exfalso;first|(have U:=uj h;omega)|(have U:=uo h;omega))|refine gB ?_ ?_<;>intro h|refine gR hT (nm [0,1,2,3,4]) ?_|(refine gI T (zD hy) ?_)|(refine zo hC J (nm [0,1,2,3,4,5,6,107,108,109]) rfl rfl (zI.refl _) rfl rfl rfl rfl rfl rfl ?_)
  exact gU (zi ⟨rfl,nm [0,1,2,3,4,5,6,107,108,109],⟨rfl,rfl,rfl,rfl,rfl,uh⟩,rfl,rfl⟩)
def zxQ(hop: ¬(x.op=1\/x.op=2\/x.op=3\/x.op=4\/x.op=5\/x.op=6)):zfW d fuel fr x m (.ok (none,fr) m.tk):=by
 show zf _ _ _ _ _ _;refine gO T Tryz.func260 λC hC=>?_
 repeat' first|refine gG ?_|(exfalso;first|(have J:=uj h;omega)|(have J:=uo h;omega))|refine gB ?_ ?_<;>intro h|refine gR hT (nm [0,1,2,3,4]) ?_
 exact gW [0,1,2,3,4,5,6,2,3,4]
def zwE(hop:x.op=5)(he:x.e.length=0):zfW d fuel fr x m (.ok (some 0,fr) m.tk):=by
 show zf _ _ _ _ _ _;refine gO T Tryz.func260 λC hC=>?_
 repeat' first|refine gG ?_|(exfalso;first|(have J:=uj h;omega)|(have J:=uo h;omega))|(exfalso;have J:=uo h;simp only[uk]at J;omega)|refine gB ?_ ?_<;>intro h|refine gR hT (nm [0,1,2,3,4]) ?_
 exact gW [0,1,2,3,4,5,6,2,3,4]
def zxR{v:Int}(hop:x.op=5)(hy:x.e[0]?=some y)(J:wE d fuel fr y m.tk (.ok v m1)):zfW d fuel fr x m (.ok (some v,fr) m1):=by
 have hlt:=(ux.1 hy).1;have J:zf _ _ _ _ _ _:=J;show zf _ _ _ _ _ _;refine gO T Tryz.func260 λC hC=>?_
 repeat' first|refine gG ?_|(exfalso;first|(have U:=uj h;omega)|(have U:=uo h;omega))|(exfalso;have U:=uj h;simp only[uk]at U;omega)|refine gB ?_ ?_<;>intro h|refine gR hT (nm [0,1,2,3,4]) ?_|(refine gI T (zD hy) ?_)|refine gR J (nm [0,1,2,3,4,5,6,107,108,109]) ?_
 exact gW [0,1,2,3,4,5,6,107,108,109]
def zxS{v:Int}{a:An (Option Int×Fr)}(hop:x.op=3)(hy:x.e[0]?=some y)(U:wE d fuel fr y m.tk (.ok v m1))(J:zti d fuel fr (if v=1 then x.l else x.els) m1 a):zfW d fuel fr x m a:=by
 have U:zf _ _ _ _ _ _:=U;by_cases hv:v=1
 all_goals
  first|rw[uw hv]at J|rw[ur hv]at J
  cases a with
  |out=>trivial
  |ok q m2=>
   obtain⟨r,fr2⟩:=q;have J:zf _ _ _ _ _ _:=J;show zf _ _ _ _ _ _;refine gO T Tryz.func260 λC hC=>?_
   repeat' first|refine gG ?_|(exfalso;first|(have h0:=uj h;omega)|(have h0:=uo h;omega))|refine gB ?_ ?_<;>intro h|refine gR hT (nm [0,1,2,3,4]) ?_|(refine gI T (zD hy) ?_)|refine gR U (nm [0,1,2,3,4,5,6,107,108,109]) ?_|refine gR J (nm [0,1,107,108,109,5,6,117,118,119]) ?_
   exact gW [0,1,2,3,4,5,6,117,118,119]
  |flt er m2=>
   have J:zU _ _ _ _ _ _:=J;show zU _ _ _ _ _ _;refine zR T Tryz.func260 ud rfl rfl rfl λC hC=>?_
   repeat' first|refine gG ?_|(exfalso;first|(have h0:=uj h;omega)|(have h0:=uo h;omega))|refine gB ?_ ?_<;>intro h|refine gR hT (nm [0,1,2,3,4]) ?_|(refine gI T (zD hy) ?_)|refine gR U (nm [0,1,2,3,4,5,6,107,108,109]) ?_|(refine zo hC J (nm [0,1,107,108,109,5,6,117,118,119]) rfl rfl (zI.refl _) rfl rfl rfl rfl rfl rfl ?_)
   exact gU (zi ⟨rfl,nm [0,1,2,3,4,5,6,117,118,119],⟨rfl,rfl,rfl,rfl,rfl,uh⟩,rfl,rfl⟩)
end
def zh9(l:List Int)(i:Nat)(x y:Int):(l.map z8).set i (setAt (z8 y) 0 [ki x])=(l.set i x).map z8:=by
 rw[Uf];rfl
def zxu(l:Nat)(field:Int):Prop:=field<0\/(l:Int)<=field
instance (l:Nat) (field:Int):Decidable (zxu l field):=by unfold zxu;infer_instance
section
variable {fr:Fr}
variable (hT:zf Tryz.prog 273 [.one (.bx 0 0)] (mcR d fuel m 1 2 3 4) (.tup []) (mcR d fuel m.tk 1 2 3 4))
include hT
theorem zxT{v:Int}(hop:x.op=1)(hy:x.e[0]?=some y)(U:wE d fuel fr y m.tk (.ok v m1)):zfW d fuel fr x m (stV d fr x.s v m1):=by
 have U:zf _ _ _ _ _ _:=U;unfold stV;cases hi:ixF fr.vs x.s with
 |some i=>
  have hI:=xx hi;simp only;rcases wo (p:=i<fr.va.length) (x:=(.ok (none,{ fr with va:=fr.va.set i v }) m1:An (Option Int×Fr)))with h|⟨J,h⟩
  ·rw[h];trivial
  rw[h];obtain⟨u,hu⟩:=zb J;show zf _ _ _ _ _ _;refine gO T Tryz.func260 λC hC=>?_
  repeat' first|refine gG ?_|(exfalso;first|(have h0:=uj h;omega)|(have h0:=uo h;omega))|refine gB ?_ ?_<;>intro h|refine gR hT (nm [0,1,2,3,4]) ?_|(refine gI T (zD hy) ?_)|refine gR U (nm [0,1,2,3,4,5,6,107,108,109]) ?_|refine gC hI ?_|(refine jH T hC (rows:=fr.va.map z8) rfl rfl rfl rfl (uD _) (by rw[uk];omega) rfl rfl ?_)|(refine zdM T hC i 0 (rows:=fr.va.map z8) (row:=z8 u) (us:=[ki v]) (rows':=(fr.va.set i v).map z8) rfl rfl rfl rfl rfl rfl rfl (by rw[uK,hu];rfl) (uJ 1) (zh9 _ _ _ _) rfl ?_)
  exact gW [0,1,2,3,4,5,6,107,108,109]
 |none=>
  have hI:=w6 hi;simp only;rcases zc0 (o:=ixF d.globals x.s) (f:=λi=>ifA (i<m1.g.length) (zct m1 2 0 i λm=>(.ok (none,fr) { m with g:=m.g.set i v }:An (Option Int×Fr))))with h|⟨i,hj,h⟩
  ·rw[h];trivial
  rw[h];rcases wo (p:=i<m1.g.length) (x:=zct m1 2 0 i λm=>(.ok (none,fr) { m with g:=m.g.set i v }:An (Option Int×Fr)))with h|⟨J,h⟩
  ·rw[h];trivial
  rw[h];rcases zb9 (m:=m1) (k:=2) (n:=0) (f:=i) (c:=λm=>(.ok (none,fr) { m with g:=m.g.set i v }:An (Option Int×Fr)))with h|⟨h7,h⟩
  ·rw[h];trivial
  rw[h];have hJ:=xx hj;have hA:=jf d fuel m1 2 0 i h7;obtain⟨u,hu⟩:=zb J;show zf _ _ _ _ _ _;refine gO T Tryz.func260 λC hC=>?_
  repeat' first|refine gG ?_|(exfalso;first|(have h0:=uj h;omega)|(have h0:=uo h;omega))|refine gB ?_ ?_<;>intro h|refine gR hT (nm [0,1,2,3,4]) ?_|(refine gI T (zD hy) ?_)|refine gR U (nm [0,1,2,3,4,5,6,107,108,109]) ?_|refine gC hI ?_|refine gC hJ ?_|refine gR hA (nm [0,1,107,108,109,5,6,7,8,119]) ?_|(refine jH T hC (rows:=m1.g.map z8) rfl rfl rfl rfl (uD _) (by rw[uk];omega) rfl rfl ?_)|(refine zdM T hC i 0 (rows:=m1.g.map z8) (row:=z8 u) (us:=[ki v]) (rows':=(m1.g.set i v).map z8) rfl rfl rfl rfl rfl rfl rfl (by rw[uK,hu];rfl) (uJ 1) (zh9 _ _ _ _) rfl ?_)
  exact gW [0,1,2,3,4,5,6,107,108,119]
def zwF{z:Ex}{m2:Mc}{n er:Int}(hop:x.op=2)(hy:x.e[0]?=some y)(J:wE d fuel fr y m.tk (.ok n m1))(hz:x.e[1]?=some z)(U:wE d fuel fr z m1 (.flt er m2)):zfW d fuel fr x m (.flt er m2):=by
 have J:zf _ _ _ _ _ _:=J;have U:zU _ _ _ _ _ _:=U;show zU _ _ _ _ _ _;refine zR T Tryz.func260 ud rfl rfl rfl λC hC=>?_
 repeat' first|refine gG ?_|(exfalso;first|(have h0:=uj h;omega)|(have h0:=uo h;omega))|refine gB ?_ ?_<;>intro h|refine gR hT (nm [0,1,2,3,4]) ?_|(refine gI T (zD hy) ?_)|(refine gI T (yJ hz) ?_)|refine gR J (nm [0,1,2,3,4,5,6,107,108,109]) ?_|(refine zo hC U (nm [0,1,107,108,109,5,6,117,118,119]) rfl rfl (zI.refl _) rfl rfl rfl rfl rfl rfl ?_)
 exact gU (zi ⟨rfl,nm [0,1,2,3,4,5,6,117,118,119],⟨rfl,rfl,rfl,rfl,rfl,uh⟩,rfl,rfl⟩)
set_option maxRecDepth 100000 in
set_option maxHeartbeats 1000000 in
def zxU{z:Ex}{m2:Mc}{n v:Int}(hop:x.op=2)(hy:x.e[0]?=some y)(hX:wE d fuel fr y m.tk (.ok n m1))(hz:x.e[1]?=some z)(hZ:wE d fuel fr z m1 (.ok v m2)):zfW d fuel fr x m (ptV d fr x.s n v m2):=by
 have hX:zf _ _ _ _ _ _:=hX;have hZ:zf _ _ _ _ _ _:=hZ;unfold ptV;by_cases h0:n=0
 ·rw[uw h0];subst h0;have hf:=vB 17;show zU _ _ _ _ _ _;refine zR T Tryz.func260 ud rfl rfl rfl λC hC=>?_
  repeat' first|refine gG ?_|(exfalso;first|(have h0:=uj h;omega)|(have h0:=uo h;omega))|exact gD|refine gB ?_ ?_<;>intro h|refine gR hT (nm [0,1,2,3,4]) ?_|(refine gI T (zD hy) ?_)|(refine gI T (yJ hz) ?_)|refine gR hX (nm [0,1,2,3,4,5,6,107,108,109]) ?_|refine gR hZ (nm [0,1,107,108,109,5,6,117,118,119]) ?_|(refine zo hC hf id rfl rfl zpY rfl rfl rfl rfl rfl rfl ?_)
  exact gU (zi ⟨rfl,nm [0,1,2,3,4,5,6,117,118,119],⟨rfl,rfl,rfl,rfl,rfl,uh⟩,rfl,rfl⟩)
 rw[ur h0];rcases zpZ (d:=d) (v:=n) (s:=x.s) (m:=m2) (c:=λx i=>ifA (i<x.f.length) (zct m2 2 n i λm=>(.ok (none,fr) { m with ns:=m.ns.set (n - 1).toNat ⟨x.t,x.f.set i v⟩ }:An (Option Int×Fr))))with h|⟨y1,t,i,h1,h2,h3,h4,h5,h⟩
 ·rw[h];trivial
 rw[h];rcases wo (p:=i<y1.f.length) (x:=zct m2 2 n i λm=>(.ok (none,fr) { m with ns:=m.ns.set (n - 1).toNat ⟨y1.t,y1.f.set i v⟩ }:An (Option Int×Fr)))with h|⟨hil,h⟩
 ·rw[h];trivial
 rw[h];rcases zb9 (m:=m2) (k:=2) (n:=n) (f:=i) (c:=λm=>(.ok (none,fr) { m with ns:=m.ns.set (n - 1).toNat ⟨y1.t,y1.f.set i v⟩ }:An (Option Int×Fr)))with h|⟨h7,h⟩
 ·rw[h];trivial
 rw[h];have hF:=zp0 (fuel:=fuel) h1.1 h2 h3 h4 h5;have hA:=jf d fuel m2 2 n i h7;have hlt:(n - 1).toNat<m2.ns.length:=(ux.1 h2).1;have hwl:=yq m2.ns 0;have hw1:IntKind.i64.wrap (n - 1)=n - 1:=wrap64 ua;have hset:=zkm m2.ns h2 (y1.f.set i v);have hbs:=znX m2.ns (n - 1).toNat y1 (y1.f.set i v);show zf _ _ _ _ _ _;refine gO T Tryz.func260 λC hC=>?_
 repeat' first|refine gG ?_|(exfalso;first|(have h0:=uj h;omega)|(have h0:=uo h;omega))|refine gB ?_ ?_<;>intro h|refine gR hT (nm [0,1,2,3,4]) ?_|(refine gI T (zD hy) ?_)|(refine gI T (yJ hz) ?_)|refine gR hX (nm [0,1,2,3,4,5,6,107,108,109]) ?_|refine gR hZ (nm [0,1,107,108,109,5,6,117,118,119]) ?_|refine gK hF (nm [0,1,117,118,119]) ?_|refine gR hA (nm [0,1,117,118,119,5,6,7,8,129]) ?_|(refine zki T hC rfl rfl rfl rfl (by rw[hw1];omega) (by rw[hw1,hwl];omega) rfl rfl ?_;rw[hw1])|(refine zf9 T hC [.nv 118 (n - 1).toNat] rfl rfl rfl (wF h2) rfl rfl rfl ?_)|(refine zpM T hC rfl rfl rfl (zbM h2) rfl (uD _) (by rw[uk];omega) rfl rfl ?_)|(refine znS T hC ((y1.f.set i v).map z8) (us:=[ki v]) rfl rfl rfl rfl rfl rfl (zbM h2) ue (zdy _) ug (zkn _ _ _) rfl ?_)
 refine zi ⟨.inl rfl,nm [0,1,2,3,4,5,6,117,118,129],_,rfl,.refl _,⟨rfl,rfl,?_,?_,rfl,rfl,rfl,uh⟩,rfl,rfl⟩
 ·exact u5 (λr=>some (Res.vw [118] 2 r)) hset.symm
 ·exact u5 (λb=>some (Res.bag 1 b)) hbs
end
def zia{β:Type}{c:Mc->An β}:(m.ticks≥fuel/\zbF fuel m c= .flt 20 m)\/(¬m.ticks≥fuel/\zbF fuel m c= .out)\/(¬m.ticks≥fuel/\(0<=m.ticks/\m.ticks<1099511627776)/\zbF fuel m c=c m.tk):=by
 unfold zbF;by_cases h:m.ticks≥fuel
 ·rw[uw h];exact .inl ⟨h,rfl⟩
 ·rw[ur h];rcases wo (p:=0<=m.ticks/\m.ticks<1099511627776) (x:=c { m with ticks:=m.ticks+1 })with e|⟨J,e⟩
  ·exact .inr (.inl ⟨h,e⟩)
  ·exact .inr (.inr ⟨h,J,e⟩)
inductive WhN (d:zg) (fuel:Int) (fr:Fr) (c:Ex) (l:List Sm) (m:Mc) (res:An (Option Int×Fr)) (j:Nat):Prop
 |cf (er:Int) (m1:Mc) (h:exV d fuel fr j c m= .flt er m1) (e:res= .flt er m1)
 |cn (v:Int) (m1:Mc) (h:exV d fuel fr j c m= .ok v m1) (hv:v≠1) (e:res= .ok (none,fr) m1)
 |bf (m1:Mc) (er:Int) (m2:Mc) (h:exV d fuel fr j c m= .ok 1 m1) (h2:ssV d fuel j fr l m1= .flt er m2) (e:res= .flt er m2)
 |br (m1:Mc) (r:Int) (fr2:Fr) (m2:Mc) (h:exV d fuel fr j c m= .ok 1 m1) (h2:ssV d fuel j fr l m1= .ok (some r,fr2) m2) (e:res= .ok (some r,fr2) m2)
 |tf (m1:Mc) (fr2:Fr) (m2:Mc) (h:exV d fuel fr j c m= .ok 1 m1) (h2:ssV d fuel j fr l m1= .ok (none,fr2) m2) (h3:m2.ticks≥fuel) (e:res= .flt 20 m2)
 |go (m1:Mc) (fr2:Fr) (m2:Mc) (h:exV d fuel fr j c m= .ok 1 m1) (h2:ssV d fuel j fr l m1= .ok (none,fr2) m2) (h3: ¬m2.ticks≥fuel) (h4:0<=m2.ticks/\m2.ticks<1099511627776) (e:whV d fuel j fr2 c l m2.tk=res)
theorem zrE{fr:Fr}{k:Nat}{c:Ex}{l:List Sm}(h:whV d fuel k fr c l m=res)(J:res≠ .out): ∃j,k=j+1/\WhN d fuel fr c l m res j:=by
 cases k with
 |zero=>rw[whV]at h;exact absurd h.symm J
 |succ j=>
  refine⟨j,rfl,?_⟩;rw[whV]at h;cases hx:exV d fuel fr j c m with
  |out=>rw[hx]at h;exact absurd h.symm J
  |flt er m1=>rw[hx]at h;exact .cf er m1 hx h.symm
  |ok v m1=>
   rw[hx]at h;simp only[An.bind]at h;by_cases hv:v=1
   ·subst hv;rw[uw rfl]at h;cases hs:ssV d fuel j fr l m1 with
    |out=>rw[hs]at h;exact absurd h.symm J
    |flt er m2=>rw[hs]at h;exact .bf m1 er m2 hx hs h.symm
    |ok q m2=>
     rw[hs]at h;obtain⟨o,fr2⟩:=q;cases o with
     |some r=>exact .br m1 r fr2 m2 hx hs h.symm
     |none=>
      simp only at h;rcases zia (fuel:=fuel) (m:=m2) (c:=λm=>whV d fuel j fr2 c l m)with⟨h3,e⟩|⟨h3,e⟩|⟨h3,h4,e⟩
      ·rw[e]at h;exact .tf m1 fr2 m2 hx hs h3 h.symm
      ·rw[e]at h;exact absurd h.symm J
      ·rw[e]at h;exact .go m1 fr2 m2 hx hs h3 h4 h
   ·rw[ur hv]at h;exact .cn v m1 hx hv h.symm
def whT(d:zg)(fuel:Int)(x:Sm)(q:Nat×Fr×Mc):zd×Tab:=
 ([(0,.one (.bx 0 0)),(1,.one (.bx 5 0)),(5,.one (.bx 1005 0)),(6,.one (.bx 1006 0))],
  [(1005,some (.box ((zgq x).map V.p))),(1006,some (.box [.p (.k (.bool false)),.p (ki 0)])),(0,some (.box (mcC d fuel q.2.2 1 107 109))),(1,some (.arr 1 (q.2.2.g.map z8))),(107,some (.vw [108] 2 (wRows q.2.2.ns 0))),(108,some (.bag 1 (jR q.2.2.ns))),(109,some (.arr 3 (q.2.2.acc.map zgC))),
   (5,some (.box [.p (zC q.2.1.vs),.ar 6])),(6,some (.arr 1 (q.2.1.va.map z8)))])
set_option maxHeartbeats 2000000 in
def zxV{fr:Fr}{k:Nat}(ihE: ∀j,j<=k-> ∀fr e m,wE d fuel fr e m (exV d fuel fr j e m))(ihS: ∀j,j<=k-> ∀fr l m,zti d fuel fr l m (ssV d fuel j fr l m))
 (hT:zf Tryz.prog 273 [.one (.bx 0 0)] (mcR d fuel m 1 2 3 4) (.tup []) (mcR d fuel m.tk 1 2 3 4))
 (hop:x.op=4) (hy:x.e[0]?=some y):zfW d fuel fr x m (whV d fuel k fr y x.l m.tk):=by
 obtain⟨res,hres⟩: ∃res,whV d fuel k fr y x.l m.tk=res:=⟨_,rfl⟩;rw[hres];by_cases hn:res= .out
 ·rw[hn];trivial
 refine zxs T Tryz.func260 ud rfl rfl rfl rfl λC hC=>?_
 repeat' first|refine gG ?_|(exfalso;first|(have h0:=uj h;omega)|(have h0:=uo h;omega))|refine gB ?_ ?_<;>intro h|refine gR hT (nm [0,1,2,3,4]) ?_
 refine zn (λq:Nat×Fr×Mc=>q.1<=k/\whV d fuel q.1 q.2.1 y x.l q.2.2=res) (whT d fuel x) (λq=>q.1) hC
  (k,fr,m.tk) ⟨uJ _,hres⟩ (ms [(107,2),(108,3),(109,4)]) ⟨rfl,⟨rfl,rfl,rfl,rfl,uh⟩,⟨rfl,rfl,rfl,rfl,rfl,rfl,rfl,rfl,rfl,uh⟩,rfl,xc rfl⟩ ?_
 clear hres hT;rintro⟨k1,fr1,m1⟩ ⟨hk,hv⟩;simp only at hk hv;obtain⟨j,rfl,hcase⟩:=zrE hv hn;have J:=ihE j ua fr1 y m1;have U:=ihS j ua fr1 x.l;rcases hcase with⟨er,m2,h1,rfl⟩|⟨v,m2,h1,hne,rfl⟩|⟨m2,er,m3,h1,h2,rfl⟩|⟨m2,r,fr2,m3,h1,h2,rfl⟩|⟨m2,fr2,m3,h1,h2,h3,rfl⟩|⟨m2,fr2,m3,h1,h2,h3,h4,hnx⟩
 ·rw[h1]at J;have J:zU _ _ _ _ _ _:=J
  repeat' first|refine gG ?_|refine gB ?_ ?_<;>intro h|(refine gI T (zD hy) ?_)|(refine zo hC J (nm [0,1,107,108,109,5,6,117,118,119]) rfl rfl (zI.refl _) rfl rfl rfl rfl rfl rfl ?_)
  exact gU (zcX (gU (zfa ⟨rfl,nm [0,1,2,3,4,5,6,117,118,119],⟨rfl,rfl,rfl,rfl,rfl,uh⟩,rfl,rfl⟩)))
 ·rw[h1]at J;have J:zf _ _ _ _ _ _:=J
  repeat' first|refine gG ?_|(exfalso;exact hne (uj h))|refine gB ?_ ?_<;>intro h|(refine gI T (zD hy) ?_)|refine gR J (nm [0,1,107,108,109,5,6,117,118,119]) ?_|refine ze ?_
  exact zdH ⟨.inl rfl,nm [0,1,2,3,4,5,6,117,118,119],_,rfl,.refl _,⟨rfl,rfl,rfl,rfl,rfl,rfl,rfl,uh⟩,rfl,rfl⟩
 ·rw[h1]at J;have J:zf _ _ _ _ _ _:=J;have U:=U m2;rw[h2]at U;have U:zU _ _ _ _ _ _:=U
  repeat' first|refine gG ?_|exact gD|refine gB ?_ ?_<;>intro h|(refine gI T (zD hy) ?_)|refine gR J (nm [0,1,107,108,109,5,6,117,118,119]) ?_|(refine zo hC U (nm [0,1,117,118,119,5,6,127,128,129]) rfl rfl (zI.refl _) rfl rfl rfl rfl rfl rfl ?_)
  exact gU (zcX (gU (zfa ⟨rfl,nm [0,1,2,3,4,5,6,127,128,129],⟨rfl,rfl,rfl,rfl,rfl,uh⟩,rfl,rfl⟩)))
 ·rw[h1]at J;have J:zf _ _ _ _ _ _:=J;have U:=U m2;rw[h2]at U;have U:zf _ _ _ _ _ _:=U
  repeat' first|refine gG ?_|exact gD|refine gB ?_ ?_<;>intro h|(refine gI T (zD hy) ?_)|refine gR J (nm [0,1,107,108,109,5,6,117,118,119]) ?_|refine gR U (nm [0,1,117,118,119,5,6,127,128,129]) ?_|refine zl ?_
  exact zdH ⟨.inl rfl,nm [0,1,2,3,4,5,6,127,128,129],_,rfl,.refl _,⟨rfl,rfl,rfl,rfl,rfl,rfl,rfl,uh⟩,rfl,rfl⟩
 ·rw[h1]at J;have J:zf _ _ _ _ _ _:=J;have U:=U m2;rw[h2]at U;have U:zf _ _ _ _ _ _:=U;have hK:=zli d fuel m3 h3
  repeat' first|refine gG ?_|exact gD|refine gB ?_ ?_<;>intro h|(refine gI T (zD hy) ?_)|refine gR J (nm [0,1,107,108,109,5,6,117,118,119]) ?_|refine gR U (nm [0,1,117,118,119,5,6,127,128,129]) ?_|(refine zo hC hK (nm [0,1,127,128,129]) rfl rfl (zI.refl _) rfl rfl rfl rfl rfl rfl ?_)
  exact gU (zcX (gU (zfa ⟨rfl,nm [0,1,2,3,4,5,6,127,128,129],⟨rfl,rfl,rfl,rfl,rfl,uh⟩,rfl,rfl⟩)))
 ·rw[h1]at J;have J:zf _ _ _ _ _ _:=J;have U:=U m2;rw[h2]at U;have U:zf _ _ _ _ _ _:=U;have hK:=zlj d fuel m3 h3 h4
  repeat' first|refine gG ?_|exact gD|refine gB ?_ ?_<;>intro h|(refine gI T (zD hy) ?_)|refine gR J (nm [0,1,107,108,109,5,6,117,118,119]) ?_|refine gR U (nm [0,1,117,118,119,5,6,127,128,129]) ?_|refine gR hK (nm [0,1,127,128,129]) ?_
  exact zh (j,fr2,m3.tk) ⟨by simp only;omega,hnx⟩ (ms [(107,127),(108,128),(109,129)]) (by simp only;omega) ⟨rfl,⟨rfl,rfl,rfl,rfl,uh⟩,⟨rfl,rfl,rfl,rfl,rfl,rfl,rfl,rfl,rfl,uh⟩,rfl,xc rfl⟩
def zun{k:Nat}(ihE: ∀j,j<=k-> ∀fr e m,wE d fuel fr e m (exV d fuel fr j e m))(ihC: ∀fr e m,zrx d fuel fr e m (clV d fuel fr k e m))(ihS: ∀j,j<=k-> ∀fr l m,zti d fuel fr l m (ssV d fuel j fr l m))
 (fr:Fr) (x:Sm) (m:Mc):zfW d fuel fr x m (sV d fuel (k+1) fr x m):=by
 rw[sV]
 rcases zia (fuel:=fuel) (m:=m) (c:=λm=>
  if x.op=1 then(atA x.e 0 λy=>exV d fuel fr k y m).bind λv m=>stV d fr x.s v m
  else if x.op=2 then(atA x.e 0 λy=>exV d fuel fr k y m).bind λn m=>(atA x.e 1 λy=>exV d fuel fr k y m).bind λv m=>ptV d fr x.s n v m
  else if x.op=3 then(atA x.e 0 λy=>exV d fuel fr k y m).bind λv m=>if v=1 then ssV d fuel k fr x.l m else ssV d fuel k fr x.els m
  else if x.op=4 then atA x.e 0 λy=>whV d fuel k fr y x.l m
  else if x.op=5 then(if x.e.length=0 then .ok (some 0,fr) m else(atA x.e 0 λy=>exV d fuel fr k y m).bind λv m=> .ok (some v,fr) m)
  else if x.op=6 then(atA x.e 0 λy=>clV d fuel fr k y m).bind λ_ m=> .ok (none,fr) m
  else .ok (none,fr) m)with⟨h3,e⟩|⟨h3,e⟩|⟨h3,h4,e⟩
 ·rw[e];exact zrD h3
 ·rw[e];trivial
 rw[e];have hT:zf Tryz.prog 273 [.one (.bx 0 0)] (mcR d fuel m 1 2 3 4) (.tup []) (mcR d fuel m.tk 1 2 3 4):=zlj d fuel m h3 h4
 have first: ∀(f:Int->Mc->An (Option Int×Fr)),(x.op=1\/x.op=2\/x.op=3\/(x.op=5/\x.e.length≠0))->(∀y v m1,x.e[0]?=some y->wE d fuel fr y m.tk (.ok v m1)->zfW d fuel fr x m (f v m1))->
  zfW d fuel fr x m ((atA x.e 0 λy=>exV d fuel fr k y m.tk).bind f):=λf hop hf=>by
  rcases w7 (l:=x.e) (i:=0) (f:=λy=>exV d fuel fr k y m.tk)with h|⟨y,J,h⟩
  ·rw[h];trivial
  rw[h];have U:=ihE k (uJ _) fr y m.tk;cases hr:exV d fuel fr k y m.tk with
  |ok v m1=>rw[hr]at U;exact hf y v m1 J U
  |flt er m1=>rw[hr]at U;exact zxO hT hop J U
  |out=>trivial
 by_cases h1:x.op=1
 ·rw[uw h1];exact first _ (.inl h1) λy v m1 J U=>zxT hT h1 J U
 rw[ur h1];by_cases h2:x.op=2
 ·rw[uw h2];refine first _ (.inr (.inl h2)) λy v m1 J U=>?_
  rcases w7 (l:=x.e) (i:=1) (f:=λy=>exV d fuel fr k y m1)with h|⟨z,hz,h⟩
  ·rw[h];trivial
  rw[h];have hZ:=ihE k (uJ _) fr z m1;cases hr:exV d fuel fr k z m1 with
  |ok w m2=>rw[hr]at hZ;exact zxU hT h2 J U hz hZ
  |flt er m2=>rw[hr]at hZ;exact zwF hT h2 J U hz hZ
  |out=>trivial
 rw[ur h2];by_cases h33:x.op=3
 ·rw[uw h33];refine first _ (.inr (.inr (.inl h33))) λy v m1 J U=>zxS hT h33 J U ?_
  split
  ·exact ihS k (uJ _) fr x.l m1
  ·exact ihS k (uJ _) fr x.els m1
 rw[ur h33];by_cases h44:x.op=4
 ·rw[uw h44];rcases w7 (l:=x.e) (i:=0) (f:=λy=>whV d fuel k fr y x.l m.tk)with h|⟨y,J,h⟩
  ·rw[h];trivial
  rw[h];exact zxV ihE ihS hT h44 J
 rw[ur h44];by_cases h5:x.op=5
 ·rw[uw h5];by_cases he:x.e.length=0
  ·rw[uw he];exact zwE hT h5 he
  ·rw[ur he];exact first _ (.inr (.inr (.inr ⟨h5,he⟩))) λy v m1 J U=>zxR hT h5 J U
 rw[ur h5];by_cases h6:x.op=6
 ·rw[uw h6];rcases w7 (l:=x.e) (i:=0) (f:=λy=>clV d fuel fr k y m.tk)with h|⟨y,J,h⟩
  ·rw[h];trivial
  rw[h];exact zxP hT h6 J (ihC fr y m.tk)
 rw[ur h6];exact zxQ hT ua
theorem zop(d:zg)(fuel:Int): ∀k,(∀fr e m,wE d fuel fr e m (exV d fuel fr k e m))/\(∀fr e m,zrx d fuel fr e m (clV d fuel fr k e m))/\(∀p a m,zvW d fuel p a m (rnV d fuel k p a m))/\
 (∀fr l m,zti d fuel fr l m (ssV d fuel k fr l m))/\ ∀fr x m,zfW d fuel fr x m (sV d fuel k fr x m):=by
 intro k
 induction k using Nat.strongRecOn with
 |_ k ih=>
 cases k with
 |zero=>exact⟨λfr e m=>by rw[exV];trivial,λfr e m=>by rw[clV];trivial,λp a m=>by rw[rnV];trivial,λfr l m=>by rw[ssV];trivial,λfr x m=>by rw[sV];trivial⟩
 |succ k=>
  have h:=λj (J:j<=k)=>ih j ua
  exact⟨λfr e m=>zry ((h k (uJ _)).1 fr) ((h k (uJ _)).2.1 fr) e m,λfr e m=>zrz (λj J=>(h j J).1 fr) (h k (uJ _)).2.2.1 e m,λp a m=>zrB (h k (uJ _)).2.2.2.1 p a m,
   λfr l m=>zrC (λj J=>(h j J).2.2.2.2) fr l m,λfr x m=>zun (λj J=>(h j J).1) (h k (uJ _)).2.1 (λj J=>(h j J).2.2.2.1) fr x m⟩
def ndC(l:List (Int×Int×Int)):Nat:=(l.filter λq=>decide (0<q.2.1)).length
variable {i:Nat}
def zoq{l:List (Int×Int×Int)}{q:Int×Int×Int}(h:l[i]?=some q):ndC (l.take (i+1))=ndC (l.take i)+(if 0<q.2.1 then 1 else 0):=by
 unfold ndC;rw[yc h,oa,uP]
 congr 1
 simp only[qY,List.filter_nil];by_cases J:0<q.2.1
 ·rw[uw J,uw (uT J)];rfl
 ·rw[ur J,ur (by simpa using J)];rfl
def zlp{s:S}:LeS s .un:=λ_ _ _ _=>by simp only[RepS]
def znE(fl v co nd:Int):List V:=[.p (ki fl),.p (ki v),.p (ki co),.p (ki nd),.p (ki 0)]
abbrev plR(d:zg)(fuel:Int)(m:Mc)(fl v co nd:Int):RL:=mcR d fuel m 1 2 3 4++[(5,.box (znE fl v co nd)),(6,.box [.bx 0 0])]
set_option maxRecDepth 100000 in
def zib(d:zg)(fuel:Int)(m:Mc)(v:Int)(rq:Option Int)(hl:m.acc.length<=1099511627776):
 zt0 Tryz.prog 187 [.one (.bx 5 0),.one (.bx 6 0)] (plR d fuel m 0 v 0 0) (rq.map znD) (plR d fuel m (rq.getD 0) v m.comps (ndC m.acc)):=by
 refine zrm T (rq.map znD) (Tryz.func187) ud rfl rfl rfl rfl rfl rfl rfl (by cases rq<;>rfl) λC hC=>?_;cases rq
 all_goals
  repeat' first|refine gG ?_|refine gB ?_ ?_<;>intro h|(refine zj5 hC rfl ud rfl rfl ?_)|(refine zk9 hC rfl ud rfl rfl ?_)|(refine zrn hC [.int .i64 _] rfl ud rfl rfl rfl ?_)
  rw[uk]
  refine zn (λi:Nat=>i<=m.acc.length) (λi=>([(0,.one (.bx 5 0)),(30,.one (.ar 4)),(31,I m.acc.length),(32,I i)],tb (plR d fuel m _ v m.comps (ndC (m.acc.take i))))) (λi=>m.acc.length - i) hC
   0 (uE _) id gM ?_
  intro i hi;refine zm T hC true 200 rfl ?_;refine zp rfl ?_ ?_<;>intro h
  ·have hlt:i<m.acc.length:=by simpa using h
   clear h;obtain⟨q,hq⟩:=zb hlt;have J:=zoq hq;have hle:ndC (m.acc.take i)<=i:=tQ (Uh _ _) (by rw[tj];omega);have hw1:IntKind.i64.wrap ((ndC (m.acc.take i):Int)+1)=(ndC (m.acc.take i)+1:Nat):=by rw[wrap64 ua];omega
   have U:IntKind.i64.wrap ((i:Int)+1)=(i+1:Nat):=by rw[wrap64 ua];omega
   by_cases h0:0<q.2.1
   ·rw[uw h0]at J
    repeat' first|refine gG ?_|(exfalso;have h9:=uo h;omega)|refine gB ?_ ?_<;>intro h|(refine jH T hC (rows:=m.acc.map zgC) rfl rfl rfl rfl (uD _) (by rw[uk];omega) rfl rfl ?_)|(refine jg T hC i 0 (rows:=m.acc.map zgC) (row:=zgC q) rfl rfl rfl ue (by rw[uK,hq];rfl) rfl rfl rfl ?_)
    rw[hw1,U,<-J];exact zh (i+1) ua id ua gM
   ·rw[ur h0,qj]at J
    repeat' first|refine gG ?_|(exfalso;have h9:=uj h;omega)|refine gB ?_ ?_<;>intro h|(refine jH T hC (rows:=m.acc.map zgC) rfl rfl rfl rfl (uD _) (by rw[uk];omega) rfl rfl ?_)|(refine jg T hC i 0 (rows:=m.acc.map zgC) (row:=zgC q) rfl rfl rfl ue (by rw[uK,hq];rfl) rfl rfl rfl ?_)
    rw[U];exact zh (i+1) ua id ua ⟨rfl,⟨rfl,rfl,rfl,rfl,uh⟩,⟨rfl,rfl,rfl,rfl,rfl,(by rw[J];rfl),rfl,uh⟩,rfl,λ_ _=>rfl⟩
  ·have hge: ¬i<m.acc.length:=by simpa using h
   clear h;rw[uQ ua]
   repeat' first|refine gG ?_|refine gB ?_ ?_<;>intro h|refine ze ?_
   exact zi ⟨.inr rfl,id,_,rfl,zlp,⟨rfl,rfl,rfl,rfl,rfl,rfl,rfl,uh⟩,rfl,rfl⟩
structure Cl where
 p:Str
 a:List Int
def yy(c:Cl):List PV:=[ks c.p,yZ c.a]
def zgI(d:zg)(m:Hp):Prop:= ∀x∈m.n,0<=x.t/\x.t.toNat<d.types.length
def ndG(m:Hp)(n:Int):Nd:=(m.n[(n - 1).toNat]?).getD ⟨0,[]⟩
def tyN(d:zg)(t:Int):Str:=((d.types[t.toNat]?).map (·.n)).getD (⟨#[]⟩:UB)
def rtB(d:zg)(m:Hp)(t:Str)(v:Int):Bool:=
 if t=(⟨#[105,110,116]⟩:UB)then decide (-1099511627776<=v)&&decide (v<=1099511627776)
 else if t=(⟨#[98,111,111,108]⟩:UB)then decide (v=0)||decide (v=1)
 else decide (v=0)||(decide (0<v)&&decide (v<=m.n.length)&&decide (tyN d (ndG m v).t=t))
def zuo{m:Hp}(hw:zgI d m)(t:Str)(v:Int):zf Tryz.prog 231 [zr (zA d),zr (yS m),Sr t,I v] [] (.bq (rtB d m t v)) []:=by
 refine gO T Tryz.func231 λC hC=>?_;refine vN rfl 1 1 rfl rfl λJ=>?_;rw[uk]at J;by_cases hv:0<v/\v<=m.n.length
 ·obtain⟨x,U⟩:=zb (l:=m.n) (i:=(v - 1).toNat) ua;obtain⟨h1,h2⟩:=hw x (uv U);obtain⟨y,hy⟩:=zb h2;have hw1:IntKind.i64.wrap (v - 1)=v - 1:=wrap64 ua;have hn:tyN d (ndG m v).t=y.n:=by simp only[ndG,U,Option.getD_some,tyN,hy,uH]
  repeat' first|refine gG ?_|refine gB ?_ ?_<;>intro h|refine gL ?_|refine gQ ?_|(rw[hw1];refine gI T (yV U) ?_)|(refine xX T hC rfl rfl rfl h1 (yV hy) rfl rfl ?_)
  all_goals (try simp only[uk]at*)
  all_goals (simp_all[rtB]<;>omega)
 ·have hv':v<=0\/(m.n.length:Int)<v:=by omega
  clear hv;rcases hv' with hv|hv
  all_goals
   repeat' first|refine gG ?_|exact gP|refine gB ?_ ?_<;>intro h|refine gL ?_|refine gQ ?_
   all_goals (try simp only[uk]at*)
   all_goals (simp_all[rtB]<;>omega)
def zca(d:zg)(m:Hp)(c:Cl):Int:=match zaZ d c.p with
 |none=>9
 |some i=>match d.procs[i]? with
  |none=>9
  |some p=>if ¬c.a.length=p.params.length then 3 else if(List.zip c.a p.params).any (λq=> !rtB d m q.2.t q.1)=true then 11 else 0
def zbu(l:List Nd): ∀r∈l.map xL,r.length=2:=λr J=>by obtain⟨y,_,rfl⟩:=qe.1 J;rfl
theorem zrF(B:RL)(id:Nat)(l:List Nd)(hm:(id,.bag 1 (jR l))∈B): ∀(j:Nat) (U:PV),(l.map xL).flatten[j]?=some U-> ∃x,(wRows l 0).flatten[j]?=some x/\LnV B (toV [id] x) (.p U):=by
 refine zhF (wJ l 0) (zbu l) λi row' hi=>?_;rw[uK,uR]at hi;obtain⟨y,hy,rfl⟩:=hi;refine⟨[PC.p (ki y.t),PC.n 0 i],by rw[xS,hy,uH,tM],λc U J=>?_⟩
 match c,J with
 |0,J=>simp only[xL,List.getElem?_cons_zero,ui]at J;subst J;exact⟨_,rfl,LnV.refl _⟩
 |1,J=>simp only[xL,uZ,List.getElem?_cons_zero,ui]at J;subst J;exact⟨_,rfl,LnV.nv hm (zbM hy)⟩
 |c+2,J=>simp[xL]at J
abbrev zjY(m:Hp)(a b c:Nat):RL:=[(a,.arr 1 (m.g.map z8)),(b,.vw [c] 2 (wRows m.n 0)),(c,.bag 1 (jR m.n))]
def zrG(m:Hp)(a b c:Nat):LnS (zjY m a b c) (.agg [.ar a,.ar b]) (zr (yS m)):=
 LnS.agg (.cons (LnV.ar ue) (.cons (LnV.vw (ids:=[c]) (rows:=wRows m.n 0) ue (by rw[uk,yq]) (zbu _) (zrF _ c m.n ue)) .nil))
def zor:Pr:=⟨(⟨#[]⟩:UB),[],(⟨#[]⟩:UB),[],[]⟩
def zPr:List PV:=[ks (⟨#[]⟩:UB),.k (.slice none 0 0),ks (⟨#[]⟩:UB),.k (.slice none 0 0),.k (.slice none 0 0)]
def zlq{s:Str}(h:zaZ d s=some i): ∃p,d.procs[i]?=some p:=by
 obtain⟨J,_⟩:=tL.1 h;exact⟨_,th J⟩
variable {c:Cl}
theorem zlr{m:Hp}(hw:zgI d m)(h:zca d m c≠0):zf Tryz.prog 186 [zr (zA d),.agg [.ar 1,.ar 2],zr (yy c)] (zjY m 1 2 3) (.tup [zr zPr,I (zca d m c)]) (zjY m 1 2 3):=by
 unfold zca at h⊢;have J:=zb8 d c.p;cases hi:zaZ d c.p with
 |none=>
  have J:zf Tryz.prog 230 [zr (zA d),Sr c.p] [] (I (-1)) []:=by rw[hi]at J;exact J
  refine gO T Tryz.func186 λC hC=>?_
  repeat' first|refine gG ?_|exact gD|refine gB ?_ ?_<;>intro h|refine gC J ?_
  exact gE
 |some i=>
  rw[hi]at J h;obtain⟨p,hp⟩:=zlq hi;simp only[hp]at h⊢
  replace J:zf Tryz.prog 230 [zr (zA d),Sr c.p] [] (I i) []:=J
  by_cases hl:c.a.length=p.params.length
  ·rw[ur (by simpa using hl)]at h⊢
   have ha:(List.zip c.a p.params).any (λq=> !rtB d m q.2.t q.1)=true:=by
    cases hh:(List.zip c.a p.params).any (λq=> !rtB d m q.2.t q.1)with
    |true=>rfl
    |false=>rw[hh]at h;exact absurd rfl h
   rw[uw ha];refine gO T Tryz.func186 λC hC=>?_;refine vN rfl 2 1 rfl rfl λU=>?_;rw[uk]at U
   repeat' first|refine gG ?_|exact gP|refine gB ?_ ?_<;>intro h|refine gC J ?_|(refine gI T (zq hp) ?_)
   rw[uk]
   refine zn (λi:Nat=>i<=c.a.length/\((List.zip c.a p.params).take i).any (λq=> !rtB d m q.2.t q.1)=false) (λi=>([(3,.one (.bx 1003 0)),(4,.one (.bx 1004 0)),(9,.one (.bx 1009 0)),(6,.one (.bx 1006 0)),(33,pS (yZ c.a)),(34,I c.a.length),(35,I i)],
    [(1003,some (.box ((zA d).map V.p))),(1004,some (.box [.ar 1,.ar 2])),(1009,some (.box ((zJ p).map V.p))),(1006,some (.box (zPr.map V.p))),(1,some (.arr 1 (m.g.map z8))),(2,some (.vw [3] 2 (wRows m.n 0))),(3,some (.bag 1 (jR m.n)))])) (λi=>c.a.length - i) hC
    0 ⟨uE _,ue⟩ id gM ?_
   rintro i ⟨hi2,hn⟩;refine zm T hC true 200 rfl ?_;refine zp rfl ?_ ?_<;>intro h
   ·have hlt:i<c.a.length:=by simpa using h
    clear h;obtain⟨v,hv⟩:=zb hlt;obtain⟨f,hf⟩:=zb (l:=p.params) (i:=i) ua;have hz:(List.zip c.a p.params)[i]?=some (v,f):=by rw[tl];exact⟨hv,hf⟩
    have hR:=zuo hw f.t v;cases hr:rtB d m f.t v with
    |false=>
     rw[hr]at hR
     repeat' first|refine gG ?_|exact gD|refine gB ?_ ?_<;>intro h|(refine gI T (zq hv) ?_)|(refine gI T (zq hf) ?_)|(refine zga hC hR (zjY m 1 2 3) rfl rfl (zdw.cons (.refl _) (zdw.cons (zrG m 1 2 3) (zdw.refl _))) rfl rfl rfl rfl ?_)|refine zl ?_
     exact gE
    |true=>
     rw[hr]at hR
     repeat' first|refine gG ?_|exact gD|refine gB ?_ ?_<;>intro h|(refine gI T (zq hv) ?_)|(refine gI T (zq hf) ?_)|(refine zga hC hR (zjY m 1 2 3) rfl rfl (zdw.cons (.refl _) (zdw.cons (zrG m 1 2 3) (zdw.refl _))) rfl rfl rfl rfl ?_)|refine zl ?_
     rw[wrap64 ua];exact zh (i+1) ⟨ua,by rw[zdC hz,hn];simp[hr]⟩ id ua gM
   ·exfalso;have hge: ¬i<c.a.length:=by simpa using h
    rw[uQ (by rw[td];omega),ha]at hn;cases hn
  ·rw[uw hl];refine gO T Tryz.func186 λC hC=>?_
   repeat' first|refine gG ?_|exact gP|refine gB ?_ ?_<;>intro h|refine gC J ?_|(refine gI T (zq hp) ?_)
   exact gE
theorem zjp{m:Hp}(hw:zgI d m)(h:zca d m c=0): ∃i p,zaZ d c.p=some i/\d.procs[i]?=some p/\c.a.length=p.params.length/\zf Tryz.prog 186 [zr (zA d),.agg [.ar 1,.ar 2],zr (yy c)] (zjY m 1 2 3) (.tup [zr (zJ p),I 0]) (zjY m 1 2 3):=by
 unfold zca at h;have U:=zb8 d c.p;cases hi:zaZ d c.p with
 |none=>rw[hi]at h;simp at h
 |some i=>
  rw[hi]at U h;obtain⟨p,hp⟩:=zlq hi;simp only[hp]at h
  replace U:zf Tryz.prog 230 [zr (zA d),Sr c.p] [] (I i) []:=U
  by_cases hl:c.a.length=p.params.length
  ·rw[ur (by simpa using hl)]at h
   have ha:(List.zip c.a p.params).any (λq=> !rtB d m q.2.t q.1)=false:=by
    cases hh:(List.zip c.a p.params).any (λq=> !rtB d m q.2.t q.1)with
    |false=>rfl
    |true=>rw[hh]at h;simp at h
   refine⟨i,p,rfl,hp,hl,?_⟩;clear h;refine gO T Tryz.func186 λC hC=>?_;refine vN rfl 2 1 rfl rfl λJ=>?_;rw[uk]at J
   repeat' first|refine gG ?_|exact gP|refine gB ?_ ?_<;>intro h|refine gC U ?_|(refine gI T (zq hp) ?_)
   rw[uk]
   refine zn (λi:Nat=>i<=c.a.length) (λi=>([(3,.one (.bx 1003 0)),(4,.one (.bx 1004 0)),(9,.one (.bx 1009 0)),(6,.one (.bx 1006 0)),(33,pS (yZ c.a)),(34,I c.a.length),(35,I i)],
    [(1003,some (.box ((zA d).map V.p))),(1004,some (.box [.ar 1,.ar 2])),(1009,some (.box ((zJ p).map V.p))),(1006,some (.box (zPr.map V.p))),(1,some (.arr 1 (m.g.map z8))),(2,some (.vw [3] 2 (wRows m.n 0))),(3,some (.bag 1 (jR m.n)))])) (λi=>c.a.length - i) hC
    0 (uE _) id gM ?_
   intro i hi2;refine zm T hC true 200 rfl ?_;refine zp rfl ?_ ?_<;>intro h
   ·have hlt:i<c.a.length:=by simpa using h
    clear h;obtain⟨v,hv⟩:=zb hlt;obtain⟨f,hf⟩:=zb (l:=p.params) (i:=i) ua;have hz:(List.zip c.a p.params)[i]?=some (v,f):=by rw[tl];exact⟨hv,hf⟩
    have hR:=zuo hw f.t v
    have hr:rtB d m f.t v=true:=by
     have:=List.any_eq_false.1 ha (v,f) (uv hz);simpa using this
    rw[hr]at hR
    repeat' first|refine gG ?_|exact gD|refine gB ?_ ?_<;>intro h|(refine gI T (zq hv) ?_)|(refine gI T (zq hf) ?_)|(refine zga hC hR (zjY m 1 2 3) rfl rfl (zdw.cons (.refl _) (zdw.cons (zrG m 1 2 3) (zdw.refl _))) rfl rfl rfl rfl ?_)|refine zl ?_
    rw[wrap64 ua];exact zh (i+1) ua id ua gM
   ·clear h
    repeat' first|refine gG ?_|refine gB ?_ ?_<;>intro h|refine ze ?_
    exact gE
  ·rw[uw hl]at h;cases h
def zfd(m:Hp)(hg:m.g.length<=1000000)(hn:m.n.length<=1000000)(hf: ∀x∈m.n,x.f.length<=1000000):
 zf Tryz.prog 129 [zr (yS m)] [] (.agg [.ar 0,.ar 1]) [(0,.arr 1 (m.g.map z8)),(1,.vw [2] 2 (wRows m.n 0)),(2,.bag 1 (jR m.n))]:=by
 have hC1:=jy m.g hg;refine gO T Tryz.func129 λC hC=>?_
 repeat' first|refine gG ?_|refine gB ?_ ?_<;>intro h|refine gR hC1 (nm [141]) ?_
 rw[uk];refine gA 150 2 [] [(1003,[.ar 141,.ar 150])] ?_;refine ztO hC rfl 151 1 rfl ?_;refine ztQ rfl 150 [151] (rows:=[]) (rows':=wRows (m.n.take 0) 0) rfl rfl ?_
 refine zn (λi:Nat=>i<=m.n.length) (λi=>([(2,.one (.bx 1002 0)),(3,.one (.bx 1003 0)),(11,pS (zic m.n)),(12,I m.n.length),(13,I i)],
  [(1002,some (Res.box [.p (.k (.slice none 0 0)),.p (.k (.slice none 0 0))])),(1003,some (Res.box [.ar 141,.ar 150])),(141,some (Res.arr 1 (m.g.map z8))),(150,some (Res.vw [151] 2 (wRows (m.n.take i) 0))),(151,some (Res.bag 1 (jR (m.n.take i))))])) (λi=>m.n.length - i) hC
  0 (uE _) id gM ?_
 intro i hi;refine zm T hC true 200 rfl ?_;refine zp rfl ?_ ?_<;>intro h
 ·have hlt:i<m.n.length:=by simpa using h
  clear h;obtain⟨x,hx⟩:=zb hlt;have hC2:=jy x.f (hf x (uv hx));have hj:=zgc (m.n.take i) x.t 151 140;have J:=yq (m.n.take i) 0;have htl:(m.n.take i).length=i:=by rw[tj];omega
  have hbt:jR (m.n.take i)++[x.f.map z8]=jR (m.n.take (i+1)):=by unfold jR;rw[yc hx,u6];rfl
  have U:=zgd (m.n.take i) x 151 140 161;rw[<-yc hx,<-zdz]at U
  repeat' first|refine gG ?_|refine gB ?_ ?_<;>intro h|(refine gI T (zq hx) ?_)|refine gR hC2 (nm [140]) ?_|(refine zkk T hC [PC.p (ki x.t),PC.a 0] [140] rfl rfl rfl rfl rfl rfl rfl rfl rfl rfl rfl rfl ?_)|(refine zbK T 160 hC (id:=150) (rows:=wRows (m.n.take i) 0) (rows2:=[[PC.p (ki x.t),PC.a 0]]) (ids:=[151]) (ids2:=[140]) [151,140] (wRows (m.n.take i) 0++[[PC.p (ki x.t),PC.a 1]]) (bytes:=32) rfl rfl rfl rfl (znV.vw (T.es_ok _ _ rfl)) rfl hj.1 hj.2.1 hj.2.2.1 hj.2.2.2 rfl rfl rfl ud (by rw[J,uU];omega) (by rw[J,uU];omega) rfl rfl rfl ?_)
  rw[wrapN ua];refine zkg hC rfl 151 140 161 rfl rfl rfl rfl [] uh [(160,.vw [161] 2 (wRows (m.n.take (i+1)) 0))] ⟨⟨_,rfl,rfl,U⟩,uh⟩ ?_;exact zh (i+1) ua (ms [(150,160),(151,161)]) ua ⟨rfl,⟨rfl,rfl,rfl,rfl,rfl,uh⟩,⟨rfl,rfl,rfl,rfl,(by rw[<-hbt];rfl),uh⟩,rfl,xc rfl⟩
 ·have hge: ¬i<m.n.length:=by simpa using h
  clear h;rw[uQ ua]
  repeat' first|refine gG ?_|refine gB ?_ ?_<;>intro h|refine ze ?_
  exact gW [141,150,151]
def mc0(m:Hp):Mc:=⟨m.g,m.n,0,0,0,[]⟩
def plF:An Int->Option (Int×Int×Mc)
 | .ok v x=>some (0,v,x)
 | .flt e x=>some (e,0,x)
 | .out=>none
def zrH{m:Hp}(hw:zgI d m)(hc:zca d m c=0){k:Nat}{fl v:Int}{x:Mc}
 (J: ∀i p,zaZ d c.p=some i->d.procs[i]?=some p->plF (rnV d fuel k p c.a (mc0 m))=some (fl,v,x)) (hl:x.acc.length<=1099511627776):
 zf Tryz.prog 128 [zr (zA d),.agg [.ar 1,.ar 2],zr (yy c),I fuel] (zjY m 1 2 3) (.tup [.one (.bx 0 0),.agg (znE fl v x.comps (ndC x.acc)),I 0]) (mcR d fuel x 1 7 8 9):=by
 obtain⟨i,p,hi,hp,hal,hP⟩:=zjp hw hc;have J:=J i p hi hp;have U:=(zop d fuel k).2.2.1 p c.a (mc0 m)
 refine zhZ T (m:=4) (Rm:=[(1,.arr 1 (m.g.map z8)),(2,.vw [3] 2 (wRows m.n 0)),(3,.bag 1 (jR m.n)),(50,.box ((yy c).map V.p)),(51,.box ((zJ p).map V.p)),(52,.box [.bx 54 0]),(53,.box (znE 0 0 0 0)),(54,.box (mcC d fuel (mc0 m) 1 2 55)),(55,.arr 3 [])])
  (sl1:=[(6,.one (.bx 50 0)),(8,.one (.bx 52 0)),(9,.one (.bx 53 0)),(10,I 0),(11,.one (.bx 51 0))]) (Tryz.func128) ud rfl rfl rfl rfl rfl rfl rfl rfl rfl rfl rfl (λC hC=>?_) (λC hC=>?_)
 ·repeat' first|refine gG ?_|exact gD|refine gB ?_ ?_<;>intro h|refine gR hP (nm [0,1,2,3]) ?_
  refine gA 155 3 [] [(1027,mcC d fuel (mc0 m) 1 2 155)] ?_;exact zi ⟨ms [(50,1006),(51,1011),(52,1008),(53,1009),(54,1027),(55,155)],rfl,⟨rfl,rfl,rfl,rfl,rfl,uh⟩,⟨rfl,rfl,rfl,rfl,rfl,rfl,rfl,rfl,rfl,uh⟩,rfl,rfl⟩
 ·cases hrr:rnV d fuel k p c.a (mc0 m)with
  |out=>rw[hrr]at J;cases J
  |ok v1 x1=>
   rw[hrr]at J U;cases J;have U:zf _ _ _ _ _ _:=U;have hD:=zib d fuel x v none hl
   repeat' first|refine gG ?_|refine gB ?_ ?_<;>intro h|refine gR U (nm [54,1,2,3,55,5,6,107,108,109]) ?_
   exact zi ⟨none,_,_,_,nm [54,1,107,108,109,53,52],.inl rfl,hD,zI.refl _,⟨rfl,rfl,rfl,rfl,rfl,rfl,rfl,uh⟩,rfl,rfl,rfl,rfl,⟨.inl rfl,nm [54,1,2,3,4,5,6,107,108,109],_,rfl,.refl _,⟨rfl,rfl,rfl,rfl,rfl,uh⟩,rfl,rfl⟩⟩
  |flt er x1=>
   rw[hrr]at J U;cases J;have U:zU _ _ _ _ _ _:=U;have hD:=zib d fuel x 0 (some fl) hl
   repeat' first|refine gG ?_|refine gB ?_ ?_<;>intro h|(refine zo hC U (nm [54,1,2,3,55,5,6,107,108,109]) rfl rfl (zI.refl _) rfl rfl rfl rfl rfl rfl ?_)
   exact gU (zi ⟨some (znD fl),_,_,_,nm [54,1,107,108,109,53,52],rfl,hD,zI.refl _,⟨rfl,rfl,rfl,rfl,rfl,rfl,rfl,uh⟩,rfl,rfl,rfl,rfl,⟨.inl rfl,nm [54,1,2,3,4,5,6,107,108,109],_,rfl,.refl _,⟨rfl,rfl,rfl,rfl,rfl,uh⟩,rfl,rfl⟩⟩)
end Hw.Gm
namespace Hw.Gm
open Go Go.Proofs Hw.M
def look(l:List Fld)(s:Str):Option Str:=(l.find? λf=>decide (f.n=s)).map (·.t)
def zgJ(d:zg)(s:Str):Option z7:=d.types.find? λt=>decide (t.n=s)
def zeu(d:zg)(s:Str):Option Pr:=d.procs.find? λp=>decide (p.n=s)
def yK(d:zg)(s:Str):Bool:=(zgJ d s).isSome
def yQ(d:zg)(s:Str):Bool:=decide (s=(⟨#[105,110,116]⟩:UB))||decide (s=(⟨#[98,111,111,108]⟩:UB))||yK d s
def yw(d:zg)(a b:Str):Bool:=decide (a=b)||decide (a=(⟨#[110,105,108]⟩:UB))&&yK d b
def fieldT(d:zg)(t s:Str):Str×Int:=match zgJ d t with
 |none=>((⟨#[]⟩:UB),11)
 |some x=>match look x.f s with
  |some u=>(u,0)
  |none=>((⟨#[]⟩:UB),9)
def lsA(l:List Str)(i:Nat):Str:=(l[i]?).getD (⟨#[]⟩:UB)
def zid(l:List Str)(t r:Str):Str×Int:=if l.any (λu=> !decide (u=t))=true then((⟨#[]⟩:UB),11)else(r,0)
def zB(d:zg)(vs:List Fld)(body:Bool)(op:Int)(s:Str)(l:List Str):Str×Int:=
 if op=1 then((⟨#[105,110,116]⟩:UB),0)else if op=2 then((⟨#[98,111,111,108]⟩:UB),0)else if op=3 then((⟨#[110,105,108]⟩:UB),0)
 else if op=4 then(match look vs s with|some t=>(t,0)|none=>((⟨#[]⟩:UB),9))
 else if op=5 then fieldT d (lsA l 0) s
 else if op=6 then(if body=false then((⟨#[]⟩:UB),13)else if yK d s=false then((⟨#[]⟩:UB),9)else(s,0))
 else if op=14\/op=15 then(if yw d (lsA l 0) (lsA l 1)=false/\yw d (lsA l 1) (lsA l 0)=false then((⟨#[]⟩:UB),11)else((⟨#[98,111,111,108]⟩:UB),0))
 else if op=16\/op=17 then zid l (⟨#[105,110,116]⟩:UB) (⟨#[98,111,111,108]⟩:UB)
 else if op=18\/op=19\/op=20 then zid l (⟨#[98,111,111,108]⟩:UB) (⟨#[98,111,111,108]⟩:UB)
 else if op=21 then(if lsA l 0=(⟨#[98,111,111,108]⟩:UB)then(if yw d (lsA l 1) (lsA l 2)=true then(lsA l 2,0)else if yw d (lsA l 2) (lsA l 1)=true then(lsA l 1,0)else((⟨#[]⟩:UB),11))else((⟨#[]⟩:UB),11))
 else zid l (⟨#[105,110,116]⟩:UB) (⟨#[105,110,116]⟩:UB)
def ztj(d:zg)(s:Str):Option Ms:=d.measures.find? λm=>decide (m.n=s)
def zaR(d:zg)(s:Str)(l:List Str):Str×Int:=match ztj d s with
 |none=>((⟨#[]⟩:UB),9)
 |some m=>if ¬l.length=1 then((⟨#[]⟩:UB),3)else if yw d (lsA l 0) m.t=false then((⟨#[]⟩:UB),11)else((⟨#[105,110,116]⟩:UB),0)
def vj(d:zg)(body:Bool)(s:Str)(l:List Str):Str×Int:=if body=false then zaR d s l else match zeu d s with
 |none=>((⟨#[]⟩:UB),9)
 |some p=>if ¬l.length=p.params.length then((⟨#[]⟩:UB),3)else if(List.zip l p.params).any (λq=> !yw d q.1 q.2.t)=true then((⟨#[]⟩:UB),11)else(p.res,0)
mutual
def exT(d:zg)(vs:List Fld)(body:Bool):Ex->Str×Int
 | .mk op _ s l=>match exsT d vs body l with
   |(ts,e)=>if e=0 then(if op=7 then(if(vj d body s ts).2=0/\(vj d body s ts).1=(⟨#[]⟩:UB)then((⟨#[]⟩:UB),11)else vj d body s ts)else zB d vs body op s ts)else((⟨#[]⟩:UB),e)
def exsT(d:zg)(vs:List Fld)(body:Bool):List Ex->List Str×Int
 | []=>([],0)
 |x::r=>match exT d vs body x with
  |(t,e)=>if e=0 then(match exsT d vs body r with|(ts,f)=>(t::ts,f))else([],e)
end
def caT(d:zg)(vs:List Fld)(body:Bool)(x:Ex):Str×Int:=match exsT d vs body x.l with
 |(ts,e)=>if e=0 then vj d body x.s ts else((⟨#[]⟩:UB),e)
def exA(l:List Ex)(i:Nat):Ex:=(l[i]?).getD (.mk 0 0 (⟨#[]⟩:UB) [])
def stmT(d:zg)(vs:List Fld)(res:Str)(x:Sm):Int:=
 if x.op=6 then(caT d vs true (exA x.e 0)).2 else match exsT d vs true x.e with
  |(l,e)=>if e=0 then
     (if x.op=1 then(match look vs x.s with|none=>9|some t=>if yw d (lsA l 0) t=true then 0 else 11)
     else if x.op=2 then(if(fieldT d (lsA l 0) x.s).2=0 then(if yw d (lsA l 1) (fieldT d (lsA l 0) x.s).1=true then 0 else 11)else(fieldT d (lsA l 0) x.s).2)
     else if x.op=3\/x.op=4 then(if lsA l 0=(⟨#[98,111,111,108]⟩:UB)then 0 else 11)
     else if x.op=5 then(if l.length=0 then(if res=(⟨#[]⟩:UB)then 0 else 11)else if ¬res=(⟨#[]⟩:UB)/\yw d (lsA l 0) res=true then 0 else 11)
     else 0)else e
mutual
def smsT(d:zg)(vs:List Fld)(res:Str):List Sm->Int->(Int×Int)×Int
 | [],n=>((0,0),n)
 |x::r,n=>match smOne d vs res x n with
  |(q,m)=>if q.2=0 then smsT d vs res r m else(q,m)
def smOne(d:zg)(vs:List Fld)(res:Str):Sm->Int->(Int×Int)×Int
 | .mk op s e l els,n=>if stmT d vs res (.mk op s e l els)=0 then(match smsT d vs res l (n+1)with
    |(q,m)=>if q.2=0 then smsT d vs res els m else(q,m))else((n,stmT d vs res (.mk op s e l els)),n+1)
end
def twB(l:List Str)(i:Nat):Bool:=(l.take i).any λs=>decide (s=lsA l i)
def fieldsE(d:zg)(all:List Str):List Fld->Nat->Int
 | [],_=>0
 |f::r,i=>if twB all i=true then 10 else if yQ d f.t=false then 9 else fieldsE d all r (i+1)
def zaS(d:zg)(l:List Fld):Int:=fieldsE d (l.map (·.n)) l 0
abbrev Ft:Type:=Option (Str×Int×Int)
def firstF{α:Type}(g:α->Nat->Ft):List α->Nat->Ft
 | [],_=>none
 |x::r,i=>match g x i with
  |some f=>some f
  |none=>firstF g r (i+1)
def ftE(s:Str)(e:Int):Ft:=if e=0 then none else some (s, -1,e)
def orF(a b:Ft):Ft:=match a with
 |some f=>some f
 |none=>b
def zcb(d:zg):Ft:=orF (firstF (λ(t:z7) i=>if twB (d.types.map (·.n)) i=true then some (t.n, -1,10)else none) d.types 0)
 (orF (firstF (λ(t:z7) _=>ftE t.n (zaS d t.f)) d.types 0)
   (firstF (λ(f:Fld) i=>if twB (d.globals.map (·.n)) i=true then some (f.n, -1,10)else if yQ d f.t=false then some (f.n, -1,9)else none) d.globals 0))
def zfe(d:zg):Ft:=firstF (λ(p:Pr) i=>if twB (d.procs.map (·.n)) i=true then some (p.n, -1,10)else if zaS d (p.params++p.locs)=0 then(if ¬p.res=(⟨#[]⟩:UB)/\yQ d p.res=false then some (p.n, -1,9)else none)else some (p.n, -1,zaS d (p.params++p.locs))) d.procs 0
def zdN(d:zg):Ft:=orF (firstF (λ(m:Ms) i=>if twB (d.measures.map (·.n)) i=true then some (m.n, -1,10)else if yK d m.t=false then some (m.n, -1,9)else none) d.measures 0)
 (orF (firstF (λ(m:Iv) i=>if twB (d.invs.map (·.n)) i=true then some (m.n, -1,10)else if ¬m.t=(⟨#[]⟩:UB)/\yK d m.t=false then some (m.n, -1,9)else none) d.invs 0)
   (orF (firstF (λ(m:Pt) _=>if ¬m.t=(⟨#[]⟩:UB)/\yK d m.t=false then some ((⟨#[112,111,116,101,110,116,105,97,108]⟩:UB), -1,9)else none) d.pots 0)
     (firstF (λ(b:Bd) i=>if(zeu d b.p).isSome=false then some (b.p, -1,9)else if twB (d.bounds.map (·.p)) i=true then some (b.p, -1,10)else none) d.bounds 0)))
def zjZ(d:zg)(p:Pr):List Fld:=p.params++p.locs++d.globals
def zbh(d:zg)(t:Str):List Fld:=if t=(⟨#[]⟩:UB)then d.globals else⟨(⟨#[116,104,105,115]⟩:UB),t⟩::d.globals
def zp4(d:zg)(s:Str):List Fld:=((zeu d s).map (·.params)).getD []++d.globals
def zcc(d:zg):Ft:=firstF (λ(p:Pr) _=>if(smsT d (zjZ d p) p.res p.body 0).1.2=0 then none else some (p.n,(smsT d (zjZ d p) p.res p.body 0).1.1,(smsT d (zjZ d p) p.res p.body 0).1.2)) d.procs 0
def y5(d:zg)(vs:List Fld)(s:Str)(x:Ex)(want:Str):Ft:=if(exT d vs false x).2=0 then(if(exT d vs false x).1=want then none else some (s, -1,11))else some (s, -1,(exT d vs false x).2)
def zc2(d:zg):Ft:=orF (firstF (λ(m:Ms) _=>y5 d (zbh d m.t) m.n m.x (⟨#[105,110,116]⟩:UB)) d.measures 0)
 (orF (firstF (λ(m:Iv) _=>y5 d (zbh d m.t) m.n m.x (⟨#[98,111,111,108]⟩:UB)) d.invs 0)
   (orF (firstF (λ(m:Pt) _=>y5 d (zbh d m.t) (⟨#[112,111,116,101,110,116,105,97,108]⟩:UB) m.x (⟨#[105,110,116]⟩:UB)) d.pots 0)
     (firstF (λ(b:Bd) _=>y5 d (zp4 d b.p) b.p b.x (⟨#[105,110,116]⟩:UB)) d.bounds 0)))
def zfX(d:zg):Ft:=orF (zcb d) (orF (zfe d) (orF (zdN d) (orF (zcc d) (zc2 d))))
def zwG(d:zg):Str×Int×Int:=(zfX d).getD ((⟨#[]⟩:UB),0,0)
end Hw.Gm
namespace Hw
open Go
variable {K:Act->World->Prop}{P:Program}{Q:Exit->Act->World->Prop}{a:Act}{o:Oper}{w:World}
theorem zie{l n:Nat}(J: ∀c,o.op≠ .defer c)(h:o.wp P a w K Q):
 o.wpIn (Fence.wide.inRound l) n P a w K Q:=by
 refine⟨λ_ _=>trivial,?_⟩;rw[Oper.semAt_eq _ _ _ J];unfold Oper.wp at h;generalize (execOp a.eval o).run P w=r at h;cases r with
 |ok x w'=>
  cases x with
  |value v=>exact h
  |skip=>exact h
  |defer d=>exact h
  |enter f args=>exact⟨λe=>(by cases e),(callsIn_wide (n:=n - 1)).2 h⟩
  |row row args=>
   have h:Rows P row args w' λv w''=>K (a.put o.dst v) w'':=h
   refine⟨λe=>(by cases e),λc cs _=>?_⟩;obtain⟨v,w'',r,s⟩:=h c cs;exact⟨v,w'',r,stepsIn_wide.2 s⟩
  |_=>exact h.elim
 |halt x w'=>cases x<;>first|exact h|exact h.elim
structure Wk (P:Program) (all:Array Oper) (n:Nat) (sl0:zd) (tab0:Tab) (done:List Law) (rest:List Oper) (sl:zd) (tab:Tab):Prop where
 ok:wI P all ⟨n,sl0,tab0⟩ done
 sl: ∀k,sg sl k=sg (apps ⟨n,sl0,tab0⟩ done).sl k
 tab: ∀i,tg tab i=tg (apps ⟨n,sl0,tab0⟩ done).tab i
 rest:all.toList.drop done.length=rest
variable {all:Array Oper}{tab:Tab}
def zc3{n:Nat}{sl:zd}:Wk P all n sl tab [] all.toList sl tab:=⟨uh,λ_=>rfl,λ_=>rfl,rfl⟩
variable {L:Law}{done:List Law}{rest:List Oper}{sl0:zd}{tab0:Tab}
def zp5{n:Nat}{sl:zd}
 (hL:yL P all o L.rs L.rt L.fr L.v L.wt) (hd:L.d=o.dst) (h:okL L n sl tab) (w:Wk P all n sl0 tab0 done (o::rest) sl tab):Wk P all n sl0 tab0 (L::done) rest (app L.d L.v L.wt ⟨n,sl,tab⟩).sl (L.wt++tab):=by
 obtain⟨h1,h2,h3,h4⟩:=h;obtain⟨hD,J,U,hr⟩:=w;refine⟨⟨hD,o,?_,hL,hd,jD h1 λk _=>(J k).symm,wZ h2 λi _=>(U i).symm,h4⟩,?_,?_,?_⟩
 ·have:(all.toList.drop done.length)[0]?=some o:=by rw[hr];rfl
  grind
 ·intro j;rw[vb];simp only[wr];obtain⟨d,rs,rt,fr,v,wt⟩:=L;cases d with
  |none=>simpa [app]using J j
  |some d=>
   simp only[app];rw[yx]
   simp_all
 ·intro i;simp only[apps,app];cases hk:hasB i (keysT L.wt)with
  |true=>exact wx hk
  |false=>rw[yR hk,yR hk];exact U i
 ·have:(all.toList.drop done.length).drop 1=rest:=by rw[hr];rfl
  rw[tG]at this;omega
def yf(T:Ty P){n:Nat}{sl:zd}
 (w:Wk P all n sl0 tab0 done (o::rest) sl tab) (h:stepL T n true all o sl tab=some L):Wk P all n sl0 tab0 (L::done) rest (app L.d L.v L.wt ⟨n,sl,tab⟩).sl (L.wt++tab):=by
 obtain⟨J,h2,h3⟩:=xk T h;exact zp5 J h2 h3 w
variable {C:Ctx}{M:Mem}{i lp:Nat}{st:St}{ρ:Nat->Value}
section
variable {l:List Law} {ms:List Nat}
def zaT(ops:Array Oper):Bool:=ops.toList.all λo=>match o.op with
 | .defer _=>false
 |_=>true
def zba{ops:Array Oper}(h:zaT ops=true)(J:ops[i]?=some o): ∀c,o.op≠ .defer c:=λc e=>by
 have U:o∈ops.toList:=by
  have:=Array.mem_of_getElem? J;simpa using this
 have:=List.all_eq_true.1 h o U
 simp_all
def checkS(st:St):List Law->Bool
 | []=>true
 |L::l=>allB (λid=>Nat.ble 100 id&&freshB id st) L.fr&&allLt (λj=>match at? l j with
   |some X=>allB (λid=>noL id X) L.fr
   |none=>false) l.length&&checkS st l
theorem zcd: ∀ {l:List Law} {i:Nat} {L:Law},checkS st l=true->at? l i=some L->allB (λid=>Nat.ble 100 id&&freshB id st) L.fr=true/\ ∀(j:Nat) (X:Law),at? l j=some X->j<i-> ∀id∈L.fr,noL id X=true
 | [],_,_,_,h=>by cases h
 |Y::l,i,L,hc,h=>by
  simp only[checkS,um]at hc;rw[yg]at h;split at h
  ·rename_i e;simp only[ui]at h;subst h;refine⟨hc.1.1,λj X J hj id U=>?_⟩;rw[yg,ur ua]at J;have:=ym hc.1.2 j (xZ J);rw[J]at this;exact zE this id U
  ·rename_i e;obtain⟨h1,h2⟩:=zcd hc.2 h;refine⟨h1,λj X J hj=>?_⟩;have:=xZ h;rw[yg,ur ua]at J
   grind
def okC(dr:Bool)(st:St)(l:List Law)(all:Array Oper):Bool:=match dr with
 |true=>check all (vc all.toList []) st l
 |false=>Nat.beq l.length all.size&&checkS st l
def zos{id n:Nat}(hnd:zaT all=true)(hd:wI P all st l)(hlen:l.length=all.size)(hck:checkS st l=true)(hC:C.low)
 (hQ: ∀a w M ρ,Holds C (apps st l) M ρ a w->Q .normal a w) (hH:Holds C st M ρ a w):(Code.region id all false).wpIn (Fence.wide.inRound lp) n P Q a w:=by
 refine wpIn_region_list ?_
 have key: ∀(k i:Nat) (M:Mem) (ρ:Nat->Value) (a:Act) (w:World),all.size - i=k->i<=all.size->Holds C (apps st (sel (λj=>decide (j<i)) l)) M ρ a w->wpListIn (Fence.wide.inRound lp) n P all Q (all.toList.drop i) a w:=by
  intro k
  induction k with
  |zero=>
   intro i M ρ a w hk hi hH;have:i=all.size:=by omega
   subst this;rw[oZ ue];refine hQ a w M ρ ?_;rw[za0 ua]at hH;exact hH
  |succ k ih=>
   intro i M ρ a w hk hi hH;have hlt:i<all.size:=by omega
   have hoi:all[i]?=some all[i]:=tT hlt
   have hdr:all.toList.drop i=all[i]::all.toList.drop (i+1):=by
    rw[qi (by simpa using hlt)];simp
   rw[hdr];obtain⟨L,hL⟩:=zgK (l:=l) (i:=i) ua;obtain⟨o,ho,hstep,U,hS,hT,hdk⟩:=hd.at hL;rw[hoi]at ho;simp only[ui]at ho;subst ho
   have hF:okF C L.fr (apps st (sel (λj=>decide (j<i)) l)):=by
    have one: ∀id∈L.fr,wv C id (apps st (sel (λj=>decide (j<i)) l)):=λid J=>by
     have:=zE (zcd hck hL).1 id J;simp only[um]at this
     refine xK this.2 (by
      cases e:tg C.tab0 id with
      |none=>rfl
      |some r=>have:=hC id r e;have:=uS (by assumption:Nat.ble 100 id=true/\_).1;omega) λX hX=>?_
     obtain⟨j,hj,hX'⟩:=jP hX;exact(zcd hck hL).2 j X hX' (uj hj) id J
    have: ∀fr:List Nat,(∀id∈fr,wv C id (apps st (sel (λj=>decide (j<i)) l)))->okF C fr (apps st (sel (λj=>decide (j<i)) l)):=λfr=>by
     induction fr with
     |nil=>exact λ_=>trivial
     |cons x xs ih=>exact λh=>⟨h x ue,ih λid J=>h id (u3 _ J)⟩
    exact this _ one
   have nxt: ∀a' w' M' ρ',Holds C (app all[i].dst L.v L.wt (apps st (sel (λj=>decide (j<i)) l))) M' ρ' a' w'->wpListIn (Fence.wide.inRound lp) n P all Q (all.toList.drop (i+1)) a' w':=λa' w' M' ρ' hH'=>by
    refine ih (i+1) M' ρ' a' w' ua ua ?_;rw[<-U]at hH';have e:sel (λj=>decide (j<i+1)) l=L::sel (λj=>decide (j<i)) l:=sel_succ hL;rw[e];exact hH'
   have:=hstep C _ M ρ a w hH hS hT hF (by rw[wk,<-U];exact hdk) (wpListIn (Fence.wide.inRound lp) n P all Q (all.toList.drop (i+1))) Q nxt;show if _ then _ else _
   split
   ·rename_i hw;rw[uw hw]at this;exact zie (zba hnd hoi) this
   ·rename_i hw;rw[ur hw]at this;exact⟨λ_ _=>trivial,this⟩
 have:=key _ 0 M ρ a w rfl (uE _) (by
  have:sel (λj=>decide (j<0)) l=[]:=jr λj _=>by simp
  rw[this];exact hH)
 simpa using this
where
 sel_succ {l:List Law} {i:Nat} {L:Law}:at? l i=some L->sel (λj=>decide (j<i+1)) l=L::sel (λj=>decide (j<i)) l:=by
  induction l with
  |nil=>intro h;cases h
  |cons X l ih=>
   intro h;rw[yg]at h;split at h
   ·rename_i e;simp only[ui]at h;subst h;subst e;simp only[sel,oT,qE,Nat.lt_succ_self,oh];rw[za0 ua,za0 ua]
   ·rename_i e;have hlt:=xZ h;simp only[sel,uF (show ¬l.length<i+1 by omega),uF (show ¬l.length<i by omega)];exact ih h
theorem zrI{n:Nat}(hnd:zaT all=true)(hd:wI P all st l)(hc:check all ms st l=true)(hC:C.low)(hQ: ∀a w M ρ,Holds C (apps st l) M ρ a w->Q .normal a w):
 ∀(fuel:Nat) (listed:Array Bool) (M:Mem) (ρ:Nat->Value) (a:Act) (w:World),listed.size=all.size->left (λj=>listed.getD j false) all.size=fuel->Down all (λj=>listed.getD j false)->
  Holds C (apps st (sel (λj=>listed.getD j false) l)) M ρ a w->wpAnyIn (Fence.wide.inRound lp) n P .any all Q fuel listed a w:=by
 have fin: ∀(listed:Array Bool) (M:Mem) (ρ:Nat->Value) (a:Act) (w:World),(∀j,j<all.size->listed.getD j false=true)->Holds C (apps st (sel (λj=>listed.getD j false) l)) M ρ a w->Q .normal a w:=
  λlisted M ρ a w h hH=>hQ a w M ρ (by rw[zgL (l:=l) λj hj=>h j (by rw[<-zce hc];exact hj)]at hH;exact hH)
 have full: ∀(listed:Array Bool),listed.size=all.size->Region.ready .any all listed=[]-> ∀j,j<all.size->listed.getD j false=true:=by
  intro listed hs hr j
  induction j using Nat.strongRecOn with
  |_ j ih=>
   intro hj;cases e:listed.getD j false with
   |true=>rfl
   |false=>
    obtain⟨o,L,ho,hL,J,_⟩:=jA hc hj
    have:j∈Region.ready .any all listed:=mem_ready.2 ⟨by
     have J:j<listed.size:=by omega
     simp only[Array.getD,J,oB]at e ⊢; exact e,o,ho,λe' he hb=>ih e'.on (J _ (x9 he hb)) (by have:=J _ (x9 he hb);omega)⟩
    rw[hr]at this;cases this
 intro fuel
 induction fuel with
 |zero=>
  intro listed M ρ a w hs hl hD hH;have h0:=vY hl;refine⟨?_,fin listed M ρ a w h0 hH⟩;cases e:Region.ready .any all listed with
  |nil=>rfl
  |cons x xs=>
   obtain⟨h1,o,ho,_⟩:=mem_ready.1 (show x∈Region.ready .any all listed by rw[e];simp)
   grind
 |succ fuel ih=>
  intro listed M ρ a w hs hl hD hH;refine⟨λhr=>fin listed M ρ a w (full listed hs hr) hH,λi hi=>?_⟩;obtain⟨h1,o,ho,hall⟩:=mem_ready.1 hi;have hx:i<all.size:=(tz.1 ho).1;have J:i<listed.size:=by omega
  have hn:listed.getD i false=false:=by simp only[Array.getD,J,oB]at h1 ⊢; exact h1
  have hput: ∀j,(listed.setIfInBounds i true).getD j false=zfV (λj=>listed.getD j false) i j:=λj=>by
   by_cases e:j=i
   ·subst e;simp[zY,J]
   ·rw[zz e,getD_set_ne false (λh=>e h.symm)]
  have U:(λj=>(listed.setIfInBounds i true).getD j false)=zfV (λj=>listed.getD j false) i:=funext hput
  have hp: ∀p∈zS o,listed.getD p false=true:=λp hp=>by
   obtain⟨e,he,hb,rfl⟩:=zbn hp;exact hall e he hb
  unfold wpOpIn;simp only[ho]
  have key:=zif hd hc hD hx ho hn hp hC hH (K:=wpAnyIn (Fence.wide.inRound lp) n P .any all Q fuel (listed.setIfInBounds i true)) (Q:=Q) λa' w' M' ρ' hH'=>by
   refine ih _ M' ρ' a' w' (by simpa using hs) ?_ ?_ ?_
   ·rw[U];have:=zaa (D:=λj=>listed.getD j false) hn (n:=all.size);rw[uw hx]at this;omega
   ·rw[U];intro k ok hk hDk p hpk;by_cases e:k=i
    ·subst e;rw[ho]at hk;simp only[ui]at hk;subst hk;by_cases e2:p=k
     ·subst e2;exact zY _ _
     ·rw[zz e2];exact hp p hpk
    ·rw[zz e]at hDk;have:=hD k ok hk hDk p hpk;by_cases e2:p=i
     ·subst e2;exact zY _ _
     ·rw[zz e2];exact this
   ·rw[U];exact hH'
  split
  ·rename_i hw;rw[uw hw]at key;exact zie (zba hnd ho) key
  ·rename_i hw;rw[ur hw]at key;exact⟨λ_ _=>trivial,key⟩
theorem zc4{id n:Nat}{dr:Bool}(hm:P.follows .mixedOrders=true)(U:zaT all=true)(hd:wI P all st l)(hc:okC dr st l all=true)(hC:C.low)
 (hQ: ∀a w M ρ,Holds C (apps st l) M ρ a w->Q .normal a w) (hH:Holds C st M ρ a w):(Code.region id all dr).wpIn (Fence.wide.inRound lp) n P Q a w:=by
 cases dr with
 |true=>
  have h0: ∀j,(Array.replicate all.size false).getD j false=false:=λj=>by
   by_cases h:j<all.size
   ·simp[h]
   ·simp[h]
  have J:(λj=>(Array.replicate all.size false).getD j false)=λ_=>false:=funext h0
  refine wpIn_region_any hm (zrI (ms:=vc all.toList []) U hd hc hC hQ _ _ M ρ a _ ue ?_ ?_ ?_)
  ·rw[J]
   have: ∀n,left (λ_=>false) n=n:=λn=>by
    induction n with
    |zero=>rfl
    |succ n ih=>simp only[left,ih];omega
   exact this _
  ·rw[J];intro i o _ h;cases h
  ·rw[J,jr λ_ _=>rfl];exact hH.grow (λ_ _=>rfl) (uJ _) rfl rfl rfl
 |false=>
  simp only[okC,um]at hc;exact zos U hd (uA hc.1) hc.2 hC hQ hH
end
def zup(P:Program)(n:Nat)(asg body:Code)(sl:zd)(R R':RL):Prop:=
 ∀(m lp fn:Nat) (rec:Loop),rec.state= .ready->rec.pending=none-> ∀(M:Mem) (ρ:Nat->Value) (W:World) (tmps:Array Value),tmps.size=n->(∀k s,sg sl k=some s->RepS M ρ s (tmps.getD k undef))->
  xY M ρ W (tb ((90,.raw lp (.loop rec))::R))->Imm M W->GOk M W->RoundIn Fence.wide m P lp fn tmps asg body W λe W'=>
   e= .returned (.bool true)/\ ∃M' ρ',Ret M ρ W ((90,.raw lp (.loop rec))::R) .un ((90,.raw lp (.loop rec))::R') undef M' ρ' W'
def Holds.zdO(h:Holds C st M ρ a w){id r:Nat}{o:Obj}(o':Obj)(J:tg st.tab id=some (.raw r o)):
 Holds C ⟨st.n,st.sl,(id,some (.raw r o'))::st.tab⟩ M ρ a (w.putObj r o'):=by
 obtain⟨h1,h2⟩:=h.zH.res id _ J;have U:r<w.heap.size:=(tz.1 h2).1;exact h.turn (d:=none) (v:= .un) (x:=undef) J (λb hb=>World.putObj_heap_other λe=>hb (by rw[h1,e];rfl)) (by simp[World.putObj]) rfl rfl rfl ⟨h1,World.putObj_heap_same U⟩ (by simp only[RepS]) rfl
variable {R R':RL}
def zrJ(T:Ty P){n ida idb b:Nat}{drA drB:Bool}{opsA opsB:Array Oper}{sl:zd}(hnA:zaT opsA=true)(hnB:zaT opsB=true)(hlow:allB (λi=>Nat.blt i 90) R.ids=true)
 (h: ∀(lp:Nat) (o o':Obj),∃doneA slA tabA doneB slB tabB,Wk P opsA n sl (tb ((90,.raw lp o)::R)) doneA [] slA tabA/\okC drA ⟨n,sl,tb ((90,.raw lp o)::R)⟩ doneA opsA=true/\tg tabA 90=some (.raw lp o)/\
   Wk P opsB n slA ((90,some (.raw lp o'))::tabA) doneB [] slB tabB/\okC drB ⟨n,slA,(90,some (.raw lp o'))::tabA⟩ doneB opsB=true/\tg tabB 90=some (.raw lp o')/\okT R' ⟨n,slB,tabB⟩/\hasB 90 R'.ids=false):
 zup P n (.region ida opsA drA) (.block b (.region idb opsB drB)) sl R R':=by
 intro m lp fn rec hst hpe M ρ W tmps hsz hs hT hI hG
 have hgf: ∀p∈G2,¬zbo (tb ((90,.raw lp (.loop rec))::R)) ρ p.1:=λp hp ⟨id,r,h1,h2⟩=>by
  obtain⟨v,hv⟩:=zkb p hp;have:=hG.le _ _ _ hv;rw[hT.own id r p.1 h1 h2 0]at this;cases this
 let C:Ctx:=⟨W,M,ρ,tb ((90,.raw lp (.loop rec))::R),hG,hgf,[]⟩
 have hC:C.low:=λi r h=>by
  have hm:i∈RL.ids ((90,.raw lp (.loop rec))::R):=zL (zK h);rcases uI.1 hm with rfl|hm
  ·omega
  ·have:=zE hlow i hm;have:i<90:=by simpa [tI]using this
   omega
 have hH:Holds C ⟨n,sl,tb ((90,.raw lp (.loop rec))::R)⟩ M ρ { tmps:=tmps,defers:=[] } W:=
  ⟨rfl,hsz,hs,hT,λid r b h1 h2 h3=>h3.2 ⟨id,r,h1,h2⟩,⟨hI,λ_ _=>rfl,uJ _,MLe.refl _,λ_ _ _ h=> .inl h,rfl,rfl,rfl⟩,λ_ _ _=>rfl⟩
 obtain⟨doneA,slA,tabA,doneB,slB,tabB,wA,cA,rA,wB,cB,rB,hR',h90⟩:=h lp (.loop rec) (.loop { rec with state:= .busy })
 have frb: ∀b,¬C.fr b->W.heap.size<=b\/zbo (tb ((90,.raw lp (.loop rec))::R)) ρ b:=λb hb=>by
  rcases tu b W.heap.size with h|h
  ·exact .inr (tC λhn=>hb ⟨h,hn⟩)
  ·exact .inl h
 refine roundIn_of_wpIn trivial ?_;refine zc4 T.mix hnA wA.ok cA hC (λa w M1 ρ1 U=>?_) hH;have U:Holds C ⟨n,slA,tabA⟩ M1 ρ1 a w:=U.ext (by rw[wk]) wA.sl wA.tab;have hl:w.heap[lp]?=some (.loop rec):=(U.zH.res 90 _ rA).2;refine⟨_,run_beginRound hl hst,?_⟩;refine wpIn_block (zc4 T.mix hnB wB.ok cB hC (λa2 w2 M2 ρ2 hH2=>?_) (U.zdO _ rA));have hH2:Holds C ⟨n,slB,tabB⟩ M2 ρ2 a2 w2:=hH2.ext (by rw[wk]) wB.sl wB.tab;have hl2:w2.heap[lp]?=some (.loop { rec with state:= .busy }):=(hH2.zH.res 90 _ rB).2;have J:=hH2.zdO (.loop rec) rB
 have e0:({ { rec with state:=LoopState.busy } with state:=if(none:Option Code).isNone then LoopState.ready else LoopState.done,pending:=none }:Loop)=rec:=by
  cases rec;simp only at hst hpe;subst hst;subst hpe;rfl
 have hend:=run_endRound (P:=P) none hl2;rw[e0]at hend;refine⟨_,_,hend,rfl,M2,ρ2,?_⟩
 have tk: ∀i r,tg (tb ((90,.raw lp (.loop rec))::R')) i=some r->tg ((90,some (.raw lp (.loop rec)))::tabB) i=some r:=λi r hi=>by
  simp only[tb,zy]at hi⊢;split at hi
  ·rename_i e;rw[uw e];exact hi
  ·rename_i e;rw[ur e];exact xi hR' (zK hi)
 exact⟨by simp only[RepS],⟨λi r hr=>J.zH.res _ _ (tk i r hr),λi j ri rj b e1 e2=>J.zH.dis _ _ _ _ b (tk i ri e1) (tk j rj e2),λi r b e1=>J.zH.own _ _ b (tk i r e1)⟩,
  J.run.imm,J.run.base,λb o u hu=>(J.run.newM b o u hu).imp id (frb b),λb ⟨i,r,e1,hb⟩=>frb b (J.ownf _ _ b (tk i r e1) hb),λb hb hn=>J.run.fram b ⟨hb,hn⟩,
  J.run.size,J.run.os,J.run.tape,J.run.output,λid hid=>by
   obtain⟨r,hr⟩:=vZ hid
   exact J.keep id r hr⟩
theorem zls{n:Nat}(h:o.wp P a w K Q):o.wpIn Fence.wide n P a w K Q:=by
 refine⟨λ_ _=>trivial,?_⟩;show o.uponIn Fence.wide n P a K Q ((execOp a.eval o).run P w);unfold Oper.wp at h;generalize (execOp a.eval o).run P w=r at h;cases r with
 |ok x w'=>
  cases x with
  |value v=>exact h
  |skip=>exact h
  |defer d=>exact h
  |enter f args=>exact⟨λe=>(by cases e),(callsIn_wide (n:=n - 1)).2 h⟩
  |row row args=>
   have h:Rows P row args w' λv w''=>K (a.put o.dst v) w'':=h
   refine⟨λe=>(by cases e),λc cs _=>?_⟩;obtain⟨v,w'',r,s⟩:=h c cs;exact⟨v,w'',r,stepsIn_wide.2 s⟩
  |_=>exact h.elim
 |halt x w'=>cases x<;>first|exact h|exact h.elim
def zcB(P:Program)(C:Ctx)(all:Array Oper)(rest:List Oper)(st:St)(Q:Exit->St->Prop):Prop:= ∀M ρ a w,Holds C st M ρ a w->wpListIn Fence.wide 1 P all (lift C Q) rest a w
variable {af:Array Edge}{d:Nat}{ps:String}{slr:zd}
section
variable {k:List Frm} {n:Nat} {sl:zd} {Q:Exit->St->Prop}
def zrK{id:Nat}{l:List Oper}(h:zcB P C l.toArray l ⟨n,sl,tab⟩ (unw P C k Q)):Goal P C (.code (.region id l.toArray false)) k n sl tab Q:=
 λM ρ a w J=>wpIn_wide.1 (wpIn_region_lit (h M ρ a w J))
def zlt(h:Goal P C (.fin .normal) k n sl tab Q):zcB P C all [] ⟨n,sl,tab⟩ (unw P C k Q):=λM ρ a w J=>h M ρ a w J
def zp6(hC:C.low){Q:Exit->St->Prop}(hL:yL P all o L.rs L.rt L.fr L.v L.wt)(hd:L.d=o.dst)(h:okL L n sl tab)
 (g:zcB P C all rest ⟨n,(app L.d L.v L.wt ⟨n,sl,tab⟩).sl,L.wt++tab⟩ Q):zcB P C all (o::rest) ⟨n,sl,tab⟩ Q:=by
 obtain⟨h1,h2,h3,h4⟩:=h;intro M ρ a w hH
 have key:=hL C ⟨n,sl,tab⟩ M ρ a w hH h1 h2 (zan hC h3) (by rw[<-hd];exact h4) (wpListIn Fence.wide 1 P all (lift C Q) rest) (lift C Q) λa' w' M' ρ' J=>by
  refine g M' ρ' a' w' ?_;rw[hd];exact J
 show if _ then _ else _
 split
 ·rename_i U;rw[uw U]at key;exact zls key
 ·rename_i U;rw[ur U]at key;exact⟨λ_ _=>trivial,key⟩
def yM(T:Ty P)(hC:C.low){Q:Exit->St->Prop}(h:stepL T n true all o sl tab=some L)
 (g:zcB P C all rest ⟨n,(app L.d L.v L.wt ⟨n,sl,tab⟩).sl,L.wt++tab⟩ Q):zcB P C all (o::rest) ⟨n,sl,tab⟩ Q:=by
 obtain⟨J,h2,h3⟩:=xk T h;exact zp6 hC J h2 h3 g
theorem wj: ∀l:List Nat,injB id l=true
 | []=>rfl
 |i::r=>by
  simp only[injB,wj r,qh,List.all_eq_true,id_eq]
  simp_all
theorem zc5(h: ∀i∈R'.ids,i∈R.ids):zP R R'=[]:=by
 unfold zP;rw[List.filter_eq_nil_iff];intro i J;simp only[uy,qD];have:=h i J;generalize R.ids=l at this
 induction l with
 |nil=>cases this
 |cons x xs ih=>
  rcases uI.1 this with rfl|h
  ·simp[hasB]
  ·simp[hasB,ih h]
def zxv{bx r0:Res}(J:91∉R.ids)(U:90∉R.ids): ∀ {i:Nat} {r:Res},tg (tb R) i=some r->tg ((91,some bx)::(90,some r0)::tb R) i=some r:=λ{i r} ht=>by
 have hi:i∈R.ids:=zL (zK ht);rw[zy,ur (by rintro rfl;exact J hi),zy,ur (by rintro rfl;exact U hi)];exact ht
theorem zff(h: ∀ {i r},(i,r)∈R->tg st.tab i=some r):okT R st:=by
 induction R with
 |nil=>trivial
 |cons x xs ih=>
  obtain⟨i,r⟩:=x;exact⟨h ue,ih λJ=>h (u3 _ J)⟩
def uniq:List Nat->Bool
 | []=>true
 |i::l=> !hasB i l&&uniq l
theorem zcf{i:Nat}: ∀ {l:List Nat},i∈l->hasB i l=true
 | [],h=>by cases h
 |x::xs,h=>by
  rcases uI.1 h with rfl|h
  ·simp[hasB]
  ·simp[hasB,zcf h]
theorem vk: ∀ {R:RL},uniq R.ids=true-> ∀ {i:Nat} {r:Res},(i,r)∈R->tg (tb R) i=some r
 | [],_,_,_,h=>by cases h
 |(j,s)::R,hu,i,r,h=>by
  simp only[RL.ids,uniq,um,uy]at hu;simp only[tb,zy];rcases uI.1 h with e|h
  ·simp_all
  ·split
   ·rename_i e;subst e;have J:j∈RL.ids R:=zL (zK (vk hu.2 h));rw[zcf J]at hu;cases hu.1
   ·exact vk hu.2 h
def zfg{a:Array Value}{k:Nat}{v:Value}(h:i≠k):(a.setIfInBounds i v).getD k undef=a.getD k undef:=by
 simp_all
def zdP(hC:C.low){x J y1:Operand}{ts:Array TypeId}{ty:TypeId}{p0 p1 nr:Nat}{rec:Loop}{s0 s1:S}{bx:Res}{Q:Exit->St->Prop}
 (hrd:zup P nr rec.assign rec.body ((p1,s1)::(p0,s0)::slr) R R') (hst:rec.state= .ready) (hpe:rec.pending=none) (hpar:rec.params= #[p0,p1]) (hsz:rec.tmps.size=nr) (hp0:p0<nr) (hp1:p1<nr) (hp:p0≠p1)
 (hgh: ∀M ρ a w,Holds C ⟨n,sl,(91,some bx)::(90,some (.raw lp (.loop rec)))::tb R⟩ M ρ a w-> ∀k s,sg slr k=some s->RepS M ρ s (rec.tmps.getD k undef))
 (hx:ev sl x=some (.one (.p (.k (.func (.yield lp) #[] #[]))))) (h0:ev sl J=some s0) (h1:ev sl y1=some s1)
 (hids:R'.ids=R.ids) (h91:91∉R.ids) (h90:90∉R.ids) (hu:uniq R.ids=true) (hren:R.ren id=R) (hren':R'.ren id=R') (hclo:xH ((90::R.ids)++(90::R.ids)) R'=true) (hd:Nat.blt d n=true)
 (g:zcB P C all rest ⟨n,(d,Bo true)::sl,(91,some bx)::(90,some (.raw lp (.loop rec)))::tb R'⟩ Q):
 zcB P C all (⟨some d,.call ⟨.value x,#[J,y1],ts⟩,ty,ps,af,none⟩::rest) ⟨n,sl,(91,some bx)::(90,some (.raw lp (.loop rec)))::tb R⟩ Q:=by
 intro M ρ a w hH;have e1:=hH.evS hx;have e0:=hH.evS h0;have e2:=hH.evS h1;simp only[RepS,RepV,RepPV]at e1;have hl:w.heap[lp]?=some (.loop rec):=(hH.zH.res 90 (.raw lp (.loop rec)) (by simp[zy])).2;have hy:=run_yield (P:=P) (args:= #[a.eval J,a.eval y1]) hl (by rw[hpar];rfl)
 have hy':(Instr.yield lp #[a.eval J,a.eval y1]).run P w= .ok (.round lp rec.fn ((rec.tmps.setIfInBounds p0 (a.eval J)).setIfInBounds p1 (a.eval y1)) rec.assign rec.body) w:=by
  rw[hy,hpar];simp
 have hrun:(execOp a.eval ⟨some d,.call ⟨.value x,#[J,y1],ts⟩,ty,ps,af,none⟩).run P w= .ok (.round lp rec.fn ((rec.tmps.setIfInBounds p0 (a.eval J)).setIfInBounds p1 (a.eval y1)) rec.assign rec.body) w:=by
  simp[execOp,resolve,e1.1,Deferred.ofValue,invoke,hy']
 show if _ then _ else _
 rw[uw (by simp[Region.wanted])];refine⟨λ_ _=>trivial,?_⟩;rw[show Fence.wide.round=none from rfl,Oper.semAt_none,hrun];refine⟨λe=>(by cases e),?_⟩
 have okT0:okT (RL.ren id ((90,.raw lp (.loop rec))::R)) ⟨n,sl,(91,some bx)::(90,some (.raw lp (.loop rec)))::tb R⟩:=by
  refine⟨by simp[zy,Res.ren],?_⟩;rw[hren];exact zff λhm=>zxv h91 h90 (vk hu hm)
 have hTH:xY M ρ w (tb ((90,.raw lp (.loop rec))::R)):=by
  have tk: ∀i r,tg (tb ((90,.raw lp (.loop rec))::R)) i=some r->tg ((91,some bx)::(90,some (.raw lp (.loop rec)))::tb R) i=some r:=λi r hi=>by
   simp only[tb,zy]at hi;split at hi
   ·rename_i e;subst e;simp[zy,hi]
   ·exact zxv h91 h90 hi
  exact⟨λi r U=>hH.zH.res _ _ (tk i r U),λi j ri rj b e1 e2=>hH.zH.dis _ _ _ _ b (tk i ri e1) (tk j rj e2),λi r b e1=>hH.zH.own _ _ b (tk i r e1)⟩
 have hsl: ∀k s,sg ((p1,s1)::(p0,s0)::slr) k=some s->RepS M ρ s (((rec.tmps.setIfInBounds p0 (a.eval J)).setIfInBounds p1 (a.eval y1)).getD k undef):=λk s hk=>by
  rw[yx]at hk;split at hk
  ·rename_i e;subst e;simp only[ui]at hk;subst hk
   have:((rec.tmps.setIfInBounds p0 (a.eval J)).setIfInBounds p1 (a.eval y1)).getD p1 undef=a.eval y1:=by
    simp[Array.getD,hsz,hp1]
   rw[this];exact e2
  ·rename_i ne1;have g1:((rec.tmps.setIfInBounds p0 (a.eval J)).setIfInBounds p1 (a.eval y1)).getD k undef=(rec.tmps.setIfInBounds p0 (a.eval J)).getD k undef:=zfg ne1;rw[g1];rw[yx]at hk;split at hk
   ·rename_i e;subst e;simp only[ui]at hk;subst hk;have:(rec.tmps.setIfInBounds p0 (a.eval J)).getD p0 undef=a.eval J:=by simp[Array.getD,hsz,hp0]
    rw[this];exact e0
   ·rename_i ne0;rw[zfg ne0];exact hgh M ρ a w hH k s hk
 refine RoundIn.mono (hrd 0 lp rec.fn rec hst hpe M ρ w _ (by simpa using hsz) hsl hTH hH.run.imm hH.gok) λe w' ⟨he,M',ρ',U⟩=>?_;subst he
 have hr2:Ret M (λi=>ρ (id i)) w ((90,.raw lp (.loop rec))::R) (Bo true) ((90,.raw lp (.loop rec))::R') (.bool true) M' ρ' w':=
  ⟨by simp only[RepS,RepV,RepPV];exact⟨uh,rfl⟩,U.zH,U.imm,U.mle,U.newM,U.own,U.fram,U.size,U.os,U.tape,U.output,U.keep⟩
 have hids':RL.ids ((90,Res.raw lp (.loop rec))::R')=RL.ids ((90,Res.raw lp (.loop rec))::R):=by simp only[RL.ids,hids]
 have hnew:zP ((90,.raw lp (.loop rec))::R) ((90,.raw lp (.loop rec))::R')=[]:=zc5 (λi hi=>by rw[hids']at hi;exact hi)
 obtain⟨ρ3,h3⟩:=hH.called (d:=some d) hr2 okT0 (by rw[hnew];rfl) (wj _) (by rw[hnew];trivial) rfl (by
  rw[hids'];show(zvX _ (.raw lp (.loop rec))&&xH _ R')=true
  rw[um];exact⟨rfl,hclo⟩) hd
 refine g M' ρ3 _ _ (h3.drop rfl (λk s e=>e) λi r e=>?_)
 have hrn:RL.ren id ((90,Res.raw lp (.loop rec))::R')=(90,.raw lp (.loop rec))::R':=by
  show(90,Res.raw lp (.loop rec))::RL.ren id R'=_;rw[hren']
 show tg ((tb (RL.ren id ((90,.raw lp (.loop rec))::R'))++xp ((RL.ids ((90,Res.raw lp (.loop rec))::R)).map id))++((91,some bx)::(90,some (.raw lp (.loop rec)))::tb R)) i=some r;rw[hrn];have e:tg ((91,some bx)::(90,some (.raw lp (.loop rec)))::tb R') i=some r:=e;show tg ((90,some (.raw lp (.loop rec)))::((tb R'++xp ((RL.ids ((90,Res.raw lp (.loop rec))::R)).map id))++((91,some bx)::(90,some (.raw lp (.loop rec)))::tb R))) i=some r;rw[zy]at e⊢;by_cases h9:90=i
 ·subst h9;rw[ur ua,zy,uw rfl]at e
  simp_all
 ·rw[ur h9];by_cases h1:91=i
  ·subst h1;rw[uw rfl]at e
   have n91: ∀(r':Option Res),(91,r')∉tb R'++xp ((RL.ids ((90,Res.raw lp (.loop rec))::R)).map id):=λr' hm=>by
    rcases tp.1 hm with hm|hm
    ·have:91∈R'.ids:=tb_ids hm;rw[hids]at this;exact h91 this
    ·have:=offs_ids hm;simp only[List.map_id]at this;rcases uI.1 this with h|h
     ·omega
     ·exact h91 h
   rw[zlu n91,zy,uw rfl];exact e
  ·rw[ur h1,zy,ur h9]at e
   have hk:hasB i (keysT (tb R'))=true:=by
    have hm:=zfh e
    have: ∀ {t:Tab},(i,some r)∈t->hasB i (keysT t)=true:=λ{t}=>by
     induction t with
     |nil=>intro h;cases h
     |cons x xs ih=>
      obtain⟨j,s⟩:=x;intro h;simp only[keysT,hasB,uO];rcases uI.1 h with h|h
      ·simp only[uz]at h;exact .inl (by rw[<-h.1];exact jv _)
      ·exact .inr (ih h)
    exact this hm
   rw[tE,wx (b':=[]) hk,uV];exact e
where
 tb_ids {R:RL} {i:Nat} {r:Option Res}:(i,r)∈tb R->i∈R.ids:=by
  induction R with
  |nil=>intro h;cases h
  |cons x xs ih=>
   obtain⟨j,s⟩:=x;intro h;rcases uI.1 h with h|h
   ·simp only[uz]at h;simp[RL.ids,h.1]
   ·simp only[RL.ids,uI];exact .inr (ih h)
 offs_ids {l:List Nat} {i:Nat} {r:Option Res}:(i,r)∈xp l->i∈l:=by
  induction l with
  |nil=>intro h;cases h
  |cons x xs ih=>
   intro h;rcases uI.1 h with h|h
   ·simp_all
   simp_all
end
def zc6(P:Program)(g:FuncId)(caps:List V)(asg body:Code)(p0 p1 n:Nat)(slr:zd)(bx:Res)(R R':RL):Prop:=
 jC P g/\ ∀(lp:Nat) (rec:Loop),rec.state= .ready->rec.pending=none->rec.params= #[p0,p1]->rec.tmps.size=n->rec.assign=asg->rec.body=body->
  ∀(M:Mem) (ρ:Nat->Value) (w:World) (xs:List Value),RepVs M ρ caps xs->(∀k s,sg slr k=some s->RepS M ρ s (rec.tmps.getD k undef))->
   xY M ρ w (tb ((91,bx)::(90,.raw lp (.loop rec))::R))->Imm M w->GOk M w->
   Calls P g (.func (.yield lp) #[] #[]::xs).toArray w λe w'=> ∃v M' ρ',e= .returned v/\Ret M ρ w ((91,bx)::(90,.raw lp (.loop rec))::R) .un ((91,bx)::(90,.raw lp (.loop rec))::R') v M' ρ' w'
variable {c:Code}{caps:List V}{fn:Func}{g:FuncId}
def zrL(T:Ty P){asg body:Code}{p0 p1 n:Nat}{bx:Res}(hf:P.funcs[g]?=some fn)
 (hname:(fn.name== "runtime.NumGoroutine")=false) (hb:fn.body=some c) (hrv:fn.results=([]:List ResultVar).toArray) (hlow:allB (λi=>Nat.blt i 90) R.ids=true)
 (hn:Nat.ble (caps.length+1) fn.ntmps=true) (hcl: ∀k s,(k,s)∈slr->cloS R.ids s=true)
 (h: ∀(lp:Nat) (rec:Loop),rec.state= .ready->rec.pending=none->rec.params= #[p0,p1]->rec.tmps.size=n->rec.assign=asg->rec.body=body-> ∀C:Ctx,C.low->
   (∀st M ρ a w,Holds C st M ρ a w-> ∀k s,sg slr k=some s->RepS M ρ s (rec.tmps.getD k undef))->
   Goal P C (.code c) [] fn.ntmps (enum 0 (.one (.p (.k (.func (.yield lp) #[] #[])))::ones caps)) (tb ((91,bx)::(90,.raw lp (.loop rec))::R))
    (zdm T [] ((91,bx)::(90,.raw lp (.loop rec))::R) .un ((91,bx)::(90,.raw lp (.loop rec))::R'))):
 zc6 P g caps asg body p0 p1 n slr bx R R':=by
 refine⟨⟨fn,hf,hname,by rw[hb];rfl⟩,λlp rec r1 r2 r3 r4 r5 r6 M ρ w xs hx hsl hT hI hG=>?_⟩
 have hlow':allB (λi=>Nat.blt i 100) (RL.ids ((91,bx)::(90,.raw lp (.loop rec))::R))=true:=by
  have: ∀l:List Nat,allB (λi=>Nat.blt i 90) l=true->allB (λi=>Nat.blt i 100) l=true:=λl=>by
   induction l with
   |nil=>exact λ_=>rfl
   |cons x xs ih=>
    intro h;simp only[allB,um,tI]at h⊢;exact⟨ua,ih h.2⟩
  simp only[RL.ids,allB,this _ hlow];rfl
 have hlen:(ones caps).length=caps.length:=by
  have: ∀l:List V,(ones l).length=l.length:=λl=>by
   induction l with
   |nil=>rfl
   |cons x xs ih=>simp[ones,ih]
  exact this _
 obtain⟨C,hC,e1,e2,e3,e4,e5,hH⟩:=vA (xs:= .func (.yield lp) #[] #[]::xs) (args:= .one (.p (.k (.func (.yield lp) #[] #[])))::ones caps) hlow' (m:=fn.ntmps) (by
  simp_all) ⟨by simp only[RepS,RepV,RepPV];exact⟨uh,rfl⟩,yA hx⟩ hT hI hG
 have hgh: ∀st M ρ a w,Holds C st M ρ a w-> ∀k s,sg slr k=some s->RepS M ρ s (rec.tmps.getD k undef):=λst M' ρ' a w' J k s hk=>by
  have h0:=RepS.mono (by rw[<-e2];exact J.run.base) _ _ (hsl k s hk);refine RepS.agree (X:=λi=>i∉R.ids) (ρ:=ρ) (λi hi=>?_) s _ (λi hi=>zas hi s (hcl k s (za9 hk))) h0;have hi:=tP.1 hi;obtain⟨r,hr⟩:=vZ (l:=(91,bx)::(90,.raw lp (.loop rec))::R) (i:=i) (by simp[RL.ids,hi]);rw[J.keep i r (by rw[e4];exact hr),e3]
 refine calls_of_wp hf hb (wp_mono (h lp rec r1 r2 r3 r4 r5 r6 C hC hgh M ρ _ w hH) λe a w' ⟨st,M',ρ',hq,J⟩=>?_);simp only[unw]at hq;obtain⟨he,σ,ss,g1,g2,g3,g4,g5⟩:=hq;obtain⟨v,hv,hrep⟩:=wN T hrv J g1;have U:=zhW e4 J (σ:=σ) (g2 _ _ _ hrep) g3 g4 g5;rw[e1,e2,e3]at U;have hd:a.defers=[]:=by rw[J.dfr,e5]
 rcases he with rfl|rfl
 ·exact⟨hd,v,hv,v,M',_,rfl,U⟩
 ·exact⟨hd,v,hv,v,M',_,rfl,U⟩
theorem tg_tb_app{S:RL}:tg (tb (R++S)) i=(match tg (tb R) i with|some r=>some r|none=>tg (tb S) i):=by
 induction R with
 |nil=>rfl
 |cons x xs ih=>
  obtain⟨j,r⟩:=x;simp only[uL,tb,zy]
  grind
def marks(ds:List (Nat×Nat)):List Deferred:=ds.map λx=>{ target:= .collected x.2,args:= #[] }
def vD(ds:List (Nat×Nat)):RL:=ds.map λx=>(x.1,.raw x.2 (.deferred (some [])))
def zwH{n tm p0 p1 j:Nat}{asg body:Code}{sl:zd}{Rx:RL}{bx:Res}
 (hH:Holds C ⟨n,sl,tb ((91,bx)::(R++Rx))⟩ M ρ a w) (hIt:zc6 P g caps asg body p0 p1 n slr bx R R') (hg:sg sl tm=some (.one (.cl g [] caps))) (hsl: ∀k s,sg slr k=some s->sg sl k=some s)
 (hids:R'.ids=R.ids) (hx: ∀i∈Rx.ids,i∉R.ids) (h91:91∉R.ids) (h91x:91∉Rx.ids) (h90:90∉R.ids) (h90x:90∉Rx.ids) (hjR:j∉R.ids) (hjx:j∉Rx.ids) (hj:j≠90/\j≠91)
 (hu:uniq R.ids=true) (hfj:freshB j ⟨n,sl,tb ((91,bx)::(R++Rx))⟩=true) (hf90:freshB 90 ⟨n,sl,tb ((91,bx)::(R++Rx))⟩=true)
 (hCj:tg C.tab0 j=none) (hC90:tg C.tab0 90=none) (hbx:bx.ren id=bx) (hren:R.ren id=R) (hren':R'.ren id=R')
 (hclo:xH ((91::90::R.ids)++(91::90::R.ids)) ((91,bx)::R')=true)
 (hQ: ∀D M' ρ' w',Holds { C with df:=⟨.collected D,#[]⟩::C.df } ⟨n,sl,tb ((j,.raw D (.deferred (some [])))::(R'++Rx))⟩ M' ρ' { a with defers:=⟨.collected D,#[]⟩::a.defers } w'->Q .normal { a with defers:=⟨.collected D,#[]⟩::a.defers } w'):
 (Code.rangeFunc (.tmp tm) #[p0,p1] asg body).wp P Q a w:=by
 refine(wpIn_wide (n:=1)).1 (wpIn_rangeFunc λfnid _=>?_)
 let D:=w.heap.size
 let rec0:Loop:={ state:= .ready,pending:=none,fn:=fnid,tmps:=a.tmps,params:= #[p0,p1],assign:=asg,body:=body,defers:=D }
 let wA:=w.alloc (.deferred (some []))
 let wB:=wA.alloc (.loop rec0)
 have henter:=run_enterLoop_outer (P:=P) (w:=w) fnid a.tmps #[p0,p1] asg body;have hcv:=hH.slots tm _ hg;simp only[RepS,RepV]at hcv;obtain⟨xs,ys,hval,hxs,hys⟩:=hcv;have hxs:xs=[]:=by cases xs with|nil=>rfl|cons x l=>simp only[RepVs]at hxs
 subst hxs;have hev:a.eval (.tmp tm)= .func (.func g) #[] ys.toArray:=hval
 have hres:(resolve a.eval (rangeCall (.tmp tm) (D+1)) 0).run P wB= .ok ⟨.fn (.func g) ys.toArray,#[.func (.yield (D+1)) #[] #[]]⟩ wB:=by
  have hev':a.tmps[tm]?.getD undef= .func (.func g) #[] ys.toArray:=by rw[<-hval];simp[qM]
  simp[resolve,Deferred.ofValue,Act.eval,hev']
 obtain⟨fng,k1,k2,k3⟩:=hIt.1
 have hinv:(invoke (.fn (.func g) ys.toArray) #[.func (.yield (D+1)) #[] #[]]).run P wB= .ok (.enter g (Value.func (.yield (D+1)) #[] #[]::ys).toArray) wB:=by
  have hn': ¬(fng.name= "runtime.NumGoroutine"):=by simpa using k2
  have hp:program.run P wB= .ok P wB:=rfl;have hb': ¬fng.body=none:=λe=>by rw[e]at k3;cases k3
  simp[invoke,callFunc,k1,hn',hb',hp]
 -- the two blocks
 have bkm: ∀ {x b:Nat},Bk (.map (some x)) b->b=x:=λ{x b} h=>by
  have h:some x=some b:=h;exact(uY h).symm
 have hsz1:(w.alloc (.deferred (some []))).heap.size=D+1:=World.size_alloc _ _;have hF1:wv C j ⟨n,sl,tb ((91,bx)::(R++Rx))⟩:=vq hfj hCj
 have hH1:=hH.alloc (id:=j) (val:= .map (some D)) (o:= .deferred (some [])) (r':= .raw D (.deferred (some []))) (d:=none) (v:= .un) (u:=undef) (λb hb=>bkm hb) hF1
  ⟨by simp[upd],World.alloc_heap_new _ _⟩ (by simp only[RepS]) rfl
 have hF2:wv C 90 ⟨n,sl,(j,some (.raw D (.deferred (some []))))::tb ((91,bx)::(R++Rx))⟩:=by
  obtain⟨f1,f2,f3⟩:=vq hf90 hC90;refine⟨f1,λi r J=>?_,f3⟩;rw[zy]at J;split at J
  ·rename_i e;subst e;simp only[ui]at J;subst J;exact⟨hj.1,rfl⟩
  ·exact f2 i r J
 have hH2:=hH1.alloc (id:=90) (val:= .map (some (D+1))) (o:= .loop rec0) (r':= .raw (D+1) (.loop rec0)) (d:=none) (v:= .un) (u:=undef) (λb hb=>by
  rw[bkm hb,hsz1]) hF2
  ⟨by simp[upd],by rw[<-hsz1];exact World.alloc_heap_new _ _⟩ (by simp only[RepS]) rfl
 let mk:Deferred:=⟨.collected D,#[]⟩
 let C1:Ctx:={ C with df:=mk::C.df }
 let a1:Act:={ a with defers:=mk::a.defers }
 let tab2:Tab:=(90,some (.raw (D+1) (.loop rec0)))::(j,some (.raw D (.deferred (some []))))::tb ((91,bx)::(R++Rx))
 let ρ2:Nat->Value:=upd (upd ρ j (.map (some D))) 90 (.map (some (D+1)))
 have hH3:Holds C1 ⟨n,sl,tab2⟩ M ρ2 a1 wB:=⟨by show _::a.defers=_;rw[hH.dfr],hH2.sz,hH2.slots,hH2.zH,hH2.ownf,⟨hH2.run.imm,hH2.run.fram,hH2.run.size,hH2.run.base,hH2.run.newM,hH2.run.os,hH2.run.tape,hH2.run.output⟩,hH2.keep⟩
 let RF:RL:=(91,bx)::(90,.raw (D+1) (.loop rec0))::R
 let RF':RL:=(91,bx)::(90,.raw (D+1) (.loop rec0))::R'
 have tF: ∀i r,tg (tb RF) i=some r->tg tab2 i=some r:=λi r J=>by
  simp only[RF,tb,zy]at J;simp only[tab2,tb,zy];by_cases i91:91=i
  ·rw[uw i91]at J;subst i91;rw[ur ua,ur hj.2,uw rfl];exact J
  ·rw[ur i91]at J;by_cases i90:90=i
   ·rw[uw i90]at J;rw[uw i90];exact J
   ·rw[ur i90]at J;have hm:i∈R.ids:=zL (zK J);rw[ur i90,ur (by rintro rfl;exact hjR hm),ur i91,tg_tb_app,J]
 have okT0:okT (RL.ren id RF) ⟨n,sl,tab2⟩:=by
  have e:RL.ren id RF=RF:=by
   show(91,bx.ren id)::(90,.raw (D+1) (.loop rec0))::RL.ren id R=_;rw[hbx,hren]
  rw[e]
  have huF:uniq RF.ids=true:=by
   have h1:hasB 91 (90::R.ids)=false:=by
    cases e:hasB 91 (90::R.ids)with
    |false=>rfl
    |true=>rcases uI.1 (z1 e)with h|h
           ·omega
           ·exact absurd h h91
   have h2:hasB 90 R.ids=false:=by
    cases e:hasB 90 R.ids with
    |false=>rfl
    |true=>exact absurd (z1 e) h90
   simp only[RF,RL.ids,uniq,h1,h2,hu];rfl
  exact zff λ{i r} hm=>tF i r (vk huF hm)
 have hTF:xY M ρ2 wB (tb RF):=⟨λi r hr=>hH3.zH.res _ _ (tF i r hr),λi k ri rk b e1 e2=>hH3.zH.dis _ _ _ _ b (tF i ri e1) (tF k rk e2),λi r b e1=>hH3.zH.own _ _ b (tF i r e1)⟩
 have hys2:RepVs M ρ2 caps ys:=by
  have h3:=hH3.slots tm _ (show sg sl tm=_ from hg);simp only[RepS,RepV]at h3;obtain⟨xs',ys',hv',_,h3⟩:=h3;have:a1.tmps.getD tm undef= .func (.func g) #[] ys.toArray:=hval;rw[this]at hv';simp only[Value.func.injEq,Ul]at hv'
  have:ys=ys':=by
   have:=u5 Array.toList hv'.2;simpa using this
  rw[this];exact h3
 have hcall:=hIt.2 (D+1) rec0 rfl rfl rfl (by exact hH.sz) rfl rfl M ρ2 wB ys hys2 (λk s hk=>hH3.slots k s (hsl k s hk)) hTF hH3.run.imm hH3.gok;refine⟨D+1,[mk],wB,⟨.fn (.func g) ys.toArray,#[.func (.yield (D+1)) #[] #[]]⟩,wB,g,(Value.func (.yield (D+1)) #[] #[]::ys).toArray,wB,henter,hres,λ_ _=>trivial,hinv,λ_=>uJ _,callsIn_wide.2 (hcall.mono λe w3 he=>?_)⟩;obtain⟨v,M3,ρ3,rfl,hret⟩:=he;have hids2:RF'.ids=RF.ids:=by simp only[RF,RF',RL.ids,hids]
 have hnew:zP RF RF'=[]:=zc5 (λi J=>by rw[hids2]at J;exact J);have hret':Ret M (λi=>ρ2 (id i)) wB RF .un RF' v M3 ρ3 w3:=hret
 obtain⟨ρ4,h4⟩:=hH3.called (d:=none) hret' okT0 (by rw[hnew];rfl) (wj _) (by rw[hnew];trivial) rfl (by
  rw[hids2];have:RF.ids=91::90::R.ids:=rfl;rw[this];simp only[RF',xH,um]at hclo⊢
  exact⟨hclo.1,rfl,hclo.2⟩) rfl
 have e':RL.ren id RF'=RF':=by
  show(91,bx.ren id)::(90,.raw (D+1) (.loop rec0))::RL.ren id R'=_;rw[hbx,hren']
 rw[e']at h4
 -- what the table holds now
 have tk: ∀i r,i≠90->tg (tb ((j,.raw D (.deferred (some [])))::(R'++Rx))) i=some r->tg ((tb RF'++xp (RF.ids.map id))++tab2) i=some r:=λi r i90 J=>by
  simp only[tb,zy]at J;by_cases ij:j=i
  ·rw[uw ij]at J;subst ij
   have hnot:hasB j (keysT (tb RF'++xp (RF.ids.map id)))=false:=by
    cases e:hasB j (keysT (tb RF'++xp (RF.ids.map id)))with
    |false=>rfl
    |true=>
     have hm:=z1 e;have hk: ∀ {x:Nat},x∈keysT (tb RF'++xp (RF.ids.map id))->x∈RF.ids:=λ{x} hx=>keys_in (hids2 ▸ rfl) hx
     have hm:=hk hm;simp only[RF,RL.ids,uI]at hm;rcases hm with h|h|h
     ·exact absurd h hj.2
     ·exact absurd h hj.1
     ·exact absurd h hjR
   rw[yR hnot];simp only[tab2,zy];rw[ur (λe=>i90 e.symm)];simp[J]
  ·rw[ur ij,tg_tb_app]at J;cases hR:tg (tb R') i with
   |some r'=>
    rw[hR]at J;simp only[ui]at J;subst J;have hm:i∈R'.ids:=zL (zK hR)
    have e2:tg (tb RF') i=some r':=by
     simp only[RF',tb,zy];rw[ur (by rintro rfl;exact h91 (hids ▸ hm)),ur (λe=>i90 e.symm),hR]
    rw[tE];exact tg_some_app e2
   |none=>
    rw[hR]at J;simp only at J;have hm:i∈Rx.ids:=zL (zK J)
    have hnot:hasB i (keysT (tb RF'++xp (RF.ids.map id)))=false:=by
     cases e:hasB i (keysT (tb RF'++xp (RF.ids.map id)))with
     |false=>rfl
     |true=>
      have hm2:i∈RF.ids:=keys_in (hids2 ▸ rfl) (z1 e);simp only[RF,RL.ids,uI]at hm2;rcases hm2 with h|h|h
      ·subst h;exact absurd hm h91x
      ·subst h;exact absurd hm h90x
      ·exact absurd h (hx i hm)
    rw[yR hnot];simp only[tab2,tb,zy];rw[ur (λe=>i90 e.symm),ur ij,ur (by rintro rfl;exact h91x hm),tg_tb_app];cases hR0:tg (tb R) i with
    |some r0=>exact absurd (zL (zK hR0)) (hx i hm)
    |none=>exact J
 have t90:tg ((tb RF'++xp (RF.ids.map id))++tab2) 90=some (.raw (D+1) (.loop rec0)):=by
  rw[tE];exact tg_some_app (by simp only[RF',tb,zy];rfl)
 have hl:w3.heap[D+1]?=some (.loop rec0):=(h4.zH.res 90 _ t90).2;have h5:=h4.zdO (.loop { rec0 with state:= .exhausted }) t90;refine⟨none,_,run_endLoop hl (by simp[rec0]),?_⟩;refine hQ D M3 ρ4 _ (h5.drop rfl (λk s e=>e) λi r J=>?_);by_cases i90:i=90
 ·subst i90;exfalso;have hm:90∈RL.ids ((j,Res.raw D (.deferred (some [])))::(R'++Rx)):=zL (zK J)
  have hap: ∀ {A B:RL} {x:Nat},x∈RL.ids (A++B)->x∈A.ids\/x∈B.ids:=λ{A B x}=>by
   induction A with
   |nil=>exact λh=> .inr h
   |cons y ys ih=>
    obtain⟨k,s⟩:=y;intro h;simp only[uL,RL.ids,uI]at h⊢;rcases h with h|h
    ·exact .inl (.inl h)
    ·exact(ih h).imp .inr id
  simp only[RL.ids,uI]at hm
  grind
 ·show tg ((90,_)::_) i=some r;rw[zy,ur (λe=>i90 e.symm)];exact tk i r i90 J
where
 tg_some_app {A B:Tab} {i:Nat} {r:Res} (h:tg A i=some r):tg (A++B) i=some r:=by
  induction A with
  |nil=>cases h
  |cons x xs ih=>
   obtain⟨k,s⟩:=x;simp only[uL,zy]at h⊢
   grind
 keys_in {A B:RL} (h:A.ids=B.ids) {x:Nat} (hx:x∈keysT (tb A++xp (B.ids.map id))):x∈B.ids:=by
  have k1: ∀ {U V:Tab},x∈keysT (U++V)->x∈keysT U\/x∈keysT V:=λ{U V}=>by
   induction U with
   |nil=>exact λh=> .inr h
   |cons y ys ih=>
    obtain⟨k,s⟩:=y;intro h;simp only[uL,keysT,uI]at h⊢;rcases h with h|h
    ·exact .inl (.inl h)
    ·exact(ih h).imp .inr id
  have k2: ∀ {U:RL},x∈keysT (tb U)->x∈U.ids:=λ{U}=>by
   induction U with
   |nil=>intro h;cases h
   |cons y ys ih=>
    obtain⟨k,s⟩:=y;intro h;simp only[tb,keysT,RL.ids,uI]at h⊢;exact h.imp id ih
  have k3: ∀ {l:List Nat},x∈keysT (xp l)->x∈l:=λ{l}=>by
   induction l with
   |nil=>intro h;cases h
   |cons y ys ih=>
    intro h;simp only[xp,keysT,uI]at h⊢;exact h.imp id ih
  rcases k1 hx with h1|h1
  ·grind
  simp_all
def flatC:Code->List Code
 | .seq a b=>flatC a++flatC b
 |c=>[c]
def wpL(P:Program):List Code->(Exit->Act->World->Prop)->Act->World->Prop
 | [],Q=>λa w=>Q .normal a w
 |c::cs,Q=>c.wp P (Exit.then (wpL P cs Q) Q)
def zlv{K2:Act->World->Prop}:Exit.then K (Exit.then K2 Q)=Exit.then K Q:=by
 funext e a w;cases e<;>rfl
theorem zgM{P:Program}{m:List Code}{Q:Exit->Act->World->Prop}: ∀ {l:List Code},wpL P (l++m) Q=wpL P l (Exit.then (wpL P m Q) Q)
 | []=>rfl
 |c::cs=>by
  simp only[uL,wpL,zlv];rw[zgM (l:=cs)]
theorem zrM: ∀ {c:Code} {Q:Exit->Act->World->Prop} {a:Act} {w:World},wpL P (flatC c) Q a w->c.wp P Q a w:=by
 have one: ∀ {c:Code} {Q:Exit->Act->World->Prop} {a:Act} {w:World},wpL P [c] Q a w->c.wp P Q a w:=λh=>wp_mono h λe a w J=>by cases e<;>exact J
 intro c
 induction c with
 |seq a b iha ihb=>
  intro Q x w h;simp only[flatC,zgM]at h;refine wp_seq (wp_mono (iha h) λe a' w' J=>?_);cases e with
  |normal=>exact ihb J
  |_=>exact J
 |_=>intro Q a w h;exact one h
theorem zgN{P:Program}{C:Ctx}{Q:Exit->St->Prop}{W:Exit->Act->World->Prop}(U: ∀e a w,lift C Q e a w->W e a w): ∀ {l:List Code} {c:Code} {st:St} {M:Mem} {ρ:Nat->Value} {a:Act} {w:World},
 Tri P C c st (unw P C (l.map Frm.seq) Q)->Holds C st M ρ a w->wpL P (c::l) W a w
 | [],c,st,M,ρ,a,w,h,hH=>wp_mono (h M ρ a w hH) λe a' w' hl=>by
   cases e with
   |normal=>exact U _ a' w' hl
   |_=>exact U _ a' w' hl
 |b::l,c,st,M,ρ,a,w,h,hH=>wp_mono (h M ρ a w hH) λe a' w' hl=>by
  obtain⟨st',M',ρ',hq,J⟩:=hl;cases e with
  |normal=>exact zgN U (l:=l) hq J
  |_=>exact U _ a' w' ⟨st',M',ρ',zhX (l:=b::l) ue hq,J⟩
def rgA(n:Nat)(sl:zd)(R0 R:RL):Exit->St->Prop:=λe st=>e= .normal/\st.n=n/\ ∃σ:Nat->Nat,mS σ st sl/\mR σ st.tab R/\injB σ R.ids=true/\allB (λi=>Nat.beq (σ i) i) R0.ids=true
def mvL(l:List (Nat×Nat))(i:Nat):Nat:=match l.lookup i with
 |some j=>j
 |none=>i
variable {σ:Nat->Nat}
def Holds.named{R0:RL}(h0:C.tab0=tb R0)(h:Holds C st M ρ a w){n:Nat}{sl:zd}(hn:st.n=n)(hs:mS σ st sl)(ht:mR σ st.tab R)(hi:injB σ R.ids=true)
 (hf:allB (λi=>Nat.beq (σ i) i) R0.ids=true):Holds C ⟨n,sl,tb R⟩ M (λi=>ρ (σ i)) a w:=by
 have tk: ∀i r,tg (tb R) i=some r->tg st.tab (σ i)=some (r.ren σ):=λi r h=>zcK ht (zK h)
 have ti: ∀i r,tg (tb R) i=some r->i∈R.ids:=λi r h=>zL (zK h)
 refine⟨h.dfr,by rw[<-hn];exact h.sz,λk s hk=>(RepS.ren s _).1 (h.slots k _ (ze9 hs (za9 hk))),⟨λi r U=>(h.zH.res _ _ (tk i r U)).ren,?_,?_⟩,?_,h.run,?_⟩
 ·intro i j ri rj b J h2 hne hb1 hb2;exact h.zH.dis _ _ _ _ b (tk i ri J) (tk j rj h2) (yB hi i j (ti i ri J) (ti j rj h2) hne) hb1 hb2
 ·intro i r b J hb;exact h.zH.own _ _ b (tk i r J) hb
 ·intro i r b J hb;exact h.ownf _ _ b (tk i r J) hb
 ·intro i r U;have hm:i∈R0.ids:=zL (zK (by rw[<-h0];exact U));have e:=uA (zE hf i hm);show ρ (σ i)=_;rw[e];exact h.keep i r U
section
variable (T:Ty P) (fn:Func) (rv:List ResultVar) (R:RL) (res:S) (R':RL)
def zxW(C:Ctx):Exit->Act->World->Prop:=λe a w=>(e= .ret\/e= .normal)/\ ∃(ds:List (Nat×Nat)) (st:St) (M:Mem) (ρ:Nat->Value),Holds { C with df:=marks ds } st M ρ a w/\zdm T rv (R++vD ds) res (R'++vD ds) e st/\uniq (vD ds).ids=true/\allB (λi=> !hasB i (vD ds).ids) (R'.ids)=true
def zvY(l:List Code)(sl:zd)(R1:RL)(ds:List (Nat×Nat)):Prop:= ∀C:Ctx,C.low->C.tab0=tb R-> ∀M ρ a w,Holds { C with df:=marks ds } ⟨fn.ntmps,sl,tb (R1++vD ds)⟩ M ρ a w->wpL P l (zxW T rv R res R' C) a w
end
theorem zcg{A B:RL}{x:Nat}:x∈RL.ids (A++B)↔x∈A.ids\/x∈B.ids:=by
 induction A with
 |nil=>simp[RL.ids]
 |cons y ys ih=>
  obtain⟨k,s⟩:=y;simp only[uL,RL.ids,uI,ih,or_assoc]
theorem zp7{A B:RL}(h:mR σ tab (A++B)):mR σ tab A/\mR σ tab B:=by
 induction A with
 |nil=>exact⟨uh,h⟩
 |cons y ys ih=>
  obtain⟨k,s⟩:=y;exact⟨⟨h.1,(ih h.2).1⟩,(ih h.2).2⟩
theorem zot{A B:RL}(h:injB σ (RL.ids (A++B))=true):injB σ A.ids=true:=by
 induction A with
 |nil=>rfl
 |cons y ys ih=>
  obtain⟨k,s⟩:=y;simp only[uL,RL.ids,injB,um,List.all_eq_true]at h⊢;exact⟨λj J=>h.1 j (zcg.2 (.inl J)),ih h.2⟩
theorem zou{p:Nat->Bool}{A B:RL}(h:allB p (RL.ids (A++B))=true):allB p A.ids=true/\allB p B.ids=true:=by
 induction A with
 |nil=>exact⟨rfl,h⟩
 |cons y ys ih=>
  obtain⟨k,s⟩:=y;simp only[uL,RL.ids,allB,um]at h⊢
  simp_all
variable {cs:List Code}{ds:List (Nat×Nat)}
section
variable (T:Ty P) {rv:List ResultVar} {res:S}
def zlw{sl:zd}{R1:RL}(hu:uniq (vD ds).ids=true)(J:allB (λi=> !hasB i (vD ds).ids) R'.ids=true)
 (h: ∀C:Ctx,C.low->Goal P C (.code c) (cs.map Frm.seq) fn.ntmps sl (tb (R1++vD ds)) (zdm T rv (R++vD ds) res (R'++vD ds))):zvY T fn rv R res R' (c::cs) sl R1 ds:=by
 intro C hC h0 M ρ a w hH;refine zgN (C:={ C with df:=marks ds }) (Q:=zdm T rv (R++vD ds) res (R'++vD ds)) (λe a' w' hl=>?_) (h { C with df:=marks ds } hC) hH;obtain⟨st,M',ρ',hq,U⟩:=hl;exact⟨hq.1,ds,st,M',ρ',U,hq,hu,J⟩
def zuq(l:List Nat)(R:RL):Bool:=allB (λi=> !hasB i l) R.ids
def yY{l:List Nat}(h:zuq l R=true)(J:i∈l):i∉R.ids:=λU=>by
 have:=zE h i U;rw[zcf J]at this;cases this
def zlx{l:List Code}{m:Nat}{c0:Code}{bid tm p0 p1 j:Nat}{asg body:Code}{cB:List Code}{sl sl1:zd}{R1 R2 R2' Rx:RL}{bx:Res}
 (hc:l.splitAt m=(c0::cs,.block bid (.rangeFunc (.tmp tm) #[p0,p1] asg body)::cB))
 (hA: ∀C:Ctx,C.low->Goal P C (.code c0) (cs.map Frm.seq) fn.ntmps sl (tb (R1++vD ds)) (rgA fn.ntmps sl1 R ((91,bx)::(R2++(Rx++vD ds)))))
 (hIt:zc6 P g caps asg body p0 p1 fn.ntmps slr bx R2 R2') (hg:sg sl1 tm=some (.one (.cl g [] caps))) (hsl: ∀k s,sg slr k=some s->sg sl1 k=some s)
 (hids:R2'.ids=R2.ids) (U:zuq [90,91,j] R2=true) (hRx:zuq [90,91,j] (Rx++vD ds)=true) (hRR:zuq R2.ids (Rx++vD ds)=true) (hR:zuq [90,j] R=true) (hj:(Nat.beq j 90||Nat.beq j 91)=false) (hu:uniq R2.ids=true)
 (hfj:freshB j ⟨fn.ntmps,sl1,tb ((91,bx)::(R2++(Rx++vD ds)))⟩=true) (hf90:freshB 90 ⟨fn.ntmps,sl1,tb ((91,bx)::(R2++(Rx++vD ds)))⟩=true)
 (hbx:bx.ren id=bx) (hren:R2.ren id=R2) (hren':R2'.ren id=R2') (hclo:xH ((91::90::R2.ids)++(91::90::R2.ids)) ((91,bx)::R2')=true)
 (hB: ∀D,zvY T fn rv R res R' cB sl1 (R2'++Rx) ((j,D)::ds)):zvY T fn rv R res R' l sl R1 ds:=by
 intro C hC h0 M ρ a w hH;have hj':j≠90/\j≠91:=⟨λe=>by subst e;simp at hj,λe=>by subst e;simp at hj⟩
 have hC0: ∀i,i∉R.ids->tg C.tab0 i=none:=λi J=>by
  rw[h0];cases e:tg (tb R) i with
  |none=>rfl
  |some r=>exact absurd (zL (zK e)) J
 have hl:l=(c0::cs)++(.block bid (.rangeFunc (.tmp tm) #[p0,p1] asg body)::cB):=by
  have:=tH m l;rw[List.splitAt_eq]at hc;simp only[uz]at hc;rw[<-this,hc.1,hc.2]
 rw[hl,zgM];refine zgN (C:={ C with df:=marks ds }) (Q:=rgA fn.ntmps sl1 R ((91,bx)::(R2++(Rx++vD ds)))) (λe a' w' hl=>?_) (hA { C with df:=marks ds } hC) hH;rcases Classical.em (e= .normal)with he|hne
 ·subst he;show wpL P _ _ a' w';simp only[wpL];obtain⟨st,M',ρ',⟨_,hn,σ,hs,ht,J,hf⟩,hH'⟩:=hl;have hH1:Holds { C with df:=marks ds } ⟨fn.ntmps,sl1,tb ((91,bx)::(R2++(Rx++vD ds)))⟩ M' (λi=>ρ' (σ i)) a' w':=Holds.named (C:={ C with df:=marks ds }) (R0:=R) h0 hH' hn hs ht J hf
  refine(wp_block (zwH hH1 hIt hg hsl hids (λi J hm=>yY hRR hm J) (yY U ue) (yY hRx ue) (yY U ue) (yY hRx ue) (yY U ue) (yY hRx ue) hj'
   hu hfj hf90 (hC0 _ (yY hR ue)) (hC0 _ (yY hR ue)) hbx hren hren' hclo λD M2 ρ2 w2 hH2=>?_))
  refine hB D C hC h0 M2 ρ2 _ w2 (hH2.drop rfl (λ_ _ e=>e) λi r J=>?_);have J:tg (tb ((R2'++Rx)++((j,Res.raw D (.deferred (some [])))::vD ds))) i=some r:=J;show tg (tb ((j,Res.raw D (.deferred (some [])))::(R2'++(Rx++vD ds)))) i=some r;rw[<-tE];simp only[tb,zy];rw[tg_tb_app]at J⊢;by_cases ij:j=i
  ·subst ij
   have:tg (tb (R2'++Rx)) j=none:=by
    cases e:tg (tb (R2'++Rx)) j with
    |none=>rfl
    |some r=>
     rcases zcg.1 (zL (zK e))with h|h
     ·rw[hids]at h;exact absurd h (yY U ue)
     ·exact absurd (zcg.2 (.inl h)) (yY hRx (by simp:j∈[90,91,j]))
   rw[this]at J;simp only[tb,zy,uX]at J⊢;exact J
  ·rw[ur ij];cases e:tg (tb (R2'++Rx)) i with
   |some r0=>simp_all
   |none=>
    rw[e]at J;simp only[tb,zy,ur ij]at J;exact J
 ·obtain⟨st,M',ρ',hq,_⟩:=hl;exact absurd hq.1 hne
theorem zat{n:Nat}{Rr:Ending->World->Prop}{C:Ctx}{M:Mem}{ρ:Nat->Value}{a:Act}: ∀(ds:List (Nat×Nat)) {st:St} {w:World},Holds C st M ρ a w->okT (vD ds) st->uniq (vD ds).ids=true->
 (∀(st':St) (w':World),st'.n=st.n->st'.sl=st.sl->(∀i,i∉(vD ds).ids->tg st'.tab i=tg st.tab i)->Holds C st' M ρ a w'-> ∃v,(results fn a.tmps).run P w'= .ok v w'/\Rr (.returned v) w')->
 LeavesInM Fence.wide n P fn a.tmps Rr (marks ds) .returning w
 | [],st,w,hH,_,_,h=>h st w rfl rfl (λ_ _=>rfl) hH
 |(j,D)::ds,st,w,hH,ht,hu,h=>by
  have ht1:tg st.tab j=some (.raw D (.deferred (some []))):=ht.1
  have U:hasB j (vD ds).ids=false/\uniq (vD ds).ids=true:=by
   have:uniq (j::(vD ds).ids)=true:=hu;simpa only[uniq,um,uy]using this
  have hl:w.heap[D]?=some (.deferred (some [])):=(hH.zH.res j _ ht1).2;have h1:=hH.zdO (.deferred none) ht1;have hnj: ∀i,i∈(vD ds).ids->j≠i:=λi J e=>by subst e;rw[zcf J]at U;cases U.1
  refine⟨ue,.inl ⟨D,_,rfl,run_takeDeferred hl,zat ds h1 ?_ U.2 λst' w' e1 e2 e3 hH'=>h st' w' e1 e2 (λi J=>?_) hH'⟩⟩
  ·have: ∀l:RL,(∀i∈l.ids,j≠i)->okT l st->okT l ⟨st.n,st.sl,(j,some (.raw D (.deferred none)))::st.tab⟩:=λl=>by
    induction l with
    |nil=>exact λ_ _=>trivial
    |cons x xs ih=>
     obtain⟨k,s⟩:=x;intro h1 h2;refine⟨?_,ih (λi J=>h1 i (by simp[RL.ids,J])) h2.2⟩;show tg ((j,_)::st.tab) k=_;rw[zy,ur (h1 k (by simp[RL.ids]))];exact h2.1
   exact this _ hnj ht.2
  ·have J: ¬i∈j::(vD ds).ids:=J;simp only[uI,oX]at J;rw[e3 i J.2];show tg ((j,_)::st.tab) i=_;rw[zy,ur (λe=>J.1 e.symm)]
theorem zig{st st':St}(J:st'.sl=st.sl)(hb: ∀i vs,tg st.tab i=some (.box vs)->tg st'.tab i=some (.box vs)): ∀ {rv:List ResultVar} {ss:List S},rvsOf T st rv=some ss->rvsOf T st' rv=some ss
 | [],_,h=>h
 |r::rv,ss,h=>by
  have one: ∀ {s:S},rvOf T st r=some s->rvOf T st' r=some s:=λ{s} h=>by
   cases r with
   |tmp t=>simp only[rvOf,J]at h ⊢; exact h
   |cell a t=>
    simp only[rvOf,J]at h⊢;split at h
    ·rename_i id j e;split at h
     ·rename_i vs sh U e2;rw[hb id vs U,e2];exact h
     ·cases h
    ·cases h
  simp only[rvsOf]at h⊢;split at h
  ·rename_i s ss' U e2;rw[one U,zig J hb e2];exact h
  ·cases h
def zp8{f:FuncId}{args:List S}(hf:P.funcs[f]?=some fn)(hname:(fn.name== "runtime.NumGoroutine")=false)(hb:fn.body=some c)(hrv:fn.results=rv.toArray)
 (hlow:allB (λi=>Nat.blt i 80) R.ids=true) (hn:Nat.ble args.length fn.ntmps=true)
 (h:zvY T fn rv R res R' (flatC c) (enum 0 args) R []):zf P f args R res R':=by
 refine⟨⟨fn,hf,hname,by rw[hb];rfl⟩,λM ρ w xs hx hT hI hG=>?_⟩
 have hlow':allB (λi=>Nat.blt i 100) R.ids=true:=by
  have: ∀l:List Nat,allB (λi=>Nat.blt i 80) l=true->allB (λi=>Nat.blt i 100) l=true:=λl=>by
   induction l with
   |nil=>exact λ_=>rfl
   |cons x xs ih=>
    intro h;simp only[allB,um,tI]at h⊢;exact⟨ua,ih h.2⟩
  exact this _ hlow
 obtain⟨C,hC,e1,e2,e3,e4,e5,U⟩:=vA hlow' hn hx hT hI hG;refine(callsIn_wide (n:=1)).1 (callsIn_of_wp_marks hf hb trivial ?_);refine(wpIn_wide (n:=1)).2 ?_
 have hH0:Holds { C with df:=marks [] } ⟨fn.ntmps,enum 0 args,tb (R++vD [])⟩ M ρ { tmps:=xs.toArray++Array.replicate (fn.ntmps - xs.toArray.size) undef,defers:=[] } w:=by
  have:R++vD []=R:=by simp[vD]
  rw[this];exact⟨rfl,U.sz,U.slots,U.zH,U.ownf,⟨U.run.imm,U.run.fram,U.run.size,U.run.base,U.run.newM,U.run.os,U.run.tape,U.run.output⟩,U.keep⟩
 refine wp_mono (zrM (h C hC e4 M ρ _ w hH0)) λe a w2 ⟨he,ds,st,M2,ρ2,hH2,hq,hu,hdis⟩=>?_;have hd:a.defers=marks ds:=hH2.dfr;obtain⟨_,σ,ss,g1,g2,g3,g4,g5⟩:=hq;have g5':=zou g5
 have hds:okT (vD ds) st:=by
  have: ∀l:List (Nat×Nat),mR σ st.tab (vD l)->allB (λi=>Nat.beq (σ i) i) (vD l).ids=true->okT (vD l) st:=λl=>by
   induction l with
   |nil=>exact λ_ _=>trivial
   |cons x xs ih=>
    intro h1 h2;simp only[vD,uN,RL.ids,allB,um]at h1 h2;refine⟨?_,ih h1.2 h2.2⟩;have:=h1.1;rw[uA h2.1]at this;exact this
  exact this ds (zp7 g3).2 g5'.2
 have key:LeavesInM Fence.wide 1 P fn a.tmps (λe w'=> ∃v M' ρ',e= .returned v/\Ret M ρ w R res R' v M' ρ' w') a.defers .returning w2:=by
  rw[hd];refine zat ds hH2 hds hu λst' w' k1 k2 k3 hH'=>?_
  obtain⟨v,hv,hrep⟩:=wN T hrv hH' (zig T k2 (λi vs e=>by
   rw[k3 i λhm=>?_]
   ·exact e
   ·obtain⟨r,hr⟩:=vZ hm;have h1:=xi hds (zK hr)
    have h2: ∃D,r= .raw D (.deferred (some [])):=by
     have hm:=zK hr;simp only[vD,qe,uz]at hm;obtain⟨x,_,_,e⟩:=hm;exact⟨_,e.symm⟩
    obtain⟨D,rfl⟩:=h2
    rw[h1]at e;cases e) g1)
  have g3':mR σ st'.tab R':=by
   have: ∀l:RL,(∀i∈l.ids,i∈R'.ids)->mR σ st.tab l->mR σ st'.tab l:=λl=>by
    induction l with
    |nil=>exact λ_ _=>trivial
    |cons x xs ih=>
     obtain⟨i,r⟩:=x;intro hl h;refine⟨?_,ih (λi hi=>hl i (by simp[RL.ids,hi])) h.2⟩;rw[k3 _ ?_]
     ·exact h.1
     ·intro hm;have hi:i∈R'.ids:=hl i (by simp[RL.ids])
      have hne:i≠σ i:=λe=>by
       have:=zE hdis i hi;rw[<-e]at hm;rw[zcf hm]at this;cases this
      have hfix:=uA (zE g5'.2 _ hm);exact yB g4 i (σ i) (zcg.2 (.inl hi)) (zcg.2 (.inr hm)) hne hfix.symm
   exact this _ (λ_ h=>h) (zp7 g3).1
  have J:=zhW (C:={ C with df:=marks ds }) e4 hH' (σ:=σ) (g2 _ _ _ hrep) g3' (zot g4) g5'.1;have J:Ret C.M0 C.ρ0 C.w0 R res R' v M2 (λi=>ρ2 (σ i)) w':=J;rw[e1,e2,e3]at J;exact⟨v,hv,v,M2,_,rfl,J⟩
 rcases he with rfl|rfl
 ·exact key
 ·exact key
end
section
variable {k:List Frm} {n:Nat} {sl:zd} {Q:Exit->St->Prop}
def zly(T:Ty P)(hC:C.low){x y:Operand}{t:TypeId}{ty:TypeId}{e:Nat}{rows:List (List PV)}{k0:IntKind}{i:Int}{row:List PV}{el:TypeId}
 (J:ev sl x=some (.one (.p (.sl e rows)))) (U:ev sl y=some (Kk k0 i)) (he:T.es t=some (el,e)) (h0:0<=i) (hi:rows[i.toNat]?=some row) (hd:Nat.blt d n=true)
 (g:zcB P C all rest ⟨n,(d,.one (.pi row 0))::sl,tab⟩ Q):zcB P C all (⟨some d,.indexAddr t x y,ty,ps,af,none⟩::rest) ⟨n,sl,tab⟩ Q:=by
 have e1:=zu (st:=⟨n,sl,tab⟩) J;have e2:=zu (st:=⟨n,sl,tab⟩) U;exact zp6 (L:=⟨some d,rq x (.one (.p (.sl e rows)))++rq y (Kk k0 i),[],[],.one (.pi row 0),[]⟩) hC (yL.plain rfl (zaU e1.1 e2.1 (T.es_ok _ _ he) h0 hi)) rfl ⟨by rw[za];simp_all,trivial,rfl,hd⟩ g
def zgO{K:Type}[DecidableEq K]{kt:TypeId}(κ:zdr P kt K){x y u:Operand}{t et ty:TypeId}{id:Nat}{l l':List (K×EV)}{k0:K}{pv:EV}
 (w:Wk P all n sl0 tab0 done (⟨none,.mapUpdate t x y u,ty,ps,af,none⟩::rest) sl tab)
 (J:ev sl x=some (.one (.mp id))) (U:ev sl y=some (κ.s k0)) (hw:ev sl u=some (evS pv)) (hT:tg tab id=some (.mpg (yn κ l))) (hu:P.underlying t=some (.map kt et)) (hv:putG l k0 pv=l'):
 Wk P all n sl0 tab0 (⟨none,rq x (.one (.mp id))++rq y (κ.s k0)++rq u (evS pv),[(id,.mpg (yn κ l))],[],.un,[(id,some (.mpg (yn κ l')))]⟩::done) rest sl ((id,some (.mpg (yn κ l')))::tab):=by
 subst hv;have e1:=zu (st:=⟨n,sl,tab⟩) J;have e2:=zu (st:=⟨n,sl,tab⟩) U;have e3:=zu (st:=⟨n,sl,tab⟩) hw
 exact zp5 (L:=⟨none,rq x (.one (.mp id))++rq y (κ.s k0)++rq u (evS pv),[(id,.mpg (yn κ l))],[],.un,[(id,some (.mpg (yn κ (putG l k0 pv))))]⟩) (yL.plain rfl (za1 e1.1 e2.1 e3.1 hu)) rfl
  ⟨by rw[za,za];simp_all,⟨hT,uh⟩,rfl,rfl⟩ w
end
theorem zrN{σ:Nat->Nat}{st:St}: ∀ {t:Tab},(∀i r,(i,some r)∈t->tg st.tab (σ i)=some (r.ren σ))->mT σ st t
 | [],_=>trivial
 |(i,none)::t,h=>zrN (t:=t) λi r J=>h i r (u3 _ J)
 |(i,some r)::t,h=>⟨h i r ue,zrN (t:=t) λi r J=>h i r (u3 _ J)⟩
variable {r:Res}
theorem zrO(h:(i,some r)∈tb R):(i,r)∈R:=by
 induction R with
 |nil=>cases h
 |cons x xs ih=>
  obtain⟨j,s⟩:=x;rcases uI.1 h with h|h
  ·simp_all
  simp_all
theorem zp9(h:R.ren id=R)(J:(i,r)∈R):r.ren id=r:=by
 induction R with
 |nil=>cases J
 |cons x xs ih=>
  obtain⟨j,s⟩:=x;simp only[RL.ren,qC,uz]at h
  grind
def zaV{n:Nat}{sl:zd}(U:uniq R.ids=true)(hr:R.ren id=R):mT id ⟨n,sl,tb R⟩ (tb R):=
 zrN λi r J=>by
  have J:=zrO J;rw[zp9 hr J];exact vk U J
def zgP(U:uniq R.ids=true)(hr:R.ren id=R):mR id (tb R) R:=by
 have: ∀l:RL,(∀i r,(i,r)∈l->tg (tb R) i=some (r.ren id))->mR id (tb R) l:=λl=>by
  induction l with
  |nil=>exact λ_=>trivial
  |cons x xs ih=>
   obtain⟨j,s⟩:=x;exact λh=>⟨h j s ue,ih λi r J=>h i r (u3 _ J)⟩
 exact this R λi r J=>by rw[zp9 hr J];exact vk U J
end Hw
namespace Hw.Gm
open Go Go.Proofs Hw.M Ps
def zgQ{s:S}:LeS s .un:=λ_ _ _ _=>by simp only[RepS]
theorem zau: ∀l:List Nat,allB (λi=>Nat.beq (id i) i) l=true
 | []=>rfl
 |i::l=>by
  have h:=zau l;simp only[allB,h,qh];simp_all
variable {slr:zd}
def zov{ts:List z7}{asg body:Code}{p0 p1 n:Nat}{ids:List Nat}(Rf:Nat->RL)(hp0:p0<n)(hp1:p1<n)(hp:p0≠p1)(J: ∀i,(Rf i).ids=ids)
 (hcl: ∀k s,(k,s)∈slr->cloS ids s=true) (hlow:allB (λi=>Nat.blt i 90) ids=true) (hu:uniq ids=true) (U: ∀i,(Rf i).ren id=Rf i) (hclo: ∀i,xH ((90::ids)++(90::ids)) (Rf i)=true)
 (hl:ts.length<=1099511627776)
 (hrd: ∀(i:Nat) (t:z7),ts[i]?=some t->zup Tryz.prog n asg body ((p1,zr (zW t))::(p0,I i)::slr) (Rf (i+1)) (Rf i)):
 zc6 Tryz.prog 159 [.bx 91 0] asg body p0 p1 n slr (.box [.p (.sl 2 (ts.map zW))]) (Rf ts.length) (Rf 0):=by
 have hm: ∀x,x∈ids->x<90:=λx hx=>by simpa [tI]using zE hlow x hx
 have h91: ∀i,91∉(Rf i).ids:=λi h=>by rw[J]at h;have:=hm _ h;omega
 have h90: ∀i,90∉(Rf i).ids:=λi h=>by rw[J]at h;have:=hm _ h;omega
 refine zrL T (Tryz.func159) ud rfl rfl (by simp_all) rfl (by grind) λlp rec r1 r2 r3 r4 r5 r6 C hC hgh=>?_;subst r5;subst r6
 have huF: ∀i,uniq (RL.ids ((91,Res.box [.p (.sl 2 (ts.map zW))])::(90,.raw lp (.loop rec))::Rf i))=true:=λi=>by
  simp only[RL.ids,uniq,um,uy];refine⟨?_,?_,by rw[J];exact hu⟩
  ·cases e:hasB 91 (90::(Rf i).ids)with
   |false=>rfl
   |true=>rcases uI.1 (z1 e)with h|h
          ·omega
          ·exact absurd h (h91 i)
  ·cases e:hasB 90 (Rf i).ids with
   |false=>rfl
   |true=>exact absurd (z1 e) (h90 i)
 have hrF: ∀i,RL.ren id ((91,Res.box [.p (.sl 2 (ts.map zW))])::(90,.raw lp (.loop rec))::Rf i)=(91,Res.box [.p (.sl 2 (ts.map zW))])::(90,.raw lp (.loop rec))::Rf i:=λi=>by
  show(91,_)::(90,_)::RL.ren id (Rf i)=_;rw[U];rfl
 repeat' first|refine gG ?_|refine gB ?_ ?_<;>intro h
 rw[uk,wrap64 ua]
 refine zn (λj:Nat=>j<=ts.length) (λj=>([(0,.one (.p (.k (.func (.yield lp) #[] #[])))),(1,.one (.bx 91 0)),(3,I ((j:Int) - 1))],tb ((91,Res.box [.p (.sl 2 (ts.map zW))])::(90,.raw lp (.loop rec))::Rf j))) (λj=>j) hC
  ts.length (uJ _) id ⟨rfl,⟨rfl,rfl,rfl,uh⟩,zaV (huF _) (hrF _),wj _,λ_ _=>rfl⟩ ?_
 intro j hj;refine zm T hC true 200 rfl ?_;refine zp rfl ?_ ?_<;>intro h
 ·have hge:(0:Int)<=(j:Int) - 1:=uj h;clear h;obtain⟨i,rfl⟩: ∃i,j=i+1:=⟨j - 1,ua⟩;obtain⟨t,ht⟩:=zb (show i<ts.length by omega);have e1:((i+1:Nat):Int) - 1=(i:Int):=by omega
  rw[e1];refine zny T hC true 4 rfl rfl ?_;refine zrK ?_;refine yM T hC rfl ?_;refine yM T hC rfl ?_;refine yM T hC rfl ?_;refine yM T hC rfl ?_;refine zly T hC (rows:=ts.map zW) rfl rfl rfl (uD _) (zq ht) rfl ?_;refine yM T hC rfl ?_;refine zdP (R:=Rf (i+1)) (R':=Rf i) hC (hrd i t ht) r1 r2 r3 r4 hp0 hp1 hp (λM ρ a w hH=>hgh _ M ρ a w hH) rfl rfl rfl (by rw[J,J]) (h91 _) (h90 _) (by simp_all) (U _) (U _) (by simp_all) rfl ?_;refine yM T hC rfl ?_;refine zlt ?_
  repeat' first|refine gG ?_|refine gB ?_ ?_<;>intro h
  rw[wrap64 ua];exact zh i ua id ua ⟨rfl,⟨rfl,rfl,rfl,uh⟩,zaV (huF i) (hrF i),wj _,λ_ _=>rfl⟩
 ·have hge: ¬(0:Int)<=(j:Int) - 1:=uo h;have:j=0:=by omega
  subst this
  repeat' first|refine gG ?_|refine gB ?_ ?_<;>intro h|refine ze ?_
  exact zi ⟨.inr rfl,id,_,rfl,zgQ,zgP (huF _) (hrF _),wj _,zau _⟩
def zow{ts:List Pr}{asg body:Code}{p0 p1 n:Nat}{ids:List Nat}(Rf:Nat->RL)(hp0:p0<n)(hp1:p1<n)(hp:p0≠p1)(J: ∀i,(Rf i).ids=ids)
 (hcl: ∀k s,(k,s)∈slr->cloS ids s=true) (hlow:allB (λi=>Nat.blt i 90) ids=true) (hu:uniq ids=true) (U: ∀i,(Rf i).ren id=Rf i) (hclo: ∀i,xH ((90::ids)++(90::ids)) (Rf i)=true)
 (hl:ts.length<=1099511627776)
 (hrd: ∀(i:Nat) (t:Pr),ts[i]?=some t->zup Tryz.prog n asg body ((p1,zr (zJ t))::(p0,I i)::slr) (Rf (i+1)) (Rf i)):
 zc6 Tryz.prog 160 [.bx 91 0] asg body p0 p1 n slr (.box [.p (.sl 5 (ts.map zJ))]) (Rf ts.length) (Rf 0):=by
 have hm: ∀x,x∈ids->x<90:=λx hx=>by simpa [tI]using zE hlow x hx
 have h91: ∀i,91∉(Rf i).ids:=λi h=>by rw[J]at h;have:=hm _ h;omega
 have h90: ∀i,90∉(Rf i).ids:=λi h=>by rw[J]at h;have:=hm _ h;omega
 refine zrL T (Tryz.func160) ud rfl rfl (by simp_all) rfl (by grind) λlp rec r1 r2 r3 r4 r5 r6 C hC hgh=>?_;subst r5;subst r6
 have huF: ∀i,uniq (RL.ids ((91,Res.box [.p (.sl 5 (ts.map zJ))])::(90,.raw lp (.loop rec))::Rf i))=true:=λi=>by
  simp only[RL.ids,uniq,um,uy];refine⟨?_,?_,by rw[J];exact hu⟩
  ·cases e:hasB 91 (90::(Rf i).ids)with
   |false=>rfl
   |true=>rcases uI.1 (z1 e)with h|h
          ·omega
          ·exact absurd h (h91 i)
  ·cases e:hasB 90 (Rf i).ids with
   |false=>rfl
   |true=>exact absurd (z1 e) (h90 i)
 have hrF: ∀i,RL.ren id ((91,Res.box [.p (.sl 5 (ts.map zJ))])::(90,.raw lp (.loop rec))::Rf i)=(91,Res.box [.p (.sl 5 (ts.map zJ))])::(90,.raw lp (.loop rec))::Rf i:=λi=>by
  show(91,_)::(90,_)::RL.ren id (Rf i)=_;rw[U];rfl
 repeat' first|refine gG ?_|refine gB ?_ ?_<;>intro h
 rw[uk,wrap64 ua]
 refine zn (λj:Nat=>j<=ts.length) (λj=>([(0,.one (.p (.k (.func (.yield lp) #[] #[])))),(1,.one (.bx 91 0)),(3,I ((j:Int) - 1))],tb ((91,Res.box [.p (.sl 5 (ts.map zJ))])::(90,.raw lp (.loop rec))::Rf j))) (λj=>j) hC
  ts.length (uJ _) id ⟨rfl,⟨rfl,rfl,rfl,uh⟩,zaV (huF _) (hrF _),wj _,λ_ _=>rfl⟩ ?_
 intro j hj;refine zm T hC true 200 rfl ?_;refine zp rfl ?_ ?_<;>intro h
 ·have hge:(0:Int)<=(j:Int) - 1:=uj h;clear h;obtain⟨i,rfl⟩: ∃i,j=i+1:=⟨j - 1,ua⟩;obtain⟨t,ht⟩:=zb (show i<ts.length by omega);have e1:((i+1:Nat):Int) - 1=(i:Int):=by omega
  rw[e1];refine zny T hC true 4 rfl rfl ?_;refine zrK ?_;refine yM T hC rfl ?_;refine yM T hC rfl ?_;refine yM T hC rfl ?_;refine yM T hC rfl ?_;refine zly T hC (rows:=ts.map zJ) rfl rfl rfl (uD _) (zq ht) rfl ?_;refine yM T hC rfl ?_;refine zdP (R:=Rf (i+1)) (R':=Rf i) hC (hrd i t ht) r1 r2 r3 r4 hp0 hp1 hp (λM ρ a w hH=>hgh _ M ρ a w hH) rfl rfl rfl (by rw[J,J]) (h91 _) (h90 _) (by simp_all) (U _) (U _) (by simp_all) rfl ?_;refine yM T hC rfl ?_;refine zlt ?_
  repeat' first|refine gG ?_|refine gB ?_ ?_<;>intro h
  rw[wrap64 ua];exact zh i ua id ua ⟨rfl,⟨rfl,rfl,rfl,uh⟩,zaV (huF i) (hrF i),wj _,λ_ _=>rfl⟩
 ·have hge: ¬(0:Int)<=(j:Int) - 1:=uo h;have:j=0:=by omega
  subst this
  repeat' first|refine gG ?_|refine gB ?_ ?_<;>intro h|refine ze ?_
  exact zi ⟨.inr rfl,id,_,rfl,zgQ,zgP (huF _) (hrF _),wj _,zau _⟩
def zox{ts:List Fld}{asg body:Code}{p0 p1 n:Nat}{ids:List Nat}(Rf:Nat->RL)(hp0:p0<n)(hp1:p1<n)(hp:p0≠p1)(J: ∀i,(Rf i).ids=ids)
 (hcl: ∀k s,(k,s)∈slr->cloS ids s=true) (hlow:allB (λi=>Nat.blt i 90) ids=true) (hu:uniq ids=true) (U: ∀i,(Rf i).ren id=Rf i) (hclo: ∀i,xH ((90::ids)++(90::ids)) (Rf i)=true)
 (hl:ts.length<=1099511627776)
 (hrd: ∀(i:Nat) (t:Fld),ts[i]?=some t->zup Tryz.prog n asg body ((p1,zr (zG t))::(p0,I i)::slr) (Rf (i+1)) (Rf i)):
 zc6 Tryz.prog 261 [.bx 91 0] asg body p0 p1 n slr (.box [.p (.sl 2 (ts.map zG))]) (Rf ts.length) (Rf 0):=by
 have hm: ∀x,x∈ids->x<90:=λx hx=>by simpa [tI]using zE hlow x hx
 have h91: ∀i,91∉(Rf i).ids:=λi h=>by rw[J]at h;have:=hm _ h;omega
 have h90: ∀i,90∉(Rf i).ids:=λi h=>by rw[J]at h;have:=hm _ h;omega
 refine zrL T (Tryz.func261) ud rfl rfl (by simp_all) rfl (by grind) λlp rec r1 r2 r3 r4 r5 r6 C hC hgh=>?_;subst r5;subst r6
 have huF: ∀i,uniq (RL.ids ((91,Res.box [.p (.sl 2 (ts.map zG))])::(90,.raw lp (.loop rec))::Rf i))=true:=λi=>by
  simp only[RL.ids,uniq,um,uy];refine⟨?_,?_,by rw[J];exact hu⟩
  ·cases e:hasB 91 (90::(Rf i).ids)with
   |false=>rfl
   |true=>rcases uI.1 (z1 e)with h|h
          ·omega
          ·exact absurd h (h91 i)
  ·cases e:hasB 90 (Rf i).ids with
   |false=>rfl
   |true=>exact absurd (z1 e) (h90 i)
 have hrF: ∀i,RL.ren id ((91,Res.box [.p (.sl 2 (ts.map zG))])::(90,.raw lp (.loop rec))::Rf i)=(91,Res.box [.p (.sl 2 (ts.map zG))])::(90,.raw lp (.loop rec))::Rf i:=λi=>by
  show(91,_)::(90,_)::RL.ren id (Rf i)=_;rw[U];rfl
 repeat' first|refine gG ?_|refine gB ?_ ?_<;>intro h
 rw[uk,wrap64 ua]
 refine zn (λj:Nat=>j<=ts.length) (λj=>([(0,.one (.p (.k (.func (.yield lp) #[] #[])))),(1,.one (.bx 91 0)),(3,I ((j:Int) - 1))],tb ((91,Res.box [.p (.sl 2 (ts.map zG))])::(90,.raw lp (.loop rec))::Rf j))) (λj=>j) hC
  ts.length (uJ _) id ⟨rfl,⟨rfl,rfl,rfl,uh⟩,zaV (huF _) (hrF _),wj _,λ_ _=>rfl⟩ ?_
 intro j hj;refine zm T hC true 200 rfl ?_;refine zp rfl ?_ ?_<;>intro h
 ·have hge:(0:Int)<=(j:Int) - 1:=uj h;clear h;obtain⟨i,rfl⟩: ∃i,j=i+1:=⟨j - 1,ua⟩;obtain⟨t,ht⟩:=zb (show i<ts.length by omega);have e1:((i+1:Nat):Int) - 1=(i:Int):=by omega
  rw[e1];refine zny T hC true 4 rfl rfl ?_;refine zrK ?_;refine yM T hC rfl ?_;refine yM T hC rfl ?_;refine yM T hC rfl ?_;refine yM T hC rfl ?_;refine zly T hC (rows:=ts.map zG) rfl rfl rfl (uD _) (zq ht) rfl ?_;refine yM T hC rfl ?_;refine zdP (R:=Rf (i+1)) (R':=Rf i) hC (hrd i t ht) r1 r2 r3 r4 hp0 hp1 hp (λM ρ a w hH=>hgh _ M ρ a w hH) rfl rfl rfl (by rw[J,J]) (h91 _) (h90 _) (by simp_all) (U _) (U _) (by simp_all) rfl ?_;refine yM T hC rfl ?_;refine zlt ?_
  repeat' first|refine gG ?_|refine gB ?_ ?_<;>intro h
  rw[wrap64 ua];exact zh i ua id ua ⟨rfl,⟨rfl,rfl,rfl,uh⟩,zaV (huF i) (hrF i),wj _,λ_ _=>rfl⟩
 ·have hge: ¬(0:Int)<=(j:Int) - 1:=uo h;have:j=0:=by omega
  subst this
  repeat' first|refine gG ?_|refine gB ?_ ?_<;>intro h|refine ze ?_
  exact zi ⟨.inr rfl,id,_,rfl,zgQ,zgP (huF _) (hrF _),wj _,zau _⟩
noncomputable abbrev kS:zdr Tryz.prog 9 ByteArray:=zxK ud
def bkM{α:Type}(key:α->Str)(val:α->EV):List α->List (Str×EV)
 | []=>[]
 |x::r=>putG (bkM key val r) (key x) (val x)
theorem zch{α:Type}{key:α->Str}{val:α->EV}(s:Str): ∀l:List α,getG (bkM key val l) s=(l.find? λx=>decide (key x=s)).map val
 | []=>rfl
 |x::r=>by
  rw[bkM,ju,qT];by_cases h:key x=s
  ·simp_all
  ·rw[ur h,uF h];exact zch s r
variable {i:Nat}{α:Type}{key:α->Str}
def zdQ{val:α->EV}{l:List α}{x:α}(h:l[i]?=some x):bkM key val (l.drop i)=putG (bkM key val (l.drop (i+1))) (key x) (val x):=by
 obtain⟨J,rfl⟩:=ux.1 h;rw[qi J];rfl
abbrev tyM(l:List z7):List (Str×EV):=bkM (·.n) (λt=> .g (zW t)) l
abbrev prM(l:List Pr):List (Str×EV):=bkM (·.n) (λp=> .g (zJ p)) l
noncomputable abbrev mpS(l:List (Str×EV)):Res:= .mpg (yn kS l)
noncomputable def ckR(d:zg)(a b c:Nat):RL:=[(a,.box ((zA d).map V.p++[.mp b,.mp c])),(b,mpS (tyM d.types)),(c,mpS (prM d.procs))]
def zur(l:List z7):zf Tryz.prog 118 [pS (.sl 2 (l.map zW))] [] (.one (.cl 159 [] [.bx 0 0])) [(0,.box [.p (.sl 2 (l.map zW))])]:=by
 refine gO T Tryz.func118 λC hC=>?_
 repeat' first|refine gG ?_|refine gB ?_ ?_<;>intro h|refine ze ?_
 exact gW [1001]
def zus(l:List Pr):zf Tryz.prog 119 [pS (.sl 5 (l.map zJ))] [] (.one (.cl 160 [] [.bx 0 0])) [(0,.box [.p (.sl 5 (l.map zJ))])]:=by
 refine gO T Tryz.func119 λC hC=>?_
 repeat' first|refine gG ?_|refine gB ?_ ?_<;>intro h|refine ze ?_
 exact gW [1001]
def zut(l:List Fld):zf Tryz.prog 235 [pS (zC l)] [] (.one (.cl 261 [] [.bx 0 0])) [(0,.box [.p (zC l)])]:=by
 refine gO T Tryz.func235 λC hC=>?_
 repeat' first|refine gG ?_|refine gB ?_ ?_<;>intro h|refine ze ?_
 exact gW [1001]
noncomputable def ncR(d:zg)(l:List (Str×EV))(l2:List (Str×EV)):RL:=[(3,.box [.bx 12 0]),(12,.box ((zA d).map V.p++[.mp 9,.mp 10])),(9,mpS l),(10,mpS l2),(1,.box ((zA d).map V.p))]
def zxw{J:S}{r:zd}: ∀k s,sg [(3,J)] k=some s->sg ((3,J)::r) k=some s:=λk s h=>by
 have h:=za9 h;simp only[tv,uz]at h;rw[h.1,h.2];rfl
def vF(d:zg)(h1:d.types.length<=1099511627776)(h2:d.procs.length<=1099511627776):
 zf Tryz.prog 81 [zr (zA d)] [] (.one (.bx 0 0)) (ckR d 0 1 2):=by
 have U:=zur d.types;have hB2:=zus d.procs;refine zp8 T (rv:=[.tmp 2]) (Tryz.func81) ud rfl rfl rfl rfl ?_
 refine zlx T (m:=3) (p0:=16) (p1:=17) (j:=80) (tm:=15) (slr:=[(3,.one (.bx 3 0))]) (sl1:=[(3,.one (.bx 3 0)),(1,.one (.bx 1 0)),(15,.one (.cl 159 [] [.bx 91 0]))]) (R2:=ncR d [] []) (R2':=ncR d (tyM d.types) []) (Rx:=[]) (bx:= .box [.p (.sl 2 (d.types.map zW))]) rfl
  (λC hC=>?_) ?_ rfl ?_ rfl rfl rfl rfl rfl rfl rfl rfl rfl rfl rfl rfl rfl λD1=>?_
 ·repeat' first|refine gG ?_|refine gB ?_ ?_<;>intro h|(refine zdu kS hC rfl rfl rfl ?_)|refine gR U (nm [191]) ?_
  exact zi ⟨rfl,rfl,mvL [(3,1003),(12,1012),(9,1009),(10,1010),(1,1001),(91,191)],⟨rfl,rfl,rfl,uh⟩,⟨rfl,rfl,rfl,rfl,rfl,rfl,uh⟩,rfl,rfl⟩
 ·have J:=zov (ts:=d.types) (asg:=?_) (body:=?_) (p0:=16) (p1:=17) (n:=Tryz.f81.ntmps) (slr:=[(3,.one (.bx 3 0))]) (ids:=[3,12,9,10,1]) (λi=>ncR d (bkM (·.n) (λt=> .g (zW t)) (d.types.drop i)) []) ub ub ub (λ_=>rfl)
   (by intro k s h;simp only[tv,uz]at h;rw[h.2];rfl) rfl rfl (λ_=>rfl) (λ_=>rfl) h1 ?_
  ·simp only[qH,oq]at J;exact J
  ·intro i t ht;rw[zdQ ht]
   refine zrJ T rfl rfl rfl λlp o o'=>⟨_,_,_,_,_,_,yf T (yf T zc3 rfl) rfl,rfl,rfl,
    zgO (et:=129) (pv:= .g (zW t)) kS (yf T (yf T (yf T (yf T (yf T (yf T (yf T zc3 rfl) rfl) rfl) rfl) rfl) rfl) rfl) rfl rfl rfl rfl ud rfl,rfl,rfl,?_,rfl⟩
   exact⟨rfl,rfl,rfl,rfl,rfl,uh⟩
 ·exact zxw
 ·refine zlx T (m:=1) (p0:=28) (p1:=29) (j:=81) (tm:=27) (slr:=[(3,.one (.bx 3 0))]) (sl1:=[(3,.one (.bx 3 0)),(27,.one (.cl 160 [] [.bx 91 0]))]) (R2:=ncR d (tyM d.types) []) (R2':=ncR d (tyM d.types) (prM d.procs)) (Rx:=[]) (bx:= .box [.p (.sl 5 (d.procs.map zJ))]) rfl
   (λC hC=>?_) ?_ rfl ?_ rfl rfl rfl rfl rfl rfl rfl rfl rfl rfl rfl rfl rfl λD2=>?_
  ·repeat' first|refine gG ?_|refine gB ?_ ?_<;>intro h|refine gR hB2 (nm [191]) ?_
   exact zi ⟨rfl,rfl,mvL [(91,191)],⟨rfl,rfl,uh⟩,⟨rfl,rfl,rfl,rfl,rfl,rfl,rfl,uh⟩,rfl,rfl⟩
  ·have J:=zow (ts:=d.procs) (asg:=?_) (body:=?_) (p0:=28) (p1:=29) (n:=Tryz.f81.ntmps) (slr:=[(3,.one (.bx 3 0))]) (ids:=[3,12,9,10,1]) (λi=>ncR d (tyM d.types) (bkM (·.n) (λp=> .g (zJ p)) (d.procs.drop i))) ub ub ub (λ_=>rfl)
    (by intro k s h;simp only[tv,uz]at h;rw[h.2];rfl) rfl rfl (λ_=>rfl) (λ_=>rfl) h2 ?_
   ·simp only[qH,oq]at J;exact J
   ·intro i t ht;rw[zdQ ht]
    refine zrJ T rfl rfl rfl λlp o o'=>⟨_,_,_,_,_,_,yf T (yf T zc3 rfl) rfl,rfl,rfl,
     zgO (et:=90) (pv:= .g (zJ t)) kS (yf T (yf T (yf T (yf T (yf T (yf T (yf T zc3 rfl) rfl) rfl) rfl) rfl) rfl) rfl) rfl rfl rfl rfl ud rfl,rfl,rfl,?_,rfl⟩
    exact⟨rfl,rfl,rfl,rfl,rfl,uh⟩
  ·exact zxw
  ·refine zlw T rfl rfl λC hC=>?_
   repeat' first|refine gG ?_|refine gB ?_ ?_<;>intro h|refine ze ?_
   exact zi ⟨.inl rfl,mvL [(0,12),(1,9),(2,10)],_,rfl,.refl _,⟨rfl,rfl,rfl,rfl,rfl,uh⟩,rfl,rfl⟩
def zuu:Value:= .agg #[.string (⟨#[]⟩:UB),.slice none 0 0]
def zNT:List PV:=[ks (⟨#[]⟩:UB),.k (.slice none 0 0)]
def zlz(d:zg)(s:Str):getG (tyM d.types) s=(zgJ d s).map λt=> .g (zW t):=zch s d.types
def zdR(d:zg)(s:Str):getG (prM d.procs) s=(zeu d s).map λt=> .g (zJ t):=zch s d.procs
def zih: ∀M,RepEV M (.g zNT) zuu:=λM=>⟨[.string (⟨#[]⟩:UB),.slice none 0 0],rfl,by simp only[zNT,RepPVl,RepPV];exact⟨⟨uh,rfl⟩,⟨uh,rfl⟩,uh⟩⟩
theorem jV(d:zg)(s:Str):zf Tryz.prog 133 [.one (.bx 0 0),Sr s] (ckR d 0 1 2) (.bq (yK d s)) (ckR d 0 1 2):=by
 refine gO T Tryz.func133 λC hC=>?_;have J:=zlz d s;cases ht:zgJ d s with
 |none=>
  rw[ht]at J;rw[show yK d s=false by simp[yK,ht]]
  repeat' first|refine gG ?_|refine gB ?_ ?_<;>intro h|(refine yz (et:=129) kS hC (c0:=zuu) (.g zNT) (pv:= .g zNT) (b:=false) rfl rfl rfl ud ud zih (by rw[J];rfl) (by rw[J];rfl) rfl rfl ?_)|refine ze ?_
  exact gE
 |some t=>
  rw[ht]at J;rw[show yK d s=true by simp[yK,ht]]
  repeat' first|refine gG ?_|refine gB ?_ ?_<;>intro h|(refine yz (et:=129) kS hC (c0:=zuu) (.g zNT) (pv:= .g (zW t)) (b:=true) rfl rfl rfl ud ud zih (by rw[J];rfl) (by rw[J];rfl) rfl rfl ?_)|refine ze ?_
  exact gE
def zdS(d:zg)(s:Str):zf Tryz.prog 166 [.one (.bx 0 0),Sr s] (ckR d 0 1 2) (.bq (yQ d s)) (ckR d 0 1 2):=by
 have J:=jV d s;refine gO T Tryz.func166 λC hC=>?_
 repeat' first|refine gG ?_|refine gB ?_ ?_<;>intro h|refine gR J (nm [0,1,2]) ?_|refine ze ?_
 all_goals first|(rw[show yQ d s=true by simp only[yQ, *,qR,qO,tw,q9,tn,tJ]];first|exact gE|exact zi ⟨.inl rfl,id,_,rfl,LeS.qb rfl,⟨rfl,rfl,rfl,uh⟩,rfl,rfl⟩)|(rw[show yQ d s=yK d s by simp only[yQ, *,qR,qO,tw,q9,tn,tJ]];first|exact gE|exact zi ⟨.inl rfl,id,_,rfl,LeS.qb rfl,⟨rfl,rfl,rfl,uh⟩,rfl,rfl⟩)
def wD(d:zg)(a b:Str):zf Tryz.prog 237 [.one (.bx 0 0),Sr a,Sr b] (ckR d 0 1 2) (.bq (yw d a b)) (ckR d 0 1 2):=by
 have J:=jV d b;refine gO T Tryz.func237 λC hC=>?_
 repeat' first|refine gG ?_|refine gB ?_ ?_<;>intro h|refine gR J (nm [0,1,2]) ?_|refine ze ?_
 all_goals first|(rw[show yw d a b=true by simp only[yw, *,qR,qO,tw,q9,tn,tJ]];first|exact gE|exact zi ⟨.inl rfl,id,_,rfl,LeS.qb rfl,⟨rfl,rfl,rfl,uh⟩,rfl,rfl⟩)|(rw[show yw d a b=false by simp only[yw, *,qR,qO,tw,q9,tn,tJ]];first|exact gE|exact zi ⟨.inl rfl,id,_,rfl,LeS.qb rfl,⟨rfl,rfl,rfl,uh⟩,rfl,rfl⟩)|(rw[show yw d a b=yK d b by simp only[yw, *,qR,qO,tw,q9,tn,tJ]];first|exact gE|exact zi ⟨.inl rfl,id,_,rfl,LeS.qb rfl,⟨rfl,rfl,rfl,uh⟩,rfl,rfl⟩)
theorem zfi(d:zg)(t s:Str)(hl: ∀x∈d.types,x.f.length<=1099511627776):zf Tryz.prog 241 [.one (.bx 0 0),Sr t,Sr s] (ckR d 0 1 2) (.tup [Sr (fieldT d t s).1,I (fieldT d t s).2]) (ckR d 0 1 2):=by
 refine gO T Tryz.func241 λC hC=>?_;have U:=zlz d t;cases ht:zgJ d t with
 |none=>
  rw[ht]at U;rw[show fieldT d t s=((⟨#[]⟩:UB),11) by simp[fieldT,ht]]
  repeat' first|refine gG ?_|exact gD|refine gB ?_ ?_<;>intro h|(refine yz (et:=129) kS hC (c0:=zuu) (.g zNT) (pv:= .g zNT) (b:=false) rfl rfl rfl ud ud zih (by rw[U];rfl) (by rw[U];rfl) rfl rfl ?_)|refine ze ?_
  exact gE
 |some x=>
  rw[ht]at U;have hx:x∈d.types:=qB ht;have hxl:=hl x hx
  repeat' first|refine gG ?_|exact gD|refine gB ?_ ?_<;>intro h|(refine yz (et:=129) kS hC (c0:=zuu) (.g zNT) (pv:= .g (zW x)) (b:=true) rfl rfl rfl ud ud zih (by rw[U];rfl) (by rw[U];rfl) rfl rfl ?_)
  rw[uk]
  refine zn (λi:Nat=>i<=x.f.length/\(x.f.take i).find? (λf=>decide (f.n=s))=none) (λi=>([(2,Sr s),(24,pS (zC x.f)),(25,I x.f.length),(26,I i)],tb (ckR d 0 1 2))) (λi=>x.f.length - i) hC
   0 ⟨uE _,rfl⟩ id gM ?_
  intro i ⟨hi,hn⟩;refine zm T hC true 200 rfl ?_;refine zp rfl ?_ ?_<;>intro h
  ·have J:i<x.f.length:=by simpa using h
   clear h;obtain⟨y,hy⟩:=zb J
   repeat' first|refine gG ?_|refine gB ?_ ?_<;>intro h|refine gX ?_
   ·rename_i h;have h:=uj h
    rw[show fieldT d t s=(y.t,0) by
     have hf:x.f.find? (λf=>decide (f.n=s))=some y:=by
      rw[<-tH i x.f,qW,hn,qi J];have:x.f[i]=y:=by rw[th J]at hy;exact uY hy
      rw[this,qT,uT h];rfl
     simp only[fieldT,ht,look,hf,uH]]
    exact gE
   ·rename_i h;have h:=uo h;rw[wrap64 ua];exact zh (i+1) ⟨ua,by rw[yc hy,qW,hn];simp[h]⟩ id ua gM
  ·have hge: ¬i<x.f.length:=by simpa using h
   rw[uQ ua]at hn;rw[show fieldT d t s=((⟨#[]⟩:UB),9) by simp only[fieldT,ht,look,hn,tV]]
   repeat' first|refine gG ?_|refine gB ?_ ?_<;>intro h|refine ze ?_
   exact gE
theorem zlA{α:Type}(p:α->Bool): ∀l:List α,(anyR (λ(x:α) (_:Unit)=>p x) (λ_ s=>s) l ()).1=l.any p
 | []=>rfl
 |x::l=>by
  simp only[anyR,qn];cases p x with
  |true=>rfl
  |false=>simp[zlA p l]
def zuv(key:α->Str){l:List α}{y:α}(h:l[i]?=some y):((l.take i).any λx=>decide (key x=key y))=twB (l.map key) i:=by
 unfold twB lsA;rw[<-qo,List.any_map,uK,h];rfl
inductive TwK:{α:Type}->(α->List PV)->Nat->(α->Str)->FuncId->FuncId->FuncId->FuncId->FuncId->Prop
 |ty:TwK zW 2 z7.n 162 215 115 72 161
 |fd:TwK zG 2 Fld.n 165 217 97 59 164
 |pr:TwK zJ 5 Pr.n 168 218 56 112 167
 |ms:TwK yI 7 Ms.n 171 221 200 220 170
 |iv:TwK zpJ 6 Iv.n 173 223 257 222 172
 |bd:TwK wm 5 Bd.p 175 224 83 156 174
abbrev twR(a w:Nat)(rows:List (List PV))(ix:Nat):RL:=[(0,.box [.cl a [] []]),(1,.box [.p (.sl w rows)]),(2,.box [.p (ki ix)])]
section
variable {row:α->List PV} {w:Nat} {a b c d e:FuncId}
abbrev twT{f:FuncId}{lx:List α}{ix:Nat}{l:List α}{p:α->Bool}(hf: ∀x∈l,zf Tryz.prog f [zr (row x),.one (.bx 0 0),.one (.bx 1 0),.one (.bx 2 0)] (twR a w (lx.map row) ix) (.bq (p x)) (twR a w (lx.map row) ix))(i:Nat):zd×Tab:=
 ([(0,pS (.sl w (l.map row))),(1,.one (.cl f [] [.bx 0 0,.bx 1 0,.bx 2 0])),(7,I l.length),(8,I i)],[(0,some (.box [.cl a [] []])),(1,some (.box [.p (.sl w (lx.map row))])),(2,some (.box [.p (ki ix)]))])
variable (hk:TwK row w key a b c d e)
include hk
def zlB(x:α):zf Tryz.prog a [zr (row x)] [] (Sr (key x)) []:=by
 cases hk;refine gO T Tryz.func162 λC hC=>?_
 rotate_left
 refine gO T Tryz.func165 λC hC=>?_
 rotate_left
 refine gO T Tryz.func168 λC hC=>?_
 rotate_left
 refine gO T Tryz.func171 λC hC=>?_
 rotate_left
 refine gO T Tryz.func173 λC hC=>?_
 rotate_left
 refine gO T Tryz.func175 λC hC=>?_
 rotate_left
 all_goals
  repeat' first|refine gG ?_|refine gB ?_ ?_<;>intro h|refine ze ?_
  exact gF
def zuw(lx:List α)(ix:Nat)(y x:α)(J:lx[ix]?=some y):zf Tryz.prog b [zr (row x),.one (.bx 0 0),.one (.bx 1 0),.one (.bx 2 0)] (twR a w (lx.map row) ix) (.bq (decide (key x=key y))) (twR a w (lx.map row) ix):=by
 have U:=zlB hk x;have h2:=zlB hk y;cases hk;refine gO T Tryz.func215 λC hC=>?_
 rotate_left
 refine gO T Tryz.func217 λC hC=>?_
 rotate_left
 refine gO T Tryz.func218 λC hC=>?_
 rotate_left
 refine gO T Tryz.func221 λC hC=>?_
 rotate_left
 refine gO T Tryz.func223 λC hC=>?_
 rotate_left
 refine gO T Tryz.func224 λC hC=>?_
 rotate_left
 all_goals
  repeat' first|refine gG ?_|refine gB ?_ ?_<;>intro h|refine gC U ?_|refine gC h2 ?_|(refine gI T (zq J) ?_)|refine ze ?_
  exact gE
def zux(f:FuncId)(lx:List α)(ix:Nat)(l:List α)(p:α->Bool)(hf: ∀x∈l,zf Tryz.prog f [zr (row x),.one (.bx 0 0),.one (.bx 1 0),.one (.bx 2 0)] (twR a w (lx.map row) ix) (.bq (p x)) (twR a w (lx.map row) ix)):
 zf Tryz.prog c [pS (.sl w (l.map row)),.one (.cl f [] [.bx 0 0,.bx 1 0,.bx 2 0])] (twR a w (lx.map row) ix) (I (ixB p l 0)) (twR a w (lx.map row) ix):=by
 cases hk;refine gO T Tryz.func115 λC hC=>?_
 rotate_left
 refine gO T Tryz.func97 λC hC=>?_
 rotate_left
 refine gO T Tryz.func56 λC hC=>?_
 rotate_left
 refine gO T Tryz.func200 λC hC=>?_
 rotate_left
 refine gO T Tryz.func257 λC hC=>?_
 rotate_left
 refine gO T Tryz.func83 λC hC=>?_
 rotate_left
 all_goals
  refine wi 0 rfl λhl=>?_;rw[uk]at hl
  repeat' first|refine gG ?_|refine gB ?_ ?_<;>intro h
  rw[uk];refine zn (λi:Nat=>i<=l.length/\ixB p (l.drop i) i=ixB p l 0) (twT hf) (λi=>l.length - i) hC 0 ⟨uE _,rfl⟩ id gM ?_;generalize ixB p l 0=res;rintro i ⟨hi,J⟩;change Goal _ _ _ _ _ [_,_,_,_] [_,_,_] _;refine zm T hC true 200 rfl ?_;refine zp rfl ?_ ?_<;>intro U
  ·have hlt:i<l.length:=by simpa using U
   clear U;obtain⟨x,hx⟩:=zb hlt;rw[drop_at hx]at J;simp only[ixB]at J
   repeat' first|refine gG ?_|refine gB ?_ ?_<;>intro h|(refine gI T (zq hx) ?_)|refine gR (hf x (uv hx)) id ?_|refine zl ?_
   ·rw[uw uf]at J;subst J;exact gE
   ·have hpf:p x=false:=by assumption
    rw[hpf]at J;simp only[uB,uM]at J;rw[wrap64 ua];exact zh (i+1) ⟨ua,J⟩ id ua gM
  ·have hge: ¬i<l.length:=by simpa using U
   rw[uC ua]at J;simp only[ixB]at J;subst J
   repeat' first|refine gG ?_|refine gB ?_ ?_<;>intro h|refine ze ?_
   exact gE
def zuy(lx:List α)(ix:Nat)(y:α)(J:lx[ix]?=some y)(l:List α):
 zf Tryz.prog d [pS (.sl w (l.map row)),.one (.cl b [] [.bx 0 0,.bx 1 0,.bx 2 0])] (twR a w (lx.map row) ix) (.bq (l.any λx=>decide (key x=key y))) (twR a w (lx.map row) ix):=by
 have U:=zux hk b lx ix l _ (λx _=>zuw hk lx ix y x J);cases hk;refine gO T Tryz.func72 λC hC=>?_
 rotate_left
 refine gO T Tryz.func59 λC hC=>?_
 rotate_left
 refine gO T Tryz.func112 λC hC=>?_
 rotate_left
 refine gO T Tryz.func220 λC hC=>?_
 rotate_left
 refine gO T Tryz.func222 λC hC=>?_
 rotate_left
 refine gO T Tryz.func156 λC hC=>?_
 rotate_left
 all_goals
  repeat' first|refine gG ?_|refine gB ?_ ?_<;>intro h|refine gR U (nm [0,1,2]) ?_
  exact zi ⟨.inl rfl,id,_,rfl,.qq (zgl _ l 0),⟨rfl,rfl,rfl,uh⟩,rfl,rfl⟩
def zjq(l:List α)(i:Nat)(hi:i<l.length):zf Tryz.prog e [pS (.sl w (l.map row)),I i,.one (.cl a [] [])] [] (.bq (twB (l.map key) i)) []:=by
 obtain⟨y,U⟩:=zb hi;have J:=zuy hk l i y U (l.take i);rw[zuv key U]at J;cases hk;refine gO T Tryz.func161 λC hC=>?_
 rotate_left
 refine gO T Tryz.func164 λC hC=>?_
 rotate_left
 refine gO T Tryz.func167 λC hC=>?_
 rotate_left
 refine gO T Tryz.func170 λC hC=>?_
 rotate_left
 refine gO T Tryz.func172 λC hC=>?_
 rotate_left
 refine gO T Tryz.func174 λC hC=>?_
 rotate_left
 all_goals
  repeat' first|refine gG ?_|refine gB ?_ ?_<;>intro h|refine gR J (nm [1005,1003,1004]) ?_|(refine jM T hC ((l.take i).map _) rfl rfl rfl (uD _) (by rw[uk];omega) (by rw[<-qo];rfl) rfl rfl ?_)|refine ze ?_
  exact gF
end
def zrP(l:List z7)(i:Nat)(J:i<l.length):zf Tryz.prog 161 [pS (.sl 2 (l.map zW)),I i,.one (.cl 162 [] [])] [] (.bq (twB (l.map (·.n)) i)) []:=zjq .ty l i J
def zrQ(l:List Fld)(i:Nat)(J:i<l.length):zf Tryz.prog 164 [pS (.sl 2 (l.map zG)),I i,.one (.cl 165 [] [])] [] (.bq (twB (l.map (·.n)) i)) []:=zjq .fd l i J
def zrR(l:List Pr)(i:Nat)(J:i<l.length):zf Tryz.prog 167 [pS (.sl 5 (l.map zJ)),I i,.one (.cl 168 [] [])] [] (.bq (twB (l.map (·.n)) i)) []:=zjq .pr l i J
def zrS(l:List Ms)(i:Nat)(J:i<l.length):zf Tryz.prog 170 [pS (.sl 7 (l.map yI)),I i,.one (.cl 171 [] [])] [] (.bq (twB (l.map (·.n)) i)) []:=zjq .ms l i J
def zrT(l:List Iv)(i:Nat)(J:i<l.length):zf Tryz.prog 172 [pS (.sl 6 (l.map zpJ)),I i,.one (.cl 173 [] [])] [] (.bq (twB (l.map (·.n)) i)) []:=zjq .iv l i J
def zrU(l:List Bd)(i:Nat)(J:i<l.length):zf Tryz.prog 174 [pS (.sl 5 (l.map wm)),I i,.one (.cl 175 [] [])] [] (.bq (twB (l.map (·.p)) i)) []:=zjq .bd l i J
def zrV(g x:Fld):zf Tryz.prog 216 [zr (zG x),.one (.bx 0 0)] [(0,.box ((zG g).map V.p))] (.bq (decide (x.n=g.n))) [(0,.box ((zG g).map V.p))]:=by
 refine gO T Tryz.func216 λC hC=>?_
 repeat' first|refine gG ?_|refine gB ?_ ?_<;>intro h|refine ze ?_
 exact gE
def zoy(f:FuncId)(gx:Fld)(l:List Fld)(p:Fld->Unit->Bool)(nx:Fld->Unit->Unit)(inv:Unit->Prop)
 (hf: ∀x∈l,∀s:Unit,inv s->zf Tryz.prog f [zr (zG x),.one (.bx 0 0)] [(0,.box ((zG gx).map V.p))] (.bq (p x s)) ((λs:Unit=>[(0,.box ((zG gx).map V.p))]) (nx x s))/\(p x s=false->inv (nx x s))) (s:Unit) (hs:inv s):
 zf Tryz.prog 97 [pS (.sl 2 (l.map zG)),.one (.cl f [] [.bx 0 0])] [(0,.box ((zG gx).map V.p))] (I (idxR p nx l 0 s).1) ((λs:Unit=>[(0,.box ((zG gx).map V.p))]) (idxR p nx l 0 s).2):=by
 refine gO T Tryz.func97 λC hC=>?_;have hs0:=hs;refine wi 0 rfl λhl=>?_;rw[uk]at hl
 repeat' first|refine gG ?_|refine gB ?_ ?_<;>intro h
 rw[uk]
 refine zn (λq:Nat×Unit=>q.1<=l.length/\inv q.2/\idxR p nx (l.drop q.1) q.1 q.2=idxR p nx l 0 s) (λq=>(λs:Unit=>([(0,pS (.sl 2 (l.map zG))),(1,.one (.cl f [] [.bx 0 0])),(7,I l.length),(8,I q.1)],[(0,some (.box ((zG gx).map V.p)))])) q.2) (λq=>l.length - q.1) hC
  (0,s) ⟨uE _,hs,rfl⟩ id gM ?_
 generalize idxR p nx l 0 s=res;clear hs hs0;rintro⟨i,s⟩ ⟨hi,hv,J⟩;simp only at hi hv J;refine zm T hC true 200 rfl ?_;refine zp rfl ?_ ?_<;>intro hh
 ·have hlt:i<l.length:=by simpa using hh
  clear hh;obtain⟨x,hx⟩:=zb hlt;rw[drop_at hx]at J;simp only[idxR]at J;have hv2:=(hf x (uv hx) s hv).2
  repeat' first|refine gG ?_|refine gB ?_ ?_<;>intro h|refine gI T (zq hx) ?_|refine yh hC (hf x (uv hx) s hv).1 id rfl rfl (zI.refl _) rfl rfl rfl rfl rfl rfl rfl rfl ?_|refine zl ?_
  ·rw[uw uf]at J;subst J;exact gE
  ·have U:p x s=false:=by assumption
   rw[U]at J;simp only[uB,uM]at J;rw[wrap64 ua];exact zh (i+1,nx x s) ⟨ua,hv2 U,J⟩ id ua gM
 ·have hge: ¬i<l.length:=by simpa using hh
  rw[uC ua]at J;simp only[idxR]at J;subst J
  repeat' first|refine gG ?_|refine gB ?_ ?_<;>intro h|refine ze ?_
  exact gE
def zoz(f:FuncId)(gx:Fld)(l:List Fld)(p:Fld->Unit->Bool)(nx:Fld->Unit->Unit)(inv:Unit->Prop)
 (hf: ∀x∈l,∀s:Unit,inv s->zf Tryz.prog f [zr (zG x),.one (.bx 0 0)] [(0,.box ((zG gx).map V.p))] (.bq (p x s)) ((λs:Unit=>[(0,.box ((zG gx).map V.p))]) (nx x s))/\(p x s=false->inv (nx x s))) (s:Unit) (J:inv s):
 zf Tryz.prog 59 [pS (.sl 2 (l.map zG)),.one (.cl f [] [.bx 0 0])] [(0,.box ((zG gx).map V.p))] (.bq (anyR p nx l s).1) ((λs:Unit=>[(0,.box ((zG gx).map V.p))]) (anyR p nx l s).2):=by
 refine gO T Tryz.func59 λC hC=>?_
 repeat' first|refine gG ?_|refine gB ?_ ?_<;>intro h|refine gR (zoy f gx l p nx inv hf s J) (nm [0]) ?_
 exact zi ⟨.inl rfl,id,_,rfl,.qq (za4 p nx l 0 s),by rw[<-za5 p nx l 0 s];exact⟨rfl,uh⟩,rfl,rfl⟩
def zfj(d:zg)(l:List Fld)(hl:l.length<=1099511627776):zf Tryz.prog 163 [.one (.bx 0 0),pS (zC l)] (ckR d 0 1 2) (I (zaS d l)) (ckR d 0 1 2):=by
 refine gO T Tryz.func163 λC hC=>?_
 repeat' first|refine gG ?_|refine gB ?_ ?_<;>intro h
 rw[uk]
 refine zn (λi:Nat=>i<=l.length/\fieldsE d (l.map (·.n)) (l.drop i) i=zaS d l) (λi=>([(0,.one (.bx 0 0)),(1,pS (zC l)),(7,pS (zC l)),(8,I l.length),(9,I i)],tb (ckR d 0 1 2))) (λi=>l.length - i) hC
  0 ⟨uE _,rfl⟩ id gM ?_
 intro i ⟨hi,J⟩;refine zm T hC true 200 rfl ?_;refine zp rfl ?_ ?_<;>intro h
 ·have hlt:i<l.length:=by simpa using h
  clear h;obtain⟨y,hy⟩:=zb hlt;rw[drop_at hy]at J;simp only[fieldsE]at J;have hK:=zdS d y.t;have U:=zoz 216 y (l.take i) (λx _=>decide (x.n=y.n)) (λ_ s=>s) (λ_=>True) (λx _ _ _=>⟨zrV y x,λ_=>trivial⟩) () trivial;rw[zlA (λ(x:Fld)=>decide (x.n=y.n)) (l.take i),zuv (λ(x:Fld)=>x.n) hy]at U;cases hw:twB (l.map (·.n)) i with
  |true=>
   rw[hw]at J U;rw[uw rfl]at J;rw[<-J]
   repeat' first|refine gG ?_|exact gD|refine gB ?_ ?_<;>intro h|refine gX ?_|refine gR U (nm [1006]) ?_|(refine jM T hC ((l.take i).map zG) rfl rfl rfl (uD _) (by rw[uk];omega) (by rw[<-qo];rfl) rfl rfl ?_)|refine zl ?_
   exact gE
  |false=>
   rw[hw]at J U;rw[ur ue]at J
   repeat' first|refine gG ?_|exact gD|refine gB ?_ ?_<;>intro h|refine gX ?_|refine gR U (nm [1006]) ?_|refine gR hK (nm [0,1,2]) ?_|(refine jM T hC ((l.take i).map zG) rfl rfl rfl (uD _) (by rw[uk];omega) (by rw[<-qo];rfl) rfl rfl ?_)|refine zl ?_
   ·rename_i h;have h:yQ d y.t=false:=by simpa using h
    rw[uw h]at J;rw[<-J];exact gE
   ·rename_i h;have h:yQ d y.t=true:=by simpa using h
    rw[ur (by rw[h];simp)]at J;rw[wrap64 ua];exact zh (i+1) ⟨ua,J⟩ id ua gM
 ·have hge: ¬i<l.length:=by simpa using h
  rw[uC ua]at J;simp only[fieldsE]at J;rw[<-J]
  repeat' first|refine gG ?_|refine gB ?_ ?_<;>intro h|refine ze ?_
  exact gE
def wq(V:List (Str×EV))(vs:List Fld):Prop:= ∀s,getG V s=(look vs s).map λt=> .o (ks t)
def zav(q:List (Str×EV)×List (Str×EV))(f:Fld):List (Str×EV)×List (Str×EV):=
 if(getG q.1 f.n).isSome then q else(putG q.1 f.n (.o (.k (.bool true))),putG q.2 f.n (.o (ks f.t)))
abbrev glM(l:List Fld):List (Str×EV):=bkM (·.n) (λf=> .o (ks f.t)) l
def vsM(ls:List (List Fld))(gl:List Fld):List (Str×EV):=(ls.flatten.foldl zav ([],glM gl)).2
def w8(a b:List Fld)(s:Str):look (a++b) s=match look a s with|some t=>some t|none=>look b s:=by
 unfold look
 grind
theorem zgR(gl:List Fld): ∀(l p:List Fld) (q:List (Str×EV)×List (Str×EV)),(∀s,getG q.1 s=(look p s).map λ_=> .o (.k (.bool true)))->wq q.2 (p++gl)->
 (∀s,getG (l.foldl zav q).1 s=(look (p++l) s).map λ_=> .o (.k (.bool true)))/\wq (l.foldl zav q).2 (p++l++gl)
 | [],p,q,h1,h2=>by simp_all
 |f::l,p,q,h1,h2=>by
  have key:(∀s,getG (zav q f).1 s=(look (p++[f]) s).map λ_=> .o (.k (.bool true)))/\wq (zav q f).2 (p++[f]++gl):=by
   have hf: ∀s,look [f] s=if f.n=s then some f.t else none:=λs=>by
    unfold look;rw[qT];by_cases h:f.n=s
    ·rw[uw h,uT h];rfl
    ·rw[ur h,uF h];rfl
   unfold zav;cases hp:look p f.n with
   |some t=>
    have:(getG q.1 f.n).isSome=true:=by rw[h1,hp];rfl
    rw[uw this];refine⟨λs=>?_,λs=>?_⟩
    ·rw[h1,w8];cases hs:look p s with
     |some _=>rfl
     |none=>
      rw[hf,ur (λe=>by rw[e]at hp;rw[hp]at hs;cases hs)]
    ·rw[h2,w8,w8,w8];cases hs:look p s with
     |some _=>rfl
     |none=>
      rw[hf,ur (λe=>by rw[e]at hp;rw[hp]at hs;cases hs)]
   |none=>
    have: ¬(getG q.1 f.n).isSome=true:=by rw[h1,hp];simp
    rw[ur this];refine⟨λs=>?_,λs=>?_⟩
    ·rw[ju,w8];by_cases e:f.n=s
     ·rw[uw e,<-e,hp];simp only[hf,uw];rfl
     ·rw[ur e,h1];cases hs:look p s with
      |some _=>rfl
      |none=>simp only[hf,ur e]
    ·rw[ju,w8,w8];by_cases e:f.n=s
     ·rw[uw e,<-e,hp];simp only[hf,uw];rfl
     ·rw[ur e,h2,w8];cases hs:look p s with
      |some _=>rfl
      |none=>simp only[hf,ur e]
  have:=zgR gl l (p++[f]) (zav q f) key.1 key.2
  simp_all
def zlC(ls:List (List Fld))(gl:List Fld):wq (vsM ls gl) (ls.flatten++gl):=by
 have h:=(zgR gl ls.flatten [] ([],glM gl) (λ_=>rfl) (λs=>by rw[tR,zch];unfold look;cases gl.find? (λf=>decide (f.n=s))<;>rfl)).2;simpa [vsM]using h
end Hw.Gm
