import Derived.Test.YtolghpfockkldaaGreatDoorC5
import Derived.Test.YtolghpfockkldaaGreatDoorE3
import Derived.Test.YtolghpfockkldaaGreatDoorC1
import Derived.Test.YtolghpfockkldaaGreatDoorC3
import Derived.Test.YtolghpfockkldaaGreatDoorC2
import Derived.Test.YtolghpfockkldaaGreatDoorC4
import Derived.DeepKeys3
set_option linter.unusedVariables false
set_option linter.unusedSimpArgs false
set_option linter.unusedSectionVars false
set_option linter.unnecessarySimpa false
namespace Hw.Gm
open Go Go.Proofs Hw.M Ps
def zum:Value:= .agg #[.string (⟨#[]⟩:UH),.slice none 0 0]
def zNT:List PV:=[ks (⟨#[]⟩:UH),.k (.slice none 0 0)]
theorem zlY(d:zj)(s:Str):getG (tyM d.types) s=(ztk d s).map λt=> .g (zS t):=zcy s d.types
theorem zed(d:zj)(s:Str):getG (prM d.procs) s=(zjq d s).map λt=> .g (zZ t):=zcy s d.procs
theorem zit: ∀M,RepEV M (.g zNT) zum:=λM=>⟨[.string (⟨#[]⟩:UH),.slice none 0 0],rfl,by simp only[zNT,RepPVl,RepPV];exact⟨⟨uh,rfl⟩,⟨uh,rfl⟩,uh⟩⟩
theorem zah(d:zj)(s:Str):zh Tryz.prog 133 [.one (.bx 0 0),Sr s] (ckR d 0 1 2) (.bq (xN d s)) (ckR d 0 1 2):=by
 refine gO T Tryz.func133 λC hC=>?_;have J:=zlY d s;cases ht:ztk d s with
 |none=>
  rw[ht]at J;rw[show xN d s=false by simp[xN,ht]]
  repeat' first|refine gG ?_|refine gB ?_ ?_<;>intro h|(refine yH (et:=129) kS hC (c0:=zum) (.g zNT) (pv:= .g zNT) (b:=false) rfl rfl rfl ud ud zit (by rw[J];rfl) (by rw[J];rfl) rfl rfl ?_)|refine ze ?_
  exact gE
 |some t=>
  rw[ht]at J;rw[show xN d s=true by simp[xN,ht]]
  repeat' first|refine gG ?_|refine gB ?_ ?_<;>intro h|(refine yH (et:=129) kS hC (c0:=zum) (.g zNT) (pv:= .g (zS t)) (b:=true) rfl rfl rfl ud ud zit (by rw[J];rfl) (by rw[J];rfl) rfl rfl ?_)|refine ze ?_
  exact gE
theorem zee(d:zj)(s:Str):zh Tryz.prog 166 [.one (.bx 0 0),Sr s] (ckR d 0 1 2) (.bq (wy d s)) (ckR d 0 1 2):=by
 have J:=zah d s;refine gO T Tryz.func166 λC hC=>?_
 repeat' first|refine gG ?_|refine gB ?_ ?_<;>intro h|refine gR J (nm [0,1,2]) ?_|refine ze ?_
 all_goals first|(rw[show wy d s=true by simp only[wy, *,oq,q6,tO,qP,tA,tW]];first|exact gE|exact zi ⟨.inl rfl,id,_,rfl,LeS.qb rfl,⟨rfl,rfl,rfl,uh⟩,rfl,rfl⟩)|(rw[show wy d s=xN d s by simp only[wy, *,oq,q6,tO,qP,tA,tW]];first|exact gE|exact zi ⟨.inl rfl,id,_,rfl,LeS.qb rfl,⟨rfl,rfl,rfl,uh⟩,rfl,rfl⟩)
theorem wN(d:zj)(a b:Str):zh Tryz.prog 237 [.one (.bx 0 0),Sr a,Sr b] (ckR d 0 1 2) (.bq (y4 d a b)) (ckR d 0 1 2):=by
 have J:=zah d b;refine gO T Tryz.func237 λC hC=>?_
 repeat' first|refine gG ?_|refine gB ?_ ?_<;>intro h|refine gR J (nm [0,1,2]) ?_|refine ze ?_
 all_goals first|(rw[show y4 d a b=true by simp only[y4, *,oq,q6,tO,qP,tA,tW]];first|exact gE|exact zi ⟨.inl rfl,id,_,rfl,LeS.qb rfl,⟨rfl,rfl,rfl,uh⟩,rfl,rfl⟩)|(rw[show y4 d a b=false by simp only[y4, *,oq,q6,tO,qP,tA,tW]];first|exact gE|exact zi ⟨.inl rfl,id,_,rfl,LeS.qb rfl,⟨rfl,rfl,rfl,uh⟩,rfl,rfl⟩)|(rw[show y4 d a b=xN d b by simp only[y4, *,oq,q6,tO,qP,tA,tW]];first|exact gE|exact zi ⟨.inl rfl,id,_,rfl,LeS.qb rfl,⟨rfl,rfl,rfl,uh⟩,rfl,rfl⟩)
theorem zfF(d:zj)(t s:Str)(hl: ∀x∈d.types,x.f.length<=1099511627776):zh Tryz.prog 241 [.one (.bx 0 0),Sr t,Sr s] (ckR d 0 1 2) (.tup [Sr (fieldT d t s).1,I (fieldT d t s).2]) (ckR d 0 1 2):=by
 refine gO T Tryz.func241 λC hC=>?_;have U:=zlY d t;cases ht:ztk d t with
 |none=>
  rw[ht]at U;rw[show fieldT d t s=((⟨#[]⟩:UH),11) by simp[fieldT,ht]]
  repeat' first|refine gG ?_|exact gD|refine gB ?_ ?_<;>intro h|(refine yH (et:=129) kS hC (c0:=zum) (.g zNT) (pv:= .g zNT) (b:=false) rfl rfl rfl ud ud zit (by rw[U];rfl) (by rw[U];rfl) rfl rfl ?_)|refine ze ?_
  exact gE
 |some x=>
  rw[ht]at U;have hx:x∈d.types:=qn ht;have hxl:=hl x hx
  repeat' first|refine gG ?_|exact gD|refine gB ?_ ?_<;>intro h|(refine yH (et:=129) kS hC (c0:=zum) (.g zNT) (pv:= .g (zS x)) (b:=true) rfl rfl rfl ud ud zit (by rw[U];rfl) (by rw[U];rfl) rfl rfl ?_)
  rw[uk]
  refine zn (λi:Nat=>i<=x.f.length/\(x.f.take i).find? (λf=>decide (f.n=s))=none) (λi=>([(2,Sr s),(24,pS (zx x.f)),(25,I x.f.length),(26,I i)],tb (ckR d 0 1 2))) (λi=>x.f.length - i) hC
   0 ⟨uz _,rfl⟩ id gM ?_
  intro i ⟨hi,hn⟩;refine zq T hC true 200 rfl ?_;refine zt rfl ?_ ?_<;>intro h
  ·have J:i<x.f.length:=by simpa using h
   clear h;obtain⟨y,hy⟩:=zd J
   repeat' first|refine gG ?_|refine gB ?_ ?_<;>intro h|refine gX ?_
   ·rename_i h;have h:=uj h
    rw[show fieldT d t s=(y.t,0) by
     have hf:x.f.find? (λf=>decide (f.n=s))=some y:=by
      rw[<-qo i x.f,qT,hn,qm J];have:x.f[i]=y:=by rw[ta J]at hy;exact uS hy
      rw[this,qG,uT h];rfl
     simp only[fieldT,ht,look,hf,uO]]
    exact gE
   ·rename_i h;have h:=um h;rw[wrap64 ua];exact zg (i+1) ⟨ua,by rw[yd hy,qT,hn];simp[h]⟩ id ua gM
  ·have hge: ¬i<x.f.length:=by simpa using h
   rw[u5 ua]at hn;rw[show fieldT d t s=((⟨#[]⟩:UH),9) by simp only[fieldT,ht,look,hn,qi]]
   repeat' first|refine gG ?_|refine gB ?_ ?_<;>intro h|refine ze ?_
   exact gE
theorem zlZ{α:Type}(p:α->Bool): ∀l:List α,(anyR (λ(x:α) (_:Unit)=>p x) (λ_ s=>s) l ()).1=l.any p
 | []=>rfl
 |x::l=>by
  simp only[anyR,ql];cases p x with
  |true=>rfl
  |false=>simp[zlZ p l]
variable {α:Type}{i:Nat}
theorem zun(key:α->Str){l:List α}{y:α}(h:l[i]?=some y):((l.take i).any λx=>decide (key x=key y))=twB (l.map key) i:=by
 unfold twB lsA;rw[<-qR,List.any_map,uK,h];rfl
inductive TwK:{α:Type}->(α->List PV)->Nat->(α->Str)->FuncId->FuncId->FuncId->FuncId->FuncId->Prop
 |ty:TwK zS 2 yn.n 162 215 115 72 161
 |fd:TwK zw 2 Fld.n 165 217 97 59 164
 |pr:TwK zZ 5 Pr.n 168 218 56 112 167
 |ms:TwK yq 7 Ms.n 171 221 200 220 170
 |iv:TwK zgH 6 Iv.n 173 223 257 222 172
 |bd:TwK xC 5 Bd.p 175 224 83 156 174
abbrev twR(a w:Nat)(rows:List (List PV))(ix:Nat):RL:=[(0,.box [.cl a [] []]),(1,.box [.p (.sl w rows)]),(2,.box [.p (ki ix)])]
section
variable {row:α->List PV} {w:Nat} {key:α->Str} {a b c d e:FuncId}
abbrev twT{f:FuncId}{lx:List α}{ix:Nat}{l:List α}{p:α->Bool}(hf: ∀x∈l,zh Tryz.prog f [zF (row x),.one (.bx 0 0),.one (.bx 1 0),.one (.bx 2 0)] (twR a w (lx.map row) ix) (.bq (p x)) (twR a w (lx.map row) ix))(i:Nat):zf×Tab:=
 ([(0,pS (.sl w (l.map row))),(1,.one (.cl f [] [.bx 0 0,.bx 1 0,.bx 2 0])),(7,I l.length),(8,I i)],[(0,some (.box [.cl a [] []])),(1,some (.box [.p (.sl w (lx.map row))])),(2,some (.box [.p (ki ix)]))])
variable (hk:TwK row w key a b c d e)
include hk
theorem zl0(x:α):zh Tryz.prog a [zF (row x)] [] (Sr (key x)) []:=by
 cases hk;refine gO T Tryz.func162 λC hC=>?_
 rotate_left
 refine gO T Tryz.func165 λC hC=>?_
 rotate_left
 refine gO T Tryz.func168 λC hC=>?_
 rotate_left
 refine gO T Tryz.func171 λC hC=>?_
 rotate_left
 refine gO T Tryz.func173 λC hC=>?_
 rotate_left
 refine gO T Tryz.func175 λC hC=>?_
 rotate_left
 all_goals
  repeat' first|refine gG ?_|refine gB ?_ ?_<;>intro h|refine ze ?_
  exact gF
theorem zuo(lx:List α)(ix:Nat)(y x:α)(J:lx[ix]?=some y):zh Tryz.prog b [zF (row x),.one (.bx 0 0),.one (.bx 1 0),.one (.bx 2 0)] (twR a w (lx.map row) ix) (.bq (decide (key x=key y))) (twR a w (lx.map row) ix):=by
 have U:=zl0 hk x;have h2:=zl0 hk y;cases hk;refine gO T Tryz.func215 λC hC=>?_
 rotate_left
 refine gO T Tryz.func217 λC hC=>?_
 rotate_left
 refine gO T Tryz.func218 λC hC=>?_
 rotate_left
 refine gO T Tryz.func221 λC hC=>?_
 rotate_left
 refine gO T Tryz.func223 λC hC=>?_
 rotate_left
 refine gO T Tryz.func224 λC hC=>?_
 rotate_left
 all_goals
  repeat' first|refine gG ?_|refine gB ?_ ?_<;>intro h|refine gC U ?_|refine gC h2 ?_|(refine gI T (zl J) ?_)|refine ze ?_
  exact gE
theorem zup(f:FuncId)(lx:List α)(ix:Nat)(l:List α)(p:α->Bool)(hf: ∀x∈l,zh Tryz.prog f [zF (row x),.one (.bx 0 0),.one (.bx 1 0),.one (.bx 2 0)] (twR a w (lx.map row) ix) (.bq (p x)) (twR a w (lx.map row) ix)):
 zh Tryz.prog c [pS (.sl w (l.map row)),.one (.cl f [] [.bx 0 0,.bx 1 0,.bx 2 0])] (twR a w (lx.map row) ix) (I (ixB p l 0)) (twR a w (lx.map row) ix):=by
 cases hk;refine gO T Tryz.func115 λC hC=>?_
 rotate_left
 refine gO T Tryz.func97 λC hC=>?_
 rotate_left
 refine gO T Tryz.func56 λC hC=>?_
 rotate_left
 refine gO T Tryz.func200 λC hC=>?_
 rotate_left
 refine gO T Tryz.func257 λC hC=>?_
 rotate_left
 refine gO T Tryz.func83 λC hC=>?_
 rotate_left
 all_goals
  refine wJ 0 rfl λhl=>?_;rw[uk]at hl
  repeat' first|refine gG ?_|refine gB ?_ ?_<;>intro h
  rw[uk];refine zn (λi:Nat=>i<=l.length/\ixB p (l.drop i) i=ixB p l 0) (twT hf) (λi=>l.length - i) hC 0 ⟨uz _,rfl⟩ id gM ?_;generalize ixB p l 0=res;rintro i ⟨hi,J⟩;change Goal _ _ _ _ _ [_,_,_,_] [_,_,_] _;refine zq T hC true 200 rfl ?_;refine zt rfl ?_ ?_<;>intro U
  ·have hlt:i<l.length:=by simpa using U
   clear U;obtain⟨x,hx⟩:=zd hlt;rw[drop_at hx]at J;simp only[ixB]at J
   repeat' first|refine gG ?_|refine gB ?_ ?_<;>intro h|(refine gI T (zl hx) ?_)|refine gR (hf x (List.mem_of_getElem? hx)) id ?_|refine zo ?_
   ·rw[uv uf]at J;subst J;exact gE
   ·have hpf:p x=false:=by assumption
    rw[hpf]at J;simp only[uy,uL]at J;rw[wrap64 ua];exact zg (i+1) ⟨ua,J⟩ id ua gM
  ·have hge: ¬i<l.length:=by simpa using U
   rw[uA ua]at J;simp only[ixB]at J;subst J
   repeat' first|refine gG ?_|refine gB ?_ ?_<;>intro h|refine ze ?_
   exact gE
theorem zuq(lx:List α)(ix:Nat)(y:α)(J:lx[ix]?=some y)(l:List α):
 zh Tryz.prog d [pS (.sl w (l.map row)),.one (.cl b [] [.bx 0 0,.bx 1 0,.bx 2 0])] (twR a w (lx.map row) ix) (.bq (l.any λx=>decide (key x=key y))) (twR a w (lx.map row) ix):=by
 have U:=zup hk b lx ix l _ (λx _=>zuo hk lx ix y x J);cases hk;refine gO T Tryz.func72 λC hC=>?_
 rotate_left
 refine gO T Tryz.func59 λC hC=>?_
 rotate_left
 refine gO T Tryz.func112 λC hC=>?_
 rotate_left
 refine gO T Tryz.func220 λC hC=>?_
 rotate_left
 refine gO T Tryz.func222 λC hC=>?_
 rotate_left
 refine gO T Tryz.func156 λC hC=>?_
 rotate_left
 all_goals
  repeat' first|refine gG ?_|refine gB ?_ ?_<;>intro h|refine gR U (nm [0,1,2]) ?_
  exact zi ⟨.inl rfl,id,_,rfl,.qq (zkQ _ l 0),⟨rfl,rfl,rfl,uh⟩,rfl,rfl⟩
theorem zjr(l:List α)(i:Nat)(hi:i<l.length):zh Tryz.prog e [pS (.sl w (l.map row)),I i,.one (.cl a [] [])] [] (.bq (twB (l.map key) i)) []:=by
 obtain⟨y,U⟩:=zd hi;have J:=zuq hk l i y U (l.take i);rw[zun key U]at J;cases hk;refine gO T Tryz.func161 λC hC=>?_
 rotate_left
 refine gO T Tryz.func164 λC hC=>?_
 rotate_left
 refine gO T Tryz.func167 λC hC=>?_
 rotate_left
 refine gO T Tryz.func170 λC hC=>?_
 rotate_left
 refine gO T Tryz.func172 λC hC=>?_
 rotate_left
 refine gO T Tryz.func174 λC hC=>?_
 rotate_left
 all_goals
  repeat' first|refine gG ?_|refine gB ?_ ?_<;>intro h|refine gR J (nm [1005,1003,1004]) ?_|(refine zdF T hC ((l.take i).map _) rfl rfl rfl (uE _) (by rw[uk];omega) (by rw[<-qR];rfl) rfl rfl ?_)|refine ze ?_
  exact gF
end
theorem zr2(l:List yn)(i:Nat)(J:i<l.length):zh Tryz.prog 161 [pS (.sl 2 (l.map zS)),I i,.one (.cl 162 [] [])] [] (.bq (twB (l.map (·.n)) i)) []:=zjr .ty l i J
theorem zr3(l:List Fld)(i:Nat)(J:i<l.length):zh Tryz.prog 164 [pS (.sl 2 (l.map zw)),I i,.one (.cl 165 [] [])] [] (.bq (twB (l.map (·.n)) i)) []:=zjr .fd l i J
theorem zr4(l:List Pr)(i:Nat)(J:i<l.length):zh Tryz.prog 167 [pS (.sl 5 (l.map zZ)),I i,.one (.cl 168 [] [])] [] (.bq (twB (l.map (·.n)) i)) []:=zjr .pr l i J
theorem zr5(l:List Ms)(i:Nat)(J:i<l.length):zh Tryz.prog 170 [pS (.sl 7 (l.map yq)),I i,.one (.cl 171 [] [])] [] (.bq (twB (l.map (·.n)) i)) []:=zjr .ms l i J
theorem zr6(l:List Iv)(i:Nat)(J:i<l.length):zh Tryz.prog 172 [pS (.sl 6 (l.map zgH)),I i,.one (.cl 173 [] [])] [] (.bq (twB (l.map (·.n)) i)) []:=zjr .iv l i J
theorem zr7(l:List Bd)(i:Nat)(J:i<l.length):zh Tryz.prog 174 [pS (.sl 5 (l.map xC)),I i,.one (.cl 175 [] [])] [] (.bq (twB (l.map (·.p)) i)) []:=zjr .bd l i J
theorem zr8(g x:Fld):zh Tryz.prog 216 [zF (zw x),.one (.bx 0 0)] [(0,.box ((zw g).map V.p))] (.bq (decide (x.n=g.n))) [(0,.box ((zw g).map V.p))]:=by
 refine gO T Tryz.func216 λC hC=>?_
 repeat' first|refine gG ?_|refine gB ?_ ?_<;>intro h|refine ze ?_
 exact gE
theorem zoW(f:FuncId)(gx:Fld)(l:List Fld)(p:Fld->Unit->Bool)(nx:Fld->Unit->Unit)(inv:Unit->Prop)
 (hf: ∀x∈l,∀s:Unit,inv s->zh Tryz.prog f [zF (zw x),.one (.bx 0 0)] [(0,.box ((zw gx).map V.p))] (.bq (p x s)) ((λs:Unit=>[(0,.box ((zw gx).map V.p))]) (nx x s))/\(p x s=false->inv (nx x s))) (s:Unit) (hs:inv s):
 zh Tryz.prog 97 [pS (.sl 2 (l.map zw)),.one (.cl f [] [.bx 0 0])] [(0,.box ((zw gx).map V.p))] (I (idxR p nx l 0 s).1) ((λs:Unit=>[(0,.box ((zw gx).map V.p))]) (idxR p nx l 0 s).2):=by
 refine gO T Tryz.func97 λC hC=>?_;have hs0:=hs;refine wJ 0 rfl λhl=>?_;rw[uk]at hl
 repeat' first|refine gG ?_|refine gB ?_ ?_<;>intro h
 rw[uk]
 refine zn (λq:Nat×Unit=>q.1<=l.length/\inv q.2/\idxR p nx (l.drop q.1) q.1 q.2=idxR p nx l 0 s) (λq=>(λs:Unit=>([(0,pS (.sl 2 (l.map zw))),(1,.one (.cl f [] [.bx 0 0])),(7,I l.length),(8,I q.1)],[(0,some (.box ((zw gx).map V.p)))])) q.2) (λq=>l.length - q.1) hC
  (0,s) ⟨uz _,hs,rfl⟩ id gM ?_
 generalize idxR p nx l 0 s=res;clear hs hs0;rintro⟨i,s⟩ ⟨hi,hv,J⟩;simp only at hi hv J;refine zq T hC true 200 rfl ?_;refine zt rfl ?_ ?_<;>intro hh
 ·have hlt:i<l.length:=by simpa using hh
  clear hh;obtain⟨x,hx⟩:=zd hlt;rw[drop_at hx]at J;simp only[idxR]at J;have hv2:=(hf x (List.mem_of_getElem? hx) s hv).2
  repeat' first|refine gG ?_|refine gB ?_ ?_<;>intro h|refine gI T (zl hx) ?_|refine zu hC (hf x (List.mem_of_getElem? hx) s hv).1 id rfl rfl (zH.refl _) rfl rfl rfl rfl rfl rfl rfl rfl ?_|refine zo ?_
  ·rw[uv uf]at J;subst J;exact gE
  ·have U:p x s=false:=by assumption
   rw[U]at J;simp only[uy,uL]at J;rw[wrap64 ua];exact zg (i+1,nx x s) ⟨by simp only;omega,hv2 U,J⟩ id (by simp only;omega) gM
 ·have hge: ¬i<l.length:=by simpa using hh
  rw[uA ua]at J;simp only[idxR]at J;subst J
  repeat' first|refine gG ?_|refine gB ?_ ?_<;>intro h|refine ze ?_
  exact gE
theorem zoX(f:FuncId)(gx:Fld)(l:List Fld)(p:Fld->Unit->Bool)(nx:Fld->Unit->Unit)(inv:Unit->Prop)
 (hf: ∀x∈l,∀s:Unit,inv s->zh Tryz.prog f [zF (zw x),.one (.bx 0 0)] [(0,.box ((zw gx).map V.p))] (.bq (p x s)) ((λs:Unit=>[(0,.box ((zw gx).map V.p))]) (nx x s))/\(p x s=false->inv (nx x s))) (s:Unit) (J:inv s):
 zh Tryz.prog 59 [pS (.sl 2 (l.map zw)),.one (.cl f [] [.bx 0 0])] [(0,.box ((zw gx).map V.p))] (.bq (anyR p nx l s).1) ((λs:Unit=>[(0,.box ((zw gx).map V.p))]) (anyR p nx l s).2):=by
 refine gO T Tryz.func59 λC hC=>?_
 repeat' first|refine gG ?_|refine gB ?_ ?_<;>intro h|refine gR (zoW f gx l p nx inv hf s J) (nm [0]) ?_
 exact zi ⟨.inl rfl,id,_,rfl,.qq (zbb p nx l 0 s),by rw[<-zbc p nx l 0 s];exact⟨rfl,uh⟩,rfl,rfl⟩
theorem zfG(d:zj)(l:List Fld)(hl:l.length<=1099511627776):zh Tryz.prog 163 [.one (.bx 0 0),pS (zx l)] (ckR d 0 1 2) (I (za1 d l)) (ckR d 0 1 2):=by
 refine gO T Tryz.func163 λC hC=>?_
 repeat' first|refine gG ?_|refine gB ?_ ?_<;>intro h
 rw[uk]
 refine zn (λi:Nat=>i<=l.length/\fieldsE d (l.map (·.n)) (l.drop i) i=za1 d l) (λi=>([(0,.one (.bx 0 0)),(1,pS (zx l)),(7,pS (zx l)),(8,I l.length),(9,I i)],tb (ckR d 0 1 2))) (λi=>l.length - i) hC
  0 ⟨uz _,rfl⟩ id gM ?_
 intro i ⟨hi,J⟩;refine zq T hC true 200 rfl ?_;refine zt rfl ?_ ?_<;>intro h
 ·have hlt:i<l.length:=by simpa using h
  clear h;obtain⟨y,hy⟩:=zd hlt;rw[drop_at hy]at J;simp only[fieldsE]at J;have hK:=zee d y.t;have U:=zoX 216 y (l.take i) (λx _=>decide (x.n=y.n)) (λ_ s=>s) (λ_=>True) (λx _ _ _=>⟨zr8 y x,λ_=>trivial⟩) () trivial;rw[zlZ (λ(x:Fld)=>decide (x.n=y.n)) (l.take i),zun (λ(x:Fld)=>x.n) hy]at U;cases hw:twB (l.map (·.n)) i with
  |true=>
   rw[hw]at J U;rw[uv rfl]at J;rw[<-J]
   repeat' first|refine gG ?_|exact gD|refine gB ?_ ?_<;>intro h|refine gX ?_|refine gR U (nm [1006]) ?_|(refine zdF T hC ((l.take i).map zw) rfl rfl rfl (uE _) (by rw[uk];omega) (by rw[<-qR];rfl) rfl rfl ?_)|refine zo ?_
   exact gE
  |false=>
   rw[hw]at J U;rw[uu ue]at J
   repeat' first|refine gG ?_|exact gD|refine gB ?_ ?_<;>intro h|refine gX ?_|refine gR U (nm [1006]) ?_|refine gR hK (nm [0,1,2]) ?_|(refine zdF T hC ((l.take i).map zw) rfl rfl rfl (uE _) (by rw[uk];omega) (by rw[<-qR];rfl) rfl rfl ?_)|refine zo ?_
   ·rename_i h;have h:wy d y.t=false:=by simpa using h
    rw[uv h]at J;rw[<-J];exact gE
   ·rename_i h;have h:wy d y.t=true:=by simpa using h
    rw[uu (by rw[h];simp)]at J;rw[wrap64 ua];exact zg (i+1) ⟨ua,J⟩ id ua gM
 ·have hge: ¬i<l.length:=by simpa using h
  rw[uA ua]at J;simp only[fieldsE]at J;rw[<-J]
  repeat' first|refine gG ?_|refine gB ?_ ?_<;>intro h|refine ze ?_
  exact gE
def wz(V:List (Str×EV))(vs:List Fld):Prop:= ∀s,getG V s=(look vs s).map λt=> .o (ks t)
def zaJ(q:List (Str×EV)×List (Str×EV))(f:Fld):List (Str×EV)×List (Str×EV):=
 if(getG q.1 f.n).isSome then q else(putG q.1 f.n (.o (.k (.bool true))),putG q.2 f.n (.o (ks f.t)))
abbrev glM(l:List Fld):List (Str×EV):=bkM (·.n) (λf=> .o (ks f.t)) l
def vsM(ls:List (List Fld))(gl:List Fld):List (Str×EV):=(ls.flatten.foldl zaJ ([],glM gl)).2
theorem vj(a b:List Fld)(s:Str):look (a++b) s=match look a s with|some t=>some t|none=>look b s:=by
 unfold look;rw[qT];cases a.find? (λf=>decide (f.n=s))<;>rfl
theorem zg3(gl:List Fld): ∀(l p:List Fld) (q:List (Str×EV)×List (Str×EV)),(∀s,getG q.1 s=(look p s).map λ_=> .o (.k (.bool true)))->wz q.2 (p++gl)->
 (∀s,getG (l.foldl zaJ q).1 s=(look (p++l) s).map λ_=> .o (.k (.bool true)))/\wz (l.foldl zaJ q).2 (p++l++gl)
 | [],p,q,h1,h2=>by rw[u0];exact⟨h1,h2⟩
 |f::l,p,q,h1,h2=>by
  have key:(∀s,getG (zaJ q f).1 s=(look (p++[f]) s).map λ_=> .o (.k (.bool true)))/\wz (zaJ q f).2 (p++[f]++gl):=by
   have hf: ∀s,look [f] s=if f.n=s then some f.t else none:=λs=>by
    unfold look;rw[qG];by_cases h:f.n=s
    ·rw[uv h,uT h];rfl
    ·rw[uu h,uJ h];rfl
   unfold zaJ;cases hp:look p f.n with
   |some t=>
    have:(getG q.1 f.n).isSome=true:=by rw[h1,hp];rfl
    rw[uv this];refine⟨λs=>?_,λs=>?_⟩
    ·rw[h1,vj];cases hs:look p s with
     |some _=>rfl
     |none=>
      rw[hf,uu (λe=>by rw[e]at hp;rw[hp]at hs;cases hs)]
    ·rw[h2,vj,vj,vj];cases hs:look p s with
     |some _=>rfl
     |none=>
      rw[hf,uu (λe=>by rw[e]at hp;rw[hp]at hs;cases hs)]
   |none=>
    have: ¬(getG q.1 f.n).isSome=true:=by rw[h1,hp];simp
    rw[uu this];refine⟨λs=>?_,λs=>?_⟩
    ·rw[zbG,vj];by_cases e:f.n=s
     ·rw[uv e,<-e,hp];simp only[hf,uv];rfl
     ·rw[uu e,h1];cases hs:look p s with
      |some _=>rfl
      |none=>simp only[hf,uu e]
    ·rw[zbG,vj,vj];by_cases e:f.n=s
     ·rw[uv e,<-e,hp];simp only[hf,uv];rfl
     ·rw[uu e,h2,vj];cases hs:look p s with
      |some _=>rfl
      |none=>simp only[hf,uu e]
  have:=zg3 gl l (p++[f]) (zaJ q f) key.1 key.2;simp only[tq,qA]at this;rw[Ui,tq];exact this
theorem zl1(ls:List (List Fld))(gl:List Fld):wz (vsM ls gl) (ls.flatten++gl):=by
 have h:=(zg3 gl ls.flatten [] ([],glM gl) (λ_=>rfl) (λs=>by rw[qg,zcy];unfold look;cases gl.find? (λf=>decide (f.n=s))<;>rfl)).2;simpa [vsM]using h
abbrev scS(b:Bool)(a m:Nat):S:= .agg [.bx a 0,.mp m,.p (.k (.bool b))]
noncomputable def scR(d:zj)(b:Bool)(l:List (Str×EV)):RL:=[(7,.box [.bx 0 0,.mp 3,.p (.k (.bool b))]),(3,mpS l),(6,.box (zV [.ptr,.map,.bool]))]++ckR d 0 1 2
theorem zwK{J:S}{r:zf}: ∀k s,sg [(7,J)] k=some s->sg ((7,J)::r) k=some s:=λk s h=>by
 have h:=zbh h;simp only[tB,uB]at h;rw[h.1,h.2];rfl
abbrev zfH(ls:List (List Fld)):PV:= .sl 1 (ls.map λl=>[zx l])
def scQ(p gl:List Fld):List (Str×EV)×List (Str×EV):=p.foldl zaJ ([],glM gl)
theorem zr9(p gl:List Fld)(s:Str):getG (scQ p gl).1 s=(look p s).map λ_=> .o (.k (.bool true)):=by
 have h:=(zg3 gl p [] ([],glM gl) (λ_=>rfl) (λs=>by rw[qg,zcy];unfold look;cases gl.find? (λf=>decide (f.n=s))<;>rfl)).1 s;rw[qg]at h;exact h
theorem zoY(p gl:List Fld)(f:Fld):scQ (p++[f]) gl=zaJ (scQ p gl) f:=by unfold scQ;rw[List.foldl_append];rfl
theorem zl2{ls:List (List α)}{l:List α}(h:ls[i]?=some l):(ls.take (i+1)).flatten=(ls.take i).flatten++l:=by
 rw[yd h,qc];simp
theorem zfI(b:Bool): ∀M,RepEV M (.o (.k (.bool b))) (.bool b):=λM=>by simp only[RepEV,RepPV];exact⟨uh,rfl⟩
theorem zef(d:zj)(b:Bool)(ls:List (List Fld))(h1:d.globals.length<=1099511627776)(h2:ls.length<=10)(h3: ∀l∈ls,l.length<=1099511627776):
 zh Tryz.prog 195 [.one (.bx 0 0),Bo b,pS (zfH ls)] (ckR d 0 1 2) (scS b 0 3) (ckR d 0 1 2++[(3,mpS (vsM ls d.globals))]):=by
 have hB:=zul d.globals;refine zqx T (rv:=[.cell 6 247]) (Tryz.func195) ud rfl rfl rfl rfl ?_
 refine zlW T (m:=3) (p0:=25) (p1:=26) (j:=80) (tm:=24) (slr:=[(7,.one (.bx 7 0))]) (sl1:=[(7,.one (.bx 7 0)),(6,.one (.bx 6 0)),(2,pS (zfH ls)),(24,.one (.cl 261 [] [.bx 91 0]))]) (R2:=scR d b []) (R2':=scR d b (glM d.globals)) (Rx:=[]) (bx:= .box [.p (zx d.globals)]) rfl
  (λC hC=>?_) ?_ rfl ?_ rfl rfl rfl rfl rfl rfl rfl rfl rfl rfl rfl rfl rfl λD1=>?_
 ·repeat' first|refine gG ?_|refine gB ?_ ?_<;>intro h|(refine zd7 kS hC rfl rfl rfl ?_)|refine gR hB (nm [191]) ?_
  exact zi ⟨rfl,rfl,mvL [(7,1007),(3,1016),(6,1006),(91,191)],⟨rfl,rfl,rfl,rfl,uh⟩,⟨rfl,rfl,rfl,rfl,rfl,rfl,rfl,uh⟩,rfl,rfl⟩
 ·have h0:=zoV (ts:=d.globals) (asg:=?_) (body:=?_) (p0:=25) (p1:=26) (n:=Tryz.f195.ntmps) (slr:=[(7,.one (.bx 7 0))]) (ids:=[7,3,6,0,1,2]) (λi=>scR d b (bkM (·.n) (λf=> .o (ks f.t)) (d.globals.drop i))) ub ub ub (λ_=>rfl)
   (by intro k s h;simp only[tB,uB]at h;rw[h.2];rfl) rfl rfl (λ_=>rfl) (λ_=>rfl) h1 ?_
  ·simp only[qK,qW]at h0;exact h0
  ·intro i t ht;rw[zec ht]
   refine zrW T rfl rfl rfl λlp o o'=>⟨_,_,_,_,_,_,yo T (yo T zdk rfl) rfl,rfl,rfl,
    zg0 (et:=9) (pv:= .o (ks t.t)) kS (yo T (yo T (yo T (yo T (yo T (yo T zdk rfl) rfl) rfl) rfl) rfl) rfl) rfl rfl rfl rfl ud rfl,rfl,rfl,?_,rfl⟩
   exact⟨rfl,rfl,rfl,rfl,rfl,rfl,uh⟩
 ·exact zwK
 ·refine zlV T rfl rfl λC hC=>?_
  repeat' first|refine gG ?_|refine gB ?_ ?_<;>intro h|(refine zd7 kS hC rfl rfl rfl ?_)
  rw[uk]
  refine zn (λi:Nat=>i<=ls.length) (λi=>([(6,.one (.bx 6 0)),(7,.one (.bx 7 0)),(10,.one (.mp 1033)),(34,pS (zfH ls)),(35,I ls.length),(36,I i)],tb (scR d b (scQ (ls.take i).flatten d.globals).2++[(1033,mpS (scQ (ls.take i).flatten d.globals).1),(80,.raw D1 (.deferred (some [])))]))) (λi=>ls.length - i) hC
   0 (uz _) id gM ?_
  intro i hi;refine zq T hC true 200 rfl ?_;refine zt rfl ?_ ?_<;>intro h
  ·have hlt:i<ls.length:=by simpa using h
   clear h;obtain⟨l,hl⟩:=zd hlt;have hll:=h3 l (List.mem_of_getElem? hl)
   repeat' first|refine gG ?_|refine gB ?_ ?_<;>intro h|refine gX ?_
   rw[uk];generalize hp:(ls.take i).flatten=p
   refine zn (λj:Nat=>j<=l.length) (λj=>([(6,.one (.bx 6 0)),(7,.one (.bx 7 0)),(10,.one (.mp 1033)),(34,pS (zfH ls)),(35,I ls.length),(36,I i),(40,pS (zx l)),(41,I l.length),(42,I j)],tb (scR d b (scQ (p++l.take j) d.globals).2++[(1033,mpS (scQ (p++l.take j) d.globals).1),(80,.raw D1 (.deferred (some [])))]))) (λj=>l.length - j) hC
    0 (uz _) id (by rw[qV,u0];exact gM) ?_
   intro j hj;refine zq T hC true 200 rfl ?_;refine zt rfl ?_ ?_<;>intro h
   ·have hlt2:j<l.length:=by simpa using h
    clear h;obtain⟨f,hf⟩:=zd hlt2;have U:scQ (p++l.take (j+1)) d.globals=zaJ (scQ (p++l.take j) d.globals) f:=by rw[yd hf,<-tq,zoY]
    have J:=zr9 (p++l.take j) d.globals f.n;generalize hq:scQ (p++l.take j) d.globals=q at U J;cases hlk:look (p++l.take j) f.n with
    |some t=>
     rw[hlk]at J;have hq2:zaJ q f=q:=by unfold zaJ;rw[J];rfl
     repeat' first|refine gG ?_|exact gD|refine gB ?_ ?_<;>intro h|refine gX ?_|(refine vQ kS hC (et:=4) (c0:= .bool false) (.o (.k (.bool false))) (pv:= .o (.k (.bool true))) rfl rfl rfl ud ud (zfI false) (by rw[J];rfl) rfl rfl ?_)
     rw[wrap64 ua];exact zg (j+1) ua id ua (by rw[U,hq2];exact gM)
    |none=>
     rw[hlk]at J;have hq2:zaJ q f=(putG q.1 f.n (.o (.k (.bool true))),putG q.2 f.n (.o (ks f.t))):=by unfold zaJ;rw[J];rfl
     repeat' first|refine gG ?_|exact gD|refine gB ?_ ?_<;>intro h|refine gX ?_|(refine vQ kS hC (et:=4) (c0:= .bool false) (.o (.k (.bool false))) (pv:= .o (.k (.bool false))) rfl rfl rfl ud ud (zfI false) (by rw[J];rfl) rfl rfl ?_)|(refine zdi kS hC (et:=9) (pv:= .o (ks f.t)) rfl rfl rfl rfl ud rfl rfl ?_)|(refine zdi kS hC (et:=4) (pv:= .o (.k (.bool true))) rfl rfl rfl rfl ud rfl rfl ?_)
     rw[wrap64 ua];exact zg (j+1) ua id ua (by rw[U,hq2];exact gM)
   ·have hge: ¬j<l.length:=by simpa using h
    rw[u5 (show l.length<=j by omega),<-hp,<-zl2 hl]
    repeat' first|refine gG ?_|refine gB ?_ ?_<;>intro h|refine ze ?_
    rw[wrap64 ua];exact zg (i+1) ua id ua gM
  ·have hge: ¬i<ls.length:=by simpa using h
   rw[u5 (show ls.length<=i by omega)]
   repeat' first|refine gG ?_|refine gB ?_ ?_<;>intro h|refine ze ?_
   exact gE
theorem zl3(d:zj)(p:Pr)(J:d.globals.length<=1099511627776)(h2:p.params.length<=1099511627776)(h3:p.locs.length<=1099511627776):
 zh Tryz.prog 176 [.one (.bx 0 0),zF (zZ p)] (ckR d 0 1 2) (scS true 0 3) (ckR d 0 1 2++[(3,mpS (vsM [p.params,p.locs] d.globals))]):=by
 have U:=zef d true [p.params,p.locs] J ue (by intro l hl;simp only[uI,List.mem_nil_iff,oR]at hl;rcases hl with rfl|rfl<;>assumption);refine gO T Tryz.func176 λC hC=>?_
 repeat' first|refine gG ?_|refine gB ?_ ?_<;>intro h|(refine gH T [[zx p.params],[zx p.locs]] ?_)|refine gR U (nm [0,1,2,103]) ?_|refine ze ?_
 exact gW [0,1,2,103]
theorem zjs(d:zj)(p:Pr)(J:d.globals.length<=1099511627776)(h2:p.params.length<=1099511627776):
 zh Tryz.prog 179 [.one (.bx 0 0),zF (zZ p)] (ckR d 0 1 2) (scS false 0 3) (ckR d 0 1 2++[(3,mpS (vsM [p.params] d.globals))]):=by
 have U:=zef d false [p.params] J ue (by intro l hl;simp only[uI,List.mem_nil_iff,oR]at hl;rcases hl with rfl;assumption);refine gO T Tryz.func179 λC hC=>?_
 repeat' first|refine gG ?_|refine gB ?_ ?_<;>intro h|(refine gH T [[zx p.params]] ?_)|refine gR U (nm [0,1,2,103]) ?_|refine ze ?_
 exact gW [0,1,2,103]
theorem zur{A B:S}:zH [A,B,.one (.p (.k (.slice none 0 0)))] [A,B,pS (zfH [])]:=λM ρ xs h=>by
 match xs,h with
 | [a,b,c],h=>
   simp only[RepSs]at h⊢;refine⟨h.1,h.2.1,?_,uh⟩;have:=h.2.2.1;simp only[RepS]at this⊢;exact LeV.nil 1 _ _ _ this
theorem zaK(d:zj)(t:Str)(h1:d.globals.length<=1099511627776):
 ∃V,wz V (zd9 d t)/\zh Tryz.prog 134 [.one (.bx 0 0),Sr t] (ckR d 0 1 2) (scS false 0 3) (ckR d 0 1 2++[(3,mpS V)]):=by
 have U:=zef d false [] h1 ue ue;refine⟨if t=(⟨#[]⟩:UH)then vsM [] d.globals else putG (vsM [] d.globals) (⟨#[116,104,105,115]⟩:UH) (.o (ks t)),?_,?_⟩
 ·unfold zd9;have hv:=zl1 [] d.globals;rw[oB,qg]at hv;by_cases h:t=(⟨#[]⟩:UH)
  ·rw[uv h,uv h];exact hv
  ·rw[uu h,uu h];intro s;rw[zbG,hv];unfold look;rw[qG];by_cases e:(⟨#[116,104,105,115]⟩:UH)=s
   ·rw[uv e];simp only[uT e];rfl
   ·rw[uu e];simp only[uJ e]
 ·refine gO T Tryz.func134 λC hC=>?_;by_cases J:t=(⟨#[]⟩:UH)
  ·rw[uv J]
   repeat' first|refine gG ?_|(exfalso;simp at h;exact h J)|refine gB ?_ ?_<;>intro h|(refine zu hC U (nm [0,1,2,103]) rfl rfl zur rfl rfl rfl rfl rfl rfl rfl rfl ?_)|refine ze ?_
   exact gW [0,1,2,103]
  ·rw[uu J]
   repeat' first|refine gG ?_|(exfalso;simp at h;exact J h)|refine gB ?_ ?_<;>intro h|(refine zu hC U (nm [0,1,2,103]) rfl rfl zur rfl rfl rfl rfl rfl rfl rfl rfl ?_)|(refine zdi kS hC (et:=9) (pv:= .o (ks t)) rfl rfl rfl rfl ud rfl rfl ?_)|refine ze ?_
   exact gW [0,1,2,103]
theorem zsa(t s:Str):zh Tryz.prog 240 [Sr s,.one (.bx 0 0)] [(0,.box [.p (ks t)])] (.bq (!decide (s=t))) [(0,.box [.p (ks t)])]:=by
 refine gO T Tryz.func240 λC hC=>?_
 repeat' first|refine gG ?_|refine gB ?_ ?_<;>intro h|refine ze ?_
 exact gE
theorem zsb(f:FuncId)(tx:Str)(l:List Str)(p:Str->Unit->Bool)(nx:Str->Unit->Unit)(inv:Unit->Prop)
 (hf: ∀x∈l,∀s:Unit,inv s->zh Tryz.prog f [Sr x,.one (.bx 0 0)] [(0,.box [.p (ks tx)])] (.bq (p x s)) ((λs:Unit=>[(0,.box [.p (ks tx)])]) (nx x s))/\(p x s=false->inv (nx x s))) (s:Unit) (hs:inv s):
 zh Tryz.prog 263 [pS (.sl 1 (l.map zeO)),.one (.cl f [] [.bx 0 0])] [(0,.box [.p (ks tx)])] (I (idxR p nx l 0 s).1) ((λs:Unit=>[(0,.box [.p (ks tx)])]) (idxR p nx l 0 s).2):=by
 refine gO T Tryz.func263 λC hC=>?_;have hs0:=hs;refine wJ 0 rfl λhl=>?_;rw[uk]at hl
 repeat' first|refine gG ?_|refine gB ?_ ?_<;>intro h
 rw[uk]
 refine zn (λq:Nat×Unit=>q.1<=l.length/\inv q.2/\idxR p nx (l.drop q.1) q.1 q.2=idxR p nx l 0 s) (λq=>(λs:Unit=>([(0,pS (.sl 1 (l.map zeO))),(1,.one (.cl f [] [.bx 0 0])),(7,I l.length),(8,I q.1)],[(0,some (.box [.p (ks tx)]))])) q.2) (λq=>l.length - q.1) hC
  (0,s) ⟨uz _,hs,rfl⟩ id gM ?_
 generalize idxR p nx l 0 s=res;clear hs hs0;rintro⟨i,s⟩ ⟨hi,hv,J⟩;simp only at hi hv J;refine zq T hC true 200 rfl ?_;refine zt rfl ?_ ?_<;>intro hh
 ·have hlt:i<l.length:=by simpa using hh
  clear hh;obtain⟨x,hx⟩:=zd hlt;rw[drop_at hx]at J;simp only[idxR]at J;have hv2:=(hf x (List.mem_of_getElem? hx) s hv).2
  repeat' first|refine gG ?_|refine gB ?_ ?_<;>intro h|refine gI T (zl hx) ?_|refine zu hC (hf x (List.mem_of_getElem? hx) s hv).1 id rfl rfl (zH.refl _) rfl rfl rfl rfl rfl rfl rfl rfl ?_|refine zo ?_
  ·rw[uv uf]at J;subst J;exact gE
  ·have U:p x s=false:=by assumption
   rw[U]at J;simp only[uy,uL]at J;rw[wrap64 ua];exact zg (i+1,nx x s) ⟨by simp only;omega,hv2 U,J⟩ id (by simp only;omega) gM
 ·have hge: ¬i<l.length:=by simpa using hh
  rw[uA ua]at J;simp only[idxR]at J;subst J
  repeat' first|refine gG ?_|refine gB ?_ ?_<;>intro h|refine ze ?_
  exact gE
theorem zsc(f:FuncId)(tx:Str)(l:List Str)(p:Str->Unit->Bool)(nx:Str->Unit->Unit)(inv:Unit->Prop)
 (hf: ∀x∈l,∀s:Unit,inv s->zh Tryz.prog f [Sr x,.one (.bx 0 0)] [(0,.box [.p (ks tx)])] (.bq (p x s)) ((λs:Unit=>[(0,.box [.p (ks tx)])]) (nx x s))/\(p x s=false->inv (nx x s))) (s:Unit) (J:inv s):
 zh Tryz.prog 239 [pS (.sl 1 (l.map zeO)),.one (.cl f [] [.bx 0 0])] [(0,.box [.p (ks tx)])] (.bq (anyR p nx l s).1) ((λs:Unit=>[(0,.box [.p (ks tx)])]) (anyR p nx l s).2):=by
 refine gO T Tryz.func239 λC hC=>?_
 repeat' first|refine gG ?_|refine gB ?_ ?_<;>intro h|refine gR (zsb f tx l p nx inv hf s J) (nm [0]) ?_
 exact zi ⟨.inl rfl,id,_,rfl,.qq (zbb p nx l 0 s),by rw[<-zbc p nx l 0 s];exact⟨rfl,uh⟩,rfl,rfl⟩
theorem zl4(l:List Str)(t r:Str):zh Tryz.prog 238 [Sr t,Sr r,.one (.bx 0 0)] [(0,.box [.p (zbq l)])] (.tup [Sr (zj9 l t r).1,I (zj9 l t r).2]) [(0,.box [.p (zbq l)])]:=by
 have J:=zsc 240 t l (λs _=> !decide (s=t)) (λ_ s=>s) (λ_=>True) (λx _ _ _=>⟨zsa t x,λ_=>trivial⟩) () trivial;rw[zlZ (λ(s:Str)=> !decide (s=t)) l]at J;unfold zj9;generalize (l.any λs=> !decide (s=t))=q at J⊢;refine gO T Tryz.func238 λC hC=>?_;cases q
 ·repeat' first|refine gG ?_|exact gD|refine gB ?_ ?_<;>intro h|refine gR J (nm [1003]) ?_|refine ze ?_
  exact gE
 ·repeat' first|refine gG ?_|exact gD|refine gB ?_ ?_<;>intro h|refine gR J (nm [1003]) ?_|refine ze ?_
  exact gE
theorem zqz: ∀M,RepEV M (.o (ks (⟨#[]⟩:UH))) (.string (⟨#[]⟩:UH)):=λM=>by simp only[RepEV,RepPV];exact⟨uh,rfl⟩
def arB(op:Int)(n:Nat):Prop:=(op=5->1<=n)/\(op=14\/op=15->2<=n)/\(op=21->3<=n)
theorem zai{l:List Str}{j:Int}(J:j=i)(h:i<l.length):(l.map zeO)[j.toNat]?=some [ks (lsA l i)]:=by
 subst J;obtain⟨x,U⟩:=zd h;simp[U,lsA,zeO]
noncomputable abbrev scL(d:zj)(V:List (Str×EV)):RL:=ckR d 0 1 2++[(3,mpS V)]
def zus(d:zj)(l:List Str):Str×Int:=bif !y4 d (lsA l 0) (lsA l 1)then(bif !y4 d (lsA l 1) (lsA l 0)then((⟨#[]⟩:UH),11)else((⟨#[98,111,111,108]⟩:UH),0))else((⟨#[98,111,111,108]⟩:UH),0)
def zdp(d:zj)(vs:List Fld)(b:Bool)(op:Int)(s:Str)(l:List Str):Str×Int:=
 bif decide (op=1)then((⟨#[105,110,116]⟩:UH),0)else bif decide (op=2)then((⟨#[98,111,111,108]⟩:UH),0)else bif decide (op=3)then((⟨#[110,105,108]⟩:UH),0)
 else bif decide (op=4)then(bif !(look vs s).isSome then((⟨#[]⟩:UH),9)else((look vs s).getD (⟨#[]⟩:UH),0))
 else bif decide (op=5)then fieldT d (lsA l 0) s
 else bif decide (op=6)then(bif !b then((⟨#[]⟩:UH),13)else bif !xN d s then((⟨#[]⟩:UH),9)else(s,0))
 else bif decide (op=14)then zus d l else bif decide (op=15)then zus d l
 else bif decide (op=16)then zj9 l (⟨#[105,110,116]⟩:UH) (⟨#[98,111,111,108]⟩:UH)else bif decide (op=17)then zj9 l (⟨#[105,110,116]⟩:UH) (⟨#[98,111,111,108]⟩:UH)
 else bif decide (op=18)then zj9 l (⟨#[98,111,111,108]⟩:UH) (⟨#[98,111,111,108]⟩:UH)else bif decide (op=19)then zj9 l (⟨#[98,111,111,108]⟩:UH) (⟨#[98,111,111,108]⟩:UH)else bif decide (op=20)then zj9 l (⟨#[98,111,111,108]⟩:UH) (⟨#[98,111,111,108]⟩:UH)
 else bif decide (op=21)then(bif !decide (lsA l 0=(⟨#[98,111,111,108]⟩:UH))then((⟨#[]⟩:UH),11)else bif y4 d (lsA l 1) (lsA l 2)then(lsA l 2,0)else bif y4 d (lsA l 2) (lsA l 1)then(lsA l 1,0)else((⟨#[]⟩:UH),11))
 else zj9 l (⟨#[105,110,116]⟩:UH) (⟨#[105,110,116]⟩:UH)
theorem zl5(d:zj)(vs:List Fld)(b:Bool)(op:Int)(s:Str)(l:List Str):zcr d vs b op s l=zdp d vs b op s l:=by
 unfold zcr zdp zus;simp only[cond_eq_ite,uq,ux];by_cases h4:op=4
 ·subst h4;cases look vs s<;>simp
 ·simp only[h4,uL];by_cases J:op=14
  ·subst J;cases y4 d (lsA l 0) (lsA l 1)<;>cases y4 d (lsA l 1) (lsA l 0)<;>simp
  ·by_cases U:op=15
   ·subst U;cases y4 d (lsA l 0) (lsA l 1)<;>cases y4 d (lsA l 1) (lsA l 0)<;>simp
   ·simp only[J,U,or_self,uL];by_cases h16:op=16
    ·subst h16;simp
    ·by_cases h17:op=17
     ·subst h17;simp
     ·simp only[h16,h17,or_self,uL];by_cases h18:op=18
      ·subst h18;simp
      ·by_cases h19:op=19
       ·subst h19;simp
       ·by_cases h20:op=20
        ·subst h20;simp
        ·simp only[h18,h19,h20,or_self,uL];by_cases h0:lsA l 0=(⟨#[98,111,111,108]⟩:UH)
         ·simp[h0]
         ·simp[h0]
variable {d:zj}
set_option maxHeartbeats 4000000 in
set_option maxRecDepth 100000 in
theorem zoZ{V:List (Str×EV)}{vs:List Fld}(b:Bool)(e:Ex)(l:List Str)(hV:wz V vs)(ha:arB e.op l.length)(hty: ∀x∈d.types,x.f.length<=1099511627776):
 zh Tryz.prog 197 [scS b 0 3,zF (ye e),pS (zbq l)] (scL d V) (.tup [Sr (zcr d vs b e.op e.s l).1,I (zcr d vs b e.op e.s l).2]) (scL d V):=by
 have hF:=zfF d (lsA l 0) e.s hty;have hN:=zah d e.s;have h01:=wN d (lsA l 0) (lsA l 1);have h10:=wN d (lsA l 1) (lsA l 0);have h12:=wN d (lsA l 1) (lsA l 2);have h21:=wN d (lsA l 2) (lsA l 1);have hib:=zl4 l (⟨#[105,110,116]⟩:UH) (⟨#[98,111,111,108]⟩:UH);have hbb:=zl4 l (⟨#[98,111,111,108]⟩:UH) (⟨#[98,111,111,108]⟩:UH);have hii:=zl4 l (⟨#[105,110,116]⟩:UH) (⟨#[105,110,116]⟩:UH);have hgv:(getG V e.s).getD (.o (ks (⟨#[]⟩:UH)))= .o (ks ((look vs e.s).getD (⟨#[]⟩:UH))):=by rw[hV];cases look vs e.s<;>rfl
 have hgs:(getG V e.s).isSome=(look vs e.s).isSome:=by rw[hV];cases look vs e.s<;>rfl
 obtain⟨a1,a2,a3⟩:=ha;generalize hr:zcr d vs b e.op e.s l=r;refine gO T Tryz.func197 λC hC=>?_
 repeat' first|refine gG ?_|refine gB ?_ ?_<;>intro h|refine gR hF (nm [0,1,2]) ?_|refine gR hN (nm [0,1,2]) ?_|refine gR h01 (nm [0,1,2]) ?_|refine gR h10 (nm [0,1,2]) ?_|refine gR h12 (nm [0,1,2]) ?_|refine gR h21 (nm [0,1,2]) ?_|refine gR hib (nm [1005]) ?_|refine gR hbb (nm [1005]) ?_|refine gR hii (nm [1005]) ?_|(refine yH (et:=9) kS hC (c0:= .string (⟨#[]⟩:UH)) (.o (ks (⟨#[]⟩:UH))) (pv:= .o (ks ((look vs e.s).getD (⟨#[]⟩:UH)))) (b:=(look vs e.s).isSome) rfl rfl rfl ud ud zqz hgv hgs rfl rfl ?_)|(refine xz T hC rfl rfl rfl ub (zai (i:=0) rfl (by simp only[uq]at *; omega)) rfl rfl ?_)|(refine xz T hC rfl rfl rfl ub (zai (i:=1) rfl (by simp only[uq]at *; omega)) rfl rfl ?_)|(refine xz T hC rfl rfl rfl ub (zai (i:=2) rfl (by simp only[uq]at *; omega)) rfl rfl ?_)|refine ze ?_
 all_goals (rw[zl5]at hr)
 all_goals try (simp only[zdp,zus, *,Uq,oZ]at hr;subst hr;exact gE)
 all_goals try (simp[zdp,zus, *]at hr;subst hr;exact gE)
 all_goals try (exfalso;simp only[uq,ur]at *; omega)
 cases b
 ·repeat' first|refine gG ?_|exact gD|refine gB ?_ ?_<;>intro h|refine ze ?_
  simp only[zdp, *,Uq,oZ,qE]at hr;subst hr;exact gE
 ·repeat' first|refine gG ?_|exact gD|refine gB ?_ ?_<;>intro h|refine gR hN (nm [0,1,2]) ?_|refine ze ?_
  all_goals (simp only[zdp, *,Uq,oZ,qp]at hr;subst hr;exact gE)
theorem ziu{α:Type}(p:α->Bool): ∀(l:List α),(match l.findIdx? p with|some i=>(∃x,l[i]?=some x/\l.find? p=some x)|none=>l.find? p=none)
 | []=>rfl
 |x::r=>by
  rw[List.findIdx?_cons,qG];by_cases h:p x=true
  ·rw[uv h,h];exact⟨x,rfl,rfl⟩
  ·rw[uu h];have hf:p x=false:=by simpa using h
   rw[hf];have:=ziu p r;cases e:r.findIdx? p with
   |none=>rw[e]at this;exact this
   |some i=>rw[e]at this;exact this
theorem zut(x:Ms)(s:Str):zh Tryz.prog 262 [zF (yq x),.one (.bx 0 0)] [(0,.box [.p (ks s)])] (.bq (decide (x.n=s))) [(0,.box [.p (ks s)])]:=by
 refine gO T Tryz.func262 λC hC=>?_
 repeat' first|refine gG ?_|refine gB ?_ ?_<;>intro h|refine ze ?_
 exact gE
theorem zfJ(f:FuncId)(l:List Ms)(p:Ms->Str->Bool)(nx:Ms->Str->Str)(inv:Str->Prop)
 (hf: ∀x∈l,∀s:Str,inv s->zh Tryz.prog f [zF (yq x),.one (.bx 0 0)] [(0,.box [.p (ks s)])] (.bq (p x s)) ((λs:Str=>[(0,.box [.p (ks s)])]) (nx x s))/\(p x s=false->inv (nx x s))) (s:Str) (hs:inv s):
 zh Tryz.prog 200 [pS (.sl 7 (l.map yq)),.one (.cl f [] [.bx 0 0])] [(0,.box [.p (ks s)])] (I (idxR p nx l 0 s).1) ((λs:Str=>[(0,.box [.p (ks s)])]) (idxR p nx l 0 s).2):=by
 refine gO T Tryz.func200 λC hC=>?_;have hs0:=hs;refine wJ 0 rfl λhl=>?_;rw[uk]at hl
 repeat' first|refine gG ?_|refine gB ?_ ?_<;>intro h
 rw[uk]
 refine zn (λq:Nat×Str=>q.1<=l.length/\inv q.2/\idxR p nx (l.drop q.1) q.1 q.2=idxR p nx l 0 s) (λq=>(λs:Str=>([(0,pS (.sl 7 (l.map yq))),(1,.one (.cl f [] [.bx 0 0])),(7,I l.length),(8,I q.1)],[(0,some (.box [.p (ks s)]))])) q.2) (λq=>l.length - q.1) hC
  (0,s) ⟨uz _,hs,rfl⟩ id gM ?_
 generalize idxR p nx l 0 s=res;clear hs hs0;rintro⟨i,s⟩ ⟨hi,hv,J⟩;simp only at hi hv J;refine zq T hC true 200 rfl ?_;refine zt rfl ?_ ?_<;>intro hh
 ·have hlt:i<l.length:=by simpa using hh
  clear hh;obtain⟨x,hx⟩:=zd hlt;rw[drop_at hx]at J;simp only[idxR]at J;have hv2:=(hf x (List.mem_of_getElem? hx) s hv).2
  repeat' first|refine gG ?_|refine gB ?_ ?_<;>intro h|refine gI T (zl hx) ?_|refine zu hC (hf x (List.mem_of_getElem? hx) s hv).1 id rfl rfl (zH.refl _) rfl rfl rfl rfl rfl rfl rfl rfl ?_|refine zo ?_
  ·rw[uv uf]at J;subst J;exact gE
  ·have U:p x s=false:=by assumption
   rw[U]at J;simp only[uy,uL]at J;rw[wrap64 ua];exact zg (i+1,nx x s) ⟨by simp only;omega,hv2 U,J⟩ id (by simp only;omega) gM
 ·have hge: ¬i<l.length:=by simpa using hh
  rw[uA ua]at J;simp only[idxR]at J;subst J
  repeat' first|refine gG ?_|refine gB ?_ ?_<;>intro h|refine ze ?_
  exact gE
theorem zjt(d:zj)(V:List (Str×EV))(b:Bool)(s:Str)(l:List Str)(hl:l.length<=1099511627776):
 zh Tryz.prog 236 [scS b 0 3,Sr s,pS (zbq l)] (scL d V) (.tup [Sr (zbr d s l).1,I (zbr d s l).2]) (scL d V):=by
 have J:=zfJ 262 d.measures (λx _=>decide (x.n=s)) (λ_ s=>s) (λc=>c=s) (λx hx c hc=>⟨by subst hc;exact zut x c,λ_=>hc⟩) s rfl;rw[y3]at J;have U:=ziu (λm:Ms=>decide (m.n=s)) d.measures;refine gO T Tryz.func236 λC hC=>?_;cases hx:d.measures.findIdx? (λm=>decide (m.n=s))with
 |none=>
  rw[hx]at J U;simp only[idxI]at J;rw[show zbr d s l=((⟨#[]⟩:UH),9) by simp only[zbr,zug,U]]
  repeat' first|refine gG ?_|exact gD|exact gP|refine gB ?_ ?_<;>intro h|refine gR J (nm [1004]) ?_|refine ze ?_
  exact gE
 |some i=>
  rw[hx]at J U;simp only[idxI]at J;obtain⟨m,hm,hfm⟩:=U;have hF:=wN d (lsA l 0) m.t;by_cases h1:l.length=1
  ·cases hq:y4 d (lsA l 0) m.t with
   |false=>
    rw[hq]at hF;rw[show zbr d s l=((⟨#[]⟩:UH),11) by simp[zbr,zug,hfm,h1,hq]]
    repeat' first|refine gG ?_|exact gD|exact gP|refine gB ?_ ?_<;>intro h|refine gR J (nm [1004]) ?_|refine gR hF (nm [0,1,2]) ?_|(refine xz T hC rfl rfl rfl ub (zai (i:=0) rfl ua) rfl rfl ?_)|(refine gI T (zl hm) ?_)|refine ze ?_
    exact gE
   |true=>
    rw[hq]at hF;rw[show zbr d s l=((⟨#[105,110,116]⟩:UH),0) by simp[zbr,zug,hfm,h1,hq]]
    repeat' first|refine gG ?_|exact gD|exact gP|refine gB ?_ ?_<;>intro h|refine gR J (nm [1004]) ?_|refine gR hF (nm [0,1,2]) ?_|(refine xz T hC rfl rfl rfl ub (zai (i:=0) rfl ua) rfl rfl ?_)|(refine gI T (zl hm) ?_)|refine ze ?_
    exact gE
  ·rw[show zbr d s l=((⟨#[]⟩:UH),3) by simp[zbr,zug,hfm,h1]]
   repeat' first|refine gG ?_|exact gD|exact gP|refine gB ?_ ?_<;>intro h|refine gR J (nm [1004]) ?_|refine ze ?_
   exact gE
theorem zbk: ∀M,RepEV M (.g [ks (⟨#[]⟩:UH),.k (.slice none 0 0),ks (⟨#[]⟩:UH),.k (.slice none 0 0),.k (.slice none 0 0)]) (.agg #[.string (⟨#[]⟩:UH),.slice none 0 0,.string (⟨#[]⟩:UH),.slice none 0 0,.slice none 0 0]):=
 λM=>⟨[.string (⟨#[]⟩:UH),.slice none 0 0,.string (⟨#[]⟩:UH),.slice none 0 0,.slice none 0 0],rfl,by simp only[RepPVl,RepPV];exact⟨⟨uh,rfl⟩,⟨uh,rfl⟩,⟨uh,rfl⟩,⟨uh,rfl⟩,⟨uh,rfl⟩,uh⟩⟩
abbrev zuu(d:zj)(vs:List Fld)(V:List (Str×EV))(b:Bool)(e:Ex):Prop:=zh Tryz.prog 135 [scS b 0 3,zF (ye e)] (scL d V) (.tup [Sr (exT d vs b e).1,I (exT d vs b e).2]) (scL d V)
abbrev zwk(d:zj)(vs:List Fld)(V:List (Str×EV))(b:Bool)(e:Ex):Prop:=zh Tryz.prog 196 [scS b 0 3,zF (ye e)] (scL d V) (.tup [Sr (caT d vs b e).1,I (caT d vs b e).2]) (scL d V)
variable {b:Bool}
theorem zl6{vs:List Fld}{l:List Ex}{x:Ex}{ts:List Str}{q:List Str×Int}(U:l[i]?=some x)(h:(ts++(exsT d vs b (l.drop i)).1,(exsT d vs b (l.drop i)).2)=q):
 ((exT d vs b x).2=0/\((ts++[(exT d vs b x).1])++(exsT d vs b (l.drop (i+1))).1,(exsT d vs b (l.drop (i+1))).2)=q)\/((exT d vs b x).2≠0/\q.2=(exT d vs b x).2):=by
 rw[drop_at U]at h;cases he:exT d vs b x with
 |mk t e=>
  simp only[exsT,he]at h;by_cases J:e=0
  ·refine .inl ⟨J,?_⟩;rw[uv J]at h;rw[<-h];simp
  ·refine .inr ⟨J,?_⟩;rw[uu J]at h;rw[<-h]
theorem zeg: ∀ {l:List (Nat×Nat)},(l.all λp=>Nat.ble 100 p.1)=true-> ∀i,i<100->mvL l i=i
 | [],_,_,_=>rfl
 |(a,b)::l,h,i,hi=>by
  simp only[tX,uo]at h;have ha:100<=a:=uV h.1;have:=zeg h.2 i hi;unfold mvL at this⊢;rw[List.lookup_cons];rw[show(i==a)=false by simp;omega];exact this
theorem w7(h:i<=1000000):IntKind.i64.wrap ((i:Int)+1)=((i+1:Nat):Int):=by rw[wrap64 ua];omega
variable {f:Int}
theorem zsd{vs:List Fld}{e:Ex}(h:(exsT d vs b e.l).2=f)(J:f≠0):caT d vs b e=((⟨#[]⟩:UH),f):=by
 unfold caT;cases hs:exsT d vs b e.l with
 |mk a g=>
  rw[hs]at h;simp only at h⊢;subst h;rw[uu J]
theorem zse{β:Type}(p:α×β->Bool){l:List α}{m:List β}{x:α}{y:β}(J:l[i]?=some x)(U:m[i]?=some y):((List.zip l m).take (i+1)).any p=(((List.zip l m).take i).any p||p (x,y)):=by
 have:(List.zip l m)[i]?=some (x,y):=by rw[qa];exact⟨J,U⟩
 rw[yd this,oJ];simp
noncomputable def xpT(d:zj)(V:List (Str×EV))(b:Bool)(e:Ex)(c n i w:Nat)(q:Nat×List Str):zf×Tab:=
 ([(2,.one (.bx 1002 0)),(3,.one (.bx 1003 0)),(c,pS (wu e.l)),(n,I e.l.length),(i,I q.1),(w,.one (.ar 140))],
  [(1002,some (.box [.bx 0 0,.mp 3,.p (.k (.bool b))])),(1003,some (.box ((ye e).map Hw.V.p))),(140,some (.arr 1 (q.2.map zeO)))]++tb (scL d V))
theorem zfK{vs:List Fld}{V:List (Str×EV)}(b:Bool)(e:Ex)(hX: ∀x∈e.l,zuu d vs V b x)(hl:e.l.length<=1000000)(hp: ∀p∈d.procs,p.params.length<=1099511627776):zwk d vs V b e:=by
 show zh _ _ _ _ _ _;generalize J:caT d vs b e=r;refine gO T Tryz.func196 λC hC=>?_
 repeat' first|refine gG ?_|refine gB ?_ ?_<;>intro h
 refine gA 140 1 [(6,.one (.ar 140))] [] ?_;rw[uk]
 refine zn (λq:Nat×List Str=>q.1<=e.l.length/\q.2.length=q.1/\(q.2++(exsT d vs b (e.l.drop q.1)).1,(exsT d vs b (e.l.drop q.1)).2)=exsT d vs b e.l) (xpT d V b e 16 17 18 6) (λq=>e.l.length - q.1) hC
  (0,[]) ⟨uz _,rfl,rfl⟩ id gM ?_
 rintro⟨i,ts⟩ ⟨hi,hv,hq⟩;simp only at hi hv hq;refine zq T hC true 200 rfl ?_;refine zt rfl ?_ ?_<;>intro h
 ·have hlt:i<e.l.length:=by simpa [xpT]using h
  clear h;obtain⟨x,hx⟩:=zd hlt;have hE:=hX x (List.mem_of_getElem? hx);have happ:ts.map zeO++[[ks (exT d vs b x).1]]=(ts++[(exT d vs b x).1]).map zeO:=by rw[u6];rfl
  rcases zl6 hx hq with⟨h0,U⟩|⟨h0,U⟩
  ·repeat' first|refine gG ?_|exact gP|refine gB ?_ ?_<;>intro h|refine gXE ?_|refine gR hE (nm [0,1,2,3]) ?_|refine gT ?_|(refine gY T 141 ((ts++[(exT d vs b x).1]).map zeO) 16 ?_)
   rw[w7 (by simp only;omega)];exact zg (i+1,ts++[(exT d vs b x).1]) ⟨by simp only;omega,by simp only[uC,uD];omega,U⟩ (mvL [(140,141)]) (by simp only;omega) ⟨rfl,⟨rfl,rfl,rfl,rfl,rfl,rfl,uh⟩,⟨rfl,rfl,rfl,rfl,rfl,rfl,rfl,uh⟩,rfl,zeg rfl⟩
  ·repeat' first|refine gG ?_|exact gP|refine gB ?_ ?_<;>intro h|refine gXE ?_|refine gR hE (nm [0,1,2,3]) ?_|refine zo ?_
   rw[zsd U h0]at J;subst J;exact gE
 ·have hge: ¬i<e.l.length:=by simpa [xpT]using h
  clear h;have hi':i=e.l.length:=by omega
  subst hi';rw[qK]at hq;simp only[exsT,u0]at hq;refine gZ 140 [(6,pS (zbq ts))] [] ?_;have hM:=zjt d V b e.s ts ua;cases b
  ·repeat' first|refine gG ?_|exact gD|refine gB ?_ ?_<;>intro h|refine ze ?_|refine gR hM (nm [0,1,2,3]) ?_
   rw[show caT d vs false e=zbr d e.s ts by simp[caT,<-hq,zbs]]at J;subst J;exact gE
  ·cases hpr:zjq d e.s with
   |none=>
    have hg:=zed d e.s;rw[hpr]at hg;rw[show caT d vs true e=((⟨#[]⟩:UH),9) by simp[caT,<-hq,zbs,hpr]]at J;subst J
    repeat' first|refine gG ?_|exact gD|refine gB ?_ ?_<;>intro h|(refine yH (et:=90) kS hC (c0:= .agg #[.string (⟨#[]⟩:UH),.slice none 0 0,.string (⟨#[]⟩:UH),.slice none 0 0,.slice none 0 0]) (.g [ks (⟨#[]⟩:UH),.k (.slice none 0 0),ks (⟨#[]⟩:UH),.k (.slice none 0 0),.k (.slice none 0 0)]) (pv:= .g [ks (⟨#[]⟩:UH),.k (.slice none 0 0),ks (⟨#[]⟩:UH),.k (.slice none 0 0),.k (.slice none 0 0)]) (b:=false) rfl rfl rfl ud ud zbk (by rw[hg];rfl) (by rw[hg];rfl) rfl rfl ?_)|refine ze ?_
    exact gE
   |some p=>
    have hg:=zed d e.s;rw[hpr]at hg;have hpl:=hp p (qn hpr);by_cases hln:ts.length=p.params.length
    ·repeat' first|refine gG ?_|exact gD|exact gP|refine gB ?_ ?_<;>intro h|(refine yH (et:=90) kS hC (c0:= .agg #[.string (⟨#[]⟩:UH),.slice none 0 0,.string (⟨#[]⟩:UH),.slice none 0 0,.slice none 0 0]) (.g [ks (⟨#[]⟩:UH),.k (.slice none 0 0),ks (⟨#[]⟩:UH),.k (.slice none 0 0),.k (.slice none 0 0)]) (pv:= .g (zZ p)) (b:=true) rfl rfl rfl ud ud zbk (by rw[hg];rfl) (by rw[hg];rfl) rfl rfl ?_)|refine ze ?_
     rw[uk]
     refine zn (λj:Nat=>j<=ts.length/\((List.zip ts p.params).take j).any (λq=> !y4 d q.1 q.2.t)=false) (λj=>([(2,.one (.bx 1002 0)),(11,.one (.bx 1011 0)),(67,pS (zbq ts)),(68,I ts.length),(69,I j)],[(1002,some (.box [.bx 0 0,.mp 3,.p (.k (.bool true))])),(1011,some (.box ((zZ p).map Hw.V.p)))]++tb (scL d V))) (λj=>ts.length - j) hC
      0 ⟨uz _,rfl⟩ id gM ?_
     intro j ⟨hj,hja⟩;refine zq T hC true 200 rfl ?_;refine zt rfl ?_ ?_<;>intro h
     ·have hlt:j<ts.length:=by simpa using h
      clear h;obtain⟨x,hx⟩:=zd hlt;obtain⟨y,hy⟩:=zd (show j<p.params.length by omega);have hF:=wN d x y.t;have hz:=zse (λq:Str×Fld=> !y4 d q.1 q.2.t) hx hy;rw[hja,tO]at hz;simp only at hz;cases hf:y4 d x y.t with
      |false=>
       rw[hf]at hF hz;rw[qE]at hz
       have hany:(List.zip ts p.params).any (λq=> !y4 d q.1 q.2.t)=true:=by
        rw[List.any_eq_true]at hz⊢;obtain⟨q,hq1,U⟩:=hz;exact⟨q,qj hq1,U⟩
       rw[show caT d vs true e=((⟨#[]⟩:UH),11) by simp only[caT,<-hq,uZ,zbs,hpr,hln,hany];rfl]at J;subst J
       repeat' first|refine gG ?_|exact gD|exact gP|refine gB ?_ ?_<;>intro h|(refine gI T (zl hx) ?_)|(refine gI T (zl hy) ?_)|refine gR hF (nm [0,1,2]) ?_|refine zo ?_
       exact gE
      |true=>
       rw[hf]at hF hz
       repeat' first|refine gG ?_|exact gD|exact gP|refine gB ?_ ?_<;>intro h|(refine gI T (zl hx) ?_)|(refine gI T (zl hy) ?_)|refine gR hF (nm [0,1,2]) ?_
       rw[w7 ua];exact zg (j+1) ⟨ua,by simpa using hz⟩ id ua gM
     ·have hge: ¬j<ts.length:=by simpa using h
      clear h;rw[u5 (by rw[th];omega)]at hja;rw[show caT d vs true e=(p.res,0) by simp only[caT,<-hq,uZ,zbs,hpr,hln,hja];rfl]at J;subst J
      repeat' first|refine gG ?_|refine gB ?_ ?_<;>intro h|refine ze ?_
      exact gE
    ·rw[show caT d vs true e=((⟨#[]⟩:UH),3) by simp[caT,<-hq,zbs,hpr,hln]]at J;subst J
     repeat' first|refine gG ?_|exact gD|exact gP|refine gB ?_ ?_<;>intro h|(refine yH (et:=90) kS hC (c0:= .agg #[.string (⟨#[]⟩:UH),.slice none 0 0,.string (⟨#[]⟩:UH),.slice none 0 0,.slice none 0 0]) (.g [ks (⟨#[]⟩:UH),.k (.slice none 0 0),ks (⟨#[]⟩:UH),.k (.slice none 0 0),.k (.slice none 0 0)]) (pv:= .g (zZ p)) (b:=true) rfl rfl rfl ud ud zbk (by rw[hg];rfl) (by rw[hg];rfl) rfl rfl ?_)|refine ze ?_
     exact gE
theorem zl7{vs:List Fld}{V:List (Str×EV)}(b:Bool)(e:Ex)(hX: ∀x∈e.l,zuu d vs V b x)(hl:e.l.length<=1000000)(hp: ∀p∈d.procs,p.params.length<=1099511627776)
 (hV:wz V vs) (ha:arB e.op e.l.length) (hty: ∀x∈d.types,x.f.length<=1099511627776):zuu d vs V b e:=by
 show zh _ _ _ _ _ _;have hCl:=zfK b e hX hl hp;generalize J:exT d vs b e=r
 have hr0:exT d vs b e=match exsT d vs b e.l with
  |(ts,f)=>if f=0 then(if e.op=7 then(if(zbs d b e.s ts).2=0/\(zbs d b e.s ts).1=(⟨#[]⟩:UH)then((⟨#[]⟩:UH),11)else zbs d b e.s ts)else zcr d vs b e.op e.s ts)else((⟨#[]⟩:UH),f):=by
  cases e;simp only[exT];rfl
 rw[hr0]at J;by_cases h7:e.op=7
 ·have J:(if(caT d vs b e).2=0/\(caT d vs b e).1=(⟨#[]⟩:UH)then((⟨#[]⟩:UH),11)else caT d vs b e)=r:=by
   rw[<-J];unfold caT;cases exsT d vs b e.l with
   |mk ts f=>
    simp only;by_cases h0:f=0
    ·simp only[uv h0,uv h7]
    ·simp only[uu h0];rw[uu (by intro h;exact h0 h.1)]
  have J:(bif decide ((caT d vs b e).2=0)&&decide ((caT d vs b e).1=(⟨#[]⟩:UH))then((⟨#[]⟩:UH),11)else caT d vs b e)=r:=by
   rw[<-J];by_cases h1:(caT d vs b e).2=0<;>by_cases h2:(caT d vs b e).1=(⟨#[]⟩:UH)<;>simp[h1,h2]
  refine gO T Tryz.func135 λC hC=>?_
  repeat' first|refine gG ?_|exact gD|exact gP|refine gB ?_ ?_<;>intro h|refine gR hCl (nm [0,1,2,3]) ?_|refine ze ?_
  all_goals (simp only[*,qk,tA,tW,qX,Uq,oZ]at J;subst J;exact gE)
 ·refine gO T Tryz.func135 λC hC=>?_
  repeat' first|refine gG ?_|exact gP|refine gB ?_ ?_<;>intro h
  refine gA 140 1 [(8,.one (.ar 140))] [] ?_;rw[uk]
  refine zn (λq:Nat×List Str=>q.1<=e.l.length/\q.2.length=q.1/\(q.2++(exsT d vs b (e.l.drop q.1)).1,(exsT d vs b (e.l.drop q.1)).2)=exsT d vs b e.l) (xpT d V b e 31 32 33 8) (λq=>e.l.length - q.1) hC
   (0,[]) ⟨uz _,rfl,rfl⟩ id gM ?_
  rintro⟨i,ts⟩ ⟨hi,hv,hq⟩;simp only at hi hv hq;refine zq T hC true 200 rfl ?_;refine zt rfl ?_ ?_<;>intro h
  ·have hlt:i<e.l.length:=by simpa [xpT]using h
   clear h;obtain⟨x,hx⟩:=zd hlt;have hE:=hX x (List.mem_of_getElem? hx);have happ:ts.map zeO++[[ks (exT d vs b x).1]]=(ts++[(exT d vs b x).1]).map zeO:=by rw[u6];rfl
   rcases zl6 hx hq with⟨h0,U⟩|⟨h0,U⟩
   ·repeat' first|refine gG ?_|exact gP|refine gB ?_ ?_<;>intro h|refine gXE ?_|refine gR hE (nm [0,1,2,3]) ?_|refine gT ?_|(refine gY T 141 ((ts++[(exT d vs b x).1]).map zeO) 16 ?_)
    rw[w7 (by simp only;omega)];exact zg (i+1,ts++[(exT d vs b x).1]) ⟨by simp only;omega,by simp only[uC,uD];omega,U⟩ (mvL [(140,141)]) (by simp only;omega) ⟨rfl,⟨rfl,rfl,rfl,rfl,rfl,rfl,uh⟩,⟨rfl,rfl,rfl,rfl,rfl,rfl,rfl,uh⟩,rfl,zeg rfl⟩
   ·have J:((⟨#[]⟩:UH),(exT d vs b x).2)=r:=by
     rw[<-J];cases hs:exsT d vs b e.l with
     |mk ts0 f=>
      rw[hs]at U;simp only at U⊢;subst U;rw[uu h0]
    repeat' first|refine gG ?_|exact gP|refine gB ?_ ?_<;>intro h|refine gXE ?_|refine gR hE (nm [0,1,2,3]) ?_|refine zo ?_
    subst J;exact gE
  ·have hge: ¬i<e.l.length:=by simpa [xpT]using h
   clear h;have hi':i=e.l.length:=by omega
   subst hi';rw[qK]at hq;simp only[exsT,u0]at hq;rw[<-hq]at J;simp only[uZ,uu h7]at J;have hN:=zoZ b e ts hV (by rw[hv];exact ha) hty;rw[J]at hN;refine gZ 140 [(8,pS (zbq ts))] [] ?_
   repeat' first|refine gG ?_|refine gB ?_ ?_<;>intro h|refine ze ?_|refine gR hN (nm [0,1,2,3]) ?_
   exact gE
mutual
def exG:Ex->Prop
 | .mk op _ _ l=>arB op l.length/\l.length<=1000000/\exGs l
def exGs:List Ex->Prop
 | []=>True
 |x::r=>exG x/\exGs r
end
theorem zeh: ∀ {l:List Ex},exGs l-> ∀x∈l,exG x
 |y::l,h,x,J=>by
  simp only[exGs]at h;rcases uI.1 J with rfl|J
  ·exact h.1
  ·exact zeh h.2 x J
theorem ziv{d:zj}{vs:List Fld}{V:List (Str×EV)}(b:Bool)(hp: ∀p∈d.procs,p.params.length<=1099511627776)(hV:wz V vs)(U: ∀x∈d.types,x.f.length<=1099511627776):
 ∀(n:Nat) (e:Ex),sizeOf e<=n->exG e->zuu d vs V b e
 |0,e,h,_=>by cases e;simp at h
 |n+1,e,h,hg=>by
  have J:arB e.op e.l.length/\e.l.length<=1000000/\exGs e.l:=by cases e;simpa only[exG,Ex.op,Ex.l]using hg
  refine zl7 b e (λx hx=>ziv b hp hV U n x ?_ (zeh J.2.2 x hx)) J.2.1 hp hV J.1 U;have:sizeOf x<sizeOf e.l:=qB hx;cases e;simp only[Ex.mk.sizeOf_spec,Ex.l]at*;omega
theorem zbH{vs:List Fld}{V:List (Str×EV)}(b:Bool)(U: ∀p∈d.procs,p.params.length<=1099511627776)(hV:wz V vs)(J: ∀x∈d.types,x.f.length<=1099511627776)(e:Ex)(hg:exG e):zuu d vs V b e:=
 ziv b U hV J _ e (uF _) hg
theorem zo0{vs:List Fld}{V:List (Str×EV)}(b:Bool)(hp: ∀p∈d.procs,p.params.length<=1099511627776)(hV:wz V vs)(U: ∀x∈d.types,x.f.length<=1099511627776)(e:Ex)(hg:exG e):zwk d vs V b e:=by
 have J:arB e.op e.l.length/\e.l.length<=1000000/\exGs e.l:=by cases e;simpa only[exG,Ex.op,Ex.l]using hg
 exact zfK b e (λx hx=>zbH b hp hV U x (zeh J.2.2 x hx)) J.2.1 hp
def zva(d:zj)(vs:List Fld)(res:Str)(op:Int)(s:Str)(ts:List Str):Int:=
 bif decide (op=1)then(bif !(look vs s).isSome then 9 else bif !y4 d (lsA ts 0) ((look vs s).getD (⟨#[]⟩:UH))then 11 else 0)
 else bif decide (op=2)then(bif !decide ((fieldT d (lsA ts 0) s).2=0)then(fieldT d (lsA ts 0) s).2 else bif !y4 d (lsA ts 1) (fieldT d (lsA ts 0) s).1 then 11 else 0)
 else bif decide (op=3)then(bif !decide (lsA ts 0=(⟨#[98,111,111,108]⟩:UH))then 11 else 0)
 else bif decide (op=4)then(bif !decide (lsA ts 0=(⟨#[98,111,111,108]⟩:UH))then 11 else 0)
 else bif decide (op=5)then(bif decide (((ts.map zeO).length:Int)=0)then(bif !decide (res=(⟨#[]⟩:UH))then 11 else 0)else bif !decide (res=(⟨#[]⟩:UH))then(bif !y4 d (lsA ts 0) res then 11 else 0)else 11)
 else 0
theorem zsf(d:zj)(vs:List Fld)(res:Str)(x:Sm)(ts:List Str)(h6:x.op≠6)(h:exsT d vs true x.e=(ts,0)):stmT d vs res x=zva d vs res x.op x.s ts:=by
 unfold stmT zva;rw[uu h6,h];simp only[uZ,cond_eq_ite,uq,ux,uk];by_cases h1:x.op=1
 ·simp only[uv h1];cases look vs x.s with
  |none=>rfl
  |some t=>cases hf:y4 d (lsA ts 0) t<;>simp[hf]
 ·simp only[uu h1];by_cases h2:x.op=2
  ·simp only[uv h2];by_cases U:(fieldT d (lsA ts 0) x.s).2=0
   ·simp only[uv U,uT U];cases hf:y4 d (lsA ts 1) (fieldT d (lsA ts 0) x.s).1<;>simp
   ·simp only[uu U,uJ U];rfl
  ·simp only[uu h2];by_cases h3:x.op=3
   ·simp only[h3,UC,uZ];by_cases J:lsA ts 0=(⟨#[98,111,111,108]⟩:UH)
    ·simp[J]
    ·simp[J]
   ·by_cases h4:x.op=4
    ·simp only[h3,h4,UD,uZ,uL];by_cases J:lsA ts 0=(⟨#[98,111,111,108]⟩:UH)
     ·simp[J]
     ·simp[J]
    ·simp only[h3,h4,or_self,uL];by_cases h5:x.op=5
     ·simp only[uv h5];by_cases hl:ts.length=0
      ·by_cases hr:res=(⟨#[]⟩:UH)<;>simp[hl,hr]
      ·by_cases hr:res=(⟨#[]⟩:UH)
       ·simp[hl,hr]
       ·cases hf:y4 d (lsA ts 0) res<;>simp[hl,hr]
     ·simp only[uu h5]
def smA(x:Sm):Prop:=(x.op=6->1<=x.e.length)/\(x.op=1->1<=x.e.length)/\(x.op=2->2<=x.e.length)/\(x.op=3\/x.op=4->1<=x.e.length)/\x.e.length<=1000000
variable {res:Str}{x:Sm}
theorem zo1{vs:List Fld}(J:x.op≠6)(h:(exsT d vs true x.e).2=f)(U:f≠0):stmT d vs res x=f:=by
 unfold stmT;rw[uu J];cases hs:exsT d vs true x.e with
 |mk a g=>
  rw[hs]at h;simp only at h⊢;subst h;rw[uu U]
noncomputable def stT(d:zj)(V:List (Str×EV))(x:Sm)(res:Str)(q:Nat×List Str):zf×Tab:=
 ([(2,Sr res),(3,.one (.bx 1003 0)),(4,.one (.bx 1004 0)),(33,pS (wu x.e)),(34,I x.e.length),(35,I q.1),(9,.one (.ar 140))],
  [(1003,some (.box [.bx 0 0,.mp 3,.p (.k (.bool true))])),(1004,some (.box ((zcL x).map Hw.V.p))),(140,some (.arr 1 (q.2.map zeO)))]++tb (scL d V))
set_option maxHeartbeats 4000000 in
set_option maxRecDepth 100000 in
theorem zsg{vs:List Fld}{V:List (Str×EV)}(hp: ∀p∈d.procs,p.params.length<=1099511627776)(hV:wz V vs)(hty: ∀x∈d.types,x.f.length<=1099511627776)(x:Sm)(res:Str)(hg: ∀e∈x.e,exG e)(ha:smA x):
 zh Tryz.prog 225 [scS true 0 3,zF (zcL x),Sr res] (scL d V) (I (stmT d vs res x)) (scL d V):=by
 obtain⟨a6,a1,a2,a3,hl⟩:=ha;generalize hr:stmT d vs res x=r;by_cases h6:x.op=6
 ·obtain⟨e0,he0⟩:=zd (show 0<x.e.length by have:=a6 h6;omega);have hCl:=zo0 true hp hV hty e0 (hg e0 (List.mem_of_getElem? he0));rw[show stmT d vs res x=(caT d vs true e0).2 by unfold stmT exA;rw[uv h6,he0];rfl]at hr;subst hr;refine gO T Tryz.func225 λC hC=>?_
  repeat' first|refine gG ?_|exact gD|exact gP|refine gB ?_ ?_<;>intro h|(refine xz T hC rfl rfl rfl ub (xA (i:=0) he0) rfl rfl ?_)|refine gR hCl (nm [0,1,2,3]) ?_|refine ze ?_
  exact gE
 ·refine gO T Tryz.func225 λC hC=>?_
  repeat' first|refine gG ?_|exact gP|refine gB ?_ ?_<;>intro h
  refine gA 140 1 [(9,.one (.ar 140))] [] ?_;rw[uk]
  refine zn (λq:Nat×List Str=>q.1<=x.e.length/\q.2.length=q.1/\(q.2++(exsT d vs true (x.e.drop q.1)).1,(exsT d vs true (x.e.drop q.1)).2)=exsT d vs true x.e) (stT d V x res) (λq=>x.e.length - q.1) hC
   (0,[]) ⟨uz _,rfl,rfl⟩ id gM ?_
  rintro⟨i,ts⟩ ⟨hi,hv,hq⟩;simp only at hi hv hq;refine zq T hC true 200 rfl ?_;refine zt rfl ?_ ?_<;>intro h
  ·have hlt:i<x.e.length:=by simpa [stT]using h
   clear h;obtain⟨y,hy⟩:=zd hlt;have hE:=zbH true hp hV hty y (hg y (List.mem_of_getElem? hy));have happ:ts.map zeO++[[ks (exT d vs true y).1]]=(ts++[(exT d vs true y).1]).map zeO:=by rw[u6];rfl
   rcases zl6 hy hq with⟨h0,hq2⟩|⟨h0,hq2⟩
   ·repeat' first|refine gG ?_|exact gP|refine gB ?_ ?_<;>intro h|refine gXE ?_|refine gR hE (nm [0,1,2,3]) ?_|refine gT ?_|(refine gY T 141 ((ts++[(exT d vs true y).1]).map zeO) 16 ?_)
    rw[w7 (by simp only;omega)];exact zg (i+1,ts++[(exT d vs true y).1]) ⟨by simp only;omega,by simp only[uC,uD];omega,hq2⟩ (mvL [(140,141)]) (by simp only;omega) ⟨rfl,⟨rfl,rfl,rfl,rfl,rfl,rfl,rfl,uh⟩,⟨rfl,rfl,rfl,rfl,rfl,rfl,rfl,uh⟩,rfl,zeg rfl⟩
   ·rw[zo1 h6 hq2 h0]at hr
    repeat' first|refine gG ?_|exact gP|refine gB ?_ ?_<;>intro h|refine gXE ?_|refine gR hE (nm [0,1,2,3]) ?_|refine zo ?_
    subst hr;exact gE
  ·have hge: ¬i<x.e.length:=by simpa [stT]using h
   clear h;have hi':i=x.e.length:=by omega
   subst hi';rw[qK]at hq;simp only[exsT,u0]at hq;rw[zsf d vs res x ts h6 hq.symm]at hr;have hF1:=wN d (lsA ts 0) ((look vs x.s).getD (⟨#[]⟩:UH));have hF2:=wN d (lsA ts 1) (fieldT d (lsA ts 0) x.s).1;have hF3:=wN d (lsA ts 0) res;have hFd:=zfF d (lsA ts 0) x.s hty;have hgv:(getG V x.s).getD (.o (ks (⟨#[]⟩:UH)))= .o (ks ((look vs x.s).getD (⟨#[]⟩:UH))):=by rw[hV];cases look vs x.s<;>rfl
   have hgs:(getG V x.s).isSome=(look vs x.s).isSome:=by rw[hV];cases look vs x.s<;>rfl
   clear hq hg hp hV a6;refine gZ 140 [(9,pS (zbq ts))] [] ?_
   repeat' first|refine gG ?_|exact gD|refine gB ?_ ?_<;>intro h|refine ze ?_|refine gR hF1 (nm [0,1,2]) ?_|refine gR hF2 (nm [0,1,2]) ?_|refine gR hF3 (nm [0,1,2]) ?_|refine gR hFd (nm [0,1,2]) ?_|(refine yH (et:=9) kS hC (c0:= .string (⟨#[]⟩:UH)) (.o (ks (⟨#[]⟩:UH))) (pv:= .o (ks ((look vs x.s).getD (⟨#[]⟩:UH)))) (b:=(look vs x.s).isSome) rfl rfl rfl ud ud zqz hgv hgs rfl rfl ?_)|(refine xz T hC rfl rfl rfl ub (zai (i:=0) rfl (by simp only[uq,ur,uk]at *; omega)) rfl rfl ?_)|(refine xz T hC rfl rfl rfl ub (zai (i:=1) rfl (by simp only[uq,ur]at *; omega)) rfl rfl ?_)
   all_goals clear hF1 hF2 hF3 hFd hgv hgs
   all_goals try (simp only[zva, *,Uq,oZ]at hr;subst hr;exact gE)
   all_goals try (simp[zva, *]at hr;subst hr;exact gE)
   all_goals try (exfalso;simp only[uq,ur]at *; omega)
mutual
def smG:Sm->Prop
 | .mk op s e l els=>(∀y∈e,exG y)/\smA (.mk op s e l els)/\l.length<=1000000/\els.length<=1000000/\smGs l/\smGs els
def smGs:List Sm->Prop
 | []=>True
 |x::r=>smG x/\smGs r
end
mutual
def znQ:Sm->Nat
 | .mk _ _ _ l els=>1+wZ l+wZ els
def wZ:List Sm->Nat
 | []=>0
 |x::r=>znQ x+wZ r
end
theorem ziw: ∀ {l:List Sm},smGs l-> ∀x∈l,smG x
 |y::l,h,x,J=>by
  simp only[smGs]at h;rcases uI.1 J with rfl|J
  ·exact h.1
  ·exact ziw h.2 x J
mutual
theorem zo2(d:zj)(vs:List Fld)(res:Str): ∀(x:Sm) (n:Int),n<=(smOne d vs res x n).2/\(smOne d vs res x n).2<=n+znQ x
 | .mk op s e l els,n=>by
   have h1:=zei d vs res l (n+1);simp only[smOne,znQ];by_cases h0:stmT d vs res (.mk op s e l els)=0
   ·rw[uv h0];cases hq:smsT d vs res l (n+1)with
    |mk q m=>
     rw[hq]at h1;simp only at h1⊢;have h2:=zei d vs res els m;by_cases hz:q.2=0
     ·rw[uv hz];omega
     ·rw[uu hz];simp only;omega
   ·rw[uu h0];simp only;omega
theorem zei(d:zj)(vs:List Fld)(res:Str): ∀(l:List Sm) (n:Int),n<=(smsT d vs res l n).2/\(smsT d vs res l n).2<=n+wZ l
 | [],n=>by simp only[smsT,wZ];omega
 |x::r,n=>by
  have h1:=zo2 d vs res x n;simp only[smsT,wZ];cases hq:smOne d vs res x n with
  |mk q m=>
   rw[hq]at h1;simp only at h1⊢;have h2:=zei d vs res r m;by_cases hz:q.2=0
   ·rw[uv hz];omega
   ·rw[uu hz];simp only;omega
end
noncomputable abbrev stR(d:zj)(V:List (Str×EV))(n:Int):RL:=scL d V++[(4,.box [.p (ki n)])]
abbrev zwL(d:zj)(vs:List Fld)(V:List (Str×EV))(res:Str)(l:List Sm)(n:Int):Prop:=
 zh Tryz.prog 177 [scS true 0 3,pS (yl l),Sr res,.one (.bx 4 0)] (stR d V n) (.tup [I (smsT d vs res l n).1.1,I (smsT d vs res l n).1.2]) (stR d V (smsT d vs res l n).2)
def rstT(d:zj)(vs:List Fld)(res:Str)(x:Sm)(k:Nat)(m:Int):(Int×Int)×Int:=match k with
 |0=>match smsT d vs res x.l m with
  |(q,m)=>if q.2=0 then smsT d vs res x.els m else(q,m)
 |1=>smsT d vs res x.els m
 |_=>((0,0),m)
def zsh(x:Sm)(k:Nat):Nat:=match k with
 |0=>wZ x.l+wZ x.els
 |1=>wZ x.els
 |_=>0
def partT(x:Sm)(k:Nat):List Sm:=match k with
 |0=>x.l
 |_=>x.els
theorem zfL{d:zj}{vs:List Fld}{res:Str}: ∀ {l:List Sm} {n:Int},(smsT d vs res l n).1.2=0->(smsT d vs res l n).1=(0,0)
 | [],n,_=>rfl
 |x::r,n,h=>by
  simp only[smsT]at h⊢;cases hq:smOne d vs res x n with
  |mk q m=>
   rw[hq]at h;simp only at h⊢;by_cases J:q.2=0
   ·rw[uv J]at h ⊢; exact zfL h
   ·rw[uu J]at h;exact absurd h J
theorem zo3{vs:List Fld}{k:Nat}{m:Int}(hk:k<2):(smsT d vs res (partT x k) m).1.2=0/\rstT d vs res x k m=rstT d vs res x (k+1) (smsT d vs res (partT x k) m).2\/
 (smsT d vs res (partT x k) m).1.2≠0/\rstT d vs res x k m=smsT d vs res (partT x k) m:=by
 match k,hk with
 |0,_=>
  simp only[rstT,partT];cases smsT d vs res x.l m with
  |mk q m'=>
   simp only;by_cases h:q.2=0
   ·rw[uv h];exact .inl ⟨h,rfl⟩
   ·rw[uu h];exact .inr ⟨h,rfl⟩
 |1,_=>
  simp only[rstT,partT];by_cases h:(smsT d vs res x.els m).1.2=0
  ·refine .inl ⟨h,?_⟩;rw[show smsT d vs res x.els m=((smsT d vs res x.els m).1,(smsT d vs res x.els m).2) from rfl,zfL h]
  ·exact .inr ⟨h,uh⟩
theorem zl8{k:Nat}(hk:k<2):zsh x k=wZ (partT x k)+zsh x (k+1):=by
 match k,hk with
 |0,_=>rfl
 |1,_=>rfl
theorem zsi(x:Sm):znQ x=1+zsh x 0:=by cases x;simp only[znQ,zsh,Sm.l,Sm.els];omega
theorem zo4(d:zj)(vs:List Fld)(res:Str)(x:Sm)(n:Int):smOne d vs res x n=if stmT d vs res x=0 then rstT d vs res x 0 (n+1)else((n,stmT d vs res x),n+1):=by
 cases x;simp only[smOne,rstT];rfl
theorem zo5{l:List Sm}(h:l[i]?=some x):wZ (l.drop i)=znQ x+wZ (l.drop (i+1)):=by rw[drop_at h];rfl
noncomputable def sT(d:zj)(V:List (Str×EV))(l:List Sm)(res:Str)(q:Nat×Int):zf×Tab:=
 ([(2,Sr res),(3,.one (.bx 4 0)),(4,.one (.bx 1004 0)),(18,pS (yl l)),(19,I l.length),(20,I q.1)],[(1004,some (.box [.bx 0 0,.mp 3,.p (.k (.bool true))]))]++tb (stR d V q.2))
noncomputable def sT2(d:zj)(V:List (Str×EV))(l:List Sm)(res:Str)(x:Sm)(i:Nat)(q:Nat×Int):zf×Tab:=
 ([(2,Sr res),(3,.one (.bx 4 0)),(4,.one (.bx 1004 0)),(18,pS (yl l)),(19,I l.length),(20,I i),(44,pS (.sl 1 [[yl x.l],[yl x.els]])),(45,I 2),(46,I q.1)],[(1004,some (.box [.bx 0 0,.mp 3,.p (.k (.bool true))]))]++tb (stR d V q.2))
theorem zl9(x:Sm){k:Nat}(hk:k<2):([[yl x.l],[yl x.els]]:List (List PV))[((k:Nat):Int).toNat]?=some [yl (partT x k)]:=by
 match k,hk with
 |0,_=>rfl
 |1,_=>rfl
theorem zfM{d:zj}{vs:List Fld}{V:List (Str×EV)}(hp: ∀p∈d.procs,p.params.length<=1099511627776)(hV:wz V vs)(hty: ∀x∈d.types,x.f.length<=1099511627776)(res:Str):
 ∀(N:Nat) (l:List Sm) (n:Int),sizeOf l<=N->smGs l->l.length<=1000000->0<=n->n+wZ l<=1099511627776->zwL d vs V res l n
 |0,l,n,h,_,_,_,_=>by cases l<;>simp at h
 |N+1,l,n,hN,hg,hl,hn0,hn1=>by
  show zh _ _ _ _ _ _;generalize J:smsT d vs res l n=r;refine gO T Tryz.func177 λC hC=>?_
  repeat' first|refine gG ?_|refine gB ?_ ?_<;>intro h
  rw[uk]
  refine zn (λq:Nat×Int=>q.1<=l.length/\0<=q.2/\q.2+wZ (l.drop q.1)<=1099511627776/\smsT d vs res (l.drop q.1) q.2=r) (sT d V l res) (λq=>l.length - q.1) hC
   (0,n) ⟨uz _,hn0,hn1,J⟩ id gM ?_
  clear J hn0 hn1;rintro⟨i,m⟩ ⟨hi,hm0,U,J⟩;simp only at hi hm0 U J;refine zq T hC true 200 rfl ?_;refine zt rfl ?_ ?_<;>intro h
  ·have hlt:i<l.length:=by simpa [sT]using h
   clear h;obtain⟨x,hx⟩:=zd hlt;have hxg:=ziw hg x (List.mem_of_getElem? hx)
   obtain⟨xe,xa,xl1,xl2,xg1,xg2⟩:(∀y∈x.e,exG y)/\smA x/\x.l.length<=1000000/\x.els.length<=1000000/\smGs x.l/\smGs x.els:=by
    cases x;simpa only[smG,Sm.e,Sm.l,Sm.els]using hxg
   have hS:=zsg hp hV hty x res xe xa;rw[zo5 hx,zsi]at U;rw[drop_at hx]at J;simp only[smsT]at J;rw[zo4]at J;have hw1:IntKind.i64.wrap ((i,m).2+1)=m+1:=by rw[wrap64 (by simp only;omega)]
   by_cases h0:stmT d vs res x=0
   ·rw[uv h0]at J;rw[h0]at hS
    repeat' first|refine gG ?_|exact gD|exact gP|refine gB ?_ ?_<;>intro h|(refine gI T (j4 hx) ?_)|refine gR hS (nm [0,1,2,3]) ?_|(refine gH T [[yl x.l],[yl x.els]] ?_)
    rw[hw1];have hrc:zsh x 0+wZ (l.drop (i+1))+1+m<=1099511627776:=by omega
    refine zn (λq:Nat×Int=>q.1<=2/\0<=q.2/\q.2+zsh x q.1+wZ (l.drop (i+1))<=1099511627776/\(if(rstT d vs res x q.1 q.2).1.2=0 then smsT d vs res (l.drop (i+1)) (rstT d vs res x q.1 q.2).2 else rstT d vs res x q.1 q.2)=r) (sT2 d V l res x i) (λq=>2 - q.1) hC
     (0,m+1) ⟨by simp only;omega,by simp only;omega,by simp only;omega,J⟩ id gM ?_
    clear J hrc hm0 U hw1;rintro⟨k,m1⟩ ⟨hk,hm0,U,J⟩;simp only at hk hm0 U J;refine zq T hC true 200 rfl ?_;refine zt rfl ?_ ?_<;>intro h
    ·have hk2:k<2:=by
      have h9:(k:Int)<2:=uj h;omega
     clear h;rw[zl8 hk2]at U
     have hsz:sizeOf (partT x k)<=N:=by
      have h1:sizeOf x<sizeOf l:=qB (List.mem_of_getElem? hx)
      have h2:sizeOf (partT x k)<sizeOf x:=by
       cases x
       match k with
       |0=>simp only[partT,Sm.l,Sm.mk.sizeOf_spec];omega
       |_+1=>simp only[partT,Sm.els,Sm.mk.sizeOf_spec];omega
      omega
     have hpg:smGs (partT x k):=by
      match k with
      |0=>exact xg1
      |_+1=>exact xg2
     have hpl:(partT x k).length<=1000000:=by
      match k with
      |0=>exact xl1
      |_+1=>exact xl2
     have hI:=zfM hp hV hty res N (partT x k) m1 hsz hpg hpl hm0 ua;have hle:=zei d vs res (partT x k) m1;have hI:zh _ _ _ _ _ _:=hI;rcases zo3 (d:=d) (vs:=vs) (res:=res) (x:=x) (m:=m1) hk2 with⟨hz,hnx⟩|⟨hz,hnx⟩
     ·rw[hnx]at J;generalize smsT d vs res (partT x k) m1=w at hI hle hz J
      repeat' first|refine gG ?_|exact gD|exact gP|refine gB ?_ ?_<;>intro h|(refine gI T (zl9 x hk2) ?_)|refine gR hI (nm [0,1,2,3,4]) ?_
      rw[w7 (by first|omega|(simp only;omega))];exact zg (k+1,w.2) ⟨by simp only;omega,by simp only;omega,by simp only;omega,J⟩ id (by simp only;omega) gM
     ·rw[hnx]at J;generalize smsT d vs res (partT x k) m1=w at hI hle hz J;simp only[uu hz]at J;subst J
      repeat' first|refine gG ?_|exact gD|exact gP|refine gB ?_ ?_<;>intro h|(refine gI T (zl9 x hk2) ?_)|refine gR hI (nm [0,1,2,3,4]) ?_|refine zo ?_
      exact gE
    ·have hk2:k=2:=by
      have h9: ¬(k:Int)<2:=um h;omega
     clear h;subst hk2;simp only[rstT,zsh,uZ]at J U
     repeat' first|refine gG ?_|refine gB ?_ ?_<;>intro h|refine ze ?_
     rw[w7 (by first|omega|(simp only;omega))];exact zg (i+1,m1) ⟨by simp only;omega,by simp only;omega,by simp only;omega,J⟩ id (by simp only;omega) gM
   ·rw[uu h0]at J;rw[uu h0]at J;subst J
    repeat' first|refine gG ?_|exact gD|exact gP|refine gB ?_ ?_<;>intro h|(refine gI T (j4 hx) ?_)|refine gR hS (nm [0,1,2,3]) ?_|refine zo ?_
    rw[hw1];exact gE
  ·have hge: ¬i<l.length:=by simpa [sT]using h
   clear h;rw[uA ua]at J;simp only[smsT]at J;subst J
   repeat' first|refine gG ?_|refine gB ?_ ?_<;>intro h|refine ze ?_
   exact gE
def ftS:Ft->S
 |none=> .one (.p (.k (.pointer none)))
 |some _=> .one (.bx 5 0)
def ftR:Ft->RL
 |none=>[]
 |some f=>[(5,.box [.p (ks f.1),.p (ki f.2.1),.p (ki f.2.2)])]
abbrev zsj(g:FuncId)(d:zj)(F:Ft):Prop:=zh Tryz.prog g [.one (.bx 0 0)] (ckR d 0 1 2) (ftS F) (ckR d 0 1 2++ftR F)
variable {g:α->Nat->Ft}
theorem xb{l:List α}{x:α}(J:l[i]?=some x):firstF g (l.drop i) i=orF (g x i) (firstF g (l.drop (i+1)) (i+1)):=by
 rw[drop_at J];simp only[firstF];cases g x i<;>rfl
theorem yM{l:List α}(hi: ¬i<l.length):firstF g (l.drop i) i=none:=by
 rw[uA ua];rfl
structure vB (d:zj):Prop where
 ty:d.types.length<=1000000
 gl:d.globals.length<=1000000
 pr:d.procs.length<=1000000
 ms:d.measures.length<=1000000
 iv:d.invs.length<=1000000
 pt:d.pots.length<=1000000
 bd:d.bounds.length<=1000000
 tyf: ∀x∈d.types,x.f.length<=1000000
 prp: ∀p∈d.procs,p.params.length<=500000
 prl: ∀p∈d.procs,p.locs.length<=500000
 prb: ∀p∈d.procs,p.body.length<=1000000
 prs: ∀p∈d.procs,smGs p.body
 prc: ∀p∈d.procs,wZ p.body<=1000000
 msx: ∀m∈d.measures,exG m.x
 ivx: ∀m∈d.invs,exG m.x
 ptx: ∀m∈d.pots,exG m.x
 bdx: ∀b∈d.bounds,exG b.x
theorem zma(d:zj)(hd:vB d):zsj 120 d (zcs d):=by
 show zh _ _ _ _ _ _;unfold zcs;generalize hA0:firstF (λ(t:yn) i=>if twB (d.types.map (·.n)) i=true then some (t.n, -1,10)else none) d.types 0=A;generalize hB0:firstF (λ(t:yn) _=>ftE t.n (za1 d t.f)) d.types 0=B;generalize hE0:firstF (λ(f:Fld) i=>if twB (d.globals.map (·.n)) i=true then some (f.n, -1,10)else if wy d f.t=false then some (f.n, -1,9)else none) d.globals 0=E;refine gO T Tryz.func120 λC hC=>?_;have q1:=hd.ty;have q2:=hd.gl
 repeat' first|refine gG ?_|refine gB ?_ ?_<;>intro h
 rw[uk]
 refine zn (λi:Nat=>i<=d.types.length/\firstF (λ(t:yn) i=>if twB (d.types.map (·.n)) i=true then some (t.n, -1,10)else none) (d.types.drop i) i=A) (λi=>([(0,.one (.bx 0 0)),(14,pS (.sl 2 (d.types.map zS))),(15,I d.types.length),(16,I i)],tb (ckR d 0 1 2))) (λi=>d.types.length - i) hC
  0 ⟨uz _,hA0⟩ id gM ?_
 clear hA0;intro i ⟨hi,J⟩;refine zq T hC true 200 rfl ?_;refine zt rfl ?_ ?_<;>intro h
 ·have hlt:i<d.types.length:=by simpa using h
  clear h;obtain⟨x,hx⟩:=zd hlt;rw[xb hx]at J;have hT:=zr2 d.types i hlt;cases hw:twB (d.types.map (·.n)) i with
  |true=>
   rw[hw]at hT J;simp only[uZ,uL,uy,orF]at J;subst J
   repeat' first|refine gG ?_|exact gD|refine gB ?_ ?_<;>intro h|refine gX ?_|refine gC hT ?_|refine zo ?_
   exact zi ⟨.inl rfl,mvL [(5,1031)],_,rfl,.refl _,⟨rfl,rfl,rfl,rfl,uh⟩,rfl,rfl⟩
  |false=>
   rw[hw]at hT J;simp only[uZ,uL,uy,orF]at J
   repeat' first|refine gG ?_|exact gD|refine gB ?_ ?_<;>intro h|refine gX ?_|refine gC hT ?_
   rw[w7 ua];exact zg (i+1) ⟨ua,J⟩ id ua gM
 have U: ¬i<d.types.length:=by simpa using h
 clear h;rw[yM U]at J;subst J;clear hi U
 repeat' first|refine gG ?_|refine gB ?_ ?_<;>intro h|refine ze ?_
 rw[uk]
 refine zn (λi:Nat=>i<=d.types.length/\firstF (λ(t:yn) _=>ftE t.n (za1 d t.f)) (d.types.drop i) i=B) (λi=>([(0,.one (.bx 0 0)),(37,pS (.sl 2 (d.types.map zS))),(38,I d.types.length),(39,I i)],tb (ckR d 0 1 2))) (λi=>d.types.length - i) hC
  0 ⟨uz _,hB0⟩ id gM ?_
 clear hB0;intro i ⟨hi,J⟩;refine zq T hC true 200 rfl ?_;refine zt rfl ?_ ?_<;>intro h
 ·have hlt:i<d.types.length:=by simpa using h
  clear h;obtain⟨x,hx⟩:=zd hlt;rw[xb hx]at J;have hF:=zfG d x.f (by have:=hd.tyf x (List.mem_of_getElem? hx);omega);unfold ftE at J;by_cases hz:za1 d x.f=0
  ·rw[uv hz]at J;simp only[uZ,uL,uy,orF]at J
   repeat' first|refine gG ?_|(exfalso;simp[hz]at h;done)|refine gB ?_ ?_<;>intro h|refine gX ?_|refine gR hF (nm [0,1,2]) ?_
   rw[w7 ua];exact zg (i+1) ⟨ua,J⟩ id ua gM
  ·rw[uu hz]at J;simp only[orF]at J;subst J
   repeat' first|refine gG ?_|(exfalso;simp[hz]at h;done)|refine gB ?_ ?_<;>intro h|refine gX ?_|refine gR hF (nm [0,1,2]) ?_|refine zo ?_
   exact zi ⟨.inl rfl,mvL [(5,1053)],_,rfl,.refl _,⟨rfl,rfl,rfl,rfl,uh⟩,rfl,rfl⟩
 have U: ¬i<d.types.length:=by simpa using h
 clear h;rw[yM U]at J;subst J;clear hi U
 repeat' first|refine gG ?_|refine gB ?_ ?_<;>intro h|refine ze ?_
 rw[uk]
 refine zn (λi:Nat=>i<=d.globals.length/\firstF (λ(f:Fld) i=>if twB (d.globals.map (·.n)) i=true then some (f.n, -1,10)else if wy d f.t=false then some (f.n, -1,9)else none) (d.globals.drop i) i=E) (λi=>([(0,.one (.bx 0 0)),(59,pS (.sl 2 (d.globals.map zw))),(60,I d.globals.length),(61,I i)],tb (ckR d 0 1 2))) (λi=>d.globals.length - i) hC
  0 ⟨uz _,hE0⟩ id gM ?_
 clear hE0;intro i ⟨hi,J⟩;refine zq T hC true 200 rfl ?_;refine zt rfl ?_ ?_<;>intro h
 ·have hlt:i<d.globals.length:=by simpa using h
  clear h;obtain⟨x,hx⟩:=zd hlt;rw[xb hx]at J;have hK:=zee d x.t;have hT:=zr3 d.globals i hlt;cases hw:twB (d.globals.map (·.n)) i with
  |true=>
   rw[hw]at hT J;simp only[uZ,uL,uy,orF]at J;subst J
   repeat' first|refine gG ?_|exact gD|refine gB ?_ ?_<;>intro h|refine gX ?_|refine gC hT ?_|refine zo ?_
   exact zi ⟨.inl rfl,mvL [(5,1076)],_,rfl,.refl _,⟨rfl,rfl,rfl,rfl,uh⟩,rfl,rfl⟩
  |false=>
   rw[hw]at hT J;simp only[uZ,uL,uy,orF]at J;cases hk:wy d x.t with
   |false=>
    rw[hk]at hK J;simp only[uZ,uL,uy,orF]at J;subst J
    repeat' first|refine gG ?_|exact gD|refine gB ?_ ?_<;>intro h|refine gX ?_|refine gC hT ?_|refine gR hK (nm [0,1,2]) ?_|refine zo ?_
    exact zi ⟨.inl rfl,mvL [(5,1085)],_,rfl,.refl _,⟨rfl,rfl,rfl,rfl,uh⟩,rfl,rfl⟩
   |true=>
    rw[hk]at hK J;simp only[ob,uL,orF]at J
    repeat' first|refine gG ?_|exact gD|refine gB ?_ ?_<;>intro h|refine gX ?_|refine gC hT ?_|refine gR hK (nm [0,1,2]) ?_
    rw[w7 ua];exact zg (i+1) ⟨ua,J⟩ id ua gM
 have U: ¬i<d.globals.length:=by simpa using h
 clear h;rw[yM U]at J;subst J;clear hi U
 repeat' first|refine gG ?_|refine gB ?_ ?_<;>intro h|refine ze ?_
 exact gE
theorem zo6(d:zj)(hd:vB d):zsj 121 d (zfB d):=by
 show zh _ _ _ _ _ _;unfold zfB;generalize hA0:firstF (λ(p:Pr) i=>if twB (d.procs.map (·.n)) i=true then some (p.n, -1,10)else if za1 d (p.params++p.locs)=0 then(if ¬p.res=(⟨#[]⟩:UH)/\wy d p.res=false then some (p.n, -1,9)else none)else some (p.n, -1,za1 d (p.params++p.locs))) d.procs 0=A;refine gO T Tryz.func121 λC hC=>?_;have q1:=hd.pr
 repeat' first|refine gG ?_|refine gB ?_ ?_<;>intro h
 rw[uk]
 refine zn (λi:Nat=>i<=d.procs.length/\firstF (λ(p:Pr) i=>if twB (d.procs.map (·.n)) i=true then some (p.n, -1,10)else if za1 d (p.params++p.locs)=0 then(if ¬p.res=(⟨#[]⟩:UH)/\wy d p.res=false then some (p.n, -1,9)else none)else some (p.n, -1,za1 d (p.params++p.locs))) (d.procs.drop i) i=A) (λi=>([(0,.one (.bx 0 0)),(10,pS (.sl 5 (d.procs.map zZ))),(11,I d.procs.length),(12,I i)],tb (ckR d 0 1 2))) (λi=>d.procs.length - i) hC
  0 ⟨uz _,hA0⟩ id gM ?_
 clear hA0;intro i ⟨hi,J⟩;refine zq T hC true 200 rfl ?_;refine zt rfl ?_ ?_<;>intro h
 ·have hlt:i<d.procs.length:=by simpa using h
  clear h;obtain⟨x,hx⟩:=zd hlt;rw[xb hx]at J;have p1:=hd.prp x (List.mem_of_getElem? hx);have p2:=hd.prl x (List.mem_of_getElem? hx);have hK:=zee d x.res;have U:=zdh x.params x.locs p1 p2;have hF:=zfG d (x.params++x.locs) (by rw[uC];omega);have hT:=zr4 d.procs i hlt;cases hw:twB (d.procs.map (·.n)) i with
  |true=>
   rw[hw]at hT J;simp only[uZ,uL,uy,orF]at J;subst J
   repeat' first|refine gG ?_|exact gD|refine gB ?_ ?_<;>intro h|refine gX ?_|refine gC hT ?_|refine zo ?_
   exact zi ⟨.inl rfl,mvL [(5,1027)],_,rfl,.refl _,⟨rfl,rfl,rfl,rfl,uh⟩,rfl,rfl⟩
  |false=>
   rw[hw]at hT J;simp only[uZ,uL,uy,orF]at J;by_cases hz:za1 d (x.params++x.locs)=0
   ·rw[uv hz]at J;rw[hz]at hF;by_cases hy:x.res=(⟨#[]⟩:UH)
    ·rw[uu (by simp[hy])]at J;simp only[orF]at J
     repeat' first|refine gG ?_|exact gD|(exfalso;simp[hy]at h;done)|refine gB ?_ ?_<;>intro h|refine gX ?_|refine gC hT ?_|(refine gH T [[zx x.params],[zx x.locs]] ?_)|refine gC U ?_|refine gR hF (nm [0,1,2]) ?_|refine gR hK (nm [0,1,2]) ?_
     rw[w7 ua];exact zg (i+1) ⟨ua,J⟩ id ua gM
    ·cases hk:wy d x.res with
     |false=>
      rw[hk]at hK J;rw[uv ⟨hy,rfl⟩]at J;simp only[orF]at J;subst J
      repeat' first|refine gG ?_|exact gD|(exfalso;simp[hy]at h;done)|refine gB ?_ ?_<;>intro h|refine gX ?_|refine gC hT ?_|(refine gH T [[zx x.params],[zx x.locs]] ?_)|refine gC U ?_|refine gR hF (nm [0,1,2]) ?_|refine gR hK (nm [0,1,2]) ?_|refine zo ?_
      exact zi ⟨.inl rfl,mvL [(5,1056)],_,rfl,.refl _,⟨rfl,rfl,rfl,rfl,uh⟩,rfl,rfl⟩
     |true=>
      rw[hk]at hK J;rw[uu ue]at J;simp only[orF]at J
      repeat' first|refine gG ?_|exact gD|(exfalso;simp[hy]at h;done)|refine gB ?_ ?_<;>intro h|refine gX ?_|refine gC hT ?_|(refine gH T [[zx x.params],[zx x.locs]] ?_)|refine gC U ?_|refine gR hF (nm [0,1,2]) ?_|refine gR hK (nm [0,1,2]) ?_
      rw[w7 ua];exact zg (i+1) ⟨ua,J⟩ id ua gM
   ·rw[uu hz]at J;simp only[orF]at J;subst J
    repeat' first|refine gG ?_|exact gD|(exfalso;simp[hz]at h;done)|refine gB ?_ ?_<;>intro h|refine gX ?_|refine gC hT ?_|(refine gH T [[zx x.params],[zx x.locs]] ?_)|refine gC U ?_|refine gR hF (nm [0,1,2]) ?_|refine gR hK (nm [0,1,2]) ?_|refine zo ?_
    exact zi ⟨.inl rfl,mvL [(5,1042)],_,rfl,.refl _,⟨rfl,rfl,rfl,rfl,uh⟩,rfl,rfl⟩
 have hge: ¬i<d.procs.length:=by simpa using h
 clear h;rw[yM hge]at J;subst J;clear hi hge
 repeat' first|refine gG ?_|refine gB ?_ ?_<;>intro h|refine ze ?_
 exact gE
theorem zg4(d:zj)(hd:vB d):zsj 122 d (zd8 d):=by
 show zh _ _ _ _ _ _;unfold zd8;generalize hA0:firstF (λ(m:Ms) i=>if twB (d.measures.map (·.n)) i=true then some (m.n, -1,10)else if xN d m.t=false then some (m.n, -1,9)else none) d.measures 0=A;generalize hB0:firstF (λ(m:Iv) i=>if twB (d.invs.map (·.n)) i=true then some (m.n, -1,10)else if ¬m.t=(⟨#[]⟩:UH)/\xN d m.t=false then some (m.n, -1,9)else none) d.invs 0=B;generalize hE0:firstF (λ(m:Pt) _=>if ¬m.t=(⟨#[]⟩:UH)/\xN d m.t=false then some ((⟨#[112,111,116,101,110,116,105,97,108]⟩:UH), -1,9)else none) d.pots 0=E;generalize hG0:firstF (λ(b:Bd) i=>if(zjq d b.p).isSome=false then some (b.p, -1,9)else if twB (d.bounds.map (·.p)) i=true then some (b.p, -1,10)else none) d.bounds 0=G;refine gO T Tryz.func122 λC hC=>?_;have q1:=hd.ms;have q2:=hd.iv;have q3:=hd.pt;have q4:=hd.bd
 repeat' first|refine gG ?_|refine gB ?_ ?_<;>intro h
 rw[uk]
 refine zn (λi:Nat=>i<=d.measures.length/\firstF (λ(m:Ms) i=>if twB (d.measures.map (·.n)) i=true then some (m.n, -1,10)else if xN d m.t=false then some (m.n, -1,9)else none) (d.measures.drop i) i=A) (λi=>([(0,.one (.bx 0 0)),(17,pS (.sl 7 (d.measures.map yq))),(18,I d.measures.length),(19,I i)],tb (ckR d 0 1 2))) (λi=>d.measures.length - i) hC
  0 ⟨uz _,hA0⟩ id gM ?_
 clear hA0;intro i ⟨hi,J⟩;refine zq T hC true 200 rfl ?_;refine zt rfl ?_ ?_<;>intro h
 ·have hlt:i<d.measures.length:=by simpa using h
  clear h;obtain⟨x,hx⟩:=zd hlt;rw[xb hx]at J;have hK:=zah d x.t;have hT:=zr5 d.measures i hlt;cases hw:twB (d.measures.map (·.n)) i with
  |true=>
   rw[hw]at hT J;simp only[uZ,uL,uy,orF]at J;subst J
   repeat' first|refine gG ?_|exact gD|refine gB ?_ ?_<;>intro h|refine gX ?_|refine gC hT ?_|refine zo ?_
   exact zi ⟨.inl rfl,mvL [(5,1034)],_,rfl,.refl _,⟨rfl,rfl,rfl,rfl,uh⟩,rfl,rfl⟩
  |false=>
   rw[hw]at hT J;simp only[uZ,uL,uy,orF]at J;cases hk:xN d x.t with
   |false=>
    rw[hk]at hK J;simp only[uZ,uL,uy,orF]at J;subst J
    repeat' first|refine gG ?_|exact gD|refine gB ?_ ?_<;>intro h|refine gX ?_|refine gC hT ?_|refine gR hK (nm [0,1,2]) ?_|refine zo ?_
    exact zi ⟨.inl rfl,mvL [(5,1043)],_,rfl,.refl _,⟨rfl,rfl,rfl,rfl,uh⟩,rfl,rfl⟩
   |true=>
    rw[hk]at hK J;simp only[ob,uL,orF]at J
    repeat' first|refine gG ?_|exact gD|refine gB ?_ ?_<;>intro h|refine gX ?_|refine gC hT ?_|refine gR hK (nm [0,1,2]) ?_
    rw[w7 ua];exact zg (i+1) ⟨ua,J⟩ id ua gM
 have U: ¬i<d.measures.length:=by simpa using h
 clear h;rw[yM U]at J;subst J;clear hi U
 repeat' first|refine gG ?_|refine gB ?_ ?_<;>intro h|refine ze ?_
 rw[uk]
 refine zn (λi:Nat=>i<=d.invs.length/\firstF (λ(m:Iv) i=>if twB (d.invs.map (·.n)) i=true then some (m.n, -1,10)else if ¬m.t=(⟨#[]⟩:UH)/\xN d m.t=false then some (m.n, -1,9)else none) (d.invs.drop i) i=B) (λi=>([(0,.one (.bx 0 0)),(49,pS (.sl 6 (d.invs.map zgH))),(50,I d.invs.length),(51,I i)],tb (ckR d 0 1 2))) (λi=>d.invs.length - i) hC
  0 ⟨uz _,hB0⟩ id gM ?_
 clear hB0;intro i ⟨hi,J⟩;refine zq T hC true 200 rfl ?_;refine zt rfl ?_ ?_<;>intro h
 ·have hlt:i<d.invs.length:=by simpa using h
  clear h;obtain⟨x,hx⟩:=zd hlt;rw[xb hx]at J;have hK:=zah d x.t;have hT:=zr6 d.invs i hlt;cases hw:twB (d.invs.map (·.n)) i with
  |true=>
   rw[hw]at hT J;simp only[uZ,uL,uy,orF]at J;subst J
   repeat' first|refine gG ?_|exact gD|refine gB ?_ ?_<;>intro h|refine gX ?_|refine gC hT ?_|refine zo ?_
   exact zi ⟨.inl rfl,mvL [(5,1066)],_,rfl,.refl _,⟨rfl,rfl,rfl,rfl,uh⟩,rfl,rfl⟩
  |false=>
   rw[hw]at hT J;simp only[uZ,uL,uy,orF]at J;by_cases hy:x.t=(⟨#[]⟩:UH)
   ·rw[uu (by simp[hy])]at J;simp only[orF]at J
    repeat' first|refine gG ?_|exact gD|(exfalso;simp[hy]at h;done)|refine gB ?_ ?_<;>intro h|refine gX ?_|refine gC hT ?_|refine gR hK (nm [0,1,2]) ?_
    rw[w7 ua];exact zg (i+1) ⟨ua,J⟩ id ua gM
   ·cases hk:xN d x.t with
    |false=>
     rw[hk]at hK J;rw[uv ⟨hy,rfl⟩]at J;simp only[orF]at J;subst J
     repeat' first|refine gG ?_|exact gD|(exfalso;simp[hy]at h;done)|refine gB ?_ ?_<;>intro h|refine gX ?_|refine gC hT ?_|refine gR hK (nm [0,1,2]) ?_|refine zo ?_
     exact zi ⟨.inl rfl,mvL [(5,1080)],_,rfl,.refl _,⟨rfl,rfl,rfl,rfl,uh⟩,rfl,rfl⟩
    |true=>
     rw[hk]at hK J;rw[uu ue]at J;simp only[orF]at J
     repeat' first|refine gG ?_|exact gD|(exfalso;simp[hy]at h;done)|refine gB ?_ ?_<;>intro h|refine gX ?_|refine gC hT ?_|refine gR hK (nm [0,1,2]) ?_
     rw[w7 ua];exact zg (i+1) ⟨ua,J⟩ id ua gM
 have U: ¬i<d.invs.length:=by simpa using h
 clear h;rw[yM U]at J;subst J;clear hi U
 repeat' first|refine gG ?_|refine gB ?_ ?_<;>intro h|refine ze ?_
 rw[uk]
 refine zn (λi:Nat=>i<=d.pots.length/\firstF (λ(m:Pt) _=>if ¬m.t=(⟨#[]⟩:UH)/\xN d m.t=false then some ((⟨#[112,111,116,101,110,116,105,97,108]⟩:UH), -1,9)else none) (d.pots.drop i) i=E) (λi=>([(0,.one (.bx 0 0)),(86,pS (.sl 5 (d.pots.map zc5))),(87,I d.pots.length),(88,I i)],tb (ckR d 0 1 2))) (λi=>d.pots.length - i) hC
  0 ⟨uz _,hE0⟩ id gM ?_
 clear hE0;intro i ⟨hi,J⟩;refine zq T hC true 200 rfl ?_;refine zt rfl ?_ ?_<;>intro h
 ·have hlt:i<d.pots.length:=by simpa using h
  clear h;obtain⟨x,hx⟩:=zd hlt;rw[xb hx]at J;have hK:=zah d x.t;by_cases hy:x.t=(⟨#[]⟩:UH)
  ·rw[uu (by simp[hy])]at J;simp only[orF]at J
   repeat' first|refine gG ?_|exact gD|(exfalso;simp[hy]at h;done)|refine gB ?_ ?_<;>intro h|refine gX ?_|refine gR hK (nm [0,1,2]) ?_
   rw[w7 ua];exact zg (i+1) ⟨ua,J⟩ id ua gM
  ·cases hk:xN d x.t with
   |false=>
    rw[hk]at hK J;rw[uv ⟨hy,rfl⟩]at J;simp only[orF]at J;subst J
    repeat' first|refine gG ?_|exact gD|(exfalso;simp[hy]at h;done)|refine gB ?_ ?_<;>intro h|refine gX ?_|refine gR hK (nm [0,1,2]) ?_|refine zo ?_
    exact zi ⟨.inl rfl,mvL [(5,1103)],_,rfl,.refl _,⟨rfl,rfl,rfl,rfl,uh⟩,rfl,rfl⟩
   |true=>
    rw[hk]at hK J;rw[uu ue]at J;simp only[orF]at J
    repeat' first|refine gG ?_|exact gD|(exfalso;simp[hy]at h;done)|refine gB ?_ ?_<;>intro h|refine gX ?_|refine gR hK (nm [0,1,2]) ?_
    rw[w7 ua];exact zg (i+1) ⟨ua,J⟩ id ua gM
 have U: ¬i<d.pots.length:=by simpa using h
 clear h;rw[yM U]at J;subst J;clear hi U
 repeat' first|refine gG ?_|refine gB ?_ ?_<;>intro h|refine ze ?_
 rw[uk]
 refine zn (λi:Nat=>i<=d.bounds.length/\firstF (λ(b:Bd) i=>if(zjq d b.p).isSome=false then some (b.p, -1,9)else if twB (d.bounds.map (·.p)) i=true then some (b.p, -1,10)else none) (d.bounds.drop i) i=G) (λi=>([(0,.one (.bx 0 0)),(109,pS (.sl 5 (d.bounds.map xC))),(110,I d.bounds.length),(111,I i)],tb (ckR d 0 1 2))) (λi=>d.bounds.length - i) hC
  0 ⟨uz _,hG0⟩ id gM ?_
 clear hG0;intro i ⟨hi,J⟩;refine zq T hC true 200 rfl ?_;refine zt rfl ?_ ?_<;>intro h
 ·have hlt:i<d.bounds.length:=by simpa using h
  clear h;obtain⟨x,hx⟩:=zd hlt;rw[xb hx]at J;have hT:=zr7 d.bounds i hlt;have hg:=zed d x.p;cases hpr:zjq d x.p with
  |none=>
   rw[hpr]at hg J;simp only[Option.isSome,uZ,orF]at J;subst J
   repeat' first|refine gG ?_|exact gD|refine gB ?_ ?_<;>intro h|refine gX ?_|refine gC hT ?_|(refine yH (et:=90) kS hC (c0:= .agg #[.string (⟨#[]⟩:UH),.slice none 0 0,.string (⟨#[]⟩:UH),.slice none 0 0,.slice none 0 0]) (.g [ks (⟨#[]⟩:UH),.k (.slice none 0 0),ks (⟨#[]⟩:UH),.k (.slice none 0 0),.k (.slice none 0 0)]) (pv:= .g [ks (⟨#[]⟩:UH),.k (.slice none 0 0),ks (⟨#[]⟩:UH),.k (.slice none 0 0),.k (.slice none 0 0)]) (b:=false) rfl rfl rfl ud ud zbk (by rw[hg];rfl) (by rw[hg];rfl) rfl rfl ?_)|refine zo ?_
   exact zi ⟨.inl rfl,mvL [(5,1131)],_,rfl,.refl _,⟨rfl,rfl,rfl,rfl,uh⟩,rfl,rfl⟩
  |some p=>
   rw[hpr]at hg J;simp only[Option.isSome,ob,uL]at J;cases hw:twB (d.bounds.map (·.p)) i with
   |true=>
    rw[hw]at hT J;simp only[uZ,uL,uy,orF]at J;subst J
    repeat' first|refine gG ?_|exact gD|refine gB ?_ ?_<;>intro h|refine gX ?_|refine gC hT ?_|(refine yH (et:=90) kS hC (c0:= .agg #[.string (⟨#[]⟩:UH),.slice none 0 0,.string (⟨#[]⟩:UH),.slice none 0 0,.slice none 0 0]) (.g [ks (⟨#[]⟩:UH),.k (.slice none 0 0),ks (⟨#[]⟩:UH),.k (.slice none 0 0),.k (.slice none 0 0)]) (pv:= .g (zZ p)) (b:=true) rfl rfl rfl ud ud zbk (by rw[hg];rfl) (by rw[hg];rfl) rfl rfl ?_)|refine zo ?_
    exact zi ⟨.inl rfl,mvL [(5,1142)],_,rfl,.refl _,⟨rfl,rfl,rfl,rfl,uh⟩,rfl,rfl⟩
   |false=>
    rw[hw]at hT J;simp only[uZ,uL,uy,orF]at J
    repeat' first|refine gG ?_|exact gD|refine gB ?_ ?_<;>intro h|refine gX ?_|refine gC hT ?_|(refine yH (et:=90) kS hC (c0:= .agg #[.string (⟨#[]⟩:UH),.slice none 0 0,.string (⟨#[]⟩:UH),.slice none 0 0,.slice none 0 0]) (.g [ks (⟨#[]⟩:UH),.k (.slice none 0 0),ks (⟨#[]⟩:UH),.k (.slice none 0 0),.k (.slice none 0 0)]) (pv:= .g (zZ p)) (b:=true) rfl rfl rfl ud ud zbk (by rw[hg];rfl) (by rw[hg];rfl) rfl rfl ?_)
    rw[w7 ua];exact zg (i+1) ⟨ua,J⟩ id ua gM
 have U: ¬i<d.bounds.length:=by simpa using h
 clear h;rw[yM U]at J;subst J;clear hi U
 repeat' first|refine gG ?_|refine gB ?_ ?_<;>intro h|refine ze ?_
 exact gE
theorem zg5(d:zj)(p:Pr):wz (vsM [p.params,p.locs] d.globals) (zka d p):=by
 have:=zl1 [p.params,p.locs] d.globals;simpa [zka]using this
theorem zfN(d:zj)(p:Pr):wz (vsM [p.params] d.globals) (p.params++d.globals):=by
 have:=zl1 [p.params] d.globals;simpa using this
theorem vB.zvb(J:vB d): ∀p∈d.procs,p.params.length<=1099511627776:=λp U=>by have:=J.prp p U;omega
theorem vB.zvM(J:vB d): ∀x∈d.types,x.f.length<=1099511627776:=λp U=>by have:=J.tyf p U;omega
theorem zbI(hd:vB d){vs:List Fld}{V:List (Str×EV)}(hV:wz V vs)(s:Str)(e:Ex)(w:Str)(hg:exG e):
 zh Tryz.prog 178 [scS false 0 3,Sr s,zF (ye e),Sr w] (scL d V) (ftS (xt d vs s e w)) (scL d V++ftR (xt d vs s e w)):=by
 have J:=zbH false hd.zvb hV hd.zvM e hg;have J:zh _ _ _ _ _ _:=J;unfold xt;generalize exT d vs false e=q at J⊢;obtain⟨t,f⟩:=q;simp only at J⊢;by_cases U:f=0
 ·rw[uv U];by_cases ht:t=w
  ·rw[uv ht];refine gO T Tryz.func178 λC hC=>?_
   repeat' first|refine gG ?_|(exfalso;simp[U]at h;done)|(exfalso;simp[ht]at h;done)|refine gB ?_ ?_<;>intro h|refine gR J (nm [0,1,2,3]) ?_|refine ze ?_
   exact gE
  ·rw[uu ht];refine gO T Tryz.func178 λC hC=>?_
   repeat' first|refine gG ?_|(exfalso;simp[U]at h;done)|(exfalso;simp[ht]at h;done)|refine gB ?_ ?_<;>intro h|refine gR J (nm [0,1,2,3]) ?_|refine ze ?_
   exact zi ⟨.inl rfl,mvL [(5,1030)],_,rfl,.refl _,⟨rfl,rfl,rfl,rfl,rfl,uh⟩,rfl,rfl⟩
 ·rw[uu U];refine gO T Tryz.func178 λC hC=>?_
  repeat' first|refine gG ?_|(exfalso;simp[U]at h;done)|refine gB ?_ ?_<;>intro h|refine gR J (nm [0,1,2,3]) ?_|refine ze ?_
  exact zi ⟨.inl rfl,mvL [(5,1023)],_,rfl,.refl _,⟨rfl,rfl,rfl,rfl,rfl,uh⟩,rfl,rfl⟩
theorem zmb(d:zj)(U:vB d):zsj 123 d (zct d):=by
 show zh _ _ _ _ _ _;unfold zct;generalize hA0:firstF (λ(p:Pr) _=>if(smsT d (zka d p) p.res p.body 0).1.2=0 then none else some (p.n,(smsT d (zka d p) p.res p.body 0).1.1,(smsT d (zka d p) p.res p.body 0).1.2)) d.procs 0=A;refine gO T Tryz.func123 λC hC=>?_;have q1:=U.pr
 repeat' first|refine gG ?_|refine gB ?_ ?_<;>intro h
 rw[uk]
 refine zn (λi:Nat=>i<=d.procs.length/\firstF (λ(p:Pr) _=>if(smsT d (zka d p) p.res p.body 0).1.2=0 then none else some (p.n,(smsT d (zka d p) p.res p.body 0).1.1,(smsT d (zka d p) p.res p.body 0).1.2)) (d.procs.drop i) i=A) (λi=>([(0,.one (.bx 0 0)),(12,pS (.sl 5 (d.procs.map zZ))),(13,I d.procs.length),(14,I i)],tb (ckR d 0 1 2))) (λi=>d.procs.length - i) hC
  0 ⟨uz _,hA0⟩ id gM ?_
 clear hA0;intro i ⟨hi,J⟩;refine zq T hC true 200 rfl ?_;refine zt rfl ?_ ?_<;>intro h
 ·have hlt:i<d.procs.length:=by simpa using h
  clear h;obtain⟨x,hx⟩:=zd hlt;rw[xb hx]at J;have hm:=List.mem_of_getElem? hx;have hP:=zl3 d x (by have:=U.gl;omega) (by have:=U.prp x hm;omega) (by have:=U.prl x hm;omega);have hS:=zfM U.zvb (zg5 d x) U.zvM x.res _ x.body 0 (uF _) (U.prs x hm) (U.prb x hm) ua (by have:=U.prc x hm;omega);have hS:zh _ _ _ _ _ _:=hS;generalize smsT d (zka d x) x.res x.body 0=q at hS J;by_cases h0:q.1.2=0
  ·rw[uv h0]at J;simp only[orF]at J
   repeat' first|refine gG ?_|(exfalso;simp[h0]at h;done)|refine gB ?_ ?_<;>intro h|refine gX ?_|refine gR hP (nm [0,1,2,103]) ?_|refine gR hS (nm [0,1,2,103,1005]) ?_
   rw[w7 ua];exact zg (i+1) ⟨ua,J⟩ id ua gM
  ·rw[uu h0]at J;simp only[orF]at J;subst J
   repeat' first|refine gG ?_|(exfalso;simp[h0]at h;done)|refine gB ?_ ?_<;>intro h|refine gX ?_|refine gR hP (nm [0,1,2,103]) ?_|refine gR hS (nm [0,1,2,103,1005]) ?_|refine zo ?_
   exact zi ⟨.inl rfl,mvL [(5,1036)],_,rfl,.refl _,⟨rfl,rfl,rfl,rfl,uh⟩,rfl,rfl⟩
 have hge: ¬i<d.procs.length:=by simpa using h
 clear h;rw[yM hge]at J;subst J
 repeat' first|refine gG ?_|refine gB ?_ ?_<;>intro h|refine ze ?_
 exact gE
end Hw.Gm
namespace Hw
open Go
variable {P:Program}{af:Array Edge}{d:Option Nat}{g:Option (Nat×Bool)}{ps:String}{t:TypeId}{x:Operand}
section
variable {ty:TypeId} {y:Operand}
end
variable {C:Ctx}{Q:Exit->St->Prop}{all:Array Oper}{rest:List Oper}{tab:Tab}
section
variable {k:List Frm} {n:Nat} {sl:zf}
end
variable {b:Bool}{te:TypeId}
section
variable {ty:TypeId} {t':TypeId}
theorem zo7(w:World)(J:P.underlying t=some (.pointer te))(a:Option Addr):(binOp .neq t (.pointer a) (.pointer none)).run P w= .ok (.bool (!a.isNone)) w:=by
 have h: ∀d:Nat,(Op.equalIn (d+1) t (.pointer a) (.pointer none)).run P w= .ok a.isNone w:=λd=>by
  cases a<;>simp[Op.equalIn,run_underlying J]
 simp only[binOp];simp[Op.equal,Op.maxDepth,h 9999]
def ptrB:S->Option Bool
 | .one (.bx _ _)=>some false
 | .one (.p (.k (.pointer none)))=>some true
 |_=>none
theorem zsk{st:St}{M:Mem}{ρ:Nat->Value}{a:Act}{w:World}{s:S}{v:Value}(hH:Holds C st M ρ a w)(J:ptrB s=some b)(U:RepS M ρ s v): ∃q:Option Addr,v= .pointer q/\q.isNone=b:=by
 unfold ptrB at J;split at J
 ·simp only[RepS,RepV]at U;obtain⟨b',_,h2⟩:=U;cases J;exact⟨_,h2,rfl⟩
 ·simp only[RepS,RepV,RepPV]at U;cases J;exact⟨_,U.1,rfl⟩
 ·cases J
theorem zuv{s:S}(U:okc x s)(hs:ptrB s=some b)(hp:P.underlying t=some (.pointer te)):
 Snd P ⟨d,.binOp .neq t x (.const (.pointer none)) t',ty,ps,af,g⟩ (rq x s) [] [] (Bo (!b)) []:=
 zm λC st M ρ a w J h1 _=>by
  obtain⟨q,e1,rfl⟩:=zsk J hs (J.evS (zz U h1));have hc:a.eval (.const (.pointer none))= .pointer none:=rfl;have hg:(eqGuard .neq t x (.const (.pointer none)) (.pointer q) (.pointer none)).run P w= .ok () w:=by cases q<;>rfl
  exact⟨.bool (!q.isNone),by simp only[execOp,e1,hc,Sem.run_bind,hg,zo7 w hp,Result.andThen_ok,Sem.run_pure],by simp only[RepS,RepV,RepPV];exact⟨uh,rfl⟩⟩
end
section
variable {k:List Frm} {n:Nat} {sl:zf}
theorem xd{d:Nat}{t' ty:TypeId}{g0:Option (Nat×Bool)}{gs:zf}{md:Mode}(hC:C.low){s:S}(U:ev sl x=some s)(hs:ptrB s=some b)(hp:P.underlying t=some (.pointer te))(hm:metL all sl g0=some gs)(hd:Nat.blt d n=true)
 (g:Goal P C (.ops all rest (nx md ⟨some d,gs++rq x s,[],[],Bo (!b),[]⟩)) k n ((d,Bo (!b))::sl) tab Q):
 Goal P C (.ops all (⟨some d,.binOp .neq t x (.const (.pointer none)) t',ty,ps,af,g0⟩::rest) md) k n sl tab Q:=by
 have J:=zB (st:=⟨n,sl,tab⟩) U;have:=zk hm (zuv (P:=P) (ty:=ty) (ps:=ps) (af:=af) (g:=g0) (d:=some d) (t':=t') J.1 hs hp) (n:=n) (tab:=tab);exact zT (L:=⟨some d,gs++rq x s,[],[],Bo (!b),[]⟩) hC this.1 rfl ⟨by rw[za];exact⟨this.2,J.2⟩,trivial,rfl,hd⟩ g
end
end Hw
namespace Hw.Gm
open Go Go.Proofs Hw.M Ps
theorem zju{d:zj}(h:zd8 d=none): ∀(i:Nat) (b:Bd),d.bounds[i]?=some b-> ∃p,zjq d b.p=some p:=by
 unfold zd8 at h;have orN: ∀ {a b:Ft},orF a b=none->a=none/\b=none:=λ{a b} h=>by cases a<;>simp_all[orF]
 have h4:=(orN (orN (orN h).2).2).2
 have key: ∀(l:List Bd) (k:Nat),firstF (λ(b:Bd) i=>if(zjq d b.p).isSome=false then some (b.p, -1,9)else if twB (d.bounds.map (·.p)) i=true then some (b.p, -1,10)else none) l k=none-> ∀b∈l,(zjq d b.p).isSome=true:=λl=>by
  induction l with
  |nil=>intro k _ b J;cases J
  |cons x r ih=>
   intro k h b J;simp only[firstF]at h;cases hx:(zjq d x.p).isSome with
   |false=>rw[hx]at h;simp at h
   |true=>
    rcases uI.1 J with rfl|J
    ·exact hx
    ·split at h
     ·cases h
     ·exact ih _ h b J
 intro i b J;have:=key d.bounds 0 h4 b (List.mem_of_getElem? J);cases e:zjq d b.p with
 |none=>rw[e]at this;cases this
 |some p=>exact⟨p,rfl⟩
theorem zmc(d:zj)(hd:vB d)(hform:zd8 d=none):zsj 124 d (zdj d):=by
 show zh _ _ _ _ _ _;unfold zdj;have q0:d.globals.length<=1099511627776:=by have:=hd.gl;omega
 generalize hA0:firstF (λ(m:Ms) _=>xt d (zd9 d m.t) m.n m.x (⟨#[105,110,116]⟩:UH)) d.measures 0=A;generalize hB0:firstF (λ(m:Iv) _=>xt d (zd9 d m.t) m.n m.x (⟨#[98,111,111,108]⟩:UH)) d.invs 0=B;generalize hE0:firstF (λ(m:Pt) _=>xt d (zd9 d m.t) (⟨#[112,111,116,101,110,116,105,97,108]⟩:UH) m.x (⟨#[105,110,116]⟩:UH)) d.pots 0=E;generalize hG0:firstF (λ(b:Bd) _=>xt d (ztl d b.p) b.p b.x (⟨#[105,110,116]⟩:UH)) d.bounds 0=G;refine gO T Tryz.func124 λC hC=>?_;have q1:=hd.ms;have q2:=hd.iv;have q3:=hd.pt;have q4:=hd.bd
 repeat' first|refine gG ?_|refine gB ?_ ?_<;>intro h
 rw[uk]
 refine zn (λi:Nat=>i<=d.measures.length/\firstF (λ(m:Ms) _=>xt d (zd9 d m.t) m.n m.x (⟨#[105,110,116]⟩:UH)) (d.measures.drop i) i=A) (λi=>([(0,.one (.bx 0 0)),(19,pS (.sl 7 (d.measures.map yq))),(20,I d.measures.length),(21,I i)],tb (ckR d 0 1 2))) (λi=>d.measures.length - i) hC
  0 ⟨uz _,hA0⟩ id gM ?_
 clear hA0;intro i ⟨hi,J⟩;refine zq T hC true 200 rfl ?_;refine zt rfl ?_ ?_<;>intro h
 ·have hlt:i<d.measures.length:=by simpa using h
  clear h;obtain⟨x,hx⟩:=zd hlt;rw[xb hx]at J;obtain⟨V,hV,hS⟩:=zaK d x.t q0;have hT:=zbI hd hV x.n x.x (⟨#[105,110,116]⟩:UH) (hd.msx x (List.mem_of_getElem? hx));generalize xt d (zd9 d x.t) x.n x.x (⟨#[105,110,116]⟩:UH)=F at hT J;cases F with
  |none=>
   simp only[ftS,ftR,u0]at hT;simp only[orF]at J
   repeat' first|refine gG ?_|exact gD|refine gB ?_ ?_<;>intro h|refine gX ?_|(refine xd hC (te:=171) rfl rfl ud rfl rfl ?_)|refine gR hS (nm [0,1,2,103]) ?_|refine gR hT (nm [0,1,2,103]) ?_
   rw[w7 ua];exact zg (i+1) ⟨ua,J⟩ id ua gM
  |some f=>
   simp only[ftS,ftR]at hT;simp only[orF]at J;subst J
   repeat' first|refine gG ?_|exact gD|refine gB ?_ ?_<;>intro h|refine gX ?_|(refine xd hC (te:=171) rfl rfl ud rfl rfl ?_)|refine gR hS (nm [0,1,2,103]) ?_|refine gR hT (nm [0,1,2,103,104,105]) ?_|refine zo ?_
   exact zi ⟨.inl rfl,mvL [(5,105)],_,rfl,.refl _,⟨rfl,rfl,rfl,rfl,uh⟩,rfl,rfl⟩
 have U: ¬i<d.measures.length:=by simpa using h
 clear h;rw[yM U]at J;subst J;clear hi U
 repeat' first|refine gG ?_|refine gB ?_ ?_<;>intro h|refine ze ?_
 rw[uk]
 refine zn (λi:Nat=>i<=d.invs.length/\firstF (λ(m:Iv) _=>xt d (zd9 d m.t) m.n m.x (⟨#[98,111,111,108]⟩:UH)) (d.invs.drop i) i=B) (λi=>([(0,.one (.bx 0 0)),(42,pS (.sl 6 (d.invs.map zgH))),(43,I d.invs.length),(44,I i)],tb (ckR d 0 1 2))) (λi=>d.invs.length - i) hC
  0 ⟨uz _,hB0⟩ id gM ?_
 clear hB0;intro i ⟨hi,J⟩;refine zq T hC true 200 rfl ?_;refine zt rfl ?_ ?_<;>intro h
 ·have hlt:i<d.invs.length:=by simpa using h
  clear h;obtain⟨x,hx⟩:=zd hlt;rw[xb hx]at J;obtain⟨V,hV,hS⟩:=zaK d x.t q0;have hT:=zbI hd hV x.n x.x (⟨#[98,111,111,108]⟩:UH) (hd.ivx x (List.mem_of_getElem? hx));generalize xt d (zd9 d x.t) x.n x.x (⟨#[98,111,111,108]⟩:UH)=F at hT J;cases F with
  |none=>
   simp only[ftS,ftR,u0]at hT;simp only[orF]at J
   repeat' first|refine gG ?_|exact gD|refine gB ?_ ?_<;>intro h|refine gX ?_|(refine xd hC (te:=171) rfl rfl ud rfl rfl ?_)|refine gR hS (nm [0,1,2,103]) ?_|refine gR hT (nm [0,1,2,103]) ?_
   rw[w7 ua];exact zg (i+1) ⟨ua,J⟩ id ua gM
  |some f=>
   simp only[ftS,ftR]at hT;simp only[orF]at J;subst J
   repeat' first|refine gG ?_|exact gD|refine gB ?_ ?_<;>intro h|refine gX ?_|(refine xd hC (te:=171) rfl rfl ud rfl rfl ?_)|refine gR hS (nm [0,1,2,103]) ?_|refine gR hT (nm [0,1,2,103,104,105]) ?_|refine zo ?_
   exact zi ⟨.inl rfl,mvL [(5,105)],_,rfl,.refl _,⟨rfl,rfl,rfl,rfl,uh⟩,rfl,rfl⟩
 have U: ¬i<d.invs.length:=by simpa using h
 clear h;rw[yM U]at J;subst J;clear hi U
 repeat' first|refine gG ?_|refine gB ?_ ?_<;>intro h|refine ze ?_
 rw[uk]
 refine zn (λi:Nat=>i<=d.pots.length/\firstF (λ(m:Pt) _=>xt d (zd9 d m.t) (⟨#[112,111,116,101,110,116,105,97,108]⟩:UH) m.x (⟨#[105,110,116]⟩:UH)) (d.pots.drop i) i=E) (λi=>([(0,.one (.bx 0 0)),(65,pS (.sl 5 (d.pots.map zc5))),(66,I d.pots.length),(67,I i)],tb (ckR d 0 1 2))) (λi=>d.pots.length - i) hC
  0 ⟨uz _,hE0⟩ id gM ?_
 clear hE0;intro i ⟨hi,J⟩;refine zq T hC true 200 rfl ?_;refine zt rfl ?_ ?_<;>intro h
 ·have hlt:i<d.pots.length:=by simpa using h
  clear h;obtain⟨x,hx⟩:=zd hlt;rw[xb hx]at J;obtain⟨V,hV,hS⟩:=zaK d x.t q0;have hT:=zbI hd hV (⟨#[112,111,116,101,110,116,105,97,108]⟩:UH) x.x (⟨#[105,110,116]⟩:UH) (hd.ptx x (List.mem_of_getElem? hx));generalize xt d (zd9 d x.t) (⟨#[112,111,116,101,110,116,105,97,108]⟩:UH) x.x (⟨#[105,110,116]⟩:UH)=F at hT J;cases F with
  |none=>
   simp only[ftS,ftR,u0]at hT;simp only[orF]at J
   repeat' first|refine gG ?_|exact gD|refine gB ?_ ?_<;>intro h|refine gX ?_|(refine xd hC (te:=171) rfl rfl ud rfl rfl ?_)|refine gR hS (nm [0,1,2,103]) ?_|refine gR hT (nm [0,1,2,103]) ?_
   rw[w7 ua];exact zg (i+1) ⟨ua,J⟩ id ua gM
  |some f=>
   simp only[ftS,ftR]at hT;simp only[orF]at J;subst J
   repeat' first|refine gG ?_|exact gD|refine gB ?_ ?_<;>intro h|refine gX ?_|(refine xd hC (te:=171) rfl rfl ud rfl rfl ?_)|refine gR hS (nm [0,1,2,103]) ?_|refine gR hT (nm [0,1,2,103,104,105]) ?_|refine zo ?_
   exact zi ⟨.inl rfl,mvL [(5,105)],_,rfl,.refl _,⟨rfl,rfl,rfl,rfl,uh⟩,rfl,rfl⟩
 have U: ¬i<d.pots.length:=by simpa using h
 clear h;rw[yM U]at J;subst J;clear hi U
 repeat' first|refine gG ?_|refine gB ?_ ?_<;>intro h|refine ze ?_
 rw[uk]
 refine zn (λi:Nat=>i<=d.bounds.length/\firstF (λ(b:Bd) _=>xt d (ztl d b.p) b.p b.x (⟨#[105,110,116]⟩:UH)) (d.bounds.drop i) i=G) (λi=>([(0,.one (.bx 0 0)),(86,pS (.sl 5 (d.bounds.map xC))),(87,I d.bounds.length),(88,I i)],tb (ckR d 0 1 2))) (λi=>d.bounds.length - i) hC
  0 ⟨uz _,hG0⟩ id gM ?_
 clear hG0;intro i ⟨hi,J⟩;refine zq T hC true 200 rfl ?_;refine zt rfl ?_ ?_<;>intro h
 ·have hlt:i<d.bounds.length:=by simpa using h
  clear h;obtain⟨x,hx⟩:=zd hlt;rw[xb hx]at J;obtain⟨p,hpr⟩:=zju hform i x hx;have hg:=zed d x.p;rw[hpr]at hg;have hV:wz (vsM [p.params] d.globals) (ztl d x.p):=by unfold ztl;rw[hpr];exact zfN d p
  have hS:=zjs d p q0 (hd.zvb p (qn hpr));have hT:=zbI hd hV x.p x.x (⟨#[105,110,116]⟩:UH) (hd.bdx x (List.mem_of_getElem? hx));generalize xt d (ztl d x.p) x.p x.x (⟨#[105,110,116]⟩:UH)=F at hT J;cases F with
  |none=>
   simp only[ftS,ftR,u0]at hT;simp only[orF]at J
   repeat' first|refine gG ?_|exact gD|refine gB ?_ ?_<;>intro h|refine gX ?_|(refine xd hC (te:=171) rfl rfl ud rfl rfl ?_)|(refine vQ kS hC (et:=90) (c0:= .agg #[.string (⟨#[]⟩:UH),.slice none 0 0,.string (⟨#[]⟩:UH),.slice none 0 0,.slice none 0 0]) (.g [ks (⟨#[]⟩:UH),.k (.slice none 0 0),ks (⟨#[]⟩:UH),.k (.slice none 0 0),.k (.slice none 0 0)]) (pv:= .g (zZ p)) rfl rfl rfl ud ud zbk (by rw[hg];rfl) rfl rfl ?_)|refine gR hS (nm [0,1,2,103]) ?_|refine gR hT (nm [0,1,2,103]) ?_
   rw[w7 ua];exact zg (i+1) ⟨ua,J⟩ id ua gM
  |some f=>
   simp only[ftS,ftR]at hT;simp only[orF]at J;subst J
   repeat' first|refine gG ?_|exact gD|refine gB ?_ ?_<;>intro h|refine gX ?_|(refine xd hC (te:=171) rfl rfl ud rfl rfl ?_)|(refine vQ kS hC (et:=90) (c0:= .agg #[.string (⟨#[]⟩:UH),.slice none 0 0,.string (⟨#[]⟩:UH),.slice none 0 0,.slice none 0 0]) (.g [ks (⟨#[]⟩:UH),.k (.slice none 0 0),ks (⟨#[]⟩:UH),.k (.slice none 0 0),.k (.slice none 0 0)]) (pv:= .g (zZ p)) rfl rfl rfl ud ud zbk (by rw[hg];rfl) rfl rfl ?_)|refine gR hS (nm [0,1,2,103]) ?_|refine gR hT (nm [0,1,2,103,104,105]) ?_|refine zo ?_
   exact zi ⟨.inl rfl,mvL [(5,105)],_,rfl,.refl _,⟨rfl,rfl,rfl,rfl,uh⟩,rfl,rfl⟩
 have U: ¬i<d.bounds.length:=by simpa using h
 clear h;rw[yM U]at J;subst J;clear hi U
 repeat' first|refine gG ?_|refine gB ?_ ?_<;>intro h|refine ze ?_
 exact gE
end Hw.Gm
namespace Hw
open Go
theorem jx{M:Mem}{ρ:Nat->Value}{z:V}{v:Value}(h:RepV M ρ z v): ∀n:Nat,RepVs M ρ (List.replicate n z) (List.replicate n v)
 |0=>by simp only[List.replicate,RepVs]
 |n+1=>by simp only[List.replicate,RepVs];exact⟨h,jx h n⟩
variable {P:Program}{af:Array Edge}{el t:TypeId}{f:FuncId}{fs:List V}{i:Int}{k0:IntKind}{ps:String}{ss:List S}{vparts:List (Nat×List V)}{x:Operand}{z0:V}
section
variable {d:Option Nat} {ty:TypeId} {g:Option (Nat×Bool)} {y:Operand}
theorem zsl{id len:Nat}{l:List (Nat×Operand)}{vs:List V}(hx:zeK (l.map (·.2)) ss)(he:elemSz P t=some (el,1))(hz:zeroV P el=some [z0])
 (hv:zipParts (l.map (·.1)) ss=some vparts) (hf:fillV (λi=>some (i*1,1)) (List.replicate len z0) vparts=some vs) (h0:Nat.blt 0 len=true) (hb:Nat.ble len 16777216=true) (hm:mentVs id vs=false):
 Snd P ⟨d,.buildSlice t len l.toArray,ty,ps,af,g⟩ (rqs (l.map (·.2)) ss) [] [id] (.one (.bs id 0 len)) [(id,some (.box vs))]:=by
 intro C st M ρ a w hH h1 hT hF hd k Q hk;have e':=hH.zhE (w8 hx h1);obtain⟨h2,h3⟩:=wD hv e';obtain⟨ii,hu,U,hsz⟩:=zy he;obtain⟨zv,hz1,J,_⟩:=xQ hz M ρ w;have hlen:0<len:=by simpa [tG]using h0
 have hb':len<=16777216:=uV hb;have hzl:zv.cells.toList.length=1:=by have:=J.length;simpa using this
 obtain⟨zc,hzc⟩: ∃zc,zv.cells.toList=[zc]:=by
  match hq:zv.cells.toList,hzl with
  | [zc],_=>exact⟨zc,rfl⟩
 rw[hzc]at J;simp only[RepVs]at J;have hzs:zv.cells.size=1:=by rw[<-tV];exact hzl
 have hcur:((Array.range (len*1)).map λx=>zv.cells[x % zv.cells.size]!).toList=List.replicate len zc:=by
  have: ∀x:Nat,zv.cells[x % zv.cells.size]! =zc:=λx=>by
   rw[hzs,Nat.mod_one]
   have h:zv.cells= #[zc]:=by
    apply Array.toList_inj.1;rw[hzc]
   rw[h];rfl
  simp only[this];simp[List.map_const']
 have hzip:(l.toArray.map λp=>(p.1,a.eval p.2)).toList=(l.map (·.1)).zip ((l.map (·.2)).map a.eval):=by
  rw[q5];simp[Ua]
 obtain⟨out,h4,h5⟩:=zam _ vparts (List.replicate len z0) vs ((Array.range (len*1)).map λx=>zv.cells[x % zv.cells.size]!) (by rw[hcur];exact jx J.1 len) h2 h3 hf
 have hrun:(execOp a.eval ⟨d,.buildSlice t len l.toArray,ty,ps,af,g⟩).run P w= .ok (.value (.slice (some ⟨w.heap.size,0,none⟩) len len)) (w.alloc (.cells out el)):=by
  have hn: ¬16777216<len:=by omega
  have hl0: ¬len=0:=by omega
  rw[<-hzip]at h4;simp[execOp,Instr.buildSlice,run_underlying hu,run_sizeOf U,hsz,hn,hl0,newRow,hz1]at h4⊢;simp[h4]
 unfold Oper.wp;rw[hrun,Oper.upon_value]
 refine hk _ _ M _ (hH.alloc (val:= .pointer (some ⟨w.heap.size,0,none⟩)) (λb hb=>by simp only[Bk,blk,ui]at hb;exact hb.symm) hF.1
  ⟨w.heap.size,out.toList,el,zG _ _ _,by simpa using zY w _,RepVs.agree (yX ρ id _) _ _ (λi hi=>by subst hi;exact hm) h5⟩
  (by simp only[RepS,RepV];exact⟨w.heap.size,len,zG _ _ _,rfl,uF _⟩) hd)
theorem zg6{l:List Operand}(J:zeK l ss)(U:onesOf ss=some fs):
 Snd P ⟨d,.makeFunc (.func f) l.toArray #[],ty,ps,af,g⟩ (rqs l ss) [] [] (.one (.cl f fs [])) []:=
 zm λC st M ρ a w hH h1 _=>by
  have e:=hH.zhE (w8 J h1);have e':=xR U e;exact⟨.func (.func f) (l.map a.eval).toArray #[],by simp[execOp,Instr.makeFunc],by simp only[RepS,RepV];exact⟨l.map a.eval,[],rfl,e',by simp only[RepVs]⟩⟩
theorem zo8{id k n:Nat}{aZ:Array TypeId}{m:Nat}(U:okc x (.one (.bs id k n)))(ha:aZ[0]?=some t)(h:elemSz P t=some (el,m)):
 Snd P ⟨d,.call ⟨.builtin .len,#[x],aZ⟩,ty,ps,af,g⟩ (rq x (.one (.bs id k n))) [] [] (I n) []:=
 zm λC st M ρ a w hH h1 _=>by
  have J:=hH.evS (zz U h1);simp only[RepS,RepV]at J;obtain⟨b,c,_,h3,_⟩:=J;obtain⟨ii,hu,hinf,hsz⟩:=zy h;exact⟨.int .i64 n,by simp[execOp,resolve,invoke,builtin,Builtin.len_,ha,h3,run_underlying hu,goInt],zj6 _ _⟩
theorem zjv{id k n:Nat}(hx:okc x (.one (.bs id k n)))(hy:okc y (Kk k0 i))(h:elemSz P t=some (el,1))(h0:0<=i)(hi:i<n):
 Snd P ⟨d,.indexAddr t x y,ty,ps,af,g⟩ (rq x (.one (.bs id k n))++rq y (Kk k0 i)) [] [] (.one (.bx id (k+i.toNat))) []:=
 zm λC st M ρ a w hH U _=>by
  rw[za]at U;have e':=hH.evS (zz hx U.1);have e2:=hH.k (zz hy U.2);simp only[RepS,RepV]at e';obtain⟨b,c,h2,h3,h4⟩:=e';obtain⟨ii,hu,J,hsz⟩:=zy h;refine⟨.pointer (some ⟨b,k+i.toNat*1,none⟩),?_,by simp only[RepS,RepV];exact⟨b,h2,ue⟩⟩;simp only[execOp,h3,e2,Instr.indexAt,asIntOf,Sem.run_bind,Sem.run_pure,Result.andThen_ok,run_underlying hu];rw[uv ⟨h0,ua⟩];simp only[Sem.run_bind,Sem.run_pure,Result.andThen_ok,run_sizeOf J,ym,hsz]
end
variable {d:Nat}{g0:Option (Nat×Bool)}{gs:zf}{md:Mode}
section
variable {C:Ctx} {k:List Frm} {n:Nat} {sl:zf} {tab:Tab} {Q:Exit->St->Prop} {all:Array Oper} {rest:List Oper}
theorem zsm(T:Ty P)(hC:C.low){len:Nat}{l:List (Nat×Operand)}{ty:TypeId}{vs:List V}
 (hl:evs sl (l.map (·.2))=some ss) (he:T.es t=some (el,1)) (hz:T.zs el=some [z0]) (hv:zipParts (l.map (·.1)) ss=some vparts) (J:fillV (λi=>some (i*1,1)) (List.replicate len z0) vparts=some vs)
 (h0:Nat.blt 0 len=true) (hb:Nat.ble len 16777216=true) (U:mentVs (1000+d) vs=false) (hm:metL all sl g0=some gs) (hd:Nat.blt d n=true) (hf:(Nat.ble 100 (1000+d)&&freshB (1000+d) ⟨n,sl,tab⟩)=true)
 (g:Goal P C (.ops all rest (nx md ⟨some d,gs++rqs (l.map (·.2)) ss,[],[1000+d],.one (.bs (1000+d) 0 len),[(1000+d,some (.box vs))]⟩)) k n ((d,.one (.bs (1000+d) 0 len))::sl) ((1000+d,some (.box vs))::tab) Q):
 Goal P C (.ops all (⟨some d,.buildSlice t len l.toArray,ty,ps,af,g0⟩::rest) md) k n sl tab Q:=by
 have e2:=xO (st:=⟨n,sl,tab⟩) hl;have:=zk hm (zsl (id:=1000+d) (ty:=ty) (ps:=ps) (af:=af) (g:=g0) (d:=some d) e2.1 (T.es_ok _ _ he) (T.zs_ok _ _ hz) hv J h0 hb U) (n:=n) (tab:=tab);exact zT (L:=⟨some d,gs++rqs (l.map (·.2)) ss,[],[1000+d],.one (.bs (1000+d) 0 len),[(1000+d,some (.box vs))]⟩) hC this.1 rfl ⟨by rw[za];exact⟨this.2,e2.2⟩,trivial,zbV hf,hd⟩ g
theorem zg7{l:List Operand}{ty:TypeId}(hC:C.low)
 (hl:evs sl l=some ss) (U:onesOf ss=some fs) (hm:metL all sl g0=some gs) (hd:Nat.blt d n=true)
 (g:Goal P C (.ops all rest (nx md ⟨some d,gs++rqs l ss,[],[],.one (.cl f fs []),[]⟩)) k n ((d,.one (.cl f fs []))::sl) tab Q):
 Goal P C (.ops all (⟨some d,.makeFunc (.func f) l.toArray #[],ty,ps,af,g0⟩::rest) md) k n sl tab Q:=by
 have J:=xO (st:=⟨n,sl,tab⟩) hl;have:=zk hm (zg6 (P:=P) (f:=f) (ty:=ty) (ps:=ps) (af:=af) (g:=g0) (d:=some d) J.1 U) (n:=n) (tab:=tab);exact zT (L:=⟨some d,gs++rqs l ss,[],[],.one (.cl f fs []),[]⟩) hC this.1 rfl ⟨by rw[za];exact⟨this.2,J.2⟩,trivial,rfl,hd⟩ g
theorem zsn(T:Ty P){ty:TypeId}(hC:C.low){id k1 J m:Nat}(hx:ev sl x=some (.one (.bs id k1 J)))(he:T.es t=some (el,m))(hm:metL all sl g0=some gs)(hd:Nat.blt d n=true)
 (g:Goal P C (.ops all rest (nx md ⟨some d,gs++rq x (.one (.bs id k1 J)),[],[],I J,[]⟩)) k n ((d,I J)::sl) tab Q):
 Goal P C (.ops all (⟨some d,.call ⟨.builtin .len,#[x],#[t]⟩,ty,ps,af,g0⟩::rest) md) k n sl tab Q:=by
 have U:=zB (st:=⟨n,sl,tab⟩) hx;have:=zk hm (zo8 (aZ:= #[t]) (ty:=ty) (ps:=ps) (af:=af) (g:=g0) (d:=some d) U.1 rfl (T.es_ok _ _ he)) (n:=n) (tab:=tab);exact zT (L:=⟨some d,gs++rq x (.one (.bs id k1 J)),[],[],I J,[]⟩) hC this.1 rfl ⟨by rw[za];exact⟨this.2,U.2⟩,trivial,rfl,hd⟩ g
theorem vq(T:Ty P){y:Operand}{ty:TypeId}(hC:C.low){id k1 J:Nat}
 (hx:ev sl x=some (.one (.bs id k1 J))) (hy:ev sl y=some (Kk k0 i)) (he:T.es t=some (el,1)) (h0:0<=i) (hi:i<J) (hm:metL all sl g0=some gs) (hd:Nat.blt d n=true)
 (g:Goal P C (.ops all rest (nx md ⟨some d,gs++(rq x (.one (.bs id k1 J))++rq y (Kk k0 i)),[],[],.one (.bx id (k1+i.toNat)),[]⟩)) k n ((d,.one (.bx id (k1+i.toNat)))::sl) tab Q):
 Goal P C (.ops all (⟨some d,.indexAddr t x y,ty,ps,af,g0⟩::rest) md) k n sl tab Q:=by
 have U:=zB (st:=⟨n,sl,tab⟩) hx;have e2:=zB (st:=⟨n,sl,tab⟩) hy;have:=zk hm (zjv (ty:=ty) (ps:=ps) (af:=af) (g:=g0) (d:=some d) U.1 e2.1 (T.es_ok _ _ he) h0 hi) (n:=n) (tab:=tab);exact zT (L:=⟨some d,gs++(rq x (.one (.bs id k1 J))++rq y (Kk k0 i)),[],[],.one (.bx id (k1+i.toNat)),[]⟩) hC this.1 rfl ⟨by rw[za,za];exact⟨this.2,U.2,e2.2⟩,trivial,rfl,hd⟩ g
end
end Hw
namespace Hw.Gm
open Go Go.Proofs Hw.M Ps
def remF(A B G D E:Ft)(k:Nat):Ft:=match k with
 |0=>orF A (orF B (orF G (orF D E)))
 |1=>orF B (orF G (orF D E))
 |2=>orF G (orF D E)
 |3=>orF D E
 |4=>orF E none
 |_=>none
theorem zso(a:Ft):orF a none=a:=by cases a<;>rfl
def zwM:List Hw.V:=[.cl 120 [.bx 0 0] [],.cl 121 [.bx 0 0] [],.cl 122 [.bx 0 0] [],.cl 123 [.bx 0 0] [],.cl 124 [.bx 0 0] []]
theorem zej(d:zj)(hd:vB d):zsj 82 d (zkb d):=by
 show zh _ _ _ _ _ _;have U:=zma d hd;have h2:=zo6 d hd;have h3:=zg4 d hd;have h4:=zmb d hd;have h5:zd8 d=none->zsj 124 d (zdj d):=zmc d hd;have U:zh _ _ _ _ _ _:=U;have h2:zh _ _ _ _ _ _:=h2;have h3:zh _ _ _ _ _ _:=h3;have h4:zh _ _ _ _ _ _:=h4;unfold zkb;generalize zcs d=A at U⊢;generalize zfB d=B at h2⊢;generalize zct d=D at h4⊢;generalize zdj d=E at h5⊢;generalize zd8 d=G at h3 h5⊢;generalize hr0:orF A (orF B (orF G (orF D E)))=r;refine gO T Tryz.func82 λC hC=>?_
 repeat' first|refine gG ?_|refine gB ?_ ?_<;>intro h|(refine zg7 hC rfl rfl rfl rfl ?_)|(refine zsm T hC rfl rfl rfl rfl rfl rfl rfl rfl rfl rfl rfl ?_)|(refine zsn T hC rfl rfl rfl rfl ?_)
 refine zn (λk:Nat=>k<=5/\(3<=k->G=none)/\remF A B G D E k=r) (λk=>([(16,.one (.bs 1016 0 5)),(17,I 5),(18,I k)],(1016,some (.box zwM))::tb (ckR d 0 1 2))) (λk=>5 - k) hC
  0 ⟨ub,λh=>absurd h ub,hr0⟩ id gM ?_
 clear hr0;intro k ⟨hk,hG,J⟩;refine zq T hC true 200 rfl ?_;refine zt rfl ?_ ?_<;>intro h
 ·have hlt:(k:Int)<5:=uj h;clear h;have h6:4<=k->zh Tryz.prog 124 [.one (.bx 0 0)] (ckR d 0 1 2) (ftS E) (ckR d 0 1 2++ftR E):=λh=>h5 (hG ua)
  clear h5;obtain rfl|rfl|rfl|rfl|rfl:k=0\/k=1\/k=2\/k=3\/k=4:=by omega
  ·simp only[remF]at J;cases A with
   |none=>
    simp only[ftS,ftR,u0]at U;simp only[orF]at J
    repeat' first|refine gG ?_|exact gD|refine gB ?_ ?_<;>intro h|(refine vq T hC rfl rfl rfl ub ub rfl rfl ?_)|(refine xd hC (te:=171) rfl rfl ud rfl rfl ?_)|refine gR U (nm [0,1,2]) ?_
    exact zg 1 ⟨ub,λh=>absurd h ub,J⟩ id ub gM
   |some f=>
    simp only[ftS,ftR]at U;simp only[orF]at J;subst J
    repeat' first|refine gG ?_|exact gD|refine gB ?_ ?_<;>intro h|(refine vq T hC rfl rfl rfl ub ub rfl rfl ?_)|(refine xd hC (te:=171) rfl rfl ud rfl rfl ?_)|refine gR U (nm [0,1,2,103,104,105]) ?_|refine zo ?_
    exact zi ⟨.inl rfl,mvL [(5,105)],_,rfl,.refl _,⟨rfl,rfl,rfl,rfl,uh⟩,rfl,rfl⟩
  ·simp only[remF]at J;cases B with
   |none=>
    simp only[ftS,ftR,u0]at h2;simp only[orF]at J
    repeat' first|refine gG ?_|exact gD|refine gB ?_ ?_<;>intro h|(refine vq T hC rfl rfl rfl ub ub rfl rfl ?_)|(refine xd hC (te:=171) rfl rfl ud rfl rfl ?_)|refine gR h2 (nm [0,1,2]) ?_
    exact zg 2 ⟨ub,λh=>absurd h ub,J⟩ id ub gM
   |some f=>
    simp only[ftS,ftR]at h2;simp only[orF]at J;subst J
    repeat' first|refine gG ?_|exact gD|refine gB ?_ ?_<;>intro h|(refine vq T hC rfl rfl rfl ub ub rfl rfl ?_)|(refine xd hC (te:=171) rfl rfl ud rfl rfl ?_)|refine gR h2 (nm [0,1,2,103,104,105]) ?_|refine zo ?_
    exact zi ⟨.inl rfl,mvL [(5,105)],_,rfl,.refl _,⟨rfl,rfl,rfl,rfl,uh⟩,rfl,rfl⟩
  ·simp only[remF]at J;cases G with
   |none=>
    simp only[ftS,ftR,u0]at h3;simp only[orF]at J
    repeat' first|refine gG ?_|exact gD|refine gB ?_ ?_<;>intro h|(refine vq T hC rfl rfl rfl ub ub rfl rfl ?_)|(refine xd hC (te:=171) rfl rfl ud rfl rfl ?_)|refine gR h3 (nm [0,1,2]) ?_
    exact zg 3 ⟨ub,λ_=>rfl,J⟩ id ub gM
   |some f=>
    simp only[ftS,ftR]at h3;simp only[orF]at J;subst J
    repeat' first|refine gG ?_|exact gD|refine gB ?_ ?_<;>intro h|(refine vq T hC rfl rfl rfl ub ub rfl rfl ?_)|(refine xd hC (te:=171) rfl rfl ud rfl rfl ?_)|refine gR h3 (nm [0,1,2,103,104,105]) ?_|refine zo ?_
    exact zi ⟨.inl rfl,mvL [(5,105)],_,rfl,.refl _,⟨rfl,rfl,rfl,rfl,uh⟩,rfl,rfl⟩
  ·have hG2:=hG ub;simp only[remF]at J;cases D with
   |none=>
    simp only[ftS,ftR,u0]at h4;simp only[orF]at J
    repeat' first|refine gG ?_|exact gD|refine gB ?_ ?_<;>intro h|(refine vq T hC rfl rfl rfl ub ub rfl rfl ?_)|(refine xd hC (te:=171) rfl rfl ud rfl rfl ?_)|refine gR h4 (nm [0,1,2]) ?_
    exact zg 4 ⟨ub,λ_=>hG2,by simp only[remF,zso];exact J⟩ id ub gM
   |some f=>
    simp only[ftS,ftR]at h4;simp only[orF]at J;subst J
    repeat' first|refine gG ?_|exact gD|refine gB ?_ ?_<;>intro h|(refine vq T hC rfl rfl rfl ub ub rfl rfl ?_)|(refine xd hC (te:=171) rfl rfl ud rfl rfl ?_)|refine gR h4 (nm [0,1,2,103,104,105]) ?_|refine zo ?_
    exact zi ⟨.inl rfl,mvL [(5,105)],_,rfl,.refl _,⟨rfl,rfl,rfl,rfl,uh⟩,rfl,rfl⟩
  ·have hG2:=hG ub;have h6:=h6 ub;simp only[remF]at J;cases E with
   |none=>
    simp only[ftS,ftR,u0]at h6;simp only[orF]at J
    repeat' first|refine gG ?_|exact gD|refine gB ?_ ?_<;>intro h|(refine vq T hC rfl rfl rfl ub ub rfl rfl ?_)|(refine xd hC (te:=171) rfl rfl ud rfl rfl ?_)|refine gR h6 (nm [0,1,2]) ?_
    exact zg 5 ⟨ub,λ_=>hG2,J⟩ id ub gM
   |some f=>
    simp only[ftS,ftR]at h6;simp only[orF]at J;subst J
    repeat' first|refine gG ?_|exact gD|refine gB ?_ ?_<;>intro h|(refine vq T hC rfl rfl rfl ub ub rfl rfl ?_)|(refine xd hC (te:=171) rfl rfl ud rfl rfl ?_)|refine gR h6 (nm [0,1,2,103,104,105]) ?_|refine zo ?_
    exact zi ⟨.inl rfl,mvL [(5,105)],_,rfl,.refl _,⟨rfl,rfl,rfl,rfl,uh⟩,rfl,rfl⟩
 have hk5:k=5:=by have h9: ¬(k:Int)<5:=um h;omega
 subst hk5;simp only[remF]at J;subst J
 repeat' first|refine gG ?_|refine gB ?_ ?_<;>intro h|refine ze ?_
 exact gE
def zcT(d:zj):Str×Int×Int:=if yx d=false then((⟨#[]⟩:UH),0,1)else zvK d
theorem zmd(d:zj)(U:yx d=true->vB d):zh Tryz.prog 49 [zF (zJ d)] [] (.tup [Sr (zcT d).1,I (zcT d).2.1,I (zcT d).2.2]) []:=by
 have hV:=wV d;unfold zcT;cases hv:yx d with
 |false=>
  rw[hv]at hV;rw[uv rfl];refine gO T Tryz.func49 λC hC=>?_
  repeat' first|refine gG ?_|exact gD|refine gB ?_ ?_<;>intro h|refine gC hV ?_|refine ze ?_
  exact gF
 |true=>
  rw[hv]at hV;rw[uu ue];have U:=U hv;have hN:=vS d (by have:=U.ty;omega) (by have:=U.pr;omega);have J:zh _ _ _ _ _ _:=zej d U;unfold zvK;cases hc:zkb d with
  |none=>
   rw[hc]at J;simp only[ftS,ftR,u0]at J;refine gO T Tryz.func49 λC hC=>?_
   repeat' first|refine gG ?_|exact gD|refine gB ?_ ?_<;>intro h|refine gC hV ?_|refine gR hN (nm [100,101,102]) ?_|refine gR J (nm [100,101,102]) ?_|(refine xd hC (te:=171) rfl rfl ud rfl rfl ?_)|refine ze ?_
   exact gF
  |some f=>
   rw[hc]at J;simp only[ftS,ftR]at J;refine gO T Tryz.func49 λC hC=>?_
   repeat' first|refine gG ?_|exact gD|refine gB ?_ ?_<;>intro h|refine gC hV ?_|refine gR hN (nm [100,101,102]) ?_|refine gR J (nm [100,101,102,103,104,105]) ?_|(refine xd hC (te:=171) rfl rfl ud rfl rfl ?_)|refine ze ?_
   exact gF
theorem zdq: ∀(l:List Ex) (d n:Int),0<=n->countL l d n<=1000-> ∀x∈l,countS x (d+1)<=1000
 | [],_,_,_,_,x,J=>by cases J
 |e::es,d,n,h0,h,x,J=>by
  simp only[countL]at h;have hb:=(vd e (d+1)).1;split at h
  ·omega
  ·rcases uI.1 J with rfl|J
   ·omega
   ·exact zdq es d _ ua h x J
theorem zo9{e:Ex}(h:zbp e=true):arB e.op e.l.length/\e.l.length<=1000000:=by
 unfold zbp at h;simp only[uo,ux,qO,ur,uq,uG]at h;obtain⟨⟨⟨⟨J,h2⟩,h3⟩,_⟩,_⟩:=h;unfold yr at J h2 h3;simp only[uU,uo,uq]at J h2 h3;refine⟨⟨λh=>?_,λh=>?_,λh=>?_⟩,?_⟩
 ·rw[h]at J h2 h3;simp at J h2 h3;omega
 ·rcases h with h|h<;>(rw[h]at J h2 h3;simp at J h2 h3;omega)
 ·rw[h]at J h2 h3;simp at J h2 h3;omega
 ·split at h2
  ·simp at h2;rw[h2];simp
  ·split at h2
   ·simp at h2;omega
   ·split at h2
    ·rename_i U;rw[U]at h3;simp at h3;omega
    ·split at h2
     ·simp at h2;omega
     ·split at h2
      ·simp at h2;omega
      ·rename_i k1 k2 k3 k4 k5;rw[uu k1,uu k2,uu k3,uu k4,uu k5]at J;exact absurd rfl J
mutual
theorem zqA: ∀(e:Ex) (d:Int),countS e d<=1000->exG e
 | .mk op n s l,d,h=>by
   simp only[countS]at h;split at h
   ·omega
   ·rename_i hn;simp only[uU,uq,ux,Uz,oh]at hn;have ha:=zo9 hn.2;simp only[exG];exact⟨ha.1,ha.2,zme l (d+1) (zdq l d 1 ua h)⟩
theorem zme: ∀(l:List Ex) (d:Int),(∀x∈l,countS x d<=1000)->exGs l
 | [],_,_=>trivial
 |x::r,d,h=>by
  simp only[exGs];exact⟨zqA x d (h x ue),zme r d λy hy=>h y (uP _ hy)⟩
end
theorem zdr{e:Ex}(h:xi e=true):exG e:=zqA e 1 (uj h)
theorem xu{s:Sm}{lo J:Int}(h:vH s lo J=true):lo<=s.e.length/\(s.e.length:Int)<=J/\ ∀y∈s.e,exG y:=by
 unfold vH at h;simp only[uo,ux,ur,List.all_eq_true]at h;exact⟨ua,ua,λy U=>zdr (h.2 y U)⟩
theorem zjw{s:Sm}(h:zat s=true):smA s/\ ∀y∈s.e,exG y:=by
 unfold zat zkF at h;unfold smA;split at h
 ·simp only[uo]at h;have:=xu h.1.2;exact⟨⟨ua,ua,ua,ua,ua⟩,this.2.2⟩
 ·split at h
  ·simp only[uo]at h;have:=xu h.1.2;exact⟨⟨ua,ua,ua,ua,ua⟩,this.2.2⟩
  ·split at h
   ·simp only[uo]at h;have:=xu h.2;exact⟨⟨ua,ua,ua,ua,ua⟩,this.2.2⟩
   ·split at h
    ·simp only[uo]at h;have:=xu h.1.2;exact⟨⟨ua,ua,ua,ua,ua⟩,this.2.2⟩
    ·split at h
     ·simp only[uo]at h;have:=xu h.1.2;exact⟨⟨ua,ua,ua,ua,ua⟩,this.2.2⟩
     ·split at h
      ·simp only[uo]at h;have:=xu h.1.1.2;exact⟨⟨ua,ua,ua,ua,ua⟩,this.2.2⟩
      ·cases h
theorem zqB(l:List Sm)(d:Int):0<=stL l d 0:=(wh l d 0 ua ua).1
theorem zek: ∀l:List Sm,l.length<=wZ l
 | []=>uF _
 |x::r=>by
  have:=zek r;have h1:1<=znQ x:=by cases x;simp only[znQ];omega
  simp only[uR,wZ];omega
mutual
theorem zuw: ∀(s:Sm) (d n:Int),0<=n->stN s d n<=200->smG s/\n+znQ s<=stN s d n
 | .mk op k e l els,d,n,h0,h=>by
   simp only[stN]at h⊢;split at h
   ·omega
   ·rename_i hn;rw[uu hn];simp only[uU,uq,ux,Uz,oh]at hn;have hs:=zjw hn.2;have b1:=zqB l (d+1);have b2:=zqB els (d+1);unfold zgd at h⊢;by_cases hc:n+1<=200
    ·rw[uv hc]at h⊢;by_cases hc2:n+1+stL l (d+1) 0<=200
     ·rw[uv hc2]at h⊢;have i1:=zel l (d+1) 0 ua ua;have i2:=zel els (d+1) 0 ua ua;have c1:=zek l;have c2:=zek els;simp only[smG,znQ];exact⟨⟨hs.2,hs.1,ua,ua,i1.1,i2.1⟩,ua⟩
     ·rw[uu hc2]at h;omega
    ·rw[uu hc,uu hc]at h;omega
theorem zel: ∀(l:List Sm) (d n:Int),0<=n->stL l d n<=200->smGs l/\n+wZ l<=stL l d n
 | [],d,n,_,h=>⟨uh,by simp only[stL,wZ];omega⟩
 |x::r,d,n,h0,h=>by
  simp only[stL]at h⊢;split at h
  ·omega
  ·rename_i hx;rw[uu hx];have i1:=zuw x d n h0 ua;have i2:=zel r d _ ua h;simp only[smGs,wZ];exact⟨⟨i1.1,i2.1⟩,ua⟩
end
variable {d:zj}
theorem zaL(h:yx d=true):vB d:=by
 unfold yx zbz yR at h;simp only[uo,ux,ur,List.all_eq_true]at h;obtain⟨⟨⟨hp,ht⟩,J⟩,⟨⟨hm,hi⟩,U⟩,hb⟩:=h
 have fl: ∀ {l:List Fld} {k:Int},xB l k=true->(l.length:Int)<=k:=λ{l k} h=>by
  unfold xB at h;simp only[uo,uq]at h;exact h.1
 have hg:=fl hp.1.1.1.1.1.2
 have pr: ∀p∈d.procs,(p.params.length:Int)<=6/\(p.locs.length:Int)<=12/\stL p.body 1 0<=200:=λp h=>by
  have:=J p h;unfold za9 at this;simp only[uo,uq]at this;exact⟨fl this.1.1.1.2,fl this.1.1.2,this.2⟩
 have bd: ∀p∈d.procs,smGs p.body/\(wZ p.body:Int)<=200:=λp h=>by
  have:=zel p.body 1 0 ua (pr p h).2.2;exact⟨this.1,by have:=(pr p h).2.2;omega⟩
 refine⟨ua,ua,ua,ua,ua,ua,ua,λx hx=>?_,λp h=>by have:=(pr p h).1;omega,λp h=>by have:=(pr p h).2.1;omega,λp h=>?_,λp h=>(bd p h).1,λp h=>by have:=(bd p h).2;omega,λm h=>?_,λm h=>?_,λm h=>?_,λm h=>?_⟩
 ·have:=ht x hx;unfold zb1 at this;simp only[uo]at this;have:=fl this.2;omega
 ·have:=(bd p h).2;have:=zek p.body;omega
 ·have:=hm m h;unfold jl at this;simp only[uo]at this;exact zdr this.2
 ·have:=hi m h;unfold zbY at this;simp only[uo]at this;exact zdr this.2
 ·have:=U m h;unfold zbZ at this;simp only[uo]at this;exact zdr this.2
 ·have:=hb m h;unfold zb0 at this;simp only[uo]at this;exact zdr this.2
theorem zbJ(d:zj):zh Tryz.prog 49 [zF (zJ d)] [] (.tup [Sr (zcT d).1,I (zcT d).2.1,I (zcT d).2.2]) []:=zmd d zaL
theorem zvc(h:yx d=true)(h2:zkb d≠none):zh Tryz.prog 132 [zF (zJ d),Bo true] [] (.tup [.one (.p (.k (.pointer none))),I 13]) []:=by
 have hV:=wV d;rw[h]at hV;have J:=zaL h;have hN:=vS d (by have:=J.ty;omega) (by have:=J.pr;omega);have U:zh _ _ _ _ _ _:=zej d J;cases hc:zkb d with
 |none=>exact absurd hc h2
 |some f=>
  rw[hc]at U;simp only[ftS,ftR]at U;refine gO T Tryz.func132 λC hC=>?_
  repeat' first|refine gG ?_|exact gD|refine gB ?_ ?_<;>intro h|refine gC hV ?_|refine gR hN (nm [100,101,102]) ?_|refine gR U (nm [100,101,102,103,104,105]) ?_|(refine xd hC (te:=171) rfl rfl ud rfl rfl ?_)|refine ze ?_
  exact gF
theorem zpa(h:yx d=true)(h2:zkb d=none):zh Tryz.prog 132 [zF (zJ d),Bo true] [] (.tup [.one (.bx 0 0),I 0]) (ckR d 0 1 2):=by
 have hV:=wV d;rw[h]at hV;have J:=zaL h;have hN:=vS d (by have:=J.ty;omega) (by have:=J.pr;omega);have U:zh _ _ _ _ _ _:=zej d J;rw[h2]at U;simp only[ftS,ftR,u0]at U;refine gO T Tryz.func132 λC hC=>?_
 repeat' first|refine gG ?_|exact gD|refine gB ?_ ?_<;>intro h|refine gC hV ?_|refine gR hN (nm [100,101,102]) ?_|refine gR U (nm [100,101,102]) ?_|(refine xd hC (te:=171) rfl rfl ud rfl rfl ?_)|refine ze ?_
 exact gW [100,101,102]
theorem zg8(h:yx d=true)(h2:zkb d=none)(t:Str)(e:Ex)(he:xi e=true)(J:t=(⟨#[]⟩:UH)\/xN d t=true):
 zh Tryz.prog 92 [zF (zJ d),Sr t,zF (ye e)] [] (.tup [Sr (exT d (zd9 d t) false e).1,I (exT d (zd9 d t) false e).2]) []:=by
 have U:=yY e;rw[he]at U;have hW:=zpa h h2;have hd:=zaL h;have hN:=zah d t;obtain⟨V,hV,hS⟩:=zaK d t (by have:=hd.gl;omega);have hX:zh _ _ _ _ _ _:=zbH false hd.zvb hV hd.zvM e (zdr he);refine gO T Tryz.func92 λC hC=>?_;by_cases h0:t=(⟨#[]⟩:UH)
 ·repeat' first|refine gG ?_|exact gD|(exfalso;simp[h0]at h;done)|refine gB ?_ ?_<;>intro h|refine gC U ?_|refine gR hW (nm [100,101,102]) ?_|refine gR hN (nm [100,101,102]) ?_|refine gR hS (nm [100,101,102,103]) ?_|refine gR hX (nm [100,101,102,103]) ?_|refine ze ?_
  exact gF
 ·have hn:xN d t=true:=by rcases J with J|J;exact absurd J h0;exact J
  rw[hn]at hN
  repeat' first|refine gG ?_|exact gD|(exfalso;simp[h0]at h;done)|refine gB ?_ ?_<;>intro h|refine gC U ?_|refine gR hW (nm [100,101,102]) ?_|refine gR hN (nm [100,101,102]) ?_|refine gR hS (nm [100,101,102,103]) ?_|refine gR hX (nm [100,101,102,103]) ?_|refine ze ?_
  exact gF
def zgg(d:zj)(m:Hp)(fuel:Int):Int:=if(zcT d).2.2≠0\/yD d m=false then 1 else if fuel<0\/1048576<fuel then 2 else 0
theorem zem(d:zj)(m:Hp)(fuel:Int):zh Tryz.prog 127 [zF (zJ d),zF (xP m),I fuel] [] (I (zgg d m fuel)) []:=by
 have J:=zbJ d;have hV:=yW d m
 have U:zgg d m fuel=bif !decide ((zcT d).2.2=0)then 1 else bif !yD d m then 1 else bif decide (fuel<0)then 2 else bif decide (1048576<fuel)then 2 else 0:=by
  unfold zgg;by_cases h1:(zcT d).2.2=0<;>cases yD d m<;>by_cases h3:fuel<0<;>by_cases h4:1048576<fuel<;>simp[h1,h3,h4]
 rw[U];clear U;generalize zcT d=q at J⊢;generalize hr:(bif !decide (q.2.2=0)then(1:Int)else bif !yD d m then 1 else bif decide (fuel<0)then 2 else bif decide (1048576<fuel)then 2 else 0)=r;refine gO T Tryz.func127 λC hC=>?_
 repeat' first|refine gG ?_|refine gB ?_ ?_<;>intro h|refine gC J ?_|refine gC hV ?_|refine ze ?_
 all_goals (simp only[*,Uq,oZ]at hr;subst hr;exact gF)
abbrev zvN:S:= .one (.p (.k (.pointer none)))
variable {c:Cl}{m:Hp}
theorem zpb(hw:zgU d m)(J:zd3 d m c≠0)(fuel:Int):
 zh Tryz.prog 128 [zF (zJ d),.agg [.ar 1,.ar 2],zF (wY c),I fuel] (zj8 m 1 2 3) (.tup [zvN,.agg (znN 0 0 0 0),I (zd3 d m c)]) []:=by
 have U:=zlK hw J;generalize zd3 d m c=e at U J⊢;refine gO T Tryz.func128 λC hC=>?_
 repeat' first|refine gG ?_|(exfalso;simp[J]at h;done)|refine gB ?_ ?_<;>intro h|refine gR U (nm [0,1,2,3]) ?_|refine ze ?_
 exact gF
theorem kl2:WideMaps.KeyLaw Tryz.prog 308:=deep_law (m:=2) ub ud ud ud
def zpc(q:K2):Value:= .agg #[.int .i64 (q.1.val:Int),.int .i64 (q.2.val:Int)]
theorem zvd(q:K2): ∃l,keyOf Tryz.prog 308 (zpc q)=some l:=by
 have U:=Tryz.underlying308;have h3:=Tryz.underlying3;have hc:Program.cellsOf Tryz.prog 308=2:=by kernel_rfl
 have J:Program.cellsOf Tryz.prog 3=1:=by kernel_rfl
 have hk:Program.keyType Tryz.prog 308=true:=by kernel_rfl
 have hp:Nat.blt 0 Tryz.prog.types.size=true:=by kernel_rfl
 have hp0:0<Tryz.prog.types.size:=by simpa [tG]using hp
 obtain⟨n,hn⟩: ∃n,Tryz.prog.types.size=n+1:=⟨Tryz.prog.types.size - 1,ua⟩;have m1:IntKind.i64.min= -9223372036854775808:=by decide
 have m2:IntKind.i64.max=9223372036854775807:=by decide
 have w1:(Lit.int .i64 (q.1.val:Int)).wf=true:=by have:=q.1.isLt;simp only[Lit.wf,uo,uq,m1,m2];omega
 have w2:(Lit.int .i64 (q.2.val:Int)).wf=true:=by have:=q.2.isLt;simp only[Lit.wf,uo,uq,m1,m2];omega
 unfold keyOf;rw[U,hn];simp[zpc,Value.formed,Value.cells,U,hc,hk,Program.keyLits,h3,J,w1,w2]
noncomputable def k2G:zd4 Tryz.prog 308 K2 where
 enc:=zpc
 s:=λq=> .agg [.p (ki (q.1.val:Int)),.p (ki (q.2.val:Int))]
 rep:=λ{M ρ k v} hr=>by
  simp only[RepS]at hr;obtain⟨cs,rfl,h⟩:=hr
  match cs,h with
  | [a,b],h=>
    simp only[RepVs,RepV,RepPV]at h;rw[h.1.1,h.2.1.1];rfl
 inj:=λ{a b} e=>by
  simp only[zpc,Value.agg.injEq]at e;have:[Value.int .i64 (a.1.val:Int),Value.int .i64 (a.2.val:Int)]=[Value.int .i64 (b.1.val:Int),Value.int .i64 (b.2.val:Int)]:=uX Array.toList e;simp only[q8,Value.int.injEq,Ub,and_true]at this;exact Ur (Fin.ext ua) (Fin.ext ua)
 check:=λw em k=>let ⟨l,h⟩:=zvd k;kl2.check w em h
 find:=λw k es hes=>by
  obtain⟨l,h⟩:=zvd k
  exact kl2.find w h es λe he=>by
   obtain⟨k',e2⟩:=hes e he;obtain⟨l',h'⟩:=zvd k';exact⟨l',by rw[e2];exact h'⟩
 stays:=λw k=>let ⟨l,h⟩:=zvd k;kl2.stays w h
noncomputable abbrev mpK(l:List (K2×EV)):Res:= .mpg (yt k2G l)
noncomputable abbrev imR(d:zj)(m:Hp)(k:Kn)(a b c:Nat):RL:=[(a,.box ((zJ d).map V.p++((xP m).map V.p++[.mp b,.mp c]))),(b,mpK k.kn),(c,mpK k.bu)]
theorem zpd(h:(zcT d).2.2≠0\/yD d m=false):zh Tryz.prog 89 [zF (zJ d),zF (xP m)] [] (.tup [.one (.p (.k (.pointer none))),I 1]) []:=by
 have J:=zbJ d;have U:=yW d m;generalize zcT d=q at J h;refine gO T Tryz.func89 λC hC=>?_
 repeat' first|refine gG ?_|refine gB ?_ ?_<;>intro h|refine gC J ?_|refine gC U ?_|refine ze ?_
 all_goals first
  |exact gF
  |(exfalso;simp only[ux,uG,uq,ur]at *; simp_all)
theorem zmf(h:(zcT d).2.2=0)(h2:yD d m=true):zh Tryz.prog 89 [zF (zJ d),zF (xP m)] [] (.tup [.one (.bx 0 0),I 0]) (imR d m ⟨[],[]⟩ 0 1 2):=by
 have J:=zbJ d;have U:=yW d m;rw[h2]at U;generalize zcT d=q at J h;obtain⟨q1,q2,q3⟩:=q;simp only at h J;subst h;refine gO T Tryz.func89 λC hC=>?_
 repeat' first|refine gG ?_|exact gD|refine gB ?_ ?_<;>intro h|refine gC J ?_|refine gC U ?_|(refine zd7 k2G hC rfl rfl rfl ?_)
 exact gW [1028,1025,1026]
def isB(m:Hp)(n:Int):Bool:=decide (0<=n)&&decide (n<=m.n.length)
theorem zqC(d:zj)(m:Hp)(k:Kn)(n:Int):zh Tryz.prog 91 [.one (.bx 0 0),I n] (imR d m k 0 1 2) (.bq (isB m n)) (imR d m k 0 1 2):=by
 generalize J:isB m n=r;unfold isB at J;rw[show(m.n.length:Int)=((m.n.map vy).length:Int) by rw[uk]]at J;refine gO T Tryz.func91 λC hC=>?_
 repeat' first|refine gG ?_|refine gB ?_ ?_<;>intro h|refine ze ?_
 all_goals (simp only[*,tA,tW]at J;subst J;exact zi ⟨.inl rfl,id,_,rfl,by first|exact .refl _|exact LeS.qb rfl,⟨rfl,rfl,rfl,uh⟩,rfl,rfl⟩)
theorem zjx(x:Ms)(s:Str):zh Tryz.prog 201 [zF (yq x),.one (.bx 0 0)] [(0,.box [.p (ks s)])] (.bq (decide (x.n=s))) [(0,.box [.p (ks s)])]:=by
 refine gO T Tryz.func201 λC hC=>?_
 repeat' first|refine gG ?_|refine gB ?_ ?_<;>intro h|refine ze ?_
 exact gE
theorem zfO(d:zj)(m:Hp)(k:Kn)(s:Str):zh Tryz.prog 141 [.one (.bx 0 0),Sr s] (imR d m k 0 1 2) (I (idxI (zuf d s))) (imR d m k 0 1 2):=by
 have J:=zfJ 201 d.measures (λx _=>decide (x.n=s)) (λ_ s=>s) (λc=>c=s) (λx hx c U=>⟨by subst U;exact zjx x c,λ_=>U⟩) s rfl;rw[y3]at J;refine gO T Tryz.func141 λC hC=>?_
 repeat' first|refine gG ?_|refine gB ?_ ?_<;>intro h|refine gR J (nm [1003]) ?_|refine ze ?_
 exact gE
theorem zmg(x:Fld)(s:Str):zh Tryz.prog 198 [zF (zw x),.one (.bx 0 0)] [(0,.box [.p (ks s)])] (.bq (decide (x.n=s))) [(0,.box [.p (ks s)])]:=by
 refine gO T Tryz.func198 λC hC=>?_
 repeat' first|refine gG ?_|refine gB ?_ ?_<;>intro h|refine ze ?_
 exact gE
noncomputable def bE(d:zj)(m:Hp):Bn->End
 | .ok v k=> .ok (I v) (imR d m k 0 1 2)
 | .flt e k=> .pn (flI e) (imR d m k 0 1 2)
 | .out=> .no
theorem zpe(d:zj)(m:Hp)(k:Kn)(s:Str)(nd:Int):FnX Tryz.prog 138 [.one (.bx 0 0),Sr s,I nd] (imR d m k 0 1 2) (bE d m (namI d m nd s k)):=by
 have J:=jJ 198 d.globals (λx _=>decide (x.n=s)) (λ_ s=>s) (λc=>c=s) (λx hx c hc=>⟨by subst hc;exact zmg x c,λ_=>hc⟩) s rfl;rw[y3]at J;unfold namI;by_cases U:s=(⟨#[116,104,105,115]⟩:UH)
 ·rw[uv U];show zh _ _ _ _ _ _;refine gO T Tryz.func138 λC hC=>?_
  repeat' first|refine gG ?_|(exfalso;simp[U]at h;done)|refine gB ?_ ?_<;>intro h|refine ze ?_
  exact gE
 ·rw[uu U];have hix:d.globals.findIdx? (λx=>decide (x.n=s))=ixF d.globals s:=rfl;rw[hix]at J;cases hx:ixF d.globals s with
  |none=>trivial
  |some i=>
   rw[hx]at J;simp only[idxI]at J;cases hg:m.g[i]? with
   |none=>simp only[hg];trivial
   |some v=>
    simp only[hg];show zh _ _ _ _ _ _;refine gO T Tryz.func138 λC hC=>?_
    repeat' first|refine gG ?_|(exfalso;simp[U]at h;done)|refine gB ?_ ?_<;>intro h|refine gR J (nm [1004]) ?_|(refine gI T (zl hg) ?_)|refine ze ?_
    exact gE
structure xI (m:Hp):Prop where
 g:m.g.length<=1000000
 n:m.n.length<=1000000
 f: ∀x∈m.n,x.f.length<=1000000
variable {fuel:Int}
theorem zg9(h:zgg d m fuel≠0)(c:Cl):
 zh Tryz.prog 86 [zF (zJ d),zF (xP m),zF (wY c),I fuel] [] (.tup [zvN,.agg (znN 0 0 0 0),I (zgg d m fuel)]) []:=by
 have J:=zem d m fuel;generalize zgg d m fuel=e at J h⊢;refine gO T Tryz.func86 λC hC=>?_
 repeat' first|refine gG ?_|(exfalso;simp at h;simp_all;done)|refine gB ?_ ?_<;>intro h|refine gC J ?_|refine ze ?_
 exact gF
theorem zfP(J:xI m)(hw:zgU d m)(h:zgg d m fuel=0)(hc:zd3 d m c≠0):
 zh Tryz.prog 86 [zF (zJ d),zF (xP m),zF (wY c),I fuel] [] (.tup [zvN,.agg (znN 0 0 0 0),I (zd3 d m c)]) []:=by
 have U:=zem d m fuel;rw[h]at U;have hK:=zfA m J.g J.n J.f;have hP:=zpb hw hc fuel;refine gO T Tryz.func86 λC hC=>?_
 repeat' first|refine gG ?_|exact gD|refine gB ?_ ?_<;>intro h|refine gC U ?_|refine gR hK (nm [101,102,103]) ?_|refine gR hP (nm [100,101,102,103]) ?_|refine ze ?_
 exact gF
def mcF(d:zj)(fuel:Int)(x:Mc)(a:Nat):List V:=(zJ d).map V.p++[.p (xw x.g),.p (zio x.ns),.p (ki fuel),.p (ki x.ticks),.p (ki x.calls),.p (ki x.comps),.ar a]
variable {x:Mc}
theorem zpf(J:xI m)(hw:zgU d m)(hc:zd3 d m c=0)(h:zgg d m fuel=0){k:Nat}{fl v:Int}
 (hr: ∀i p,zcZ d c.p=some i->d.procs[i]?=some p->plF (rnV d fuel k p c.a (mc0 m))=some (fl,v,x)) (hl:x.acc.length<=1099511627776):
 zh Tryz.prog 86 [zF (zJ d),zF (xP m),zF (wY c),I fuel] [] (.tup [.one (.bx 0 0),.agg (znN fl v x.comps (ndC x.acc)),I 0]) [(0,.box (mcF d fuel x 9)),(9,.arr 3 (x.acc.map zgQ))]:=by
 have U:=zem d m fuel;rw[h]at U;have hK:=zfA m J.g J.n J.f;have hP:=zrU hw hc hr hl;refine gO T Tryz.func86 λC hC=>?_
 repeat' first|refine gG ?_|exact gD|refine gB ?_ ?_<;>intro h|refine gC U ?_|refine gR hK (nm [101,102,103]) ?_|refine gR hP (nm [100,101,102,103,104,105,106,107,108,109]) ?_
 refine ze2 rfl (zj8 ⟨x.g,x.ns⟩ 101 107 108) rfl [] uh [(100,.box (mcF d fuel x 109))] ⟨⟨_,rfl,rfl,LnR.box (.cons (.refl _) (.cons (.refl _) (.cons (.refl _) (.cons (.refl _) (.cons (.refl _) (.cons (.refl _) (.cons (.refl _) (.cons (.refl _) (.cons (LnV.ar (.head _)) (.cons (LnV.vw (ids:=[108]) (rows:=wRows x.ns 0) (.tail _ (.head _)) (by rw[uk,yw]) (zbF _) (zrN _ 108 x.ns (.tail _ (.tail _ (.head _))))) (zj7.refl _)))))))))))⟩,uh⟩ ?_;exact gW [100,101,102,103,104,105,106,107,108,109]
theorem zmh(h:zgg d m fuel≠0)(c:Cl):
 zh Tryz.prog 51 [zF (zJ d),zF (xP m),zF (wY c),I fuel] [] (.tup [.agg (znN 0 0 0 0),.agg [.p (.k (.slice none 0 0)),.p (.k (.slice none 0 0))],I (zgg d m fuel)]) []:=by
 have J:=zg9 h c;generalize zgg d m fuel=e at J h⊢;refine gO T Tryz.func51 λC hC=>?_
 repeat' first|refine gG ?_|(exfalso;simp at h;simp_all;done)|refine gB ?_ ?_<;>intro h|refine gC J ?_|refine ze ?_
 exact gF
theorem zjy(hs:xI m)(hw:zgU d m)(h:zgg d m fuel=0)(J:zd3 d m c≠0):
 zh Tryz.prog 51 [zF (zJ d),zF (xP m),zF (wY c),I fuel] [] (.tup [.agg (znN 0 0 0 0),.agg [.p (.k (.slice none 0 0)),.p (.k (.slice none 0 0))],I (zd3 d m c)]) []:=by
 have U:=zfP hs hw h J;generalize zd3 d m c=e at U J⊢;refine gO T Tryz.func51 λC hC=>?_
 repeat' first|refine gG ?_|(exfalso;simp[J]at h;done)|refine gB ?_ ?_<;>intro h|refine gC U ?_|refine ze ?_
 exact gF
theorem zsp(J:xI m)(U:zgU d m)(hc:zd3 d m c=0)(h:zgg d m fuel=0){k:Nat}{fl v:Int}
 (hr: ∀i p,zcZ d c.p=some i->d.procs[i]?=some p->plF (rnV d fuel k p c.a (mc0 m))=some (fl,v,x)) (hl:x.acc.length<=1099511627776):
 zh Tryz.prog 51 [zF (zJ d),zF (xP m),zF (wY c),I fuel] [] (.tup [.agg (znN fl v x.comps (ndC x.acc)),zF (xP ⟨x.g,x.ns⟩),I 0]) []:=by
 have hS:=zpf J U hc h hr hl;refine gO T Tryz.func51 λC hC=>?_
 repeat' first|refine gG ?_|exact gD|refine gB ?_ ?_<;>intro h|refine gR hS (nm [100,101,102,103,104,105,106,107,108,109]) ?_|refine ze ?_
 exact gF
end Hw.Gm
