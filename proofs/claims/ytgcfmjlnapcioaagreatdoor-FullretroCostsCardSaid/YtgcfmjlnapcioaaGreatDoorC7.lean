import Derived.Test.YtgcfmjlnapcioaaGreatDoorC6
import Derived.Test.YtgcfmjlnapcioaaGreatDoorC4
import Derived.Test.YtgcfmjlnapcioaaGreatDoorC5
import Derived.Test.YtgcfmjlnapcioaaGreatDoorC3
import Derived.Lib.ItoaMem
import Derived.Test.YtgcfmjlnapcioaaGreatDoorProg
import Derived.KernelRfl
import Derived.Shelf.Strconv.Itoa3
import Derived.Test.YtgcfmjlnapcioaaGreatDoorC1
import Derived.Shelf.Strings.BuilderK
import Derived.Shelf.Strings.Cut
set_option linter.unusedVariables false
set_option linter.unusedSimpArgs false
namespace Hw.Fr.Md
open Go Go.Proofs Go.Shelf Hw.M
theorem zm7{x:Int}(h:wH x=true): -1048576<=x/\x<=1048576:=zpj.1 h
variable {o:OpT}
theorem op2(h:okOp 2 o=true):(∃a,o=⟨1,[a]⟩/\wH a=true)\/o=⟨2,[]⟩\/o=⟨3,[]⟩\/o=⟨4,[]⟩:=by
 obtain⟨w,h1,h2,hw,h3, -⟩:=za0 h
 obtain⟨c,l⟩:=o
 have hc:c=1\/c=2\/c=3\/c=4:=by
  have:(yf 2).length=4:=rfl
  simp only at h1 h2;omega
 rcases hc with rfl|rfl|rfl|rfl<;>(obtain rfl:=uy hw;obtain⟨hl,hn⟩:=h3 ub;simp only at hl hn)
 ·obtain⟨a,rfl⟩:=zsj (l:=l) ua
  exact .inl ⟨a,rfl,hn a ue⟩
 all_goals (obtain rfl:=zun (l:=l) ua;simp)
theorem op3(h:okOp 3 o=true):(∃a b,(o=⟨1,[a,b]⟩\/o=⟨4,[a,b]⟩\/o=⟨5,[a,b]⟩\/o=⟨6,[a,b]⟩)/\wH a=true/\wH b=true)\/(∃a,(o=⟨2,[a]⟩\/o=⟨3,[a]⟩)/\wH a=true)\/o=⟨7,[]⟩:=by
 obtain⟨w,h1,h2,hw,h3, -⟩:=za0 h
 obtain⟨c,l⟩:=o
 have hc:c=1\/c=4\/c=5\/c=6\/c=2\/c=3\/c=7:=by
  have:(yf 3).length=7:=rfl
  simp only at h1 h2;omega
 rcases hc with rfl|rfl|rfl|rfl|rfl|rfl|rfl<;>(obtain rfl:=uy hw;obtain⟨hl,hn⟩:=h3 ub;simp only at hl hn)
 iterate 4
  ·obtain⟨a,b,rfl⟩:=zqZ (l:=l) ua
   exact .inl ⟨a,b,ue,hn a ue,hn b ue⟩
 iterate 2
  ·obtain⟨a,rfl⟩:=zsj (l:=l) ua
   exact .inr (.inl ⟨a,ue,hn a ue⟩)
 ·obtain rfl:=zun (l:=l) ua
  exact .inr (.inr rfl)
theorem zsl(R:Rws)(o:OpT)(hv:zJ 2 R=true)(ho:okOp 2 o=true):
 zk Tryz.prog 100 [.one (.ar 0),zm (opR o)] [(0,vg 1 R.length),(1,bg R)] (.tup [.one (.ar 2),zm (rsR (xi R o).2)]) [(2,vg 3 (xi R o).1.length),(3,bg (xi R o).1)]:=by
 obtain⟨hR,hT⟩:=zi9 hv
 have hrow: ∀(i:Nat),i<R.length->R[i]?=some (yo R i)/\(yo R i).length=1:=λi hi=>⟨ym hi,hT.wide _ (List.mem_of_getElem? (ym hi))⟩
 have hcell: ∀(i:Nat),i<R.length->(yo R i)[0]?=some (at0 (yo R i) 0):=λi hi=>vD (by rw[(hrow i hi).2];omega)
 rcases op2 ho with⟨a,rfl,ha⟩|rfl|rfl|rfl
 ·by_cases h5:R.length=500
  ·have e:xi R ⟨1,[a]⟩=(R,erR 4):=by simp[xi,h5]
   rw[e];exact zcZ hR (.k1f a h5)
  ·have e:xi R ⟨1,[a]⟩=(ju R (yD 1 R [a]) [a],okR 0):=by simp[xi,h5]
   rw[e]
   exact zcZ hR (.k1 a _ _ (zmS R [a] ue ua (λr hr=>by rw[hT.wide r hr];simp) (zi8 hT ziR [a])) (jb 1 R [a]) ua)
 ·by_cases h0:R.length=0
  ·have e:xi R ⟨2,[]⟩=(R,erR 14):=by simp only[xi];rw[ur ub,ur ub];exact uv h0
   rw[e];exact zcZ hR (.k2e h0)
  ·have e:xi R ⟨2,[]⟩=(R,okR (at0 (yo R 0) 0)):=by simp only[xi];rw[ur ub,ur ub];exact ur h0
   rw[e];exact zcZ hR (.k2 _ _ (hrow 0 ua).1 (hcell 0 ua))
 ·by_cases h0:R.length=0
  ·have e:xi R ⟨3,[]⟩=(R,erR 14):=by simp only[xi];rw[ur ub,ur ub];exact uv h0
   rw[e];exact zcZ hR (.k3e h0)
  ·have e:xi R ⟨3,[]⟩=(R.eraseIdx 0,okR (at0 (yo R 0) 0)):=by simp only[xi];rw[ur ub,ur ub];exact ur h0
   rw[e]
   exact zcZ hR (.k3 _ _ (hrow 0 ua).1 (hcell 0 ua))
 ·exact zcZ hR .k4
theorem zus(R:Rws)(o:OpT)(hv:zJ 3 R=true)(ho:okOp 3 o=true):
 zk Tryz.prog 101 [.one (.ar 0),zm (opR o)] [(0,vg 1 R.length),(1,bg R)] (.tup [.one (.ar 2),zm (rsR (xp R o).2)]) [(2,vg 3 (xp R o).1.length),(3,bg (xp R o).1)]:=by
 obtain⟨hR,hT⟩:=zdK hv
 have hrow: ∀(i:Nat),i<R.length->R[i]?=some (yo R i)/\(yo R i).length=1:=λi hi=>⟨ym hi,hT.wide _ (List.mem_of_getElem? (ym hi))⟩
 have hcell: ∀(i:Nat),i<R.length->(yo R i)[0]?=some (at0 (yo R i) 0):=λi hi=>vD (by rw[(hrow i hi).2];omega)
 have hn: ∀r∈R,0<r.length/\ -1048576<=at0 r 0/\at0 r 0<=1048576:=λr hr=>by
  have h1:=hT.wide r hr
  exact⟨ua,zm7 (hT.nums r hr _ (List.mem_of_getElem? (vD (l:=r) (i:=0) ua)))⟩
 rcases op3 ho with⟨a,b,hc,ha,hb⟩|⟨a,hc,ha⟩|rfl
 ·rcases hc with rfl|rfl|rfl|rfl
  ·by_cases h0:a<0\/(R.length:Int)<a
   ·have e:xp R ⟨1,[a,b]⟩=(R,erR 2):=by simp only[xp];rw[ur ub,ur ub,uv trivial];exact uv h0
    rw[e];exact zc0 hR (.k1e a b h0)
   ·obtain⟨i,rfl⟩: ∃i:Nat,a=i:=⟨a.toNat,ua⟩
    by_cases h5:R.length=500
    ·have e:xp R ⟨1,[(i:Int),b]⟩=(R,erR 4):=by simp only[xp];rw[ur ub,ur ub,uv trivial];exact(ur h0).trans (uv h5)
     rw[e];exact zc0 hR (.k1f i b ua h5)
    ·have e:xp R ⟨1,[(i:Int),b]⟩=(ju R i [b],okR 0):=by simp only[xp];rw[ur ub,ur ub,uv trivial];exact(ur h0).trans (ur h5)
     rw[e]
     exact zc0 hR (.k1 i b ua ua)
  ·by_cases h0:a<0\/(R.length:Int)<=a
   ·have e:xp R ⟨4,[a,b]⟩=(R,erR 2):=by simp only[xp];rw[ur ub,ur ub,ur ub];exact uv h0
    rw[e];exact zc0 hR (.k4e a b h0)
   ·obtain⟨i,rfl⟩: ∃i:Nat,a=i:=⟨a.toNat,ua⟩
    have hlt:i<R.length:=by omega
    have e:xp R ⟨4,[(i:Int),b]⟩=(R.set i ((yo R i).set 0 b),okR (at0 (yo R i) 0)):=by simp only[xp];rw[ur ub,ur ub,ur ub];exact ur h0
    rw[e]
    simp only[tq]
    exact zwQ R hR i b _ _ (hrow i hlt).1 hlt (by rw[(hrow i hlt).2];omega) (hcell i hlt)
  ·by_cases h0:a<0\/b<a\/(R.length:Int)<b
   ·have e:xp R ⟨5,[a,b]⟩=(R,erR 2):=by simp only[xp];rw[ur ub,uv ue];exact uv h0
    rw[e];exact zc0 hR (.k5e a b h0)
   ·obtain⟨i,rfl⟩: ∃i:Nat,a=i:=⟨a.toNat,ua⟩
    obtain⟨m,rfl⟩: ∃m:Nat,b=((i+m:Nat):Int):=⟨(b - i).toNat,ua⟩
    have e:xp R ⟨5,[(i:Int),((i+m:Nat):Int)]⟩=(R,okR (zdE ((R.take (i+m)).drop i))):=by simp only[xp];rw[ur ub,uv ue];exact(ur h0).trans (ur ub)
    rw[e];exact zwR R hR i m ua hn
  ·by_cases h0:a<0\/b<a\/(R.length:Int)<b
   ·have e:xp R ⟨6,[a,b]⟩=(R,erR 2):=by simp only[xp];rw[ur ub,uv ue];exact uv h0
    rw[e];exact zc0 hR (.k6e a b h0)
   ·obtain⟨i,rfl⟩: ∃i:Nat,a=i:=⟨a.toNat,ua⟩
    obtain⟨m,rfl⟩: ∃m:Nat,b=((i+m:Nat):Int):=⟨(b - i).toNat,ua⟩
    have e:xp R ⟨6,[(i:Int),((i+m:Nat):Int)]⟩=(zhw R i (i+m),okR 0):=by simp only[xp];rw[ur ub,uv ue];exact(ur h0).trans (uv trivial)
    have hl:(zhw R i (i+m)).length=R.length:=by simp only[zhw,uB,qO,uz,uQ];omega
    rw[e]
    simp only[hl]
    exact zwP R hR i m ua
 ·by_cases h0:a<0\/(R.length:Int)<=a
  ·rcases hc with rfl|rfl
   ·have e:xp R ⟨2,[a]⟩=(R,erR 2):=by simp only[xp];rw[ur ub,ur ub,ur ub];exact uv h0
    rw[e];exact zc0 hR (.k2e a h0)
   ·have e:xp R ⟨3,[a]⟩=(R,erR 2):=by simp only[xp];rw[ur ub,ur ub,ur ub];exact uv h0
    rw[e];exact zc0 hR (.k3e a h0)
  ·obtain⟨i,rfl⟩: ∃i:Nat,a=i:=⟨a.toNat,ua⟩
   have hlt:i<R.length:=by omega
   rcases hc with rfl|rfl
   ·have e:xp R ⟨2,[(i:Int)]⟩=(R.eraseIdx i,okR (at0 (yo R i) 0)):=by simp only[xp];rw[ur ub,ur ub,ur ub];exact ur h0
    rw[e]
    exact zc0 hR (.k2 i _ _ (hrow i hlt).1 (hcell i hlt))
   ·have e:xp R ⟨3,[(i:Int)]⟩=(R,okR (at0 (yo R i) 0)):=by simp only[xp];rw[ur ub,ur ub,ur ub];exact ur h0
    rw[e]
    exact zc0 hR (.k3 i _ _ (hrow i hlt).1 (hcell i hlt))
 ·exact zc0 hR .k7
def posI(x:Int):List Int->Nat->Int
 | [],_=> -1
 |y::l,k=>if x=y then k else posI x l (k+1)
theorem zja(x:Int): ∀(l:List Int) (k:Nat),0<=posI x l k↔x∈l
 | [],k=>by simp[posI]
 |y::l,k=>by
  simp only[posI,uV]
  split
  ·rename_i h;simp[h]
  ·rename_i h;rw[zja x l (k+1)];simp[h]
theorem zpI(l:List Int)(x:Int):zk Tryz.prog 202 [pS (zA l),I x] [] (I (posI x l 0)) []:=by
 refine gO T Tryz.func202 λC hC=>?_
 refine jq 0 rfl λhl=>?_
 rw[uj]at hl
 repeat' first|refine gG ?_|refine gB ?_ ?_<;>intro h
 rw[uj]
 refine zn (λi:Nat=>i<=l.length/\posI x (l.drop i) i=posI x l 0) (λi=>([(0,pS (zA l)),(1,I x),(7,I l.length),(8,I i)],[])) (λi=>l.length - i) hC
  0 ⟨uA _,rfl⟩ id gM ?_
 rintro i ⟨hi,hn⟩
 refine zr T hC true 200 rfl ?_
 refine zu rfl ?_ ?_<;>intro h
 ·have hlt:i<l.length:=by simpa using h
  clear h
  obtain⟨y,hy⟩:=ze hlt
  rw[zeA hy]at hn
  simp only[posI]at hn
  repeat' first|refine gG ?_|refine gB ?_ ?_<;>intro h|refine gI T (zg hy) ?_|refine zx ?_
  ·rw[uv (uo h)]at hn
   rw[<-hn]
   exact gF
  ·rw[ur (uq h)]at hn
   rw[wrap64 ua]
   exact zf (i+1) ⟨ua,hn⟩ id ua gM
 ·have hge: ¬i<l.length:=by simpa using h
  rw[tR ua]at hn
  simp only[posI]at hn
  repeat' first|refine gG ?_|refine gB ?_ ?_<;>intro h|refine zj ?_
  rw[<-hn]
  exact gF
theorem zhR(l:List Int)(x:Int):zk Tryz.prog 162 [pS (zA l),I x] [] (.bq (decide (x∈l))) []:=by
 have hX:=zpI l x
 have hm:decide (x∈l)=decide (0<=posI x l 0):=ob.2 (zja x l 0).symm
 rw[hm]
 refine gO T Tryz.func162 λC hC=>?_
 repeat' first|refine gG ?_|refine gB ?_ ?_<;>intro h|refine gC hX ?_
 exact gF
theorem zm8(r:Rw)(x:Int):zk Tryz.prog 161 [pS (zA r),.one (.bx 0 0)] [(0,.box [.p (ki x)])] (.bq (decide (x∈r))) [(0,.box [.p (ki x)])]:=by
 have hX:=zhR r x
 refine gO T Tryz.func161 λC hC=>?_
 repeat' first|refine gG ?_|refine gB ?_ ?_<;>intro h|refine gC hX ?_
 exact gE
theorem zpJ(f:FuncId)(kx:Int)(l:List Rw)(p:Rw->Unit->Bool)(nx:Rw->Unit->Unit)(inv:Unit->Prop)
 (hf: ∀x∈l,∀s:Unit,inv s->zk Tryz.prog f [pS (zA x),.one (.bx 0 0)] [(0,.box [.p (ki kx)])] (.bq (p x s)) ((λs:Unit=>[(0,.box [.p (ki kx)])]) (nx x s))/\(p x s=false->inv (nx x s))) (s:Unit) (hs:inv s):
 zk Tryz.prog 160 [pS (.sl 1 (l.map z8)),.one (.cl f [] [.bx 0 0])] [(0,.box [.p (ki kx)])] (I (idxR p nx l 0 s).1) ((λs:Unit=>[(0,.box [.p (ki kx)])]) (idxR p nx l 0 s).2):=by
 refine gO T Tryz.func160 λC hC=>?_
 have hs0:=hs
 refine jq 0 rfl λhl=>?_
 rw[uj]at hl
 repeat' first|refine gG ?_|refine gB ?_ ?_<;>intro h
 rw[uj]
 refine zn (λq:Nat×Unit=>q.1<=l.length/\inv q.2/\idxR p nx (l.drop q.1) q.1 q.2=idxR p nx l 0 s) (λq=>(λs:Unit=>([(0,pS (.sl 1 (l.map z8))),(1,.one (.cl f [] [.bx 0 0])),(7,I l.length),(8,I q.1)],[(0,some (.box [.p (ki kx)]))])) q.2) (λq=>l.length - q.1) hC
  (0,s) ⟨uA _,hs,rfl⟩ id gM ?_
 generalize idxR p nx l 0 s=res
 clear hs hs0
 rintro⟨i,s⟩ ⟨hi,hv,hn⟩
 simp only at hi hv hn
 refine zr T hC true 200 rfl ?_
 refine zu rfl ?_ ?_<;>intro hh
 ·have hlt:i<l.length:=by simpa using hh
  clear hh
  obtain⟨x,hx⟩:=ze hlt
  rw[drop_at hx]at hn
  simp only[idxR]at hn
  have hv2:=(hf x (List.mem_of_getElem? hx) s hv).2
  repeat' first|refine gG ?_|refine gB ?_ ?_<;>intro h|refine gI T (zg hx) ?_|refine zy hC (hf x (List.mem_of_getElem? hx) s hv).1 id rfl rfl (yr.refl _) rfl rfl rfl rfl rfl rfl rfl rfl ?_|refine zx ?_
  ·rw[uv uf]at hn
   subst hn
   exact gE
  ·have hpf:p x s=false:=by assumption
   rw[hpf]at hn
   simp only[uU,tO]at hn
   rw[wrap64 ua]
   exact zf (i+1,nx x s) ⟨by simp only;omega,hv2 hpf,hn⟩ id (by simp only;omega) gM
 ·have hge: ¬i<l.length:=by simpa using hh
  rw[tf ua]at hn
  simp only[idxR]at hn
  subst hn
  repeat' first|refine gG ?_|refine gB ?_ ?_<;>intro h|refine zj ?_
  exact gE
theorem zjb(a:Int): ∀(R:Rws) (k:Nat),(idxR (λ(r:Rw) (_:Unit)=>decide (a∈r)) (λ_ s=>s) R k ()).1=clsI a R k
 | [],k=>rfl
 |r::R,k=>by
  simp only[idxR,clsI,ux]
  split
  ·rfl
  ·exact zjb a R (k+1)
theorem xQ(R:Rws)(a:Int):zk Tryz.prog 138 [pS (yp R),I a] [] (I (clsI a R 0)) []:=by
 have hX:=zpJ 161 a R (λr _=>decide (a∈r)) (λ_ s=>s) (λ_=>True) (λr _ _ _=>⟨zm8 r a,λ_=>trivial⟩) () trivial
 rw[zjb]at hX
 refine gO T Tryz.func138 λC hC=>?_
 repeat' first|refine gG ?_|refine gB ?_ ?_<;>intro h|refine gR hX (nm [1003]) ?_
 exact gF
theorem zpK(b:Bool):zk Tryz.prog 139 [.bq b] [] (I (if b=true then 1 else 0)) []:=by
 refine gO T Tryz.func139 λC hC=>?_
 repeat' first|refine gG ?_|refine gB ?_ ?_<;>intro h|refine gN ?_
 ·rw[h];rfl
 ·rw[h];rfl
theorem vK(a:Int): ∀(R:Rws) (k:Nat),(clsI a R k= -1/\ ∀r∈R,a∉r)\/ ∃(i:Nat) (r:Rw),clsI a R k=((k+i:Nat):Int)/\R[i]?=some r/\a∈r/\ ∀(j:Nat) s,j<i->R[j]?=some s->a∉s
 | [],k=> .inl ⟨rfl,λr hr=>by cases hr⟩
 |r::R,k=>by
  simp only[clsI]
  split
  ·rename_i h
   exact .inr ⟨0,r,rfl,rfl,h,λj s hj=>absurd hj (q8 _)⟩
  ·rename_i h
   rcases vK a R (k+1)with⟨h1,h2⟩|⟨i,s,h1,h2,h3,h4⟩
   ·exact .inl ⟨h1,λx hx=>(uV.1 hx).elim (λe=>by rw[e];exact h) (h2 x)⟩
   ·refine .inr ⟨i+1,s,by rw[h1];congr 1;omega,h2,h3,λj x hj hx=>?_⟩
    cases j with
    |zero=>simp at hx;rw[<-hx];exact h
    |succ j=>exact h4 j x ua (by simpa using hx)
theorem zwS(R:Rws)(hR:R.length<=500):zk Tryz.prog 102 [.one (.ar 0),zm [ki 5,zA []]] [(0,vg 1 R.length),(1,bg R)] (.tup [.one (.ar 2),zm (rsR (okR R.length))]) [(2,vg 3 R.length),(3,bg R)]:=by
 have hN:=yL R.length
 refine gO T Tryz.func102 λC hC=>?_
 repeat' first|refine gG ?_|exact gP|refine gB ?_ ?_<;>intro h|refine gJ ?_|refine gC hN ?_
 all_goals exact gW [0,1,0,1]
theorem zwT(R:Rws)(hR:R.length<=500)(x:Int)(i:Nat)(r:Rw)(hq:R[i]?=some r)(hil:i<R.length)(hA:zk Tryz.prog 138 [pS (yp R),I x] [] (I i) []):zk Tryz.prog 102 [.one (.ar 0),zm [ki 4,zA [x]]] [(0,vg 1 R.length),(1,bg R)] (.tup [.one (.ar 2),zm (rsR (okR r.length))]) [(2,vg 3 R.length),(3,bg R)]:=by
 have hN:=yL r.length
 refine gO T Tryz.func102 λC hC=>?_
 repeat' first|refine gG ?_|exact gP|refine gB ?_ ?_<;>intro h|refine gJ ?_|refine gV ?_|refine wF hC hA [(0,vg 1 R.length),(1,bg R)] rfl rfl (zac.cons (LnS.one (zf3 0 1 R)) (zac.refl _)) rfl rfl rfl rfl ?_|(refine jo T hC (i) rfl rfl rfl rfl rfl ua rfl rfl ?_;refine we T hC rfl rfl rfl ua rfl rfl ?_)|refine zqX T hC hq rfl rfl rfl rfl rfl ?_|refine gC hN ?_
 all_goals exact gW [0,1,0,1]
variable {R:Rws}{rs:RsT}
set_option maxHeartbeats 4000000 in
theorem zm9(hR:R.length<=500){x y za zb c:Int}{l:List Int}(hA:zk Tryz.prog 138 [pS (yp R),I x] [] (I za) [])(hB:zk Tryz.prog 138 [pS (yp R),I y] [] (I zb) [])(H:(c=4/\l=[x]/\za<0/\rs=erR 12)\/((c=2\/c=3)/\l=[x,y]/\(za<0\/zb<0)/\rs=erR 12)\/(0<=za/\0<=zb/\l=[x,y]/\(c=2/\za=zb/\rs=okR 0\/c=3/\rs=okR (if za=zb then 1 else 0)))):zk Tryz.prog 102 [.one (.ar 0),zm [ki c,zA l]] [(0,vg 1 R.length),(1,bg R)] (.tup [.one (.ar 2),zm (rsR rs)]) [(2,vg 3 R.length),(3,bg R)]:=by
 have hT2:=zpK (decide (za=zb))
 rcases H with⟨rfl,rfl,h0,rfl⟩|⟨rfl|rfl,rfl,h0,rfl⟩|⟨h0,h1,rfl,⟨rfl,h2,rfl⟩|⟨rfl,rfl⟩⟩
 all_goals
  try rw[show(if za=zb then(1:Int)else 0)=if decide (za=zb)=true then 1 else 0 by simp]
  refine gO T Tryz.func102 λC hC=>?_
  repeat' first|refine gG ?_|exact gP|refine gB ?_ ?_<;>intro h|refine gJ ?_|refine gV ?_|refine wF hC hA [(0,vg 1 R.length),(1,bg R)] rfl rfl (zac.cons (LnS.one (zf3 0 1 R)) (zac.refl _)) rfl rfl rfl rfl ?_|refine wF hC hB [(0,vg 1 R.length),(1,bg R)] rfl rfl (zac.cons (LnS.one (zf3 0 1 R)) (zac.refl _)) rfl rfl rfl rfl ?_|refine gC hT2 ?_|refine gC (yL _) ?_|refine gC (vI _) ?_
  all_goals exact gW [0,1,0,1]
variable {i:Nat}{r:Rw}
theorem zc2(h:R[i]?=some r):(R.take (i+1)).flatten.length=(R.take i).flatten.length+r.length:=by
 rw[wz h,tY,uB];simp
theorem jI(R:Rws)(i:Nat):(R.take i).flatten.length<=R.flatten.length:=by
 conv=>rhs;rw[<-tv i R,tY,uB]
 omega
theorem zwA(R:Rws)(hR:R.length<=500){R2:Rws}(H:R.flatten.length=500/\R=R2/\rs=erR 4\/R.flatten.length<500/\R2=R++[[(R.flatten.length:Int)]]/\rs=okR R.flatten.length):zk Tryz.prog 102 [.one (.ar 0),zm [ki 1,zA []]] [(0,vg 1 R.length),(1,bg R)] (.tup [.one (.ar 2),zm (rsR rs)]) [(2,vg 3 R2.length),(3,bg R2)]:=by
 have hb:R.flatten.length<=500:=by omega
 have hbg:bg (R++[[(R.flatten.length:Int)]])= .bag 1 ((R.map λr=>r.map zR)++[[[ki R.flatten.length]]]):=by rw[bg,<-zhP];rfl
 refine gO T Tryz.func102 λC hC=>?_
 repeat' first|refine gG ?_|exact gP|refine gB ?_ ?_<;>intro h|refine gJ ?_
 refine zn (λi:Nat=>i<=R.length) (λi=>([(0,.one (.ar 0)),(5,.one (.bx 1005 0)),(6,I ((R.take i).flatten.length)),(21,.one (.ar 0)),(22,I R.length),(23,I i)],[(0,some (vg 1 R.length)),(1,some (bg R)),(1005,some (.box [.p (ki 0),.p (ki 0),.p (.k (.slice none 0 0))]))])) (λi=>R.length - i) hC
  0 (uA _) id gM ?_
 intro i hi
 refine zr T hC true 200 rfl ?_
 refine zu rfl ?_ ?_<;>intro h
 ·have hlt:i<R.length:=by simpa using h
  clear h
  obtain⟨r,hq⟩:=ze hlt
  have hft:=zc2 hq
  have hle:=jI R (i+1)
  repeat' first|refine gG ?_|refine gB ?_ ?_<;>intro h|refine jo T hC i rfl rfl rfl rfl rfl hlt rfl rfl ?_|refine we T hC rfl rfl rfl hlt rfl rfl ?_|refine zqX T hC hq rfl rfl rfl rfl rfl ?_
  rw[zC ua,wrap64 (n:=((R.take i).flatten.length:Int)+(r.length:Int)) ua,show((R.take i).flatten.length:Int)+(r.length:Int)=(((R.take (i+1)).flatten.length:Nat):Int) by omega]
  exact zf (i+1) ua id ua gM
 ·have hge: ¬i<R.length:=by simpa using h
  have e:R.take i=R:=uT ua
  rw[e]
  rcases H with⟨h5,rfl,rfl⟩|⟨h5,rfl,rfl⟩
  ·repeat' first|refine gG ?_|exact gP|refine gB ?_ ?_<;>intro h|refine zj ?_|refine gJ ?_|refine gC (vI 4) ?_
   all_goals exact gW [0,1,0,1]
  ·rw[uB,uC]
   have hml:(R.map λr=>r.map zR).length=R.length:=uj _
   repeat' first|refine gG ?_|exact gP|refine gB ?_ ?_<;>intro h|refine zj ?_|(refine zfP T hC [PC.p (ki R.flatten.length)] [] rfl rfl rfl rfl rfl rfl rfl rfl rfl rfl rfl rfl ?_;refine zup rfl 1038 [[ki R.flatten.length]] rfl rfl ?_;refine ziT hC rfl 1 1038 105 (e:=1) (L:=R.map λr=>r.map zR) (rs:=[[ki R.flatten.length]]) rfl rfl rfl rfl [(38,.one (.nv 105 R.length))] ⟨⟨_,rfl,RwS.one (TkF.arr hml.symm)⟩,uh⟩ [(0,vg 105 R.length)] ⟨⟨_,rfl,rfl,RwR.zvs λj _=>TkF.nv⟩,uh⟩ ?_)|(refine zfP T hC [PC.n 0 R.length] [105] rfl rfl rfl rfl rfl rfl rfl rfl rfl rfl rfl rfl ?_)|(refine zf2 T 106 hC (ib:=105) (m:=R.length) (bytes:=24) rfl rfl rfl rfl rfl rfl rfl rfl rfl ud ua ua rfl rfl rfl ?_)|refine gC (yL _) ?_
   rw[hbg]
   exact gW [0,1,106,105]
def grS(n lo:Nat):List (List PC):=(List.range n).map λj=>[if j=lo then PC.a 1 else PC.n 0 j]
theorem jJ(n lo:Nat):(grS n lo).length=n:=by rw[grS,uj,tV]
theorem zna(n lo:Nat): ∀r∈grS n lo,r.length=1:=λr hr=>by obtain⟨_,_,rfl⟩:=ql.1 hr;rfl
theorem zjc(n lo:Nat):(grS n lo).flatten=(List.range n).map λj=>if j=lo then PC.a 1 else PC.n 0 j:=by
 unfold grS
 induction List.range n with
 |nil=>rfl
 |cons a l ih=>simp only[tK,tF,ih];rfl
variable {lo:Nat}
theorem znb{n j:Nat}{x:PC}(h:(grS n lo).flatten[j]?=some x):j<n/\x=if j=lo then PC.a 1 else PC.n 0 j:=by
 rw[zjc,uE,uH]at h
 obtain⟨q,hq,rfl⟩:=h
 have hlt:=(ui.1 hq).1
 rw[tV]at hlt
 rw[qg hlt]at hq
 obtain rfl:=uy hq
 exact⟨hlt,rfl⟩
theorem zjd{n j:Nat}(h:j<n):(grS n lo).flatten[j]?=some (if j=lo then PC.a 1 else PC.n 0 j):=by
 rw[zjc,uE,qg h];rfl
theorem zsm(n lo:Nat):RwR (OpF 1 110 111 lo) (vg 1 n) (.vw [110,111] 1 (grS n lo)):=RwR.vw (by rw[jJ,xx]) (zna _ _) λj x' hj=>by
 obtain⟨hlt,rfl⟩:=znb hj
 refine⟨_,zku hlt,?_⟩
 by_cases h:j=lo
 ·subst h;rw[uv rfl];exact OpF.ar
 ·rw[ur h];exact OpF.nv h
variable {A:Rw}
theorem zf6(ha:R[lo]?=some A):LnV [(0,.vw [110,111] 1 (grS R.length lo)),(110,.bag 1 ((R.map λr=>r.map zR).set lo [])),(111,.arr 1 (A.map zR))] (.ar 0) (.p (yp R)):=
 LnV.vw (.head _) (by rw[uj,jJ]) (λr hr=>by obtain⟨_,_,rfl⟩:=ql.1 hr;rfl) λj x' hj=>by
  have hfl:(R.map z8).flatten=R.map zA:=by
   clear hj ha
   induction R with
   |nil=>rfl
   |cons a l ih=>simp only[tK,tF,ih];rfl
  rw[hfl,uE,uH]at hj
  obtain⟨r,hr,rfl⟩:=hj
  have hlt:=(ui.1 hr).1
  refine⟨_,zjd hlt,?_⟩
  by_cases h:j=lo
  ·subst h
   rw[uv rfl]
   rw[ha]at hr
   obtain rfl:=uy hr
   exact LnV.ar (.tail _ (.tail _ (.head _)))
  ·rw[ur h]
   exact LnV.nv (.tail _ (.head _)) (by rw[qi (λe=>h e.symm)];exact zhQ hr)
variable {C:Ctx}{P:Program}{Q:Exit->St->Prop}{rest:List Oper}{tab:Tab}
section
variable {k:List Frm} {n:Nat} {sl:zl} {all:Array Oper}
theorem zje(T:Ty P){d:Nat}{x y:Operand}{t:TypeId}{ty:TypeId}{ps:String}{af:Array Edge}{g0:Option (Nat×Bool)}{gs:zl}{md:Mode}(hC:C.low){id:Nat}{ids:List Nat}{rows:List (List PC)}{el:TypeId}{z:Int}(i:Nat)
 (hx:ev sl x=some (.one (.ar id))) (hy:ev sl y=some (I z)) (hz:z=i) (hT:tg tab id=some (.vw ids 1 rows)) (he:T.es t=some (el,1)) (hi:i<rows.length) (hm:metL all sl g0=some gs) (hd:Nat.blt d n=true)
 (g:Goal P C (.ops all rest (nx md ⟨some d,gs++(rq x (.one (.ar id))++rq y (I z)),[(id,.vw ids 1 rows)],[],.one (.el id i),[]⟩)) k n ((d,.one (.el id i))::sl) tab Q):
 Goal P C (.ops all (⟨some d,.indexAddr t x y,ty,ps,af,g0⟩::rest) md) k n sl tab Q:=by
 subst hz
 refine zqR T hC hx hy hT he (uw _) ua hm hd ?_
 rw[uF,qS]
 exact g
end
theorem zut{n i2:Nat}(h:lo<n): ∀(j:Nat) v,[V.ar i2][j]?=some v-> ∃p,(grS n lo).flatten[lo+j]?=some p/\toV [110,i2] p=v:=λj v hj=>by
 match j,hj with
 |0,hj=>exact⟨_,zjd h,by simp at hj;rw[<-hj,uN,uv rfl];rfl⟩
 |j+1,hj=>simp at hj
theorem zvY{n hi i2:Nat}(h:hi<n)(hne:hi≠lo): ∀(j:Nat) v,[V.nv 110 hi][j]?=some v-> ∃p,(grS n lo).flatten[hi+j]?=some p/\toV [110,i2] p=v:=λj v hj=>by
 match j,hj with
 |0,hj=>exact⟨_,zjd h,by simp at hj;rw[<-hj,uN,ur hne];rfl⟩
 |j+1,hj=>simp at hj
theorem zvZ{n:Nat}: ∀(q:Nat) p,(grS n lo).flatten[q]?=some p->(lo<=q/\ [V.ar 112][q - lo]?=some (toV [110,112] p))\/((q<lo\/lo+ [V.ar 112].length<=q)/\ ∃p0,(grS n lo).flatten[q]?=some p0/\toV [110,111] p0=toV [110,112] p):=λq p hq=>by
 obtain⟨hlt,rfl⟩:=znb hq
 by_cases h:q=lo
 ·subst h
  exact .inl ⟨uG _,by rw[qv,uv rfl];rfl⟩
 ·refine .inr ⟨by simp only[uI,qt];omega,_,hq,?_⟩
  rw[ur h];rfl
theorem zsn(n lo:Nat):RwR (TkF 110 112 113 n) (.vw [110,112] 1 (grS n lo)) (.vw [113] 1 (grJ ((List.range n).set lo n))):=RwR.vw (by rw[jJ,zhE,tq,tV]) (zmP _) λj x' hj=>by
 rw[jc,uE,uH]at hj
 obtain⟨q,hq,rfl⟩:=hj
 have hlt:=(ui.1 hq).1
 rw[tq,tV]at hlt
 refine⟨_,zjd hlt,?_⟩
 by_cases h:j=lo
 ·subst h
  rw[qH (by rw[tV];exact hlt)]at hq
  obtain rfl:=uy hq
  rw[uv rfl]
  exact TkF.ar
 ·rw[qi (λe=>h e.symm),qg hlt]at hq
  obtain rfl:=uy hq
  rw[ur h]
  exact TkF.nv
theorem zc3(n lo:Nat):((List.range n).set lo n).Nodup:=by
 rw[List.nodup_iff_pairwise_ne,tu]
 intro i j hi hj hij
 rw[tq,tV]at hi hj
 rw[oW,oW]
 split<;>split<;>(try simp only[List.getElem_range])<;>omega
theorem zso{L:List (List (List PV))}{M:List (List PV)}(hlo:lo<L.length): ∀(i q:Nat),((List.range L.length).set lo L.length)[i]?=some q->q<(L.set lo []++[M]).length/\(L.set lo M)[i]?=(L.set lo []++[M])[q]?:=λi q hq=>by
 have hlt:=(ui.1 hq).1
 rw[tq,tV]at hlt
 by_cases h:i=lo
 ·subst h
  rw[qH (by rw[tV];exact hlt)]at hq
  obtain rfl:=uy hq
  rw[qH hlt,uO (by rw[tq];exact uG _),tq,qv]
  exact⟨ue,rfl⟩
 ·rw[qi (λe=>h e.symm),qg hlt]at hq
  obtain rfl:=uy hq
  rw[qi (λe=>h e.symm),uP (by rw[tq];exact hlt),qi (λe=>h e.symm)]
  exact⟨ug,rfl⟩
set_option maxHeartbeats 4000000 in
theorem zq0(R:Rws)(hR:R.length<=500)(x y:Int)(lo hi:Nat)(A B:Rw)(ha:R[lo]?=some A)(hb:R[hi]?=some B)(hlt:lo<hi)(hl:A.length+B.length<=1000){p q:Nat}(hpq:(lo=p/\hi=q)\/(hi=p/\lo=q))(hA:zk Tryz.prog 138 [pS (yp R),I x] [] (I p) [])(hB:zk Tryz.prog 138 [pS (yp R),I y] [] (I q) []):
 zk Tryz.prog 102 [.one (.ar 0),zm [ki 2,zA [x,y]]] [(0,vg 1 R.length),(1,bg R)] (.tup [.one (.ar 2),zm (rsR (okR 1))]) [(2,vg 3 (R.length - 1)),(3,bg ((R.set lo (xk (A++B))).eraseIdx hi))]:=by
 have hN:=yL 1
 have hhi:hi<R.length:=(ui.1 hb).1
 have hAl:(A.map zR).length=A.length:=uj _
 have hBl:(B.map zR).length=B.length:=uj _
 have hLl:(R.map λr=>r.map zR).length=R.length:=uj _
 have hS:=zmT (A++B) (by rw[uB];omega)
 have hsetl:(R.set lo (xk (A++B))).length=R.length:=tq
 have hD:=zi5 (R.set lo (xk (A++B))) hi (by rw[hsetl];exact hhi) (by rw[hsetl];omega)
 rw[hsetl]at hD
 have hbh:((R.map λr=>r.map zR).set lo [])[hi]?=some (B.map zR):=by rw[qi ua];exact zhQ hb
 have hsl:((R.map λr=>r.map zR).set lo []).length=R.length:=by rw[tq,hLl]
 have hjl:((List.range R.length).set lo R.length).length=R.length:=by rw[tq,tV]
 have hna: ∀(i q:Nat),((List.range R.length).set lo R.length)[i]?=some q->q<((R.map λr=>r.map zR).set lo []++[(xk (A++B)).map zR]).length/\((R.set lo (xk (A++B))).map λr=>r.map zR)[i]?=((R.map λr=>r.map zR).set lo []++[(xk (A++B)).map zR])[q]?:=by
  have:=zso (L:=R.map λr=>r.map zR) (lo:=lo) (M:=(xk (A++B)).map zR) ua
  rw[hLl,zqY]at this
  exact this
 rcases hpq with⟨rfl,rfl⟩|⟨rfl,rfl⟩
 all_goals
  refine gO T Tryz.func102 λC hC=>?_
  refine zt3 hC rfl 1 110 111 lo (e:=1) (rs:=A.map zR) rfl (zhQ ha) rfl rfl rfl [] uh [(0,.vw [110,111] 1 (grS R.length lo))] ⟨⟨_,rfl,rfl,zsm _ _⟩,uh⟩ ?_
  repeat' first|refine gG ?_|exact gP|refine gB ?_ ?_<;>intro h|refine gV ?_|refine wF hC hA [(0,.vw [110,111] 1 (grS R.length lo)),(110,.bag 1 ((R.map λr=>r.map zR).set lo [])),(111,.arr 1 (A.map zR))] rfl rfl (zac.cons (LnS.one (zf6 ha)) (zac.refl _)) rfl rfl rfl rfl ?_|refine wF hC hB [(0,.vw [110,111] 1 (grS R.length lo)),(110,.bag 1 ((R.map λr=>r.map zR).set lo [])),(111,.arr 1 (A.map zR))] rfl rfl (zac.cons (LnS.one (zf6 ha)) (zac.refl _)) rfl rfl rfl rfl ?_|(refine zje T hC lo rfl rfl rfl rfl rfl (by rw[jJ];omega) rfl rfl ?_;refine zey T hC [.ar 111] rfl rfl rfl (zut ua) rfl rfl rfl ?_)|(refine zje T hC hi rfl rfl rfl rfl rfl (by rw[jJ];omega) rfl rfl ?_;refine zey T hC [.nv 110 hi] rfl rfl rfl (zvY hhi ua) rfl rfl rfl ?_)|(refine zje T hC lo rfl rfl rfl rfl rfl (by rw[jJ];omega) rfl rfl ?_;refine zey T hC [.ar 112] rfl rfl rfl (zut ua) rfl rfl rfl ?_)|refine xa T 112 hC (id:=111) (rows:=A.map zR) (rows2:=B.map zR) (rows3:=(A++B).map zR) (bytes:=8) rfl rfl rfl rfl (zae.nv (T.es_ok _ _ rfl) hbh (λr hr=>by obtain⟨_,_,rfl⟩:=ql.1 hr;rfl)) (uY).symm rfl rfl rfl ud ua ua rfl rfl rfl ?_|(refine zje T hC lo rfl rfl rfl rfl rfl (by rw[jJ];omega) rfl rfl ?_;refine zpp T hC (us:=[.ar 112]) (grS R.length lo) [110,112] rfl rfl rfl rfl rfl rfl rfl (zna _ _) (by rw[jJ];simp only[uI,qt];omega) zvZ rfl ?_)|refine gR hS (nm [112]) ?_|(rw[zC ua];refine ziT hC rfl 110 112 113 (e:=1) (L:=(R.map λr=>r.map zR).set lo []) (rs:=(xk (A++B)).map zR) rfl rfl rfl rfl [] uh [(0,.vw [113] 1 (grJ ((List.range R.length).set lo R.length)))] ⟨⟨_,rfl,rfl,by rw[hsl];exact zsn _ _⟩,uh⟩ ?_;refine zt4 hC rfl 0 113 114 ((List.range R.length).set lo R.length) (e:=1) (L:=(R.map λr=>r.map zR).set lo []++[(xk (A++B)).map zR]) ((R.set lo (xk (A++B))).map λr=>r.map zR) rfl rfl (zc3 _ _) (by rw[uj,hsetl,hjl]) hna rfl rfl ?_;rw[hjl];refine gR hD (nm [0,114,122,123]) ?_)|refine gC hN ?_
  exact gW [0,1,122,123]
section
variable {k:List Frm} {n:Nat} {sl:zl} {all:Array Oper}
end
abbrev KM:Int:=4
theorem op4(h:okOp 4 o=true):o=⟨1,[]⟩\/(∃x y,(o=⟨2,[x,y]⟩\/o=⟨3,[x,y]⟩)/\wH x=true/\wH y=true)\/(∃x,o=⟨4,[x]⟩/\wH x=true)\/o=⟨5,[]⟩:=by
 obtain⟨w,h1,h2,hw,h3, -⟩:=za0 h
 obtain⟨c,l⟩:=o
 have hc:c=1\/c=2\/c=3\/c=4\/c=5:=by
  have:(yf 4).length=5:=rfl
  simp only at h1 h2;omega
 rcases hc with rfl|rfl|rfl|rfl|rfl<;>(obtain rfl:=uy hw;obtain⟨hl,hn⟩:=h3 ub;simp only at hl hn)
 ·obtain rfl:=zun (l:=l) ua
  exact .inl rfl
 iterate 2
  ·obtain⟨a,b,rfl⟩:=zqZ (l:=l) ua
   exact .inr (.inl ⟨a,b,ue,hn a ue,hn b ue⟩)
 ·obtain⟨a,rfl⟩:=zsj (l:=l) ua
  exact .inr (.inr (.inl ⟨a,rfl,hn a ue⟩))
 ·obtain rfl:=zun (l:=l) ua
  exact .inr (.inr (.inr rfl))
theorem yN.zjf(h:yN R)(ha:R[i]?=some A):A.length<=500:=by
 have:=h.tot
 have h2:=zc2 ha
 have h3:=jI R (i+1)
 omega
theorem yN.dis(h:yN R){a b:Nat}{B:Rw}(ha:R[a]?=some A)(hb:R[b]?=some B)(hab:a<b): ∀x∈A,x∉B:=λx hx hy=>by
 obtain⟨Pr,Qr,Sr,e1,_⟩:=zfK ha hb hab
 have:=h.nd
 rw[e1]at this
 simp only[tY,tF]at this
 have h1:=(q5.1 this).2.1
 exact(q5.1 h1).2.2 x hx x (by simp[hy]) rfl
theorem jZ{A B:List Int}(ha:A.Pairwise (· < ·))(hb:B.Pairwise (· < ·))(hd: ∀x∈A,x∉B):xk (A++B)=mergeI A B:=
 zaV ((xM _).trans (xH _ A B (uG _)).symm) (vF _) (ztT (jS _ A B (uG _) ha hb hd))
theorem zsp(R:Rws)(o:OpT)(hv:zJ 4 R=true)(ho:okOp 4 o=true):
 zk Tryz.prog 102 [.one (.ar 0),zm (opR o)] [(0,vg 1 R.length),(1,bg R)] (.tup [.one (.ar 2),zm (rsR (yv R o).2)]) [(2,vg 3 (yv R o).1.length),(3,bg (yv R o).1)]:=by
 obtain⟨hR,hT⟩:=zf5 hv
 have htot:=hT.tot
 rcases op4 ho with rfl|⟨x,y,hc,hx,hy⟩|⟨x,rfl,hx⟩|rfl
 ·by_cases h5:R.flatten.length=500
  ·have e:yv R ⟨1,[]⟩=(R,erR 4):=by simp only[yv];rw[ur ub,uv trivial];exact uv h5
   rw[e];exact zwA R hR (.inl ⟨h5,rfl,rfl⟩)
  ·have e:yv R ⟨1,[]⟩=(R++[[(R.flatten.length:Int)]],okR R.flatten.length):=by simp only[yv];rw[ur ub,uv trivial];exact ur h5
   rw[e]
   exact zwA R hR (.inr ⟨ua,rfl,rfl⟩)
 ·have hA:=xQ R x
  have hB:=xQ R y
  have rd: ∀(a:Int),(clsI a R 0= -1)\/ ∃(i:Nat) (r:Rw),clsI a R 0=(i:Int)/\R[i]?=some r:=λa=>by
   rcases vK a R 0 with⟨h,_⟩|⟨i,r,h,h2,_⟩
   ·exact .inl h
   ·exact .inr ⟨i,r,by rw[h,tI],h2⟩
  by_cases hz:clsI x R 0<0\/clsI y R 0<0
  ·rcases hc with rfl|rfl
   ·have e:yv R ⟨2,[x,y]⟩=(R,erR 12):=by simp only[yv];rw[ur ub,ur ub,ur ub];exact uv hz
    rw[e];exact zm9 hR hA hB (.inr (.inl ⟨.inl rfl,rfl,hz,rfl⟩))
   ·have e:yv R ⟨3,[x,y]⟩=(R,erR 12):=by simp only[yv];rw[ur ub,ur ub,ur ub];exact uv hz
    rw[e];exact zm9 hR hA hB (.inr (.inl ⟨.inr rfl,rfl,hz,rfl⟩))
  ·rcases hc with rfl|rfl
   ·obtain⟨a,A,h1,h2⟩:=(rd x).resolve_left ua
    obtain⟨b,B,h3,h4⟩:=(rd y).resolve_left ua
    have e0:yv R ⟨2,[x,y]⟩=if clsI x R 0=clsI y R 0 then(R,okR 0)else((R.set (min (clsI x R 0) (clsI y R 0)).toNat (mergeI (yo R (clsI x R 0).toNat) (yo R (clsI y R 0).toNat))).eraseIdx (max (clsI x R 0) (clsI y R 0)).toNat,okR 1):=by
     simp only[yv];rw[ur ub,ur ub,ur ub];exact(ur hz).trans (ur ub)
    rw[e0,h1,h3]
    rw[h1]at hA
    rw[h3]at hB
    have hla:=hT.zjf h2
    have hlb:=hT.zjf h4
    rcases Nat.lt_trichotomy a b with hab|rfl|hab
    ·have hbl:b<R.length:=(ui.1 h4).1
     rw[ur ua,UG ua,Ut ua,uF,uF,yK h2,yK h4,<-jZ (hT.asc _ (List.mem_of_getElem? h2)) (hT.asc _ (List.mem_of_getElem? h4)) (hT.dis h2 h4 hab)]
     simp only[qm (show b<(R.set a (xk (A++B))).length by rw[tq];exact hbl),tq]
     exact zq0 R hR x y a b A B h2 h4 hab ua (.inl ⟨rfl,rfl⟩) hA hB
    ·rw[uv rfl]
     exact zm9 hR hA hB (.inr (.inr ⟨ua,ua,rfl,.inl ⟨rfl,rfl,rfl⟩⟩))
    ·have hal:a<R.length:=(ui.1 h2).1
     have hm:mergeI A B=xk (B++A):=by
      have h5:=jZ (hT.asc _ (List.mem_of_getElem? h2)) (hT.asc _ (List.mem_of_getElem? h4)) λx hx hy=>hT.dis h4 h2 hab x hy hx
      rw[<-h5]
      exact zaV ((xM _).trans (oS.trans (xM _).symm)) (vF _) (vF _)
     rw[ur ua,Uu ua,UH ua,uF,uF,yK h2,yK h4,hm]
     simp only[qm (show a<(R.set b (xk (B++A))).length by rw[tq];exact hal),tq]
     exact zq0 R hR x y b a B A h4 h2 hab ua (.inr ⟨rfl,rfl⟩) hA hB
   ·have e:yv R ⟨3,[x,y]⟩=(R,okR (if clsI x R 0=clsI y R 0 then 1 else 0)):=by simp only[yv];rw[ur ub,ur ub,ur ub];exact(ur hz).trans (uv trivial)
    rw[e];exact zm9 hR hA hB (.inr (.inr ⟨ua,ua,rfl,.inr ⟨rfl,rfl⟩⟩))
 ·have hA:=xQ R x
  rcases vK x R 0 with⟨h,_⟩|⟨i,r,h,h2,_⟩
  ·have e:yv R ⟨4,[x]⟩=(R,erR 12):=by simp only[yv];rw[ur ub,ur ub,uv trivial];exact uv (by rw[show at0 [x] 0=x from rfl,h];decide)
   rw[e];exact zm9 hR hA hA (.inl ⟨rfl,rfl,by rw[h];decide,rfl⟩)
  ·rw[tI]at h
   have e:yv R ⟨4,[x]⟩=(R,okR r.length):=by
    simp only[yv];rw[ur ub,ur ub,uv trivial,show at0 [x] 0=x from rfl,h,uF,yK h2];exact ur ua
   rw[e]
   rw[h]at hA
   exact zwT R hR x i r h2 (ui.1 h2).1 hA
 ·exact zwS R hR
theorem j4{k:Int}(h:zJ k R=true):R.length<=500/\(k=1\/k=2\/k=3\/k=4\/k=5\/k=6):=by
 unfold zJ at h
 simp only[uu,ux]at h
 refine⟨h.1,?_⟩
 have h2:=h.2
 split at h2; ·omega
 split at h2; ·omega
 split at h2; ·omega
 split at h2; ·omega
 split at h2; ·omega
 split at h2; ·omega
 cases h2
theorem zpL(k:Int)(R:Rws)(o:OpT)(hv:zJ k R=true)(ho:okOp k o=true)(hm:k<=KM):
 zk Tryz.prog 69 [I k,.one (.ar 0),zm (opR o)] [(0,vg 1 R.length),(1,bg R)] (.tup [.one (.ar 2),zm (rsR (wq k R o).2)]) [(2,vg 3 (wq k R o).1.length),(3,bg (wq k R o).1)]:=by
 obtain⟨hR,hk⟩:=j4 hv
 rcases hk with rfl|rfl|rfl|rfl|rfl|rfl
 ·have hF:=zsk R o hv ho
  have e:wq 1 R o=zT R o:=rfl
  rw[e]
  generalize zT R o=z at hF⊢
  refine gO T Tryz.func69 λC hC=>?_
  repeat' first|refine gG ?_|exact gP|refine gB ?_ ?_<;>intro h|refine gR hF (nm [0,1,102,103]) ?_
  exact gW [0,1,102,103]
 ·have hF:=zsl R o hv ho
  have e:wq 2 R o=xi R o:=rfl
  rw[e]
  generalize xi R o=z at hF⊢
  refine gO T Tryz.func69 λC hC=>?_
  repeat' first|refine gG ?_|exact gP|refine gB ?_ ?_<;>intro h|refine gR hF (nm [0,1,102,103]) ?_
  exact gW [0,1,102,103]
 ·have hF:=zus R o hv ho
  have e:wq 3 R o=xp R o:=rfl
  rw[e]
  generalize xp R o=z at hF⊢
  refine gO T Tryz.func69 λC hC=>?_
  repeat' first|refine gG ?_|exact gP|refine gB ?_ ?_<;>intro h|refine gR hF (nm [0,1,102,103]) ?_
  exact gW [0,1,102,103]
 ·have hF:=zsp R o hv ho
  have e:wq 4 R o=yv R o:=rfl
  rw[e]
  generalize yv R o=z at hF⊢
  refine gO T Tryz.func69 λC hC=>?_
  repeat' first|refine gG ?_|exact gP|refine gB ?_ ?_<;>intro h|refine gR hF (nm [0,1,102,103]) ?_
  exact gW [0,1,102,103]
 ·exact absurd hm ub
 ·exact absurd hm ub
theorem zbb{k:Int}(h:zJ k R=true):R.length<=500/\ ∀r∈R,r.length<=500:=by
 obtain⟨hR,hk⟩:=j4 h
 refine⟨hR,λr hr=>?_⟩
 rcases hk with rfl|rfl|rfl|rfl|rfl|rfl
 ·rw[(zf4 h).2.wide r hr];decide
 ·rw[(zi9 h).2.wide r hr];decide
 ·rw[(zdK h).2.wide r hr];decide
 ·obtain⟨i,hi⟩:=tj.1 hr
  exact(zf5 h).2.zjf hi
 ·rw[(zul h).2.wide r hr];decide
 ·rcases zum h with rfl|⟨s,rfl,_,h2,_⟩
  ·cases hr
  ·simp only[tP]at hr;rw[hr];exact h2
theorem zbq(k:Int)(R:Rws)(o:OpT)(hv:zJ k R=true)(ho:okOp k o=true)(hm:k<=KM):
 zk Tryz.prog 62 [zm (stR k R),zm (opR o)] [] (.tup [zm (stR k (wq k R o).1),zm (rsR (wq k R o).2),I 0]) []:=by
 obtain⟨hR,hw⟩:=zbb hv
 have hV:=zmW k R (λr hr=>by have:=hw r hr;omega) ua
 have hO:=jU k o
 have hCp:=zcR R ua (λr hr=>by have:=hw r hr;omega)
 have hA:=zpL k R o hv ho hm
 rw[hv]at hV
 rw[ho]at hO
 generalize wq k R o=z at hA⊢
 obtain⟨R2,x⟩:=z
 simp only at hA⊢
 refine gO T Tryz.func62 λC hC=>?_
 repeat' first|refine gG ?_|exact gD|refine gB ?_ ?_<;>intro h|refine gC hV ?_|refine gC hO ?_|refine gR hCp (nm [101,102]) ?_|refine gR hA (nm [101,102,103,104]) ?_
 refine zcW rfl [(103,vg 104 R2.length),(104,bg R2)] rfl [] uh [(1004,.box [.p (ki k),.p (yp R2)])] ⟨⟨_,rfl,rfl,LnR.box (.cons (.refl _) (.cons (zf3 103 104 R2) .nil))⟩,uh⟩ ?_
 exact gF
variable {w:Nat}
theorem yP.put{p:Rw->Rw->Bool}(h:yP w p R){r':Rw}(hi:R[i]?=some r)(hl:r'.length=w)(hn: ∀x∈r',wH x=true)(h1: ∀a,p a r'=p a r)(h2: ∀a,p r' a=p r a):yP w p (R.set i r'):=by
 have hil:=(ui.1 hi).1
 have hm: ∀x∈R.set i r',x∈R\/x=r':=λx hx=>Un hx
 refine⟨λx hx=>?_,λx hx=>?_,?_⟩
 ·rcases hm x hx with h3|rfl
  ·exact h.wide x h3
  ·exact hl
 ·rcases hm x hx with h3|rfl
  ·exact h.nums x h3
  ·exact hn
 ·have:=h.asc
  rw[tu]at this⊢
  intro a b ha hb hab
  rw[tq]at ha hb
  have h3:=this a b ha hb hab
  have hri:R[i]=r:=(ui.1 hi).2
  rw[oW,oW]
  split
  ·rename_i e;subst e
   rw[ur ua,h2]
   rw[hri]at h3
   exact h3
  ·split
   ·rename_i e;subst e
    rw[h1]
    rw[hri]at h3
    exact h3
   ·exact h3
variable {c:Nat}
theorem zsq{a b:Rw}(h:a.take c=b.take c)(ha:c<=a.length)(hb:c<=b.length)(d:Rw):ltC c a d=ltC c b d:=zew c a b d h ha hb
theorem zsr{a b:Rw}(h:a.take c=b.take c)(d:Rw):ltC c d a=ltC c d b:=by rw[<-zeG c d a,h,zeG]
variable {x:Rw}
theorem yP.zv0(h:yP w (ltC c) R)(hcw:c<=w)(hx:x.length=w)(hn: ∀y∈x,wH y=true)(hq:hasC c R x=false):yP w (ltC c) (ju R (yD c R x) x):=
 h.ins hx hn (w9 h zfJ x).1 (zr0 h hcw ua hq)
theorem yP.zv1(h:yP 1 (λa b=> !ltC 1 b a) R)(hx:x.length=1)(hn: ∀y∈x,wH y=true):yP 1 (λa b=> !ltC 1 b a) (ju R (yD 1 R x) x):=
 h.ins hx hn (λr hr=>by rw[ziX 1 ((w9 h ziR x).1 r hr)];rfl) (λr hr=>by rw[(w9 h ziR x).2 r hr];rfl)
theorem yP.any{R':Rws}(h:yP w (λ_ _=>true) R)(hm: ∀r∈R',r∈R\/(r.length=w/\ ∀x∈r,wH x=true)):yP w (λ_ _=>true) R':=
 ⟨λr hr=>(hm r hr).elim (h.wide r) λe=>e.1,λr hr=>(hm r hr).elim (h.nums r) λe=>e.2,List.pairwise_of_forall λ_ _=>rfl⟩
theorem zpM(h:r∈ju R i x):r∈R\/r=x:=by
 simp only[ju,u7,uV]at h
 rcases h with h|rfl|h
 ·exact .inl (u6 h)
 ·exact .inr rfl
 ·exact .inl (tE h)
theorem mk1(hR:R.length<=500)(h:yP 2 (ltC 1) R):zJ 1 R=true:=by
 have h2:=(w8 (zrZ 1 2)).2 h
 simp only[zJ,uv,h2,qJ,ux];exact hR
theorem mk2(hR:R.length<=500)(h:yP 1 (λa b=> !ltC 1 b a) R):zJ 2 R=true:=by
 show(decide (R.length<=500)&&tableB 1 (λa b=> !ltC 1 b a) R)=true
 rw[(w8 ztS).2 h,qJ];exact uK hR
theorem mk3(hR:R.length<=500)(h:yP 1 (λ_ _=>true) R):zJ 3 R=true:=by
 show(decide (R.length<=500)&&tableB 1 (λ_ _=>true) R)=true
 rw[(w8 (zqN 1)).2 h,qJ];exact uK hR
theorem mk4(h:yN R):zJ 4 R=true:=by
 show(decide (R.length<=500)&&zbj R)=true
 rw[zaW.2 h,qJ];exact uK (yN.len h)
theorem zeI(i:Nat)(h:R.length<=500):(R.eraseIdx i).length<=500:=qn (qC ..).length_le h
theorem zhS(x:Rw)(hR:R.length<=500)(h5: ¬R.length=500)(hi:i<=R.length):(ju R i x).length<=500:=by rw[jW hi];omega
theorem zkx(hv:zJ 1 R=true)(ho:okOp 1 o=true):zJ 1 (zT R o).1=true:=by
 obtain⟨hR,hT⟩:=zf4 hv
 unfold zT
 simp only
 split; ·exact hv
 split; ·split<;>exact hv
 split
 ·rename_i h8 h7 h1
  rcases op1 ho with rfl|⟨a,hc,ha⟩|⟨a,b,rfl,ha,hb⟩
  ·exact absurd rfl h8
  ·rcases hc with rfl|rfl|rfl|rfl|rfl|rfl<;>simp at h1
  ·split
   ·rename_i hq
    obtain⟨r,hr,hlt,_⟩:=jX hq
    have hl:=hT.wide r (List.mem_of_getElem? hr)
    obtain⟨x,y,rfl⟩:=zqZ hl
    have hn:=hT.nums _ (List.mem_of_getElem? hr)
    refine mk1 (by simpa using hR) (hT.put hr ?_ ?_ ?_ ?_)
    ·rw[yK hr];rfl
    ·rw[yK hr]
     intro z hz
     have:z=x\/z=b:=by simpa [at0]using hz
     rcases this with rfl|rfl
     ·exact hn z ue
     ·exact hb
    ·intro d;rw[yK hr];exact zsr (c:=1) (a:=[x,b]) (b:=[x,y]) rfl d
    ·intro d;rw[yK hr];exact zsq (c:=1) (a:=[x,b]) (b:=[x,y]) rfl ue ue d
   ·rename_i hq
    split
    ·exact hv
    ·rename_i h5
     exact mk1 (zhS _ hR h5 (jb _ _ _)) (hT.zv0 ub rfl (λz hz=>by
      have:z=a\/z=b:=by simpa using hz
      rcases this with rfl|rfl
      ·exact ha
      ·exact hb) (by simpa using hq))
 ·split; ·exact hv
  split; ·split; ·exact hv
          split<;>exact hv
  split; ·split<;>exact hv
  split
  ·simp only
   split
   ·exact mk1 (zeI _ hR) (hT.sub (qC ..))
   ·exact hv
  ·exact hv
theorem zky(hv:zJ 2 R=true)(ho:okOp 2 o=true):zJ 2 (xi R o).1=true:=by
 obtain⟨hR,hT⟩:=zi9 hv
 unfold xi
 split; ·exact hv
 split
 ·rename_i h4 h1
  rcases op2 ho with⟨a,rfl,ha⟩|rfl|rfl|rfl
  ·split
   ·exact hv
   ·rename_i h5
    exact mk2 (zhS _ hR h5 (jb _ _ _)) (hT.zv1 rfl λz hz=>by
     have:z=a:=by simpa using hz
     rw[this];exact ha)
  all_goals simp at h1 h4
 ·split
  ·exact hv
  ·simp only
   split
   ·exact mk2 (zeI _ hR) (hT.sub (qC ..))
   ·exact hv
theorem znc(hv:zJ 3 R=true)(ho:okOp 3 o=true):zJ 3 (xp R o).1=true:=by
 obtain⟨hR,hT⟩:=zdK hv
 unfold xp
 simp only
 split; ·exact hv
 split
 ·split
  ·exact hv
  ·split
   ·refine mk3 ?_ (hT.any λr hr=> .inl ?_)
    ·simp only[zhw,uB,qO,uz,uQ];omega
    ·simp only[zhw,u7,List.mem_reverse]at hr
     rcases hr with(hr|hr)|hr
     ·exact u6 hr
     ·exact u6 (tE hr)
     ·exact tE hr
   ·exact hv
 split
 ·rename_i h7 h56 h1
  rcases op3 ho with⟨a,b,hc,ha,hb⟩|⟨a,hc,ha⟩|rfl
  ·split
   ·exact hv
   ·rename_i h0
    split
    ·exact hv
    ·rename_i h5
     rcases hc with rfl|rfl|rfl|rfl
     ·refine mk3 (zhS _ hR h5 ?_) (hT.any λr hr=>?_)
      ·simp[at0]at h0 ⊢; omega
      ·rcases zpM hr with h|rfl
       ·exact .inl h
       ·exact .inr ⟨rfl,λz hz=>by simp[at0]at hz;rw[hz];exact hb⟩
     all_goals simp at h1
  ·rcases hc with rfl|rfl<;>simp at h1
  ·simp at h1
 ·split
  ·exact hv
  ·rename_i h0
   simp only
   split
   ·exact mk3 (zeI _ hR) (hT.sub (qC ..))
   ·split
    ·rename_i h4
     rcases op3 ho with⟨a,b,hc,ha,hb⟩|⟨a,hc,ha⟩|rfl
     ·rcases hc with rfl|rfl|rfl|rfl
      ·simp at h4
      ·have hlt:(at0 [a,b] 0).toNat<R.length:=by simp[at0]at h0 ⊢; omega
       obtain⟨z,hz⟩:=zsj (hT.wide _ (List.mem_of_getElem? (ym hlt)))
       refine mk3 (by simpa using hR) (hT.any λr hr=>?_)
       rcases Un hr with h|rfl
       ·exact .inl h
       ·refine .inr ⟨?_,λy hy=>?_⟩
        ·show((yo R (at0 [a,b] 0).toNat).set 0 _).length=1
         rw[hz];rfl
        ·have hy':y∈(yo R (at0 [a,b] 0).toNat).set 0 (at0 [a,b] 1):=hy
         rw[hz]at hy'
         simp[at0]at hy'
         rw[hy'];exact hb
      ·simp at h4
      ·simp at h4
     ·rcases hc with rfl|rfl<;>simp at h4
     ·simp at h4
    ·exact hv
theorem zjg{a:Int}(h: ¬clsI a R 0<0): ∃(i:Nat) (r:Rw),clsI a R 0=(i:Int)/\R[i]?=some r/\a∈r:=by
 rcases vK a R 0 with⟨h1,_⟩|⟨i,r,h1,h2,h3,_⟩
 ·omega
 ·exact⟨i,r,by rw[h1,tI],h2,h3⟩
theorem zhT{A B:List Int}(ha:A.Pairwise (· < ·))(hb:B.Pairwise (· < ·))(hd: ∀x∈A,x∉B):mergeI A B=mergeI B A:=by
 rw[<-jZ ha hb hd,<-jZ hb ha λx hx hy=>hd x hy hx]
 exact zaV ((xM _).trans (oS.trans (xM _).symm)) (vF _) (vF _)
theorem zkz(hv:zJ 4 R=true):zJ 4 (yv R o).1=true:=by
 obtain⟨hR,hT⟩:=zf5 hv
 unfold yv
 simp only
 split; ·exact hv
 split
 ·split
  ·exact hv
  ·rename_i h5;exact mk4 (hT.make h5)
 split
 ·split<;>exact hv
 split
 ·exact hv
 rename_i hz
 split
 ·exact hv
 split
 ·exact hv
 rename_i h3 hab
 obtain⟨a,A,h1,h2,_⟩:=zjg (R:=R) (a:=at0 o.args 0) ua
 obtain⟨b,B,h4,h5,_⟩:=zjg (R:=R) (a:=at0 o.args 1) ua
 rw[h1,h4]at hab⊢
 rcases Nat.lt_or_ge a b with hlt|hge
 ·rw[UG ua,Ut ua,uF,uF,yK h2,yK h5]
  exact mk4 (hT.union h2 h5 hlt)
 ·rw[Uu ua,UH ua,uF,uF,yK h2,yK h5,zhT (hT.asc _ (List.mem_of_getElem? h2)) (hT.asc _ (List.mem_of_getElem? h5)) λx hx hy=>hT.dis h5 h2 ua x hy hx]
  exact mk4 (hT.union h5 h2 ua)
theorem zkA{k:Int}(hv:zJ k R=true)(ho:okOp k o=true)(hm:k<=KM):zJ k (wq k R o).1=true:=by
 rcases(j4 hv).2 with rfl|rfl|rfl|rfl|rfl|rfl
 ·exact zkx hv ho
 ·exact zky hv ho
 ·exact znc hv ho
 ·exact zkz hv
 ·exact absurd hm ub
 ·exact absurd hm ub
end Hw.Fr.Md
namespace Hw.Fr
open Go Go.Proofs Go.Shelf Hw.M Md
abbrev Mt:=Int×OpT
def stO(k:Int)(R:Rws)(ms:List Mt):Rws:=ms.foldl (λR m=>(wq k R m.2).1) R
def flO(k:Int):Rws->List Mt->List Bool
 |_,[]=>[]
 |R,m::l=>(!decide ((wq k R m.2).2.e=0))::flO k (wq k R m.2).1 l
def ptO(k:Int)(ms:List Mt):List Rws:=(List.range (ms.length / 16)).map λj=>stO k [] (ms.take (16*(j+1)))
def zik(m:Mt)(f:Bool):List PV:=[ki m.1,ki m.2.code,zA m.2.args,.k (.bool f)]
def yB(ms:List Mt)(fl:List Bool):List (List PV):=List.zipWith zik ms fl
def zas(k:Int)(ps:List Rws):List (List PV):=ps.map λR=>[.pr (stR k R)]
structure TLk (k:Int) (ms:List Mt):Prop where
 kind:1<=k/\k<=KM
 len:ms.length<=140
 asc:ms.Pairwise λa b=>a.1<b.1
 tm: ∀m∈ms,0<=m.1/\m.1<=1073741824
 ok: ∀m∈ms,okOp k m.2=true
variable {ms:List Mt}
theorem TLk.k6{k:Int}(h:TLk k ms):1<=k/\k<=6:=⟨h.kind.1,Int.le_trans h.kind.2 ub⟩
theorem zss(k:Int)(R:Rws)(a b:List Mt):stO k R (a++b)=stO k (stO k R a) b:=List.foldl_append
theorem zst(k:Int)(R:Rws)(m:Mt):stO k R [m]=(wq k R m.2).1:=rfl
theorem wu{k:Int}(hm:k<=KM): ∀ {ms:List Mt} {R:Rws},zJ k R=true->(∀m∈ms,okOp k m.2=true)->zJ k (stO k R ms)=true
 | [],_,h,_=>h
 |m::l,R,h,ho=>wu hm (ms:=l) (zkA h (ho m (tQ ..)) hm) λx hx=>ho x (td _ hx)
theorem wX{k:Int}(hk:1<=k/\k<=6):zJ k []=true:=by
 rcases(by omega:k=1\/k=2\/k=3\/k=4\/k=5\/k=6)with rfl|rfl|rfl|rfl|rfl|rfl<;>decide
theorem yT(k:Int): ∀(ms:List Mt) (R:Rws),(flO k R ms).length=ms.length
 | [],_=>rfl
 |m::l,R=>by rw[flO,uI,yT k l,uI]
theorem zhU(k:Int): ∀(a b:List Mt) (R:Rws),flO k R (a++b)=flO k R a++flO k (stO k R a) b
 | [],_,_=>rfl
 |m::l,b,R=>by rw[ta,flO,zhU k l b,flO,ta];rfl
theorem zjh(k:Int)(R:Rws)(ms:List Mt)(i:Nat):(flO k R ms).take i=flO k R (ms.take i):=by
 rcases Nat.lt_or_ge i ms.length with h|h
 ·conv=>lhs;rw[<-tv i ms,zhU]
  rw[List.take_left' (by rw[yT,uz];omega)]
 ·rw[uT h,uT (by rw[yT];exact h)]
theorem vo(k:Int)(ms:List Mt):(ptO k ms).length=ms.length / 16:=by simp[ptO]
theorem znd{k:Int}{j:Nat}(h:j<ms.length / 16):(ptO k ms)[j]?=some (stO k [] (ms.take (16*(j+1)))):=by
 unfold ptO
 rw[uE,qg h];rfl
variable {q:Nat}
theorem zpN{k:Int}(hq:q<ms.length):
 ptO k (ms.take (q+1))=if(q+1) % 16=0 then ptO k (ms.take q)++[stO k [] (ms.take (q+1))]else ptO k (ms.take q):=by
 have hl:(ms.take (q+1)).length=q+1:=by rw[uz];omega
 have hl0:(ms.take q).length=q:=by rw[uz];omega
 have h1: ∀j,j<q / 16->((ms.take (q+1)).take (16*(j+1)))=(ms.take q).take (16*(j+1)):=λj hj=>by
  rw[oc,oc,oK ua,oK ua]
 split
 ·rename_i h
  have e:(q+1) / 16=q / 16+1:=by omega
  unfold ptO
  rw[hl,hl0,e,UE,uY,List.map_singleton]
  congr 1
  ·exact List.map_congr_left λj hj=>by rw[h1 j (oP.1 hj)]
  ·rw[oc,show 16*(q / 16+1)=q+1 by omega,UT]
 ·rename_i h
  have e:(q+1) / 16=q / 16:=by omega
  unfold ptO
  rw[hl,hl0,e]
  exact List.map_congr_left λj hj=>by rw[h1 j (oP.1 hj)]
variable {m:Mt}
theorem zbZ{k:Int}(h:ms[q]?=some m):stO k [] (ms.take (q+1))=(wq k (stO k [] (ms.take q)) m.2).1:=by
 rw[tG,h,qR,zss,zst]
theorem zqA{k:Int}(h:ms[q]?=some m):(flO k [] ms)[q]?=some (!decide ((wq k (stO k [] (ms.take q)) m.2).2.e=0)):=by
 have hlt:=(ui.1 h).1
 have e:ms=ms.take q++m::ms.drop (q+1):=by
  conv=>lhs;rw[<-tv q ms]
  rw[tS hlt,(ui.1 h).2]
 have hl0:(flO k [] (ms.take q)).length=q:=by rw[yT,uz];omega
 conv=>lhs;rw[e,zhU]
 rw[uO ua,hl0,qv]
 rfl
def xr(ms:List Mt)(t:Int):Nat:=(ms.takeWhile λm=>decide (m.1<t)).length
def hasT(ms:List Mt)(t:Int):Bool:=match ms[xr ms t]? with
 |some m=>decide (m.1=t)
 |none=>false
theorem zcy(ms:List Mt)(t:Int):xr ms t<=ms.length:=(List.takeWhile_sublist _).length_le
end Hw.Fr
namespace Hw
open Go
variable {P:Program}{af:Array Edge}{d:Option Nat}{el t:TypeId}{g:Option (Nat×Bool)}{ps:String}{rows:List (List PV)}{ss:List S}{z:List V}
section
variable {ty:TypeId}
theorem zuu{id e len:Nat}{l:List (Nat×Operand)}(hx:zjH (l.map (·.2)) ss)(he:elemSz P t=some (el,e))(hz:zeroV P el=some z)
 (hr:partsR e 0 (l.map (·.1)) ss=some rows) (hl:Nat.beq l.length len=true) (hb:Nat.ble (len*e) 16777216=true) (hb2:Nat.ble len 16777216=true):
 Snd P ⟨d,.buildSlice t len l.toArray,ty,ps,af,g⟩ (rqs (l.map (·.2)) ss) [] [id] (.one (.ar id)) [(id,some (.arr e rows))]:=by
 intro C st M ρ a w hH h1 hT hF hd k Q hk
 have e':=hH.zlj (jv hx h1)
 obtain⟨h2,h3,out,h4,h5,h6⟩:=zaA hr e'
 obtain⟨ii,hu,hinf,hsz⟩:=zB he
 obtain⟨i',zv,hi',hzv,hzs⟩:=wm hz
 rw[hinf]at hi';simp only[um]at hi';subst hi'
 have hl':l.length=len:=u0 hl
 have hb':len*e<=16777216:=tz hb
 have hrl:rows.length=len:=by rw[h3];simpa using hl'
 have hzip:(l.toArray.map λp=>(p.1,a.eval p.2)).toList=(l.map (·.1)).zip ((l.map (·.2)).map a.eval):=by
  rw[oi];simp[Up]
 have hfull: ∀cur:Array Value,cur.size=len*e->(setAt cur.toList (0*e) out).toArray=out.toArray:=λcur hc=>by
  unfold setAt
  have:cur.toList.drop (0*e+out.length)=[]:=by apply tf;simp[h5,hrl,hc]
  rw[this];simp
 have hrun:(execOp a.eval ⟨d,.buildSlice t len l.toArray,ty,ps,af,g⟩).run P w= .ok (.value (.slice (some ⟨w.heap.size,0,none⟩) len len)) (w.alloc (.cells out.toArray el)):=by
  have hn: ¬16777216<len*e:=by omega
  by_cases h0:len*e=0
  ·have hf:=h6 ((Array.range (len*e)).map λx=>(#[]:Array Value)[x % 0]!) (by simp[hrl])
   rw[hfull _ ue]at hf
   rw[<-hzip]at hf
   simp only[h0]at hf
   simp[execOp,Instr.buildSlice,run_underlying hu,run_sizeOf hinf,hsz,h0,newRow]at hf⊢
   simp[hf]
  ·have hf:=h6 ((Array.range (len*e)).map λx=>zv.cells[x % zv.cells.size]!) (by simp[hrl])
   rw[hfull _ ue]at hf
   rw[<-hzip]at hf
   have hzrun:(zeroValue el).run P w= .ok zv w:=by simp[zeroValue,typeInfo,hinf,hzv]
   simp[execOp,Instr.buildSlice,run_underlying hu,run_sizeOf hinf,hsz,hn,h0,newRow,hzrun]at hf⊢
   simp[hf]
 unfold Oper.wp
 rw[hrun,Oper.upon_value]
 refine hk _ _ M _ (hH.alloc (val:= .slice (some ⟨w.heap.size,0,none⟩) len len) (λb hb=>by simp only[Bk,blk,um]at hb;exact hb.symm) hF.1
  ⟨some ⟨w.heap.size,0,none⟩,len,by rw[hrl];exact zw _ _ _,ua,by have:=tz hb2;omega,.inr ⟨w.heap.size,0,out.toArray,el,(0,0),rfl,zP w _,λi hi=>by simp,by simp[h5,hrl],RowsIn.yx h2 h4 λj c hj=>?_⟩⟩ (by simp only[RepS,RepV];exact⟨(zw _ _ _).symm,rfl⟩) hd)
 rw[tI];simpa using hj
end
variable {C:Ctx}{Q:Exit->St->Prop}{g0:Option (Nat×Bool)}{gs:zl}{md:Mode}{rest:List Oper}{tab:Tab}
section
variable {k:List Frm} {n:Nat} {sl:zl} {all:Array Oper}
theorem zqB(T:Ty P)(hC:C.low){d:Nat}{len:Nat}{l:List (Nat×Operand)}{ty:TypeId}{e:Nat}
 (hl:evs sl (l.map (·.2))=some ss) (he:T.es t=some (el,e)) (hz:T.zs el=some z) (hr:partsR e 0 (l.map (·.1)) ss=some rows) (hl1:Nat.beq l.length len=true) (hl2:Nat.ble (len*e) 16777216=true) (hl3:Nat.ble len 16777216=true)
 (hm:metL all sl g0=some gs) (hd:Nat.blt d n=true) (hf:(Nat.ble 100 (1000+d)&&freshB (1000+d) ⟨n,sl,tab⟩)=true)
 (g:Goal P C (.ops all rest (nx md ⟨some d,gs++rqs (l.map (·.2)) ss,[],[1000+d],.one (.ar (1000+d)),[(1000+d,some (.arr e rows))]⟩)) k n ((d,.one (.ar (1000+d)))::sl) ((1000+d,some (.arr e rows))::tab) Q):
 Goal P C (.ops all (⟨some d,.buildSlice t len l.toArray,ty,ps,af,g0⟩::rest) md) k n sl tab Q:=by
 have e2:=jw (st:=⟨n,sl,tab⟩) hl
 have:=zp hm (zuu (id:=1000+d) (ty:=ty) (ps:=ps) (af:=af) (g:=g0) (d:=some d) e2.1 (T.es_ok _ _ he) (T.zs_ok _ _ hz) hr hl1 hl2 hl3) (n:=n) (tab:=tab)
 exact yk (L:=⟨some d,gs++rqs (l.map (·.2)) ss,[],[1000+d],.one (.ar (1000+d)),[(1000+d,some (.arr e rows))]⟩) hC this.1 rfl ⟨by rw[zd];exact⟨this.2,e2.2⟩,trivial,zcf hf,hd⟩ g
end
section
variable {ty:TypeId} {x y:Operand}
end
section
variable {k:List Frm} {n:Nat} {sl:zl} {all:Array Oper}
end
variable {tys:Array TypeId}
section
variable {ty:TypeId} {x1 x2:Operand}
theorem zuv{a b c:Int}(hc:(if b<a then b else a)=c)(h1:okc x1 (I a))(h2:okc x2 (I b)):
 Snd P ⟨d,.call ⟨.builtin .min,#[x1,x2],tys⟩,ty,ps,af,g⟩ (rq x1 (I a)++rq x2 (I b)) [] [] (I c) []:=
 zo λC st M ρ act w hH h _=>by
  rw[zd]at h
  have e1:=hH.k (zI h1 h.1)
  have e2:=hH.k (zI h2 h.2)
  exact⟨.int .i64 c,by rw[<-hc];simp[execOp,resolve,invoke,builtin,Builtin.min_,Builtin.min2,e1,e2],zlc _ _⟩
theorem zuw{a b c:Int}(hc:(if a<b then b else a)=c)(h1:okc x1 (I a))(h2:okc x2 (I b)):
 Snd P ⟨d,.call ⟨.builtin .max,#[x1,x2],tys⟩,ty,ps,af,g⟩ (rq x1 (I a)++rq x2 (I b)) [] [] (I c) []:=
 zo λC st M ρ act w hH h _=>by
  rw[zd]at h
  have e1:=hH.k (zI h1 h.1)
  have e2:=hH.k (zI h2 h.2)
  exact⟨.int .i64 c,by rw[<-hc];simp[execOp,resolve,invoke,builtin,Builtin.max_,Builtin.max2,e1,e2],zlc _ _⟩
end
variable {ts:Array TypeId}
section
variable {k:List Frm} {n:Nat} {sl:zl} {all:Array Oper}
theorem zne{d:Nat}{x1 x2:Operand}{ty:TypeId}(hC:C.low){a b:Int}(c:Int)
 (h1:ev sl x1=some (I a)) (h2:ev sl x2=some (I b)) (hc:(if b<a then b else a)=c) (hm:metL all sl g0=some gs) (hd:Nat.blt d n=true)
 (g:Goal P C (.ops all rest (nx md ⟨some d,gs++(rq x1 (I a)++rq x2 (I b)),[],[],I c,[]⟩)) k n ((d,I c)::sl) tab Q):
 Goal P C (.ops all (⟨some d,.call ⟨.builtin .min,#[x1,x2],ts⟩,ty,ps,af,g0⟩::rest) md) k n sl tab Q:=by
 have e1:=zQ (st:=⟨n,sl,tab⟩) h1
 have e2:=zQ (st:=⟨n,sl,tab⟩) h2
 have:=zp hm (zuv (P:=P) (ty:=ty) (ps:=ps) (af:=af) (g:=g0) (d:=some d) (tys:=ts) hc e1.1 e2.1) (n:=n) (tab:=tab)
 exact yk (L:=⟨some d,gs++(rq x1 (I a)++rq x2 (I b)),[],[],I c,[]⟩) hC this.1 rfl ⟨by rw[zd,zd];exact⟨this.2,e1.2,e2.2⟩,trivial,rfl,hd⟩ g
theorem zux{d:Nat}{x1 x2:Operand}{ty:TypeId}(hC:C.low){a b:Int}(c:Int)
 (h1:ev sl x1=some (I a)) (h2:ev sl x2=some (I b)) (hc:(if a<b then b else a)=c) (hm:metL all sl g0=some gs) (hd:Nat.blt d n=true)
 (g:Goal P C (.ops all rest (nx md ⟨some d,gs++(rq x1 (I a)++rq x2 (I b)),[],[],I c,[]⟩)) k n ((d,I c)::sl) tab Q):
 Goal P C (.ops all (⟨some d,.call ⟨.builtin .max,#[x1,x2],ts⟩,ty,ps,af,g0⟩::rest) md) k n sl tab Q:=by
 have e1:=zQ (st:=⟨n,sl,tab⟩) h1
 have e2:=zQ (st:=⟨n,sl,tab⟩) h2
 have:=zp hm (zuw (P:=P) (ty:=ty) (ps:=ps) (af:=af) (g:=g0) (d:=some d) (tys:=ts) hc e1.1 e2.1) (n:=n) (tab:=tab)
 exact yk (L:=⟨some d,gs++(rq x1 (I a)++rq x2 (I b)),[],[],I c,[]⟩) hC this.1 rfl ⟨by rw[zd,zd];exact⟨this.2,e1.2,e2.2⟩,trivial,rfl,hd⟩ g
end
section
variable {ty:TypeId} {x y:Operand} {tx:TypeId}
def zvu(ρ:Nat->Value)(id k e m:Nat)(v:Value):Prop:=(m=0/\ ∃(a:Option Addr) (c:Nat),v= .slice a 0 c)\/ ∃(b o N cap c:Nat),ρ id= .slice (some ⟨b,o,none⟩) N cap/\v= .slice (some ⟨b,o+k*e,none⟩) m c
def zvv(e:Nat)(s:S)(rt:RL)(n:Nat)(rows2:List (List PV)):Prop:=
 ∀(C:Ctx) (st:St) (M:Mem) (ρ:Nat->Value) (a:Act) (w:World) (v:Value),Holds C st M ρ a w->RepS M ρ s v->okT rt st->
  rows2.length=n/\ ∃(ad:Option Addr) (cap:Nat),v= .slice ad n cap/\(n=0\/ ∃(b o:Nat) (gg:Nat->Option Value),ad=some ⟨b,o,none⟩/\(∀i c,gg i=some c->w.cell? ⟨b,i,none⟩=some c)/\RowsIn M gg e rows2 o)
theorem zvv.sl{e:Nat}{rows:List (List PV)}:zvv e (.one (.p (.sl e rows))) [] rows.length rows:=λC st M ρ a w v hH hr _=>by
 simp only[RepS,RepV,RepPV]at hr
 obtain⟨ad,cap,h1,_,_,h4⟩:=hr
 refine⟨rfl,ad,cap,h1,?_⟩
 rcases h4 with h4|⟨b,o,h5,h6⟩
 ·exact .inl (by rw[h4];rfl)
 ·exact .inr ⟨b,o,M b,h5,λi c hi=>hH.run.imm b i c hi,h6⟩
theorem zvv.sv{id e n:Nat}{rows:List (List PV)}(hn:n<=rows.length):zvv e (.one (.sv id 0 n)) [(id,.arr e rows)] n (rows.take n):=λC st M ρ a w v hH hr ht=>by
 simp only[RepS,RepV]at hr
 refine⟨by rw[uz];omega,?_⟩
 rcases hr with⟨h0,ad,c,h1⟩|⟨b,o,N,cap,c,h1,h2,_,_⟩
 ·subst h0;exact⟨ad,c,h1,.inl rfl⟩
 ·refine⟨_,c,h2,?_⟩
  obtain⟨ad,cap',h3,h4,h5,h6⟩:=hH.yh.res id _ ht.1
  rw[h1]at h3
  simp only[Value.slice.injEq]at h3
  rcases h6 with⟨h6,_⟩|⟨b',o',cs,el,fz,h6,h7,_,_,h8⟩
  ·rw[h6]at h3;cases h3.1
  ·rw[h6]at h3
   have hbo:b=b'/\o=o':=by have:=h3.1;simp at this;exact this
   obtain⟨rfl,rfl⟩:=hbo
   exact .inr ⟨b,o+0,λi=>cs[i]?,rfl,λi c hi=>by simp only[World.cell?,h7];simpa using hi,by rw[uN];exact h8.take n⟩
theorem zvu.ar{C:Ctx}{st:St}{M:Mem}{ρ:Nat->Value}{a:Act}{w:World}(hH:Holds C st M ρ a w){id e:Nat}{rows:List (List PV)}{v:Value}(hT:tg st.tab id=some (.arr e rows))(h:RepS M ρ (.one (.ar id)) v):zvu ρ id 0 e rows.length v:=by
 simp only[RepS,RepV]at h
 obtain⟨ad,cap,h3,h4,h5,h6⟩:=hH.yh.res id _ hT
 rcases h6 with⟨h6,h7⟩|⟨b,o,cs,el,fz,h6,_⟩
 ·exact .inl ⟨ua,ad,cap,by rw[h.1,h3,show rows.length=0 by omega]⟩
 ·exact .inr ⟨b,o,rows.length,cap,cap,by rw[h3,h6],by rw[h.1,h3,h6,Uy,uN]⟩
theorem zvu.sv{M:Mem}{ρ:Nat->Value}{id k e m:Nat}{v:Value}(h:RepS M ρ (.one (.sv id (k*e) m)) v):zvu ρ id k e m v:=by
 simp only[RepS,RepV]at h
 rcases h with⟨h0,ad,c,h1⟩|⟨b,o,N,cap,c,h1,h2,_,_⟩
 ·exact .inl ⟨h0,ad,c,h1⟩
 ·exact .inr ⟨b,o,N,cap,c,h1,h2⟩
end
section
variable {k:List Frm} {n:Nat} {sl:zl} {all:Array Oper}
end
end Hw
namespace Hw.Fr
open Go Go.Proofs Go.Shelf Hw.M Md
variable {i:Nat}
theorem yO(h:i+1<=1000000):IntKind.i64.wrap ((i:Int)+1)=((i+1:Nat):Int):=by rw[wrap64 ua];omega
variable {fl:List Bool}{ms:List Mt}
theorem xB(h:fl.length=ms.length):(yB ms fl).length=ms.length:=by rw[yB,List.length_zipWith,h,UT]
theorem zat{m:Mt}(h:fl.length=ms.length)(hm:ms[i]?=some m): ∃f,fl[i]?=some f/\(yB ms fl)[i]?=some (zik m f):=by
 have hlt:=(ui.1 hm).1
 refine⟨fl[i],uM ua,?_⟩
 rw[yB,oU,hm,uM ua]
theorem zf7(m:Mt)(f:Bool)(t:Int)(h1:0<=m.1/\m.1<=1073741824)(h2:0<=t/\t<=1073741824):zk Tryz.prog 78 [zm (zik m f),I t] [] (I (m.1 - t)) []:=by
 refine gO T Tryz.func78 λC hC=>?_
 repeat' first|refine gG ?_|refine gB ?_ ?_<;>intro h
 rw[wrap64 ua]
 exact gF
variable {t:Int}
theorem zeJ(hi:i<=ms.length)(hb: ∀(j:Nat) m,j<i->ms[j]?=some m->m.1<t)(ha: ∀m,ms[i]?=some m-> ¬m.1<t):xr ms t=i:=by
 unfold xr
 exact zmK (p:=λm:Mt=>decide (m.1<t)) hi (λj m hj hm=>uK (hb j m hj hm)) λm hm=>uJ (ha m hm)
theorem zq1(h:ms.Pairwise λa b=>a.1<b.1){j:Nat}{a b:Mt}(hij:i<=j)(ha:ms[i]?=some a)(hb:ms[j]?=some b):a.1<=b.1:=by
 obtain⟨hi,rfl⟩:=ui.1 ha
 obtain⟨hj,rfl⟩:=ui.1 hb
 rcases Nat.eq_or_lt_of_le hij with rfl|hlt
 ·exact qB _
 ·exact Int.le_of_lt (tu.1 h i j hi hj hlt)
theorem znf(ms:List Mt)(fl:List Bool)(t:Int)(hf:fl.length=ms.length)(hl:ms.length<=1000)(ha:ms.Pairwise λa b=>a.1<b.1)(hm: ∀m∈ms,0<=m.1/\m.1<=1073741824)(ht:0<=t/\t<=1073741824):
 zk Tryz.prog 77 [pS (.sl 4 (yB ms fl)),I t,.one (.cl 78 [] [])] [] (.tup [I (xr ms t),.bq (hasT ms t)]) []:=by
 refine gO T Tryz.func77 λC hC=>?_
 repeat' first|refine gG ?_|refine gB ?_ ?_<;>intro h
 rw[xB hf]
 refine zn (λp:Nat×Nat=>p.1<=p.2/\p.2<=ms.length/\(∀(j:Nat) m,j<p.1->ms[j]?=some m->m.1<t)/\(∀(j:Nat) m,p.2<=j->ms[j]?=some m-> ¬m.1<t)) (λp=>([(0,pS (.sl 4 (yB ms fl))),(1,I t),(2,.one (.cl 78 [] [])),(8,I ms.length),(9,I p.1),(10,I p.2)],[])) (λp=>p.2 - p.1) hC
  (0,ms.length) ⟨uA _,uG _,λt r h=>absurd h (q8 _),λt r h hr=>absurd (ui.1 hr).1 ua⟩ id gM ?_
 rintro⟨i,j⟩ ⟨hij,hj,hb,hg⟩
 simp only at hij hj hb hg
 refine zr T hC true 200 rfl ?_
 refine zu rfl ?_ ?_<;>intro h
 ·have hlt:i<j:=by simpa using h
  clear h
  repeat' first|refine gG ?_|refine gB ?_ ?_<;>intro h|refine zrz hC rfl rfl ub ub rfl rfl ?_
  have hmid:IntKind.i64.wrap (IntKind.u64.wrap (IntKind.i64.wrap ((i:Int)+(j:Int))) / 2 ^ (1:Int).toNat)=(((i+j) / 2:Nat):Int):=by
   have e1:IntKind.i64.wrap ((i:Int)+(j:Int))=(i:Int)+(j:Int):=wrap64 ua
   rw[e1]
   have:IntKind.u64.wrap ((i:Int)+(j:Int))=((i+j:Nat):Int):=by
    unfold IntKind.wrap
    simp[IntKind.bits,IntKind.signed]
    omega
   rw[this]
   rw[show((i+j:Nat):Int) / 2 ^ (1:Int).toNat=(((i+j) / 2:Nat):Int) by
    rw[show(2:Int) ^ (1:Int).toNat=2 by decide];omega]
   exact wrap64 ua
  simp only
  rw[hmid]
  obtain⟨x,hx⟩:=ze (l:=ms) (i:=(i+j) / 2) ua
  have hxm:=List.mem_of_getElem? hx
  obtain⟨f,_,hxr⟩:=zat hf hx
  have hF:=zf7 x f t (hm x hxm) ht
  generalize hme:(i+j) / 2=m at*
  repeat' first|refine gG ?_|refine gB ?_ ?_<;>intro h|refine gI T hxr ?_|refine gC hF ?_
  ·rw[yO ua]
   have h1:x.1<t:=by have:=uo h;omega
   refine zf (m+1,j) ⟨by simp only;omega,hj,λq r hq hr=>?_,hg⟩ id (by simp only;omega) gM
   have:=zq1 ha (show q<=m by simp only at hq;omega) hr hx
   omega
  ·have h1: ¬x.1<t:=by have:=uq h;omega
   refine zf (i,m) ⟨by simp only;omega,by simp only;omega,hb,λq r hq hr=>?_⟩ id (by simp only;omega) gM
   have:=zq1 ha hq hx hr
   omega
 ·have hge:i=j:=by have:=uq h;simp only at this;omega
  subst hge
  clear h
  have hpos:xr ms t=i:=zeJ hj hb λm hm=>hg i m (uG _) hm
  by_cases hlt:i<ms.length
  ·obtain⟨x,hx⟩:=ze hlt
   obtain⟨f,_,hxr⟩:=zat hf hx
   have hF:=zf7 x f t (hm x (List.mem_of_getElem? hx)) ht
   have hq:hasT ms t=decide (x.1 - t=0):=by
    unfold hasT
    rw[hpos,hx]
    exact ob.2 ua
   rw[hq,hpos]
   repeat' first|refine gG ?_|exact gP|refine gB ?_ ?_<;>intro h|refine zj ?_|refine gI T hxr ?_|refine gC hF ?_
   exact gF
  ·have hq:hasT ms t=false:=by
    unfold hasT
    rw[hpos,tT ua]
   rw[hq,hpos]
   repeat' first|refine gG ?_|exact gP|refine gB ?_ ?_<;>intro h|refine zj ?_
   exact zt ⟨.inl rfl,id,_,rfl,LeS.tup (.cons (.refl _) (.cons (LeS.qb rfl) .nil)),trivial,rfl,rfl⟩
abbrev tlR(sn:Str)(k r:Int)(ms:List Mt)(fl:List Bool)(ps:List Rws):RL:=[(0,.box [.p (ks sn),.p (ki k),.ar 1,.ar 2,.p (ki r)]),(1,.arr 4 (yB ms fl)),(2,.arr 1 (zas k ps))]
def xE(t:Int):Bool:=decide (0<=t)&&decide (t<=1073741824)
theorem wv:xE t=true↔0<=t/\t<=1073741824:=by simp[xE]
theorem vh(t:Int):zk Tryz.prog 49 [I t] [] (.bq (xE t)) []:=by
 refine gO T Tryz.func49 λC hC=>?_
 repeat' first|refine gG ?_|refine gB ?_ ?_<;>intro h|refine gL ?_|refine gQ ?_
 all_goals first
  |(simp_all[xE];done)
  |(simp_all[xE];omega)
theorem za1{sn:Str}{k r:Int}{ps:List Rws}(hk:TLk k ms)(hf:fl.length=ms.length)(ht:0<=t/\t<=1073741824):
 zk Tryz.prog 50 [.one (.bx 0 0),I t] (tlR sn k r ms fl ps) (.tup [I (xr ms t),.bq (hasT ms t)]) (tlR sn k r ms fl ps):=by
 have hB:=znf ms fl t hf (by have:=hk.len;omega) hk.asc hk.tm ht
 refine gO T Tryz.func50 λC hC=>?_
 repeat' first|refine gG ?_|refine gB ?_ ?_<;>intro h|refine wF hC hB [(1,.arr 4 (yB ms fl))] rfl rfl (zac.cons (.one (.ar ue)) (.cons (.refl _) (.cons (.refl _) .nil))) rfl rfl rfl rfl ?_
 exact gE
def opsOf:Code->List Oper
 | .region _ ops _=>ops.toList
 | .seq a b=>opsOf a++opsOf b
 |_=>[]
def rowOf(o:Oper):List (Str×Str×Int):=match o.op with
 | .build _ ps=>match ps.toList with
   | [(_,.const (.string n)),(_,.const (.string x)),(_,.const (.int _ k))]=>[(n,x,k)]
   |_=>[]
 |_=>[]
noncomputable def ztf:List (Str×Str×Int):=match Tryz.f105.body with
 |some c=>(opsOf c).flatMap rowOf
 |none=>[]
def zeK(x:Str×Str×Int):List PV:=[ks x.1,ks x.2.1,ki x.2.2]
theorem zuy:zk Tryz.prog 105 [] [] (pS (.sl 3 (ztf.map zeK))) []:=by
 refine gO T Tryz.func105 λC hC=>?_
 repeat' first|refine gG ?_|refine gB ?_ ?_<;>intro h|refine gT ?_
 exact gF
def noS:Str×Str×Int:=((⟨#[]⟩:UW),(⟨#[]⟩:UW),0)
noncomputable def zcp(s:Str):Option (Str×Str×Int):=ztf.find? λx=>decide (x.1=s)
theorem zpO:ztf.length=11:=by kernel_rfl
theorem zji(s:Str):zk Tryz.prog 71 [Sr s] [] (.tup [zm (zeK ((zcp s).getD noS)),I (if(zcp s).isSome then 0 else 9)]) []:=by
 have hA:=zuy
 have hL:=zpO
 unfold zcp
 generalize ztf=L at hA hL
 refine gO T Tryz.func71 λC hC=>?_
 repeat' first|refine gG ?_|refine gB ?_ ?_<;>intro h|refine gC hA ?_
 rw[uj]
 refine zn (λi:Nat=>i<=L.length/\(L.take i).any (λx=>decide (x.1=s))=false) (λi=>([(0,Sr s),(2,.one (.bx 1002 0)),(6,pS (.sl 3 (L.map zeK))),(7,I L.length),(8,I i)],[(1002,some (Res.box ((zeK noS).map V.p)))])) (λi=>L.length - i) hC
  0 ⟨uA _,ue⟩ id gM ?_
 rintro i ⟨hi,hn⟩
 refine zr T hC true 200 rfl ?_
 refine zu rfl ?_ ?_<;>intro h
 ·have hlt:i<L.length:=by simpa using h
  clear h
  obtain⟨x,hx⟩:=ze hlt
  repeat' first|refine gG ?_|refine gB ?_ ?_<;>intro h|refine gX ?_|refine zx ?_
  ·have e:L.find? (λx=>decide (x.1=s))=some x:=Ps.zht hx uf hn
   rw[e]
   exact gF
  ·rw[yO ua]
   refine zf (i+1) ⟨ua,?_⟩ id ua gM
   rw[tG,hx,List.any_append,hn]
   simpa using h
 ·have hge:L.length=i:=by have:=uq h;omega
  rw[<-hge,tW]at hn
  rw[Ps.zhu hn]
  clear h
  repeat' first|refine gG ?_|refine gB ?_ ?_<;>intro h|refine zj ?_
  exact gF
noncomputable def zuz(s:Str):Int:=((zcp s).getD noS).2.2
theorem zjj(s:Str):zk Tryz.prog 39 [Sr s] [] (.tup [I (zuz s),I (if(zcp s).isSome then 0 else 9)]) []:=by
 have hF:=zji s
 refine gO T Tryz.func39 λC hC=>?_
 repeat' first|refine gG ?_|refine gB ?_ ?_<;>intro h|refine gC hF ?_
 exact gF
theorem zng:ztf.all (λx=>decide (1<=x.2.2)&&decide (x.2.2<=4)&&decide (x.2.1.size<=65536))=true:=by kernel_rfl
theorem zbc{s:Str}{x:Str×Str×Int}(h:zcp s=some x):x.1=s/\(1<=x.2.2/\x.2.2<=4)/\x.2.1.size<=65536:=by
 have h1:=qI h
 have h2:=q7 h
 have h3:=List.all_eq_true.1 zng x h1
 simp only[uu,ux]at h3
 exact⟨uo h2,h3.1,h3.2⟩
end Hw.Fr
namespace Hw.Fr.Ps
open Go Go.Proofs Go.Shelf Hw.M
def ztg(u:Nat):Str:=⟨(Lib.decDigits u).toArray⟩
def zaB(n:Int):Str:=⟨(Lib.itoa n).toArray⟩
theorem zf8(u:Nat):(ztg u).size=Lib.nDigits u:=by
 rw[<-Lib.decDigits_length];simp[ztg,ByteArray.size]
theorem zdL{u:Nat}(h:u<18446744073709551616):Lib.nDigits u<=20:=by
 rcases qA u with rfl|h1
 ·rw[Lib.nDigits_small ua];omega
 ·have:=Lib.numDigits_eq u h1 h
  split at this<;>omega
theorem zf9{n:Int}(h:0<=n):zaB n=ztg n.toNat:=by simp only[zaB,Lib.itoa,ur (show ¬n<0 by omega),ztg]
theorem znh{n:Int}(h:n<0):zaB n=(⟨#[45]⟩:Str)++ztg n.natAbs:=by
 simp only[zaB,Lib.itoa,uv h,ztg]
 apply ByteArray.ext
 rw[oV]
 apply Array.toList_inj.1
 simp
theorem zuA{f:FuncId}{fn:Func}(h:Tryz.prog.funcs[f]?=some fn)(h1:(fn.name== "runtime.NumGoroutine")=false)(h2:fn.body.isNone=false):zad Tryz.prog f:=⟨fn,h,h1,h2⟩
end Hw.Fr.Ps
namespace Hw.Fr
open Go Go.Proofs Go.Shelf
def zga:Go.Shelf.Ren:=⟨λ|171=>143|243=>168|246=>216|283=>260|284=>261|285=>262|286=>263|129=>200|317=>287|318=>288|319=>289|320=>290|337=>310|338=>311|n=>n,λ|3=>3|9=>9|2=>2|4=>4|171=>338|0=>0|53=>286|37=>41|5=>5|173=>340|212=>359|51=>284|20=>20|213=>360|46=>178|232=>385|233=>386|n=>n,λ|17=>1|18=>3|19=>4|n=>n⟩
theorem zpP:Go.Proofs.LaysM.n171 Tryz.prog zga where
 mixed:=by kernel_rfl
 f129:=Tryz.func200.trans (uR some ud)
 f171:=Tryz.func143.trans (uR some ud)
 f243:=Tryz.func168.trans (uR some ud)
 f246:=Tryz.func216.trans (uR some ud)
 f283:=Tryz.func260.trans (uR some ud)
 f284:=Tryz.func261.trans (uR some ud)
 f285:=Tryz.func262.trans (uR some ud)
 f286:=Tryz.func263.trans (uR some ud)
 f317:=Tryz.func287.trans (uR some ud)
 f318:=Tryz.func288.trans (uR some ud)
 f319:=Tryz.func289.trans (uR some ud)
 f320:=Tryz.func290.trans (uR some ud)
 f337:=Tryz.func310.trans (uR some ud)
 f338:=Tryz.func311.trans (uR some ud)
 t0:=Tryz.underlying0
 a0:=Tryz.isAgg0
 z0:=Tryz.sizeOf0
 v0:=Tryz.zeroValue0
 t2:=Tryz.underlying2
 a2:=Tryz.isAgg2
 z2:=Tryz.sizeOf2
 v2:=Tryz.zeroValue2
 t3:=Tryz.underlying3
 a3:=Tryz.isAgg3
 z3:=Tryz.sizeOf3
 v3:=Tryz.zeroValue3
 t4:=Tryz.underlying4
 a4:=Tryz.isAgg4
 z4:=Tryz.sizeOf4
 v4:=Tryz.zeroValue4
 t5:=Tryz.underlying5
 a5:=Tryz.isAgg5
 z5:=Tryz.sizeOf5
 v5:=Tryz.zeroValue5
 t9:=Tryz.underlying9
 a9:=Tryz.isAgg9
 z9:=Tryz.sizeOf9
 v9:=Tryz.zeroValue9
 t20:=Tryz.underlying20
 a20:=Tryz.isAgg20
 z20:=Tryz.sizeOf20
 v20:=Tryz.zeroValue20
 t37:=Tryz.underlying41
 a37:=Tryz.isAgg41
 z37:=Tryz.sizeOf41
 v37:=Tryz.zeroValue41
 t46:=Tryz.underlying178
 a46:=Tryz.isAgg178
 z46:=Tryz.sizeOf178
 v46:=Tryz.zeroValue178
 t51:=Tryz.underlying284
 a51:=Tryz.isAgg284
 z51:=Tryz.sizeOf284
 v51:=Tryz.zeroValue284
 t53:=Tryz.underlying286
 a53:=Tryz.isAgg286
 z53:=Tryz.sizeOf286
 v53:=Tryz.zeroValue286
 t171:=Tryz.underlying338
 a171:=Tryz.isAgg338
 z171:=Tryz.sizeOf338
 v171:=Tryz.zeroValue338
 t173:=Tryz.underlying340
 a173:=Tryz.isAgg340
 z173:=Tryz.sizeOf340
 v173:=Tryz.zeroValue340
 t212:=Tryz.underlying359
 a212:=Tryz.isAgg359
 z212:=Tryz.sizeOf359
 v212:=Tryz.zeroValue359
 t213:=Tryz.underlying360
 a213:=Tryz.isAgg360
 z213:=Tryz.sizeOf360
 t232:=Tryz.underlying385
 a232:=Tryz.isAgg385
 z232:=Tryz.sizeOf385
 v232:=Tryz.zeroValue385
 t233:=Tryz.underlying386
 a233:=Tryz.isAgg386
 z233:=Tryz.sizeOf386
 v233:=Tryz.zeroValue386
 g17:=by kernel_rfl
 g18:=by kernel_rfl
 g19:=by kernel_rfl
 i0:=by kernel_rfl
 i2:=by kernel_rfl
 i3:=by kernel_rfl
 i4:=by kernel_rfl
 i5:=by kernel_rfl
 i9:=by kernel_rfl
 i20:=by kernel_rfl
 i37:=by kernel_rfl
 i46:=by kernel_rfl
 i51:=by kernel_rfl
 i53:=by kernel_rfl
 i171:=by kernel_rfl
 i173:=by kernel_rfl
 i212:=by kernel_rfl
 i232:=by kernel_rfl
 i233:=by kernel_rfl
 m17:=by kernel_rfl
 m18:=by kernel_rfl
 m19:=by kernel_rfl
end Hw.Fr
namespace Hw.Fr.Ps
open Go Go.Proofs Go.Shelf Hw.M
theorem zsu(n:Int)(h0: -9223372036854775808<=n)(h1:n<=9223372036854775807):zk Tryz.prog 143 [I n] [] (Sr (zaB n)) []:=
 @zli _ _ [.int .i64 n] _ (zuA Tryz.func143 ud ud) (λw hw=>by
  obtain⟨el,fz,hb⟩:=hw.2.2 _ (tQ ..)
  have htab:Lib.TabIs Tryz.prog w "internal/strconv.uint64pow10" .u64 Lib.pow10Tab:=by
   unfold Lib.TabIs World.var?
   rw[show(Tryz.prog).globalNamed "internal/strconv.uint64pow10" =some 1 by kernel_rfl]
   simp only[Us]
   rw[hb]
   rfl
  refine(Any.strconv_Itoa zpP n h0 h1 w htab).mono ?_
  rintro e w' ⟨he,k,os,rfl⟩
  exact⟨he,⟨rfl,rfl,rfl,by show w.heap.size<=(w.heap++os).size;simp,λb hb=>by show(w.heap++os)[b]?=_;rw[tN hb]⟩⟩) rfl
end Hw.Fr.Ps
namespace Hw
open Go Go.Proofs Go.Shelf Go.RowKit
def vL(T e:TypeId)(b:Nat)(p v:Value)(s:ByteArray)(w:World):Prop:=
 w.heap[b]?=some (.cells #[p,v] T (0,0))/\w.ownsRowF 0 e 1 v (Lib.strCells s).length (Lib.strCells s)/\v.ownBlock≠some b/\(s.size=0->v= .slice none 0 0)
structure Kp (b:Nat) (v v':Value) (w w':World):Prop where
 block: ∀c,c<w.heap.size->c≠b->v.ownBlock≠some c->w'.heap[c]?=w.heap[c]?
 size:w.heap.size<=w'.heap.size
 os:w'.os=w.os
 tape:w'.tape=w.tape
 output:w'.output=w.output
 own: ∀g,v'.ownBlock=some g->w.heap.size<=g\/v.ownBlock=some g
theorem Kp.refl(b:Nat)(v:Value)(w:World):Kp b v v w w:=⟨λ_ _ _ _=>rfl,uG _,rfl,rfl,rfl,λ_ h=> .inr h⟩
theorem Kp.trans{b:Nat}{v v' v2:Value}{w w' w2:World}(h:Kp b v v' w w')(h2:Kp b v' v2 w' w2):Kp b v v2 w w2:=
 ⟨λc hc hb hv=>(h2.block c (od hc h.size) hb λe=>(h.own c e).elim (λh3=>by omega) hv).trans (h.block c hc hb hv),qn h.size h2.size,h2.os.trans h.os,h2.tape.trans h.tape,h2.output.trans h.output,
   λg hg=>(h2.own g hg).elim (λh3=> .inl (qn h.size h3)) (h.own g)⟩
variable {b:Nat}
theorem Kp.set(v:Value)(w:World)(j:Nat)(u:Value):Kp b v v w (w.setCell ⟨b,j,none⟩ u):=
 ⟨λc _ hb _=>Below.heap_setCell _ _ _ _ hb,by simp[World.setCell],rfl,rfl,rfl,λ_ h=> .inr h⟩
variable {w:World}
theorem Kp.grown{v v':Value}{w':World}(h:w.grownBy w' v.ownBlock)(hv: ∀g,v'.ownBlock=some g->w.heap.size<=g\/v.ownBlock=some g):Kp b v v' w w':=
 ⟨λc hc _ hne=>h.block c hc λe=>hne e.symm,h.size,h.os,h.tape,h.output,hv⟩
theorem Kp.alloc(b:Nat)(v:Value)(w:World)(o:Obj):Kp b v v w (w.alloc o):=
 ⟨λc hc _ _=>Lib.alloc_old w o c hc,ue,rfl,rfl,rfl,λ_ h=> .inr h⟩
theorem vL.atF{T e:TypeId}{p v:Value}{s:ByteArray}(h:vL T e b p v s w):Lib.BuilderAtF T e 0 b p (Lib.strCells s) w:=⟨uA _,v,h.1,h.2.1,h.2.2.1⟩
theorem vL.lt{T e:TypeId}{b:Nat}{p v:Value}{s:ByteArray}{w:World}(h:vL T e b p v s w):b<w.heap.size:=h.atF.lt
theorem vL.used{T e:TypeId}{p v:Value}{s:ByteArray}(h:vL T e b p v s w)(q:Value):vL T e b q v s (w.setCell ⟨b,0,none⟩ q):=by
 obtain⟨hb,hown,hne,hn0⟩:=h
 refine⟨?_,?_,hne,hn0⟩
 ·simp[World.setCell,qY,hb]
 ·exact hown.kept (row:=some b) ⟨rfl,rfl,rfl,by simp[World.setCell],λk _ hk=>Below.heap_setCell _ _ _ _ (λe=>hk (by simp[e]))⟩ (Or.inr hne)
theorem vL.put{T e:TypeId}{p v v':Value}{s:ByteArray}(hb:w.heap[b]?=some (.cells #[p,v] T (0,0)))(hown:w.ownsRowF 0 e 1 v' (Lib.strCells s).length (Lib.strCells s))(hTe:T≠e)(hn0:s.size=0->v'= .slice none 0 0):
 vL T e b p v' s (w.setCell ⟨b,1,none⟩ v'):=by
 have hne:=Lib.ownBlock_neF hown hb hTe
 refine⟨?_,?_,hne,hn0⟩
 ·simp[World.setCell,qY,hb]
 ·exact hown.kept (row:=some b) ⟨rfl,rfl,rfl,by simp[World.setCell],λk _ hk=>Below.heap_setCell _ _ _ _ (λe=>hk (by simp[e]))⟩ (Or.inr hne)
variable {P:Program}
theorem zpQ(w:World)(t u ty e:TypeId)(i:TypeInfo)(ht:P.underlying t=some (.slice e))(hu:P.underlying u=some .string)(hi:P.info? e=some i)(hz:i.zero=some (.int .u8 0))
 (hsize:i.size=1) (hby:i.bytes=1) (v:Value) (n:Nat) (xs:List Value) (hown:w.ownsRowF 0 e 1 v n xs) (s:ByteArray) (h63:n+s.size<=maxLen) (hbytes:n+s.size<=140737488355328):
 ∃v' w',(Builtin.append_ #[t,u] ty #[v,.string s]).run P w= .ok v' w'/\w'.ownsRowF 0 e 1 v' (n+s.size) (xs++Lib.strCells s)/\w.grownBy w' v.ownBlock/\(∀g,v'.ownBlock=some g->w.heap.size<=g\/v.ownBlock=some g)/\(v= .slice none 0 0->s.size=0->v'= .slice none 0 0):=by
 obtain⟨v',w',r1,r2,r3,r4⟩:=Lib.run_append_own_stringF (P:=P) w 0 t u ty e i ht hu hi hz hsize hby v n xs hown s h63 hbytes (uA _)
 refine⟨v',w',r1,r2,r3,?_,λx y=>r4.2 ⟨x,y⟩⟩
 rcases hown.2 with⟨rfl,rfl⟩|⟨g,cap,cur,fz,rfl,hbg,hg,hfz,hnc,hcm,hcs,htake⟩
 ·obtain⟨v2,w2,q1,q2,_⟩:=Lib.run_append_own_stringF (P:=P) w w.heap.size t u ty e i ht hu hi hz hsize hby _ 0 xs ⟨hown.1,.inl ⟨rfl,rfl⟩⟩ s h63 hbytes (uG _)
  rw[r1]at q1
  simp only[Result.ok.injEq]at q1
  obtain⟨rfl,rfl⟩:=q1
  exact λg hg=> .inl (q2.lt g hg).1
 ·by_cases hroom:n+s.size<=cap
  ·have hr:=Lib.run_append_room_stringF (P:=P) w t u ty e i ht hu hi hsize g n cap cur fz hg (by simpa using hfz) s hroom ua
   rw[r1]at hr
   simp only[Result.ok.injEq]at hr
   obtain⟨rfl,_⟩:=hr
   exact λg' hg'=> .inr hg'
  ·have hr:=Lib.run_append_grow_string (P:=P) w t u ty e i (.int .u8 0) ht hu hi hz ⟨g,0,none⟩ n cap xs (by rw[hsize];simpa using hown.1) (hown.cells (g:=g) rfl) s ua (by simp only[maxLen]at h63;omega) (by rw[hby];exact growslice_fits ua ua)
   rw[r1]at hr
   simp only[Result.ok.injEq]at hr
   obtain⟨rfl,_⟩:=hr
   intro g' hg'
   simp only[Value.ownBlock,um]at hg'
   exact .inl ua
variable {rest:List Oper}
section
variable {ρ:Ren}
structure zv2 (P:Program) (ρ:Ren):Prop extends Lays.n169 P ρ where
 f166:P.funcs[ρ.f 166]?=some (Body.n166 ρ)
 e240: ∀args w,(callFunc (ρ.f 240) args).run P w= .ok (.enter (ρ.f 240) args) w
 chk: ∀ {b:Nat} {p v:Value} {s:ByteArray} {w:World},(p= .pointer none\/p= .pointer (some ⟨b,0,none⟩))->vL (ρ.t 72) (ρ.t 5) b p v s w->
  Calls P (ρ.f 240) #[.pointer (some ⟨b,0,none⟩)] w λe w'=>e= .returned (.tuple #[])/\vL (ρ.t 72) (ρ.t 5) b (.pointer (some ⟨b,0,none⟩)) v s w'/\Kp b v v w w'
 t4:P.underlying (ρ.t 4)=some (TypeDesc.bool)
 a4: ∀w,(isAgg (ρ.t 4)).run P w= .ok false w
 z4: ∀w,(Go.sizeOf (ρ.t 4)).run P w= .ok 1 w
 v4: ∀w,(zeroValue (ρ.t 4)).run P w= .ok (Value.bool false) w
 t164:P.underlying (ρ.t 164)=some (TypeDesc.unsafePointer)
 a164: ∀w,(isAgg (ρ.t 164)).run P w= .ok false w
 z164: ∀w,(Go.sizeOf (ρ.t 164)).run P w= .ok 1 w
 v164: ∀w,(zeroValue (ρ.t 164)).run P w= .ok (Value.pointer none) w
theorem zkC(w:World){ops:Array Oper}{o:Oper}{a:Act}{Q:Exit->Act->World->Prop}(hgd:o.guard=none)(sl x:Operand)(t u:TypeId)
 (ho:o.op= .call { callee:= .builtin .append,args:= #[sl,x],argTypes:= #[t,u] }) (e:TypeId) (i:TypeInfo) (ht:P.underlying t=some (.slice e)) (hu:P.underlying u=some .string) (hi:P.info? e=some i) (hz:i.zero=some (.int .u8 0))
 (hsize:i.size=1) (hby:i.bytes=1) (v:Value) (n:Nat) (xs:List Value) (hs:a.eval sl=v) (hown:w.ownsRowF 0 e 1 v n xs) (s:ByteArray) (hx:a.eval x= .string s) (h63:n+s.size<=maxLen) (hbytes:n+s.size<=140737488355328)
 (h: ∀v' w',w'.ownsRowF 0 e 1 v' (n+s.size) (xs++Lib.strCells s)->w.grownBy w' v.ownBlock->(∀g,v'.ownBlock=some g->w.heap.size<=g\/v.ownBlock=some g)->(v= .slice none 0 0->s.size=0->v'= .slice none 0 0)->wpList P ops Q rest (a.put o.dst v') w'):wpList P ops Q (o::rest) a w:=by
 refine wpList_plain hgd λK hK=>?_
 obtain⟨v',w',hr,h2,h3,h4,h5⟩:=zpQ (P:=P) w t u o.type e i ht hu hi hz hsize hby v n xs hown s h63 hbytes
 unfold Oper.wp execOp
 simp only[ho,resolve,invoke,builtin,Sem.run_bind,Sem.run_pure,Result.andThen_ok,List.map_toArray,tK,oE,hs,hx,hr]
 exact hK _ _ (h v' w' h2 h3 h4 h5)
theorem zwB{s t:ByteArray}(h:(s++t).size=0):s.size=0/\t.size=0:=by rw[jL]at h;omega
theorem zgb(s t:ByteArray):Lib.strCells (s++t)=Lib.strCells s++Lib.strCells t:=by
 simp[Lib.strCells,oV]
set_option maxHeartbeats 2000000 in
set_option maxRecDepth 100000 in
theorem zuB(L:zv2 P ρ)(X:Builder.Extra P ρ){p v:Value}{s:ByteArray}(hp:p= .pointer none\/p= .pointer (some ⟨b,0,none⟩))(h:vL (ρ.t 72) (ρ.t 5) b p v s w)(t:ByteArray)(hlen:s.size+t.size<=140737488355328):
 Calls P (ρ.f 166) #[.pointer (some ⟨b,0,none⟩),.string t] w λe w'=>e= .returned (.tuple #[.int .i64 t.size,.nilIface])/\ ∃v',vL (ρ.t 72) (ρ.t 5) b (.pointer (some ⟨b,0,none⟩)) v' (s++t) w'/\Kp b v v' w w':=by
 obtain⟨i0,hi,hz0,hz1,hz2⟩:=info_parts X.infoByte
 have mixed:=L.mixed
 have t72:=L.t72;have a72:=L.a72;have z72:=L.z72;have v72:=L.v72;have u72:=run_underlying L.t72
 have t70:=L.t70;have a70:=L.a70;have z70:=L.z70;have v70:=L.v70;have u70:=run_underlying L.t70
 have t37:=L.t37;have a37:=L.a37;have z37:=L.z37;have v37:=L.v37;have u37:=run_underlying L.t37
 have t3:=L.t3;have a3:=L.a3;have z3:=L.z3;have v3:=L.v3;have u3:=run_underlying L.t3
 have t9:=L.t9;have a9:=L.a9;have z9:=L.z9;have v9:=L.v9;have u9:=run_underlying L.t9
 have t4:=L.t4;have a4:=L.a4;have z4:=L.z4;have v4:=L.v4;have u4:=run_underlying L.t4
 have t164:=L.t164;have a164:=L.a164;have z164:=L.z164;have v164:=L.v164;have u164:=run_underlying L.t164
 have t5:=X.t5;have a5:=X.a5;have z5:=X.z5;have v5:=X.v5;have u5:=run_underlying X.t5
 have e240:=L.e240
 go_enter L.f166,Body.n166_ntmps ρ
 go_wp2_with (go_at_fn (ρ.f 240);refine(L.chk hp h).mono ?_)
 rintro e w1 ⟨rfl,h1,k1⟩
 have hlt:=h1.lt
 obtain⟨hbk,hown,hne,hn0⟩:=h1
 have c0:w1.cell? ⟨b,0,none⟩=some (.pointer (some ⟨b,0,none⟩)):=by rw[Lib.cell_of_heap hbk];rfl
 have c1:w1.cell? ⟨b,1,none⟩=some v:=by rw[Lib.cell_of_heap hbk];rfl
 go_wp2_with (at_builtin;refine zkC _ rfl _ _ (ρ.t 37) (ρ.t 9) rfl (ρ.t 5) i0 L.t37 L.t9 hi hz0 hz1 hz2 _ _ _ rfl hown t rfl ?c3 ?c4 ?_)
 case c3=>unfold maxLen;rw[Lib.strCells_length];omega
 case c4=>rw[Lib.strCells_length];omega
 intro v' w2 hown' hgrow hv' hv0
 have hb2:w2.heap[b]?=some (.cells #[.pointer (some ⟨b,0,none⟩),v] (ρ.t 72) (0,0)):=by
  rw[hgrow.block b hlt (λe=>hne e.symm)]
  exact hbk
 have d0:w2.cell? ⟨b,0,none⟩=some (.pointer (some ⟨b,0,none⟩)):=by rw[Lib.cell_of_heap hb2];rfl
 have d1:w2.cell? ⟨b,1,none⟩=some v:=by rw[Lib.cell_of_heap hb2];rfl
 have f1:w2.frozen? ⟨b,1,none⟩=false:=Lib.frozen_of_heap hb2 1
 have k2:Kp b v v' w1 w2:=Kp.grown hgrow hv'
 obtain⟨ao,n',cap,rfl⟩: ∃ao n' cap,v'= .slice ao n' cap:=by
  rcases hown'.2 with⟨hv,_⟩|⟨g,cap,cur,fz,hv,_⟩
  ·exact⟨_,_,_,hv⟩
  ·exact⟨_,_,_,hv⟩
 go_wp2
 go_ret2
 refine⟨rfl,_,vL.put hb2 (s:=s++t) ?_ X.neB5 (λh0=>hv0 (hn0 (zwB h0).1) (Uf.1 (zwB h0).2)),(k1.trans k2).trans (Kp.set _ _ _ _)⟩
 rw[zgb,uB,Lib.strCells_length t]
 exact hown'
theorem Kp.freeze{b g:Nat}{v:Value}(hv:v.ownBlock=some g)(w:World)(n:Nat):Kp b v v w (w.drew.freeze ⟨g,0,none⟩ n):=by
 unfold World.freeze
 split
 ·exact⟨λ_ _ _ _=>rfl,uG _,rfl,rfl,rfl,λ_ h=> .inr h⟩
 ·refine⟨λc _ _ hne=>?_,by rw[Array.size_modify];exact uG _,rfl,rfl,rfl,λ_ h=> .inr h⟩
  rw[hv]at hne
  simp only[qY]
  rw[ur (λe=>hne (by rw[e]))]
  rfl
set_option maxHeartbeats 1000000 in
set_option maxRecDepth 100000 in
theorem zsv(L:zv2 P ρ)(X:Builder.Extra P ρ){p v:Value}{s:ByteArray}(h:vL (ρ.t 72) (ρ.t 5) b p v s w):
 Calls P (ρ.f 169) #[.pointer (some ⟨b,0,none⟩)] w λe w'=>e= .returned (.string s)/\Kp b v v w w':=by
 obtain⟨hbk,hown,hne,hn0⟩:=h
 by_cases h0:s.size=0
 ·have hv:=hn0 h0
  subst hv
  have hs:s=⟨#[]⟩:=Uf.1 h0
  refine(Any.Builder_String_nil L.ton169 X w.heap.size b p w hbk).mono ?_
  rintro e w' ⟨rfl,hb⟩
  exact⟨by rw[hs],λc hc _ _=>hb.block c hc,hb.size,hb.os,hb.tape,hb.output,λ_ h=> .inr h⟩
 have hl:s.data.toList≠ []:=λe=>h0 (by rw[<-Lib.strCells_length,Lib.strCells,e];rfl)
 have hsz:s.data.toList.length=s.size:=by rw[qd];rfl
 rw[Lib.strCells_length]at hown
 obtain⟨g,cap,cur,fz,rfl,hg,hfz,hnc,hcm,hcs,htake⟩: ∃g cap cur fz,v= .slice (some ⟨g,0,none⟩) s.size cap/\w.heap[g]?=some (.cells cur (ρ.t 5) fz)/\fz.2<=s.size*1/\s.size<=cap/\cap<=maxLen/\cur.size=cap*1/\cur.toList.take (s.size*1)=Lib.strCells s:=by
  rcases hown.2 with⟨_,hz⟩|⟨g,cap,cur,fz,hv,_,r⟩
  ·exact absurd hz h0
  ·exact⟨g,cap,cur,fz,hv,r⟩
 have c1:w.drew.cell? ⟨b,1,none⟩=some (.slice (some ⟨g,0,none⟩) s.size cap):=by
  have:w.drew.heap[b]?=some (.cells #[p,.slice (some ⟨g,0,none⟩) s.size cap] (ρ.t 72) (0,0)):=hbk
  rw[Lib.cell_of_heap this];rfl
 have hSD:(Builtin.unsafeSliceData_ #[(ρ.t 37)] (ρ.t 127) #[.slice (some ⟨g,0,none⟩) s.size cap]).run P w.drew= .ok (.pointer (some ⟨g,0,none⟩)) w.drew:=
  Lib.run_unsafeSliceData_row _ _ _ _ _ _ ua
 have hUS:(Builtin.unsafeString_ #[(ρ.t 127),(ρ.t 3)] (ρ.t 9) #[.pointer (some ⟨g,0,none⟩),.int .i64 s.size]).run P w.drew= .ok (.string s) (w.drew.freeze ⟨g,0,none⟩ s.size):=by
  have:=Lib.run_unsafeString_row (P:=P) w.drew (ρ.t 127) (ρ.t 3) (ρ.t 9) (ρ.t 5) L.t127 X.cellsByte g cur.size (by have hg':w.drew.heap[g]?=some (.cells cur (ρ.t 5) fz):=hg;simp[World.shape?,hg']) s.data.toList hl ua (by unfold maxLen at hcm;omega) (λj x hx=>by
   have:=hown.cells (g:=g) rfl j (.int .u8 x.toNat) (by simp[Lib.strCells,hx])
   exact this)
  rw[hsz]at this
  exact this
 have mixed:=L.mixed
 have t72:=L.t72;have a72:=L.a72;have z72:=L.z72;have v72:=L.v72;have u72:=run_underlying L.t72
 have t70:=L.t70;have a70:=L.a70;have z70:=L.z70;have v70:=L.v70;have u70:=run_underlying L.t70
 have t37:=L.t37;have a37:=L.a37;have z37:=L.z37;have v37:=L.v37;have u37:=run_underlying L.t37
 have t127:=L.t127;have a127:=L.a127;have z127:=L.z127;have v127:=L.v127;have u127:=run_underlying L.t127
 have t3:=L.t3;have a3:=L.a3;have z3:=L.z3;have v3:=L.v3;have u3:=run_underlying L.t3
 have t9:=L.t9;have a9:=L.a9;have z9:=L.z9;have v9:=L.v9;have u9:=run_underlying L.t9
 have t5:=X.t5;have a5:=X.a5;have z5:=X.z5;have v5:=X.v5;have u5:=run_underlying X.t5
 go_enter L.f169,Body.n169_ntmps ρ
 go_wp2
 go_region_o
 all_goals (go_wp2;go_ret;exact⟨rfl,Kp.freeze rfl w _⟩)
end
theorem zsw(v:Value)(h: ∃(a:Option Addr) (n c:Nat),v= .slice a n c):blk v=v.ownBlock:=by
 obtain⟨a,n,c,rfl⟩:=h
 cases a<;>rfl
theorem zeL{e:TypeId}{v:Value}{n:Nat}{xs:List Value}(h:w.ownsRowF 0 e 1 v n xs): ∃(a:Option Addr) (n c:Nat),v= .slice a n c:=by
 rcases h.2 with⟨hv,_⟩|⟨g,cap,cur,fz,hv,_⟩
 ·exact⟨_,_,_,hv⟩
 ·exact⟨_,_,_,hv⟩
theorem zgc{v:Value}{c:Nat}(hv: ∃(a:Option Addr) (n c:Nat),v= .slice a n c):Bk (.tuple [Value.pointer (some ⟨b,0,none⟩),v].toArray) c↔c=b\/v.ownBlock=some c:=by
 rw[<-zsw v hv]
 constructor
 ·rintro⟨x,hx,hb⟩
  have hx':x=Value.pointer (some ⟨b,0,none⟩)\/x=v:=by simpa using hx
  rcases hx' with rfl|rfl
  ·simp only[blk,um]at hb;exact .inl hb.symm
  ·exact .inr hb
 ·rintro(rfl|h)
  ·exact⟨Value.pointer (some ⟨c,0,none⟩),ue,rfl⟩
  ·exact⟨v,ue,h⟩
variable {f:FuncId}{r:Value}{res:S}
theorem zuC{T e:TypeId}{s s':ByteArray}{av:List Value}(hc:zad P f)
 (h: ∀(p v:Value) (w:World),GOw w->(p= .pointer none\/p= .pointer (some ⟨b,0,none⟩))->vL T e b p v s w->Calls P f (.pointer (some ⟨b,0,none⟩)::av).toArray w λx w'=>x= .returned r/\
   ∃p' v',(p'= .pointer none\/p'= .pointer (some ⟨b,0,none⟩))/\vL T e b p' v' s' w'/\Kp b v v' w w')
 (hr: ∀M ρ,RepS M ρ res r):zk P f (.one (.p (.k (.pointer (some ⟨b,0,none⟩))))::av.map λa=> .one (.p (.k a))) [(0,.bld T e b s)] res [(1,.bld T e b s')]:=by
 refine⟨hc,λM ρ w xs hx ht hI hG=>?_⟩
 match xs,hx with
 | [],hx=>simp[RepSs]at hx
 |x::xs,hx=>
  simp only[RepSs,RepS,RepV,RepPV]at hx
  obtain⟨⟨rfl,_⟩,hxs⟩:=hx
  obtain rfl:=zcg hxs
  obtain⟨p,v,h1,hp,hb⟩:=ht.res 0 (.bld T e b s) (by simp[tb,tg])
  have hv:=zeL hb.2.1
  have hown: ∀c,zdo (tb [(0,.bld T e b s)]) ρ c↔c=b\/v.ownBlock=some c:=λc=>by
   rw[<-zgc hv,<-h1]
   constructor
   ·rintro⟨i,r,hi,hbk⟩
    simp only[tb,zX]at hi
    split at hi
    ·rename_i e;rw[e];exact hbk
    ·cases hi
   ·exact λhbk=>⟨0,.bld T e b s,by simp[tb,tg],hbk⟩
  refine(h p v w (zeZ hI hG) hp hb).mono λex w' ⟨he,p',v',hp',hb',hk⟩=>?_
  have hv':=zeL hb'.2.1
  have w1:upd ρ 1 (.tuple [Value.pointer (some ⟨b,0,none⟩),v'].toArray) 1= .tuple [Value.pointer (some ⟨b,0,none⟩),v'].toArray:=zw _ _ _
  have one: ∀i q,tg (tb [(1,.bld T e b s')]) i=some q->i=1/\q= .bld T e b s':=λi q hi=>by
   simp only[tb,zX]at hi
   split at hi
   ·rename_i e;exact⟨e.symm,(uy hi).symm⟩
   ·cases hi
  have mI: ∀c o u,M c o=some u->c≠b/\v.ownBlock≠some c:=λc o u hu=>by
   have hn: ¬zdo (tb [(0,.bld T e b s)]) ρ c:=λ⟨i,q,hi,hbk⟩=>by rw[ht.own i q c hi hbk o]at hu;cases hu
   rw[hown]at hn
   exact⟨λe=>hn (.inl e),λe=>hn (.inr e)⟩
  have nowM: ∀c,c=b\/v'.ownBlock=some c-> ∀o,M c o=none:=λc hc o=>by
   cases hm:M c o with
   |none=>rfl
   |some u=>
    have:=mI c o u hm
    have hlt:=xN (hI c o u hm)
    rcases hc with rfl|hc
    ·exact absurd rfl this.1
    ·rcases hk.own c hc with h3|h3
     ·omega
     ·exact absurd h3 this.2
  refine⟨r,M,upd ρ 1 (.tuple [Value.pointer (some ⟨b,0,none⟩),v'].toArray),he,hr _ _,⟨λi q hi=>?_,λi j ri rj c hi hj hne=>?_,λi q c hi hc o=>?_⟩,λc o u hu=>?_,MLe.refl M,λc o u hu=> .inl hu,λc hc=>?_,λc hc hn=>?_,hk.size,hk.os,hk.tape,hk.output,λid hid=>?_⟩
  ·obtain⟨rfl,rfl⟩:=one i q hi
   exact⟨p',v',w1,hp',hb'⟩
  ·exact absurd ((one i ri hi).1.trans (one j rj hj).1.symm) hne
  ·obtain⟨rfl,rfl⟩:=one i q hi
   rw[w1,zgc hv']at hc
   exact nowM c hc o
  ·rw[cell_of_heap (hk.block c (xN (hI c o u hu)) (mI c o u hu).1 (mI c o u hu).2)];exact hI c o u hu
  ·obtain⟨i,q,hi,hbk⟩:=hc
   obtain⟨rfl,rfl⟩:=one i q hi
   rw[w1,zgc hv']at hbk
   rw[hown]
   rcases hbk with h3|h3
   ·exact .inr (.inl h3)
   ·exact(hk.own c h3).imp id .inr
  ·rw[hown]at hn
   exact hk.block c hc (λe=>hn (.inl e)) λe=>hn (.inr e)
  ·simp only[RL.ids,uV,List.mem_nil_iff,Uq]at hid
   subst hid;exact zL ub
theorem zsx{T e:TypeId}{s:ByteArray}(hc:zad P f)
 (h: ∀(p v:Value) (w:World),GOw w->(p= .pointer none\/p= .pointer (some ⟨b,0,none⟩))->vL T e b p v s w->Calls P f #[.pointer (some ⟨b,0,none⟩)] w λx w'=>x= .returned r/\Kp b v v w w')
 (hr: ∀M ρ,RepS M ρ res r):zk P f [.one (.p (.k (.pointer (some ⟨b,0,none⟩))))] [(0,.bld T e b s)] res []:=by
 refine⟨hc,λM ρ w xs hx ht hI hG=>?_⟩
 match xs,hx with
 | [],hx=>simp[RepSs]at hx
 |_::_::_,hx=>simp[RepSs]at hx
 | [x],hx=>
   simp only[RepSs,RepS,RepV,RepPV]at hx
   obtain⟨⟨rfl,_⟩,_⟩:=hx
   obtain⟨p,v,h1,hp,hb⟩:=ht.res 0 (.bld T e b s) (by simp[tb,tg])
   have hv:=zeL hb.2.1
   have hown: ∀c,zdo (tb [(0,.bld T e b s)]) ρ c↔c=b\/v.ownBlock=some c:=λc=>by
    rw[<-zgc hv,<-h1]
    constructor
    ·rintro⟨i,r,hi,hbk⟩
     simp only[tb,zX]at hi
     split at hi
     ·rename_i e;rw[e];exact hbk
     ·cases hi
    ·exact λhbk=>⟨0,.bld T e b s,by simp[tb,tg],hbk⟩
   have mI: ∀c o u,M c o=some u->c≠b/\v.ownBlock≠some c:=λc o u hu=>by
    have hn: ¬zdo (tb [(0,.bld T e b s)]) ρ c:=λ⟨i,q,hi,hbk⟩=>by rw[ht.own i q c hi hbk o]at hu;cases hu
    rw[hown]at hn
    exact⟨λe=>hn (.inl e),λe=>hn (.inr e)⟩
   refine(h p v w (zeZ hI hG) hp hb).mono λex w' ⟨he,hk⟩=>?_
   refine⟨r,M,ρ,he,hr _ _,⟨λi q hi=>(by cases hi),λi j ri rj c hi=>(by cases hi),λi q c hi=>(by cases hi)⟩,λc o u hu=>?_,MLe.refl M,λc o u hu=> .inl hu,λc hc=>?_,λc hc hn=>?_,hk.size,hk.os,hk.tape,hk.output,λid hid=>rfl⟩
   ·rw[cell_of_heap (hk.block c (xN (hI c o u hu)) (mI c o u hu).1 (mI c o u hu).2)];exact hI c o u hu
   ·obtain⟨i,q,hi,_⟩:=hc;cases hi
   ·rw[hown]at hn
    exact hk.block c hc (λe=>hn (.inl e)) λe=>hn (.inr e)
abbrev Bp(b:Nat):S:= .one (.p (.k (.pointer (some ⟨b,0,none⟩))))
section
variable {C:Ctx} {k:List Frm} {n:Nat} {sl:zl} {tab:Tab} {Q:Exit->St->Prop} {all:Array Oper}
theorem zpR{d:Nat}{t ty:TypeId}{ps:String}{af:Array Edge}(hC:C.low)(e:TypeId)(hz:zeroV P t=some [.p (.k (.pointer none)),.p (.k (.slice none 0 0))])(hd:Nat.blt d n=true)(hf:freshB (1000+d) ⟨n,sl,tab⟩=true)
 (g: ∀b:Nat,Goal P C (.ops all rest none) k n ((d,Bp b)::sl) ((1000+d,some (.bld t e b ByteArray.empty))::tab) Q):Goal P C (.ops all (⟨some d,.alloc t,ty,ps,af,none⟩::rest) none) k n sl tab Q:=by
 refine λM ρ a w hH=>wpList_step λK hK=>?_
 simp only[Region.wanted,qx]
 have hfr:zbk C (1000+d) ⟨n,sl,tab⟩:=wP hf (hC.none ua)
 obtain⟨zv,hz1,hz2,_⟩:=jM hz M ρ w
 have hz4:zv.cells= #[Value.pointer none,.slice none 0 0]:=by
  generalize hL:zv.cells.toList=L at hz2
  match L,hz2 with
  | [],hz2=>simp[RepVs]at hz2
  | [_],hz2=>simp[RepVs]at hz2
  |_::_::_::_,hz2=>simp[RepVs]at hz2
  | [x,y],hz2=>
    simp only[RepVs,RepV,RepPV]at hz2
    rw[hz2.1.1,hz2.2.1.1]at hL
    rw[<-oz (xs:=zv.cells),hL]
 have hrun:(execOp a.eval ⟨some d,.alloc t,ty,ps,af,none⟩).run P w= .ok (.value (.pointer (some ⟨w.heap.size,0,none⟩))) (w.alloc (.cells zv.cells t)):=by
  simp[execOp,Instr.alloc,newVar,newRow,hz1]
 unfold Oper.wp
 rw[hrun,Oper.upon_value]
 refine hK _ _ (g w.heap.size M _ _ _ (hH.alloc (st:=⟨n,sl,tab⟩) (d:=some d) (v:=Bp w.heap.size) (id:=1000+d) (r':= .bld t e w.heap.size ByteArray.empty) (val:= .tuple [Value.pointer (some ⟨w.heap.size,0,none⟩),.slice none 0 0].toArray) (λb hb=>?_) hfr
  ⟨.pointer none,.slice none 0 0,zw _ _ _,.inl rfl,by rw[hz4];exact zP w _,⟨rfl,.inl ⟨rfl,rfl⟩⟩,by simp[Value.ownBlock],λ_=>rfl⟩ ?_ hd))
 ·rw[zgc ⟨_,_,_,rfl⟩]at hb
  rcases hb with rfl|hb
  ·rfl
  ·cases hb
 ·simp only[RepS,RepV,RepPV];exact⟨uh,rfl⟩
end
end Hw
namespace Hw.Fr.Ps
open Go Go.Proofs Go.Shelf Hw.M
def zsy:Go.Shelf.Ren:=⟨λ|166=>142|169=>144|240=>167|n=>n,λ|75=>208|0=>0|3=>3|4=>4|5=>5|9=>9|37=>41|70=>204|72=>206|127=>243|164=>296|n=>n,λn=>n⟩
theorem zvw:Builder.Extra Tryz.prog zsy where
 sizeBuilder:=by kernel_rfl
 liesBuilder:=by kernel_rfl
 t5:=Tryz.underlying5
 a5:=Tryz.isAgg5
 z5:=Tryz.sizeOf5
 v5:=Tryz.zeroValue5
 infoByte:=by kernel_rfl
 cellsByte:=by kernel_rfl
 sizeByte:=by kernel_rfl
 neB5:=by decide
set_option maxHeartbeats 1000000 in
set_option maxRecDepth 100000 in
theorem zsz{b:Nat}{p v:Value}{s:ByteArray}{w:World}(hp:p= .pointer none\/p= .pointer (some ⟨b,0,none⟩))(h:vL (zsy.t 72) (zsy.t 5) b p v s w):
 Calls Tryz.prog (zsy.f 240) #[.pointer (some ⟨b,0,none⟩)] w λe w'=>e= .returned (.tuple #[])/\vL (zsy.t 72) (zsy.t 5) b (.pointer (some ⟨b,0,none⟩)) v s w'/\Kp b v v w w':=by
 obtain⟨j,hj,hjs⟩:=uH.1 zvw.sizeBuilder
 rcases hp with rfl|rfl
 ·have h0:=h.atF.cell0
  have hsh:=h.atF.shape
  have hfz:=h.atF.frozen0
  refine Calls.mono (R:=λe w'=>e= .returned (.tuple #[])/\w'=w.setCell ⟨b,0,none⟩ (.pointer (some ⟨b,0,none⟩))) ?_ ?_
  ·go_enter Tryz.func167,Tryz.ntmps167
   go_wp2
   rw[Lib.run_to_unsafe w ⟨b,0,none⟩ Tryz.underlying204 Tryz.underlying296 hj (by rw[hjs];decide) hsh (Nat.zero_lt_succ 1)]
   simp only[Result.andThen]
   rw[Oper.upon_value]
   go_wp2
   rw[run_callFunc_extern Tryz.func215 ud ud ud (e:=Extern.AbiNoEscape.same) ud]
   rw[Lib.run_noEscape]
   simp only[Result.andThen]
   rw[Oper.upon_value]
   go_wp2
   rw[Lib.run_from_unsafe w ⟨b,0,none⟩ Tryz.underlying296 Tryz.underlying204 hj hsh zvw.liesBuilder]
   simp only[Result.andThen]
   rw[Oper.upon_value]
   go_wp2
   go_end0
   exact⟨rfl,rfl⟩
  ·rintro e w' ⟨rfl,rfl⟩
   exact⟨rfl,h.used _,Kp.set _ _ _ _⟩
 ·have h0:=h.atF.cell0
  refine Calls.mono (R:=λe w'=>e= .returned (.tuple #[])/\w'=w) ?_ ?_
  ·go_enter Tryz.func167,Tryz.ntmps167
   go_wp2
   rw[Lib.run_neq_ptr_same w _ Tryz.underlying204 hj]
   go_wp2
   go_end0
   exact⟨rfl,rfl⟩
  ·rintro e w' ⟨rfl,rfl⟩
   exact⟨rfl,h,Kp.refl _ _ _⟩
theorem zwC:zv2 Tryz.prog zsy where
 mixed:=by kernel_rfl
 f169:=Tryz.func144.trans (uR some ud)
 f166:=Tryz.func142.trans (uR some ud)
 e240:=enters_of Tryz.func167 ud rfl
 chk:=zsz
 t0:=Tryz.underlying0
 a0:=Tryz.isAgg0
 z0:=Tryz.sizeOf0
 v0:=Tryz.zeroValue0
 t3:=Tryz.underlying3
 a3:=Tryz.isAgg3
 z3:=Tryz.sizeOf3
 v3:=Tryz.zeroValue3
 t4:=Tryz.underlying4
 a4:=Tryz.isAgg4
 z4:=Tryz.sizeOf4
 v4:=Tryz.zeroValue4
 t9:=Tryz.underlying9
 a9:=Tryz.isAgg9
 z9:=Tryz.sizeOf9
 v9:=Tryz.zeroValue9
 t37:=Tryz.underlying41
 a37:=Tryz.isAgg41
 z37:=Tryz.sizeOf41
 v37:=Tryz.zeroValue41
 t70:=Tryz.underlying204
 a70:=Tryz.isAgg204
 z70:=Tryz.sizeOf204
 v70:=Tryz.zeroValue204
 t72:=Tryz.underlying206
 a72:=Tryz.isAgg206
 z72:=Tryz.sizeOf206
 v72:=Tryz.zeroValue206
 t127:=Tryz.underlying243
 a127:=Tryz.isAgg243
 z127:=Tryz.sizeOf243
 v127:=Tryz.zeroValue243
 t164:=Tryz.underlying296
 a164:=Tryz.isAgg296
 z164:=Tryz.sizeOf296
 v164:=Tryz.zeroValue296
abbrev Bd(b:Nat)(s:ByteArray):Res:= .bld 206 5 b s
theorem zuD(b:Nat)(s t:Str)(h:s.size+t.size<=140737488355328):zk Tryz.prog 142 [Bp b,Sr t] [(0,Bd b s)] (.tup [I t.size,.one (.p (.k .nilIface))]) [(1,Bd b (s++t))]:=
 zuC (av:=[.string t]) (zax Tryz.func142 ud ud) (λp v w _ hp hb=>(zuB zwC zvw hp hb t h).mono λe w' ⟨he,v',h1,h2⟩=>⟨he,_,v',.inr rfl,h1,h2⟩)
  λM ρ=>by simp only[RepS];exact⟨_,rfl,by simp only[RepSs,RepS,RepV,RepPV];exact⟨⟨uh,rfl⟩,⟨uh,rfl⟩,uh⟩⟩
theorem zv3(b:Nat)(s:ByteArray):zk Tryz.prog 144 [Bp b] [(0,Bd b s)] (Sr s) []:=
 zsx (zax Tryz.func144 ud ud) (λp v w _ _ hb=>zsv zwC zvw hb)
  λM ρ=>by simp only[RepS,RepV,RepPV];exact⟨uh,rfl⟩
end Hw.Fr.Ps
namespace Hw.Fr.Md
open Go Go.Proofs Go.Shelf Hw.M Ps
theorem zkD{n:Int}(h0: -4611686018427387904<=n)(h1:n<=4611686018427387904):(zaB n).size<=21:=by
 by_cases h:n<0
 ·rw[znh h,jL,zf8]
  have:=zdL (u:=n.natAbs) ua
  have:ByteArray.size ⟨#[45]⟩=1:=rfl
  omega
 ·rw[zf9 ua,zf8]
  have:=zdL (u:=n.toNat) ua
  omega
def nameS(k c:Int):Str:=match(yf k)[(c - 1).toNat]? with
 |some w=>w.1
 |none=>(⟨#[]⟩:UW)
def accT:List Int->Str->Str
 | [],a=>a
 |n::r,a=>accT r (a++((⟨#[32]⟩:UW)++zaB n))
def zhV(k:Int)(o:OpT):Str:=accT o.args (nameS k o.code)
theorem wJ{k:Int}{o:OpT}(h:okOp k o=true):(1<=k/\k<=6)/\1<=o.code/\(∃w,(yf k)[(o.code - 1).toNat]?=some w)/\o.args.length<=64/\ ∀n∈o.args, -1048576<=n/\n<=1048576:=by
 have hk:1<=k/\k<=6:=by
  by_cases hk:1<=k/\k<=6
  ·exact hk
  ·unfold okOp at h;rw[zaY hk]at h;simp at h
 unfold okOp at h
 simp only[uu,ux]at h
 obtain⟨h1,h2⟩:=h
 cases hw:(yf k)[(o.code - 1).toNat]? with
 |none=>rw[hw]at h2;cases h2
 |some w=>
  rw[hw]at h2
  simp only at h2
  have har: ∀w∈yf k,w.2.1<=4:=by
   rcases kinds hk with rfl|rfl|rfl|rfl|rfl|rfl<;>decide
  have hw4:=har w (List.mem_of_getElem? hw)
  split at h2
  ·simp only[uu,ux,List.all_eq_true]at h2
   refine⟨hk,h1,⟨w,rfl⟩,h2.1.2,λn hn=>?_⟩
   have:=h2.2 n hn
   simp only[zdn,uu,ux]at this
   exact⟨ua,ua⟩
  ·simp only[uu,ux,List.all_eq_true]at h2
   refine⟨hk,h1,⟨w,rfl⟩,ua,λn hn=>?_⟩
   have:=h2.2 n hn
   simp only[wH,uu,ux]at this
   omega
theorem zgd(k c:Int):(nameS k c).size<=20:=by
 by_cases hk:1<=k/\k<=6
 ·have: ∀w∈yf k,w.1.size<=20:=by rcases kinds hk with rfl|rfl|rfl|rfl|rfl|rfl<;>decide
  unfold nameS
  split
  ·rename_i w hw;exact this w (List.mem_of_getElem? hw)
  ·decide
 ·unfold nameS;rw[zaY hk];simp;decide
theorem zdM{n:Int}(h: -1048576<=n/\n<=1048576):((⟨#[32]⟩:UW)++zaB n).size<=22:=by
 rw[jL]
 have:=zkD (n:=n) ua ua
 have:ByteArray.size (⟨#[32]⟩:UW)=1:=rfl
 omega
theorem zni(s:Str):((⟨#[]⟩:UW):Str)++s=s:=ByteArray.empty_append
theorem zpS(k:Int)(o:OpT)(ho:okOp k o=false):zk Tryz.prog 112 [I k,zm (opR o)] [] (.tup [Sr (⟨#[]⟩:UW),I 1]) []:=by
 have hV:=jU k o
 rw[ho]at hV
 refine gO T Tryz.func112 λC hC=>?_
 repeat' first|refine gG ?_|exact gD|refine gB ?_ ?_<;>intro h|refine gC hV ?_
 all_goals first
  |exact gF
theorem znj(k:Int)(o:OpT)(ho:okOp k o=true):zk Tryz.prog 112 [I k,zm (opR o)] [] (.tup [Sr (zhV k o),I 0]) []:=by
 have hV:=jU k o
 obtain⟨hk,hc,⟨w,hw⟩,hl,hn⟩:=wJ ho
 have hW:=zb8 hk
 have hlt:=(ui.1 hw).1
 have h8:=vE (k:=k)
 have w1:IntKind.i64.wrap (o.code - 1)=o.code - 1:=wrap64 ua
 have hnm:nameS k o.code=w.1:=by unfold nameS;rw[hw]
 have hns:=zgd k o.code
 rw[ho]at hV
 refine gO T Tryz.func112 λC hC=>?_
 have ws0: ∀b,zk Tryz.prog 142 [Bp b,Sr w.1] [(0,Bd b (⟨#[]⟩:UW))] (.tup [I w.1.size,.one (.p (.k .nilIface))]) [(1,Bd b w.1)]:=λb=>by
  have:=zuD b (⟨#[]⟩:UW) w.1 (by rw[<-hnm];have:ByteArray.size (⟨#[]⟩:UW)=0:=rfl;omega)
  rw[zni]at this
  exact this
 repeat' first|refine gG ?_|exact gD|refine gB ?_ ?_<;>intro h|refine gC hV ?_|(refine zpR hC 5 ud rfl rfl (λb=>?_))|refine gC hW ?_|(rw[w1];refine yM T hC rfl rfl rfl ua (yg (f:=zfH) hw) rfl rfl ?_)|refine gR (ws0 b) (nm [1006,100]) ?_
 rw[uj]
 refine zn (λq:Nat×Str=>q.1<=o.args.length/\accT (o.args.drop q.1) q.2=zhV k o/\q.2.size<=20+22*q.1) (λq=>([(23,pS (zA o.args)),(24,I o.args.length),(25,I q.1),(6,Bp b)],[(101,some (Bd b q.2))])) (λq=>o.args.length - q.1) hC
  (0,w.1) ⟨uA _,by unfold zhV;rw[hnm];rfl,by rw[<-hnm];simp only;omega⟩ (mvU 101 100) ⟨rfl,⟨rfl,rfl,rfl,rfl,uh⟩,⟨rfl,uh⟩,rfl,λi hi=>zS ua hi⟩ ?_
 clear h
 rintro⟨j,a⟩ ⟨hj,ha,hz⟩
 simp only at hj ha hz
 refine zr T hC true 200 rfl ?_
 refine zu rfl ?_ ?_<;>intro h
 rotate_left
 ·have hge: ¬j<o.args.length:=by have:=uq h;omega
  rw[tR ua]at ha
  rw[<-ha]
  have hS:=zv3 b a
  repeat' first|refine gG ?_|refine gB ?_ ?_<;>intro h|refine zj ?_|refine gR hS (nm [101]) ?_
  exact gF
 have hlt:j<o.args.length:=by have:=uo h;omega
 clear h
 obtain⟨n,hn'⟩:=ze hlt
 have hnb:=hn n (List.mem_of_getElem? hn')
 rw[drop_at hn']at ha
 have hp:=zdM hnb
 have hD:=zsu n ua ua
 have hWs:=zuD b a ((⟨#[32]⟩:UW)++zaB n) ua
 have hz2:(a++((⟨#[32]⟩:UW)++zaB n)).size<=20+22*(j+1):=by rw[jL];omega
 have hi1:((⟨#[32]⟩:UW):Str).size+(zaB n).size<=9223372036854775807:=by rw[<-jL];omega
 repeat' first|refine gG ?_|refine gB ?_ ?_<;>intro h|refine gX ?_|refine gC hD ?_|(refine zvz hC rfl rfl hi1 rfl rfl ?_)|refine gR hWs (nm [101,102]) ?_|refine zx ?_
 rw[zC ua]
 exact zf (j+1,a++((⟨#[32]⟩:UW)++zaB n)) ⟨by simp only;omega,ha,hz2⟩ (mvU 101 102) (by simp only;omega) ⟨rfl,⟨rfl,rfl,rfl,rfl,uh⟩,⟨rfl,uh⟩,rfl,λi hi=>zS ua hi⟩
end Hw.Fr.Md
namespace Hw.Fr
open Go Go.Proofs Go.Shelf
def zhW:Go.Shelf.Ren:=⟨λ|145=>113|220=>145|219=>169|217=>217|225=>218|224=>219|267=>220|266=>264|314=>265|n=>n,λ|9=>9|4=>4|59=>167|3=>3|5=>5|46=>178|146=>342|51=>284|n=>n,λ|1=>0|n=>n⟩
theorem zsA:Go.Proofs.Lays.n145 Tryz.prog zhW where
 mixed:=by kernel_rfl
 f145:=Tryz.func113.trans (uR some ud)
 f217:=Tryz.func217.trans (uR some ud)
 f219:=Tryz.func169.trans (uR some ud)
 f220:=Tryz.func145.trans (uR some ud)
 f224:=Tryz.func219.trans (uR some ud)
 f225:=Tryz.func218.trans (uR some ud)
 f266:=Tryz.func264.trans (uR some ud)
 f267:=Tryz.func220.trans (uR some ud)
 f314:=Tryz.func265.trans (uR some ud)
 t3:=Tryz.underlying3
 a3:=Tryz.isAgg3
 z3:=Tryz.sizeOf3
 v3:=Tryz.zeroValue3
 t4:=Tryz.underlying4
 a4:=Tryz.isAgg4
 z4:=Tryz.sizeOf4
 v4:=Tryz.zeroValue4
 t5:=Tryz.underlying5
 a5:=Tryz.isAgg5
 z5:=Tryz.sizeOf5
 v5:=Tryz.zeroValue5
 t9:=Tryz.underlying9
 a9:=Tryz.isAgg9
 z9:=Tryz.sizeOf9
 v9:=Tryz.zeroValue9
 t46:=Tryz.underlying178
 a46:=Tryz.isAgg178
 z46:=Tryz.sizeOf178
 v46:=Tryz.zeroValue178
 t51:=Tryz.underlying284
 a51:=Tryz.isAgg284
 z51:=Tryz.sizeOf284
 v51:=Tryz.zeroValue284
 t59:=Tryz.underlying167
 a59:=Tryz.isAgg167
 z59:=Tryz.sizeOf167
 v59:=Tryz.zeroValue167
 t146:=Tryz.underlying342
 a146:=Tryz.isAgg342
 z146:=Tryz.sizeOf342
 v146:=Tryz.zeroValue342
 g1:=by kernel_rfl
end Hw.Fr
namespace Hw.Fr
open Go Go.Proofs Go.Shelf Hw.M Md
noncomputable def zvx(s:Str):List UInt8×List UInt8×Bool:=Lib.cut s.data.toList ((⟨#[32]⟩:UW):Str).data.toList
noncomputable def zou(s:Str):Str:=⟨(zvx s).1.toArray⟩
theorem zdN(s:Str)(hs:s.size<=1000000):zk Tryz.prog 113 [Sr s,Sr (⟨#[32]⟩:UW)] [] (.tup [Sr (zou s),Sr ⟨(zvx s).2.1.toArray⟩,Bo (zvx s).2.2]) []:=by
 refine⟨Ps.zax Tryz.func113 ud ud,λM ρ w xs hx _ hI hG=>?_⟩
 obtain rfl:=zcg (av:=[.string s,.string (⟨#[32]⟩:UW)]) hx
 obtain⟨m,hm⟩:=(zeZ hI hG).2.1 0 ub
 refine(Any.strings_Cut zsA s (⟨#[32]⟩:UW) m w ua hm).mono ?_
 rintro e w' ⟨he,n,rfl⟩
 refine⟨_,M,ρ,he,zch hI ⟨rfl,rfl,rfl,uG _,λ_ _=>rfl⟩ ?_⟩
 simp only[RepS,RepSs,RepV,RepPV]
 exact⟨_,rfl,⟨rfl,rfl⟩,⟨rfl,rfl⟩,⟨rfl,rfl⟩,uh⟩
end Hw.Fr
