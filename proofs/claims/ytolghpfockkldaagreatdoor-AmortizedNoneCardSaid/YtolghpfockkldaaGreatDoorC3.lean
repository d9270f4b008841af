import Derived.Test.YtolghpfockkldaaGreatDoorC2
import Derived.Test.YtolghpfockkldaaGreatDoorC1
import Derived.Test.YtolghpfockkldaaGreatDoorE3
import Derived.Test.YtolghpfockkldaaGreatDoorProg
import Derived.KernelRfl
import Derived.Shelf.Strings.Fields
set_option linter.defProp false
set_option linter.unusedVariables false
set_option linter.unusedSimpArgs false
set_option linter.unusedSectionVars false
set_option linter.unnecessarySimpa false
namespace Hw.Gm
open Go Go.Proofs Hw.M Ps
mutual
def szE:Ex->Nat
 | .mk _ _ _ l=>1+szL l
def szL:List Ex->Nat
 | []=>0
 |x::r=>szE x+szL r
end
mutual
def okE:Ex->Prop
 | .mk op n s l=>vM (.mk op n s l)=true/\okL l
def okL:List Ex->Prop
 | []=>True
 |x::r=>okE x/\okL r
end
mutual
theorem zez: ∀(e:Ex) (d:Int),countS e d<=1000->okE e/\(szE e:Int)<=countS e d
 | .mk op n s l,d,h=>by
   simp only[countS]at h⊢;split at h
   ·omega
   ·rename_i hh;rw[ur hh];simp only[uJ,ux,oW,qD]at hh;obtain⟨h1,h2⟩:=zeA l d 1 ua ua h;refine⟨⟨hh.2,h1⟩,?_⟩;simp only[szE];omega
theorem zeA: ∀(l:List Ex) (d n:Int),1<=n->n<=1000->countL l d n<=1000->okL l/\n+(szL l:Int)<=countL l d n
 | [],d,n,_,_,h=>⟨uh,by simp only[countL,szL];omega⟩
 |x::r,d,n,h0,hn,h=>by
  simp only[countL]at h⊢;split at h
  ·omega
  ·rename_i hh;rw[ur hh];have hb:=(xP x (d+1)).1;obtain⟨h3,h4⟩:=zeA r d _ ua ua h;obtain⟨h1,h2⟩:=zez x (d+1) ua;refine⟨⟨h1,h3⟩,?_⟩;simp only[szL];omega
end
theorem zp3: ∀ {l:List Ex} {i:Nat} {x:Ex},okL l->l[i]?=some x->okE x
 | [],_,_,_,h=>by simp at h
 |y::r,0,x,h,hx=>by simp only[List.getElem?_cons_zero,ui]at hx;subst hx;exact h.1
 |y::r,i+1,x,h,hx=>by simp only[u6]at hx;exact zp3 h.2 hx
theorem zhI: ∀ {l:List Ex} {i:Nat} {x:Ex},l[i]?=some x->szE x<=szL l
 | [],_,_,h=>by simp at h
 |y::r,0,x,hx=>by simp only[List.getElem?_cons_zero,ui]at hx;subst hx;simp only[szL];omega
 |y::r,i+1,x,hx=>by simp only[u6]at hx;have:=zhI hx;simp only[szL];omega
def nmT(d:zf)(ns:List Nd)(v:Int):Str:=((ns[(v - 1).toNat]?).bind λx=>(d.types[x.t.toNat]?).map (·.n)).getD (⟨#[]⟩:UI)
def VT(d:zf)(ns:List Nd)(t:Str)(v:Int):Prop:=
 if t=(⟨#[105,110,116]⟩:UI)then inB v else if t=(⟨#[98,111,111,108]⟩:UI)then v=0\/v=1 else if t=(⟨#[110,105,108]⟩:UI)then v=0 else v=0\/(0<v/\v<=ns.length/\nmT d ns v=t)
def Xt(ns ns':List Nd):Prop:=ns.length<=ns'.length/\ ∀(i:Nat) x,ns[i]?=some x-> ∃x',ns'[i]?=some x'/\x'.t=x.t
def Xt.refl(ns:List Nd):Xt ns ns:=⟨uM _,λi x h=>⟨x,h,rfl⟩⟩
def Xt.trans{a b c:List Nd}(J:Xt a b)(h2:Xt b c):Xt a c:=⟨tG J.1 h2.1,λi x h=>by
 obtain⟨y,U,e1⟩:=J.2 i x h;obtain⟨z,hz,e2⟩:=h2.2 i y U
 simp_all⟩
variable {d:zf}{ns:List Nd}{t:Str}
def VT.mono{ns':List Nd}{v:Int}(h:VT d ns t v)(U:Xt ns ns'):VT d ns' t v:=by
 unfold VT at h⊢;split
 ·simp_all
 rename_i h1;rw[ur h1]at h;split
 ·simp_all
 rename_i h2;rw[ur h2]at h;split
 ·simp_all
 rename_i h3;rw[ur h3]at h;rcases h with h|⟨h4,h5,h6⟩
 ·exact .inl h
 ·right;refine⟨h4,by have:=U.1;omega,?_⟩;obtain⟨x,J⟩: ∃x,ns[(v - 1).toNat]?=some x:=za ua;obtain⟨x',h7,h8⟩:=U.2 _ x J;unfold nmT at h6⊢
  simp_all
def VT.zero(d:zf)(ns:List Nd)(t:Str):VT d ns t 0:=by
 unfold VT;split
 ·exact⟨ub,ub⟩
 simp_all
theorem VT.inB{d:zf}{ns:List Nd}{t:Str}{v:Int}(h:VT d ns t v)(hn:ns.length<=4096):Gm.inB v:=by
 unfold VT at h;unfold Gm.inB;split at h
 ·exact h
 grind
def VT.int{v:Int}:VT d ns (⟨#[105,110,116]⟩:UI) v↔Gm.inB v:=by unfold VT;rw[uw rfl]
def VT.bool{v:Int}:VT d ns (⟨#[98,111,111,108]⟩:UI) v↔v=0\/v=1:=by unfold VT;simp_all
def VT.nil{v:Int}:VT d ns (⟨#[110,105,108]⟩:UI) v↔v=0:=by unfold VT;simp_all
def VT.fits{a b:Str}{v:Int}(h:VT d ns a v)(hf:yo d a b=true):VT d ns b v:=by
 unfold yo at hf;simp only[uJ,um,uq]at hf;rcases hf with rfl|⟨rfl,_⟩
 ·exact h
 ·rw[VT.nil]at h;subst h;exact VT.zero d ns b
structure TyD (d:zf):Prop where
 nm: ∀t∈d.types,¬t.n=(⟨#[105,110,116]⟩:UI)/\ ¬t.n=(⟨#[98,111,111,108]⟩:UI)/\ ¬t.n=(⟨#[110,105,108]⟩:UI)
 un: ∀(i j:Nat) a b,d.types[i]?=some a->d.types[j]?=some b->a.n=b.n->i=j
def VT.node{v:Int}(hd:TyD d)(h:VT d ns t v)(U:yE d t=true)(h0: ¬v=0):0<v/\v<=ns.length/\nmT d ns v=t:=by
 unfold yE zf0 at U;rw[ot]at U;obtain⟨x,hx,J⟩:=U;have J:=uk J;obtain⟨n1,n2,n3⟩:=hd.nm x hx;rw[J]at n1 n2 n3;unfold VT at h
 simp_all
structure MT (d:zf) (g:List Int) (ns:List Nd):Prop where
 gl:g.length=d.globals.length
 gt: ∀(i:Nat) f v,d.globals[i]?=some f->g[i]?=some v->VT d ns f.t v
 nd: ∀x∈ns,0<=x.t/\ ∃y,d.types[x.t.toNat]?=some y/\y.f.length=x.f.length/\ ∀(i:Nat) f v,y.f[i]?=some f->x.f[i]?=some v->VT d ns f.t v
 nl:ns.length<=4096
structure FT (d:zf) (ns:List Nd) (fr:Fr):Prop where
 len:fr.va.length=fr.vs.length
 ty: ∀(i:Nat) f v,fr.vs[i]?=some f->fr.va[i]?=some v->VT d ns f.t v
theorem FT.mono{d:zf}{ns ns':List Nd}{fr:Fr}(h:FT d ns fr)(J:Xt ns ns'):FT d ns' fr:=⟨h.len,λi f v U h2=>(h.ty i f v U h2).mono J⟩
def Ph(m:Mc):Int:=m.acc.length+m.comps - 5000*m.ticks
structure MO (d:zf) (fuel:Int) (m:Mc):Prop where
 mt:MT d m.g m.ns
 t0:0<=m.ticks
 t1:m.ticks<=fuel
 c0:0<=m.calls
 c1:m.calls<=200
 p0:0<=m.comps
structure PE (d:zf) (fuel:Int) (m m':Mc) (s:Int):Prop where
 mo:MO d fuel m'
 ex:Xt m.ns m'.ns
 ca:m'.calls=m.calls
 ti:m.ticks<=m'.ticks
 ph:Ph m'<=Ph m+s
theorem PE.refl{d:zf}{fuel:Int}{m:Mc}{s:Int}(h:MO d fuel m)(hs:0<=s):PE d fuel m m s:=⟨h,Xt.refl _,rfl,qz _,ua⟩
theorem PE.trans{d:zf}{fuel:Int}{a b c:Mc}{s t:Int}(J:PE d fuel a b s)(h2:PE d fuel b c t):PE d fuel a c (s+t):=
 ⟨h2.mo,J.ex.trans h2.ex,h2.ca.trans J.ca,Int.le_trans J.ti h2.ti,by have:=J.ph;have:=h2.ph;omega⟩
variable {fuel:Int}
def PE.le{a b:Mc}{s t:Int}(h:PE d fuel a b s)(hs:s<=t):PE d fuel a b t:=⟨h.mo,h.ex,h.ca,h.ti,by have:=h.ph;omega⟩
variable {α:Type}
def QE(d:zf)(fuel:Int)(m:Mc)(s:Int)(V:Mc->α->Prop):An α->Prop
 | .ok v m'=>PE d fuel m m' s/\V m' v
 | .flt _ m'=>MO d fuel m'/\Ph m'<=Ph m+s
 | .out=>False
def Ev(f:Nat->An α)(Q:An α->Prop):Prop:= ∃k0 r,Q r/\ ∀k,k0<=k->f k=r
variable {Q:An α->Prop}
def Ev.const{r:An α}(h:Q r):Ev (λ_=>r) Q:=⟨0,r,h,λ_ _=>rfl⟩
variable {f:Nat->An α}
def Ev.succ{g:Nat->An α}(h:Ev g Q)(hfg: ∀k,f (k+1)=g k):Ev f Q:=by
 obtain⟨k0,r,hr,hk⟩:=h;refine⟨k0+1,r,hr,λk hk'=>?_⟩;obtain⟨j,rfl⟩: ∃j,k=j+1:=⟨k - 1,ua⟩
 simp_all
def Ev.congr{g:Nat->An α}(h:Ev g Q)(hfg: ∀k,f k=g k):Ev f Q:=by
 obtain⟨k0,r,hr,hk⟩:=h;exact⟨k0,r,hr,λk hk'=>by simp_all⟩
def Ev.imp{Q':An α->Prop}(h:Ev f Q)(J: ∀r,Q r->Q' r):Ev f Q':=by
 obtain⟨k0,r,hr,hk⟩:=h;exact⟨k0,r,J r hr,hk⟩
theorem Ev.bind{α β:Type}{d:zf}{fuel:Int}{m:Mc}{s t u:Int}{V:Mc->α->Prop}{W:Mc->β->Prop}{f:Nat->An α}{g:Nat->α->Mc->An β}(h:Ev f (QE d fuel m s V))(hst:s+t<=u)(ht:0<=t)
 (hg: ∀v m1,PE d fuel m m1 s->V m1 v->Ev (λk=>g k v m1) (QE d fuel m1 t W)):Ev (λk=>(f k).bind (g k)) (QE d fuel m u W):=by
 obtain⟨k0,r,hr,hk⟩:=h;cases r with
 |out=>exact hr.elim
 |flt e m1=>exact⟨k0,.flt e m1,⟨hr.1,by have:=hr.2;omega⟩,λk U=>by simp only[hk k U];rfl⟩
 |ok v m1=>
  obtain⟨k1,r2,J,hk2⟩:=hg v m1 hr.1 hr.2;refine⟨max k0 k1,r2,?_,λk U=>by simp only[hk k ua];exact hk2 k ua⟩;cases r2 with
  |out=>exact J.elim
  |flt e m2=>exact⟨J.1,by have:=J.2;have:=hr.1.ph;omega⟩
  |ok w m2=>exact⟨(hr.1.trans J.1).le hst,J.2⟩
theorem jM{α:Type}(p:α->Bool): ∀l:List α,(l.find? p=none/\l.findIdx? p=none)\/ ∃i x,l.findIdx? p=some i/\l[i]?=some x/\l.find? p=some x
 | []=> .inl ⟨rfl,rfl⟩
 |y::r=>by
  cases h:p y with
  |true=>grind
  |false=>
   rcases jM p r with⟨J,h2⟩|⟨i,x,J,h2,h3⟩
   ·simp_all
   grind
def jN{l:List Fld}{s:Str}(h:look l s=some t): ∃i f,ixF l s=some i/\l[i]?=some f/\f.t=t:=by
 unfold look at h;rcases jM (λf:Fld=>decide (f.n=s)) l with⟨J,_⟩|⟨i,x,J,h2,h3⟩
 ·simp_all
 ·rw[h3]at h;simp only[uG,ui]at h;exact⟨i,x,J,h2,h⟩
def zrB{l:List Fld}{s:Str}(h:look l s=none):ixF l s=none:=by
 unfold look at h;rcases jM (λf:Fld=>decide (f.n=s)) l with⟨_,J⟩|⟨i,x,J,h2,h3⟩
 ·exact J
 simp_all
theorem zdu{a b:List Fld}{s:Str}(h:look (a++b) s=some t):(∃i f,ixF a s=some i/\a[i]?=some f/\f.t=t)\/(ixF a s=none/\ ∃i f,ixF b s=some i/\b[i]?=some f/\f.t=t):=by
 cases ha:look a s with
 |some u=>
  left
  have:look (a++b) s=some u:=by
   unfold look at ha⊢;rw[qW];cases hf:a.find? (λf=>decide (f.n=s))with
   |none=>rw[hf]at ha;cases ha
   |some x=>rw[hf]at ha;simpa using ha
  rw[this]at h;cases h;exact jN ha
 |none=>
  right;refine⟨zrB ha,jN ?_⟩;unfold look at ha h⊢
  grind
variable {m:Mc}{x:zX}
theorem MO.acc(J:MO d fuel m)(hf:fuel<=1048576)(U:Ph m<=20000000000):m.acc.length<1099511627776/\m.comps<1099511627776:=by
 have:=J.t1;have:=J.p0;have:=J.t0;unfold Ph at U;omega
def put_eq{β:Type}(J:MO d fuel m)(hf:fuel<=1048576)(U:Ph m<=20000000000)(k n f:Int)(c:Mc->An β):zcq m k n f c=c { m with acc:=m.acc++[(k,n,f)] }:=by
 unfold zcq ifA;rw[uw (J.acc hf U).1]
def zeB(J:MO d fuel m)(q:Int×Int×Int):PE d fuel m { m with acc:=m.acc++[q] } 1:=
 ⟨⟨J.mt,J.t0,J.t1,J.c0,J.c1,J.p0⟩,Xt.refl _,rfl,qz _,by simp only[Ph,uQ,uP];omega⟩
def zwY(J:MO d fuel m)(hf:fuel<=1048576)(hp:Ph m<=20000000000){fr:Fr}(hF:FT d m.ns fr){s:Str}(h:look (fr.vs++d.globals) s=some t):QE d fuel m 1 (λm' v=>VT d m'.ns t v) (nmV d fr s m):=by
 unfold nmV;rcases zdu h with⟨i,f,U,h2,h3⟩|⟨h0,i,f,U,h2,h3⟩
 ·rw[U];obtain⟨v,hv⟩: ∃v,fr.va[i]?=some v:=za (by rw[hF.len];grind);simp only[atA,hv];exact⟨PE.refl J ua,by rw[<-h3];exact hF.ty i f v h2 hv⟩
 ·rw[h0,U];obtain⟨v,hv⟩: ∃v,m.g[i]?=some v:=za (by rw[J.mt.gl];grind);simp only[opA,atA,hv,put_eq J hf hp];exact⟨zeB J _,by rw[<-h3];exact J.mt.gt i f v h2 hv⟩
def zf4{s:Str}(h:zf0 d s=some x): ∃i,zry d s=some i/\d.types[i]?=some x/\x.n=s:=by
 unfold zf0 at h;rcases jM (λt:zX=>decide (t.n=s)) d.types with⟨J,_⟩|⟨i,y,J,h2,h3⟩
 ·simp_all
 ·rw[h3]at h;cases h;have:=List.find?_some h3;exact⟨i,J,h2,by simpa using this⟩
def zi0{s:Str}(h:zf0 d s=some x):yE d s=true:=by unfold yE;rw[h];rfl
def zf5{g:List Int}(hd:TyD d)(hm:MT d g ns){v:Int}(hv:VT d ns t v)(ht:zf0 d t=some x)(h0: ¬v=0):
 ∃y,ns[(v - 1).toNat]?=some y/\(0<v/\v<=1000000)/\0<=y.t/\d.types[y.t.toNat]?=some x/\x.f.length=y.f.length/\ ∀(i:Nat) f u,x.f[i]?=some f->y.f[i]?=some u->VT d ns f.t u:=by
 obtain⟨h1,h2,h3⟩:=hv.node hd (zi0 ht) h0;obtain⟨y,U⟩: ∃y,ns[(v - 1).toNat]?=some y:=za ua;obtain⟨k0,z,k1,k2,k3⟩:=hm.nd y (uv U);obtain⟨i,_,J,hi3⟩:=zf4 ht;unfold nmT at h3;rw[U]at h3;simp only[qf,k1,uG,Option.getD_some]at h3;have hij:=hd.un _ _ _ _ k1 J (by rw[h3,hi3]);rw[hij,J]at k1;cases k1;have:=hm.nl;exact⟨y,U,⟨h1,ua⟩,k0,by simp_all,k2,k3⟩
def j9{t1 s:Str}(h:fieldT d t1 s=(t,0)): ∃x,zf0 d t1=some x/\look x.f s=some t:=by
 unfold fieldT at h
 grind
def zwZ(hd:TyD d)(J:MO d fuel m)(hf:fuel<=1048576)(hp:Ph m<=20000000000){t1 s:Str}{v:Int}(ht:fieldT d t1 s=(t,0))(hv:VT d m.ns t1 v):QE d fuel m 1 (λm' u=>VT d m'.ns t u) (fdV d v s m):=by
 unfold fdV;by_cases U:v=0
 ·rw[uw U];exact⟨J,ua⟩
 ·rw[ur U];obtain⟨x,hx,hl⟩:=j9 ht;obtain⟨y,h1,h2,h3,h4,h5,h6⟩:=zf5 hd J.mt hv hx U;obtain⟨i,f,hi,hif,hft⟩:=jN hl;obtain⟨u,hu⟩: ∃u,y.f[i]?=some u:=za (by grind);unfold fdA ifA;rw[uw h2];simp only[atA,h1];rw[uw h3];simp only[h4,opA,hi,hu,put_eq J hf hp];exact⟨zeB J _,by rw[<-hft];exact h6 i f u hif hu⟩
def zw0(hd:TyD d)(htf: ∀x∈d.types,x.f.length<=1000000)(J:MO d fuel m)(hf:fuel<=1048576)(hp:Ph m<=20000000000){s:Str}(hs:yE d s=true):QE d fuel m 1 (λm' u=>VT d m'.ns s u) (nwV d s m):=by
 unfold nwV;by_cases h0:(m.ns.length:Int)≥4096
 ·rw[uw h0];exact⟨J,ua⟩
 ·rw[ur h0];obtain⟨x,hx⟩: ∃x,zf0 d s=some x:=Option.isSome_iff_exists.1 hs;obtain⟨i,hi1,U,hi3⟩:=zf4 hx;simp only[opA,hi1,atA,U,ifA];rw[uw (htf x (uv U))];have hxt:Xt m.ns (m.ns++[⟨(i:Int),List.replicate x.f.length 0⟩]):=⟨ue,λj y hj=>⟨y,by rw[tV (uy.1 hj).1];exact hj,rfl⟩⟩
  have hmt:MT d m.g (m.ns++[⟨(i:Int),List.replicate x.f.length 0⟩]):=by
   refine⟨J.mt.gl,λj f v h1 h2=>(J.mt.gt j f v h1 h2).mono hxt,λy hy=>?_,ug⟩;rcases tp.1 hy with hy|hy
   ·obtain⟨k0,z,k1,k2,k3⟩:=J.mt.nd y hy;exact⟨k0,z,k1,k2,λj f v h1 h2=>(k3 j f v h1 h2).mono hxt⟩
   ·simp only[tv]at hy;subst hy;refine⟨ue,x,by simpa using U,ue,λj f v h1 h2=>?_⟩;simp only[oe]at h2;split at h2
    ·cases h2;exact VT.zero _ _ _
    ·cases h2
  have hm2:MO d fuel { m with ns:=m.ns++[⟨(i:Int),List.replicate x.f.length 0⟩] }:=⟨hmt,J.t0,J.t1,J.c0,J.c1,J.p0⟩;rw[put_eq hm2 hf (by unfold Ph at hp ⊢; exact hp)];have hpe:=zeB hm2 (3,((m.ns.length+1:Nat):Int),(i:Int));refine⟨⟨hpe.mo,hxt,rfl,qz _,hpe.ph⟩,?_⟩;obtain⟨n1,n2,n3⟩:=hd.nm x (uv U);rw[hi3]at n1 n2 n3;unfold VT;rw[ur n1,ur n2,ur n3];right;refine⟨ua,ue,?_⟩;unfold nmT
  simp_all
def zdv(J:MO d fuel m)(n:Int):QE d fuel m 0 (λm' v=>VT d m'.ns (⟨#[105,110,116]⟩:UI) v) (vI m n):=by
 unfold vI;by_cases h:n>1099511627776\/n< -1099511627776
 ·rw[uw h];exact⟨J,ua⟩
 ·rw[ur h];exact⟨PE.refl J ua,VT.int.2 (by unfold Gm.inB;omega)⟩
def zuo{a b:Int}(h: ¬(¬a=0/\wP b>Int.tdiv 1099511627776 (wP a))):Gm.inB (a*b):=by
 unfold Gm.inB;by_cases ha:a=0
 ·simp_all
 ·have J:wP b<=Int.tdiv 1099511627776 (wP a):=by
   by_cases U:wP b>Int.tdiv 1099511627776 (wP a)
   ·exact absurd ⟨ha,U⟩ h
   ·omega
  have ea:wP a=(a.natAbs:Int):=by unfold wP;split<;>omega
  have eb:wP b=(b.natAbs:Int):=by unfold wP;split<;>omega
  have e:Int.tdiv 1099511627776 (a.natAbs:Int)=((1099511627776 / a.natAbs:Nat):Int):=by rw[show(1099511627776:Int)=((1099511627776:Nat):Int) from rfl];exact(Uz _ _).symm
  rw[ea,eb,e]at J;have h1:b.natAbs<=1099511627776 / a.natAbs:=by omega
  have h2:b.natAbs*a.natAbs<=1099511627776:=tG (tz _ h1) (Nat.div_mul_le_self _ _);have h3:(a*b).natAbs<=1099511627776:=by rw[oy,Nat.mul_comm];exact h2
  omega
def zup(hm:MO d fuel m){op a b:Int}(ha:Gm.inB a)(hb:Gm.inB b):QE d fuel m 0 (λm' v=>VT d m'.ns (⟨#[105,110,116]⟩:UI) v) (zun m op a b):=by
 unfold zun ifA;rw[uw ⟨ha,hb⟩];unfold znE;have ok: ∀v,Gm.inB v->QE d fuel m 0 (λm' v=>VT d m'.ns (⟨#[105,110,116]⟩:UI) v) (An.ok v m):=λv h=>⟨PE.refl hm ua,VT.int.2 h⟩
 have fl: ∀e,QE d fuel m 0 (λm' v=>VT d m'.ns (⟨#[105,110,116]⟩:UI) v) (An.flt e m):=λe=>⟨hm,ua⟩
 by_cases o9:op=9
 ·rw[uw o9];exact zdv hm _
 rw[ur o9];by_cases J:op=10
 ·rw[uw J];exact zdv hm _
 rw[ur J];by_cases U:op=11
 ·rw[uw U];by_cases h: ¬a=0/\wP b>Int.tdiv 1099511627776 (wP a)
  ·simp_all
  ·rw[ur h];exact ok _ (zuo h)
 rw[ur U];by_cases o12:op=12
 ·rw[uw o12];by_cases h:b=0
  ·simp_all
  ·rw[ur h];refine ok _ ?_;have:(Int.tdiv a b).natAbs<=a.natAbs:=by rw[Uj];exact oL _ _
   unfold Gm.inB at ha⊢;omega
 rw[ur o12];by_cases o13:op=13
 ·rw[uw o13];by_cases h:b=0
  ·simp_all
  ·rw[ur h];refine ok _ ?_;have:(Int.tmod a b).natAbs<=a.natAbs:=by rw[Uk];exact Nat.mod_le _ _
   unfold Gm.inB at ha⊢;omega
 grind
def y7(b:Bool):zcH b=0\/zcH b=1:=by cases b<;>simp[zcH]
def zkt(J:MO d fuel m)(hf:fuel<=1048576)(U:Ph m<=20000000000)(b:Bool):QE d fuel m 1 (λm' v=>VT d m'.ns (⟨#[98,111,111,108]⟩:UI) v) (znF m b):=by
 unfold znF ifA;rw[uw ⟨J.p0,(J.acc hf U).2⟩];exact⟨⟨⟨J.mt,J.t0,J.t1,J.c0,J.c1,by have:=J.p0;grind⟩,Xt.refl _,rfl,qz _,by simp only[Ph];omega⟩,VT.bool.2 (y7 b)⟩
theorem vr{d:zf}{vs:List Fld}{b:Bool}: ∀ {l:List Ex} {ts:List Str},exsT d vs b l=(ts,0)->ts.length=l.length/\ ∀(i:Nat) x,l[i]?=some x->exT d vs b x=(lsA ts i,0)
 | [],ts,h=>by simp only[exsT,uz]at h;simp_all
 |y::r,ts,h=>by
  rw[exsT]at h;cases hy:exT d vs b y with
  |mk t e=>
   rw[hy]at h;simp only at h;by_cases U:e=0
   ·subst U;rw[uw rfl]at h;cases hr:exsT d vs b r with
    |mk us f=>
     rw[hr]at h;simp only[uz]at h;obtain⟨rfl,rfl⟩:=h;obtain⟨h1,h2⟩:=vr hr;refine⟨by simp[h1],λi x J=>?_⟩;cases i with
     |zero=>simp only[List.getElem?_cons_zero,ui]at J;subst J;rw[hy];rfl
     |succ i=>simp only[u6]at J;rw[h2 i x J];rfl
   simp_all
variable {b:Bool}
def zdw{vs:List Fld}{op n:Int}{s:Str}{l:List Ex}(h:exT d vs b (.mk op n s l)=(t,0)):
 ∃ts,exsT d vs b l=(ts,0)/\(op=7->vb d b s ts=(t,0)/\ ¬t=(⟨#[]⟩:UI))/\(¬op=7->zu d vs b op s ts=(t,0)):=by
 rw[exT]at h
 grind
def zI{l:List Str}{r u:Str}(h:zhC l t r=(u,0)):u=r/\ ∀(i:Nat),i<l.length->lsA l i=t:=by
 unfold zhC at h;split at h
 ·simp at h
 ·rename_i J;simp only[uz,qn]at h;refine⟨h.symm,λi U=>?_⟩;simp only[List.any_eq_true,not_exists,not_and]at J;have:=J l[i] (List.getElem_mem U);simp only[ux,uu,qT]at this;unfold lsA
  simp_all
def zku{s:Str}{p:Pr}(h:zew d s=some p): ∃i,zbG d s=some i/\d.procs[i]?=some p:=by
 unfold zew at h;rcases jM (λp:Pr=>decide (p.n=s)) d.procs with⟨J,_⟩|⟨i,y,J,h2,h3⟩
 ·simp_all
 ·rw[h3]at h;cases h;exact⟨i,J,h2⟩
variable {ts:List Str}
theorem zeC{s:Str}(h:vb d true s ts=(t,0)): ∃p,zew d s=some p/\ts.length=p.params.length/\(∀(i:Nat) f,p.params[i]?=some f->yo d (lsA ts i) f.t=true)/\p.res=t:=by
 unfold vb at h;rw[ur ub]at h;cases hp:zew d s with
 |none=>simp_all
 |some p=>
  rw[hp]at h;simp only at h;by_cases J: ¬ts.length=p.params.length
  ·simp_all
  ·rw[ur J]at h;have J:ts.length=p.params.length:=qT.1 J;by_cases h2:(List.zip ts p.params).any (λq=> !yo d q.1 q.2.t)=true
   ·simp_all
   ·rw[ur h2]at h;simp only[uz,qn]at h;refine⟨p,rfl,J,λi f hf=>?_,h⟩;obtain⟨u,U⟩: ∃u,ts[i]?=some u:=za (by grind);have hz:(List.zip ts p.params)[i]?=some (u,f):=by rw[tq];exact⟨U,hf⟩
    simp only[List.any_eq_true,not_exists,not_and]at h2;have:=h2 (u,f) (uv hz);unfold lsA
    simp_all
def zi1{e:Ex}(h:vM e=true):e.l.length<=6/\(e.op=5\/e.op=8\/e.op=18\/e.op=24->e.l.length=1)/\(e.op=21->e.l.length=3)/\(1<=e.op/\e.op<=24)/\
 (9<=e.op/\e.op<=17\/e.op=19\/e.op=20\/e.op=22\/e.op=23->e.l.length=2)/\(e.op=1->Gm.inB e.n)/\(e.op=2->e.n=0\/e.n=1):=by
 unfold vM at h;simp only[um,ux,uu,qa,uE,uq]at h;obtain⟨⟨⟨⟨J,h2⟩,h3⟩,_⟩,U⟩:=h;generalize e.op=op at J h2 h3 U⊢;have hp: ∀k:Int,zS op=k->0<=k->(e.l.length:Int)=k:=λk hk h0=>by omega
 have hop:1<=op/\op<=24:=by
  unfold zS at J;simp only[uJ,um,uq]at J
  repeat' split at J
  all_goals omega
 refine⟨?_,λh=>?_,λh=>?_,hop,λh=>?_,λh=>?_,λh=>?_⟩
 ·by_cases h7:op=7
  ·subst h7;have:zS 7= -1:=rfl;omega
  ·have: ∃k:Int,zS op=k/\0<=k/\k<=3:=by
    unfold zS;simp only[uJ,um,uq]
    repeat' split
    all_goals first
     |exact⟨_,rfl,ub,ub⟩
     |omega
   omega
 ·have:zS op=1:=by rcases h with rfl|rfl|rfl|rfl<;>rfl
  omega
 ·subst h;have:=hp 3 rfl ub;omega
 ·have:zS op=2:=by
   have:op=9\/op=10\/op=11\/op=12\/op=13\/op=14\/op=15\/op=16\/op=17\/op=19\/op=20\/op=22\/op=23:=by omega
   rcases this with rfl|rfl|rfl|rfl|rfl|rfl|rfl|rfl|rfl|rfl|rfl|rfl|rfl<;>rfl
  omega
 ·rw[uw h]at U;simp only[um,uq]at U;unfold Gm.inB;omega
 simp_all
def vX{op n:Int}{s:Str}{l:List Ex}(h:vM (.mk op n s l)=true):l.length<=6/\(op=5\/op=8\/op=18\/op=24->l.length=1)/\(op=21->l.length=3)/\(1<=op/\op<=24)/\
 (9<=op/\op<=17\/op=19\/op=20\/op=22\/op=23->l.length=2)/\(op=1->Gm.inB n)/\(op=2->n=0\/n=1):=zi1 h
theorem zdx{d:zf}{vs:List Fld}: ∀(e:Ex) (t:Str),okE e->exT d (vs++d.globals) true e=(t,0)->tyO d vs e=some t
 | .mk op n s l,t,hok,h=>by
   obtain⟨ts,h1,h7,J⟩:=zdw h;obtain⟨hl,hat⟩:=vr h1;obtain⟨_,k1,k3,kop,k2,_,_⟩:=vX hok.1;unfold tyO;by_cases o4:op=4
   ·rw[uw o4];have J:=J ua;subst o4;simp only[zu,show ¬(4:Int)=1 by decide,show ¬(4:Int)=2 by decide,show ¬(4:Int)=3 by decide,uN,uW]at J;cases hk:look (vs++d.globals) s with
    |none=>simp_all
    |some u=>
     rw[hk]at J;simp only[uz,qn]at J;subst J;rcases zdu hk with⟨i,f,h1,h2,h3⟩|⟨h0,i,f,h1,h2,h3⟩
     ·simp_all
     simp_all
   rw[ur o4];by_cases o5:op=5
   ·rw[uw o5];have J:=J ua;have hl1:=k1 (.inl o5);subst o5
    match l,hl1,hok,hat,hl with
    | [x],_,hok,hat,hl=>
      have hx:=zdx x _ hok.2.1 (hat 0 x rfl);simp only[hx,qf];simp only[zu,show ¬(5:Int)=1 by decide,show ¬(5:Int)=2 by decide,show ¬(5:Int)=3 by decide,show ¬(5:Int)=4 by decide,uN,uW]at J;obtain⟨y,hy,hlk⟩:=j9 J;obtain⟨i,hi1,hi2,_⟩:=zf4 hy;obtain⟨j,f,hj1,hj2,hj3⟩:=jN hlk;simp only[hi1,qf,hi2,hj1,hj2,uG,hj3]
   rw[ur o5];by_cases o6:op=6
   ·rw[uw o6];have J:=J ua;subst o6;simp only[zu,show ¬(6:Int)=1 by decide,show ¬(6:Int)=2 by decide,show ¬(6:Int)=3 by decide,show ¬(6:Int)=4 by decide,show ¬(6:Int)=5 by decide,uN,uW,qx]at J
    grind
   rw[ur o6];by_cases o7:op=7
   ·rw[uw o7];obtain⟨p,hp,_,_,hr⟩:=zeC (h7 o7).1;obtain⟨i,hi1,hi2⟩:=zku hp
    simp_all
   rw[ur o7];have J:=J o7;by_cases o21:op=21
   ·rw[uw o21];have hl3:=k3 o21;subst o21
    match l,hl3,hok,hat,hl with
    | [x,y,z],_,hok,hat,hl=>
      have hy:=zdx y _ hok.2.2.1 (hat 1 y rfl);have hz:=zdx z _ hok.2.2.2.1 (hat 2 z rfl);simp only[hy,qf]
      simp only[zu,show ¬(21:Int)=1 by decide,show ¬(21:Int)=2 by decide,show ¬(21:Int)=3 by decide,show ¬(21:Int)=4 by decide,show ¬(21:Int)=5 by decide,show ¬(21:Int)=6 by decide,show ¬((21:Int)=14\/(21:Int)=15) by decide,
       show ¬((21:Int)=16\/(21:Int)=17) by decide,show ¬((21:Int)=18\/(21:Int)=19\/(21:Int)=20) by decide,uN,uW]at J
      split at J
      ·split at J
       ·rename_i hf;simp only[uz,qn]at J;subst J;by_cases U:lsA ts 1=(⟨#[110,105,108]⟩:UI)
        ·rw[uw U];exact hz
        ·rw[ur U];unfold yo at hf;simp only[uJ,um,uq]at hf;rcases hf with hf|hf
         ·rw[hf]
         ·exact absurd hf.1 U
       ·rename_i hf1;split at J
        ·rename_i hf;simp only[uz,qn]at J;subst J;by_cases U:lsA ts 1=(⟨#[110,105,108]⟩:UI)
         ·exfalso;unfold yo at hf hf1;simp only[uJ,um,uq]at hf hf1;rcases hf with hf|hf
          ·exact hf1 (.inl hf.symm)
          ·exact hf1 (.inl (by rw[U,hf.1]))
         ·rw[ur U]
        ·simp at J
      ·simp at J
   rw[ur o21];by_cases o3:op=3
   ·rw[uw o3];subst o3;simp[zu]at J;rw[J]
   rw[ur o3];by_cases ob:op=2\/op=18\/op=19\/op=20\/op=14\/op=15\/op=16\/op=17
   ·rw[uw ob];rcases ob with rfl|rfl|rfl|rfl|rfl|rfl|rfl|rfl
    ·simp[zu]at J;rw[J]
    ·simp[zu]at J;rw[(zI J).1]
    ·simp[zu]at J;rw[(zI J).1]
    ·simp[zu]at J;rw[(zI J).1]
    ·simp[zu]at J;grind
    ·simp[zu]at J;grind
    ·simp[zu]at J;rw[(zI J).1]
    ·simp[zu]at J;rw[(zI J).1]
   rw[ur ob];by_cases o1:op=1
   ·subst o1;simp[zu]at J;rw[J]
   ·unfold zu at J;rw[ur o1,ur ua,ur o3,ur o4,ur o5,ur o6,ur ua,ur ua,ur ua,ur o21]at J;rw[(zI J).1]
def HC(d:zf)(fuel C:Int):Prop:= ∀(p:Pr) (a:List Int) (m:Mc),p∈d.procs->a.length=p.params.length->(∀(i:Nat) f v,p.params[i]?=some f->a[i]?=some v->VT d m.ns f.t v)->MO d fuel m->m.calls=C->
 Ph m+4004*(199 - C)<=10000000000->Ev (λk=>rnV d fuel k p a m) (QE d fuel m 0 λm' v=>VT d m'.ns p.res v)
structure DE (d:zf) (fuel:Int):Prop where
 ty:TyD d
 tf: ∀x∈d.types,x.f.length<=1000000
 f0:0<=fuel
 f1:fuel<=1048576
def PX(d:zf)(fuel:Int)(fr:Fr)(C:Int)(e:Ex):Prop:= ∀t m,exT d (fr.vs++d.globals) true e=(t,0)->MO d fuel m->m.calls=C->FT d m.ns fr->
 Ph m+2*szE e+4004*(200 - C)<=10000004002->Ev (λk=>exV d fuel fr k e m) (QE d fuel m (2*szE e) λm' v=>VT d m'.ns t v)
variable {C:Int}{c:Prop}
section
variable {fr:Fr}
def Ev.pos{_:Decidable c}{a b:Nat->An α}(h:c)(e:Ev a Q):Ev (λk=>if c then a k else b k) Q:=e.congr λ_=>uw h
def Ev.neg{_:Decidable c}{a b:Nat->An α}(h: ¬c)(e:Ev b Q):Ev (λk=>if c then a k else b k) Q:=e.congr λ_=>ur h
def zf6{l:List Ex}{i:Nat}{x:Ex}{Q:An Int->Prop}(J:l[i]?=some x)(h:Ev (λk=>exV d fuel fr k x m) Q):Ev (λk=>atA l i λy=>exV d fuel fr k y m) Q:=
 h.congr λk=>by simp only[atA,J]
theorem QE.le{α:Type}{s t:Int}{V W:Mc->α->Prop}(J:s<=t)(hv: ∀m' v,V m' v->W m' v): ∀r:An α,QE d fuel m s V r->QE d fuel m t W r
 | .ok v m',h=>⟨h.1.le J,hv m' v h.2⟩
 | .flt e m',h=>⟨h.1,by have:=h.2;omega⟩
 | .out,h=>h
theorem zp4(hC:0<=C)(hC2:C<=200): ∀ {l:List Ex} {ts:List Str} {m:Mc},(∀x∈l,PX d fuel fr C x)->exsT d (fr.vs++d.globals) true l=(ts,0)->MO d fuel m->m.calls=C->FT d m.ns fr->Ph m+2*szL l+4004*(200 - C)<=10000004002->
 Ev (λk=>exsV d fuel fr k l m) (QE d fuel m (2*szL l) λm' a=>a.length=l.length/\ ∀(i:Nat) v,a[i]?=some v->VT d m'.ns (lsA ts i) v)
 | [],ts,m,_,_,hm,_,_,_=>by
   refine Ev.succ (g:=λ_=>An.ok [] m) (Ev.const ⟨PE.refl hm ua,rfl,λi v h=>by simp at h⟩) λk=>by rw[exsV]
 |x::r,ts,m,hp,ht,hm,hc,hF,hb=>by
  obtain⟨hl,hat⟩:=vr ht;have hsz:(szL (x::r):Int)=szE x+szL r:=by simp only[szL];omega
  have hr:exsT d (fr.vs++d.globals) true r=(ts.drop 1,0):=by
   have hx:=hat 0 x rfl;rw[exsT,hx]at ht;simp only[uW]at ht;cases hq:exsT d (fr.vs++d.globals) true r with
   |mk us f=>
    rw[hq]at ht;simp only[uz]at ht;obtain⟨h5,rfl⟩:=ht;rw[<-h5];rfl
  refine Ev.succ (g:=λk=>(exV d fuel fr k x m).bind λv m=>(exsV d fuel fr k r m).bind λq m=> .ok (v::q) m) ?_ λk=>by rw[exsV]
  have h1:=hp x ue _ m (hat 0 x rfl) hm hc hF ua;refine Ev.bind h1 (t:=2*szL r) ua ua λv m1 J hv=>?_;have h2:=zp4 hC hC2 (l:=r) (ts:=ts.drop 1) (m:=m1) (λy hy=>hp y (by simp[hy])) hr J.mo (J.ca.trans hc) (hF.mono J.ex) (by have:=J.ph;omega);refine Ev.bind h2 (t:=0) ua ua λa m2 U ha=>Ev.const ⟨PE.refl U.mo ua,by simp[ha.1],λi u hu=>?_⟩
  cases i with
  |zero=>simp only[List.getElem?_cons_zero,ui]at hu;subst hu;exact hv.mono U.ex
  |succ i=>
   simp only[u6]at hu;have:=ha.2 i u hu;have e:lsA (ts.drop 1) i=lsA ts (i+1):=by unfold lsA;rw[tc,oz]
   grind
def zp5(J:HC d fuel C)(hC:0<=C)(hC2:C<=200){e:Ex}(hp: ∀x∈e.l,PX d fuel fr C x)(hlen:e.l.length<=6)(ht:exsT d (fr.vs++d.globals) true e.l=(ts,0))(hcT:vb d true e.s ts=(t,0))(hm:MO d fuel m)(hc:m.calls=C)(hF:FT d m.ns fr)
 (hb:Ph m+2*szL e.l+4004*(200 - C)<=10000004002):Ev (λk=>clV d fuel fr k e m) (QE d fuel m (2*szL e.l) λm' v=>VT d m'.ns t v):=by
 obtain⟨p,hp1,hp2,hp3,hp4⟩:=zeC hcT;obtain⟨i,hi1,hi2⟩:=zku hp1;obtain⟨hl,_⟩:=vr ht
 refine Ev.succ (g:=λk=>(exsV d fuel fr k e.l m).bind λa m=>rnV d fuel k p a m) ?_ λk=>by
  rw[clV,ifA,uw ua]
  congr 1
  funext a m
  simp only[opA,hi1,atA,hi2]
 refine Ev.bind (zp4 hC hC2 hp ht hm hc hF hb) (t:=0) ua ua λa m1 U ha=>?_;rw[<-hp4];refine J p a m1 (uv hi2) ua (λj f v hf hv=>?_) U.mo (U.ca.trans hc) (by have:=U.ph;omega);exact(ha.2 j v hv).fits (hp3 j f hf)
def zuq(hm:MO d fuel m)(hf:fuel<=1048576)(hp:Ph m<=20000000000){x:Ex}{op a b:Int}{s ta tb tx:Str}(ho:9<=op/\op<=17\/op=22\/op=23)(J:zu d (fr.vs++d.globals) true op s [ta,tb]=(t,0))(hx:tyO d fr.vs x=some tx)
 (ha:VT d m.ns ta a) (hb:VT d m.ns tb b):QE d fuel m 1 (λm' v=>VT d m'.ns t v) (ztC d fr x op a b m):=by
 unfold ztC;by_cases h1:op=14\/op=15
 ·rw[uw h1]
  have ht:t=(⟨#[98,111,111,108]⟩:UI):=by
   rcases h1 with rfl|rfl
   all_goals
    simp[zu]at J;split at J
    ·simp at J
    ·simp only[uz,qn]at J;exact J.symm
  subst ht;simp only[opA,hx];split
  ·exact zkt hm hf hp _
  ·exact⟨PE.refl hm ua,VT.bool.2 (y7 _)⟩
 rw[ur h1];by_cases h2:op=16
 ·rw[uw h2];subst h2;simp[zu]at J;rw[(zI J).1];exact zkt hm hf hp _
 rw[ur h2];by_cases h3:op=17
 ·rw[uw h3];subst h3;simp[zu]at J;rw[(zI J).1];exact zkt hm hf hp _
 rw[ur h3];unfold zu at J;rw[ur ua,ur ua,ur ua,ur ua,ur ua,ur ua,ur ua,ur ua,ur ua,ur ua]at J;obtain⟨rfl,U⟩:=zI J;have e1:ta=(⟨#[105,110,116]⟩:UI):=U 0 ue;have e2:tb=(⟨#[105,110,116]⟩:UI):=U 1 ue;subst e1 e2;exact QE.le ua (λ_ _ h=>h) _ (zup hm (VT.int.1 ha) (VT.int.1 hb))
end
mutual
theorem zhJ{d:zf}{fuel:Int}{fr:Fr}{C:Int}(hD:DE d fuel)(hcall:HC d fuel C)(hC:0<=C)(hC2:C<=200): ∀e:Ex,okE e->PX d fuel fr C e
 | .mk op n s l,hok=>by
   have ihl:=zp6 hD hcall hC hC2 (fr:=fr) l hok.2;intro t m ht hm hc hF hb;obtain⟨ts,hts,h7,hn⟩:=zdw ht;obtain⟨hl,hat⟩:=vr hts;obtain⟨klen,k1,k3,kop,k2,kn1,kn2⟩:=vX hok.1;have hsz:(szE (.mk op n s l):Int)=1+szL l:=by simp only[szE];omega
   rw[hsz]at hb⊢;have hp:Ph m<=20000000000:=by have:=hm.c1;omega
   -- the first part, and what is done with its value
   have fst: ∀(f:Nat->Int->Mc->An Int) (x:Ex),l[0]?=some x->(∀v m1,PE d fuel m m1 (2*szE x)->VT d m1.ns (lsA ts 0) v->Ev (λk=>f k v m1) (QE d fuel m1 (2+2*szL l - 2*szE x) λm' v=>VT d m'.ns t v))->
    Ev (λk=>(atA l 0 λx=>exV d fuel fr k x m).bind (f k)) (QE d fuel m (2*(1+szL l)) λm' v=>VT d m'.ns t v):=λf x hx hf=>by
    have hle:=zhI hx;have h1:=ihl x (uv hx) _ m (hat 0 x hx) hm hc hF ua;exact Ev.bind (zf6 hx h1) (t:=2+2*szL l - 2*szE x) ua ua hf
   have one:(op=5\/op=8\/op=18\/op=24)-> ∃x,l=[x]:=λh=>by
    have:=k1 h
    match l,this with
    | [x],_=>exact⟨x,rfl⟩
   refine Ev.succ (g:=λk=>exV d fuel fr (k+1) (.mk op n s l) m) ?_ λk=>rfl
   simp only[exV,Ex.op,Ex.n,Ex.s,Ex.l];by_cases o1:op=1\/op=2
   ·refine Ev.pos o1 ?_;refine Ev.const ⟨PE.refl hm ua,?_⟩;rcases o1 with rfl|rfl
    ·have:=hn ub;simp[zu]at this;rw[<-this];exact VT.int.2 (kn1 rfl)
    ·have:=hn ub;simp[zu]at this;rw[<-this];exact VT.bool.2 (kn2 rfl)
   refine Ev.neg o1 ?_;by_cases o3:op=3
   ·refine Ev.pos o3 ?_;exact Ev.const ⟨PE.refl hm ua,VT.zero _ _ _⟩
   refine Ev.neg o3 ?_;by_cases o4:op=4
   ·refine Ev.pos o4 ?_;subst o4;have hn:=hn ub;simp only[zu,show ¬(4:Int)=1 by decide,show ¬(4:Int)=2 by decide,show ¬(4:Int)=3 by decide,uN,uW]at hn;cases hk:look (fr.vs++d.globals) s with
    |none=>simp_all
    |some u=>
     rw[hk]at hn;simp only[uz,qn]at hn;subst hn;exact Ev.const (QE.le ua (λ_ _ h=>h) _ (zwY hm hD.f1 hp hF hk))
   refine Ev.neg o4 ?_;by_cases o5:op=5
   ·refine Ev.pos o5 ?_;obtain⟨x,rfl⟩:=one (.inl o5);subst o5;have hn:=hn ub;simp only[zu,show ¬(5:Int)=1 by decide,show ¬(5:Int)=2 by decide,show ¬(5:Int)=3 by decide,show ¬(5:Int)=4 by decide,uN,uW]at hn;refine fst _ x rfl λv m1 hpe hv=>Ev.const (QE.le (by simp only[szL];omega) (λ_ _ h=>h) _ (zwZ hD.ty hpe.mo hD.f1 (by have:=hpe.ph;have:=zhI (l:=[x]) (i:=0) rfl;omega) hn hv))
   refine Ev.neg o5 ?_;by_cases o6:op=6
   ·refine Ev.pos o6 ?_;subst o6;have hn:=hn ub;simp only[zu,show ¬(6:Int)=1 by decide,show ¬(6:Int)=2 by decide,show ¬(6:Int)=3 by decide,show ¬(6:Int)=4 by decide,show ¬(6:Int)=5 by decide,uN,uW,qx]at hn;split at hn
    ·simp at hn
    ·rename_i hnb;simp only[uz,qn]at hn;subst hn;exact Ev.const (QE.le ua (λ_ _ h=>h) _ (zw0 hD.ty hD.tf hm hD.f1 hp (by simpa using hnb)))
   refine Ev.neg o6 ?_;by_cases o7:op=7
   ·refine Ev.pos o7 ?_;have:=zp5 (e:= .mk op n s l) hcall hC hC2 (fr:=fr) ihl klen hts (h7 o7).1 hm hc hF (by simp only[Ex.l];omega);exact this.imp λr hr=>QE.le (by simp only[Ex.l];omega) (λ_ _ h=>h) r hr
   refine Ev.neg o7 ?_;have hn:=hn o7;by_cases o8:op=8
   ·refine Ev.pos o8 ?_;obtain⟨x,rfl⟩:=one (.inr (.inl o8));subst o8;simp[zu]at hn;obtain⟨rfl,hall⟩:=zI hn;refine fst _ x rfl λv m1 hpe hv=>?_;rw[hall 0 (by rw[hl];simp)]at hv;have hi:=VT.int.1 hv;refine Ev.const ?_;simp only[ifA,uw hi];exact QE.le (by simp only[szL];omega) (λ_ _ h=>h) _ (zdv hpe.mo _)
   refine Ev.neg o8 ?_;by_cases o24:op=24
   ·refine Ev.pos o24 ?_;obtain⟨x,rfl⟩:=one (.inr (.inr (.inr o24)));subst o24;simp[zu]at hn;obtain⟨rfl,hall⟩:=zI hn;refine fst _ x rfl λv m1 hpe hv=>?_;rw[hall 0 (by rw[hl];simp)]at hv;have hi:=VT.int.1 hv;refine Ev.const ?_;simp only[ifA,uw hi];refine⟨PE.refl hpe.mo (by simp only[szL];omega),VT.int.2 ?_⟩;unfold Gm.inB at hi⊢;unfold ztB
    have hlg:Nat.log2 (if v<1 then 1 else v.toNat)<64:=by
     rw[oM (by split<;>omega)];split<;>omega
    omega
   refine Ev.neg o24 ?_;by_cases o18:op=18
   ·refine Ev.pos o18 ?_;obtain⟨x,rfl⟩:=one (.inr (.inr (.inl o18)));subst o18;simp[zu]at hn;obtain⟨rfl,hall⟩:=zI hn;refine fst _ x rfl λv m1 hpe hv=>?_;rw[hall 0 (by rw[hl];simp)]at hv;have hi:=VT.bool.1 hv;refine Ev.const ?_;simp only[ifA,uw (show Gm.inB v by unfold Gm.inB;omega)];exact⟨PE.refl hpe.mo (by simp only[szL];omega),VT.bool.2 ua⟩
   refine Ev.neg o18 ?_
   -- a later part
   have nxt: ∀(i:Nat) (x y:Ex) (m1:Mc),l[0]?=some x->l[i]?=some y->i≠0->PE d fuel m m1 (2*szE x)->Ev (λk=>atA l i λy=>exV d fuel fr k y m1) (QE d fuel m1 (2*szE y) λm' v=>VT d m'.ns (lsA ts i) v)/\szE x+szE y<=szL l:=λi x y m1 hx hy hi hpe=>by
    have hsum:szE x+szE y<=szL l:=by
     cases l with
     |nil=>simp at hx
     |cons z r=>
      simp only[List.getElem?_cons_zero,ui]at hx;subst hx;obtain⟨j,rfl⟩: ∃j,i=j+1:=⟨i - 1,ua⟩;simp only[u6]at hy;have:=zhI hy;simp only[szL];omega
    exact⟨zf6 hy (ihl y (uv hy) _ m1 (hat i y hy) hpe.mo (hpe.ca.trans hc) (hF.mono hpe.ex) (by have:=hpe.ph;omega)),hsum⟩
   by_cases o19:op=19
   ·refine Ev.pos o19 ?_;have hl2:=k2 ua;subst o19;simp[zu]at hn;obtain⟨rfl,hall⟩:=zI hn;obtain⟨x,hx⟩: ∃x,l[0]?=some x:=za ua;obtain⟨y,hy⟩: ∃y,l[1]?=some y:=za ua;refine fst _ x hx λv m1 hpe hv=>?_;obtain⟨h2,hsum⟩:=nxt 1 x y m1 hx hy ub hpe;rw[hall 1 ua]at h2;by_cases h0:v=0
    ·refine Ev.pos h0 ?_;exact Ev.const ⟨PE.refl hpe.mo ua,VT.zero _ _ _⟩
    ·refine Ev.neg h0 ?_;exact h2.imp λr hr=>QE.le ua (λ_ _ h=>h) r hr
   refine Ev.neg o19 ?_;by_cases o20:op=20
   ·refine Ev.pos o20 ?_;have hl2:=k2 ua;subst o20;simp[zu]at hn;obtain⟨rfl,hall⟩:=zI hn;obtain⟨x,hx⟩: ∃x,l[0]?=some x:=za ua;obtain⟨y,hy⟩: ∃y,l[1]?=some y:=za ua;refine fst _ x hx λv m1 hpe hv=>?_;obtain⟨h2,hsum⟩:=nxt 1 x y m1 hx hy ub hpe;rw[hall 1 ua]at h2;by_cases h0:v=1
    ·refine Ev.pos h0 ?_;exact Ev.const ⟨PE.refl hpe.mo ua,VT.bool.2 (.inr rfl)⟩
    ·refine Ev.neg h0 ?_;exact h2.imp λr hr=>QE.le ua (λ_ _ h=>h) r hr
   refine Ev.neg o20 ?_;by_cases o21:op=21
   ·refine Ev.pos o21 ?_;have hl3:=k3 o21;subst o21;obtain⟨x,hx⟩: ∃x,l[0]?=some x:=za ua;obtain⟨y,hy⟩: ∃y,l[1]?=some y:=za ua;obtain⟨z,hz⟩: ∃z,l[2]?=some z:=za ua
    simp only[zu,show ¬(21:Int)=1 by decide,show ¬(21:Int)=2 by decide,show ¬(21:Int)=3 by decide,show ¬(21:Int)=4 by decide,show ¬(21:Int)=5 by decide,show ¬(21:Int)=6 by decide,show ¬((21:Int)=14\/(21:Int)=15) by decide,
     show ¬((21:Int)=16\/(21:Int)=17) by decide,show ¬((21:Int)=18\/(21:Int)=19\/(21:Int)=20) by decide,uN,uW]at hn
    have hfit: ∀(ns:List Nd) (v:Int),(VT d ns (lsA ts 1) v->VT d ns t v)/\(VT d ns (lsA ts 2) v->VT d ns t v):=λns v=>by
     split at hn
     ·split at hn
      ·rename_i hf;simp only[uz,qn]at hn;subst hn;exact⟨λh=>h.fits hf,λh=>h⟩
      ·split at hn
       ·rename_i hf;simp only[uz,qn]at hn;subst hn;exact⟨λh=>h,λh=>h.fits hf⟩
       ·simp at hn
     ·simp at hn
    refine fst _ x hx λv m1 hpe hv=>?_;obtain⟨h2,hsum⟩:=nxt 1 x y m1 hx hy ub hpe;obtain⟨h3,hsum3⟩:=nxt 2 x z m1 hx hz ub hpe;by_cases h0:v=1
    ·refine Ev.pos h0 ?_;exact h2.imp λr hr=>QE.le ua (λm' v h=>(hfit m'.ns v).1 h) r hr
    ·refine Ev.neg h0 ?_;exact h3.imp λr hr=>QE.le ua (λm' v h=>(hfit m'.ns v).2 h) r hr
   refine Ev.neg o21 ?_
   -- two parts
   have ho:9<=op/\op<=17\/op=22\/op=23:=by omega
   have hl2:=k2 ua
   match l,hl2,hok,ihl,hat,hl,fst,nxt,hb,ht with
   | [x,y],_,hok,ihl,hat,hl,fst,nxt,hb,ht=>
     have hts2:ts=[lsA ts 0,lsA ts 1]:=by
      match ts,hl with
      | [a,b],_=>rfl
     rw[hts2]at hn;have htx:=zdx x _ hok.2.1 (hat 0 x rfl)
     have hfst:=fst (λk a m=>(atA [x,y] 1 λy=>exV d fuel fr k y m).bind λb m=>ztC d fr x op a b m) x rfl λv m1 hpe hv=>by
      obtain⟨h2,hsum⟩:=nxt 1 x y m1 rfl rfl ub hpe;refine Ev.bind h2 (t:=1) ua ua λu m2 hpe2 hu=>Ev.const ?_
      exact zuq hpe2.mo hD.f1 (by have:=hpe.ph;have:=hpe2.ph;have:=hm.c1;omega) ho hn htx (hv.mono hpe2.ex) hu
     exact hfst
theorem zp6{d:zf}{fuel:Int}{fr:Fr}{C:Int}(hD:DE d fuel)(hcall:HC d fuel C)(hC:0<=C)(hC2:C<=200): ∀l:List Ex,okL l-> ∀x∈l,PX d fuel fr C x
 | [],_=>λx hx=>by cases hx
 |y::r,hok=>λx hx=>by
  have h1:=zhJ hD hcall hC hC2 (fr:=fr) y hok.1;have h2:=zp6 hD hcall hC hC2 (fr:=fr) r hok.2
  grind
end
mutual
def zw1(d:zf)(vs:List Fld)(res:Str):Sm->Prop
 | .mk op s e l els=>stmT d vs res (.mk op s e l els)=0/\vJ (.mk op s e l els)=true/\zrC d vs res l/\zrC d vs res els
def zrC(d:zf)(vs:List Fld)(res:Str):List Sm->Prop
 | []=>True
 |x::r=>zw1 d vs res x/\zrC d vs res r
end
mutual
theorem zrD{d:zf}{vs:List Fld}{res:Str}: ∀(x:Sm) (n dp c:Int),(smOne d vs res x n).1.2=0->stN x dp c<=200->0<=c->c<=200->zw1 d vs res x
 | .mk op s e l els,n,dp,c,h,hs,hc0,hc=>by
   rw[smOne]at h;by_cases h0:stmT d vs res (.mk op s e l els)=0
   ·rw[uw h0]at h;simp only[stN]at hs;split at hs
    ·omega
    ·rename_i hh;simp only[uJ,ux,oW,qD]at hh;cases hq:smsT d vs res l (n+1)with
     |mk q m=>
      rw[hq]at h;simp only at h;by_cases hq2:q.2=0
      ·rw[uw hq2]at h;have p1:=(y6 l (dp+1) 0 ua ua).1;have p2:=(y6 els (dp+1) 0 ua ua).1;generalize hA:stL l (dp+1) 0=A at hs p1;generalize hB:stL els (dp+1) 0=B at hs p2
       have hAB:A<=200/\B<=200:=by
        unfold zex at hs;by_cases hc1:c+1<=200
        ·rw[uw hc1]at hs;by_cases hc2:c+1+A<=200
         ·rw[uw hc2]at hs;omega
         ·rw[ur hc2]at hs;omega
        ·rw[ur hc1,ur hc1]at hs;omega
       have hb1:stL l (dp+1) 0<=200:=by omega
       have hb2:stL els (dp+1) 0<=200:=by omega
       exact⟨h0,hh.2,zdy l (n+1) (dp+1) 0 (by simp_all) hb1 ua ua,zdy els m (dp+1) 0 h hb2 ua ua⟩
      simp_all
   simp_all
theorem zdy{d:zf}{vs:List Fld}{res:Str}: ∀(l:List Sm) (n dp c:Int),(smsT d vs res l n).1.2=0->stL l dp c<=200->0<=c->c<=200->zrC d vs res l
 | [],_,_,_,_,_,_,_=>trivial
 |x::r,n,dp,c,h,hs,hc0,hc=>by
  rw[smsT]at h;simp only[stL]at hs;split at hs
  ·omega
  ·rename_i hh;cases hq:smOne d vs res x n with
   |mk q m=>
    rw[hq]at h;simp only at h;by_cases hq2:q.2=0
    ·rw[uw hq2]at h;exact⟨zrD x n dp c (by simp_all) ua hc0 hc,zdy r m dp _ h hs (zey x dp c hc0 hc).1 ua⟩
    simp_all
end
def VS(d:zf)(vs:List Fld)(res:Str)(m':Mc)(q:Option Int×Fr):Prop:=q.2.vs=vs/\FT d m'.ns q.2/\ ∀v,q.1=some v->VT d m'.ns res v
variable {res:Str}
section
variable {fr:Fr}
def zhK{l:List α}{i j:Nat}{x y:α}(h:(l.set i x)[j]?=some y):(i=j/\y=x)\/(i≠j/\l[j]?=some y):=by
 grind
def zur(J:MO d fuel m)(hf:fuel<=1048576)(hp:Ph m<=20000000000)(hF:FT d m.ns fr){s:Str}{v:Int}(h:look (fr.vs++d.globals) s=some t)(hv:VT d m.ns t v):QE d fuel m 1 (VS d fr.vs res) (stV d fr s v m):=by
 unfold stV;rcases zdu h with⟨i,f,h1,h2,h3⟩|⟨h0,i,f,h1,h2,h3⟩
 ·rw[h1];have U:i<fr.va.length:=by rw[hF.len];exact(uy.1 h2).1
  simp only[ifA,uw U];refine⟨PE.refl J ua,rfl,⟨by simp only[qR];exact hF.len,λj f' u hj hu=>?_⟩,λv h=>by cases h⟩;rcases zhK hu with⟨rfl,rfl⟩|⟨_,hu⟩
  ·simp_all
  ·exact hF.ty j f' u hj hu
 ·rw[h0,h1];have U:i<m.g.length:=by rw[J.mt.gl];exact(uy.1 h2).1
  simp only[opA,ifA,uw U,put_eq J hf hp];have hpe:=zeB J (2,0,(i:Int))
  have hmt:MT d (m.g.set i v) m.ns:=⟨by rw[qR];exact J.mt.gl,λj f' u hj hu=>by
   rcases zhK hu with⟨rfl,rfl⟩|⟨_,hu⟩
   ·rw[h2]at hj;cases hj;rw[h3];exact hv
   ·exact J.mt.gt j f' u hj hu,J.mt.nd,J.mt.nl⟩
  exact⟨⟨⟨hmt,J.t0,J.t1,J.c0,J.c1,J.p0⟩,Xt.refl _,rfl,qz _,hpe.ph⟩,rfl,hF,λv h=>by cases h⟩
def zus(hd:TyD d)(J:MO d fuel m)(hf:fuel<=1048576)(hp:Ph m<=20000000000)(hF:FT d m.ns fr){s t1:Str}{n v:Int}(ht:fieldT d t1 s=(t,0))(hn:VT d m.ns t1 n)(hv:VT d m.ns t v):QE d fuel m 1 (VS d fr.vs res) (ptV d fr s n v m):=by
 unfold ptV;by_cases h0:n=0
 ·rw[uw h0];exact⟨J,ua⟩
 ·rw[ur h0];obtain⟨x,hx,hl⟩:=j9 ht;obtain⟨y,h1,h2,h3,h4,h5,h6⟩:=zf5 hd J.mt hn hx h0;obtain⟨i,f,hi,hif,hft⟩:=jN hl;have hlt:i<y.f.length:=by rw[<-h5];exact(uy.1 hif).1
  unfold fdA;simp only[ifA,uw h2,atA,h1,uw h3,h4,opA,hi,uw hlt,put_eq J hf hp];have hpe:=zeB J (2,n,(i:Int))
  have U:Xt m.ns (m.ns.set (n - 1).toNat ⟨y.t,y.f.set i v⟩):=⟨ue,λj z hj=>by
   by_cases e:(n - 1).toNat=j
   ·subst e;rw[h1]at hj;cases hj;exact⟨⟨y.t,y.f.set i v⟩,by rw[qX,uw rfl,uw (uy.1 h1).1],rfl⟩
   ·exact⟨z,by rw[qX,ur e];exact hj,rfl⟩⟩
  have hmt:MT d m.g (m.ns.set (n - 1).toNat ⟨y.t,y.f.set i v⟩):=by
   refine⟨J.mt.gl,λj f' u hj hu=>(J.mt.gt j f' u hj hu).mono U,λz hz=>?_,by rw[qR];exact J.mt.nl⟩;obtain⟨j,hj⟩:=tK hz;rcases zhK hj with⟨rfl,rfl⟩|⟨_,hj⟩
   ·refine⟨h3,x,h4,by simp only[qR];exact h5,λk f' u hk hu=>?_⟩;rcases zhK hu with⟨rfl,rfl⟩|⟨_,hu⟩
    ·rw[hif]at hk;cases hk;rw[hft];exact hv.mono U
    ·exact(h6 k f' u hk hu).mono U
   ·obtain⟨k0,w,k1,k2,k3⟩:=J.mt.nd z (uv hj);exact⟨k0,w,k1,k2,λk f' u hk hu=>(k3 k f' u hk hu).mono U⟩
  exact⟨⟨⟨hmt,J.t0,J.t1,J.c0,J.c1,J.p0⟩,U,rfl,qz _,hpe.ph⟩,rfl,hF.mono U,λv h=>by cases h⟩
def zkv(J:MO d fuel m)(hf:fuel<=1048576){c:Nat->Mc->An α}{V:Mc->α->Prop}{u:Int}(hu:0<=u)
 (h:m.ticks<fuel->PE d fuel m { m with ticks:=m.ticks+1 } (-5000)->Ev (λk=>c k { m with ticks:=m.ticks+1 }) (QE d fuel { m with ticks:=m.ticks+1 } (u+5000) V)):Ev (λk=>zbH fuel m (c k)) (QE d fuel m u λm' q=>V m' q/\m.ticks+1<=m'.ticks):=by
 by_cases h0:m.ticks≥fuel
 ·exact(Ev.const (r:=An.flt 20 m) ⟨J,ua⟩).congr λk=>by unfold zbH;rw[uw h0]
 ·have U:MO d fuel { m with ticks:=m.ticks+1 }:=⟨J.mt,by have:=J.t0;simp only;omega,by simp only;omega,J.c0,J.c1,J.p0⟩;have hpe:PE d fuel m { m with ticks:=m.ticks+1 } (-5000):=⟨U,Xt.refl _,rfl,by simp only;omega,by simp only[Ph];omega⟩;have h1:=h ua hpe
  have:Ev (λk=>zbH fuel m (c k)) (QE d fuel { m with ticks:=m.ticks+1 } (u+5000) V):=h1.congr λk=>by
   unfold zbH ifA;rw[ur h0,uw (by have:=J.t0;omega)]
  refine this.imp λr hr=>?_;cases r with
  |out=>exact hr
  |flt e m'=>exact⟨hr.1,by have:=hr.2;simp only[Ph]at this ⊢; omega⟩
  |ok v m'=>exact⟨⟨hr.1.mo,hr.1.ex,hr.1.ca,by have:=hr.1.ti;grind,by have:=hr.1.ph;simp only[Ph]at this ⊢; omega⟩,hr.2,by have:=hr.1.ti;omega⟩
end
def wo{s:Sm}{lo J:Int}(h:wD s lo J=true):lo<=(s.e.length:Int)/\(s.e.length:Int)<=J/\ ∀x∈s.e,okE x/\szE x<=1000:=by
 simp only[wD,um,ux,uu,List.all_eq_true]at h;refine⟨ua,ua,λx U=>?_⟩;have:=h.2 x U;unfold y2 at this;have h2:=uk this;obtain⟨h3,h4⟩:=zez x 1 h2
 grind
section
variable {vs:List Fld}
def S1(d:zf)(fuel C:Int)(vs:List Fld)(res:Str)(T:Int):Prop:= ∀x fr m,zw1 d (vs++d.globals) res x->fr.vs=vs->MO d fuel m->m.calls=C->FT d m.ns fr->Ph m+4004*(200 - C)<=10000000000->fuel - m.ticks<=T->
 Ev (λk=>sV d fuel k fr x m) (QE d fuel m 0 λm' q=>VS d vs res m' q/\m.ticks+1<=m'.ticks)
def SS(d:zf)(fuel C:Int)(vs:List Fld)(res:Str)(T:Int):Prop:= ∀l fr m,zrC d (vs++d.globals) res l->fr.vs=vs->MO d fuel m->m.calls=C->FT d m.ns fr->Ph m+4004*(200 - C)<=10000000000->fuel - m.ticks<=T->
 Ev (λk=>ssV d fuel k fr l m) (QE d fuel m 0 (VS d vs res))
def WH(d:zf)(fuel C:Int)(vs:List Fld)(res:Str)(T:Int):Prop:= ∀c l fr m,okE c->szE c<=1000->exT d (vs++d.globals) true c=((⟨#[98,111,111,108]⟩:UI),0)->zrC d (vs++d.globals) res l->fr.vs=vs->MO d fuel m->m.calls=C->FT d m.ns fr->Ph m+2*szE c+4004*(200 - C)<=10000000000->fuel - m.ticks<=T->
 Ev (λk=>whV d fuel k fr c l m) (QE d fuel m (2*szE c) (VS d vs res))
theorem zw2{T:Int}(h1:S1 d fuel C vs res T)(ih:SS d fuel C vs res (T - 1)):SS d fuel C vs res T:=by
 intro l fr m U hv hm hc hF hb hT;cases l with
 |nil=>exact Ev.succ (g:=λ_=>An.ok (none,fr) m) (Ev.const ⟨PE.refl hm ua,hv,hF,λv h=>by cases h⟩) λk=>by rw[ssV]
 |cons x r=>
  refine Ev.succ (g:=λk=>(sV d fuel k fr x m).bind λq m=>match q.1 with
   |some v=> .ok (some v,q.2) m
   |none=>ssV d fuel k q.2 r m) ?_ λk=>by rw[ssV];rfl
  refine Ev.bind (h1 x fr m U.1 hv hm hc hF hb hT) (t:=0) ua ua λq m1 J hq=>?_;obtain⟨⟨q1,q2,q3⟩,q4⟩:=hq;cases hq1:q.1 with
  |some v=>exact Ev.const ⟨PE.refl J.mo ua,q1,q2,λu hu=>by simp_all⟩
  |none=>exact ih r q.2 m1 U.2 q1 J.mo (J.ca.trans hc) q2 (by have:=J.ph;omega) ua
def zw3{T:Int}(hD:DE d fuel)(hcall:HC d fuel C)(hC:0<=C)(hC2:C<=200)(hs:SS d fuel C vs res T)(ih:WH d fuel C vs res (T - 1)):WH d fuel C vs res T:=by
 intro c l fr m hok hsz hty hl hv hm hc hF hb hT
 refine Ev.succ (g:=λk=>(exV d fuel fr k c m).bind λv m=>if v=1 then((ssV d fuel k fr l m).bind λq m=>match q.1 with
  |some r=> .ok (some r,q.2) m
  |none=>zbH fuel m λm=>whV d fuel k q.2 c l m)else .ok (none,fr) m) ?_ λk=>by rw[whV];rfl
 subst hv;have hX:=zhJ hD hcall hC hC2 (fr:=fr) c hok _ m hty hm hc hF ua;refine Ev.bind hX (t:=0) ua ua λv m1 J hv=>?_;by_cases h1:v=1
 ·refine Ev.pos h1 ?_;refine Ev.bind (hs l fr m1 hl rfl J.mo (J.ca.trans hc) (hF.mono J.ex) (by have:=J.ph;omega) (by have:=J.ti;omega)) (t:=0) ua ua λq m2 U hq=>?_;obtain⟨q1,q2,q3⟩:=hq;cases hq1:q.1 with
  |some r=>exact Ev.const ⟨PE.refl U.mo ua,q1,q2,λu hu=>by simp_all⟩
  |none=>
   have:=zkv U.mo hD.f1 (c:=λk m=>whV d fuel k q.2 c l m) (V:=VS d fr.vs res) (u:=0) ua λhlt hpe3=>by
    have hph:=J.ph;have hph2:=U.ph;have hph3:=hpe3.ph;have hti:=J.ti;have hti2:=U.ti;have hW:=ih c l q.2 { m2 with ticks:=m2.ticks+1 } hok hsz hty hl q1 hpe3.mo (U.ca.trans (J.ca.trans hc)) q2 ua (by simp only;omega);exact hW.imp λr hr=>QE.le ua (λ_ _ h=>h) r hr
   exact this.imp λr hr=>QE.le ua (λ_ _ h=>h.1) r hr
 ·refine Ev.neg h1 ?_;exact Ev.const ⟨PE.refl J.mo ua,rfl,hF.mono J.ex,λv h=>by cases h⟩
def zkw{x:Sm}(h:vJ x=true):(∀y∈x.e,okE y/\szE y<=1000)/\(1<=x.op/\x.op<=6)/\(x.op=1\/x.op=3\/x.op=4\/x.op=6->x.e.length=1)/\(x.op=2->x.e.length=2)/\(x.op=5->x.e.length<=1)/\(x.op=6->(x.e[0]?).map Ex.op=some 7):=by
 unfold vJ zhF at h;by_cases U:x.op=1
 ·rw[uw U]at h;simp only[um]at h;obtain⟨J,h2,h3⟩:=wo h.1.2
  grind
 rw[ur U]at h;by_cases o2:x.op=2
 ·rw[uw o2]at h;simp only[um]at h;obtain⟨J,h2,h3⟩:=wo h.1.2
  grind
 rw[ur o2]at h;by_cases o3:x.op=3
 ·rw[uw o3]at h;simp only[um]at h;obtain⟨J,h2,h3⟩:=wo h.2
  grind
 rw[ur o3]at h;by_cases o4:x.op=4
 ·rw[uw o4]at h;simp only[um]at h;obtain⟨J,h2,h3⟩:=wo h.1.2
  grind
 rw[ur o4]at h;by_cases o5:x.op=5
 ·rw[uw o5]at h;simp only[um]at h;obtain⟨J,h2,h3⟩:=wo h.1.2
  grind
 rw[ur o5]at h;by_cases o6:x.op=6
 ·rw[uw o6]at h;simp only[um,uq]at h;obtain⟨J,h2,h3⟩:=wo h.1.1.2
  grind
 simp_all
theorem zw4{T:Int}(hD:DE d fuel)(hcall:HC d fuel C)(hC:0<=C)(hC2:C<=200)(hs:SS d fuel C vs res (T - 1))(hw:WH d fuel C vs res (T - 1)):S1 d fuel C vs res T:=by
 intro x fr m hok hv hm hc hF hb hT;subst hv;obtain⟨op,s,e,l,els⟩:=x;obtain⟨J,hsh,hl,hels⟩:=hok;obtain⟨hx,hop,he1,he2,he5,he6⟩:=zkw hsh;simp only[Sm.e,Sm.op]at hx hop he1 he2 he5 he6;refine Ev.succ (g:=λk=>sV d fuel (k+1) fr (.mk op s e l els) m) ?_ λk=>rfl
 simp only[sV,Sm.op,Sm.s,Sm.e,Sm.l,Sm.els];refine zkv hm hD.f1 ua λhlt hpe=>?_;have hm1:=hpe.mo;have hph:=hpe.ph;have hc1:({ m with ticks:=m.ticks+1 }:Mc).calls=C:=hpe.ca.trans hc;have hF1:FT d ({ m with ticks:=m.ticks+1 }:Mc).ns fr:=hF;have hti:fuel - ({ m with ticks:=m.ticks+1 }:Mc).ticks<=T - 1:=by simp only;omega
 generalize ({ m with ticks:=m.ticks+1 }:Mc)=m1 at hm1 hph hc1 hF1 hti⊢;clear hpe hlt hm hc hF hT;have hPX: ∀y∈e,PX d fuel fr C y:=λy hy=>zhJ hD hcall hC hC2 y (hx y hy).1
 have hph1:Ph m1+5000<=10000000000:=by omega
 have hgt: ∀ {m2:Mc} {k:Int},PE d fuel m1 m2 k->k<=4004->Ph m2<=20000000000:=λh hk=>by have:=h.ph;omega
 have hone:op=1\/op=3\/op=4\/op=6-> ∃y,e=[y]:=λh=>by
  have:=he1 h
  match e,this with
  | [y],_=>exact⟨y,rfl⟩
 by_cases o6:op=6
 ·refine Ev.neg ua (Ev.neg ua (Ev.neg ua (Ev.neg ua (Ev.neg ua (Ev.pos o6 ?_)))));obtain⟨y,rfl⟩:=hone ua;have h7:y.op=7:=by have:=he6 o6;simpa using this
  unfold stmT at J;rw[uw (show(Sm.mk op s [y] l els).op=6 from o6)]at J;unfold caT at J;rw[show exA (Sm.mk op s [y] l els).e 0=y from rfl]at J;cases hq:exsT d (fr.vs++d.globals) true y.l with
  |mk ts f=>
   rw[hq]at J;simp only at J;by_cases hf:f=0
   ·subst hf;rw[uw rfl]at J;obtain⟨hok,hsz⟩:=hx y ue;have hcl: ∃r,vb d true y.s ts=(r,0):=⟨(vb d true y.s ts).1,by rw[<-J]⟩;obtain⟨r,hr⟩:=hcl;have hsy:szL y.l<=1000:=by cases y;simp only[szE,Ex.l]at hsz ⊢; omega
    have hoy:okL y.l/\y.l.length<=6:=by cases y;exact⟨hok.2,(vX hok.1).1⟩
    have:=zp5 (e:=y) hcall hC hC2 (fr:=fr) (λz hz=>by
     obtain⟨j,hj⟩:=tK hz
     exact zhJ hD hcall hC hC2 z (zp3 hoy.1 hj)) hoy.2 hq hr hm1 hc1 hF1 ua
    refine Ev.bind (s:=2*szL y.l) (V:=λm' v=>VT d m'.ns r v) (this.congr λk=>by simp only[atA,List.getElem?_cons_zero]) (t:=0) ua ua λv m2 U hv=>Ev.const ⟨PE.refl U.mo ua,rfl,hF1.mono U.ex,λv h=>by cases h⟩
   simp_all
 unfold stmT at J;rw[ur (show ¬(Sm.mk op s e l els).op=6 from o6)]at J;cases hq:exsT d (fr.vs++d.globals) true e with
 |mk ts f=>
 rw[show(Sm.mk op s e l els).e=e from rfl,hq]at J;rw[show(Sm.mk op s e l els).op=op from rfl,show(Sm.mk op s e l els).s=s from rfl]at J
 replace J:(if f=0 then
  (if op=1 then(match look (fr.vs++d.globals) s with|none=>9|some t=>if yo d (lsA ts 0) t=true then 0 else 11)
  else if op=2 then(if(fieldT d (lsA ts 0) s).2=0 then(if yo d (lsA ts 1) (fieldT d (lsA ts 0) s).1=true then 0 else 11)else(fieldT d (lsA ts 0) s).2)
  else if op=3\/op=4 then(if lsA ts 0=(⟨#[98,111,111,108]⟩:UI)then 0 else 11)
  else if op=5 then(if ts.length=0 then(if res=(⟨#[]⟩:UI)then 0 else 11)else if ¬res=(⟨#[]⟩:UI)/\yo d (lsA ts 0) res=true then 0 else 11)
  else 0)else f)=0:=J
 by_cases hf:f=0
 rotate_left
 ·omega
 subst hf;rw[uw rfl]at J;obtain⟨hlen,hat⟩:=vr hq;by_cases o1:op=1
 ·refine Ev.pos o1 ?_;rw[uw o1]at J;obtain⟨y,rfl⟩:=hone ua;obtain⟨hok,hsz⟩:=hx y ue;cases hk:look (fr.vs++d.globals) s with
  |none=>simp_all
  |some t=>
   rw[hk]at J;simp only at J
   have hfit:yo d (lsA ts 0) t=true:=by
    cases hh:yo d (lsA ts 0) t with
    |true=>rfl
    |false=>rw[hh]at J;cases J
   refine Ev.bind (zf6 (i:=0) rfl (hPX y ue _ m1 (hat 0 y rfl) hm1 hc1 hF1 ua)) (t:=1) ua ua λv m2 U hv=>Ev.const ?_
   exact zur U.mo hD.f1 (hgt U ua) (hF1.mono U.ex) hk (hv.fits hfit)
 refine Ev.neg o1 ?_;rw[ur o1]at J;by_cases o2:op=2
 ·refine Ev.pos o2 ?_;rw[uw o2]at J;have h2:=he2 o2
  match e,h2,hx,hPX,hq,hlen,hat with
  | [y,z],_,hx,hPX,hq,hlen,hat=>
    obtain⟨hok,hsz⟩:=hx y ue;obtain⟨hok2,hsz2⟩:=hx z ue;by_cases hft:(fieldT d (lsA ts 0) s).2=0
    ·rw[uw hft]at J
     have hfit:yo d (lsA ts 1) (fieldT d (lsA ts 0) s).1=true:=by
      cases hh:yo d (lsA ts 1) (fieldT d (lsA ts 0) s).1 with
      |true=>rfl
      |false=>rw[hh]at J;cases J
     have hfe:fieldT d (lsA ts 0) s=((fieldT d (lsA ts 0) s).1,0):=by rw[<-hft]
     refine Ev.bind (zf6 (i:=0) rfl (hPX y ue _ m1 (hat 0 y rfl) hm1 hc1 hF1 ua)) (t:=2*szE z+1) ua ua λn m2 U hn=>?_;refine Ev.bind (zf6 (i:=1) rfl (hPX z ue _ m2 (hat 1 z rfl) U.mo (U.ca.trans hc1) (hF1.mono U.ex) (by have:=U.ph;omega))) (t:=1) ua ua λv m3 hpe3 hv=>Ev.const ?_
     exact zus hD.ty hpe3.mo hD.f1 (by have:=U.ph;have:=hpe3.ph;omega) ((hF1.mono U.ex).mono hpe3.ex) hfe (hn.mono hpe3.ex) (hv.fits hfit)
    ·rw[ur hft]at J;exact absurd J hft
 refine Ev.neg o2 ?_;rw[ur o2]at J;by_cases o3:op=3
 ·refine Ev.pos o3 ?_;rw[uw (.inl o3)]at J;obtain⟨y,rfl⟩:=hone ua;obtain⟨hok,hsz⟩:=hx y ue
  have hb1:lsA ts 0=(⟨#[98,111,111,108]⟩:UI):=by
   by_cases hh:lsA ts 0=(⟨#[98,111,111,108]⟩:UI)
   ·exact hh
   ·rw[ur hh]at J;cases J
  refine Ev.bind (zf6 (i:=0) rfl (hPX y ue _ m1 (hat 0 y rfl) hm1 hc1 hF1 ua)) (t:=0) ua ua λv m2 U hv=>?_;have hp2:=U.ph;have ht2:=U.ti;by_cases h1:v=1
  ·exact Ev.pos h1 (hs l fr m2 hl rfl U.mo (U.ca.trans hc1) (hF1.mono U.ex) ua ua)
  ·exact Ev.neg h1 (hs els fr m2 hels rfl U.mo (U.ca.trans hc1) (hF1.mono U.ex) ua ua)
 refine Ev.neg o3 ?_;by_cases o4:op=4
 ·refine Ev.pos o4 ?_;rw[uw (.inr o4)]at J;obtain⟨y,rfl⟩:=hone ua;obtain⟨hok,hsz⟩:=hx y ue
  have hb1:lsA ts 0=(⟨#[98,111,111,108]⟩:UI):=by
   by_cases hh:lsA ts 0=(⟨#[98,111,111,108]⟩:UI)
   ·exact hh
   ·rw[ur hh]at J;cases J
  have:=hw y l fr m1 hok hsz (by rw[hat 0 y rfl,hb1]) hl rfl hm1 hc1 hF1 ua hti;refine(this.congr λk=>by simp only[atA,List.getElem?_cons_zero]).imp λr hr=>QE.le ua (λ_ _ h=>h) r hr
 refine Ev.neg o4 ?_;rw[ur ua]at J;by_cases o5:op=5
 ·refine Ev.pos o5 ?_;rw[uw o5]at J;by_cases h0:e.length=0
  ·exact Ev.pos h0 (Ev.const ⟨PE.refl hm1 ua,rfl,hF1,λv h=>by simp only at h;cases h;exact VT.zero _ _ _⟩)
  ·refine Ev.neg h0 ?_;have h5:=he5 o5;have hl0: ¬ts.length=0:=by omega
   rw[ur hl0]at J
   match e,h5,h0,hx,hPX,hq,hlen,hat with
   | [y],_,_,hx,hPX,hq,hlen,hat=>
     obtain⟨hok,hsz⟩:=hx y ue
     have hfit:yo d (lsA ts 0) res=true:=by
      by_cases hh: ¬res=(⟨#[]⟩:UI)/\yo d (lsA ts 0) res=true
      ·exact hh.2
      ·rw[ur hh]at J;cases J
     refine Ev.bind (zf6 (i:=0) rfl (hPX y ue _ m1 (hat 0 y rfl) hm1 hc1 hF1 ua)) (t:=0) ua ua λv m2 U hv=>Ev.const ⟨PE.refl U.mo ua,rfl,hF1.mono U.ex,λu hu=>by simp only at hu;cases hu;exact hv.fits hfit⟩
 exfalso;omega
theorem zrE(hD:DE d fuel)(J:HC d fuel C)(hC:0<=C)(U:C<=200): ∀T:Nat,SS d fuel C vs res T/\WH d fuel C vs res T:=by
 have neg: ∀T:Int,T<0->SS d fuel C vs res T/\WH d fuel C vs res T:=λT hT=>⟨λl fr m _ _ hm _ _ _ h=>by have:=hm.t1;omega,λc l fr m _ _ _ _ _ hm _ _ _ h=>by have:=hm.t1;omega⟩
 have step: ∀T:Int,SS d fuel C vs res (T - 1)/\WH d fuel C vs res (T - 1)->SS d fuel C vs res T/\WH d fuel C vs res T:=λT ih=>by
  have h1:=zw4 hD J hC U ih.1 ih.2;have h2:=zw2 h1 ih.1;exact⟨h2,zw3 hD J hC U h2 ih.2⟩
 intro T
 induction T with
 |zero=>simp_all
 |succ T ih=>simp_all
end
structure DP (d:zf) (fuel:Int):Prop extends DE d fuel where
 pr: ∀p∈d.procs,zrC d (p.params++p.locs++d.globals) p.res p.body/\p.params.length<=100000/\p.locs.length<=100000
theorem zut(hD:DP d fuel): ∀(n:Nat) (C:Int),0<=C->C<=200->200 - C<=n->HC d fuel C:=by
 intro n
 induction n with
 |zero=>
  intro C h0 h1 h2 p a m hp hl hty U hc hb;exact Ev.succ (g:=λ_=>An.flt 19 m) (Ev.const ⟨U,ua⟩) λk=>by rw[rnV,uw ua]
 |succ n ih=>
  intro C h0 h1 h2 p a m hp hl hty U hc hb;by_cases h3:m.calls≥200
  ·exact Ev.succ (g:=λ_=>An.flt 19 m) (Ev.const ⟨U,ua⟩) λk=>by rw[rnV,uw h3]
  obtain⟨q1,q2,q3⟩:=hD.pr p hp
  refine Ev.succ (g:=λk=>(ssV d fuel k ⟨p.params++p.locs,a++List.replicate p.locs.length 0⟩ p.body { m with calls:=m.calls+1 }).bind λq m=>ifA (0<m.calls/\m.calls<=1000) (.ok (q.1.getD 0) { m with calls:=m.calls - 1 })) ?_ λk=>by
   rw[rnV,ur h3,ifA,uw ⟨U.c0,ua,q2,q3⟩]
  have hm1:MO d fuel { m with calls:=m.calls+1 }:=⟨U.mt,U.t0,U.t1,by have:=U.c0;simp only;omega,by simp only;omega,U.p0⟩
  have hF:FT d m.ns ⟨p.params++p.locs,a++List.replicate p.locs.length 0⟩:=by
   refine⟨by simp[hl],λi f v hf hv=>?_⟩;simp only at hf hv;by_cases hi:i<p.params.length
   ·rw[tV hi]at hf;rw[tV ua]at hv;exact hty i f v hf hv
   ·rw[qt ua]at hv;simp only[oe]at hv;split at hv
    ·cases hv;exact VT.zero _ _ _
    ·cases hv
  have hS:=(zrE (vs:=p.params++p.locs) (res:=p.res) hD.toDE (ih (C+1) ua ua ua) ua ua (fuel - m.ticks).toNat).1 p.body ⟨p.params++p.locs,a++List.replicate p.locs.length 0⟩ { m with calls:=m.calls+1 } q1 rfl hm1 (by simp only;omega) hF (by simp only[Ph]at hb ⊢; omega) (by simp only;omega);obtain⟨k0,r,hr,hk⟩:=hS;refine⟨k0,r.bind λq m=>ifA (0<m.calls/\m.calls<=1000) (.ok (q.1.getD 0) { m with calls:=m.calls - 1 }),?_,λk hk'=>by simp_all⟩;cases r with
  |out=>exact hr
  |flt e m2=>exact⟨hr.1,by have:=hr.2;simp only[Ph]at this ⊢; omega⟩
  |ok q m2=>
   obtain⟨J,w1,w2,w3⟩:=hr;have hca:=J.ca;simp only at hca;simp only[An.bind,ifA];rw[uw ua];refine⟨⟨⟨J.mo.mt,J.mo.t0,J.mo.t1,by simp only;omega,by simp only;omega,J.mo.p0⟩,J.ex,by simp only;omega,J.ti,by have:=J.ph;simp only[Ph]at this ⊢; omega⟩,?_⟩;cases hq:q.1 with
   |none=>exact VT.zero _ _ _
   |some v=>exact w3 v hq
end Hw.Gm
namespace Hw.Gm
open Go Go.Proofs Hw.M
abbrev K2:=Fin 1000000×Fin 1000000
def zp7(i:Nat)(nd:Int):Option K2:=if h:i<1000000/\0<=nd/\nd<1000000 then some (⟨i,h.1⟩,⟨nd.toNat,ua⟩)else none
structure Kn where
 kn:List (K2×EV)
 bu:List (K2×EV)
inductive Bn where
 |ok (v:Int) (k:Kn)
 |flt (e:Int) (k:Kn)
 |out
def Bn.bind:Bn->(Int->Kn->Bn)->Bn
 | .ok v k,f=>f v k
 | .flt e k,_=> .flt e k
 | .out,_=> .out
def bdI(n:Int)(k:Kn):Bn:=if n< -1099511627776\/1099511627776<n then .flt 5 k else .ok n k
def zkx(n:Int):Prop:= -9223372036854775808<n/\n<9223372036854775808
instance (n:Int):Decidable (zkx n):=inferInstanceAs (Decidable (_/\_))
def zof(a b:Int)(k:Kn):Bn:=if zkx a/\zkx b then(if a.natAbs*b.natAbs>1099511627776 then .flt 5 k else .ok (a*b) k)else .out
def zjR(op a b:Int)(k:Kn):Bn:=
 if op=9 then bdI (IntKind.i64.wrap (a+b)) k else if op=10 then bdI (IntKind.i64.wrap (a - b)) k
 else if op=11 then zof a b k
 else if op=22 then .ok (if a<b then b else a) k else if op=23 then .ok (if b<a then b else a) k
 else if op=14 then .ok (zcH (decide (a=b))) k else if op=15 then .ok (zcH (!decide (a=b))) k
 else if op=16 then .ok (zcH (decide (a<b))) k else if op=17 then .ok (zcH (decide (a<=b))) k
 else if b=0 then .flt 18 k else if op=12 then bdI (IntKind.i64.wrap (Int.tdiv a b)) k else .ok (Int.tmod a b) k
def zp8(d:zf)(s:Str):Option Nat:=d.measures.findIdx? λm=>decide (m.n=s)
def namI(d:zf)(m:Hp)(nd:Int)(s:Str)(k:Kn):Bn:=if s=(⟨#[116,104,105,115]⟩:UI)then .ok nd k else match ixF d.globals s with
 |none=> .out
 |some i=>match m.g[i]? with
  |none=> .out
  |some v=> .ok v k
def fldI(d:zf)(m:Hp)(v:Int)(s:Str)(k:Kn):Bn:=if v=0 then .flt 17 k else if v<0 then .out else match m.n[(v - 1).toNat]? with
 |none=> .out
 |some x=>if x.t<0 then .out else match d.types[x.t.toNat]? with
  |none=> .out
  |some t=>match ixF t.f s with
   |none=> .out
   |some i=>match x.f[i]? with
    |none=> .out
    |some u=> .ok u k
def zi2(v:Int):Int:=if v<1 then 0 else Nat.log2 v.toNat
def lkI(l:List (K2×EV))(q:K2):Option (Option Int):=match getG l q with
 |none=>some none
 |some (.o (.k (.int .i64 v)))=>some (some v)
 |some _=>none
def lkB(l:List (K2×EV))(q:K2):Option Bool:=match getG l q with
 |none=>some false
 |some (.o (.k (.bool b)))=>some b
 |some _=>none
variable {q:K2}
def zog{l:List (K2×EV)}{v:Int}(h:lkI l q=some (some v)):getG l q=some (.o (ki v)):=by
 unfold lkI at h
 grind
def zoh{l:List (K2×EV)}(h:lkI l q=some none):getG l q=none:=by
 unfold lkI at h
 grind
def zrF{l:List (K2×EV)}{b:Bool}(h:lkB l q=some b):(getG l q).getD (.o (.k (.bool false)))= .o (.k (.bool b)):=by
 unfold lkB at h
 grind
mutual
def inV(d:zf)(m:Hp):Nat->Int->Ex->Kn->Bn
 |0,_,_,_=> .out
 |g+1,nd,e,k=>
  if e.op=1\/e.op=2 then .ok e.n k else if e.op=3 then .ok 0 k
  else if e.op=4 then namI d m nd e.s k
  else if e.op=5 then(atV d m g nd e 0 k).bind λv k=>fldI d m v e.s k
  else if e.op=7 then(match zp8 d e.s with
   |none=> .out
   |some i=>(atV d m g nd e 0 k).bind λv k=>meV d m g i v k)
  else if e.op=8 then(atV d m g nd e 0 k).bind λv k=>bdI (IntKind.i64.wrap (-v)) k
  else if e.op=18 then(atV d m g nd e 0 k).bind λv k=> .ok (IntKind.i64.wrap (1 - v)) k
  else if e.op=24 then(atV d m g nd e 0 k).bind λv k=>if v<9223372036854775808 then .ok (zi2 v) k else .out
  else if e.op=19 then(atV d m g nd e 0 k).bind λv k=>if v=0 then .ok 0 k else atV d m g nd e 1 k
  else if e.op=20 then(atV d m g nd e 0 k).bind λv k=>if v=0 then atV d m g nd e 1 k else .ok 1 k
  else if e.op=21 then(atV d m g nd e 0 k).bind λv k=>if v=0 then atV d m g nd e 2 k else atV d m g nd e 1 k
  else(atV d m g nd e 0 k).bind λa k=>(atV d m g nd e 1 k).bind λb k=>zjR e.op a b k
def atV(d:zf)(m:Hp):Nat->Int->Ex->Nat->Kn->Bn
 |0,_,_,_,_=> .out
 |g+1,nd,e,i,k=>match e.l[i]? with
  |none=> .out
  |some x=>inV d m g nd x k
def meV(d:zf)(m:Hp):Nat->Nat->Int->Kn->Bn
 |0,_,_,_=> .out
 |g+1,i,nd,k=>match d.measures[i]? with
  |none=> .out
  |some x=>if nd=0 then .ok x.z k else match zp7 i nd with
   |none=> .out
   |some q=>match lkI k.kn q with
    |none=> .out
    |some (some v)=> .ok v k
    |some none=>match lkB k.bu q with
     |none=> .out
     |some true=> .flt 16 k
     |some false=>(inV d m g nd x.x { k with bu:=putG k.bu q (.o (.k (.bool true))) }).bind λv k=> .ok v ⟨putG k.kn q (.o (ki v)),zbD k.bu q⟩
end
end Hw.Gm
namespace Hw
open Go
variable {L:List (List (List PV))}{M:Mem}{q:Nat}{rs:List (List PV)}{w:World}{ρ:Nat->Value}
def zaa{id e:Nat}(h:zA M ρ w id (.bag e L))(hq:L[q]?=some rs){v:Value}{xs:List Value}(hx:ρ id= .tuple xs.toArray)(hv:xs[q]?=some v):vN M w v e rs:=by
 obtain⟨cs,h2,_,hc,_⟩:=h
 grind
variable {P:Program}{af:Array Edge}{el t:TypeId}{g:Option (Nat×Bool)}{i:Int}{kk:Nat}{ps:String}{sh:Option Nat}{x:Operand}
section
variable {d:Option Nat} {ty:TypeId} {y:Operand}
def zf7{id e:Nat}{k:IntKind}(hx:okc x (.one (.nv id q)))(hy:okc y (Kk k i))(hq:L[q]?=some rs)(h:elemSz P t=some (el,e))(h0:0<=i)(hi:i<rs.length):
 Snd P ⟨d,.indexAddr t x y,ty,ps,af,g⟩ (rq x (.one (.nv id q))++rq y (Kk k i)) [(id,.bag e L)] [] (.one (.np id q (i.toNat*e))) []:=
 zi λC st M ρ a w hH h1 ht=>by
  rw[ze]at h1;have e1:=hH.evS (zq hx h1.1);have e2:=hH.k (zq hy h1.2);simp only[RepS,RepV]at e1;obtain⟨xs,f1,f2,_⟩:=e1;obtain⟨a',cap,h3,h4,h5,U⟩:=zaa (hH.zz.res id _ ht.1) hq f1 f2;obtain⟨ii,hu,J,hsz⟩:=zp h;rcases U with⟨U,h7⟩|⟨b,o,arr,el',fz,U,_⟩
  ·subst h7;omega
  ·subst U;refine⟨.pointer (some ⟨b,o+i.toNat*e,none⟩),?_,by simp only[RepS,RepV];simp_all⟩;simp only[execOp,h3,e2,Instr.indexAt,asIntOf,Sem.run_bind,Sem.run_pure,Result.andThen_ok,run_underlying hu];rw[uw ⟨h0,hi⟩];simp only[Sem.run_bind,Sem.run_pure,Result.andThen_ok,run_sizeOf J,zT,hsz]
def zi3{id e:Nat}{vs:List PV}{s:Option Nat}{v:S}(hx:okc x (.one (.np id q kk)))(hq:L[q]?=some rs)(h:shp P t=some s)
 (hvs: ∀j p,vs[j]?=some p->rs.flatten[kk+j]?=some p) (hv:ofCells s (vs.map V.p)=some v):
 Snd P ⟨d,.load t x,ty,ps,af,g⟩ (rq x (.one (.np id q kk))) [(id,.bag e L)] [] v []:=
 zi λC st M ρ a w hH h1 ht=>by
  have e1:=hH.evS (zq hx h1);simp only[RepS,RepV]at e1;obtain⟨xs,b,o,m,cap,f1,f2,e2⟩:=e1;obtain⟨a',cap',h3,h4,h5,J⟩:=zaa (hH.zz.res id _ ht.1) hq f1 f2;simp only[Value.slice.injEq]at h3;rcases J with⟨J,_⟩|⟨b',o',arr,el,fz,J,h7,h7',h8,h9⟩
  ·simp_all
  ·rw[J]at h3;have hb:b=b'/\o=o':=by have:=h3.1;simp at this;exact this
   obtain⟨rfl,rfl⟩:=hb;obtain⟨us,g1,_,g3⟩:=h9.cells (ρ:=ρ)
   obtain⟨ds,k9,U⟩:=wh (M:=M) (ρ:=ρ) (vs:=vs.map V.p) (g:=λj=>arr[o+(kk+j)]?) λj u hj=>by
    rw[uO,uR]at hj;obtain⟨p,hp,rfl⟩:=hj;obtain⟨c,hc,hr⟩:=y9 g1 (m:=kk+j) (v:= .p p) (by grind)
    simp_all
   obtain⟨u,hu,hr⟩:=yd (w:=w) (b:=b) (o:=o+kk) h k9 (λq c hc=>by
    have:=U q c hc;simp only[<-qF]at this
    simp[World.cell?,h7,this]) hv
   exact⟨u,by simp only[execOp,e2,Sem.run_bind,Instr.loadAt,Instr.sureAddr,Sem.run_pure,Result.andThen_ok,hu],hr⟩
def zf8{id e:Nat}{rs':List (List PV)}{us:List PV}{s:S}(hx:okc x (.one (.np id q kk)))(hy:okc y s)(h:shp P t=some sh)(hc:cellsOf s=some (us.map V.p))(hl:us.length=sh.getD 1)
 (hq:L[q]?=some rs) (hrl:rs'.length=rs.length) (hre: ∀r∈rs',r.length=e) (hb:kk+us.length<=rs.length*e)
 (hn: ∀m p,rs'.flatten[m]?=some p->(kk<=m/\us[m - kk]?=some p)\/((m<kk\/kk+us.length<=m)/\rs.flatten[m]?=some p)):
 Snd P ⟨d,.store t x y,ty,ps,af,g⟩ (rq x (.one (.np id q kk))++rq y s) [(id,.bag e L)] [] .un [(id,some (.bag e (L.set q rs')))]:=by
 intro C st M ρ a w hH h1 ht _ hd k Q hk;rw[ze]at h1;have e0:=hH.evS (zq hx h1.1);have ey:=yz hc (hH.evS (zq hy h1.2));simp only[RepS,RepV]at e0;obtain⟨xs,b,o,m,cap,f1,f2,e2⟩:=e0;obtain⟨cs,g1,gn,gc,gap⟩:=hH.zz.res id _ ht.1;have f1':=f1;rw[g1]at f1;simp only[Value.tuple.injEq]at f1;have f3:xs=cs:=by have:=u7 Array.toList f1;simpa using this.symm
 subst f3;obtain⟨c0,c1,c2⟩:=gc q _ hq;rw[f2]at c1;obtain rfl:=uU c1;obtain⟨ai,capi,i1,i2,i3,i6⟩:=c2;simp only[Value.slice.injEq]at i1;rcases i6 with⟨i6,_⟩|⟨b',o',arr,el,fz,i6,i7,i7',i8,i9⟩
 ·simp_all
 rw[i6]at i1;have hbo:b=b'/\o=o':=by have:=i1.1;simp at this;exact this
 obtain⟨rfl,rfl⟩:=hbo;have hm:m=rs.length:=i1.2.1;have hcp:cap=capi:=i1.2.2;subst hm;subst hcp;obtain⟨ii,hinf,hs⟩:=zab h;have J:(a.eval y).cells.toList.length=us.length:=by rw[ey.length,uj]
 have hie:rs.length*e<=cap*e:=tz e i2;have hst:=zG (P:=P) b (o+kk) el fz (a.eval y).cells.toList 0 arr w i7 i7' (by rw[J];omega) ey.one
 have hrun:(execOp a.eval ⟨d,.store t x y,ty,ps,af,g⟩).run P w= .ok .skip (w.setRow b (setAt arr.toList (o+kk) (a.eval y).cells.toList).toArray):=by
  have U: ¬((a.eval y).cells.size≠ii.size):=by rw[hs,<-hl,<-J];simp
  simp only[execOp,e2,Instr.storeAt,Instr.sureAddr,Sem.run_bind,Sem.run_pure,Result.andThen_ok,storeVar,run_sizeOf hinf,ur U];simp only[hst,Result.andThen_ok,qe]
 unfold Oper.wp;rw[hrun,Oper.upon_skip];have hcsl:o+kk+(a.eval y).cells.toList.length<=arr.toList.length:=by rw[J];simp;omega
 have U:(setAt arr.toList (o+kk) (a.eval y).cells.toList).toArray.size=arr.size:=by simp[z8 _ _ _ hcsl]
 have hget: ∀m:Nat,(setAt arr.toList (o+kk) (a.eval y).cells.toList).toArray[o+m]?=if o+m<o+kk then arr[o+m]? else if o+m<o+kk+us.length then(a.eval y).cells.toList[o+m - (o+kk)]? else arr[o+m]?:=λm=>by
  rw[tl,yh _ _ _ _ ua,J];simp
 generalize hW:setAt arr.toList (o+kk) (a.eval y).cells.toList=narr at*;have hoB: ∀k:Nat,k≠b->(w.setRow b narr.toArray).heap[k]?=w.heap[k]?:=λk hk=>setRow_other w b k _ hk
 have hnB:(w.setRow b narr.toArray).heap[b]?=some (.cells narr.toArray el fz):=setRow_heap w b _ _ el _ i7
 -- the array anew
 have hinner:vN M (w.setRow b narr.toArray) (.slice (some ⟨b,o,none⟩) rs.length cap) e rs':=by
  refine⟨some ⟨b,o,none⟩,cap,by rw[hrl],ua,i3,.inr ⟨b,o,narr.toArray,el,fz,rfl,hnB,by rw[U];exact i7',by rw[U];exact i8,?_⟩⟩;obtain⟨u1,u2,_,u4⟩:=i9.cells (ρ:=ρ)
  obtain⟨ds,k9,k10⟩:=wh (M:=M) (ρ:=ρ) (vs:=rs'.flatten.map V.p) (g:=λj=>narr.toArray[o+j]?) λj v hj=>by
   rw[uO,uR]at hj;obtain⟨p,hp,rfl⟩:=hj;rcases hn j p hp with⟨n1,n2⟩|⟨n1,n2⟩
   ·have hlt:j - kk<us.length:=(uy.1 n2).1;obtain⟨c,v1,v2⟩:=y9 ey (m:=j - kk) (v:= .p p) (by rw[uO,n2];rfl);refine⟨c,?_,v2⟩;rw[hget,ur ua,uw ua,<-v1];congr 1;omega
   ·obtain⟨c,v1,v2⟩:=y9 u2 (m:=j) (v:= .p p) (by rw[uO,n2];rfl);refine⟨c,?_,v2⟩;rw[hget];rcases n1 with n1|n1
    ·rw[uw ua];exact u4 _ c v1
    ·rw[ur ua,ur ua];exact u4 _ c v1
  exact RowsIn.yb (ρ:=ρ) hre k9 λj c hc=>k10 j c hc
 have hblk:blk (.slice (some ⟨b,o,none⟩) rs.length cap)=some b:=rfl
 have hap2: ∀j c,j≠q->xs[j]?=some c-> ∀b2,blk c=some b2->b2≠b:=λj c hne hj b2 hb2 e=>by
  subst e;exact gap j q b2 c _ hj f2 hne hb2 hblk
 refine hk _ _ M ρ (hH.turn ht.1 (λk hk=>hoB k λe=>hk (by rw[e,g1];exact zky f2 hblk)) ue rfl rfl rfl
  ⟨xs,g1,by simp_all,λj p hj=>?_,gap⟩ (by simp only[RepS]) hd)
 rw[qX]at hj;split at hj
 ·simp_all
 ·rename_i hjq;obtain⟨c,v1,v2⟩:=gc j p hj;exact⟨c,v1,v2.world λb2 hb2=>hoB b2 (hap2 j c (λe=>hjq e.symm) v1 b2 hb2)⟩
end
variable {C:Ctx}{Q:Exit->St->Prop}{all:Array Oper}{d:Nat}{g0:Option (Nat×Bool)}{gs:zb}{k0:IntKind}{md:Mode}{rest:List Oper}{tab:Tab}
section
variable {k:List Frm} {n:Nat} {sl:zb}
def zp9(T:Ty P){y:Operand}{ty:TypeId}(hC:C.low){id e:Nat}
 (J:ev sl x=some (.one (.nv id q))) (U:ev sl y=some (Kk k0 i)) (hT:tg tab id=some (.bag e L)) (hq:L[q]?=some rs) (he:T.es t=some (el,e)) (h0:0<=i) (hi:i<rs.length) (hm:metL all sl g0=some gs) (hd:Nat.blt d n=true)
 (g:Goal P C (.ops all rest (nx md ⟨some d,gs++(rq x (.one (.nv id q))++rq y (Kk k0 i)),[(id,.bag e L)],[],.one (.np id q (i.toNat*e)),[]⟩)) k n ((d,.one (.np id q (i.toNat*e)))::sl) tab Q):
 Goal P C (.ops all (⟨some d,.indexAddr t x y,ty,ps,af,g0⟩::rest) md) k n sl tab Q:=
 gDo hC hm (zf7 (e:=e) (L:=L) (ev1 J) (ev1 U) hq (T.es_ok _ _ he) h0 hi) (okA (ev2 J) (ev2 U)) ⟨hT,uh⟩ rfl hd g
def zrG(T:Ty P){ty:TypeId}(hC:C.low){id e:Nat}(vs:List PV){s:Option Nat}{v:S}
 (hx:ev sl x=some (.one (.np id q kk))) (hT:tg tab id=some (.bag e L)) (hq:L[q]?=some rs) (J:T.sh t=some s) (U: ∀j p,vs[j]?=some p->rs.flatten[kk+j]?=some p) (hv:ofCells s (vs.map V.p)=some v) (hm:metL all sl g0=some gs) (hd:Nat.blt d n=true)
 (g:Goal P C (.ops all rest (nx md ⟨some d,gs++rq x (.one (.np id q kk)),[(id,.bag e L)],[],v,[]⟩)) k n ((d,v)::sl) tab Q):
 Goal P C (.ops all (⟨some d,.load t x,ty,ps,af,g0⟩::rest) md) k n sl tab Q:=
 gDo hC hm (zi3 (e:=e) (L:=L) (ev1 hx) hq (T.sh_ok _ _ J) U hv) (ev2 hx) ⟨hT,uh⟩ rfl hd g
def zoi(T:Ty P){y:Operand}{ty:TypeId}(hC:C.low){id e:Nat}(rs':List (List PV)){us:List PV}{s:S}
 (hx:ev sl x=some (.one (.np id q kk))) (hy:ev sl y=some s) (hT:tg tab id=some (.bag e L)) (J:T.sh t=some sh) (hc:cellsOf s=some (us.map V.p)) (hl:us.length=sh.getD 1)
 (hq:L[q]?=some rs) (U:rs'.length=rs.length) (hre: ∀r∈rs',r.length=e) (hb:kk+us.length<=rs.length*e)
 (hn: ∀m p,rs'.flatten[m]?=some p->(kk<=m/\us[m - kk]?=some p)\/((m<kk\/kk+us.length<=m)/\rs.flatten[m]?=some p)) (hm:metL all sl g0=some gs)
 (g:Goal P C (.ops all rest (nx md ⟨none,gs++(rq x (.one (.np id q kk))++rq y s),[(id,.bag e L)],[],.un,[(id,some (.bag e (L.set q rs')))]⟩)) k n sl ((id,some (.bag e (L.set q rs')))::tab) Q):
 Goal P C (.ops all (⟨none,.store t x y,ty,ps,af,g0⟩::rest) md) k n sl tab Q:=
 gDo hC hm (zf8 (ev1 hx) (ev1 hy) (T.sh_ok _ _ J) hc hl hq U hre hb hn) (okA (ev2 hx) (ev2 hy)) ⟨hT,uh⟩ rfl rfl g
end
def RwV(F:(Nat->Value)->Prop)(v v':V):Prop:= ∀M ρ x,F ρ->RepV M ρ v x->RepV M ρ v' x
def zoj(F:(Nat->Value)->Prop)(v v':List V):Prop:= ∀M ρ x,F ρ->RepVs M ρ v x->RepVs M ρ v' x
def RwS(F:(Nat->Value)->Prop)(v v':S):Prop:= ∀M ρ x,F ρ->RepS M ρ v x->RepS M ρ v' x
def RwR(F:(Nat->Value)->Prop)(r r':Res):Prop:= ∀M ρ w i,F ρ->zA M ρ w i r->zA M ρ w i r'
variable {F:(Nat->Value)->Prop}
def RwV.refl(v:V):RwV F v v:=λ_ _ _ _ h=>h
def zoj.nil:zoj F [] []:=λ_ _ _ _ h=>h
def zoj.refl(v:List V):zoj F v v:=λ_ _ _ _ h=>h
theorem zoj.cons{v v':V}{vs vs':List V}(h:RwV F v v')(J:zoj F vs vs'):zoj F (v::vs) (v'::vs'):=λM ρ x hf hr=>by
 cases x with
 |nil=>simp only[RepVs]at hr
 |cons c cs=>simp only[RepVs]at hr ⊢; exact⟨h _ _ _ hf hr.1,J _ _ _ hf hr.2⟩
def RwS.refl(v:S):RwS F v v:=λ_ _ _ _ h=>h
theorem RwS.one{v v':V}(h:RwV F v v'):RwS F (.one v) (.one v'):=λM ρ x hf hr=>by simp only[RepS]at hr ⊢; exact h _ _ _ hf hr
theorem RwS.agg{v v':List V}(h:zoj F v v'):RwS F (.agg v) (.agg v'):=λM ρ x hf hr=>by
 simp only[RepS]at hr ⊢; obtain⟨cs,J,h2⟩:=hr;exact⟨cs,J,h _ _ _ hf h2⟩
def RwR.refl(r:Res):RwR F r r:=λ_ _ _ _ _ h=>h
theorem RwR.box{vs vs':List V}(h:zoj F vs vs'):RwR F (.box vs) (.box vs'):=λ_ _ _ _ hr ⟨b,cs,el,J,U,e3⟩=>⟨b,cs,el,J,U,h _ _ _ hr e3⟩
theorem RwR.vw{ids ids':List Nat}{e:Nat}{rows rows':List (List PC)}(hl:rows'.length=rows.length)(U: ∀r∈rows',r.length=e)
 (h: ∀(j:Nat) (J:PC),rows'.flatten[j]?=some J-> ∃x,rows.flatten[j]?=some x/\RwV F (toV ids x) (toV ids' J)):RwR F (.vw ids e rows) (.vw ids' e rows'):=λM ρ w i hF hr=>by
 obtain⟨a,cap,h1,h2,h3,_,h4⟩:=hr;refine⟨a,cap,by rw[hl];exact h1,ua,h3,U,?_⟩;rcases h4 with h4|⟨b,o,cs,el,fz,h5,h6,h6',h7,h8⟩
 ·exact .inl h4
 ·refine .inr ⟨b,o,cs,el,fz,h5,h6,h6',h7,λj J hj=>?_⟩;obtain⟨x,hx,hv⟩:=h j J hj;obtain⟨c,c1,c2⟩:=h8 j x hx;exact⟨c,c1,hv _ _ _ hF c2⟩
def upW(F:(Nat->Value)->Prop)(olds news:List Nat)(tab:Tab):List (Nat×Res)->Prop
 | []=>True
 |(i,r')::l=>(∃r,tg tab i=some r/\((hasB i olds||hasB i news)=false/\RwR F r r'))/\upW F olds news tab l
theorem zqa{F:(Nat->Value)->Prop}{olds news:List Nat}{tab b:Tab}: ∀ {ups:List (Nat×Res)},upW F olds news tab ups-> ∀ {k:Nat} {r:Res},tg (znG ups++b) k=some r->
 tg b k=some r\/ ∃r0,tg tab k=some r0/\k∉olds/\k∉news/\RwR F r0 r
 | [],_,k,r,h=> .inl h
 |(t,s')::l,hu,k,r,h=>by
  simp only[znG,uK,zm]at h;split at h
  ·rename_i e;subst e;simp only[ui]at h;subst h;obtain⟨r0,h1,h2,h3⟩:=hu.1;simp only[uT]at h2;have n1:t∉olds:=λJ=>by have:=zbf J;rw[h2.1]at this;cases this
   have n2:t∉news:=λJ=>by have:=zbf J;rw[h2.2]at this;cases this
   simp_all
  ·exact zqa hu.2 h
structure zuu (M:Mem) (ρ ρ':Nat->Value) (w:World) (tab:Tab) (olds:List Nat) (news:RL):Prop where
 agr: ∀i,i∉news.ids->ρ' i=ρ i
 res: ∀i r,tg (tb news) i=some r->zA M ρ' w i r
 blk: ∀i r b,tg (tb news) i=some r->Bk (ρ' i) b-> ∃j s,j∈olds/\tg tab j=some s/\Bk (ρ j) b
 dis: ∀i j ri rj b,tg (tb news) i=some ri->tg (tb news) j=some rj->i≠j->Bk (ρ' i) b->Bk (ρ' j) b->False
variable {b:Tab}
theorem zeD{l:RL}{i:Nat}{r:Res}(h:tg (tb l++b) i=some r):tg (tb l) i=some r\/(i∉l.ids/\tg b i=some r):=by
 induction l with
 |nil=>exact .inr ⟨by simp[RL.ids],h⟩
 |cons x l U=>
  obtain⟨j,s⟩:=x;simp only[tb,uK,zm]at h⊢;split at h
  ·simp_all
  ·rename_i e;rw[ur e];rcases U h with J|⟨J,h2⟩
   ·exact .inl J
   ·exact .inr ⟨by simp only[RL.ids,uF,oW];grind,h2⟩
variable {cur:Cur}
section
variable {k:List Frm} {n:Nat} {sl:zb}
def zhL(hC:C.low)(hc:lst cur=true)(olds:List Nat)(news:RL)(F:(Nat->Value)->Prop)(hf:allB (λid=>Nat.ble 100 id&&freshB id ⟨n,sl,tab⟩) news.ids=true)
 (hmk: ∀ {M ρ w},xJ M ρ w tab-> ∃ρ',F ρ'/\zuu M ρ ρ' w tab olds news)
 (ups:zb) (hS:upS (RwS F) sl ups) (bs:List (Nat×Res)) (hB:upW F olds news.ids tab bs) (g:Goal P C cur k n (ups++sl) (znG bs++(tb news++(yF olds++tab))) Q):Goal P C cur k n sl tab Q:=by
 refine jv hc (λ{M ρ a w} h=>?_) g;obtain⟨ρ',hF,hR⟩:=hmk h.zz
 have fresh: ∀i∈news.ids,we C i ⟨n,sl,tab⟩:=λi J=>by
  have:=zy hf i J;simp only[um]at this;exact vt this.2 (hC.none (uS this.1))
 have hX:zdz (λi=>i∈news.ids) ρ ρ':=λi J=>hR.agr i J
 have hsl: ∀k s,sg sl k=some s->RepS M ρ' s (a.tmps.getD k undef):=λk s hk=>RepS.agree hX _ _ (λi J=>(fresh i J).1 k s hk) (h.slots k s hk)
 have hold: ∀i r,tg tab i=some r->zA M ρ' w i r:=λi r J=>
  (h.zz.res i r J).agree hX (λhm=>((fresh i hm).2.1 i r J).1 rfl) (λj hj=>((fresh j hj).2.1 i r J).2)
 have nn: ∀i r,tg tab i=some r->i∉news.ids:=λi r J hm=>((fresh i hm).2.1 i r J).1 rfl
 -- what an entry of the new table is
 have htab: ∀i r,tg (znG bs++(tb news++(yF olds++tab))) i=some r->(i∈news.ids/\tg (tb news) i=some r)\/(i∉olds/\i∉news.ids/\ ∃r0,tg tab i=some r0/\(r=r0\/RwR F r0 r)):=λi r J=>by
  rcases zqa hB J with U|⟨r0,U,h2,h3,h4⟩
  ·rcases zeD U with h2|⟨h2,h3⟩
   ·exact .inl ⟨zH (zF h2),h2⟩
   ·have:=zf9 h3;exact .inr ⟨this.1,h2,r,this.2,.inl rfl⟩
  ·exact .inr ⟨h2,h3,r0,U,.inr h4⟩
 have bkold: ∀i,i∉news.ids-> ∀b,Bk (ρ' i) b->Bk (ρ i) b:=λi J b hb=>by rw[hR.agr i J]at hb;exact hb
 have cross: ∀i j ri b,tg (tb news) i=some ri->j∉olds->j∉news.ids->(∃rj,tg tab j=some rj)->Bk (ρ' i) b->Bk (ρ' j) b->False:=λi j ri b J hjo hjn ⟨rj,hj⟩ hbi hbj=>by
  obtain⟨q,s,hq,hs,hbq⟩:=hR.blk i ri b J hbi;exact h.zz.dis q j s rj b hs hj (λe=>hjo (e ▸ hq)) hbq (bkold j hjn b hbj)
 refine⟨M,ρ',h.dfr,h.sz,λk s hk=>?_,⟨λi r J=>?_,λi j ri rj b J hj hne hbi hbj=>?_,λi r b J hb o=>?_⟩,λi r b J hb=>?_,h.run,λi r J=>?_⟩
 ·rcases zeE hS hk with U|⟨s0,U,h2⟩
  ·exact hsl k s U
  ·exact h2 _ _ _ hF (hsl k s0 U)
 ·rcases htab i r J with⟨_,U⟩|⟨_,_,r0,U,h2⟩
  ·exact hR.res i r U
  ·rcases h2 with rfl|h2
   ·exact hold i r U
   ·exact h2 _ _ _ _ hF (hold i r0 U)
 ·rcases htab i ri J with⟨_,U⟩|⟨i1,i2,r0,U,_⟩<;>rcases htab j rj hj with⟨_,h2⟩|⟨j1,j2,s0,h2,_⟩
  ·exact hR.dis i j ri rj b U h2 hne hbi hbj
  ·grind
  ·grind
  ·exact h.zz.dis i j r0 s0 b U h2 hne (bkold i i2 b hbi) (bkold j j2 b hbj)
 ·rcases htab i r J with⟨_,U⟩|⟨i1,i2,r0,U,_⟩
  ·obtain⟨q,s,_,hs,hbq⟩:=hR.blk i r b U hb;exact h.zz.own q s b hs hbq o
  ·exact h.zz.own i r0 b U (bkold i i2 b hb) o
 ·rcases htab i r J with⟨_,U⟩|⟨i1,i2,r0,U,_⟩
  ·obtain⟨q,s,_,hs,hbq⟩:=hR.blk i r b U hb;exact h.ownf q s b hs hbq
  ·exact h.ownf i r0 b U (bkold i i2 b hb)
 ·rw[hR.agr i λhm=>by have:=(fresh i hm).2.2;rw[J]at this;cases this];exact h.keep i r J
def TkF(id id2 id' m:Nat)(ρ:Nat->Value):Prop:= ∃cs:List Value,ρ id= .tuple cs.toArray/\cs.length=m/\(ρ id2).oneCell'=true/\ρ id'= .tuple (cs++[ρ id2]).toArray
theorem TkF.nv{id J id' m j:Nat}:RwV (TkF id J id' m) (.nv id j) (.nv id' j):=λM ρ x U hr=>by
 obtain⟨cs,h1,h2,h3,h4⟩:=U;simp only[RepV]at hr⊢
 grind
theorem TkF.ar{id J id' m:Nat}:RwV (TkF id J id' m) (.ar J) (.nv id' m):=λM ρ x U hr=>by
 obtain⟨cs,h1,h2,h3,h4⟩:=U;simp only[RepV]at hr⊢
 simp_all
def zi4{cs:List Value}{v:Value}(h:zcs cs)(hv: ∀(j b:Nat) z,cs[j]?=some z->blk z=some b->blk v≠some b):zcs (cs++[v]):=by
 have get: ∀(i:Nat) z,(cs++[v])[i]?=some z->cs[i]?=some z\/(i=cs.length/\z=v):=λi z J=>by
  rcases tu i cs.length with hlt|hge
  ·rw[tV hlt]at J;exact .inl J
  ·rw[qt hge]at J;have h0:i - cs.length=0:=by have:=(uy.1 J).1;simp at this;omega
   rw[h0]at J;simp only[List.getElem?_cons_zero,ui]at J;exact .inr ⟨ua,J.symm⟩
 intro i j b p q hp hq U hbp hbq;rcases get i p hp with hi|⟨rfl,rfl⟩<;>rcases get j q hq with hj|⟨rfl,rfl⟩
 ·exact h i j b p q hi hj U hbp hbq
 ·grind
 ·grind
 ·exact U rfl
def zkz(hC:C.low)(hc:lst cur=true)(id J id':Nat){e:Nat}(hid:tg tab id=some (.bag e L))(U:tg tab J=some (.arr e rs))(hne:Nat.beq id J=false)
 (hf:(Nat.ble 100 id'&&freshB id' ⟨n,sl,tab⟩)=true)
 (ups:zb) (hS:upS (RwS (TkF id J id' L.length)) sl ups) (bs:List (Nat×Res)) (hB:upW (TkF id J id' L.length) [id,J] [id'] tab bs)
 (g:Goal P C cur k n (ups++sl) (znG bs++((id',some (.bag e (L++[rs])))::(id,none)::(J,none)::tab)) Q):Goal P C cur k n sl tab Q:=by
 have hne':id≠J:=λe=>by subst e;rw[vq]at hne;cases hne
 refine zhL hC hc [id,J] [(id',.bag e (L++[rs]))] (TkF id J id' L.length) (by simp only[RL.ids,allB,hf,qj]) (λ{M ρ w} hT=>?_) ups hS bs hB g;simp only[um]at hf
 have nid: ∀i r,tg tab i=some r->i≠id':=λi r hi e=>by
  have:=(vt (C:=C) hf.2 (hC.none (uS hf.1))).2.1 i r hi;exact this.1 e
 obtain⟨cs,h1,h2,h3,h4⟩:=hT.res id _ hid;have hA:vN M w (ρ J) e rs:=hT.res J _ U;obtain⟨a2,cap2,g1,_⟩:=hA;have hA:vN M w (ρ J) e rs:=hT.res J _ U;have n1:=nid id _ hid;have n2:=nid J _ U;have bk2: ∀q,blk (ρ J)=some q->Bk (ρ J) q:=λq hq=>by rw[g1]at hq ⊢; exact hq
 have only: ∀i r,tg (tb [(id',Res.bag e (L++[rs]))]) i=some r->i=id'/\r= .bag e (L++[rs]):=λi r hi=>by
  simp only[tb,zm]at hi;split at hi
  ·rename_i e;exact⟨e.symm,(uU hi).symm⟩
  ·cases hi
 refine⟨upd ρ id' (.tuple (cs++[ρ J]).toArray),⟨cs,by rw[zP n1];exact h1,h2,by rw[zP n2,g1];rfl,by rw[zo,zP n2]⟩,λi hi=>zP (by simpa [RL.ids]using hi),λi r hi=>?_,λi r b hi hb=>?_,λi j ri rj b hi hj hne _ _=>?_⟩
 ·obtain⟨rfl,rfl⟩:=only i r hi;refine⟨_,zo _ _ _,by simp[h2],λj rs' hj=>?_,zi4 h4 λj b z hj hz hv=>hT.dis id J _ _ b hid U hne' (by rw[h1];exact zky hj hz) (bk2 b hv)⟩
  grind
 ·obtain⟨rfl,_⟩:=only i r hi;rw[zo]at hb;obtain⟨x,hx,hxb⟩:=hb;have hx':x∈cs\/x=ρ J:=by simpa using hx
  rcases hx' with hx'|rfl
  ·obtain⟨j,hj⟩:=tX.1 hx';exact⟨id,_,ue,hid,by rw[h1];exact zky hj hxb⟩
  grind
 grind
def zuv(hC:C.low)(hc:lst cur=true)(id' e:Nat)(hf:(Nat.ble 100 id'&&freshB id' ⟨n,sl,tab⟩)=true)(g:Goal P C cur k n sl ((id',some (.bag e []))::tab) Q):Goal P C cur k n sl tab Q:=by
 refine zhL hC hc [] [(id',.bag e [])] (λ_=>True) (by simp only[RL.ids,allB,hf,qj]) (λ{M ρ w} hT=>?_) [] uh [] uh g
 have only: ∀i r,tg (tb [(id',Res.bag e [])]) i=some r->i=id'/\r= .bag e []:=λi r J=>by
  simp only[tb,zm]at J;split at J
  ·rename_i e;exact⟨e.symm,(uU J).symm⟩
  ·cases J
 refine⟨upd ρ id' (.tuple ([]:List Value).toArray),trivial,λi J=>zP (by simpa [RL.ids]using J),λi r J=>?_,λi r b J hb=>?_,λi j ri rj b J hj hne _ _=>?_⟩
 ·obtain⟨rfl,rfl⟩:=only i r J;exact⟨[],zo _ _ _,rfl,λj rs hj=>by simp at hj,λi j b x y U=>by simp at U⟩
 ·obtain⟨rfl,_⟩:=only i r J;rw[zo]at hb;obtain⟨x,U,_⟩:=hb;simp at U
 grind
end
variable {rows rows':List (List PC)}{rt2:RL}{sy:S}{us z:List V}
section
variable {d:Option Nat} {ty:TypeId} {y:Operand}
def zi5{id e:Nat}{ids:List Nat}{k:IntKind}(hx:okc x (.one (.ar id)))(hy:okc y (Kk k i))
 (h:elemSz P t=some (el,e)) (h0:0<=i) (hi:i<rows.length):
 Snd P ⟨d,.indexAddr t x y,ty,ps,af,g⟩ (rq x (.one (.ar id))++rq y (Kk k i)) [(id,.vw ids e rows)] [] (.one (.el id (i.toNat*e))) []:=
 zi λC st M ρ a w hH h1 ht=>by
  rw[ze]at h1;have e':=hH.evS (zq hx h1.1);have e2:=hH.k (zq hy h1.2);simp only[RepS,RepV]at e';obtain⟨a',cap,h3,h4,h5,_,U⟩:=hH.zz.res id _ ht.1;obtain⟨ii,hu,J,hsz⟩:=zp h;rcases U with⟨U,h7⟩|⟨b,o,cs,el',fz,U,_⟩
  ·subst h7;omega
  ·subst U;refine⟨.pointer (some ⟨b,o+i.toNat*e,none⟩),?_,by simp only[RepS,RepV];simp_all⟩;rw[h3]at e';simp only[execOp,e'.1,e2,Instr.indexAt,asIntOf,Sem.run_bind,Sem.run_pure,Result.andThen_ok,run_underlying hu];rw[uw ⟨h0,hi⟩];simp only[Sem.run_bind,Sem.run_pure,Result.andThen_ok,run_sizeOf J,zT,hsz]
def zok{id e:Nat}{ids:List Nat}{as':Array TypeId}{n:Nat}(hx:okc x (.one (.ar id)))(ha:as'[0]?=some t)(h:elemSz P t=some (el,n)):
 Snd P ⟨d,.call ⟨.builtin .len,#[x],as'⟩,ty,ps,af,g⟩ (rq x (.one (.ar id))) [(id,.vw ids e rows)] [] (I rows.length) []:=
 zi λC st M ρ a w U h1 ht=>by
  have J:=U.evS (zq hx h1);simp only[RepS,RepV]at J;obtain⟨a',cap,h3,h4,h5,_,h6⟩:=U.zz.res id _ ht.1;obtain⟨ii,hu,hinf,hsz⟩:=zp h;rw[h3]at J;exact⟨.int .i64 rows.length,by simp[execOp,resolve,invoke,builtin,Builtin.len_,ha,J.1,run_underlying hu,goInt],zjP _ _⟩
def zkA{id e:Nat}{ids:List Nat}{vs:List V}{s:Option Nat}{v:S}(hx:okc x (.one (.el id kk)))(h:shp P t=some s)
 (hvs: ∀j v,vs[j]?=some v-> ∃p,rows.flatten[kk+j]?=some p/\toV ids p=v) (hv:ofCells s vs=some v):
 Snd P ⟨d,.load t x,ty,ps,af,g⟩ (rq x (.one (.el id kk))) [(id,.vw ids e rows)] [] v []:=
 zi λC st M ρ a w hH h1 ht=>by
  have e':=hH.evS (zq hx h1);simp only[RepS,RepV]at e';obtain⟨b,o,m,cap,e1,e2⟩:=e';obtain⟨a',cap',h2,h3,h4,_,J⟩:=hH.zz.res id _ ht.1;rw[e1]at h2;simp only[Value.slice.injEq]at h2;rcases J with⟨J,_⟩|⟨b',o',cs,el,fz,J,h6,h6',h7,h8⟩
  ·simp_all
  ·rw[J]at h2;have hb:b=b'/\o=o':=by have:=h2.1;simp at this;exact this
   obtain⟨rfl,rfl⟩:=hb
   obtain⟨ds,h9,U⟩:=wh (M:=M) (ρ:=ρ) (vs:=vs) (g:=λj=>cs[o+(kk+j)]?) λj u hj=>by
    grind
   obtain⟨u,hu,hr⟩:=yd (w:=w) (b:=b) (o:=o+kk) h h9 (λq c hc=>by
    have:=U q c hc;simp only[<-qF]at this
    simp[World.cell?,h6,this]) hv
   exact⟨u,by simp only[execOp,e2,Sem.run_bind,Instr.loadAt,Instr.sureAddr,Sem.run_pure,Result.andThen_ok,hu],hr⟩
def ztF{id e:Nat}{ids ids':List Nat}{s:S}(hx:okc x (.one (.el id kk)))(hy:okc y s)(h:shp P t=some sh)
 (hc:cellsOf s=some us) (hl:us.length=sh.getD 1) (hln:rows'.length=rows.length) (hle: ∀r∈rows',r.length=e) (hb:kk+us.length<=rows.length*e)
 (hn: ∀q p,rows'.flatten[q]?=some p->(kk<=q/\us[q - kk]?=some (toV ids' p))\/((q<kk\/kk+us.length<=q)/\ ∃p0,rows.flatten[q]?=some p0/\toV ids p0=toV ids' p)):
 Snd P ⟨d,.store t x y,ty,ps,af,g⟩ (rq x (.one (.el id kk))++rq y s) [(id,.vw ids e rows)] [] .un [(id,some (.vw ids' e rows'))]:=by
 intro C st M ρ a w hH h1 ht _ hd k Q hk;rw[ze]at h1;have e0:=hH.evS (zq hx h1.1);have e':=yz hc (hH.evS (zq hy h1.2));simp only[RepS,RepV]at e0;obtain⟨b,o,m,cap,e1,e2⟩:=e0;obtain⟨a',cap',h2,h3,h4,hl0,h5⟩:=hH.zz.res id _ ht.1;have h2':=h2;rw[e1]at h2;simp only[Value.slice.injEq]at h2;rcases h5 with⟨h5,_⟩|⟨b',o',cs,el,fz,h5,h6,h6',h7,h8⟩
 ·simp_all
 ·rw[h5]at h2;have hbo:b=b'/\o=o':=by have:=h2.1;simp at this;exact this
  obtain⟨rfl,rfl⟩:=hbo;obtain⟨ii,hinf,hs⟩:=zab h;have J:(a.eval y).cells.toList.length=us.length:=by rw[e'.length]
  have hie:rows.length*e<=cap'*e:=tz e h3;have hst:=zG (P:=P) b (o+kk) el fz (a.eval y).cells.toList 0 cs w h6 h6' (by rw[J];omega) e'.one
  have hrun:(execOp a.eval ⟨d,.store t x y,ty,ps,af,g⟩).run P w= .ok .skip (w.setRow b (setAt cs.toList (o+kk) (a.eval y).cells.toList).toArray):=by
   have U: ¬((a.eval y).cells.size≠ii.size):=by rw[hs,<-hl,<-J];simp
   simp only[execOp,e2,Instr.storeAt,Instr.sureAddr,Sem.run_bind,Sem.run_pure,Result.andThen_ok,storeVar,run_sizeOf hinf,ur U];simp only[hst,Result.andThen_ok,qe]
  unfold Oper.wp;rw[hrun,Oper.upon_skip];have hcsl:o+kk+(a.eval y).cells.toList.length<=cs.toList.length:=by rw[J];simp;omega
  have U:(setAt cs.toList (o+kk) (a.eval y).cells.toList).toArray.size=cs.size:=by simp[z8 _ _ _ hcsl]
  refine hk _ _ M ρ (hH.turn ht.1 (λk hk=>setRow_other w b k _ (λe=>hk (by simp[h2',h5,Bk,blk,e]))) ue rfl rfl rfl
   ⟨a',cap',by rw[hln];exact h2',ua,ua,hle,.inr ⟨b,o,_,el,fz,h5,setRow_heap w b _ _ el _ h6,by rw[U];exact h6',ua,λq p hq=>?_⟩⟩ (by simp only[RepS]) hd)
  have hget:(setAt cs.toList (o+kk) (a.eval y).cells.toList).toArray[o+q]?=if o+q<o+kk then cs[o+q]? else if o+q<o+kk+us.length then(a.eval y).cells.toList[o+q - (o+kk)]? else cs[o+q]?:=by
   rw[tl,yh _ _ _ _ ua,J];simp
  rcases hn q p hq with⟨g1,g2⟩|⟨g1,p0,g2,g3⟩
  ·have hlt:q - kk<us.length:=(uy.1 g2).1;obtain⟨c,c1,c2⟩:=y9 e' g2
   grind
  grind
def zol(P:Program)(e:Nat)(tx:TypeId)(s:S)(rt:RL)(rows:List (List PC))(ids:List Nat):Prop:=
 ∀(C:Ctx) (st:St) (M:Mem) (ρ:Nat->Value) (a:Act) (w:World) (v:Value),Holds C st M ρ a w->RepS M ρ s v->okT rt st->
  ∃news,Src P e tx v rows.length news w/\(∀(j:Nat) (p:PC),rows.flatten[j]?=some p-> ∃c,news[j]?=some c/\RepV M ρ (toV ids p) c)/\ ∀r∈rows,r.length=e
theorem zol.vw{e:Nat}{tx el:TypeId}{id:Nat}{rows:List (List PC)}{ids:List Nat}(h:elemSz P tx=some (el,e)):zol P e tx (.one (.ar id)) [(id,.vw ids e rows)] rows ids:=by
 intro C st M ρ a w v hH hr ht;obtain⟨_,hu,_,_⟩:=zp h;obtain⟨b,cap,h1,h2,h3,hl,h4⟩:=hH.zz.res id _ ht.1;simp only[RepS,RepV]at hr;rw[h1]at hr;rw[hr.1];rcases h4 with⟨rfl,hc⟩|⟨b',o,cs,el',fz,rfl,h6,_,_,h8⟩
 ·have:rows=[]:=uY.1 ua;subst this;exact⟨[],Src.ofNil w hu cap,ue,ue⟩
 ·obtain⟨us,J,U⟩:=wh (M:=M) (ρ:=ρ) (vs:=rows.flatten.map (toV ids)) (g:=λj=>cs[o+j]?) λj u hj=>by
   grind
  refine⟨us,Src.ofSlice w hu _ _ cap us (by rw[J.length,uj,jm hl]) (λj u hj=>by rw[zT];have:=U j u hj;simp[World.cell?,h6,this]) J.one,λj p hj=>?_,hl⟩;exact y9 J (m:=j) (by grind)
def zga{id id' e bytes:Nat}{rows2 rows3:List (List PC)}{ids ids2 ids':List Nat}{tx:TypeId}(hx:okc x (.one (.ar id)))(hy:okc y sy)(hs:zol P e tx sy rt2 rows2 ids2)(hm1:mentI id' ids'=false)(h3l:rows3.length=rows.length+rows2.length)(h3e: ∀r∈rows3,r.length=e)
 (h31: ∀(j:Nat) (x':PC),j<rows.length*e->rows3.flatten[j]?=some x'-> ∃x,rows.flatten[j]?=some x/\toV ids x=toV ids' x') (h32: ∀(j:Nat) (x':PC),rows3.flatten[rows.length*e+j]?=some x'-> ∃x,rows2.flatten[j]?=some x/\toV ids2 x=toV ids' x')
 (he:elemSz P t=some (el,e)) (hz:zeroV P el=some z) (hzl:z.length=e) (hby:(P.info? el).map (·.bytes)=some bytes) (hb:(rows.length+rows2.length)*bytes<=140737488355328) (hlen:rows.length+rows2.length<=9223372036854775807):
 Snd P ⟨d,.call ⟨.builtin .append,#[x,y],#[t,tx]⟩,ty,ps,af,g⟩ (rq x (.one (.ar id))++rq y sy) ((id,.vw ids e rows)::rt2) [id'] (.one (.ar id')) [(id',some (.vw ids' e rows3)),(id,none)]:=by
 intro C st M ρ a w hH h1 hT hF hd k Q hk;rw[ze]at h1;have e1:=hH.evS (zq hx h1.1);have e2:=hH.evS (zq hy h1.2);obtain⟨b,cap,h2,h3,h4,hl0,h5⟩:=hH.zz.res id _ hT.1;simp only[RepS,RepV]at e1;obtain⟨ii,hu,hinf,hsz⟩:=zp he;obtain⟨news,J,hnews,hlen2⟩:=hs C st M ρ a w _ hH e2 hT.2;obtain⟨i',zv,hi',hzv,hzs⟩:=y5 hz;rw[hinf]at hi';simp only[ui]at hi';subst hi';rw[hinf]at hby;simp only[uG,ui]at hby;have hnl:news.length=rows2.length*e:=J.newsLen;have hfr:=jm hl0
 -- cells of the old and the new, aZ the new name says them
 have hnew: ∀(val:Value) (f:Nat->Option Value),(∀j p,rows.flatten[j]?=some p-> ∃c,f j=some c/\RepV M ρ (toV ids p) c)->(∀j c,news[j]?=some c->f (rows.length*e+j)=some c)->
  ∀j p,rows3.flatten[j]?=some p-> ∃c,f j=some c/\RepV M (upd ρ id' val) (toV ids' p) c:=λval f hf1 hf2 j p hj=>by
  rcases tu j (rows.length*e)with hlt|hge
  ·obtain⟨x,hx,he⟩:=h31 j p hlt hj;obtain⟨c,c1,c2⟩:=hf1 j x hx;refine⟨c,c1,?_⟩;rw[he]at c2;exact RepV.agree (yD ρ id' val) _ _ (λi hi=>by subst hi;exact zbg hm1 p) c2
  ·have e3:rows.length*e+(j - rows.length*e)=j:=by omega
   obtain⟨x,hx,he⟩:=h32 (j - rows.length*e) p (by rw[e3];exact hj);obtain⟨c,c1,c2⟩:=hnews _ x hx;refine⟨c,by have:=hf2 _ c c1;rwa [e3]at this,?_⟩;rw[he]at c2;exact RepV.agree (yD ρ id' val) _ _ (λi hi=>by subst hi;exact zbg hm1 _) c2
 have hcall:execOp a.eval ⟨d,.call ⟨.builtin .append,#[x,y],#[t,tx]⟩,ty,ps,af,g⟩=(do pure (.value (<-Builtin.append_ #[t,tx] ty #[a.eval x,a.eval y]))):=by
  simp[execOp,resolve,invoke,builtin]
 have fin: ∀ {val:Value} {w':World},(Builtin.append_ #[t,tx] ty #[a.eval x,a.eval y]).run P w= .ok val w'->
  (∀b',b'<w.heap.size->(∀i r,(some id)=some i->tg st.tab i=some r-> ¬Bk (ρ i) b')->w'.heap[b']?=w.heap[b']?)->w.heap.size<=w'.heap.size->w'.os=w.os->w'.tape=w.tape->w'.output=w.output->
  (∀b',Bk val b'->w.heap.size<=b'\/ ∃i r,(some id)=some i/\tg st.tab i=some r/\Bk (ρ i) b')->zA M (upd ρ id' val) w' id' (.vw ids' e rows3)->val.oneCell'=true->
  Oper.wp P ⟨d,.call ⟨.builtin .append,#[x,y],#[t,tx]⟩,ty,ps,af,g⟩ a w k Q:=λ{val w'} U g1 g2 g3 g4 g5 g6 g7 g8=>by
  unfold Oper.wp;rw[hcall];simp only[Sem.run_bind,U,Result.andThen_ok,Sem.run_pure,Oper.upon_value];exact hk _ _ _ _ (hH.step (some id) g1 g2 g3 g4 g5 g6 hF.1 g7 (by simp only[RepS,RepV];exact⟨(zo _ _ _).symm,g8⟩) hd)
 have hex:a.eval x= .slice b rows.length cap:=e1.1.trans h2;rcases tu cap (rows.length+rows2.length)with hlt|hge
 · -- a new row
   have hold: ∃olds:List Value,(Builtin.firstCells ii.size rows.length (.slice b rows.length cap)).run P w.drew= .ok olds.toArray w.drew/\(∀(j:Nat) (p:PC),rows.flatten[j]?=some p-> ∃c,olds[j]?=some c/\RepV M ρ (toV ids p) c)/\olds.length=rows.length*e:=by
    rcases h5 with⟨rfl,hc⟩|⟨b',o,cs,el',fz,rfl,h6,_,_,h8⟩
    ·have:rows=[]:=uY.1 ua;subst this;exact⟨[],run_firstCells_none w.drew _ _ _ _,ue,ue⟩
    ·obtain⟨us,h9,h10⟩:=wh (M:=M) (ρ:=ρ) (vs:=rows.flatten.map (toV ids)) (g:=λj=>cs[o+j]?) λj u hj=>by
      rw[uO,uR]at hj;obtain⟨p,hp,rfl⟩:=hj;exact h8 j p hp
     have hul:us.length=rows.length*e:=by rw[h9.length,uj,hfr]
     refine⟨us,?_,λj p hj=>y9 h9 (m:=j) (by rw[uO,hj];rfl),hul⟩;rw[hsz]
     exact run_firstCells_some w.drew e rows.length ⟨b',o,none⟩ _ cap us hul (λj u hj=>by
      rw[zT];have:=h10 j u hj;have h6':w.drew.heap[b']?=some (.cells cs el' fz):=h6
      simp[World.cell?,h6',this])
   obtain⟨olds,ho1,ho2,ho3⟩:=hold;have U:=run_append_grow_src (P:=P) w t tx ty el ii zv hu hinf hzv b rows.length cap olds ho1 (a.eval y) rows2.length news (by rw[hsz];exact J) hlt ua (growslice_fits hlt (by rw[hby];exact hb));rw[<-hex]at U;have hcap:=grownCap_ge w (rows.length+rows2.length) cap el
   refine fin U (λb' hb' _=>z1 w.drew _ b' hb') ue rfl rfl rfl (λb' hb'=> .inl ?_) ⟨some ⟨w.heap.size,0,none⟩,grownCap w (rows.length+rows2.length) cap el,by rw[zo,h3l],ua,(by have:=grownCap_le_maxLen w (rows.length+rows2.length) cap el (by unfold maxLen;omega);unfold maxLen at this;omega),h3e,.inr
    ⟨w.heap.size,0,_,el,(0,0),rfl,zJ w.drew _,λi _=>by simp,?_,?_⟩⟩ rfl
   ·simp only[Bk,blk,ui]at hb';omega
   ·simp only[qU,qg,uQ,size_zeroCells,hzs,hzl,ho3,hnl,<-tS,tJ]
    simp_all
   ·refine hnew _ _ (λj p hj=>?_) (λj c hj=>?_)
    ·grind
    grind
 · -- room
   rcases h5 with⟨rfl,hc⟩|⟨b',o,cs,el',fz,rfl,h6,h6',h7,h8⟩
   ·have e3:rows2=[]:=uY.1 ua;have e4:rows=[]:=uY.1 ua;subst e3;subst e4;subst hc;have hn0:news=[]:=tr (by simpa using hnl);subst hn0
    have U:(Builtin.append_ #[t,tx] ty #[a.eval x,a.eval y]).run P w= .ok (.slice none 0 0) w:=by
     rw[hex];have hl:(Builtin.lenOf (a.eval y)).run P w= .ok 0 w:=J.len w;have hc:(Builtin.firstCells e 0 (a.eval y)).run P w= .ok #[] w:=J.cells;rcases J.kind with⟨e',hk'⟩|hk'<;>simp[Builtin.append_,run_underlying hu,run_underlying hk',Go.sizeOf,typeInfo,hinf,hl,hsz,hc]
    exact fin U (λ_ _ _=>rfl) (uM _) rfl rfl rfl (λb' hb'=>by simp[Bk,blk]at hb') ⟨none,0,by rw[zo,h3l];rfl,by rw[h3l];simp,ue,h3e,.inl ⟨rfl,rfl⟩⟩ rfl
   ·have hfit:o+rows.length*e+0+news.length<=cs.size:=by
     rw[hnl];have:(rows.length+rows2.length)*e<=cap*e:=tz _ hge;rw[tS]at this;omega
    have hst:=zG (P:=P) b' (o+rows.length*e) el' fz news 0 cs w h6 h6' hfit J.one
    have U:(Builtin.append_ #[t,tx] ty #[a.eval x,a.eval y]).run P w= .ok (.slice (some ⟨b',o,none⟩) (rows.length+rows2.length) cap) (w.setRow b' (setAt cs.toList (o+rows.length*e+0) news).toArray):=by
     rw[hex];have hl:=J.len w;have hc:=J.cells;rcases J.kind with⟨e',hk'⟩|hk'<;>simp[Builtin.append_,run_underlying hu,run_underlying hk',Go.sizeOf,typeInfo,hinf,hl,hsz,hc,hge,zT,hst]
    have hob:Bk (ρ id) b':=by rw[h2];rfl
    have hsl:(setAt cs.toList (o+rows.length*e+0) news).length=cs.size:=by rw[z8 _ _ _ (by simpa using hfit)];simp
    refine fin U (λb2 hb2 hne=>yW w b' _ b2 λe=>hne id _ rfl hT.1 (e ▸ hob)) (by simp[World.setRow]) rfl rfl rfl
     (λb2 hb2=> .inr ⟨id,_,rfl,hT.1,by simp only[Bk,blk,ui]at hb2;simp_all⟩)
     ⟨some ⟨b',o,none⟩,cap,by rw[zo,h3l],ua,h4,h3e,.inr ⟨b',o,_,el',fz,rfl,setRow_heap w b' cs _ el' fz h6,?_,?_,?_⟩⟩ rfl
    ·simp_all
    ·simp_all
    ·refine hnew _ _ (λj p hj=>?_) (λj c hj=>?_)
     ·obtain⟨c,c1,c2⟩:=h8 j p hj;have hjl:j<rows.flatten.length:=(uy.1 hj).1;refine⟨c,?_,c2⟩;simp only[tl];rw[yh _ _ _ _ ug,uw ua];simpa using c1
     ·have hjl:j<news.length:=(uy.1 hj).1;simp only[tl];rw[yh _ _ _ _ ug,ur ua,uw ua]
      grind
def zom{id e:Nat}{row:List PC}{ids:List Nat}{s:S}(hx:okc x s)(hc:cellsOf s=some us)(hus:row.map (toV ids)=us)(hrl:row.length=e)(hm:mentI id ids=false)
 (he:elemSz P t=some (el,e)) (hz:zeroV P el=some z) (he0:0<e) (heb:e<=16777216):
 Snd P ⟨d,.buildSlice t 1 #[(0,x)],ty,ps,af,g⟩ (rq x s) [] [id] (.one (.ar id)) [(id,some (.vw ids e [row]))]:=by
 intro C st M ρ a w hH h1 hT hF hd k Q hk;have e':=yz hc (hH.evS (zq hx h1));obtain⟨ii,hu,J,hsz⟩:=zp he;obtain⟨i',zv,hi',hzv,hzs⟩:=y5 hz;rw[J]at hi';simp only[ui]at hi';subst hi';have hul:us.length=e:=by rw[<-hus,uj,hrl]
 have hcl:(a.eval x).cells.size=e:=by have:=e'.length;simp at this;omega
 have hfill: ∀cur:Array Value,cur.size=e->Instr.fill (λi=>some (i*e,e)) cur [(0,a.eval x)]=some (a.eval x).cells:=λcur hcur=>by
  simp only[Instr.fill]
  have hcond: ¬((a.eval x).cells.size≠e||0*e+(a.eval x).cells.size>cur.size)=true:=by
   simp only[ne_eq,uJ,uq];omega
  have hfold:=vu cur (0*e) (a.eval x).cells.toList 0 cur ug
  have U:(a.eval x).cells.zipIdx.foldl (λcs (p:Value×Nat)=>cs.setIfInBounds (0*e+p.2) p.1) cur=(setAt cur.toList (0*e) (a.eval x).cells.toList).toArray:=by
   rw[<-oR];simpa using hfold
  rw[ur hcond,U]
  congr 1
  unfold setAt;have:cur.toList.drop (0*e+(a.eval x).cells.toList.length)=[]:=by apply uC;simp;omega
  rw[this];simp
 have hrun:(execOp a.eval ⟨d,.buildSlice t 1 #[(0,x)],ty,ps,af,g⟩).run P w= .ok (.value (.slice (some ⟨w.heap.size,0,none⟩) 1 1)) (w.alloc (.cells (a.eval x).cells el)):=by
  have hn: ¬16777216<e:=by omega
  have h0: ¬e=0:=by omega
  have hf:=hfill ((Array.range (1*e)).map λx=>zv.cells[x % zv.cells.size]!) ue;have hzrun:(zeroValue el).run P w= .ok zv w:=by simp[zeroValue,typeInfo,J,hzv]
  simp[execOp,Instr.buildSlice,run_underlying hu,run_sizeOf J,hsz,hn,h0,newRow,hzrun]at hf⊢;simp[hf]
 unfold Oper.wp;rw[hrun,Oper.upon_value]
 refine hk _ _ M _ (hH.alloc (val:= .slice (some ⟨w.heap.size,0,none⟩) 1 1) (λb hb=>by simp only[Bk,blk,ui]at hb;exact hb.symm) hF.1
  ⟨some ⟨w.heap.size,0,none⟩,1,zo _ _ _,ue,ue,by simp[hrl],.inr ⟨w.heap.size,0,(a.eval x).cells,el,(0,0),rfl,zJ w _,λi hi=>by simp,ua,λj p hj=>?_⟩⟩ (by simp only[RepS,RepV];exact⟨(zo _ _ _).symm,rfl⟩) hd)
 simp only[tR,oD,uV]at hj;obtain⟨c,c1,c2⟩:=y9 e' (m:=j) (v:=toV ids p) (by grind);refine⟨c,by simp_all,RepV.agree (yD ρ id _) _ _ (λi hi=>by subst hi;exact zbg hm p) c2⟩
end
variable {m:Nat}
section
variable {k:List Frm} {n:Nat} {sl:zb}
def zkC(T:Ty P){y:Operand}{ty:TypeId}(hC:C.low){id e:Nat}{ids:List Nat}
 (J:ev sl x=some (.one (.ar id))) (U:ev sl y=some (Kk k0 i)) (hT:tg tab id=some (.vw ids e rows)) (he:T.es t=some (el,e)) (h0:0<=i) (hi:i<rows.length) (hm:metL all sl g0=some gs) (hd:Nat.blt d n=true)
 (g:Goal P C (.ops all rest (nx md ⟨some d,gs++(rq x (.one (.ar id))++rq y (Kk k0 i)),[(id,.vw ids e rows)],[],.one (.el id (i.toNat*e)),[]⟩)) k n ((d,.one (.el id (i.toNat*e)))::sl) tab Q):
 Goal P C (.ops all (⟨some d,.indexAddr t x y,ty,ps,af,g0⟩::rest) md) k n sl tab Q:=
 gDo hC hm (zi5 (ids:=ids) (ev1 J) (ev1 U) (T.es_ok _ _ he) h0 hi) (okA (ev2 J) (ev2 U)) ⟨hT,uh⟩ rfl hd g
def zkD(T:Ty P){ty:TypeId}(hC:C.low){id e:Nat}{ids:List Nat}
 (J:ev sl x=some (.one (.ar id))) (hT:tg tab id=some (.vw ids e rows)) (U:T.es t=some (el,m)) (hm:metL all sl g0=some gs) (hd:Nat.blt d n=true)
 (g:Goal P C (.ops all rest (nx md ⟨some d,gs++rq x (.one (.ar id)),[(id,.vw ids e rows)],[],I rows.length,[]⟩)) k n ((d,I rows.length)::sl) tab Q):
 Goal P C (.ops all (⟨some d,.call ⟨.builtin .len,#[x],#[t]⟩,ty,ps,af,g0⟩::rest) md) k n sl tab Q:=
 gDo hC hm (zok (e:=e) (rows:=rows) (ids:=ids) (as':= #[t]) (ev1 J) rfl (T.es_ok _ _ U)) (ev2 J) ⟨hT,uh⟩ rfl hd g
def zgb(T:Ty P){ty:TypeId}(hC:C.low){id e:Nat}{ids:List Nat}(vs:List V){s:Option Nat}{v:S}
 (hx:ev sl x=some (.one (.el id kk))) (hT:tg tab id=some (.vw ids e rows)) (J:T.sh t=some s) (U: ∀j v,vs[j]?=some v-> ∃p,rows.flatten[kk+j]?=some p/\toV ids p=v) (hv:ofCells s vs=some v) (hm:metL all sl g0=some gs) (hd:Nat.blt d n=true)
 (g:Goal P C (.ops all rest (nx md ⟨some d,gs++rq x (.one (.el id kk)),[(id,.vw ids e rows)],[],v,[]⟩)) k n ((d,v)::sl) tab Q):
 Goal P C (.ops all (⟨some d,.load t x,ty,ps,af,g0⟩::rest) md) k n sl tab Q:=
 gDo hC hm (zkA (e:=e) (ev1 hx) (T.sh_ok _ _ J) U hv) (ev2 hx) ⟨hT,uh⟩ rfl hd g
def zbM(T:Ty P)(id':Nat){y:Operand}{tx ty:TypeId}(hC:C.low){id e bytes:Nat}{rows2:List (List PC)}{ids ids2:List Nat}(ids':List Nat)(rows3:List (List PC))
 (hx:ev sl x=some (.one (.ar id))) (hy:ev sl y=some sy) (hT:tg tab id=some (.vw ids e rows)) (hT2:rdT tab rt2=rt2) (hs:zol P e tx sy rt2 rows2 ids2) (hm1:mentI id' ids'=false) (h3l:rows3.length=rows.length+rows2.length) (h3e: ∀r∈rows3,r.length=e)
 (h31: ∀(j:Nat) (J:PC),j<rows.length*e->rows3.flatten[j]?=some J-> ∃x,rows.flatten[j]?=some x/\toV ids x=toV ids' J) (h32: ∀(j:Nat) (J:PC),rows3.flatten[rows.length*e+j]?=some J-> ∃x,rows2.flatten[j]?=some x/\toV ids2 x=toV ids' J)
 (he:T.es t=some (el,e)) (hz:T.zs el=some z) (hzl:Nat.beq z.length e=true) (hby:(P.info? el).map (·.bytes)=some bytes)
 (hb:(rows.length+rows2.length)*bytes<=140737488355328) (U:rows.length+rows2.length<=9223372036854775807) (hm:metL all sl g0=some gs) (hd:Nat.blt d n=true) (hf:(Nat.ble 100 id'&&freshB id' ⟨n,sl,tab⟩)=true)
 (g:Goal P C (.ops all rest (nx md ⟨some d,gs++(rq x (.one (.ar id))++rq y sy),(id,.vw ids e rows)::rt2,[id'],.one (.ar id'),[(id',some (.vw ids' e rows3)),(id,none)]⟩)) k n ((d,.one (.ar id'))::sl) ([(id',some (.vw ids' e rows3)),(id,none)]++tab) Q):
 Goal P C (.ops all (⟨some d,.call ⟨.builtin .append,#[x,y],#[t,tx]⟩,ty,ps,af,g0⟩::rest) md) k n sl tab Q:=
 gDo hC hm (zga (id':=id') (ev1 hx) (ev1 hy) hs hm1 h3l h3e h31 h32 (T.es_ok _ _ he) (T.zs_ok _ _ hz) (uA hzl) hby hb U) (okA (ev2 hx) (ev2 hy)) ⟨hT,wM hT2⟩ (vU hf) hd g
def zkE(T:Ty P){ty:TypeId}(hC:C.low){e:Nat}(row:List PC)(ids:List Nat){s:S}
 (hx:ev sl x=some s) (hc:cellsOf s=some us) (J:row.map (toV ids)=us) (U:row.length=e) (hmx:mentI (1000+d) ids=false) (he:T.es t=some (el,e)) (hz:T.zs el=some z) (he0:Nat.blt 0 e=true) (heb:Nat.ble e 16777216=true)
 (hm:metL all sl g0=some gs) (hd:Nat.blt d n=true) (hf:(Nat.ble 100 (1000+d)&&freshB (1000+d) ⟨n,sl,tab⟩)=true)
 (g:Goal P C (.ops all rest (nx md ⟨some d,gs++rq x s,[],[1000+d],.one (.ar (1000+d)),[(1000+d,some (.vw ids e [row]))]⟩)) k n ((d,.one (.ar (1000+d)))::sl) ((1000+d,some (.vw ids e [row]))::tab) Q):
 Goal P C (.ops all (⟨some d,.buildSlice t 1 #[(0,x)],ty,ps,af,g0⟩::rest) md) k n sl tab Q:=
 gDo hC hm (zom (id:=1000+d) (ev1 hx) hc J U hmx (T.es_ok _ _ he) (T.zs_ok _ _ hz) (by simpa [tH]using he0) (uS heb)) (ev2 hx) trivial (vU hf) hd g
def zA.zuw{id e:Nat}(ids:List Nat){rows:List (List PV)}(h:zA M ρ w id (.arr e rows)):zA M ρ w id (.vw ids e (rows.map (·.map PC.p))):=by
 obtain⟨a,cap,h1,h2,h3,hl,h4⟩:=h.toV;have J:(rows.map (·.map PC.p)).flatten=rows.flatten.map PC.p:=by rw[List.map_flatten]
 refine⟨a,cap,by simp_all,by simp_all,h3,λr hr=>?_,?_⟩
 ·grind
 ·rcases h4 with h4|⟨b,o,cs,el,fz,h5,h6,U,h7,h8⟩
  ·exact .inl h4
  ·refine .inr ⟨b,o,cs,el,fz,h5,h6,U,h7,λj p hj=>?_⟩;rw[J,uO,uR]at hj;obtain⟨p,hp,rfl⟩:=hj;exact h8 j p hp
def zux(U:lst cur=true)(id:Nat)(ids:List Nat){e:Nat}{rows:List (List PV)}(J:tg tab id=some (.arr e rows))(hr:rows.map (·.map PC.p)=rows')(g:Goal P C cur k n sl ((id,some (.vw ids e rows'))::tab) Q):Goal P C cur k n sl tab Q:=by
 subst hr;exact zw5 U J (λ_ _ _ h=>h.zuw ids) g
def zkF{e:Nat}{ids ids2 ids':List Nat}{rows2 rows2':List (List PC)}(U: ∀r∈rows,r.length=e)(hl2: ∀r∈rows2',r.length=e)(hn:rows2'.length=rows2.length)(hi: ∀x∈rows.flatten,toV ids x=toV ids' x)
 (h2: ∀(j:Nat) (J:PC),rows2'.flatten[j]?=some J-> ∃x,rows2.flatten[j]?=some x/\toV ids2 x=toV ids' J):
 (rows++rows2').length=rows.length+rows2.length/\(∀r∈rows++rows2',r.length=e)/\(∀(j:Nat) (J:PC),j<rows.length*e->(rows++rows2').flatten[j]?=some J-> ∃x,rows.flatten[j]?=some x/\toV ids x=toV ids' J)/\
   ∀(j:Nat) (J:PC),(rows++rows2').flatten[rows.length*e+j]?=some J-> ∃x,rows2.flatten[j]?=some x/\toV ids2 x=toV ids' J:=by
 have hf:=jm U
 grind
end
variable {B:RL}{f:FuncId}{res:S}{ts:Array TypeId}{v':V}
section
open Classical in
noncomputable def lentN(M:Mem)(ρ:Nat->Value)(w:World)(B:RL):Mem:=λb o=>match M b o with
 |some v=>some v
 |none=>if ∃i r,(i,r)∈B/\Bk (ρ i) b then w.cell? ⟨b,o,none⟩else none
def zbN(M:Mem)(ρ:Nat->Value)(w:World)(B:RL):Prop:=Imm M w/\ ∀i r,(i,r)∈B->zA M ρ w i r
def wQ:MLe M (lentN M ρ w B):=λb o v hv=>by simp only[lentN,hv]
def zeF(h:Imm M w):Imm (lentN M ρ w B) w:=λb o v hv=>by
 simp only[lentN]at hv;split at hv
 ·rename_i u J;simp only[ui]at hv;subst hv;exact h b o u J
 simp_all
def zeG{b o:Nat}{v:Value}(h:lentN M ρ w B b o=some v):M b o=some v\/ ∃i r,(i,r)∈B/\Bk (ρ i) b:=by
 simp only[lentN]at h
 grind
theorem zaA(J:Imm M w){b:Nat}(hb: ∃i r,(i,r)∈B/\Bk (ρ i) b){cs:Array Value}{fz:Nat×Nat}(U:w.heap[b]?=some (.cells cs el fz))(i:Nat)(c:Value)(hc:cs[i]?=some c):lentN M ρ w B b i=some c:=by
 have hc':w.cell? ⟨b,i,none⟩=some c:=by simp[World.cell?,U,hc]
 simp only[lentN];cases hm0:M b i with
 |none=>simp_all
 |some u=>have:=J b i u hm0;simp_all
def zhM(hI:Imm M w){v:Value}{e:Nat}(h:vN M w v e rs)(hb: ∀b,blk v=some b-> ∃i r,(i,r)∈B/\Bk (ρ i) b):RepPV (lentN M ρ w B) (.sl e rs) v:=by
 obtain⟨a0,cap,J,h2,h3,h4⟩:=h;simp only[RepPV];refine⟨a0,cap,J,h2,tG h2 h3,?_⟩;rcases h4 with⟨rfl,U⟩|⟨b,o,cs,el,fz,h5,h6,h6',h7,h8⟩
 ·simp_all
 ·exact .inr ⟨b,o,h5,RowsIn.mono wQ (λi c U=>zaA hI (hb b (by rw[J,h5];rfl)) h6 i c U) _ _ h8⟩
def LnV(B:RL)(v v':V):Prop:= ∀M ρ w u,zbN M ρ w B->RepV M ρ v u->RepV (lentN M ρ w B) ρ v' u
def zjS(B:RL)(v v':List V):Prop:= ∀M ρ w u,zbN M ρ w B->RepVs M ρ v u->RepVs (lentN M ρ w B) ρ v' u
def LnS(B:RL)(v v':S):Prop:= ∀M ρ w u,zbN M ρ w B->RepS M ρ v u->RepS (lentN M ρ w B) ρ v' u
def zdA(B:RL)(v v':List S):Prop:= ∀M ρ w u,zbN M ρ w B->RepSs M ρ v u->RepSs (lentN M ρ w B) ρ v' u
def LnV.le{v:V}(h:LeV v v'):LnV B v v':=λ_ _ _ _ _ hr=>h _ _ _ (RepV.mono wQ _ _ hr)
theorem LnV.refl(v:V):LnV B v v:= .le (.refl v)
def LnS.le{v v':S}(h:LeS v v'):LnS B v v':=λ_ _ _ _ _ hr=>h _ _ _ (RepS.mono wQ _ _ hr)
theorem LnS.refl(v:S):LnS B v v:= .le (.refl v)
def zjS.nil:zjS B [] []:=λ_ _ _ x _ hr=>by cases x<;>simp only[RepVs]at hr⊢
theorem zjS.cons{v v':V}{vs vs':List V}(h:LnV B v v')(J:zjS B vs vs'):zjS B (v::vs) (v'::vs'):=λM ρ w x hf hr=>by
 cases x with
 |nil=>simp only[RepVs]at hr
 |cons c cs=>simp only[RepVs]at hr ⊢; exact⟨h _ _ _ _ hf hr.1,J _ _ _ _ hf hr.2⟩
theorem zjS.refl: ∀v:List V,zjS B v v
 | []=> .nil
 |v::vs=> .cons (.refl v) (zjS.refl vs)
theorem LnS.one{v v':V}(h:LnV B v v'):LnS B (.one v) (.one v'):=λM ρ w x hf hr=>by simp only[RepS]at hr ⊢; exact h _ _ _ _ hf hr
theorem LnS.agg{v v':List V}(h:zjS B v v'):LnS B (.agg v) (.agg v'):=λM ρ w x hf hr=>by
 simp only[RepS]at hr ⊢; obtain⟨cs,J,h2⟩:=hr;exact⟨cs,J,h _ _ _ _ hf h2⟩
def zdA.nil:zdA B [] []:=λ_ _ _ x _ hr=>by cases x<;>simp only[RepSs]at hr⊢
theorem zdA.cons{v v':S}{vs vs':List S}(h:LnS B v v')(J:zdA B vs vs'):zdA B (v::vs) (v'::vs'):=λM ρ w x hf hr=>by
 cases x with
 |nil=>simp only[RepSs]at hr
 |cons c cs=>simp only[RepSs]at hr ⊢; exact⟨h _ _ _ _ hf hr.1,J _ _ _ _ hf hr.2⟩
theorem zdA.refl: ∀v:List S,zdA B v v
 | []=> .nil
 |v::vs=> .cons (.refl v) (zdA.refl vs)
theorem LnV.ar{id e:Nat}{rows:List (List PV)}(J:(id,.arr e rows)∈B):LnV B (.ar id) (.p (.sl e rows)):=λM ρ w u U hr=>by
 simp only[RepV]at hr⊢;have hA:vN M w (ρ id) e rows:=U.2 id _ J;rw[hr.1];obtain⟨a,cap,h1,_⟩:=hA;have hA:vN M w (ρ id) e rows:=U.2 id _ J;exact zhM U.1 hA λb hb=>⟨id,_,J,by rw[h1]at hb ⊢; exact hb⟩
theorem LnV.nv{id e q:Nat}{L:List (List (List PV))}{rs:List (List PV)}(J:(id,.bag e L)∈B)(hq:L[q]?=some rs):LnV B (.nv id q) (.p (.sl e rs)):=λM ρ w u U hr=>by
 simp only[RepV]at hr⊢;obtain⟨xs,f1,f2,_⟩:=hr;exact zhM U.1 (zaa (U.2 id _ J) hq f1 f2) λb hb=>⟨id,_,J,by rw[f1];exact zky f2 hb⟩
theorem LnV.vw{id e:Nat}{ids:List Nat}{rows:List (List PC)}{rows':List (List PV)}(hm:(id,.vw ids e rows)∈B)(hl:rows'.length=rows.length)(hle: ∀r∈rows',r.length=e)
 (hc: ∀(j:Nat) (J:PV),rows'.flatten[j]?=some J-> ∃x,rows.flatten[j]?=some x/\LnV B (toV ids x) (.p J)):LnV B (.ar id) (.p (.sl e rows')):=λM ρ w u hH hr=>by
 simp only[RepV,RepPV]at hr⊢;obtain⟨a,cap,h1,h2,h3,_,h4⟩:=hH.2 id _ hm;refine⟨a,cap,by simp_all,ua,ua,?_⟩;rcases h4 with⟨rfl,hcap⟩|⟨b,o,cs,el,fz,h5,h6,h6',h7,h8⟩
 ·simp_all
 ·refine .inr ⟨b,o,h5,?_⟩;have hb: ∃i r,(i,r)∈B/\Bk (ρ i) b:=⟨id,_,hm,by rw[h1,h5];rfl⟩
  obtain⟨ds,k9,k10⟩:=wh (M:=lentN M ρ w B) (ρ:=ρ) (vs:=rows'.flatten.map V.p) (g:=λj=>cs[o+j]?) λj v U=>by
   rw[uO,uR]at U;obtain⟨J,hx',rfl⟩:=U;obtain⟨x,hx,hv⟩:=hc j J hx';obtain⟨c,c1,c2⟩:=h8 j x hx;exact⟨c,c1,hv _ _ _ _ hH c2⟩
  exact RowsIn.mono (MLe.refl _) (λi c hcc=>zaA hH.1 hb h6 i c hcc) _ _ (RowsIn.yb (ρ:=ρ) hle k9 λj c U=>k10 j c U)
def zhN{α β:Type}{e:Nat}{rows:List (List α)}{rows':List (List β)}{R:α->β->Prop}(hl: ∀r∈rows,r.length=e)(U: ∀r∈rows',r.length=e)
 (h: ∀(i:Nat) (row':List β),rows'[i]?=some row'-> ∃row,rows[i]?=some row/\ ∀(c:Nat) (J:β),row'[c]?=some J-> ∃x,row[c]?=some x/\R x J):
 ∀(j:Nat) (J:β),rows'.flatten[j]?=some J-> ∃x,rows.flatten[j]?=some x/\R x J:=λj J hj=>by
 obtain⟨i,c,row',h1,h2,h3,h4⟩:=zdB U hj;obtain⟨row,g1,g2⟩:=h i row' h3;obtain⟨x,g3,g4⟩:=g2 c J h4;exact⟨x,by rw[h1,vY hl h2,g1];exact g3,g4⟩
section
variable {d:Option Nat} {ty:TypeId}
def zrH{args:List S}(h:zh P f args [] res [])(B:RL){l:List Operand}{first caps:List V}{ss:List S}
 (hx:okc x (.one (.cl f first caps))) (hl:zcm l ss) (hle:zdA B (ones first++ss++ones caps) args) (hf:flatS res=true):
 Snd P ⟨d,.call ⟨.value x,l.toArray,ts⟩,ty,ps,af,g⟩ (rq x (.one (.cl f first caps))++rqs l ss) B [] res []:=by
 intro C st M ρ a w J h1 hT hF hd k Q hk;rw[ze]at h1;have e1:=J.evS (zq hx h1.1);have e2:=J.zhi (wL hl h1.2);simp only[RepS,RepV]at e1;obtain⟨xs,ys,e3,e4,e5⟩:=e1;have U:zbN M ρ w B:=⟨J.run.imm,λi r hm=>J.zz.res i r (xc hT hm)⟩;have e6:RepSs (lentN M ρ w B) ρ args (xs++l.map a.eval++ys):=hle _ _ _ _ U (ym (ym (yr e4) e2) (yr e5));have e7:xJ (lentN M ρ w B) ρ w (tb []):=⟨λ_ _ h=>(by cases h),λ_ _ _ _ _ h=>(by cases h),λ_ _ _ h=>(by cases h)⟩;unfold Oper.wp;rw[za9 h.1 e3,Oper.upon_enter];refine Calls.mono (h.2 (lentN M ρ w B) ρ w _ e6 e7 (zeF J.run.imm) (J.gok.mono wQ)) λe w' ⟨v,M',ρ',he,hr⟩=>?_;subst he;have hH':=J.grow (w':=w') (λb hb=>hr.fram b hb (λ⟨i,r,h,_⟩=>by cases h)) hr.size hr.os hr.tape hr.output;exact hk _ _ _ _ (hH'.jO hd (zeH hf hr.rep))
end
section
variable {k:List Frm} {n:Nat} {sl:zb}
def zgc{l:List Operand}{ty:TypeId}(hC:C.low){args ss:List S}{first caps:List V}
 (h:zh P f args [] res []) (B:RL) (J:ev sl x=some (.one (.cl f first caps))) (U:evs sl l=some ss) (ha:zdA B (ones first++ss++ones caps) args) (hc:flatS res=true) (hm:metL all sl g0=some gs) (hB:rdT tab B=B) (hd:Nat.blt d n=true)
 (g:Goal P C (.ops all rest (nx md ⟨some d,gs++(rq x (.one (.cl f first caps))++rqs l ss),B,[],res,[]⟩)) k n ((d,res)::sl) tab Q):
 Goal P C (.ops all (⟨some d,.call ⟨.value x,l.toArray,ts⟩,ty,ps,af,g0⟩::rest) md) k n sl tab Q:=
 gDo hC hm (zrH h B (ev1 J) (es1 U) ha hc) (okA (ev2 J) (es2 U)) (wM hB) rfl hd g
def LnR(B:RL)(r r':Res):Prop:= ∀M ρ w i,zbN M ρ w B->zA M ρ w i r->zA (lentN M ρ w B) ρ w i r'
theorem LnR.box{B:RL}{vs vs':List V}(h:zjS B vs vs'):LnR B (.box vs) (.box vs'):=λ_ _ _ _ hr ⟨b,cs,el,J,U,e3⟩=>⟨b,cs,el,J,U,h _ _ _ _ hr e3⟩
def upN(B:RL)(tab:Tab):List (Nat×Res)->Prop
 | []=>True
 |(i,r')::l=>(∃r,tg tab i=some r/\(hasB i B.ids=false/\LnR B r r'))/\upN B tab l
theorem zqb{B:RL}{tab b:Tab}: ∀ {ups:List (Nat×Res)},upN B tab ups-> ∀ {k:Nat} {r:Res},tg (znG ups++b) k=some r->
 tg b k=some r\/ ∃r0,tg tab k=some r0/\k∉B.ids/\LnR B r0 r
 | [],_,k,r,h=> .inl h
 |(t,s')::l,hu,k,r,h=>by
  simp only[znG,uK,zm]at h;split at h
  ·rename_i e;subst e;simp only[ui]at h;subst h;obtain⟨r0,h1,h2,h3⟩:=hu.1;have n1:t∉B.ids:=λJ=>by have:=zbf J;rw[h2]at this;cases this
   simp_all
  ·exact zqb hu.2 h
def zeI(hc:lst cur=true)(B:RL)(hBT:rdT tab B=B)(ups:zb)(hS:upS (LnS B) sl ups)(bs:List (Nat×Res))(hB:upN B tab bs)
 (g:Goal P C cur k n (ups++sl) (znG bs++(yF B.ids++tab)) Q):Goal P C cur k n sl tab Q:=by
 refine jv hc (λ{M ρ a w} h=>?_) g;have hTB:=wM (n:=n) (sl:=sl) hBT;have hall:zbN M ρ w B:=⟨h.run.imm,λi r hm=>h.zz.res i r (xc hTB hm)⟩
 have J: ∀i r,tg (znG bs++(yF B.ids++tab)) i=some r->i∉B.ids/\ ∃r0,tg tab i=some r0/\(r=r0\/LnR B r0 r):=λi r hi=>by
  rcases zqb hB hi with U|⟨r0,U,h2,h3⟩
  ·have:=zf9 U;exact⟨this.1,r,this.2,.inl rfl⟩
  ·exact⟨h2,r0,U,.inr h3⟩
 refine⟨lentN M ρ w B,ρ,h.dfr,h.sz,λk s hk=>?_,⟨λi r hi=>?_,λi j ri rj b hi hj hne hbi hbj=>?_,λi r b hi hb o=>?_⟩,λi r b hi hb=>?_,
  ⟨zeF h.run.imm,h.run.fram,h.run.size,h.run.base.trans wQ,λb o u hu=>?_,h.run.os,h.run.tape,h.run.output⟩,h.keep⟩
 ·rcases zeE hS hk with U|⟨s0,U,h2⟩
  ·exact RepS.mono wQ _ _ (h.slots k s U)
  ·exact h2 _ _ _ _ hall (h.slots k s0 U)
 ·obtain⟨_,r0,U,h2⟩:=J i r hi;rcases h2 with rfl|h2
  ·exact(h.zz.res i r U).mono wQ
  ·exact h2 _ _ _ _ hall (h.zz.res i r0 U)
 ·obtain⟨_,r0,U,_⟩:=J i ri hi;obtain⟨_,s0,h2,_⟩:=J j rj hj;exact h.zz.dis i j r0 s0 b U h2 hne hbi hbj
 ·obtain⟨i1,r0,U,_⟩:=J i r hi;cases hm:lentN M ρ w B b o with
  |none=>rfl
  |some u=>
   rcases zeG hm with h3|⟨j,s,hj,hbj⟩
   ·rw[h.zz.own i r0 b U hb o]at h3;cases h3
   ·exact(h.zz.dis i j r0 s b U (xc hTB hj) (λe=>i1 (e ▸ zH hj)) hb hbj).elim
 ·obtain⟨_,r0,U,_⟩:=J i r hi;exact h.ownf i r0 b U hb
 ·rcases zeG hu with h3|⟨j,s,hj,hbj⟩
  ·exact h.run.newM b o u h3
  ·exact .inr (h.ownf j s b (xc hTB hj) hbj)
end
end
end Hw
namespace Hw.Gm
open Go Go.Proofs Hw.M
def wRows:List Nd->Nat->List (List PC)
 | [],_=>[]
 |x::r,j=>[.p (ki x.t),.n 0 j]::wRows r (j+1)
theorem yi: ∀(l:List Nd) (j:Nat),(wRows l j).length=l.length
 | [],_=>rfl
 |_::r,j=>by simp only[wRows,uX,yi r]
theorem xD: ∀(l:List Nd) (j i:Nat),(wRows l j)[i]?=(l[i]?).map λx=>[PC.p (ki x.t),PC.n 0 (j+i)]
 | [],_,_=>by simp[wRows]
 |x::r,j,0=>by simp[wRows]
 |x::r,j,i+1=>by
  simp only[wRows,u6,xD r];rw[show j+1+i=j+(i+1) by omega]
def wE(l:List Nd)(j:Nat): ∀r∈wRows l j,r.length=2:=λr hr=>by
 obtain⟨i,J⟩:=tX.1 hr;rw[xD,uR]at J;obtain⟨x,_,rfl⟩:=J;rfl
theorem zgd{l l':List Nd}(hl:l.length=l'.length)(h: ∀(i:Nat) x y,l[i]?=some x->l'[i]?=some y->x.t=y.t)(j:Nat):wRows l j=wRows l' j:=by
 refine List.ext_getElem? λi=>?_;rw[xD,xD];cases e:l[i]? with
 |none=>
  have:l'[i]?=none:=by rw[List.getElem?_eq_none_iff]at e ⊢; omega
  rw[this]
 |some x=>
  have hlt:=(uy.1 e).1;obtain⟨y,J⟩:=za (l:=l') (i:=i) ua;rw[J,uG,uG,h i x y e J]
variable {x:Nd}
def zkG(l:List Nd){k:Nat}(hx:l[k]?=some x)(f:List Int):wRows (l.set k ⟨x.t,f⟩) 0=wRows l 0:=by
 refine zgd (by rw[qR]) (λi y z J U=>?_) 0;by_cases e:k=i
 ·subst e;rw[hx]at U;rw[List.getElem?_set_self (uy.1 hx).1]at J;rw[<-uU J,<-uU U]
 ·rw[Uu e,U]at J;rw[uU J]
def jP(l:List Nd):List (List (List PV)):=l.map λx=>x.f.map zN
def zbO{l:List Nd}{k:Nat}(h:l[k]?=some x):(jP l)[k]?=some (x.f.map zN):=by unfold jP;rw[uO,h];rfl
def zon(l:List Nd)(k:Nat)(x:Nd)(f:List Int):(jP l).set k (f.map zN)=jP (l.set k ⟨x.t,f⟩):=by unfold jP;rw[Ul]
def zdC(l:List Int): ∀r∈l.map zN,r.length=1:=λr hr=>by obtain⟨y,_,rfl⟩:=tO.1 hr;rfl
def zkH(l:List Int)(k:Nat)(v:Int): ∀m p,((l.set k v).map zN).flatten[m]?=some p->(k*1<=m/\([ki v]:List PV)[m - k*1]?=some p)\/((m<k*1\/k*1+1<=m)/\(l.map zN).flatten[m]?=some p):=λm p h=>by
 rw[Ul]at h;rcases zoo (zdC l) rfl h with⟨c,J,h2,h3⟩|⟨J,h2⟩
 ·have U:c=0:=by omega
  subst U;refine .inl ⟨ua,?_⟩;rw[show m - k*1=0 by omega];exact h3
 ·exact .inr ⟨J,h2⟩
def zuy(l:List Nd)(a b:Nat): ∀x∈(wRows l 0).flatten,toV [a] x=toV [a,b] x:=λx hx=>by
 obtain⟨r,hr,J⟩:=List.mem_flatten.1 hx;obtain⟨j,U⟩:=tX.1 hr;rw[xD,uR]at U;obtain⟨y,_,rfl⟩:=U;simp only[uF,List.not_mem_nil,oT]at J;rcases J with rfl|rfl<;>rfl
def zge(l:List Nd)(t:Int)(a b:Nat):(wRows l 0++[[PC.p (ki t),PC.a 1]]).length=(wRows l 0).length+([[PC.p (ki t),PC.a 0]]:List (List PC)).length/\(∀r∈wRows l 0++[[PC.p (ki t),PC.a 1]],r.length=2)/\
 (∀(j:Nat) (U:PC),j<(wRows l 0).length*2->(wRows l 0++[[PC.p (ki t),PC.a 1]]).flatten[j]?=some U-> ∃x,(wRows l 0).flatten[j]?=some x/\toV [a] x=toV [a,b] U)/\
   ∀(j:Nat) (U:PC),(wRows l 0++[[PC.p (ki t),PC.a 1]]).flatten[(wRows l 0).length*2+j]?=some U-> ∃x,([[PC.p (ki t),PC.a 0]]:List (List PC)).flatten[j]?=some x/\toV [b] x=toV [a,b] U:=
 zkF (wE l 0) (λr hr=>by simp only[tv]at hr;subst hr;rfl) rfl (zuy l a b) λj U J=>by
  match j,J with
  |0,J=>simp only[tR,oD,uV,List.getElem?_cons_zero,ui]at J;subst J;exact⟨_,rfl,rfl⟩
  |1,J=>simp only[tR,oD,uV,u6,List.getElem?_cons_zero,ui]at J;subst J;exact⟨_,rfl,rfl⟩
  |j+2,J=>simp at J
def zgf(l:List Nd)(x:Nd)(a b c:Nat):RwR (TkF a b c l.length) (.vw [a,b] 2 (wRows l 0++[[PC.p (ki x.t),PC.a 1]])) (.vw [c] 2 (wRows (l++[x]) 0)):=by
 have h2: ∀r∈wRows l 0++[[PC.p (ki x.t),PC.a 1]],r.length=2:=λr hr=>(tp.1 hr).elim (wE l 0 r) λh=>by simp only[tv]at h;subst h;rfl
 refine RwR.vw (by rw[yi,uQ,uQ,yi];rfl) (wE _ _) (zhN h2 (wE _ _) λj row' U=>?_);rw[xD]at U;rw[Uw,yi];by_cases h1:j<l.length
 ·rw[uw h1,xD];rw[tV h1]at U;obtain⟨y,hy,rfl⟩:=uR.1 U;rw[hy];refine⟨_,rfl,λc x' J=>?_⟩
  match c,J with
  |0,J=>simp only[List.getElem?_cons_zero,ui]at J;subst J;exact⟨_,rfl,RwV.refl _⟩
  |1,J=>simp only[u6,List.getElem?_cons_zero,ui]at J;subst J;exact⟨_,rfl,TkF.nv⟩
  |c+2,J=>simp at J
 ·rw[ur h1];rw[qt ua]at U;by_cases h3:j=l.length
  ·subst h3;rw[Ue]at U⊢;simp only[List.getElem?_cons_zero,uG,ui]at U;subst U;refine⟨_,rfl,λc x' J=>?_⟩
   match c,J with
   |0,J=>simp only[List.getElem?_cons_zero,ui]at J;subst J;exact⟨_,rfl,RwV.refl _⟩
   |1,J=>simp only[u6,List.getElem?_cons_zero,ui]at J;subst J;rw[tJ];exact⟨_,rfl,TkF.ar⟩
   |c+2,J=>simp at J
  ·obtain⟨k,hk⟩: ∃k,j - l.length=k+1:=⟨j - l.length - 1,ua⟩;rw[hk]at U;simp at U
def zkI(l:List Nd)(t:Int)(n:Nat):jP l++[List.replicate n [ki 0]]=jP (l++[⟨t,List.replicate n 0⟩]):=by
 simp only[jP,u5,uH,tI,oS,zN]
def zdD(l:List Nd):(jP l).length=l.length:=by simp only[jP,uj]
end Hw.Gm
namespace Hw.Gm.Ps
open Go Go.Proofs Hw.M Tryz
def zbP(f:Fld):Bool:=decide (100<(f.n.size:Int))||decide (100<(f.t.size:Int))
def zeJ(l:List Fld):Bool:=decide (60<(l.length:Int))|| !l.all λf=> !zbP f
def zgg(l:List Fld):zh prog 78 [pS (zw l)] [] (.bq (zeJ l)) []:=by
 refine gFo func78 λC hC=>?_
 repeat' first|refine gG ?_|refine gB ?_ ?_<;>intro h|refine gL ?_
 ·rw[uj]at h;simp only[zeJ,h,qQ]
 ·rw[uj]at h;have hw:zeJ l= !l.all λf=> !zbP f:=by simp only[zeJ,h,tw]
  rw[hw];have hlen:=uo h;clear h hw
  refine zj (λi:Nat=>i<=(l).length/\((l).take i).all (λf=> !zbP f)=true) (λi=>([(0,pS (zw l)),(3,I i)],[])) (λi=>(l).length - i) hC
   0 ⟨uD _,ue⟩ id gM ?_
  rintro i ⟨hi,U⟩;refine gLc ?_ ?_<;>intro h
  ·have J:i<(l).length:=by first|simpa using h|(have h':=uk h;simp only[uj,td]at h' ⊢; omega)
   clear h;obtain⟨x,hx⟩:=za J
   repeat' first|refine gG ?_|refine gB ?_ ?_<;>intro h|refine gX ?_|refine zk ?_|refine gL ?_
   all_goals first
    |(have hp:(λf=> !zbP f) x=true:=by clear U hx J hi;simp_all[zbP, -List.all_eq_true, -List.all_eq_false]<;>omega
      have hlt':=J
      try simp only[td,qy]at hlt'
      rw[wrap64 ua];refine zg (i+1) ⟨ua,?_⟩ id ua gM
      rw[xG (p:=λf=> !zbP f) hx,U,tn];exact hp)
    |(have hp:(λf=> !zbP f) x=false:=by clear U hx J hi;simp_all[zbP, -List.all_eq_true, -List.all_eq_false]<;>omega
      have hno:=zac (p:=λf=> !zbP f) hx hp
      rw[hno];rfl)
  have hge: ¬i<(l).length:=by first|simpa using h|(have h':=uo h;simp only[uj,td]at h' ⊢; omega)
  have hall:(l).all (λf=> !zbP f)=true:=vZ (p:=λf=> !zbP f) ua U;clear h hge U hi
  repeat' first|refine gG ?_|refine gB ?_ ?_<;>intro h|refine zd ?_|refine gL ?_
  rw[hall];rfl
mutual
def leftS:Ex->Int->Int->Int
 | .mk _ _ s l,d,n=>if decide (n<=0)||decide (d=0)||decide (100<(s.size:Int))then -1 else leftL l (d - 1) (n - 1)
def leftL:List Ex->Int->Int->Int
 | [],_,n=>n
 |e::es,d,n=>if 0<=n then leftL es d (leftS e d n)else n
end
def zbh(e:Ex)(d n:Int):leftS e d n=if decide (n<=0)||decide (d=0)||decide (100<(e.s.size:Int))then -1 else leftL e.l (d - 1) (n - 1):=by
 cases e;rfl
mutual
theorem xf: ∀(e:Ex) (d n:Int), -1<=n-> -1<=leftS e d n/\leftS e d n<=n
 | .mk a b s l,d,n,h=>by
   simp only[leftS];split
   ·omega
   ·rename_i h';simp only[uJ,uq,oW]at h';have:=vx l (d - 1) (n - 1) ua;omega
theorem vx: ∀(l:List Ex) (d n:Int), -1<=n-> -1<=leftL l d n/\leftL l d n<=n
 | [],d,n,h=>by simp only[leftL];omega
 |e::es,d,n,h=>by
  simp only[leftL];split
  ·have h1:=xf e d n h;have h2:=vx es d _ h1.1;omega
  ·omega
end
theorem zeK{l:List Ex}{d n:Int}(h:n<0):leftL l d n=n:=by
 cases l with
 |nil=>rfl
 |cons e es=>simp only[leftL];rw[ur ua]
def zeL(e:Ex):sizeOf e.l<sizeOf e:=by
 cases e;simp only[Ex.l,Ex.mk.sizeOf_spec];omega
theorem zrI: ∀(N:Nat) (e:Ex) (d n:Int),sizeOf e<N->0<=d->d<=1000-> -1<=n->n<=1000000->zh prog 80 [zn (yg e),I d,I n] [] (I (leftS e d n)) []:=by
 intro N
 induction N with
 |zero=>intro e d n h;omega
 |succ N ih=>
  intro e d n hN hd1 hd2 hn1 hn2;refine gFo func80 λC hC=>?_;refine v7 rfl 0 3 rfl rfl λhlen=>?_;rw[uj]at hlen
  repeat' first|refine gG ?_|refine gB ?_ ?_<;>intro h|refine gN ?_
  ·rw[zbh,h];rfl
  ·rename_i U;rw[zbh,U,h];rfl
  ·rename_i U h1;rw[zbh,U,h1,h];rfl
  ·rename_i U h1;have hc:leftS e d n=leftL e.l (d - 1) (n - 1):=by rw[zbh,U,h1,h];rfl
   have e0:=uo U;have e1:=uo h1;clear U h1 h;have w0:IntKind.i64.wrap (n - 1)=n - 1:=wrap64 ua;have w1:IntKind.i64.wrap (d - 1)=d - 1:=wrap64 ua;rw[hc,w0]
   refine zj (λp:Nat×Int=>p.1<=e.l.length/\ -1<=p.2/\p.2<=1000000/\leftL (e.l.drop p.1) (d - 1) p.2=leftL e.l (d - 1) (n - 1)) (λp=>([(1,I d),(2,I p.2),(3,.one (.bx 1003 0)),(7,I p.1)],[(1003,some (.box ((yg e).map V.p)))])) (λp=>e.l.length - p.1) hC
    (0,n - 1) ⟨uD _,by simp only;omega,by simp only;omega,rfl⟩ id gM ?_
   rintro⟨i,m⟩ ⟨hi,hm1,hm2,J⟩;simp only at hi hm1 hm2 J
   repeat' first|refine gG ?_|refine gB ?_ ?_<;>intro h|refine zd ?_|refine gN ?_
   ·rename_i hlt0;have hlt:i<e.l.length:=by simpa using hlt0
    have hm0:0<=m:=uk h;obtain⟨x,hx⟩:=za hlt;have hsz:=zf3 hx;have hsz2:=zeL e;rw[drop_at hx]at J;simp only[leftL,uw hm0]at J;have hb:=xf x (d - 1) m hm1;have k1:=ih x (d - 1) m ua ua ua hm1 hm2;have w4:IntKind.i64.wrap ((i:Int)+1)=((i+1:Nat):Int):=by rw[show((i:Int)+1)=((i+1:Nat):Int) by omega];exact wrap64 ua
    repeat' first|refine gG ?_|refine gB ?_ ?_<;>intro h|refine gXE ?_|rw[w1]|refine gC k1 ?_
    rw[w4];exact zg (i+1,leftS x (d - 1) m) ⟨by simp only;omega,by simp only;omega,by simp only;omega,J⟩ id (by simp only;omega) gM
   ·have hm0:m<0:=qY.1 (uo h);rw[zeK hm0]at J;exact J
   ·have hge: ¬i<e.l.length:=by simpa using h
    rw[uC ua]at J;exact J
mutual
def laN:Sm->Int->Int->Int
 | .mk _ s e l els,d,n=>if 100<(s.size:Int)then -1 else
    if 0<=(if 0<=leftL e 65 (n - 1)then(if d - 1=0 then -1 else laL l (d - 1) (leftL e 65 (n - 1)))else leftL e 65 (n - 1))then
     (if d - 1=0 then -1 else laL els (d - 1) (if 0<=leftL e 65 (n - 1)then(if d - 1=0 then -1 else laL l (d - 1) (leftL e 65 (n - 1)))else leftL e 65 (n - 1)))
    else(if 0<=leftL e 65 (n - 1)then(if d - 1=0 then -1 else laL l (d - 1) (leftL e 65 (n - 1)))else leftL e 65 (n - 1))
def laL:List Sm->Int->Int->Int
 | [],_,n=>n
 |s::r,d,n=>if 0<=n then laL r d (laN s d n)else n
end
def laS(l:List Sm)(d n:Int):Int:=if d=0 then -1 else laL l d n
def laT(l:List Sm)(d n:Int):Int:=if 0<=n then laS l d n else n
def zqc(s:Sm)(d n:Int):laN s d n=if 100<(s.s.size:Int)then -1 else laT s.els (d - 1) (laT s.l (d - 1) (leftL s.e 65 (n - 1))):=by
 cases s;rfl
def zad{l:List Sm}{d n:Int}(h: -1<=n)(J:0<=n-> -1<=laL l d n/\laL l d n<=n): -1<=laT l d n/\laT l d n<=n:=by
 unfold laT laS;split
 ·split
  ·omega
  ·exact J ua
 ·omega
mutual
theorem zkJ: ∀(s:Sm) (d n:Int),0<=n-> -1<=laN s d n/\laN s d n<=n
 | .mk op s e l els,d,n,h=>by
   rw[zqc];by_cases hh:100<((Sm.mk op s e l els).s.size:Int)
   ·rw[uw hh];omega
   ·rw[ur hh];simp only[Sm.els,Sm.l,Sm.e];have h1:=vx e 65 (n - 1) ua;have h2:=zad (l:=l) (d:=d - 1) h1.1 (λh0=>vc l (d - 1) _ ua);have h3:=zad (l:=els) (d:=d - 1) h2.1 (λh0=>vc els (d - 1) _ ua);omega
theorem vc: ∀(l:List Sm) (d n:Int), -1<=n-> -1<=laL l d n/\laL l d n<=n
 | [],d,n,h=>by simp only[laL];omega
 |s::r,d,n,h=>by
  simp only[laL];split
  ·rename_i h0;have h1:=zkJ s d n h0;have h2:=vc r d _ h1.1;omega
  ·omega
end
theorem zkK{l:List Sm}{d n:Int}(h:n<0):laL l d n=n:=by
 cases l with
 |nil=>rfl
 |cons e es=>simp only[laL];rw[ur ua]
def zkL{l:List Sm}{d n:Int}(h:0<=n): -1<=laS l d n/\laS l d n<=n:=by
 unfold laS;split
 ·omega
 ·exact vc l d n ua
def zae(e:Ex)(d n:Int)(J:0<=d)(h2:d<=1000)(h3: -1<=n)(h4:n<=1000000):zh prog 80 [zn (yg e),I d,I n] [] (I (leftS e d n)) []:=zrI (sizeOf e+1) e d n ua J h2 h3 h4
def zop(i:Nat):((i:Int)+1)=((i+1:Nat):Int):=by omega
def vd{i:Nat}(h:i<9223372036854775807):IntKind.i64.wrap ((i:Int)+1)=((i+1:Nat):Int):=by rw[zop];exact wrap64 ua
def zkM{l:List Sm}{d n:Int}(h:n<0):laT l d n=n:=ur ua
theorem zi6: ∀(N:Nat) (l:List Sm) (d n:Int),sizeOf l<N->0<=d->d<=1000->0<=n->n<=1000000->zh prog 79 [pS (yw l),I d,I n] [] (I (laS l d n)) []:=by
 intro N
 induction N with
 |zero=>intro l d n h;omega
 |succ N ih=>
  intro l d n hN hd1 hd2 hn1 hn2;refine gFo func79 λC hC=>?_;refine wG 0 rfl λhlen=>?_;rw[uj]at hlen
  repeat' first|refine gG ?_|refine gB ?_ ?_<;>intro h|refine gN ?_
  ·have:=uk h;rw[laS,uw this]
  ·have hd0:=uo h;clear h;rw[laS,ur hd0]
   refine zj (λp:Nat×Int=>p.1<=l.length/\ -1<=p.2/\p.2<=1000000/\laL (l.drop p.1) d p.2=laL l d n) (λp=>([(0,pS (yw l)),(1,I d),(2,I p.2),(7,I p.1)],[])) (λp=>l.length - p.1) hC
    (0,n) ⟨uD _,by simp only;omega,by simp only;omega,rfl⟩ id gM ?_
   rintro⟨i,m⟩ ⟨hi,hm1,hm2,U⟩;simp only at hi hm1 hm2 U
   repeat' first|refine gG ?_|refine gB ?_ ?_<;>intro h|refine zd ?_|refine gN ?_|refine gXT ?_
   rotate_right
   ·have hge: ¬i<l.length:=by simpa using h
    rw[uC ua]at U;exact U
   rotate_right
   ·have hm0:m<0:=qY.1 (uo h);rw[zkK hm0]at U;exact U
   rename_i J;have hlt:i<l.length:=by simpa using J
   have hm0:0<=m:=uk h;clear J h;obtain⟨x,hx⟩:=za hlt;have hsz:=zf3 hx;have hss:=zhH x;rw[drop_at hx]at U;simp only[laL,uw hm0]at U;rw[zqc]at U;have w0:IntKind.i64.wrap (m - 1)=m - 1:=wrap64 ua;have w1:IntKind.i64.wrap (d - 1)=d - 1:=wrap64 ua;refine gIt (jF hx) ?_
   repeat' first|refine gG ?_|refine gB ?_ ?_<;>intro h|refine gN ?_|refine zk ?_
   ·rw[uw (uk h),zkK ua]at U;exact U
   ·rw[ur (uo h)]at U;clear h;rw[w0];have hb0:=vx x.e 65 (m - 1) ua;generalize hA:leftL x.e 65 (m - 1)=A at*;refine jQ [(0,pS (yw l)),(1,I d),(2,I A),(7,I i)] [] hC ?_ ?_
    ·refine zj (λp:Nat×Int=>p.1<=x.e.length/\ -1<=p.2/\p.2<=1000000/\leftL (x.e.drop p.1) 65 p.2=A) (λp=>([(0,pS (yw l)),(1,I d),(2,I p.2),(7,I i),(8,I p.1)],[])) (λp=>x.e.length - p.1) hC
      (0,m - 1) ⟨uD _,by simp only;omega,by simp only;omega,hA⟩ id gM ?_
     rintro⟨k,q⟩ ⟨hk,hq1,hq2,hq⟩;simp only at hk hq1 hq2 hq;refine w9 T hC true 1 rfl ?_
     repeat' first|refine gG ?_|refine gB ?_ ?_<;>intro h|refine gIt (jF hx) ?_|refine zd ?_
     ·rename_i J;have hlt2:k<x.e.length:=by simpa using J
      have hq0:0<=q:=uk h;clear J h;obtain⟨y,hy⟩:=za hlt2;refine zuz rfl 35 rfl λhel=>?_;rw[uj]at hel;rw[drop_at hy]at hq;simp only[leftL,uw hq0]at hq;have hb:=xf y 65 q hq1;refine gIt (xU hy) ?_
      repeat' first|refine gG ?_|refine gB ?_ ?_<;>intro h|refine w6 hC (zae y 65 q ua ua hq1 hq2) rfl rfl (yG.refl _) rfl rfl rfl ?_
      simp only;rw[vd ua];exact zg (k+1,leftS y 65 q) ⟨by simp only;omega,by simp only;omega,by simp only;omega,hq⟩ id (by simp only;omega) gM
     ·have hqa:q=A:=by rw[zeK (qY.1 (uo h))]at hq;exact hq
      subst hqa;exact y3 id gM
     ·have hge: ¬k<x.e.length:=by simpa using h
      have hqa:q=A:=by rw[uC ua]at hq;exact hq
      subst hqa;exact y3 id gM
    ·have key: ∀(k:List Sm),sizeOf k<N-> ∀a:Int, -1<=a->a<=1000000->0<=a->laT k (d - 1) a=laS k (d - 1) a/\zh prog 79 [pS (yw k),I (d - 1),I a] [] (I (laT k (d - 1) a)) []:=λk hk a ha1 ha2 ha3=>by
      have e:laT k (d - 1) a=laS k (d - 1) a:=by simp only[laT,uw ha3]
      rw[e];exact⟨rfl,ih k (d - 1) a hk ua ua ha3 ha2⟩
     have hB:=zad (l:=x.l) (d:=d - 1) hb0.1 (λh0=>vc x.l (d - 1) A ua);have hnB:A<0->laT x.l (d - 1) A=A:=zkM;have hD:=zad (l:=x.els) (d:=d - 1) hB.1 (λh0=>vc x.els (d - 1) _ ua);have hnD:laT x.l (d - 1) A<0->laT x.els (d - 1) (laT x.l (d - 1) A)=laT x.l (d - 1) A:=zkM;have key1:=λh3=>(key x.l ua A hb0.1 ua h3).2
     have key2:=λh3=>(key x.els ua _ hB.1 ua h3).2
     generalize hBe:laT x.l (d - 1) A=B at*;generalize hDe:laT x.els (d - 1) B=D at*;refine znB T hC true 400 rfl rfl ?_;refine zuA [(0,pS (yw l)),(1,I d),(2,I B),(7,I i)] [] hC ?_ ?_
     ·repeat' first|refine gG ?_|refine gB ?_ ?_<;>intro h|refine gIt (jF hx) ?_|rw[w1]|refine w6 hC (key1 (uk uf)) rfl rfl (yG.refl _) rfl rfl rfl ?_
      ·exact y3 id gM
      ·rw[hnB (qY.1 (uo h))]at*;exact y3 id gM
     ·refine znB T hC true 400 rfl rfl ?_;refine jQ [(0,pS (yw l)),(1,I d),(2,I D),(7,I i)] [] hC ?_ ?_
      ·repeat' first|refine gG ?_|refine gB ?_ ?_<;>intro h|refine gIt (jF hx) ?_|rw[w1]|refine w6 hC (key2 (uk uf)) rfl rfl (yG.refl _) rfl rfl rfl ?_
       ·exact y3 id gM
       ·rw[hnD (qY.1 (uo h))];exact y3 id gM
      ·repeat' first|refine gG ?_|refine gB ?_ ?_<;>intro h
       rw[vd ua];exact zg (i+1,D) ⟨by simp only;omega,by simp only;omega,by simp only;omega,U⟩ id (by simp only;omega) gM
end Hw.Gm.Ps
namespace Hw.Gm
open Go Go.Proofs Go.Shelf Tryz
def zgh:Go.Shelf.Ren:=⟨λ|157=>248|229=>265|199=>266|261=>279|311=>292|312=>293|n=>n,λ|9=>9|31=>304|3=>3|5=>5|4=>4|119=>367|0=>0|40=>369|152=>379|21=>21|154=>381|51=>312|141=>383|196=>395|193=>392|198=>398|49=>396|194=>393|201=>401|226=>408|46=>259|227=>409|n=>n,λ|0=>0|6=>2|n=>n⟩
def zrJ:Go.Proofs.Lays.n157 prog zgh where
 mixed:=by kernel_rfl
 f157:=func248.trans (u7 some ud)
 f199:=func266.trans (u7 some ud)
 f229:=func265.trans (u7 some ud)
 f261:=func279.trans (u7 some ud)
 f311:=func292.trans (u7 some ud)
 f312:=func293.trans (u7 some ud)
 t0:=underlying0
 a0:=isAgg0
 z0:=sizeOf0
 v0:=zeroValue0
 t3:=underlying3
 a3:=isAgg3
 z3:=sizeOf3
 v3:=zeroValue3
 t4:=underlying4
 a4:=isAgg4
 z4:=sizeOf4
 v4:=zeroValue4
 t5:=underlying5
 a5:=isAgg5
 z5:=sizeOf5
 v5:=zeroValue5
 t9:=underlying9
 a9:=isAgg9
 z9:=sizeOf9
 v9:=zeroValue9
 t21:=underlying21
 a21:=isAgg21
 z21:=sizeOf21
 v21:=zeroValue21
 t31:=underlying304
 a31:=isAgg304
 z31:=sizeOf304
 v31:=zeroValue304
 t40:=underlying369
 a40:=isAgg369
 z40:=sizeOf369
 v40:=zeroValue369
 t46:=underlying259
 a46:=isAgg259
 z46:=sizeOf259
 v46:=zeroValue259
 t49:=underlying396
 a49:=isAgg396
 z49:=sizeOf396
 v49:=zeroValue396
 t51:=underlying312
 a51:=isAgg312
 z51:=sizeOf312
 v51:=zeroValue312
 t119:=underlying367
 a119:=isAgg367
 z119:=sizeOf367
 t141:=underlying383
 a141:=isAgg383
 z141:=sizeOf383
 v141:=zeroValue383
 t152:=underlying379
 a152:=isAgg379
 z152:=sizeOf379
 v152:=zeroValue379
 t154:=underlying381
 a154:=isAgg381
 z154:=sizeOf381
 v154:=zeroValue381
 t193:=underlying392
 a193:=isAgg392
 z193:=sizeOf392
 v193:=zeroValue392
 t194:=underlying393
 a194:=isAgg393
 z194:=sizeOf393
 v194:=zeroValue393
 t196:=underlying395
 a196:=isAgg395
 z196:=sizeOf395
 v196:=zeroValue395
 t198:=underlying398
 a198:=isAgg398
 z198:=sizeOf398
 v198:=zeroValue398
 t201:=underlying401
 a201:=isAgg401
 z201:=sizeOf401
 v201:=zeroValue401
 t226:=underlying408
 a226:=isAgg408
 z226:=sizeOf408
 v226:=zeroValue408
 t227:=underlying409
 a227:=isAgg409
 z227:=sizeOf409
 v227:=zeroValue409
 g0:=by kernel_rfl
 g6:=by kernel_rfl
end Hw.Gm
