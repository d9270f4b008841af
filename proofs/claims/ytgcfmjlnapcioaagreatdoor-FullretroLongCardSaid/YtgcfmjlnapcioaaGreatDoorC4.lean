import Derived.Test.YtgcfmjlnapcioaaGreatDoorC2
import Derived.Test.YtgcfmjlnapcioaaGreatDoorC3
set_option linter.unusedVariables false
set_option linter.unusedSimpArgs false
namespace Hw.Fr.Ps
open Go Go.Proofs Go.Shelf Hw.M
def ltP(a b:Int×Int):Prop:=a.1<b.1\/a.1=b.1/\a.2<b.2
theorem ltP.trans{a b c:Int×Int}(h:ltP a b)(h2:ltP b c):ltP a c:=by unfold ltP at *; omega
theorem zqL(p:Int×Int)(c:UInt8)(_hp:1<=p.2):ltP p (mv p c):=by
 unfold mv ltP;split
 ·left;simp only;omega
 ·right;refine⟨rfl,?_⟩;simp only;omega
variable {p:Int×Int}
theorem zqM(c:UInt8)(h:1<=p.1/\1<=p.2):1<=(mv p c).1/\1<=(mv p c).2:=by
 unfold mv;split
 ·simp only;omega
 ·simp only;omega
theorem zmz: ∀(l:By) {p:Int×Int},(1<=p.1/\1<=p.2)->1<=(l.foldl mv p).1/\1<=(l.foldl mv p).2
 | [],_,h=>h
 |c::l,_,h=>zmz l (zqM c h)
theorem zmA: ∀(l:By) {p:Int×Int},(1<=p.1/\1<=p.2)->l≠ []->ltP p (l.foldl mv p)
 | [],_,_,h=>absurd rfl h
 | [c],p,h,_=>zqL p c h.2
 |c::d::l,p,h,_=>(zqL p c h.2).trans (zmA (d::l) (zqM c h) ue)
def xr(t:Tok):Int×Int:=(t.ln,t.cl)
structure zor (out:List Tok) (p:Int×Int):Prop where
 pos:1<=p.1/\1<=p.2
 each: ∀t∈out,zal t=true/\t.k≠5/\1<=t.ln/\1<=t.cl/\ltP (xr t) p
 asc: ∀(i:Nat) x y,out[i]?=some x->out[i+1]?=some y->ltP (xr x) (xr y)
variable {out:List Tok}{q:Int×Int}
theorem zor.move(h:zor out p)(hq:1<=q.1/\1<=q.2)(hl:ltP p q):zor out q:=
 ⟨hq,λt ht=>let ⟨a,b,c,d,e⟩:=h.each t ht;⟨a,b,c,d,e.trans hl⟩,h.asc⟩
theorem zor.add(h:zor out p)(hq:1<=q.1/\1<=q.2)(hl:ltP p q){t:Tok}(hv:zal t=true)(h5:t.k≠5)(ht:xr t=p):zor (out++[t]) q:=by
 refine⟨hq,λu hu=>?_,λi x y hx hy=>?_⟩
 ·rcases u7.1 hu with hu|hu
  ·exact(h.move hq hl).each u hu
  ·obtain rfl:=tP.1 hu
   have e1:u.ln=p.1:=uR Prod.fst ht
   have e2:u.cl=p.2:=uR Prod.snd ht
   exact⟨hv,h5,by rw[e1];exact h.pos.1,by rw[e2];exact h.pos.2,by rw[ht];exact hl⟩
 ·have hlen:=(ui.1 hy).1
  simp only[uB,uC]at hlen
  rw[uP ua]at hx
  rcases Nat.lt_or_ge (i+1) out.length with h1|h1
  ·rw[uP h1]at hy
   exact h.asc i x y hx hy
  ·rw[uO h1,show i+1 - out.length=0 by omega]at hy
   simp only[List.getElem?_cons_zero,um]at hy
   subst hy
   rw[ht]
   exact(h.each x (List.mem_of_getElem? hx)).2.2.2.2
variable {t:Int×Str×Int}
theorem zkm{w:By}(h:zgX w=some t)(p:Int×Int):zal (yU p t)=true/\(yU p t).k≠5:=by
 unfold zgX at h
 split at h
 ·rename_i hk
  simp only[um]at h
  subst h
  refine⟨?_,by show(3:Int)≠5;decide⟩
  unfold zal yU
  simp[hk]
 ·split at h
  ·rename_i hk
   simp only[um]at h
   subst h
   refine⟨?_,by show(1:Int)≠5;decide⟩
   unfold zal yU
   simp[hk]
  ·split at h
   ·rename_i hn
    simp only[um]at h
    subst h
    refine⟨?_,by show(2:Int)≠5;decide⟩
    unfold vq at hn
    simp only[uu,ux]at hn
    have h0:=zmt hn.1.2
    unfold zal yU
    simp only
    simp[h0,hn.2]
   ·cases h
theorem zo9{l:By}{n:Nat}(h:tk l=some (n,some t))(p:Int×Int):zal (yU p t)=true/\(yU p t).k≠5:=by
 cases l with
 |nil=>cases h
 |cons c r=>
  simp only[tk]at h
  split at h
  ·simp at h
  ·split at h
   ·simp at h
   ·split at h
    ·rw[uH]at h
     obtain⟨u,hu,h⟩:=h
     simp only[uL,um]at h
     rw[<-h.2]
     exact zkm hu p
    ·rw[uH]at h
     obtain⟨y,hy,h⟩:=h
     simp only[uL,um]at h
     rw[<-h.2]
     refine⟨?_,by show(4:Int)≠5;decide⟩
     have:=(zmy y).2 (zfb hy).1
     unfold zal yU
     simp[this]
theorem zmB: ∀(f:Nat) (l:By) (p:Int×Int) (out:List Tok),l.length<f->zor out p->
 (∃o q,lx f l p out=(o++[⟨5,(⟨#[]⟩:UW),0,q.1,q.2⟩],(0,0),0)/\zor o q/\o.length<=out.length+l.length)\/ ∃q,lx f l p out=([],q,7)
 |0,l,_,_,h,_=>absurd h (q8 _)
 |f+1,[],p,out,_,h=> .inl ⟨out,p,rfl,h,ue⟩
 |f+1,c::r,p,out,hf,h=>by
  simp only[lx]
  cases e:tk (c::r)with
  |none=>exact .inr ⟨p,rfl⟩
  |some x=>
   obtain⟨n,o⟩:=x
   have hp:=zlL e
   simp only[uI]at hf hp
   have hd:((c::r).drop n).length=r.length+1 - n:=by rw[uQ,uI]
   have hne:(c::r).take n≠ []:=λe=>by have:=uR List.length e;simp at this;omega
   have hq:=zmz ((c::r).take n) h.pos
   have hl:=zmA ((c::r).take n) h.pos hne
   simp only
   cases o with
   |none=>
    rw[show out++((none:Option (Int×Str×Int)).map (yU p)).toList=out by simp]
    rcases zmB f ((c::r).drop n) (((c::r).take n).foldl mv p) out ua (h.move hq hl)with⟨o',q,e1,e2,e3⟩|h2
    ·exact .inl ⟨o',q,e1,e2,by simp only[uI];omega⟩
    ·exact .inr h2
   |some t=>
    have hv:=zo9 e p
    rw[show out++((some t).map (yU p)).toList=out++[yU p t] by simp]
    rcases zmB f ((c::r).drop n) (((c::r).take n).foldl mv p) (out++[yU p t]) ua (h.add hq hl hv.1 hv.2 rfl)with⟨o',q,e1,e2,e3⟩|h2
    ·refine .inl ⟨o',q,e1,e2,?_⟩
     simp only[uB,uI,qt]at e3 ⊢; omega
    ·exact .inr h2
theorem zfC(s:Str)(hs:s.size<=65536):(∃o q,yi s=(o++[⟨5,(⟨#[]⟩:UW),0,q.1,q.2⟩],(0,0),0)/\zor o q/\o.length<=s.size)\/ ∃q,yi s=([],q,7):=by
 unfold yi
 rw[ur ua]
 rcases zmB ((lst s).length+1) (lst s) (1,1) [] (qy _) ⟨⟨ub,ub⟩,(λt ht=>by cases ht),(λi x y hx=>by cases hx)⟩with⟨o,q,e1,e2,e3⟩|h
 ·exact .inl ⟨o,q,e1,e2,by rw[y4]at e3;simpa using e3⟩
 ·exact .inr h
theorem zmC{t:Tok}(h:zal t=true):0<=t.n/\t.n<=1099511627776:=by
 unfold zal at h
 repeat' (split at h)
 all_goals first
  |(simp only[uu,ux]at h;omega)
  |cases h
theorem zpa{o:List Tok}(h:zor o q)(hl:o.length<=65536):xG (o++[⟨5,(⟨#[]⟩:UW),0,q.1,q.2⟩]):=by
 refine⟨by rw[uB,uC];omega,⟨_,by rw[uB,uC,Nat.add_sub_cancel,uO (uG _),qv];rfl,rfl⟩,λt ht=>?_⟩
 rcases u7.1 ht with h1|h1
 ·exact zmC (h.each t h1).1
 ·obtain rfl:=tP.1 h1
  exact⟨qB _,by show(0:Int)<=1099511627776;decide⟩
theorem zcN(s:Str):(∃l,yi s=(l,(0,0),0)/\xG l/\l.length<=s.size+1)\/ ∃q e,yi s=([],q,e)/\(e=7\/e=4):=by
 by_cases hs:s.size<=65536
 ·rcases zfC s hs with⟨o,q,h1,h2,h3⟩|⟨q,h1⟩
  ·exact .inl ⟨_,h1,zpa h2 ua,by rw[uB,uC];omega⟩
  ·exact .inr ⟨q,7,h1,.inl rfl⟩
 ·exact .inr ⟨(0,0),4,by unfold yi;rw[uv ua],.inr rfl⟩
end Hw.Fr.Ps
namespace Hw.Fr.Ps
open Go Go.Proofs Hw.M
abbrev zvP(p:Int×Int):S:=zm [ki p.1,ki p.2]
variable {i:Nat}
section
variable {l:List Tok} (hl:xG l)
include hl
theorem zrR{t:Tok}(ht:l[i]?=some t)(b:Bool):zk Tryz.prog 150 [rdV] [(0,rdR l i b)] (.tup [zvP (if b=false/\t.k=5 then(0,0)else(t.ln,t.cl)),I (if t.k=5 then if b then 8 else 0 else 7)]) [(0,rdR l i b)]:=by
 have hll:=hl.len
 have hi:=(ui.1 ht).1
 obtain⟨tk,ts,tn,tl,tc⟩:=t
 simp only
 by_cases hk:tk=5
 ·subst hk
  cases b with
  |true=>
   refine gO T Tryz.func150 λC hC=>?_
   repeat' first|refine gG ?_|exact gD|refine gB ?_ ?_<;>intro h|refine gI T (zg ht) ?_|refine gL ?_
   exact gE
  |false=>
   refine gO T Tryz.func150 λC hC=>?_
   repeat' first|refine gG ?_|exact gD|refine gB ?_ ?_<;>intro h|refine gI T (zg ht) ?_|refine gL ?_
   exact gE
 ·simp only[hk,UA,tO]
  cases b with
  |true=>
   refine gO T Tryz.func150 λC hC=>?_
   repeat' first|refine gG ?_|(exfalso;exact absurd (uo h) hk)|refine gB ?_ ?_<;>intro h|refine gI T (zg ht) ?_|refine gL ?_
   exact gE
  |false=>
   refine gO T Tryz.func150 λC hC=>?_
   repeat' first|refine gG ?_|(exfalso;exact absurd (uo h) hk)|refine gB ?_ ?_<;>intro h|refine gI T (zg ht) ?_|refine gL ?_
   exact gE
end
def D0:xo:=⟨(⟨#[]⟩:UW),[],[],[],[],[],[],[]⟩
def topD(l:List Tok):xo×(Int×Int)×Int:=match zbg l (10*l.length+13)with
 | .ok x j=>match l[j]? with
   |some t=>if t.k=5 then if yX x=true then(x,(0,0),0)else(D0,(0,0),4)else(D0,(t.ln,t.cl),7)
   |none=>(D0,(0,0),0)
 | .no j=>match l[j]? with
   |some t=>(D0,(t.ln,t.cl),if t.k=5 then 8 else 7)
   |none=>(D0,(0,0),0)
 | .out=>(D0,(0,0),0)
def zO(s:Str):xo×(Int×Int)×Int:=if(yi s).2.2=0 then topD (yi s).1 else(D0,(yi s).2.1,(yi s).2.2)
def mv7(i:Nat):Nat:=match Nat.ble 101 i&&Nat.ble i 107 with
 |true=>i+100
 |false=>i
theorem zmD(hi:i<100):mv7 i=i:=by
 unfold mv7
 rw[show Nat.ble 101 i=false from by rw[Bool.eq_false_iff];intro h;have:=tz h;omega]
 rfl
def dRb(d:xo):RL:=[(1009,.box [.p (ks d.n),.ar 101,.ar 102,.ar 103,.ar 104,.ar 105,.ar 106,.ar 107]),(101,.arr 2 (d.types.map yz)),(102,.arr 2 (d.globals.map zM)),(103,.arr 5 (d.procs.map xc)),(104,.arr 7 (d.measures.map yt)),(105,.arr 6 (d.invs.map zeo)),(106,.arr 5 (d.pots.map zfp)),(107,.arr 5 (d.bounds.map x8))]
abbrev zD:Res:= .box (zV [ZK.str,ZK.slice,ZK.slice,ZK.slice,ZK.slice,ZK.slice,ZK.slice,ZK.slice])
theorem zcO{l:List Tok}{a b:Str}(h1:isA l i a=true)(h2:isA l i b=true):a=b:=by
 unfold isA at h1 h2
 split at h1
 ·rename_i t ht
  rw[ht]at h2
  simp only[uu,ux]at h1 h2
  rw[<-h1.2,h2.2]
 ·cases h1
theorem zrS{l:List Tok}(h:kwI l i=true): ¬isA l i ⟨#[125]⟩=true:=by
 intro h2
 unfold kwI at h
 simp only[tM]at h
 rcases h with(((((h|h)|h)|h)|h)|h)|h
 all_goals exact absurd (zcO h h2) ub
variable {d:xo}{f:Nat}
theorem ziI{l:List Tok}(h:kwI l i=false):zdk l f i d=some (d,i,true):=by
 unfold kwI at h
 simp only[tD]at h
 obtain⟨⟨⟨⟨⟨⟨h1,h2⟩,h3⟩,h4⟩,h5⟩,h6⟩,h7⟩:=h
 unfold zdk
 rw[h1,h2,h3,h4,h5,h6,h7]
 rfl
theorem ziJ{s:Str}(h:(zO s).2.2=0)(hv:yX (zO s).1=true): ∃l,yi s=(l,(0,0),0)/\xG l/\ ∃j t,zbg l (10*l.length+13)= .ok (zO s).1 j/\l[j]?=some t/\t.k=5:=by
 have hz:yX D0=true->False:=by decide
 rcases zcN s with⟨l,he,hl,_⟩|⟨⟨q1,q2⟩,e,he,h74⟩
 ·refine⟨l,he,hl,?_⟩
  unfold zO at h hv⊢
  rw[he]at h hv⊢
  simp only[qx]at h hv⊢
  unfold topD at h hv⊢
  cases hx:zbg l (10*l.length+13)with
  |out=>rw[hx]at hv;exact(hz hv).elim
  |no j=>rw[hx]at hv;simp only at hv;split at hv<;>exact(hz hv).elim
  |ok x j=>
   rw[hx]at h hv
   simp only at h hv⊢
   cases ht:l[j]? with
   |none=>rw[ht]at hv;exact(hz hv).elim
   |some t=>
    rw[ht]at h hv
    simp only at h hv⊢
    by_cases h5:t.k=5
    ·rw[uv h5]at hv⊢
     by_cases hw:yX x=true
     ·rw[uv hw];exact⟨j,t,rfl,ht,h5⟩
     ·rw[ur hw]at hv;exact(hz hv).elim
    ·rw[ur h5]at hv;exact(hz hv).elim
 ·unfold zO at hv
  rw[he]at hv
  simp only at hv
  rw[ur ua]at hv
  exact(hz hv).elim
set_option maxHeartbeats 2000000 in
theorem zdm{s:Str}(hs:s.size<=1000000)(h:(zO s).2.2=0)(hv:yX (zO s).1=true):zk Tryz.prog 114 [Sr s] [] (.tup [zm (vz (zO s).1),zvP (0,0),I 0]) []:=by
 have hT:=zfB s hs
 obtain⟨l,he,hl,jf,t,hx,ht,h5⟩:=ziJ h hv
 have hV:=zcI (zO s).1
 rw[hv]at hV
 generalize (zO s).1=xf at*
 rw[he]at hT
 simp only at hT
 have hll:=hl.len
 have h0:0<l.length:=by
  have:=(ui.1 ht).1
  omega
 generalize hF:10*l.length+13=F at hx
 have hx:zoU l F=some (xf,jf,false):=by
  have hJ:=zrH (l:=l) F
  rw[hx]at hJ
  cases e:zoU l F with
  |none=>rw[e]at hJ;cases hJ
  |some q=>
   obtain⟨y,k,b⟩:=q
   rw[e]at hJ
   cases b<;>cases hJ
   rfl
 obtain⟨_,k1,b1,e1,hR1⟩:=tgo (b:=false) (w:=D0) (k:=0) hx () rfl
 obtain⟨hk1,c1⟩:=vj hl h0 false _ _ _ _ e1
 obtain⟨n,k2,b2,e2,hR2⟩:=tgo hR1 (⟨#[]⟩:UW) rfl
 obtain⟨hk2,c2⟩:=vZ hl hk1 b1 _ _ _ e2
 obtain⟨_,k3,b3,e3,hR3⟩:=tgo hR2 () rfl
 obtain⟨hk3,c3⟩:=vj hl hk2 b2 _ _ _ _ e3
 cases b3 with
 |true=>cases hR3
 |false=>
 have hEnd:=zrR hl ht false
 simp only[h5,and_self,qx]at hEnd
 clear e1 e2 e3 hR1 hR2 hx
 refine gO T Tryz.func114 λC hC=>?_
 repeat' first|refine gG ?_|exact gD|refine gB ?_ ?_<;>intro h|refine gC hT ?_|refine gR c1 (nm [1025]) ?_|refine gR c2 (nm [1025]) ?_|refine gR c3 (nm [1025]) ?_
 refine gA 101 2 [] [(1009,[.p (ks n),.ar 101,.p (.k (.slice none 0 0)),.p (.k (.slice none 0 0)),.p (.k (.slice none 0 0)),.p (.k (.slice none 0 0)),.p (.k (.slice none 0 0)),.p (.k (.slice none 0 0))])] ?_
 refine gA 102 2 [] [(1009,[.p (ks n),.ar 101,.ar 102,.p (.k (.slice none 0 0)),.p (.k (.slice none 0 0)),.p (.k (.slice none 0 0)),.p (.k (.slice none 0 0)),.p (.k (.slice none 0 0))])] ?_
 refine gA 103 5 [] [(1009,[.p (ks n),.ar 101,.ar 102,.ar 103,.p (.k (.slice none 0 0)),.p (.k (.slice none 0 0)),.p (.k (.slice none 0 0)),.p (.k (.slice none 0 0))])] ?_
 refine gA 104 7 [] [(1009,[.p (ks n),.ar 101,.ar 102,.ar 103,.ar 104,.p (.k (.slice none 0 0)),.p (.k (.slice none 0 0)),.p (.k (.slice none 0 0))])] ?_
 refine gA 105 6 [] [(1009,[.p (ks n),.ar 101,.ar 102,.ar 103,.ar 104,.ar 105,.p (.k (.slice none 0 0)),.p (.k (.slice none 0 0))])] ?_
 refine gA 106 5 [] [(1009,[.p (ks n),.ar 101,.ar 102,.ar 103,.ar 104,.ar 105,.ar 106,.p (.k (.slice none 0 0))])] ?_
 refine gA 107 5 [] [(1009,[.p (ks n),.ar 101,.ar 102,.ar 103,.ar 104,.ar 105,.ar 106,.ar 107])] ?_
 refine zn (λq:xo×Nat×Nat=>q.2.1<l.length/\zdB q.1+q.2.2<=F/\tJ false q.1 q.2.1 (itemsJ l F q.2.2 q.2.1 q.1)=some (xf,jf,false))
  (λq=>([(2,.one (.bx 1002 0)),(3,.one (.bx 1003 0)),(8,.one (.bx 1025 0)),(9,.one (.bx 1009 0))],(1002,some zD)::(1003,some (Res.box (zV [ZK.int .i64,ZK.int .i64])))::(1025,some (rdR l q.2.1 false))::tb (dRb q.1))) (λq=>q.2.2) hC
  (⟨n,[],[],[],[],[],[],[]⟩,k3,F) ⟨hk3,Nat.le_of_eq (tI _),hR3⟩ id gM ?_
 clear hR3 hk3 c1 c2 c3 hT
 rintro⟨d,k,g⟩ ⟨hk,hcd,hd⟩
 simp only at hk hcd hd
 cases g with
 |zero=>simp only[tJ,itemsJ]at hd;cases hd
 |succ g=>
 simp only[tJ,itemsJ]at hd
 by_cases hkw:kwI l k=true
 ·rw[ur (zrS hkw)]at hd
  obtain⟨d2,j2,b2,e4,hd2⟩:=tgo (b:=false) (w:=d) (k:=k) hd d rfl
  obtain⟨hj2,hc2,hI⟩:=ziD hl F k d hk ua e4 hkw
  cases b2 with
  |true=>cases hd2
  |false=>
  repeat' first|refine gG ?_|exact gD|refine gB ?_ ?_<;>intro h|refine gR hI (nm [1025,1009,101,102,103,104,105,106,107,201,202,203,204,205,206,207]) ?_
  exact zf (d2,j2,g) ⟨hj2,by simp only;omega,hd2⟩ mv7 (qy _) ⟨rfl,⟨rfl,rfl,rfl,rfl,uh⟩,⟨rfl,rfl,rfl,rfl,rfl,rfl,rfl,rfl,rfl,rfl,rfl,uh⟩,rfl,λi hi=>zmD hi⟩
 ·rw[qf]at hkw
  have hfin:vW l ⟨#[125]⟩ k=some ((),jf,false)/\xf=d:=by
   unfold vW
   by_cases hq:isA l k ⟨#[125]⟩=true
   ·rw[uv hq]at hd ⊢; cases hd;exact⟨rfl,rfl⟩
   ·rw[ur hq,ziI hkw]at hd
    cases hd
  obtain⟨ho,rfl⟩:=hfin
  obtain⟨_,hTk⟩:=xR hl k hk _ _ _ _ ho
  clear hd ho
  repeat' first|refine gG ?_|exact gD|refine gB ?_ ?_<;>intro h|refine zy hC ((zo6 hl 0 _ _ hk uf)) (nm [1025,1009,101,102,103,104,105,106,107]) rfl rfl (yr.refl _) rfl rfl rfl rfl rfl rfl rfl rfl ?_|refine zj ?_|refine gR hTk (nm [1025]) ?_
  refine gZ 101 [] [(1009,[.p (ks xf.n),.p (.sl 2 (xf.types.map yz)),.ar 102,.ar 103,.ar 104,.ar 105,.ar 106,.ar 107])] ?_
  refine gZ 102 [] [(1009,[.p (ks xf.n),.p (.sl 2 (xf.types.map yz)),.p (.sl 2 (xf.globals.map zM)),.ar 103,.ar 104,.ar 105,.ar 106,.ar 107])] ?_
  refine gZ 103 [] [(1009,[.p (ks xf.n),.p (.sl 2 (xf.types.map yz)),.p (.sl 2 (xf.globals.map zM)),.p (.sl 5 (xf.procs.map xc)),.ar 104,.ar 105,.ar 106,.ar 107])] ?_
  refine gZ 104 [] [(1009,[.p (ks xf.n),.p (.sl 2 (xf.types.map yz)),.p (.sl 2 (xf.globals.map zM)),.p (.sl 5 (xf.procs.map xc)),.p (.sl 7 (xf.measures.map yt)),.ar 105,.ar 106,.ar 107])] ?_
  refine gZ 105 [] [(1009,[.p (ks xf.n),.p (.sl 2 (xf.types.map yz)),.p (.sl 2 (xf.globals.map zM)),.p (.sl 5 (xf.procs.map xc)),.p (.sl 7 (xf.measures.map yt)),.p (.sl 6 (xf.invs.map zeo)),.ar 106,.ar 107])] ?_
  refine gZ 106 [] [(1009,[.p (ks xf.n),.p (.sl 2 (xf.types.map yz)),.p (.sl 2 (xf.globals.map zM)),.p (.sl 5 (xf.procs.map xc)),.p (.sl 7 (xf.measures.map yt)),.p (.sl 6 (xf.invs.map zeo)),.p (.sl 5 (xf.pots.map zfp)),.ar 107])] ?_
  refine gZ 107 [] [(1009,[.p (ks xf.n),.p (.sl 2 (xf.types.map yz)),.p (.sl 2 (xf.globals.map zM)),.p (.sl 5 (xf.procs.map xc)),.p (.sl 7 (xf.measures.map yt)),.p (.sl 6 (xf.invs.map zeo)),.p (.sl 5 (xf.pots.map zfp)),.p (.sl 5 (xf.bounds.map x8))])] ?_
  repeat' first|refine gG ?_|exact gD|refine gB ?_ ?_<;>intro h|refine gR hEnd (nm [1025]) ?_|refine gC hV ?_|refine gL ?_
  exact gF
mutual
def cntE:Ex->Nat
 | .mk _ _ _ l=>1+cntEs l
def cntEs:List Ex->Nat
 | []=>0
 |e::es=>cntE e+cntEs es
end
mutual
def okE:Ex->Nat->Bool
 | .mk _ _ s l,d=>decide (s.size<=100)&&decide (d<=70)&&okEs l (d+1)
def okEs:List Ex->Nat->Bool
 | [],_=>true
 |e::es,d=>okE e d&&okEs es d
end
theorem zpb(e:Ex):1<=cntE e:=by cases e;simp only[cntE];omega
theorem zz(a b:List Ex):cntEs (a++b)=cntEs a+cntEs b:=by
 induction a with
 |nil=>simp[cntEs]
 |cons x a ih=>simp only[ta,cntEs,ih];omega
theorem zpc(l:List Ex)(i:Nat):cntEs (l.take i)<=cntEs l:=by
 conv=>rhs;rw[<-tv i l]
 rw[zz];omega
theorem ziK{s:Str}(h:isName s=true):s.size<=40:=by
 simp only[isName,uu,tH,uX]at h
 omega
theorem zkn{e:Ex}(h:jl e=true):e.s.size<=40:=by
 unfold jl at h
 split at h
 ·simp only[tM,ux]at h
  rcases h with h|h
  ·rw[h];show 4<=40;decide
  ·exact ziK h
 ·split at h
  ·exact ziK h
  ·rw[uo h];show 0<=40;decide
theorem zmE{op n:Int}{s:Str}{l:List Ex}(h:zap (.mk op n s l)=true):s.size<=40:=by
 unfold zap at h
 simp only[uu]at h
 exact zkn (e:= .mk op n s l) h.1.2
theorem zcP: ∀(l:List Ex) (d n:Int),n<=countL l d n
 | [],d,n=>by simp only[countL];omega
 |e::es,d,n=>by
  simp only[countL]
  have h1:=(xK e (d+1)).1
  have h2:=zcP es d (n+countS e (d+1))
  split<;>omega
mutual
theorem ztP: ∀(e:Ex) (d:Nat),countS e d<=1000->(cntE e:Int)<=countS e d/\okE e d=true
 | .mk op n s l,d,h=>by
   simp only[countS]at h⊢
   split at h
   ·omega
   ·rename_i hc
    rw[ur hc]
    simp only[tM,ux,tH,UU,Bool.not_eq_false]at hc
    obtain⟨h1,h2⟩:=zmF l d 1 ub h
    have h3:=zmE hc.2
    refine⟨by simp only[cntE];omega,?_⟩
    simp only[okE,uu,ux]
    exact⟨⟨ua,ua⟩,h2⟩
theorem zmF: ∀(l:List Ex) (d:Nat) (n:Int),0<=n->countL l d n<=1000->n+(cntEs l:Int)<=countL l d n/\okEs l (d+1)=true
 | [],d,n,_,h=>by simp only[countL,cntEs,okEs];exact⟨ua,uh⟩
 |e::es,d,n,h0,h=>by
  simp only[countL]at h⊢
  have hm:=zcP es d (n+countS e (d+1))
  have hp:=(xK e (d+1)).1
  split at h
  ·omega
  ·rename_i hc
   rw[ur hc]
   obtain⟨h1,h2⟩:=zmF es d _ ua h
   have hcast:((d+1:Nat):Int)=(d:Int)+1:=by omega
   obtain⟨h3,h4⟩:=ztP e (d+1) (by rw[hcast];omega)
   rw[hcast]at h3
   refine⟨by simp only[cntEs];omega,?_⟩
   simp only[okEs,h4,h2,UN]
end
section
variable {l:List Tok}
theorem ziL: ∀f:Nat,(∀n i x j,exprA l f n i= .ok x j->i+cntE x<=j)/\(∀n y i x j,moreA l f n y i= .ok x j->i+cntE x<=j+cntE y)/\(∀i x j,postA l f i= .ok x j->i+cntE x<=j)/\(∀y i x j,dotsA l f y i= .ok x j->i+cntE x<=j+cntE y)/\
 (∀i a x j,argsP l f i a= .ok x j->i+cntEs x<=j+cntEs a)/\(∀k i a x j,partsA l f k i a= .ok x j->i+cntEs x<=j+cntEs a)/\(∀i x j,primA l f i= .ok x j->i+cntE x<=j):=by
 intro f
 induction f with
 |zero=>
  refine⟨λn i x j h=>?_,λn y i x j h=>?_,λi x j h=>?_,λy i x j h=>?_,λi a x j h=>?_,λk i a x j h=>?_,λi x j h=>?_⟩
  all_goals simp only[exprA,moreA,postA,dotsA,argsP,partsA,primA,reduceCtorEq]at h
 |succ f ih=>
  obtain⟨iE,iM,iP,iD,iA,iK,iR⟩:=ih
  refine⟨λn i x j h=>?_,λn y i x j h=>?_,λi x j h=>?_,λy i x j h=>?_,λi a x j h=>?_,λk i a x j h=>?_,λi x j h=>?_⟩
  ·unfold exprA at h
   split at h
   ·split at h
    ·obtain⟨y,k,h1,h⟩:=zi h
     have:=iE _ _ _ _ h1
     cases h;(try simp only[cntE,cntEs,zz,uN]at*);omega
    ·exact iE _ _ _ _ h
   ·split at h
    ·split at h
     ·obtain⟨y,k,h1,h⟩:=zi h
      have:=iE _ _ _ _ h1
      cases h;(try simp only[cntE,cntEs,zz,uN]at*);omega
     ·exact iP _ _ _ h
    ·obtain⟨y,k,h1,h⟩:=zi h
     have:=iE _ _ _ _ h1
     have:=iM _ _ _ _ _ h
     (try simp only[cntE,cntEs,zz,uN]at*);omega
  ·unfold moreA at h
   split at h
   ·cases h;(try simp only[cntE,cntEs,zz,uN]at*);omega
   ·obtain⟨z,k,h1,h⟩:=zi h
    have:=iE _ _ _ _ h1
    split at h
    ·cases h;(try simp only[cntE,cntEs,zz,uN]at*);omega
    ·have:=iM _ _ _ _ _ h
     (try simp only[cntE,cntEs,zz,uN]at*);omega
  ·unfold postA at h
   obtain⟨y,k,h1,h⟩:=zi h
   have:=iR _ _ _ h1
   have:=iD _ _ _ _ h
   (try simp only[cntE,cntEs,zz,uN]at*);omega
  ·unfold dotsA at h
   split at h
   ·obtain⟨s,k,h1,h⟩:=zi h
    have:=yY h1
    have:=iD _ _ _ _ h
    (try simp only[cntE,cntEs,zz,uN]at*);omega
   ·cases h;(try simp only[cntE,cntEs,zz,uN]at*);omega
  ·unfold argsP at h
   split at h
   ·cases h;(try simp only[cntE,cntEs,zz,uN]at*);omega
   ·obtain⟨u,k,h1,h⟩:=zi h
    obtain⟨y,k2,h2,h⟩:=zi h
    have:=zg1 h1
    have:=iE _ _ _ _ h2
    have:=iA _ _ _ _ h
    (try simp only[cntE,cntEs,zz,uN]at*);omega
  ·unfold partsA at h
   split at h
   ·obtain⟨u,k,h1,h⟩:=zi h
    have:=(yl h1).1
    cases h;(try simp only[cntE,cntEs,zz,uN]at*);omega
   ·obtain⟨u,k,h1,h⟩:=zi h
    obtain⟨y,k2,h2,h⟩:=zi h
    have:=(yl h1).1
    have:=iE _ _ _ _ h2
    have:=iK _ _ _ _ _ h
    (try simp only[cntE,cntEs,zz,uN]at*);omega
  ·unfold primA at h
   cases hl:l[i]? with
   |none=>rw[hl]at h;cases h
   |some t=>
   rw[hl]at h
   simp only at h
   rcases zq h with⟨_,h⟩|⟨_,h⟩
   ·cases h;(try simp only[cntE,cntEs,zz,uN]at*);omega
   rcases zq h with⟨_,h⟩|⟨_,h⟩
   ·rcases zq h with⟨_,h⟩|⟨_,h⟩
    ·obtain⟨a,k,h1,h⟩:=zi h;have:=iA _ _ _ _ h1;cases h;(try simp only[cntE,cntEs,zz,uN]at*);omega
    ·cases h;(try simp only[cntE,cntEs,zz,uN]at*);omega
   rcases zq h with⟨_,h⟩|⟨_,h⟩
   ·cases h;(try simp only[cntE,cntEs,zz,uN]at*);omega
   rcases zq h with⟨_,h⟩|⟨_,h⟩
   ·cases h;(try simp only[cntE,cntEs,zz,uN]at*);omega
   rcases zq h with⟨_,h⟩|⟨_,h⟩
   ·cases h;(try simp only[cntE,cntEs,zz,uN]at*);omega
   rcases zq h with⟨_,h⟩|⟨_,h⟩
   ·cases h;(try simp only[cntE,cntEs,zz,uN]at*);omega
   rcases zq h with⟨_,h⟩|⟨_,h⟩
   ·obtain⟨a,k,h1,h⟩:=zi h;have:=yY h1;cases h;(try simp only[cntE,cntEs,zz,uN]at*);omega
   rcases zq h with⟨_,h⟩|⟨_,h⟩
   ·obtain⟨a,k,h1,h⟩:=zi h;have:=iK _ _ _ _ _ h1;cases h;(try simp only[cntE,cntEs,zz,uN]at*);omega
   rcases zq h with⟨_,h⟩|⟨_,h⟩
   ·obtain⟨a,k,h1,h⟩:=zi h;have:=iK _ _ _ _ _ h1;cases h;(try simp only[cntE,cntEs,zz,uN]at*);omega
   rcases zq h with⟨_,h⟩|⟨_,h⟩
   ·obtain⟨a,k,h1,h⟩:=zi h;have:=iK _ _ _ _ _ h1;cases h;(try simp only[cntE,cntEs,zz,uN]at*);omega
   rcases zq h with⟨_,h⟩|⟨_,h⟩
   ·obtain⟨a,k,h1,h⟩:=zi h;have:=iK _ _ _ _ _ h1;cases h;(try simp only[cntE,cntEs,zz,uN]at*);omega
   rcases zq h with⟨_,h⟩|⟨_,h⟩
   ·obtain⟨a,k,h1,h⟩:=zi h;have:=iE _ _ _ _ h1;obtain⟨u,k2,h2,h⟩:=zi h;have:=(yl h2).1;cases h;(try simp only[cntE,cntEs,zz,uN]at*);omega
   ·cases h
end
mutual
def cntS:Sm->Nat
 | .mk _ _ e l els=>1+cntEs e+cntSs l+cntSs els
def cntSs:List Sm->Nat
 | []=>0
 |s::ss=>cntS s+cntSs ss
end
theorem y7(a b:List Sm):cntSs (a++b)=cntSs a+cntSs b:=by
 induction a with
 |nil=>simp[cntSs]
 |cons x a ih=>simp only[ta,cntSs,ih];omega
theorem zhs(x:Ex):cntEs (x.l.take 1)+1<=cntE x:=by
 obtain⟨op,n,s,l⟩:=x
 have:=zpc l 1
 simp only[cntE,Ex.l];omega
section
variable {l:List Tok}
theorem zpd: ∀f:Nat,(∀i a x j,stmtsA l f i a= .ok x j->i+cntSs x<=j+cntSs a)/\(∀i x j,xu l f i= .ok x j->i+cntSs x<=j)/\(∀i x j,wZ l f i= .ok x j->i+cntS x<=j):=by
 intro f
 induction f with
 |zero=>
  refine⟨λi a x j h=>?_,λi x j h=>?_,λi x j h=>?_⟩
  all_goals simp only[stmtsA,xu,wZ,reduceCtorEq]at h
 |succ f ih=>
  obtain⟨iT,iB,iS⟩:=ih
  obtain⟨fE,fM,fP,fD,fA,fK,fR⟩:=ziL (l:=l) f
  refine⟨λi a x j h=>?_,λi x j h=>?_,λi x j h=>?_⟩
  ·unfold stmtsA at h
   rcases zq h with⟨_,h⟩|⟨_,h⟩
   ·cases h;(try simp only[cntE,cntEs,zz,cntS,cntSs,y7,uN]at*);omega
   ·obtain⟨s,k,h1,h⟩:=zi h
    have:=iS _ _ _ h1
    have:=iT _ _ _ _ h
    (try simp only[cntE,cntEs,zz,cntS,cntSs,y7,uN]at*);omega
  ·unfold xu at h
   obtain⟨u,k,h1,h⟩:=zi h
   have:=yl h1
   have:=iT _ _ _ _ h
   (try simp only[cntE,cntEs,zz,cntS,cntSs,y7,uN]at*);omega
  ·unfold wZ at h
   rcases zq h with⟨hi,h⟩|⟨_,h⟩
   ·obtain⟨y,k,h1,h⟩:=zi h
    obtain⟨b,k2,h2,h⟩:=zi h
    have:=fE _ _ _ _ h1
    have:=iB _ _ _ h2
    rcases zq h with⟨_,h⟩|⟨_,h⟩
    ·obtain⟨b2,k3,h3,h⟩:=zi h
     have:=iB _ _ _ h3
     cases h;(try simp only[cntE,cntEs,zz,cntS,cntSs,y7,uN]at*);omega
    ·cases h;(try simp only[cntE,cntEs,zz,cntS,cntSs,y7,uN]at*);omega
   rcases zq h with⟨hi,h⟩|⟨_,h⟩
   ·obtain⟨y,k,h1,h⟩:=zi h
    obtain⟨b,k2,h2,h⟩:=zi h
    have:=fE _ _ _ _ h1
    have:=iB _ _ _ h2
    cases h;(try simp only[cntE,cntEs,zz,cntS,cntSs,y7,uN]at*);omega
   rcases zq h with⟨hi,h⟩|⟨_,h⟩
   ·rcases zq h with⟨_,h⟩|⟨_,h⟩
    ·cases h;(try simp only[cntE,cntEs,zz,cntS,cntSs,y7,uN]at*);omega
    ·obtain⟨y,k,h1,h⟩:=zi h
     obtain⟨b,k2,h2,h⟩:=zi h
     have:=fE _ _ _ _ h1
     have:=yl h2
     cases h;(try simp only[cntE,cntEs,zz,cntS,cntSs,y7,uN]at*);omega
   obtain⟨y,k,h1,h⟩:=zi h
   have:=fP _ _ _ h1
   rcases zq h with⟨_,h⟩|⟨_,h⟩
   ·obtain⟨z,k1,h2,h⟩:=zi h
    obtain⟨b,k2,h3,h⟩:=zi h
    have:=fE _ _ _ _ h2
    have:=yl h3
    cases h;(try simp only[cntE,cntEs,zz,cntS,cntSs,y7,uN]at*);omega
   rcases zq h with⟨_,h⟩|⟨_,h⟩
   ·obtain⟨z,k1,h2,h⟩:=zi h
    obtain⟨b,k2,h3,h⟩:=zi h
    have:=fE _ _ _ _ h2
    have:=yl h3
    have:=zhs y
    cases h;(try simp only[cntE,cntEs,zz,cntS,cntSs,y7,uN]at*);omega
   rcases zq h with⟨_,h⟩|⟨_,h⟩
   ·obtain⟨b,k2,h3,h⟩:=zi h
    have:=yl h3
    cases h;(try simp only[cntE,cntEs,zz,cntS,cntSs,y7,uN]at*);omega
   ·cases h
end
def zii(d:xo)(s:Str):Int:=idxOf (λt=>decide (t.n=s)) d.procs
theorem zee(d:xo)(s:Str):zk Tryz.prog 109 [zm (vz d),Sr s] [] (I (zii d s)) []:=by
 refine gO T Tryz.func109 λC hC=>?_
 refine jm rfl 0 3 rfl rfl λhlen=>?_
 rw[uj]at hlen
 repeat' first|refine gG ?_|refine gB ?_ ?_<;>intro h
 refine zn (λi:Nat=>i<=d.procs.length/\(d.procs.take i).any (λt=>decide (t.n=s))=false) (λi=>([(1,Sr s),(2,.one (.bx 1002 0)),(5,I i)],[(1002,some (.box ((vz d).map V.p)))])) (λi=>d.procs.length - i) hC
  0 ⟨uA _,ue⟩ id gM ?_
 rintro i ⟨hi,hn⟩
 refine zr T hC true 200 rfl ?_
 refine zu rfl ?_ ?_<;>intro h
 ·have hlt:i<d.procs.length:=by simpa using h
  obtain⟨x,hx⟩:=ze hlt
  repeat' first|refine gG ?_|refine gB ?_ ?_<;>intro h|refine gX ?_|refine zx ?_|refine gN ?_
  ·exact(ziM hx (by simpa using h) hn).symm
  ·rw[wrap64 ua]
   refine zf (i+1) ⟨ua,?_⟩ id ua gM
   rw[zd8 hx,hn,oG];simpa using h
 ·have hge: ¬i<d.procs.length:=by simpa using h
  repeat' first|refine gG ?_|refine gB ?_ ?_<;>intro h|refine zj ?_|refine gN ?_
  exact(zed (zgF ua hn)).symm
def mvB(a b i:Nat):Nat:=match Nat.beq i a with
 |true=>b
 |false=>i
theorem zmG{a b:Nat}(ha:100<=a)(hi:i<100):mvB a b i=i:=by
 unfold mvB;rw[y5 ua]
variable {α:Type}
theorem zdD{l:List α}{x:α}(h:l[i]?=some x):l.take (i+1)=l.take i++[x]:=by
 rw[tG,h];rfl
mutual
def WX:Ex->Prop
 | .mk _ _ _ l=>l.length<=1000000/\WXs l
def WXs:List Ex->Prop
 | []=>True
 |x::r=>WX x/\WXs r
end
theorem zmH: ∀ {l:List Ex},WXs l-> ∀x∈l,WX x
 |x::r,h,y,hy=>by
  simp only[WXs]at h
  rcases uV.1 hy with rfl|hy
  ·exact h.1
  ·exact zmH h.2 y hy
theorem WX.l{x:Ex}(h:WX x):x.l.length<=1000000/\WXs x.l:=by cases x;simp only[WX]at h;exact h
mutual
def WS:Sm->Prop
 | .mk _ _ e l els=>(e.length<=1000000/\WXs e)/\(l.length<=1000000/\WSs l)/\els.length<=1000000/\WSs els
def WSs:List Sm->Prop
 | []=>True
 |x::r=>WS x/\WSs r
end
theorem zmI: ∀ {l:List Sm},WSs l-> ∀x∈l,WS x
 |x::r,h,y,hy=>by
  simp only[WSs]at h
  rcases uV.1 hy with rfl|hy
  ·exact h.1
  ·exact zmI h.2 y hy
theorem WS.l{x:Sm}(h:WS x):(x.e.length<=1000000/\WXs x.e)/\(x.l.length<=1000000/\WSs x.l)/\x.els.length<=1000000/\WSs x.els:=by cases x;simp only[WS]at h;exact h
theorem zrT(x:Ex):yG x=zG x:=(zd5 x).symm
theorem zrU(x:Sm):za7 x=vC x:=(zd6 x).symm
theorem zfD: ∀(k:Nat) (l:List Ex),SizeOf.sizeOf l<=k->l.length<=1000000->WXs l->zk Tryz.prog 239 [pS (xL l)] [] (pS (xL l)) []:=by
 intro k
 induction k with
 |zero=>intro l h;cases l<;>simp at h
 |succ k ih=>
 intro l hk hl hw
 refine gO T Tryz.func239 λC hC=>?_
 repeat' first|refine gG ?_|refine gB ?_ ?_<;>intro h
 rw[uj]
 refine gA 101 4 [(3,.one (.ar 101))] [] ?_
 refine zn (λi:Nat=>i<=l.length) (λi=>([(3,.one (.ar 101)),(6,pS (xL l)),(7,I l.length),(8,I i)],[(101,some (Res.arr 4 ((l.take i).map zG)))])) (λi=>l.length - i) hC
  0 (uA _) id gM ?_
 intro i hi
 refine zr T hC true 200 rfl ?_
 refine zu rfl ?_ ?_<;>intro h
 rotate_left
 ·have hge: ¬i<l.length:=by simpa using h
  rw[uT ua]
  repeat' first|refine gG ?_|refine gB ?_ ?_<;>intro h|refine zj ?_
  refine gZ 101 [(2,pS (xL l))] [] ?_
  exact gF
 have hlt:i<l.length:=by simpa using h
 clear h
 obtain⟨x,hx⟩:=ze hlt
 have hxm:=List.mem_of_getElem? hx
 have hwx:=(zmH hw x hxm).l
 have hsz:=qX hxm
 have hR:=ih x.l (by have:SizeOf.sizeOf x.l<SizeOf.sizeOf x:=by cases x;simp only[Ex.l,Ex.mk.sizeOf_spec];omega
                     omega) hwx.1 hwx.2
 have hal:((l.take i).map zG).length=i:=by simp only[uj,uz];omega
 have happ:(l.take i).map zG++[yG x]=(l.take (i+1)).map zG:=by
  rw[zdD hx,uY,zrT];rfl
 repeat' first|refine gG ?_|refine gB ?_ ?_<;>intro h|refine gI T (jy hx) ?_|refine gC hR ?_|refine gT ?_|(refine gY T 102 ((l.take (i+1)).map zG) 56 ?_)
 rw[zC ua]
 exact zf (i+1) ua (mvB 101 102) ua ⟨rfl,⟨rfl,rfl,rfl,rfl,uh⟩,⟨rfl,uh⟩,rfl,λi hi=>zmG ua hi⟩
theorem zfE: ∀(k:Nat) (l:List Sm),SizeOf.sizeOf l<=k->l.length<=1000000->WSs l->zk Tryz.prog 189 [pS (yF l)] [] (pS (yF l)) []:=by
 intro k
 induction k with
 |zero=>intro l h;cases l<;>simp at h
 |succ k ih=>
 intro l hk hl hw
 refine gO T Tryz.func189 λC hC=>?_
 repeat' first|refine gG ?_|refine gB ?_ ?_<;>intro h
 rw[uj]
 refine gA 101 5 [(3,.one (.ar 101))] [] ?_
 refine zn (λi:Nat=>i<=l.length) (λi=>([(3,.one (.ar 101)),(6,pS (yF l)),(7,I l.length),(8,I i)],[(101,some (Res.arr 5 ((l.take i).map vC)))])) (λi=>l.length - i) hC
  0 (uA _) id gM ?_
 intro i hi
 refine zr T hC true 200 rfl ?_
 refine zu rfl ?_ ?_<;>intro h
 rotate_left
 ·have hge: ¬i<l.length:=by simpa using h
  rw[uT ua]
  repeat' first|refine gG ?_|refine gB ?_ ?_<;>intro h|refine zj ?_
  refine gZ 101 [(2,pS (yF l))] [] ?_
  exact gF
 have hlt:i<l.length:=by simpa using h
 clear h
 obtain⟨x,hx⟩:=ze hlt
 have hxm:=List.mem_of_getElem? hx
 obtain⟨he,hsl,hsE⟩:=(zmI hw x hxm).l
 have hsz:=qX hxm
 have hE:=zfD _ x.e (uG _) he.1 he.2
 have hL:=ih x.l (by have:SizeOf.sizeOf x.l<SizeOf.sizeOf x:=by cases x;simp only[Sm.l,Sm.mk.sizeOf_spec];omega
                     omega) hsl.1 hsl.2
 have hS:=ih x.els (by have:SizeOf.sizeOf x.els<SizeOf.sizeOf x:=by cases x;simp only[Sm.els,Sm.mk.sizeOf_spec];omega
                       omega) hsE.1 hsE.2
 have hal:((l.take i).map vC).length=i:=by simp only[uj,uz];omega
 have happ:(l.take i).map vC++[za7 x]=(l.take (i+1)).map vC:=by
  rw[zdD hx,uY,zrU];rfl
 repeat' first|refine gG ?_|refine gB ?_ ?_<;>intro h|refine gI T (zll hx) ?_|refine gC hE ?_|refine gC hL ?_|refine gC hS ?_|refine gT ?_|(refine gY T 102 ((l.take (i+1)).map vC) 96 ?_)
 rw[zC ua]
 exact zf (i+1) ua (mvB 101 102) ua ⟨rfl,⟨rfl,rfl,rfl,rfl,uh⟩,⟨rfl,uh⟩,rfl,λi hi=>zmG ua hi⟩
theorem zfF(v:List Fld)(hv:v.length<=1000000):zk Tryz.prog 188 [pS (yb v)] [] (pS (yb v)) []:=by
 refine gO T Tryz.func188 λC hC=>?_
 have hl:(v.map zM).length=v.length:=uj _
 repeat' first|refine gG ?_|refine gB ?_ ?_<;>intro h
 refine zcQ (rows:=v.map zM) (e:=2) (et:=253) rfl ud rfl (λb hb=>?_)
 repeat' first|refine gG ?_|refine gB ?_ ?_<;>intro h
 ·have hv0:v=[]:=Ud.1 (hb h)
  subst hv0
  exact zt ⟨.inl rfl,id,_,rfl,LeS.one (.nil 2),trivial,rfl,rfl⟩
 ·refine zaU T hC rfl rfl rfl rfl rfl ?_
  repeat' first|refine gG ?_|refine gB ?_ ?_<;>intro h|refine gY T 102 (v.map zM) 32 ?_
  refine gZ 102 [(2,pS (yb v))] [] ?_
  exact gF
def WP(p:Pr):Prop:=p.params.length<=1000000/\p.locs.length<=1000000/\p.body.length<=1000000/\WSs p.body
theorem zcR(p:Pr)(h:WP p):zk Tryz.prog 152 [zm (xc p)] [] (zm (xc p)) []:=by
 have h1:=zfF p.params h.1
 have h2:=zfF p.locs h.2.1
 have h3:=zfE _ p.body (uG _) h.2.2.1 h.2.2.2
 refine gO T Tryz.func152 λC hC=>?_
 repeat' first|refine gG ?_|refine gB ?_ ?_<;>intro h|refine gC h1 ?_|refine gC h2 ?_|refine gC h3 ?_
 exact gF
def zvQ:Pr:=⟨⟨#[]⟩,[],⟨#[]⟩,[],[]⟩
def zaL(d:xo)(s:Str):Option Pr:=d.procs.find? (λp=>decide (p.n=s))
theorem zht{α:Type}{p:α->Bool}: ∀ {l:List α} {i:Nat} {x:α},l[i]?=some x->p x=true->(l.take i).any p=false->l.find? p=some x
 | [],i,x,h,_,_=>by simp at h
 |y::ys,0,x,h,hp,_=>by simp at h;subst h;simp[List.find?,hp]
 |y::ys,i+1,x,h,hp,hn=>by
  simp only[tX,qU,tD]at hn
  simp only[qL]at h
  simp only[List.find?,hn.1]
  exact zht h hp hn.2
theorem zhu{α:Type}{p:α->Bool}: ∀ {l:List α},l.any p=false->l.find? p=none
 | [],_=>rfl
 |y::ys,h=>by
  simp only[qU,tD]at h
  simp only[List.find?,h.1]
  exact zhu h.2
theorem zpe(s:Str)(h:yX d=true)(hw: ∀p∈d.procs,WP p):zk Tryz.prog 115 [zm (vz d),Sr s] []
 (.tup [zm (xc ((zaL d s).getD zvQ)),I (if(zaL d s).isSome then 0 else 12)]) []:=by
 have hV:=zcI d
 rw[h]at hV
 clear h
 refine gO T Tryz.func115 λC hC=>?_
 refine jm rfl 0 3 rfl rfl λhlen=>?_
 rw[uj]at hlen
 repeat' first|refine gG ?_|refine gB ?_ ?_<;>intro h|refine gC hV ?_
 ·exfalso;simp_all;done
 rw[uj]
 refine zn (λi:Nat=>i<=d.procs.length/\(d.procs.take i).any (λt=>decide (t.n=s))=false) (λi=>([(1,Sr s),(4,.one (.bx 1004 0)),(13,pS (.sl 5 (d.procs.map xc))),(14,I d.procs.length),(15,I i)],[(1004,some (Res.box (zV [ZK.str,ZK.slice,ZK.str,ZK.slice,ZK.slice])))])) (λi=>d.procs.length - i) hC
  0 ⟨uA _,ue⟩ id gM ?_
 rintro i ⟨hi,hn⟩
 refine zr T hC true 200 rfl ?_
 refine zu rfl ?_ ?_<;>intro h
 ·have hlt:i<d.procs.length:=by simpa using h
  clear h
  obtain⟨x,hx⟩:=ze hlt
  have hC2:=zcR x (hw x (List.mem_of_getElem? hx))
  repeat' first|refine gG ?_|refine gB ?_ ?_<;>intro h|refine gX ?_|refine gC hC2 ?_|refine zx ?_
  ·have e:zaL d s=some x:=zht hx uf hn
   rw[e]
   exact gF
  ·rw[zC ua]
   refine zf (i+1) ⟨ua,?_⟩ id ua gM
   rw[zd8 hx,hn,oG];assumption
 ·have hge: ¬i<d.procs.length:=by simpa using h
  repeat' first|refine gG ?_|refine gB ?_ ?_<;>intro h|refine zj ?_
  have e:zaL d s=none:=zhu (zgF ua hn)
  rw[e]
  exact zt ⟨.inl rfl,id,_,rfl,LeS.tup (.cons (LeS.agg (.cons (.refl _) (.cons (.nil 2) (.cons (.refl _) (.cons (.nil 2) (.cons (.nil 5) .nil)))))) (.cons (.refl _) .nil)),trivial,rfl,rfl⟩
def sumB{α:Type}(f:α->Nat):List α->Nat
 | []=>0
 |x::r=>f x+sumB f r
theorem v8(f:α->Nat)(a b:List α):sumB f (a++b)=sumB f a+sumB f b:=by
 induction a with
 |nil=>simp[sumB]
 |cons x a ih=>simp only[ta,sumB,ih];omega
def ziN(d:xo):Nat:=sumB (λp=>cntSs p.body) d.procs+sumB (λm=>cntE m.x) d.measures+sumB (λm=>cntE m.x) d.invs+sumB (λm=>cntE m.x) d.pots+sumB (λm=>cntE m.x) d.bounds
theorem zcS: ∀l:List Ex,l.length<=cntEs l
 | []=>by simp
 |e::es=>by have:=zcS es;have:=zpb e;simp only[uI,cntEs];omega
variable {x:Ex}
section
variable {l:List Tok}
theorem ja{j:Nat}(h:xh l f i= .ok x j):i+cntE x<=j:=by
 unfold xh at h
 obtain⟨u,k,h1,h⟩:=zi h
 have:=yl h1
 have:=(ziL (l:=l) f).1 _ _ _ _ h
 omega
theorem zpf{j:Nat}{x:Pr}(h:zdj l f i= .ok x j):i+cntSs x.body<=j:=by
 unfold zdj at h
 obtain⟨n,k1,h1,h⟩:=zi h
 obtain⟨u,k2,h2,h⟩:=zi h
 obtain⟨ps,k3,h3,h⟩:=zi h
 obtain⟨r,k4,h4,h⟩:=zi h
 obtain⟨u2,k5,h5,h⟩:=zi h
 obtain⟨ls,k6,h6,h⟩:=zi h
 obtain⟨b,k7,h7,h⟩:=zi h
 have:=yY h1
 have:=yl h2
 have:=zel _ _ _ _ _ h3
 have:k3<=k4:=by
  rcases zq h4 with⟨_,h4⟩|⟨_,h4⟩
  ·cases h4;exact uG _
  ·have:=zlP h4;omega
 have:=yl h5
 have:=ziv _ _ _ _ _ h6
 have:=(zpd (l:=l) f).1 _ _ _ _ h7
 cases h;simp only[cntSs]at *; omega
theorem zhv{j:Nat}{x:Ms}(h:wN l f i= .ok x j):i+cntE x.x<=j:=by
 unfold wN at h
 obtain⟨n,k1,h1,h⟩:=zi h
 obtain⟨u,k2,h2,h⟩:=zi h
 obtain⟨t,k3,h3,h⟩:=zi h
 obtain⟨u2,k4,h4,h⟩:=zi h
 obtain⟨u3,k5,h5,h⟩:=zi h
 obtain⟨z,k6,h6,h⟩:=zi h
 obtain⟨y,k7,h7,h⟩:=zi h
 have:=yY h1
 have:=yl h2
 have:=yY h3
 have:=yl h4
 have:=yl h5
 have e6:=zrE h6
 have:=ja h7
 have:k5<=k6:=by rw[e6];split<;>omega
 cases h
 show i+cntE y<=_
 omega
theorem zpg{j:Nat}{x:xo}(h:jr l f i d= .ok x j):i+ziN x<=j+ziN d:=by
 unfold jr at h
 rcases zq h with⟨hi,h⟩|⟨_,h⟩
 ·obtain⟨n,k1,h1,h⟩:=zi h
  obtain⟨u,k2,h2,h⟩:=zi h
  obtain⟨fs,k3,h3,h⟩:=zi h
  have:=yY h1
  have:=yl h2
  have:=zel _ _ _ _ _ h3
  cases h;simp only[ziN,v8,sumB,uN]at *; omega
 rcases zq h with⟨hi,h⟩|⟨_,h⟩
 ·obtain⟨n,k1,h1,h⟩:=zi h
  have:=vA h1
  cases h;simp only[ziN,v8,sumB,uN]at *; omega
 rcases zq h with⟨hi,h⟩|⟨_,h⟩
 ·obtain⟨n,k1,h1,h⟩:=zi h
  have:=zpf h1
  cases h;simp only[ziN,v8,sumB,uN]at *; omega
 rcases zq h with⟨hi,h⟩|⟨_,h⟩
 ·obtain⟨n,k1,h1,h⟩:=zi h
  have:=zhv h1
  cases h;simp only[ziN,v8,sumB,uN]at *; omega
 rcases zq h with⟨hi,h⟩|⟨_,h⟩
 ·obtain⟨n,k1,h1,h⟩:=zi h
  obtain⟨t,k2,h2,h⟩:=zi h
  obtain⟨y,k3,h3,h⟩:=zi h
  have:=yY h1
  have:=zrF h2
  have:=ja h3
  cases h;simp only[ziN,v8,sumB,uN]at *; omega
 rcases zq h with⟨hi,h⟩|⟨_,h⟩
 ·obtain⟨t,k2,h2,h⟩:=zi h
  obtain⟨y,k3,h3,h⟩:=zi h
  have:i+1<=k2:=by
   rcases zq h2 with⟨_,h2⟩|⟨_,h2⟩
   ·cases h2;exact uG _
   ·have:=yY h2;omega
  have:=ja h3
  cases h;simp only[ziN,v8,sumB,uN]at *; omega
 rcases zq h with⟨hi,h⟩|⟨_,h⟩
 ·obtain⟨n,k1,h1,h⟩:=zi h
  obtain⟨y,k3,h3,h⟩:=zi h
  have:=yY h1
  have:=ja h3
  cases h;simp only[ziN,v8,sumB,uN]at *; omega
 ·cases h
theorem zfG(f:Nat): ∀(g i:Nat) (d x:xo) (j:Nat),itemsA l f g i d= .ok x j->i+ziN x<=j+ziN d
 |0,i,d,x,j,h=>by simp only[itemsA,reduceCtorEq]at h
 |g+1,i,d,x,j,h=>by
  simp only[itemsA]at h
  rcases zq h with⟨_,h⟩|⟨_,h⟩
  ·cases h;omega
  ·obtain⟨y,k,h1,h⟩:=zi h
   have:=zpg h1
   have:=zfG f g _ _ _ _ h
   omega
theorem zph{j:Nat}{x:xo}(h:zbg l f= .ok x j):ziN x<=j:=by
 unfold zbg at h
 obtain⟨u,k1,h1,h⟩:=zi h
 obtain⟨n,k2,h2,h⟩:=zi h
 obtain⟨u2,k3,h3,h⟩:=zi h
 have:=zfG f _ _ _ _ _ h
 simp only[ziN,sumB]at*
 omega
end
theorem zmJ(x:Sm):1<=cntS x:=by cases x;simp only[cntS];omega
theorem jP: ∀l:List Sm,l.length<=cntSs l
 | []=>by simp
 |x::r=>by have:=jP r;have:=zmJ x;simp only[uI,cntSs];omega
mutual
theorem zwK: ∀x:Ex,cntE x<=1000000->WX x
 | .mk _ _ _ l,h=>by
   simp only[cntE]at h
   simp only[WX]
   have:=zcS l
   exact⟨ua,zrV l ua⟩
theorem zrV: ∀l:List Ex,cntEs l<=1000000->WXs l
 | [],_=>by simp only[WXs]
 |x::r,h=>by
  simp only[cntEs]at h
  simp only[WXs]
  exact⟨zwK x ua,zrV r ua⟩
end
mutual
theorem zwL: ∀x:Sm,cntS x<=1000000->WS x
 | .mk _ _ e l els,h=>by
   simp only[cntS]at h
   simp only[WS]
   have h1:=zcS e
   have h2:=jP l
   have h3:=jP els
   exact⟨⟨ua,zrV e ua⟩,⟨ua,zpi l ua⟩,ua,zpi els ua⟩
theorem zpi: ∀l:List Sm,cntSs l<=1000000->WSs l
 | [],_=>by simp only[WSs]
 |x::r,h=>by
  simp only[cntSs]at h
  simp only[WSs]
  exact⟨zwL x ua,zpi r ua⟩
end
theorem ziO{α:Type}(f:α->Nat): ∀ {l:List α} {x:α},x∈l->f x<=sumB f l
 |y::l,x,h=>by
  simp only[sumB]
  rcases uV.1 h with rfl|h
  ·omega
  ·have:=ziO f h;omega
theorem zko{s:Str}(hv:yX (zO s).1=true): ∀p∈(zO s).1.procs,WP p:=by
 have key: ∀(l:List Tok),l.length<=100000->yX (topD l).1=true-> ∀p∈(topD l).1.procs,WP p:=by
  intro l hl
  unfold topD
  cases hd:zbg l (10*l.length+13)with
  |out=>intro _ p hp;cases hp
  |no j=>simp only;split<;>(intro _ p hp;cases hp)
  |ok x j=>
   simp only
   cases ht:l[j]? with
   |none=>intro _ p hp;cases hp
   |some t=>
    simp only
    by_cases h5:t.k=5
    ·rw[uv h5]
     by_cases hx:yX x=true
     ·rw[uv hx]
      intro _ p hp
      have htot:=zph hd
      have hj:=(ui.1 ht).1
      have hc:cntSs p.body<=100000:=by
       have:=ziO (λp:Pr=>cntSs p.body) hp
       simp only at this
       unfold ziN at htot
       omega
      simp only[yX,uu,List.all_eq_true]at hx
      have hp2:=hx.1.2 p hp
      simp only[x5,xb,uu,ux]at hp2
      have:=jP p.body
      exact⟨ua,ua,ua,zpi _ ua⟩
     ·rw[ur hx];intro _ p hp;cases hp
    ·rw[ur h5];intro _ p hp;cases hp
 unfold zO at hv⊢
 rcases zcN s with⟨l,he,hl,_⟩|⟨⟨q1,q2⟩,e,he,h74⟩
 ·rw[he]at hv⊢
  simp only[qx]at hv⊢
  exact key l hl.len hv
 ·rw[he]at hv⊢
  have h0: ¬e=0:=by omega
  simp only[ur h0]at hv⊢
  intro p hp;cases hp
end Hw.Fr.Ps
