/- The engine and the contracts. -/
import Derived.Test.YtgcfmjlnapcioaaGreatDoorC2
import Derived.Test.YtgcfmjlnapcioaaGreatDoorC3
set_option linter.unusedVariables false
set_option linter.unusedSimpArgs false
namespace Hw.Fr.Ps
open Go Go.Proofs Go.Shelf Hw.M
def ltP(a b:Int×Int):Prop:=a.1<b.1∨a.1=b.1∧a.2<b.2
theorem ltP.trans{a b c:Int×Int}(h:ltP a b)(h2:ltP b c):ltP a c:=by unfold ltP at *; omega
theorem zof(p:Int×Int)(c:UInt8)(_hp:1≤p.2):ltP p (mv p c):=by
 unfold mv ltP;split
 ·left;simp only;omega
 ·right;refine⟨rfl,?_⟩;simp only;omega
theorem zog{p:Int×Int}(c:UInt8)(h:1≤p.1∧1≤p.2):1≤(mv p c).1∧1≤(mv p c).2:=by
 unfold mv;split
 ·simp only;omega
 ·simp only;omega
theorem zj1: ∀(l:By) {p:Int×Int},(1≤p.1∧1≤p.2)→1≤(l.foldl mv p).1∧1≤(l.foldl mv p).2
 | [],_,h=>h
 |c::l,_,h=>zj1 l (zog c h)
theorem zj2: ∀(l:By) {p:Int×Int},(1≤p.1∧1≤p.2)→l≠ []→ltP p (l.foldl mv p)
 | [],_,_,h=>absurd rfl h
 | [c],p,h,_=>zof p c h.2
 |c::d::l,p,h,_=>(zof p c h.2).trans (zj2 (d::l) (zog c h) (by simp))
def xo(t:Tok):Int×Int:=(t.ln,t.cl)
structure zlW (out:List Tok) (p:Int×Int):Prop where
 pos:1≤p.1∧1≤p.2
 each: ∀t∈out,jt t=true∧t.k≠5∧1≤t.ln∧1≤t.cl∧ltP (xo t) p
 asc: ∀(i:Nat) x y,out[i]?=some x→out[i+1]?=some y→ltP (xo x) (xo y)
theorem zlW.move{out:List Tok}{p q:Int×Int}(h:zlW out p)(hq:1≤q.1∧1≤q.2)(hl:ltP p q):zlW out q:=
 ⟨hq,fun t ht=>let ⟨a,b,c,d,e⟩:=h.each t ht;⟨a,b,c,d,e.trans hl⟩,h.asc⟩
theorem zlW.add{out:List Tok}{p q:Int×Int}(h:zlW out p)(hq:1≤q.1∧1≤q.2)(hl:ltP p q){t:Tok}(hv:jt t=true)(h5:t.k≠5)(ht:xo t=p):zlW (out++[t]) q:=by
 refine⟨hq,fun u hu=>?_,fun i x y hx hy=>?_⟩
 ·rcases List.mem_append.1 hu with hu|hu
  ·exact(h.move hq hl).each u hu
  ·obtain rfl:=List.mem_singleton.1 hu
   have e1:u.ln=p.1:=congrArg Prod.fst ht
   have e2:u.cl=p.2:=congrArg Prod.snd ht
   exact⟨hv,h5,by rw[e1];exact h.pos.1,by rw[e2];exact h.pos.2,by rw[ht];exact hl⟩
 ·have hlen:=(List.getElem?_eq_some_iff.1 hy).1
  simp only[List.length_append,List.length_singleton]at hlen
  rw[List.getElem?_append_left (by omega)]at hx
  rcases Nat.lt_or_ge (i+1) out.length with h1|h1
  ·rw[List.getElem?_append_left h1]at hy
   exact h.asc i x y hx hy
  ·rw[List.getElem?_append_right h1,show i+1 - out.length=0 by omega]at hy
   simp only[List.getElem?_cons_zero,Option.some.injEq]at hy
   subst hy
   rw[ht]
   exact(h.each x (List.mem_of_getElem? hx)).2.2.2.2
theorem zh7{w:By}{t:Int×Str×Int}(h:zmi w=some t)(p:Int×Int):jt (xt p t)=true∧(xt p t).k≠5:=by
 unfold zmi at h
 split at h
 ·rename_i hk
  simp only[Option.some.injEq]at h
  subst h
  refine⟨?_,by show(3:Int)≠5;decide⟩
  unfold jt xt
  simp[hk]
 ·split at h
  ·rename_i hk
   simp only[Option.some.injEq]at h
   subst h
   refine⟨?_,by show(1:Int)≠5;decide⟩
   unfold jt xt
   simp[hk]
  ·split at h
   ·rename_i hn
    simp only[Option.some.injEq]at h
    subst h
    refine⟨?_,by show(2:Int)≠5;decide⟩
    unfold zcT at hn
    simp only[Bool.and_eq_true,decide_eq_true_eq]at hn
    have h0:=zpk hn.1.2
    unfold jt xt
    simp only
    simp[h0,hn.2]
   ·cases h
theorem zmH{l:By}{n:Nat}{t:Int×Str×Int}(h:tk l=some (n,some t))(p:Int×Int):jt (xt p t)=true∧(xt p t).k≠5:=by
 cases l with
 |nil=>cases h
 |cons c r=>
  simp only[tk]at h
  split at h
  ·simp at h
  ·split at h
   ·simp at h
   ·split at h
    ·rw[Option.map_eq_some_iff]at h
     obtain⟨u,hu,h⟩:=h
     simp only[Prod.mk.injEq,Option.some.injEq]at h
     rw[←h.2]
     exact zh7 hu p
    ·rw[Option.map_eq_some_iff]at h
     obtain⟨y,hy,h⟩:=h
     simp only[Prod.mk.injEq,Option.some.injEq]at h
     rw[←h.2]
     refine⟨?_,by show(4:Int)≠5;decide⟩
     have:=(zj0 y).2 (zgq hy).1
     unfold jt xt
     simp[this]
theorem zj3: ∀(f:Nat) (l:By) (p:Int×Int) (out:List Tok),l.length<f→zlW out p→
 (∃o q,lx f l p out=(o++[⟨5,(⟨#[]⟩:ByteArray),0,q.1,q.2⟩],(0,0),0)∧zlW o q∧o.length≤out.length+l.length)∨ ∃q,lx f l p out=([],q,7)
 |0,l,_,_,h,_=>absurd h (Nat.not_lt_zero _)
 |f+1,[],p,out,_,h=> .inl ⟨out,p,rfl,h,by simp⟩
 |f+1,c::r,p,out,hf,h=>by
  simp only[lx]
  cases e:tk (c::r)with
  |none=>exact .inr ⟨p,rfl⟩
  |some x=>
   obtain⟨n,o⟩:=x
   have hp:=zi9 e
   simp only[List.length_cons]at hf hp
   have hd:((c::r).drop n).length=r.length+1 - n:=by rw[List.length_drop,List.length_cons]
   have hne:(c::r).take n≠ []:=fun e=>by have:=congrArg List.length e;simp at this;omega
   have hq:=zj1 ((c::r).take n) h.pos
   have hl:=zj2 ((c::r).take n) h.pos hne
   simp only
   cases o with
   |none=>
    rw[show out++((none:Option (Int×Str×Int)).map (xt p)).toList=out by simp]
    rcases zj3 f ((c::r).drop n) (((c::r).take n).foldl mv p) out (by omega) (h.move hq hl)with⟨o',q,e1,e2,e3⟩|h2
    ·exact .inl ⟨o',q,e1,e2,by simp only[List.length_cons];omega⟩
    ·exact .inr h2
   |some t=>
    have hv:=zmH e p
    rw[show out++((some t).map (xt p)).toList=out++[xt p t] by simp]
    rcases zj3 f ((c::r).drop n) (((c::r).take n).foldl mv p) (out++[xt p t]) (by omega) (h.add hq hl hv.1 hv.2 rfl)with⟨o',q,e1,e2,e3⟩|h2
    ·refine .inl ⟨o',q,e1,e2,?_⟩
     simp only[List.length_append,List.length_cons,List.length_nil]at e3 ⊢; omega
    ·exact .inr h2
theorem zd8(s:Str)(hs:s.size≤65536):(∃o q,yR s=(o++[⟨5,(⟨#[]⟩:ByteArray),0,q.1,q.2⟩],(0,0),0)∧zlW o q∧o.length≤s.size)∨ ∃q,yR s=([],q,7):=by
 unfold yR
 rw[if_neg (by omega)]
 rcases zj3 ((lst s).length+1) (lst s) (1,1) [] (Nat.lt_succ_self _) ⟨⟨by decide,by decide⟩,(fun t ht=>by cases ht),(fun i x y hx=>by cases hx)⟩with⟨o,q,e1,e2,e3⟩|h
 ·exact .inl ⟨o,q,e1,e2,by rw[va]at e3;simpa using e3⟩
 ·exact .inr h
theorem zj4{t:Tok}(h:jt t=true):0≤t.n∧t.n≤1099511627776:=by
 unfold jt at h
 repeat' (split at h)
 all_goals first
  |(simp only[Bool.and_eq_true,decide_eq_true_eq]at h;omega)
  |cases h
theorem zmI{o:List Tok}{q:Int×Int}(h:zlW o q)(hl:o.length≤65536):wE (o++[⟨5,(⟨#[]⟩:ByteArray),0,q.1,q.2⟩]):=by
 refine⟨by rw[List.length_append,List.length_singleton];omega,⟨_,by rw[List.length_append,List.length_singleton,Nat.add_sub_cancel,List.getElem?_append_right (Nat.le_refl _),Nat.sub_self];rfl,rfl⟩,fun t ht=>?_⟩
 rcases List.mem_append.1 ht with h1|h1
 ·exact zj4 (h.each t h1).1
 ·obtain rfl:=List.mem_singleton.1 h1
  exact⟨Int.le_refl _,by show(0:Int)≤1099511627776;decide⟩
theorem zbE(s:Str):(∃l,yR s=(l,(0,0),0)∧wE l∧l.length≤s.size+1)∨ ∃q e,yR s=([],q,e)∧(e=7∨e=4):=by
 by_cases hs:s.size≤65536
 ·rcases zd8 s hs with⟨o,q,h1,h2,h3⟩|⟨q,h1⟩
  ·exact .inl ⟨_,h1,zmI h2 (by omega),by rw[List.length_append,List.length_singleton];omega⟩
  ·exact .inr ⟨q,7,h1,.inl rfl⟩
 ·exact .inr ⟨(0,0),4,by unfold yR;rw[if_pos (by omega)],.inr rfl⟩
end Hw.Fr.Ps
namespace Hw.Fr.Ps
open Go Go.Proofs Hw.M
abbrev zsK(p:Int×Int):S:=zz [ki p.1,ki p.2]
section
variable {l:List Tok} (hl:wE l)
include hl
theorem zpn{i:Nat}{t:Tok}(ht:l[i]?=some t)(b:Bool):zj Tryz.prog 150 [rdV] [(0,rdR l i b)] (.tup [zsK (if b=false∧t.k=5 then(0,0)else(t.ln,t.cl)),I (if t.k=5 then if b then 8 else 0 else 7)]) [(0,rdR l i b)]:=by
 have hll:=hl.len
 have hi:=(List.getElem?_eq_some_iff.1 ht).1
 obtain⟨tk,ts,tn,tl,tc⟩:=t
 simp only
 by_cases hk:tk=5
 ·subst hk
  cases b with
  |true=>
   refine gO T Tryz.func150 fun C hC=>?_
   repeat' first|refine gG ?_|(exfalso;simp at h;done)|refine gB (fun h=>?_) (fun h=>?_)|refine gI T (zu ht) ?_|refine gL ?_
   exact gE
  |false=>
   refine gO T Tryz.func150 fun C hC=>?_
   repeat' first|refine gG ?_|(exfalso;simp at h;done)|refine gB (fun h=>?_) (fun h=>?_)|refine gI T (zu ht) ?_|refine gL ?_
   exact gE
 ·simp only[hk,and_false,if_false]
  cases b with
  |true=>
   refine gO T Tryz.func150 fun C hC=>?_
   repeat' first|refine gG ?_|(exfalso;exact absurd (of_decide_eq_true h) hk)|refine gB (fun h=>?_) (fun h=>?_)|refine gI T (zu ht) ?_|refine gL ?_
   exact gE
  |false=>
   refine gO T Tryz.func150 fun C hC=>?_
   repeat' first|refine gG ?_|(exfalso;exact absurd (of_decide_eq_true h) hk)|refine gB (fun h=>?_) (fun h=>?_)|refine gI T (zu ht) ?_|refine gL ?_
   exact gE
end
end Hw.Fr.Ps
namespace Hw.Fr.Ps
open Go Go.Proofs Hw.M
def D0:xk:=⟨(⟨#[]⟩:ByteArray),[],[],[],[],[],[],[]⟩
def topD(l:List Tok):xk×(Int×Int)×Int:=match zcX l (10*l.length+13)with
 | .ok x j=>match l[j]? with
   |some t=>if t.k=5 then if xV x=true then(x,(0,0),0)else(D0,(0,0),4)else(D0,(t.ln,t.cl),7)
   |none=>(D0,(0,0),0)
 | .no j=>match l[j]? with
   |some t=>(D0,(t.ln,t.cl),if t.k=5 then 8 else 7)
   |none=>(D0,(0,0),0)
 | .out=>(D0,(0,0),0)
def xI(s:Str):xk×(Int×Int)×Int:=if(yR s).2.2=0 then topD (yR s).1 else(D0,(yR s).2.1,(yR s).2.2)
def mv7(i:Nat):Nat:=match Nat.ble 101 i&&Nat.ble i 107 with
 |true=>i+100
 |false=>i
theorem zpo{i:Nat}(hi:i<100):mv7 i=i:=by
 unfold mv7
 rw[show Nat.ble 101 i=false from by rw[Bool.eq_false_iff];intro h;have:=Nat.le_of_ble_eq_true h;omega]
 rfl
def dRb(d:xk):RL:=[(1009,.box [.p (ks d.n),.ar 101,.ar 102,.ar 103,.ar 104,.ar 105,.ar 106,.ar 107]),(101,.arr 2 (d.types.map zG)),(102,.arr 2 (d.globals.map zn)),(103,.arr 5 (d.procs.map ye)),(104,.arr 7 (d.measures.map zB)),(105,.arr 6 (d.invs.map w6)),(106,.arr 5 (d.pots.map jg)),(107,.arr 5 (d.bounds.map yC))]
abbrev zD:Res:= .box (zV [ZK.str,ZK.slice,ZK.slice,ZK.slice,ZK.slice,ZK.slice,ZK.slice,ZK.slice])
theorem zpp{l:List Tok}{i:Nat}{a b:Str}(h1:isA l i a=true)(h2:isA l i b=true):a=b:=by
 unfold isA at h1 h2
 split at h1
 ·rename_i t ht
  rw[ht]at h2
  simp only[Bool.and_eq_true,decide_eq_true_eq]at h1 h2
  rw[←h1.2,h2.2]
 ·cases h1
theorem zpq{l:List Tok}{i:Nat}(h:kwI l i=true): ¬isA l i ⟨#[125]⟩=true:=by
 intro h2
 unfold kwI at h
 simp only[Bool.or_eq_true]at h
 rcases h with(((((h|h)|h)|h)|h)|h)|h
 all_goals exact absurd (zpp h h2) (by decide)
theorem zmJ{l:List Tok}{f i:Nat}{d:xk}(h:kwI l i=false):wD l f i d=some (d,i,true):=by
 unfold kwI at h
 simp only[Bool.or_eq_false_iff]at h
 obtain⟨⟨⟨⟨⟨⟨h1,h2⟩,h3⟩,h4⟩,h5⟩,h6⟩,h7⟩:=h
 unfold wD
 rw[h1,h2,h3,h4,h5,h6,h7]
 rfl
theorem yT{p q e:Int}:LeS (.tup [.agg [.p (ks (⟨#[]⟩:ByteArray)),.p (.k (.slice none 0 0)),.p (.k (.slice none 0 0)),.p (.k (.slice none 0 0)),.p (.k (.slice none 0 0)),.p (.k (.slice none 0 0)),.p (.k (.slice none 0 0)),.p (.k (.slice none 0 0))],zsK (p,q),I e]) (.tup [zz (zc1 D0),zsK (p,q),I e]):=
 .tup (.cons (.agg (.cons (.refl _) (.cons (.nil 2) (.cons (.nil 2) (.cons (.nil 5) (.cons (.nil 7) (.cons (.nil 6) (.cons (.nil 5) (.cons (.nil 5) .nil))))))))) (.cons (.refl _) (.cons (.refl _) .nil)))
def zpr(b:Bool)(t:Tok)(x:xk):xk×(Int×Int)×Int:=match b with
 |true=>(D0,(t.ln,t.cl),if t.k=5 then 8 else 7)
 |false=>if t.k=5 then if xV x=true then(x,(0,0),0)else(D0,(0,0),4)else(D0,(t.ln,t.cl),7)
set_option maxHeartbeats 2000000 in
theorem zb7(s:Str)(hs:s.size≤1000000):zj Tryz.prog 114 [Sr s] [] (.tup [zz (zc1 (xI s).1),zsK (xI s).2.1,I (xI s).2.2]) []:=by
 have hT:=zd7 s hs
 unfold xI
 rcases zbE s with⟨l,he,hl,_⟩|⟨⟨q1,q2⟩,e,he,h74⟩
 rotate_left
 ·rw[he]at hT⊢
  simp only at hT⊢
  have h0: ¬e=0:=by omega
  rw[if_neg h0]
  refine gO T Tryz.func114 fun C hC=>?_
  repeat' first|refine gG ?_|(exfalso;exact absurd (by simpa using h) h0)|refine gB (fun h=>?_) (fun h=>?_)|refine gC hT ?_|refine gL ?_
  exact zg ⟨.inl rfl,id,_,rfl,yT,trivial,rfl,rfl⟩
 rw[he]at hT⊢
 simp only[if_true]at hT⊢
 have hll:=hl.len
 have h0:0<l.length:=by
  obtain⟨t,ht,_⟩:=hl.fin
  have:=(List.getElem?_eq_some_iff.1 ht).1
  omega
 unfold topD
 generalize hF:10*l.length+13=F
 have hout:=zmo (l:=l) (f:=F) (by omega)
 have hJ:=zpb (l:=l) F
 cases hx:zo8 l F with
 |none=>rw[hx]at hJ;exact absurd hJ.symm hout
 |some q=>
 obtain⟨xf,jf,bf⟩:=q
 obtain⟨_,k1,b1,e1,hR1⟩:=tgo (b:=false) (w:=D0) (k:=0) hx () rfl
 obtain⟨hk1,c1⟩:=wH hl h0 false _ _ _ _ e1
 obtain⟨n,k2,b2,e2,hR2⟩:=tgo hR1 (⟨#[]⟩:ByteArray) rfl
 obtain⟨hk2,c2⟩:=vm hl hk1 b1 _ _ _ e2
 obtain⟨_,k3,b3,e3,hR3⟩:=tgo hR2 () rfl
 obtain⟨hk3,c3⟩:=wH hl hk2 b2 _ _ _ _ e3
 have hjf:jf<l.length:=by
  cases b3 with
  |true=>cases hR3;exact hk3
  |false=>exact zgx hl F _ _ _ hk3 _ _ _ hR3
 obtain⟨t,ht⟩:=zf hjf
 have hEnd:=zpn hl ht bf
 rw[hx]at hJ
 clear e1 e2 e3 hR1 hR2 hx
 have hA:(match zcX l F with
  | .ok x j=>match l[j]? with
    |some t=>if t.k=5 then if xV x=true then(x,(0,0),0)else(D0,(0,0),4)else(D0,(t.ln,t.cl),7)
    |none=>(D0,(0,0),0)
  | .no j=>match l[j]? with
    |some t=>(D0,(t.ln,t.cl),if t.k=5 then 8 else 7)
    |none=>(D0,(0,0),0)
  | .out=>(D0,(0,0),0))=zpr bf t xf:=by
  rw[←hJ]
  cases bf with
  |true=>simp only[PJ.er,ht];rfl
  |false=>simp only[PJ.er,ht];rfl
 rw[hA]
 clear hA hJ hout
 refine gO T Tryz.func114 fun C hC=>?_
 repeat' first|refine gG ?_|(exfalso;simp at h;done)|refine gB (fun h=>?_) (fun h=>?_)|refine gC hT ?_|refine gR c1 (nm [1025]) ?_|refine gR c2 (nm [1025]) ?_|refine gR c3 (nm [1025]) ?_
 refine yo hC rfl 101 2 rfl [] trivial [(1009,[.p (ks n),.ar 101,.p (.k (.slice none 0 0)),.p (.k (.slice none 0 0)),.p (.k (.slice none 0 0)),.p (.k (.slice none 0 0)),.p (.k (.slice none 0 0)),.p (.k (.slice none 0 0))])] ⟨⟨_,rfl,by decide,.cons (.refl _) (.cons (.nil) (.cons (.refl _) (.cons (.refl _) (.cons (.refl _) (.cons (.refl _) (.cons (.refl _) (.cons (.refl _) .nil)))))))⟩,trivial⟩ ?_
 refine yo hC rfl 102 2 rfl [] trivial [(1009,[.p (ks n),.ar 101,.ar 102,.p (.k (.slice none 0 0)),.p (.k (.slice none 0 0)),.p (.k (.slice none 0 0)),.p (.k (.slice none 0 0)),.p (.k (.slice none 0 0))])] ⟨⟨_,rfl,by decide,.cons (.refl _) (.cons (.refl _) (.cons (.nil) (.cons (.refl _) (.cons (.refl _) (.cons (.refl _) (.cons (.refl _) (.cons (.refl _) .nil)))))))⟩,trivial⟩ ?_
 refine yo hC rfl 103 5 rfl [] trivial [(1009,[.p (ks n),.ar 101,.ar 102,.ar 103,.p (.k (.slice none 0 0)),.p (.k (.slice none 0 0)),.p (.k (.slice none 0 0)),.p (.k (.slice none 0 0))])] ⟨⟨_,rfl,by decide,.cons (.refl _) (.cons (.refl _) (.cons (.refl _) (.cons (.nil) (.cons (.refl _) (.cons (.refl _) (.cons (.refl _) (.cons (.refl _) .nil)))))))⟩,trivial⟩ ?_
 refine yo hC rfl 104 7 rfl [] trivial [(1009,[.p (ks n),.ar 101,.ar 102,.ar 103,.ar 104,.p (.k (.slice none 0 0)),.p (.k (.slice none 0 0)),.p (.k (.slice none 0 0))])] ⟨⟨_,rfl,by decide,.cons (.refl _) (.cons (.refl _) (.cons (.refl _) (.cons (.refl _) (.cons (.nil) (.cons (.refl _) (.cons (.refl _) (.cons (.refl _) .nil)))))))⟩,trivial⟩ ?_
 refine yo hC rfl 105 6 rfl [] trivial [(1009,[.p (ks n),.ar 101,.ar 102,.ar 103,.ar 104,.ar 105,.p (.k (.slice none 0 0)),.p (.k (.slice none 0 0))])] ⟨⟨_,rfl,by decide,.cons (.refl _) (.cons (.refl _) (.cons (.refl _) (.cons (.refl _) (.cons (.refl _) (.cons (.nil) (.cons (.refl _) (.cons (.refl _) .nil)))))))⟩,trivial⟩ ?_
 refine yo hC rfl 106 5 rfl [] trivial [(1009,[.p (ks n),.ar 101,.ar 102,.ar 103,.ar 104,.ar 105,.ar 106,.p (.k (.slice none 0 0))])] ⟨⟨_,rfl,by decide,.cons (.refl _) (.cons (.refl _) (.cons (.refl _) (.cons (.refl _) (.cons (.refl _) (.cons (.refl _) (.cons (.nil) (.cons (.refl _) .nil)))))))⟩,trivial⟩ ?_
 refine yo hC rfl 107 5 rfl [] trivial [(1009,[.p (ks n),.ar 101,.ar 102,.ar 103,.ar 104,.ar 105,.ar 106,.ar 107])] ⟨⟨_,rfl,by decide,.cons (.refl _) (.cons (.refl _) (.cons (.refl _) (.cons (.refl _) (.cons (.refl _) (.cons (.refl _) (.cons (.refl _) (.cons (.nil) .nil)))))))⟩,trivial⟩ ?_
 refine zy (fun q:xk×Nat×Bool×Nat=>q.2.1<l.length∧wO q.1+q.2.2.2≤F∧tJ q.2.2.1 q.1 q.2.1 (itemsJ l F q.2.2.2 q.2.1 q.1)=some (xf,jf,bf))
  (fun q=>([(2,.one (.bx 1002 0)),(3,.one (.bx 1003 0)),(8,.one (.bx 1025 0)),(9,.one (.bx 1009 0))],(1002,some zD)::(1003,some (Res.box (zV [ZK.int .i64,ZK.int .i64])))::(1025,some (rdR l q.2.1 q.2.2.1))::tb (dRb q.1))) (fun q=>q.2.2.2) hC
  (⟨n,[],[],[],[],[],[],[]⟩,k3,b3,F) ⟨hk3,Nat.le_of_eq (Nat.zero_add _),hR3⟩ id gM ?_
 clear hR3 hk3 c1 c2 c3 hT
 rintro⟨d,k,b,g⟩ ⟨hk,hcd,hd⟩
 simp only at hk hcd hd
 by_cases hkw:b=false∧kwI l k=true
 ·obtain⟨rfl,hkw⟩:=hkw
  cases g with
  |zero=>simp only[tJ,itemsJ]at hd;cases hd
  |succ g=>
   have hnb:=zpq hkw
   simp only[tJ,itemsJ]at hd
   rw[if_neg hnb]at hd
   obtain⟨d2,j2,b2,e4,hd2⟩:=tgo (b:=false) (w:=d) (k:=k) hd d rfl
   obtain⟨hj2,hc2,hI⟩:=zmB hl F k d hk (by omega) e4 hkw
   repeat' first|refine gG ?_|(exfalso;simp at h;done)|refine gB (fun h=>?_) (fun h=>?_)|refine gR hI (nm [1025,1009,101,102,103,104,105,106,107,201,202,203,204,205,206,207]) ?_
   exact zh (d2,j2,b2,g) ⟨hj2,by simp only;omega,hd2⟩ mv7 (Nat.lt_succ_self _) ⟨rfl,⟨rfl,rfl,rfl,rfl,trivial⟩,⟨rfl,rfl,rfl,rfl,rfl,rfl,rfl,rfl,rfl,rfl,rfl,trivial⟩,rfl,fun i hi=>zpo hi⟩
 ·cases b with
  |true=>
   have hfin:xf=d∧jf=k∧bf=true:=by cases hd;exact⟨rfl,rfl,rfl⟩
   obtain⟨rfl,rfl,rfl⟩:=hfin
   clear hd
   have hTk:=yi hl jf hk ⟨#[125]⟩
   have hV:=vl xf
   by_cases h5:t.k=5
   ·simp only[zpr,h5,if_true,Bool.true_eq_false,reduceCtorEq,false_and,if_false]at hEnd⊢
    repeat' first|refine gG ?_|(exfalso;simp at h;done)|refine gB (fun h=>?_) (fun h=>?_)|refine zp ?_|refine gR hTk (nm [1025]) ?_
    refine zm rfl (id:=101) (e:=2) (rows:=xf.types.map zG) rfl [] trivial [(1009,[.p (ks xf.n),.p (.sl 2 (xf.types.map zG)),.ar 102,.ar 103,.ar 104,.ar 105,.ar 106,.ar 107])] ⟨⟨_,rfl,by decide,.cons (.refl _) (.cons (.ar) (.cons (.refl _) (.cons (.refl _) (.cons (.refl _) (.cons (.refl _) (.cons (.refl _) (.cons (.refl _) .nil)))))))⟩,trivial⟩ ?_
    refine zm rfl (id:=102) (e:=2) (rows:=xf.globals.map zn) rfl [] trivial [(1009,[.p (ks xf.n),.p (.sl 2 (xf.types.map zG)),.p (.sl 2 (xf.globals.map zn)),.ar 103,.ar 104,.ar 105,.ar 106,.ar 107])] ⟨⟨_,rfl,by decide,.cons (.refl _) (.cons (.refl _) (.cons (.ar) (.cons (.refl _) (.cons (.refl _) (.cons (.refl _) (.cons (.refl _) (.cons (.refl _) .nil)))))))⟩,trivial⟩ ?_
    refine zm rfl (id:=103) (e:=5) (rows:=xf.procs.map ye) rfl [] trivial [(1009,[.p (ks xf.n),.p (.sl 2 (xf.types.map zG)),.p (.sl 2 (xf.globals.map zn)),.p (.sl 5 (xf.procs.map ye)),.ar 104,.ar 105,.ar 106,.ar 107])] ⟨⟨_,rfl,by decide,.cons (.refl _) (.cons (.refl _) (.cons (.refl _) (.cons (.ar) (.cons (.refl _) (.cons (.refl _) (.cons (.refl _) (.cons (.refl _) .nil)))))))⟩,trivial⟩ ?_
    refine zm rfl (id:=104) (e:=7) (rows:=xf.measures.map zB) rfl [] trivial [(1009,[.p (ks xf.n),.p (.sl 2 (xf.types.map zG)),.p (.sl 2 (xf.globals.map zn)),.p (.sl 5 (xf.procs.map ye)),.p (.sl 7 (xf.measures.map zB)),.ar 105,.ar 106,.ar 107])] ⟨⟨_,rfl,by decide,.cons (.refl _) (.cons (.refl _) (.cons (.refl _) (.cons (.refl _) (.cons (.ar) (.cons (.refl _) (.cons (.refl _) (.cons (.refl _) .nil)))))))⟩,trivial⟩ ?_
    refine zm rfl (id:=105) (e:=6) (rows:=xf.invs.map w6) rfl [] trivial [(1009,[.p (ks xf.n),.p (.sl 2 (xf.types.map zG)),.p (.sl 2 (xf.globals.map zn)),.p (.sl 5 (xf.procs.map ye)),.p (.sl 7 (xf.measures.map zB)),.p (.sl 6 (xf.invs.map w6)),.ar 106,.ar 107])] ⟨⟨_,rfl,by decide,.cons (.refl _) (.cons (.refl _) (.cons (.refl _) (.cons (.refl _) (.cons (.refl _) (.cons (.ar) (.cons (.refl _) (.cons (.refl _) .nil)))))))⟩,trivial⟩ ?_
    refine zm rfl (id:=106) (e:=5) (rows:=xf.pots.map jg) rfl [] trivial [(1009,[.p (ks xf.n),.p (.sl 2 (xf.types.map zG)),.p (.sl 2 (xf.globals.map zn)),.p (.sl 5 (xf.procs.map ye)),.p (.sl 7 (xf.measures.map zB)),.p (.sl 6 (xf.invs.map w6)),.p (.sl 5 (xf.pots.map jg)),.ar 107])] ⟨⟨_,rfl,by decide,.cons (.refl _) (.cons (.refl _) (.cons (.refl _) (.cons (.refl _) (.cons (.refl _) (.cons (.refl _) (.cons (.ar) (.cons (.refl _) .nil)))))))⟩,trivial⟩ ?_
    refine zm rfl (id:=107) (e:=5) (rows:=xf.bounds.map yC) rfl [] trivial [(1009,[.p (ks xf.n),.p (.sl 2 (xf.types.map zG)),.p (.sl 2 (xf.globals.map zn)),.p (.sl 5 (xf.procs.map ye)),.p (.sl 7 (xf.measures.map zB)),.p (.sl 6 (xf.invs.map w6)),.p (.sl 5 (xf.pots.map jg)),.p (.sl 5 (xf.bounds.map yC))])] ⟨⟨_,rfl,by decide,.cons (.refl _) (.cons (.refl _) (.cons (.refl _) (.cons (.refl _) (.cons (.refl _) (.cons (.refl _) (.cons (.refl _) (.cons (.ar) .nil)))))))⟩,trivial⟩ ?_
    repeat' first|refine gG ?_|(exfalso;simp at h;done)|refine gB (fun h=>?_) (fun h=>?_)|refine gR hEnd (nm [1025]) ?_|refine gC hV ?_|refine gL ?_
    exact zg ⟨.inl rfl,id,_,rfl,yT,trivial,rfl,rfl⟩
   ·simp only[zpr,h5,if_true,reduceCtorEq,false_and,if_false]at hEnd⊢
    repeat' first|refine gG ?_|(exfalso;simp at h;done)|refine gB (fun h=>?_) (fun h=>?_)|refine zp ?_|refine gR hTk (nm [1025]) ?_
    refine zm rfl (id:=101) (e:=2) (rows:=xf.types.map zG) rfl [] trivial [(1009,[.p (ks xf.n),.p (.sl 2 (xf.types.map zG)),.ar 102,.ar 103,.ar 104,.ar 105,.ar 106,.ar 107])] ⟨⟨_,rfl,by decide,.cons (.refl _) (.cons (.ar) (.cons (.refl _) (.cons (.refl _) (.cons (.refl _) (.cons (.refl _) (.cons (.refl _) (.cons (.refl _) .nil)))))))⟩,trivial⟩ ?_
    refine zm rfl (id:=102) (e:=2) (rows:=xf.globals.map zn) rfl [] trivial [(1009,[.p (ks xf.n),.p (.sl 2 (xf.types.map zG)),.p (.sl 2 (xf.globals.map zn)),.ar 103,.ar 104,.ar 105,.ar 106,.ar 107])] ⟨⟨_,rfl,by decide,.cons (.refl _) (.cons (.refl _) (.cons (.ar) (.cons (.refl _) (.cons (.refl _) (.cons (.refl _) (.cons (.refl _) (.cons (.refl _) .nil)))))))⟩,trivial⟩ ?_
    refine zm rfl (id:=103) (e:=5) (rows:=xf.procs.map ye) rfl [] trivial [(1009,[.p (ks xf.n),.p (.sl 2 (xf.types.map zG)),.p (.sl 2 (xf.globals.map zn)),.p (.sl 5 (xf.procs.map ye)),.ar 104,.ar 105,.ar 106,.ar 107])] ⟨⟨_,rfl,by decide,.cons (.refl _) (.cons (.refl _) (.cons (.refl _) (.cons (.ar) (.cons (.refl _) (.cons (.refl _) (.cons (.refl _) (.cons (.refl _) .nil)))))))⟩,trivial⟩ ?_
    refine zm rfl (id:=104) (e:=7) (rows:=xf.measures.map zB) rfl [] trivial [(1009,[.p (ks xf.n),.p (.sl 2 (xf.types.map zG)),.p (.sl 2 (xf.globals.map zn)),.p (.sl 5 (xf.procs.map ye)),.p (.sl 7 (xf.measures.map zB)),.ar 105,.ar 106,.ar 107])] ⟨⟨_,rfl,by decide,.cons (.refl _) (.cons (.refl _) (.cons (.refl _) (.cons (.refl _) (.cons (.ar) (.cons (.refl _) (.cons (.refl _) (.cons (.refl _) .nil)))))))⟩,trivial⟩ ?_
    refine zm rfl (id:=105) (e:=6) (rows:=xf.invs.map w6) rfl [] trivial [(1009,[.p (ks xf.n),.p (.sl 2 (xf.types.map zG)),.p (.sl 2 (xf.globals.map zn)),.p (.sl 5 (xf.procs.map ye)),.p (.sl 7 (xf.measures.map zB)),.p (.sl 6 (xf.invs.map w6)),.ar 106,.ar 107])] ⟨⟨_,rfl,by decide,.cons (.refl _) (.cons (.refl _) (.cons (.refl _) (.cons (.refl _) (.cons (.refl _) (.cons (.ar) (.cons (.refl _) (.cons (.refl _) .nil)))))))⟩,trivial⟩ ?_
    refine zm rfl (id:=106) (e:=5) (rows:=xf.pots.map jg) rfl [] trivial [(1009,[.p (ks xf.n),.p (.sl 2 (xf.types.map zG)),.p (.sl 2 (xf.globals.map zn)),.p (.sl 5 (xf.procs.map ye)),.p (.sl 7 (xf.measures.map zB)),.p (.sl 6 (xf.invs.map w6)),.p (.sl 5 (xf.pots.map jg)),.ar 107])] ⟨⟨_,rfl,by decide,.cons (.refl _) (.cons (.refl _) (.cons (.refl _) (.cons (.refl _) (.cons (.refl _) (.cons (.refl _) (.cons (.ar) (.cons (.refl _) .nil)))))))⟩,trivial⟩ ?_
    refine zm rfl (id:=107) (e:=5) (rows:=xf.bounds.map yC) rfl [] trivial [(1009,[.p (ks xf.n),.p (.sl 2 (xf.types.map zG)),.p (.sl 2 (xf.globals.map zn)),.p (.sl 5 (xf.procs.map ye)),.p (.sl 7 (xf.measures.map zB)),.p (.sl 6 (xf.invs.map w6)),.p (.sl 5 (xf.pots.map jg)),.p (.sl 5 (xf.bounds.map yC))])] ⟨⟨_,rfl,by decide,.cons (.refl _) (.cons (.refl _) (.cons (.refl _) (.cons (.refl _) (.cons (.refl _) (.cons (.refl _) (.cons (.refl _) (.cons (.ar) .nil)))))))⟩,trivial⟩ ?_
    repeat' first|refine gG ?_|(exfalso;simp at h;done)|refine gB (fun h=>?_) (fun h=>?_)|refine gR hEnd (nm [1025]) ?_|refine gC hV ?_|refine gL ?_
    exact zg ⟨.inl rfl,id,_,rfl,yT,trivial,rfl,rfl⟩
  |false=>
   have hkw':kwI l k=false:=by rw[←Bool.not_eq_true];exact fun h=>hkw ⟨rfl,h⟩
   have hfin:vi l ⟨#[125]⟩ k=some ((),jf,bf)∧xf=d:=by
    cases g with
    |zero=>simp only[tJ,itemsJ]at hd;cases hd
    |succ g=>
     simp only[tJ,itemsJ]at hd
     unfold vi
     by_cases hq:isA l k ⟨#[125]⟩=true
     ·rw[if_pos hq]at hd ⊢; cases hd;exact⟨rfl,rfl⟩
     ·rw[if_neg hq,zmJ hkw']at hd
      rw[if_neg hq]
      cases hd;exact⟨rfl,rfl⟩
   obtain⟨ho,rfl⟩:=hfin
   obtain⟨_,hTk⟩:=xu hl k hk _ _ _ _ ho
   clear hd ho hkw
   have hV:=vl xf
   cases bf with
   |true=>
    by_cases h5:t.k=5
    ·simp only[zpr,h5,if_true,Bool.true_eq_false,reduceCtorEq,false_and,if_false]at hEnd⊢
     repeat' first|refine gG ?_|(exfalso;simp at h;done)|refine gB (fun h=>?_) (fun h=>?_)|refine zr hC ((jW hl 0 _ _ hk (by assumption))) (nm [1025,1009,101,102,103,104,105,106,107]) rfl rfl (yJ.refl _) rfl rfl rfl rfl rfl rfl rfl rfl ?_|refine zp ?_|refine gR hTk (nm [1025]) ?_
     refine zm rfl (id:=101) (e:=2) (rows:=xf.types.map zG) rfl [] trivial [(1009,[.p (ks xf.n),.p (.sl 2 (xf.types.map zG)),.ar 102,.ar 103,.ar 104,.ar 105,.ar 106,.ar 107])] ⟨⟨_,rfl,by decide,.cons (.refl _) (.cons (.ar) (.cons (.refl _) (.cons (.refl _) (.cons (.refl _) (.cons (.refl _) (.cons (.refl _) (.cons (.refl _) .nil)))))))⟩,trivial⟩ ?_
     refine zm rfl (id:=102) (e:=2) (rows:=xf.globals.map zn) rfl [] trivial [(1009,[.p (ks xf.n),.p (.sl 2 (xf.types.map zG)),.p (.sl 2 (xf.globals.map zn)),.ar 103,.ar 104,.ar 105,.ar 106,.ar 107])] ⟨⟨_,rfl,by decide,.cons (.refl _) (.cons (.refl _) (.cons (.ar) (.cons (.refl _) (.cons (.refl _) (.cons (.refl _) (.cons (.refl _) (.cons (.refl _) .nil)))))))⟩,trivial⟩ ?_
     refine zm rfl (id:=103) (e:=5) (rows:=xf.procs.map ye) rfl [] trivial [(1009,[.p (ks xf.n),.p (.sl 2 (xf.types.map zG)),.p (.sl 2 (xf.globals.map zn)),.p (.sl 5 (xf.procs.map ye)),.ar 104,.ar 105,.ar 106,.ar 107])] ⟨⟨_,rfl,by decide,.cons (.refl _) (.cons (.refl _) (.cons (.refl _) (.cons (.ar) (.cons (.refl _) (.cons (.refl _) (.cons (.refl _) (.cons (.refl _) .nil)))))))⟩,trivial⟩ ?_
     refine zm rfl (id:=104) (e:=7) (rows:=xf.measures.map zB) rfl [] trivial [(1009,[.p (ks xf.n),.p (.sl 2 (xf.types.map zG)),.p (.sl 2 (xf.globals.map zn)),.p (.sl 5 (xf.procs.map ye)),.p (.sl 7 (xf.measures.map zB)),.ar 105,.ar 106,.ar 107])] ⟨⟨_,rfl,by decide,.cons (.refl _) (.cons (.refl _) (.cons (.refl _) (.cons (.refl _) (.cons (.ar) (.cons (.refl _) (.cons (.refl _) (.cons (.refl _) .nil)))))))⟩,trivial⟩ ?_
     refine zm rfl (id:=105) (e:=6) (rows:=xf.invs.map w6) rfl [] trivial [(1009,[.p (ks xf.n),.p (.sl 2 (xf.types.map zG)),.p (.sl 2 (xf.globals.map zn)),.p (.sl 5 (xf.procs.map ye)),.p (.sl 7 (xf.measures.map zB)),.p (.sl 6 (xf.invs.map w6)),.ar 106,.ar 107])] ⟨⟨_,rfl,by decide,.cons (.refl _) (.cons (.refl _) (.cons (.refl _) (.cons (.refl _) (.cons (.refl _) (.cons (.ar) (.cons (.refl _) (.cons (.refl _) .nil)))))))⟩,trivial⟩ ?_
     refine zm rfl (id:=106) (e:=5) (rows:=xf.pots.map jg) rfl [] trivial [(1009,[.p (ks xf.n),.p (.sl 2 (xf.types.map zG)),.p (.sl 2 (xf.globals.map zn)),.p (.sl 5 (xf.procs.map ye)),.p (.sl 7 (xf.measures.map zB)),.p (.sl 6 (xf.invs.map w6)),.p (.sl 5 (xf.pots.map jg)),.ar 107])] ⟨⟨_,rfl,by decide,.cons (.refl _) (.cons (.refl _) (.cons (.refl _) (.cons (.refl _) (.cons (.refl _) (.cons (.refl _) (.cons (.ar) (.cons (.refl _) .nil)))))))⟩,trivial⟩ ?_
     refine zm rfl (id:=107) (e:=5) (rows:=xf.bounds.map yC) rfl [] trivial [(1009,[.p (ks xf.n),.p (.sl 2 (xf.types.map zG)),.p (.sl 2 (xf.globals.map zn)),.p (.sl 5 (xf.procs.map ye)),.p (.sl 7 (xf.measures.map zB)),.p (.sl 6 (xf.invs.map w6)),.p (.sl 5 (xf.pots.map jg)),.p (.sl 5 (xf.bounds.map yC))])] ⟨⟨_,rfl,by decide,.cons (.refl _) (.cons (.refl _) (.cons (.refl _) (.cons (.refl _) (.cons (.refl _) (.cons (.refl _) (.cons (.refl _) (.cons (.ar) .nil)))))))⟩,trivial⟩ ?_
     repeat' first|refine gG ?_|(exfalso;simp at h;done)|refine gB (fun h=>?_) (fun h=>?_)|refine gR hEnd (nm [1025]) ?_|refine gC hV ?_|refine gL ?_
     exact zg ⟨.inl rfl,id,_,rfl,yT,trivial,rfl,rfl⟩
    ·simp only[zpr,h5,if_true,reduceCtorEq,false_and,if_false]at hEnd⊢
     repeat' first|refine gG ?_|(exfalso;simp at h;done)|refine gB (fun h=>?_) (fun h=>?_)|refine zr hC ((jW hl 0 _ _ hk (by assumption))) (nm [1025,1009,101,102,103,104,105,106,107]) rfl rfl (yJ.refl _) rfl rfl rfl rfl rfl rfl rfl rfl ?_|refine zp ?_|refine gR hTk (nm [1025]) ?_
     refine zm rfl (id:=101) (e:=2) (rows:=xf.types.map zG) rfl [] trivial [(1009,[.p (ks xf.n),.p (.sl 2 (xf.types.map zG)),.ar 102,.ar 103,.ar 104,.ar 105,.ar 106,.ar 107])] ⟨⟨_,rfl,by decide,.cons (.refl _) (.cons (.ar) (.cons (.refl _) (.cons (.refl _) (.cons (.refl _) (.cons (.refl _) (.cons (.refl _) (.cons (.refl _) .nil)))))))⟩,trivial⟩ ?_
     refine zm rfl (id:=102) (e:=2) (rows:=xf.globals.map zn) rfl [] trivial [(1009,[.p (ks xf.n),.p (.sl 2 (xf.types.map zG)),.p (.sl 2 (xf.globals.map zn)),.ar 103,.ar 104,.ar 105,.ar 106,.ar 107])] ⟨⟨_,rfl,by decide,.cons (.refl _) (.cons (.refl _) (.cons (.ar) (.cons (.refl _) (.cons (.refl _) (.cons (.refl _) (.cons (.refl _) (.cons (.refl _) .nil)))))))⟩,trivial⟩ ?_
     refine zm rfl (id:=103) (e:=5) (rows:=xf.procs.map ye) rfl [] trivial [(1009,[.p (ks xf.n),.p (.sl 2 (xf.types.map zG)),.p (.sl 2 (xf.globals.map zn)),.p (.sl 5 (xf.procs.map ye)),.ar 104,.ar 105,.ar 106,.ar 107])] ⟨⟨_,rfl,by decide,.cons (.refl _) (.cons (.refl _) (.cons (.refl _) (.cons (.ar) (.cons (.refl _) (.cons (.refl _) (.cons (.refl _) (.cons (.refl _) .nil)))))))⟩,trivial⟩ ?_
     refine zm rfl (id:=104) (e:=7) (rows:=xf.measures.map zB) rfl [] trivial [(1009,[.p (ks xf.n),.p (.sl 2 (xf.types.map zG)),.p (.sl 2 (xf.globals.map zn)),.p (.sl 5 (xf.procs.map ye)),.p (.sl 7 (xf.measures.map zB)),.ar 105,.ar 106,.ar 107])] ⟨⟨_,rfl,by decide,.cons (.refl _) (.cons (.refl _) (.cons (.refl _) (.cons (.refl _) (.cons (.ar) (.cons (.refl _) (.cons (.refl _) (.cons (.refl _) .nil)))))))⟩,trivial⟩ ?_
     refine zm rfl (id:=105) (e:=6) (rows:=xf.invs.map w6) rfl [] trivial [(1009,[.p (ks xf.n),.p (.sl 2 (xf.types.map zG)),.p (.sl 2 (xf.globals.map zn)),.p (.sl 5 (xf.procs.map ye)),.p (.sl 7 (xf.measures.map zB)),.p (.sl 6 (xf.invs.map w6)),.ar 106,.ar 107])] ⟨⟨_,rfl,by decide,.cons (.refl _) (.cons (.refl _) (.cons (.refl _) (.cons (.refl _) (.cons (.refl _) (.cons (.ar) (.cons (.refl _) (.cons (.refl _) .nil)))))))⟩,trivial⟩ ?_
     refine zm rfl (id:=106) (e:=5) (rows:=xf.pots.map jg) rfl [] trivial [(1009,[.p (ks xf.n),.p (.sl 2 (xf.types.map zG)),.p (.sl 2 (xf.globals.map zn)),.p (.sl 5 (xf.procs.map ye)),.p (.sl 7 (xf.measures.map zB)),.p (.sl 6 (xf.invs.map w6)),.p (.sl 5 (xf.pots.map jg)),.ar 107])] ⟨⟨_,rfl,by decide,.cons (.refl _) (.cons (.refl _) (.cons (.refl _) (.cons (.refl _) (.cons (.refl _) (.cons (.refl _) (.cons (.ar) (.cons (.refl _) .nil)))))))⟩,trivial⟩ ?_
     refine zm rfl (id:=107) (e:=5) (rows:=xf.bounds.map yC) rfl [] trivial [(1009,[.p (ks xf.n),.p (.sl 2 (xf.types.map zG)),.p (.sl 2 (xf.globals.map zn)),.p (.sl 5 (xf.procs.map ye)),.p (.sl 7 (xf.measures.map zB)),.p (.sl 6 (xf.invs.map w6)),.p (.sl 5 (xf.pots.map jg)),.p (.sl 5 (xf.bounds.map yC))])] ⟨⟨_,rfl,by decide,.cons (.refl _) (.cons (.refl _) (.cons (.refl _) (.cons (.refl _) (.cons (.refl _) (.cons (.refl _) (.cons (.refl _) (.cons (.ar) .nil)))))))⟩,trivial⟩ ?_
     repeat' first|refine gG ?_|(exfalso;simp at h;done)|refine gB (fun h=>?_) (fun h=>?_)|refine gR hEnd (nm [1025]) ?_|refine gC hV ?_|refine gL ?_
     exact zg ⟨.inl rfl,id,_,rfl,yT,trivial,rfl,rfl⟩
   |false=>
    by_cases h5:t.k=5
    ·simp only[zpr,h5,and_self,if_true,Bool.false_eq_true,if_false]at hEnd⊢
     by_cases hv:xV xf=true
     ·rw[if_pos hv]
      rw[hv]at hV
      repeat' first|refine gG ?_|(exfalso;simp at h;done)|refine gB (fun h=>?_) (fun h=>?_)|refine zr hC ((jW hl 0 _ _ hk (by assumption))) (nm [1025,1009,101,102,103,104,105,106,107]) rfl rfl (yJ.refl _) rfl rfl rfl rfl rfl rfl rfl rfl ?_|refine zp ?_|refine gR hTk (nm [1025]) ?_
      refine zm rfl (id:=101) (e:=2) (rows:=xf.types.map zG) rfl [] trivial [(1009,[.p (ks xf.n),.p (.sl 2 (xf.types.map zG)),.ar 102,.ar 103,.ar 104,.ar 105,.ar 106,.ar 107])] ⟨⟨_,rfl,by decide,.cons (.refl _) (.cons (.ar) (.cons (.refl _) (.cons (.refl _) (.cons (.refl _) (.cons (.refl _) (.cons (.refl _) (.cons (.refl _) .nil)))))))⟩,trivial⟩ ?_
      refine zm rfl (id:=102) (e:=2) (rows:=xf.globals.map zn) rfl [] trivial [(1009,[.p (ks xf.n),.p (.sl 2 (xf.types.map zG)),.p (.sl 2 (xf.globals.map zn)),.ar 103,.ar 104,.ar 105,.ar 106,.ar 107])] ⟨⟨_,rfl,by decide,.cons (.refl _) (.cons (.refl _) (.cons (.ar) (.cons (.refl _) (.cons (.refl _) (.cons (.refl _) (.cons (.refl _) (.cons (.refl _) .nil)))))))⟩,trivial⟩ ?_
      refine zm rfl (id:=103) (e:=5) (rows:=xf.procs.map ye) rfl [] trivial [(1009,[.p (ks xf.n),.p (.sl 2 (xf.types.map zG)),.p (.sl 2 (xf.globals.map zn)),.p (.sl 5 (xf.procs.map ye)),.ar 104,.ar 105,.ar 106,.ar 107])] ⟨⟨_,rfl,by decide,.cons (.refl _) (.cons (.refl _) (.cons (.refl _) (.cons (.ar) (.cons (.refl _) (.cons (.refl _) (.cons (.refl _) (.cons (.refl _) .nil)))))))⟩,trivial⟩ ?_
      refine zm rfl (id:=104) (e:=7) (rows:=xf.measures.map zB) rfl [] trivial [(1009,[.p (ks xf.n),.p (.sl 2 (xf.types.map zG)),.p (.sl 2 (xf.globals.map zn)),.p (.sl 5 (xf.procs.map ye)),.p (.sl 7 (xf.measures.map zB)),.ar 105,.ar 106,.ar 107])] ⟨⟨_,rfl,by decide,.cons (.refl _) (.cons (.refl _) (.cons (.refl _) (.cons (.refl _) (.cons (.ar) (.cons (.refl _) (.cons (.refl _) (.cons (.refl _) .nil)))))))⟩,trivial⟩ ?_
      refine zm rfl (id:=105) (e:=6) (rows:=xf.invs.map w6) rfl [] trivial [(1009,[.p (ks xf.n),.p (.sl 2 (xf.types.map zG)),.p (.sl 2 (xf.globals.map zn)),.p (.sl 5 (xf.procs.map ye)),.p (.sl 7 (xf.measures.map zB)),.p (.sl 6 (xf.invs.map w6)),.ar 106,.ar 107])] ⟨⟨_,rfl,by decide,.cons (.refl _) (.cons (.refl _) (.cons (.refl _) (.cons (.refl _) (.cons (.refl _) (.cons (.ar) (.cons (.refl _) (.cons (.refl _) .nil)))))))⟩,trivial⟩ ?_
      refine zm rfl (id:=106) (e:=5) (rows:=xf.pots.map jg) rfl [] trivial [(1009,[.p (ks xf.n),.p (.sl 2 (xf.types.map zG)),.p (.sl 2 (xf.globals.map zn)),.p (.sl 5 (xf.procs.map ye)),.p (.sl 7 (xf.measures.map zB)),.p (.sl 6 (xf.invs.map w6)),.p (.sl 5 (xf.pots.map jg)),.ar 107])] ⟨⟨_,rfl,by decide,.cons (.refl _) (.cons (.refl _) (.cons (.refl _) (.cons (.refl _) (.cons (.refl _) (.cons (.refl _) (.cons (.ar) (.cons (.refl _) .nil)))))))⟩,trivial⟩ ?_
      refine zm rfl (id:=107) (e:=5) (rows:=xf.bounds.map yC) rfl [] trivial [(1009,[.p (ks xf.n),.p (.sl 2 (xf.types.map zG)),.p (.sl 2 (xf.globals.map zn)),.p (.sl 5 (xf.procs.map ye)),.p (.sl 7 (xf.measures.map zB)),.p (.sl 6 (xf.invs.map w6)),.p (.sl 5 (xf.pots.map jg)),.p (.sl 5 (xf.bounds.map yC))])] ⟨⟨_,rfl,by decide,.cons (.refl _) (.cons (.refl _) (.cons (.refl _) (.cons (.refl _) (.cons (.refl _) (.cons (.refl _) (.cons (.refl _) (.cons (.ar) .nil)))))))⟩,trivial⟩ ?_
      repeat' first|refine gG ?_|(exfalso;simp at h;done)|refine gB (fun h=>?_) (fun h=>?_)|refine gR hEnd (nm [1025]) ?_|refine gC hV ?_|refine gL ?_
      exact gF
     ·rw[if_neg hv]
      rw[Bool.not_eq_true]at hv
      rw[hv]at hV
      repeat' first|refine gG ?_|(exfalso;simp at h;done)|refine gB (fun h=>?_) (fun h=>?_)|refine zr hC ((jW hl 0 _ _ hk (by assumption))) (nm [1025,1009,101,102,103,104,105,106,107]) rfl rfl (yJ.refl _) rfl rfl rfl rfl rfl rfl rfl rfl ?_|refine zp ?_|refine gR hTk (nm [1025]) ?_
      refine zm rfl (id:=101) (e:=2) (rows:=xf.types.map zG) rfl [] trivial [(1009,[.p (ks xf.n),.p (.sl 2 (xf.types.map zG)),.ar 102,.ar 103,.ar 104,.ar 105,.ar 106,.ar 107])] ⟨⟨_,rfl,by decide,.cons (.refl _) (.cons (.ar) (.cons (.refl _) (.cons (.refl _) (.cons (.refl _) (.cons (.refl _) (.cons (.refl _) (.cons (.refl _) .nil)))))))⟩,trivial⟩ ?_
      refine zm rfl (id:=102) (e:=2) (rows:=xf.globals.map zn) rfl [] trivial [(1009,[.p (ks xf.n),.p (.sl 2 (xf.types.map zG)),.p (.sl 2 (xf.globals.map zn)),.ar 103,.ar 104,.ar 105,.ar 106,.ar 107])] ⟨⟨_,rfl,by decide,.cons (.refl _) (.cons (.refl _) (.cons (.ar) (.cons (.refl _) (.cons (.refl _) (.cons (.refl _) (.cons (.refl _) (.cons (.refl _) .nil)))))))⟩,trivial⟩ ?_
      refine zm rfl (id:=103) (e:=5) (rows:=xf.procs.map ye) rfl [] trivial [(1009,[.p (ks xf.n),.p (.sl 2 (xf.types.map zG)),.p (.sl 2 (xf.globals.map zn)),.p (.sl 5 (xf.procs.map ye)),.ar 104,.ar 105,.ar 106,.ar 107])] ⟨⟨_,rfl,by decide,.cons (.refl _) (.cons (.refl _) (.cons (.refl _) (.cons (.ar) (.cons (.refl _) (.cons (.refl _) (.cons (.refl _) (.cons (.refl _) .nil)))))))⟩,trivial⟩ ?_
      refine zm rfl (id:=104) (e:=7) (rows:=xf.measures.map zB) rfl [] trivial [(1009,[.p (ks xf.n),.p (.sl 2 (xf.types.map zG)),.p (.sl 2 (xf.globals.map zn)),.p (.sl 5 (xf.procs.map ye)),.p (.sl 7 (xf.measures.map zB)),.ar 105,.ar 106,.ar 107])] ⟨⟨_,rfl,by decide,.cons (.refl _) (.cons (.refl _) (.cons (.refl _) (.cons (.refl _) (.cons (.ar) (.cons (.refl _) (.cons (.refl _) (.cons (.refl _) .nil)))))))⟩,trivial⟩ ?_
      refine zm rfl (id:=105) (e:=6) (rows:=xf.invs.map w6) rfl [] trivial [(1009,[.p (ks xf.n),.p (.sl 2 (xf.types.map zG)),.p (.sl 2 (xf.globals.map zn)),.p (.sl 5 (xf.procs.map ye)),.p (.sl 7 (xf.measures.map zB)),.p (.sl 6 (xf.invs.map w6)),.ar 106,.ar 107])] ⟨⟨_,rfl,by decide,.cons (.refl _) (.cons (.refl _) (.cons (.refl _) (.cons (.refl _) (.cons (.refl _) (.cons (.ar) (.cons (.refl _) (.cons (.refl _) .nil)))))))⟩,trivial⟩ ?_
      refine zm rfl (id:=106) (e:=5) (rows:=xf.pots.map jg) rfl [] trivial [(1009,[.p (ks xf.n),.p (.sl 2 (xf.types.map zG)),.p (.sl 2 (xf.globals.map zn)),.p (.sl 5 (xf.procs.map ye)),.p (.sl 7 (xf.measures.map zB)),.p (.sl 6 (xf.invs.map w6)),.p (.sl 5 (xf.pots.map jg)),.ar 107])] ⟨⟨_,rfl,by decide,.cons (.refl _) (.cons (.refl _) (.cons (.refl _) (.cons (.refl _) (.cons (.refl _) (.cons (.refl _) (.cons (.ar) (.cons (.refl _) .nil)))))))⟩,trivial⟩ ?_
      refine zm rfl (id:=107) (e:=5) (rows:=xf.bounds.map yC) rfl [] trivial [(1009,[.p (ks xf.n),.p (.sl 2 (xf.types.map zG)),.p (.sl 2 (xf.globals.map zn)),.p (.sl 5 (xf.procs.map ye)),.p (.sl 7 (xf.measures.map zB)),.p (.sl 6 (xf.invs.map w6)),.p (.sl 5 (xf.pots.map jg)),.p (.sl 5 (xf.bounds.map yC))])] ⟨⟨_,rfl,by decide,.cons (.refl _) (.cons (.refl _) (.cons (.refl _) (.cons (.refl _) (.cons (.refl _) (.cons (.refl _) (.cons (.refl _) (.cons (.ar) .nil)))))))⟩,trivial⟩ ?_
      repeat' first|refine gG ?_|(exfalso;simp at h;done)|refine gB (fun h=>?_) (fun h=>?_)|refine gR hEnd (nm [1025]) ?_|refine gC hV ?_|refine gL ?_
      exact zg ⟨.inl rfl,id,_,rfl,yT,trivial,rfl,rfl⟩
    ·simp only[zpr,h5,and_false,if_false]at hEnd⊢
     repeat' first|refine gG ?_|(exfalso;simp at h;done)|refine gB (fun h=>?_) (fun h=>?_)|refine zr hC ((jW hl 0 _ _ hk (by assumption))) (nm [1025,1009,101,102,103,104,105,106,107]) rfl rfl (yJ.refl _) rfl rfl rfl rfl rfl rfl rfl rfl ?_|refine zp ?_|refine gR hTk (nm [1025]) ?_
     refine zm rfl (id:=101) (e:=2) (rows:=xf.types.map zG) rfl [] trivial [(1009,[.p (ks xf.n),.p (.sl 2 (xf.types.map zG)),.ar 102,.ar 103,.ar 104,.ar 105,.ar 106,.ar 107])] ⟨⟨_,rfl,by decide,.cons (.refl _) (.cons (.ar) (.cons (.refl _) (.cons (.refl _) (.cons (.refl _) (.cons (.refl _) (.cons (.refl _) (.cons (.refl _) .nil)))))))⟩,trivial⟩ ?_
     refine zm rfl (id:=102) (e:=2) (rows:=xf.globals.map zn) rfl [] trivial [(1009,[.p (ks xf.n),.p (.sl 2 (xf.types.map zG)),.p (.sl 2 (xf.globals.map zn)),.ar 103,.ar 104,.ar 105,.ar 106,.ar 107])] ⟨⟨_,rfl,by decide,.cons (.refl _) (.cons (.refl _) (.cons (.ar) (.cons (.refl _) (.cons (.refl _) (.cons (.refl _) (.cons (.refl _) (.cons (.refl _) .nil)))))))⟩,trivial⟩ ?_
     refine zm rfl (id:=103) (e:=5) (rows:=xf.procs.map ye) rfl [] trivial [(1009,[.p (ks xf.n),.p (.sl 2 (xf.types.map zG)),.p (.sl 2 (xf.globals.map zn)),.p (.sl 5 (xf.procs.map ye)),.ar 104,.ar 105,.ar 106,.ar 107])] ⟨⟨_,rfl,by decide,.cons (.refl _) (.cons (.refl _) (.cons (.refl _) (.cons (.ar) (.cons (.refl _) (.cons (.refl _) (.cons (.refl _) (.cons (.refl _) .nil)))))))⟩,trivial⟩ ?_
     refine zm rfl (id:=104) (e:=7) (rows:=xf.measures.map zB) rfl [] trivial [(1009,[.p (ks xf.n),.p (.sl 2 (xf.types.map zG)),.p (.sl 2 (xf.globals.map zn)),.p (.sl 5 (xf.procs.map ye)),.p (.sl 7 (xf.measures.map zB)),.ar 105,.ar 106,.ar 107])] ⟨⟨_,rfl,by decide,.cons (.refl _) (.cons (.refl _) (.cons (.refl _) (.cons (.refl _) (.cons (.ar) (.cons (.refl _) (.cons (.refl _) (.cons (.refl _) .nil)))))))⟩,trivial⟩ ?_
     refine zm rfl (id:=105) (e:=6) (rows:=xf.invs.map w6) rfl [] trivial [(1009,[.p (ks xf.n),.p (.sl 2 (xf.types.map zG)),.p (.sl 2 (xf.globals.map zn)),.p (.sl 5 (xf.procs.map ye)),.p (.sl 7 (xf.measures.map zB)),.p (.sl 6 (xf.invs.map w6)),.ar 106,.ar 107])] ⟨⟨_,rfl,by decide,.cons (.refl _) (.cons (.refl _) (.cons (.refl _) (.cons (.refl _) (.cons (.refl _) (.cons (.ar) (.cons (.refl _) (.cons (.refl _) .nil)))))))⟩,trivial⟩ ?_
     refine zm rfl (id:=106) (e:=5) (rows:=xf.pots.map jg) rfl [] trivial [(1009,[.p (ks xf.n),.p (.sl 2 (xf.types.map zG)),.p (.sl 2 (xf.globals.map zn)),.p (.sl 5 (xf.procs.map ye)),.p (.sl 7 (xf.measures.map zB)),.p (.sl 6 (xf.invs.map w6)),.p (.sl 5 (xf.pots.map jg)),.ar 107])] ⟨⟨_,rfl,by decide,.cons (.refl _) (.cons (.refl _) (.cons (.refl _) (.cons (.refl _) (.cons (.refl _) (.cons (.refl _) (.cons (.ar) (.cons (.refl _) .nil)))))))⟩,trivial⟩ ?_
     refine zm rfl (id:=107) (e:=5) (rows:=xf.bounds.map yC) rfl [] trivial [(1009,[.p (ks xf.n),.p (.sl 2 (xf.types.map zG)),.p (.sl 2 (xf.globals.map zn)),.p (.sl 5 (xf.procs.map ye)),.p (.sl 7 (xf.measures.map zB)),.p (.sl 6 (xf.invs.map w6)),.p (.sl 5 (xf.pots.map jg)),.p (.sl 5 (xf.bounds.map yC))])] ⟨⟨_,rfl,by decide,.cons (.refl _) (.cons (.refl _) (.cons (.refl _) (.cons (.refl _) (.cons (.refl _) (.cons (.refl _) (.cons (.refl _) (.cons (.ar) .nil)))))))⟩,trivial⟩ ?_
     repeat' first|refine gG ?_|(exfalso;simp at h;done)|refine gB (fun h=>?_) (fun h=>?_)|refine gR hEnd (nm [1025]) ?_|refine gC hV ?_|refine gL ?_
     exact zg ⟨.inl rfl,id,_,rfl,yT,trivial,rfl,rfl⟩
end Hw.Fr.Ps
namespace Hw.Fr.Ps
open Go Go.Proofs Hw.M
mutual
def cntE:Ex→Nat
 | .mk _ _ _ l=>1+cntEs l
def cntEs:List Ex→Nat
 | []=>0
 |e::es=>cntE e+cntEs es
end
mutual
def okE:Ex→Nat→Bool
 | .mk _ _ s l,d=>decide (s.size≤100)&&decide (d≤70)&&okEs l (d+1)
def okEs:List Ex→Nat→Bool
 | [],_=>true
 |e::es,d=>okE e d&&okEs es d
end
theorem zmK(e:Ex):1≤cntE e:=by cases e;simp only[cntE];omega
theorem zx(a b:List Ex):cntEs (a++b)=cntEs a+cntEs b:=by
 induction a with
 |nil=>simp[cntEs]
 |cons x a ih=>simp only[List.cons_append,cntEs,ih];omega
theorem zmL(l:List Ex)(i:Nat):cntEs (l.take i)≤cntEs l:=by
 conv=>rhs;rw[←List.take_append_drop i l]
 rw[zx];omega
theorem zgB{s:Str}(h:isName s=true):s.size≤40:=by
 simp only[isName,Bool.and_eq_true,Bool.not_eq_true',decide_eq_false_iff_not]at h
 omega
theorem zh8{e:Ex}(h:jm e=true):e.s.size≤40:=by
 unfold jm at h
 split at h
 ·simp only[Bool.or_eq_true,decide_eq_true_eq]at h
  rcases h with h|h
  ·rw[h];show 4≤40;decide
  ·exact zgB h
 ·split at h
  ·exact zgB h
  ·rw[of_decide_eq_true h];show 0≤40;decide
theorem zj5{op n:Int}{s:Str}{l:List Ex}(h:zaT (.mk op n s l)=true):s.size≤40:=by
 unfold zaT at h
 simp only[Bool.and_eq_true]at h
 exact zh8 (e:= .mk op n s l) h.1.2
theorem zbF: ∀(l:List Ex) (d n:Int),n≤countL l d n
 | [],d,n=>by simp only[countL];omega
 |e::es,d,n=>by
  simp only[countL]
  have h1:=(xP e (d+1)).1
  have h2:=zbF es d (n+countS e (d+1))
  split<;>omega
mutual
theorem zrf: ∀(e:Ex) (d:Nat),countS e d≤1000→(cntE e:Int)≤countS e d∧okE e d=true
 | .mk op n s l,d,h=>by
   simp only[countS]at h⊢
   split at h
   ·omega
   ·rename_i hc
    rw[if_neg hc]
    simp only[Bool.or_eq_true,decide_eq_true_eq,Bool.not_eq_true',not_or,Bool.not_eq_false]at hc
    obtain⟨h1,h2⟩:=zj6 l d 1 (by decide) h
    have h3:=zj5 hc.2
    refine⟨by simp only[cntE];omega,?_⟩
    simp only[okE,Bool.and_eq_true,decide_eq_true_eq]
    exact⟨⟨by omega,by omega⟩,h2⟩
theorem zj6: ∀(l:List Ex) (d:Nat) (n:Int),0≤n→countL l d n≤1000→n+(cntEs l:Int)≤countL l d n∧okEs l (d+1)=true
 | [],d,n,_,h=>by simp only[countL,cntEs,okEs];exact⟨by omega,trivial⟩
 |e::es,d,n,h0,h=>by
  simp only[countL]at h⊢
  have hm:=zbF es d (n+countS e (d+1))
  have hp:=(xP e (d+1)).1
  split at h
  ·omega
  ·rename_i hc
   rw[if_neg hc]
   obtain⟨h1,h2⟩:=zj6 es d _ (by omega) h
   have hcast:((d+1:Nat):Int)=(d:Int)+1:=by omega
   obtain⟨h3,h4⟩:=zrf e (d+1) (by rw[hcast];omega)
   rw[hcast]at h3
   refine⟨by simp only[cntEs];omega,?_⟩
   simp only[okEs,h4,h2,Bool.and_self]
end
end Hw.Fr.Ps
namespace Hw.Fr.Ps
open Go Go.Proofs Hw.M
section
variable {l:List Tok}
theorem zgC: ∀f:Nat,(∀n i x j,exprA l f n i= .ok x j→i+cntE x≤j)∧(∀n y i x j,moreA l f n y i= .ok x j→i+cntE x≤j+cntE y)∧(∀i x j,postA l f i= .ok x j→i+cntE x≤j)∧(∀y i x j,dotsA l f y i= .ok x j→i+cntE x≤j+cntE y)∧
 (∀i a x j,argsP l f i a= .ok x j→i+cntEs x≤j+cntEs a)∧(∀k i a x j,partsA l f k i a= .ok x j→i+cntEs x≤j+cntEs a)∧(∀i x j,primA l f i= .ok x j→i+cntE x≤j):=by
 intro f
 induction f with
 |zero=>
  refine⟨fun n i x j h=>?_,fun n y i x j h=>?_,fun i x j h=>?_,fun y i x j h=>?_,fun i a x j h=>?_,fun k i a x j h=>?_,fun i x j h=>?_⟩
  all_goals simp only[exprA,moreA,postA,dotsA,argsP,partsA,primA,reduceCtorEq]at h
 |succ f ih=>
  obtain⟨iE,iM,iP,iD,iA,iK,iR⟩:=ih
  refine⟨fun n i x j h=>?_,fun n y i x j h=>?_,fun i x j h=>?_,fun y i x j h=>?_,fun i a x j h=>?_,fun k i a x j h=>?_,fun i x j h=>?_⟩
  ·unfold exprA at h
   split at h
   ·split at h
    ·obtain⟨y,k,h1,h⟩:=ze h
     have:=iE _ _ _ _ h1
     cases h;(try simp only[cntE,cntEs,zx,Nat.add_zero]at*);omega
    ·exact iE _ _ _ _ h
   ·split at h
    ·split at h
     ·obtain⟨y,k,h1,h⟩:=ze h
      have:=iE _ _ _ _ h1
      cases h;(try simp only[cntE,cntEs,zx,Nat.add_zero]at*);omega
     ·exact iP _ _ _ h
    ·obtain⟨y,k,h1,h⟩:=ze h
     have:=iE _ _ _ _ h1
     have:=iM _ _ _ _ _ h
     (try simp only[cntE,cntEs,zx,Nat.add_zero]at*);omega
  ·unfold moreA at h
   split at h
   ·cases h;(try simp only[cntE,cntEs,zx,Nat.add_zero]at*);omega
   ·obtain⟨z,k,h1,h⟩:=ze h
    have:=iE _ _ _ _ h1
    split at h
    ·cases h;(try simp only[cntE,cntEs,zx,Nat.add_zero]at*);omega
    ·have:=iM _ _ _ _ _ h
     (try simp only[cntE,cntEs,zx,Nat.add_zero]at*);omega
  ·unfold postA at h
   obtain⟨y,k,h1,h⟩:=ze h
   have:=iR _ _ _ h1
   have:=iD _ _ _ _ h
   (try simp only[cntE,cntEs,zx,Nat.add_zero]at*);omega
  ·unfold dotsA at h
   split at h
   ·obtain⟨s,k,h1,h⟩:=ze h
    have:=ym h1
    have:=iD _ _ _ _ h
    (try simp only[cntE,cntEs,zx,Nat.add_zero]at*);omega
   ·cases h;(try simp only[cntE,cntEs,zx,Nat.add_zero]at*);omega
  ·unfold argsP at h
   split at h
   ·cases h;(try simp only[cntE,cntEs,zx,Nat.add_zero]at*);omega
   ·obtain⟨u,k,h1,h⟩:=ze h
    obtain⟨y,k2,h2,h⟩:=ze h
    have:=zam h1
    have:=iE _ _ _ _ h2
    have:=iA _ _ _ _ h
    (try simp only[cntE,cntEs,zx,Nat.add_zero]at*);omega
  ·unfold partsA at h
   split at h
   ·obtain⟨u,k,h1,h⟩:=ze h
    have:=(zZ h1).1
    cases h;(try simp only[cntE,cntEs,zx,Nat.add_zero]at*);omega
   ·obtain⟨u,k,h1,h⟩:=ze h
    obtain⟨y,k2,h2,h⟩:=ze h
    have:=(zZ h1).1
    have:=iE _ _ _ _ h2
    have:=iK _ _ _ _ _ h
    (try simp only[cntE,cntEs,zx,Nat.add_zero]at*);omega
  ·unfold primA at h
   cases hl:l[i]? with
   |none=>rw[hl]at h;cases h
   |some t=>
   rw[hl]at h
   simp only at h
   rcases zw h with⟨_,h⟩|⟨_,h⟩
   ·cases h;(try simp only[cntE,cntEs,zx,Nat.add_zero]at*);omega
   rcases zw h with⟨_,h⟩|⟨_,h⟩
   ·rcases zw h with⟨_,h⟩|⟨_,h⟩
    ·obtain⟨a,k,h1,h⟩:=ze h;have:=iA _ _ _ _ h1;cases h;(try simp only[cntE,cntEs,zx,Nat.add_zero]at*);omega
    ·cases h;(try simp only[cntE,cntEs,zx,Nat.add_zero]at*);omega
   rcases zw h with⟨_,h⟩|⟨_,h⟩
   ·cases h;(try simp only[cntE,cntEs,zx,Nat.add_zero]at*);omega
   rcases zw h with⟨_,h⟩|⟨_,h⟩
   ·cases h;(try simp only[cntE,cntEs,zx,Nat.add_zero]at*);omega
   rcases zw h with⟨_,h⟩|⟨_,h⟩
   ·cases h;(try simp only[cntE,cntEs,zx,Nat.add_zero]at*);omega
   rcases zw h with⟨_,h⟩|⟨_,h⟩
   ·cases h;(try simp only[cntE,cntEs,zx,Nat.add_zero]at*);omega
   rcases zw h with⟨_,h⟩|⟨_,h⟩
   ·obtain⟨a,k,h1,h⟩:=ze h;have:=ym h1;cases h;(try simp only[cntE,cntEs,zx,Nat.add_zero]at*);omega
   rcases zw h with⟨_,h⟩|⟨_,h⟩
   ·obtain⟨a,k,h1,h⟩:=ze h;have:=iK _ _ _ _ _ h1;cases h;(try simp only[cntE,cntEs,zx,Nat.add_zero]at*);omega
   rcases zw h with⟨_,h⟩|⟨_,h⟩
   ·obtain⟨a,k,h1,h⟩:=ze h;have:=iK _ _ _ _ _ h1;cases h;(try simp only[cntE,cntEs,zx,Nat.add_zero]at*);omega
   rcases zw h with⟨_,h⟩|⟨_,h⟩
   ·obtain⟨a,k,h1,h⟩:=ze h;have:=iK _ _ _ _ _ h1;cases h;(try simp only[cntE,cntEs,zx,Nat.add_zero]at*);omega
   rcases zw h with⟨_,h⟩|⟨_,h⟩
   ·obtain⟨a,k,h1,h⟩:=ze h;have:=iK _ _ _ _ _ h1;cases h;(try simp only[cntE,cntEs,zx,Nat.add_zero]at*);omega
   rcases zw h with⟨_,h⟩|⟨_,h⟩
   ·obtain⟨a,k,h1,h⟩:=ze h;have:=iE _ _ _ _ h1;obtain⟨u,k2,h2,h⟩:=ze h;have:=(zZ h2).1;cases h;(try simp only[cntE,cntEs,zx,Nat.add_zero]at*);omega
   ·cases h
end
mutual
def cntS:Sm→Nat
 | .mk _ _ e l els=>1+cntEs e+cntSs l+cntSs els
def cntSs:List Sm→Nat
 | []=>0
 |s::ss=>cntS s+cntSs ss
end
theorem yU(a b:List Sm):cntSs (a++b)=cntSs a+cntSs b:=by
 induction a with
 |nil=>simp[cntSs]
 |cons x a ih=>simp only[List.cons_append,cntSs,ih];omega
theorem zfH(x:Ex):cntEs (x.l.take 1)+1≤cntE x:=by
 obtain⟨op,n,s,l⟩:=x
 have:=zmL l 1
 simp only[cntE,Ex.l];omega
section
variable {l:List Tok}
theorem zmM: ∀f:Nat,(∀i a x j,stmtsA l f i a= .ok x j→i+cntSs x≤j+cntSs a)∧(∀i x j,wG l f i= .ok x j→i+cntSs x≤j)∧(∀i x j,zaU l f i= .ok x j→i+cntS x≤j):=by
 intro f
 induction f with
 |zero=>
  refine⟨fun i a x j h=>?_,fun i x j h=>?_,fun i x j h=>?_⟩
  all_goals simp only[stmtsA,wG,zaU,reduceCtorEq]at h
 |succ f ih=>
  obtain⟨iT,iB,iS⟩:=ih
  obtain⟨fE,fM,fP,fD,fA,fK,fR⟩:=zgC (l:=l) f
  refine⟨fun i a x j h=>?_,fun i x j h=>?_,fun i x j h=>?_⟩
  ·unfold stmtsA at h
   rcases zw h with⟨_,h⟩|⟨_,h⟩
   ·cases h;(try simp only[cntE,cntEs,zx,cntS,cntSs,yU,Nat.add_zero]at*);omega
   ·obtain⟨s,k,h1,h⟩:=ze h
    have:=iS _ _ _ h1
    have:=iT _ _ _ _ h
    (try simp only[cntE,cntEs,zx,cntS,cntSs,yU,Nat.add_zero]at*);omega
  ·unfold wG at h
   obtain⟨u,k,h1,h⟩:=ze h
   have:=zZ h1
   have:=iT _ _ _ _ h
   (try simp only[cntE,cntEs,zx,cntS,cntSs,yU,Nat.add_zero]at*);omega
  ·unfold zaU at h
   rcases zw h with⟨hi,h⟩|⟨_,h⟩
   ·obtain⟨y,k,h1,h⟩:=ze h
    obtain⟨b,k2,h2,h⟩:=ze h
    have:=fE _ _ _ _ h1
    have:=iB _ _ _ h2
    rcases zw h with⟨_,h⟩|⟨_,h⟩
    ·obtain⟨b2,k3,h3,h⟩:=ze h
     have:=iB _ _ _ h3
     cases h;(try simp only[cntE,cntEs,zx,cntS,cntSs,yU,Nat.add_zero]at*);omega
    ·cases h;(try simp only[cntE,cntEs,zx,cntS,cntSs,yU,Nat.add_zero]at*);omega
   rcases zw h with⟨hi,h⟩|⟨_,h⟩
   ·obtain⟨y,k,h1,h⟩:=ze h
    obtain⟨b,k2,h2,h⟩:=ze h
    have:=fE _ _ _ _ h1
    have:=iB _ _ _ h2
    cases h;(try simp only[cntE,cntEs,zx,cntS,cntSs,yU,Nat.add_zero]at*);omega
   rcases zw h with⟨hi,h⟩|⟨_,h⟩
   ·rcases zw h with⟨_,h⟩|⟨_,h⟩
    ·cases h;(try simp only[cntE,cntEs,zx,cntS,cntSs,yU,Nat.add_zero]at*);omega
    ·obtain⟨y,k,h1,h⟩:=ze h
     obtain⟨b,k2,h2,h⟩:=ze h
     have:=fE _ _ _ _ h1
     have:=zZ h2
     cases h;(try simp only[cntE,cntEs,zx,cntS,cntSs,yU,Nat.add_zero]at*);omega
   obtain⟨y,k,h1,h⟩:=ze h
   have:=fP _ _ _ h1
   rcases zw h with⟨_,h⟩|⟨_,h⟩
   ·obtain⟨z,k1,h2,h⟩:=ze h
    obtain⟨b,k2,h3,h⟩:=ze h
    have:=fE _ _ _ _ h2
    have:=zZ h3
    cases h;(try simp only[cntE,cntEs,zx,cntS,cntSs,yU,Nat.add_zero]at*);omega
   rcases zw h with⟨_,h⟩|⟨_,h⟩
   ·obtain⟨z,k1,h2,h⟩:=ze h
    obtain⟨b,k2,h3,h⟩:=ze h
    have:=fE _ _ _ _ h2
    have:=zZ h3
    have:=zfH y
    cases h;(try simp only[cntE,cntEs,zx,cntS,cntSs,yU,Nat.add_zero]at*);omega
   rcases zw h with⟨_,h⟩|⟨_,h⟩
   ·obtain⟨b,k2,h3,h⟩:=ze h
    have:=zZ h3
    cases h;(try simp only[cntE,cntEs,zx,cntS,cntSs,yU,Nat.add_zero]at*);omega
   ·cases h
end
end Hw.Fr.Ps
namespace Hw.Fr.Ps
open Go Go.Proofs Hw.M
end Hw.Fr.Ps
namespace Hw.Fr.Ps
open Go Go.Proofs Hw.M
def mvB(a b i:Nat):Nat:=match Nat.beq i a with
 |true=>b
 |false=>i
theorem zj7{a b i:Nat}(ha:100≤a)(hi:i<100):mvB a b i=i:=by
 unfold mvB;rw[yK (by omega)]
theorem zcn{α:Type}{l:List α}{i:Nat}{x:α}(h:l[i]?=some x):l.take (i+1)=l.take i++[x]:=by
 rw[List.take_add_one,h];rfl
mutual
def WX:Ex→Prop
 | .mk _ _ _ l=>l.length≤1000000∧WXs l
def WXs:List Ex→Prop
 | []=>True
 |x::r=>WX x∧WXs r
end
theorem zj8: ∀ {l:List Ex},WXs l→ ∀x∈l,WX x
 |x::r,h,y,hy=>by
  simp only[WXs]at h
  rcases List.mem_cons.1 hy with rfl|hy
  ·exact h.1
  ·exact zj8 h.2 y hy
theorem WX.l{x:Ex}(h:WX x):x.l.length≤1000000∧WXs x.l:=by cases x;simp only[WX]at h;exact h
mutual
def WS:Sm→Prop
 | .mk _ _ e l els=>(e.length≤1000000∧WXs e)∧(l.length≤1000000∧WSs l)∧els.length≤1000000∧WSs els
def WSs:List Sm→Prop
 | []=>True
 |x::r=>WS x∧WSs r
end
theorem zj9: ∀ {l:List Sm},WSs l→ ∀x∈l,WS x
 |x::r,h,y,hy=>by
  simp only[WSs]at h
  rcases List.mem_cons.1 hy with rfl|hy
  ·exact h.1
  ·exact zj9 h.2 y hy
theorem WS.l{x:Sm}(h:WS x):(x.e.length≤1000000∧WXs x.e)∧(x.l.length≤1000000∧WSs x.l)∧x.els.length≤1000000∧WSs x.els:=by cases x;simp only[WS]at h;exact h
theorem zps(x:Ex):yQ x=zO x:=(zK x).symm
theorem zpt(x:Sm):zc0 x=wF x:=(zc6 x).symm
theorem zd9: ∀(k:Nat) (l:List Ex),SizeOf.sizeOf l≤k→l.length≤1000000→WXs l→zj Tryz.prog 239 [pS (xX l)] [] (pS (xX l)) []:=by
 intro k
 induction k with
 |zero=>intro l h;cases l<;>simp at h
 |succ k ih=>
 intro l hk hl hw
 refine gO T Tryz.func239 fun C hC=>?_
 repeat' first|refine gG ?_|refine gB (fun h=>?_) (fun h=>?_)
 rw[List.length_map]
 refine yo hC rfl 101 4 rfl [(3,.one (.ar 101))] ⟨⟨_,rfl,AdS.nil⟩,trivial⟩ [] trivial ?_
 refine zy (fun i:Nat=>i≤l.length) (fun i=>([(3,.one (.ar 101)),(6,pS (xX l)),(7,I l.length),(8,I i)],[(101,some (Res.arr 4 ((l.take i).map zO)))])) (fun i=>l.length - i) hC
  0 (Nat.zero_le _) id gM ?_
 intro i hi
 refine zI T hC true 200 rfl ?_
 refine zP rfl (fun h=>?_) (fun h=>?_)
 rotate_left
 ·have hge: ¬i<l.length:=by simpa using h
  rw[List.take_of_length_le (by omega)]
  repeat' first|refine gG ?_|refine gB (fun h=>?_) (fun h=>?_)|refine zp ?_
  refine zm rfl (id:=101) (e:=4) (rows:=l.map zO) rfl [(2,pS (xX l))] ⟨⟨_,rfl,FrS.ar⟩,trivial⟩ [] trivial ?_
  exact gF
 have hlt:i<l.length:=by simpa using h
 clear h
 obtain⟨x,hx⟩:=zf hlt
 have hxm:=List.mem_of_getElem? hx
 have hwx:=(zj8 hw x hxm).l
 have hsz:=List.sizeOf_lt_of_mem hxm
 have hR:=ih x.l (by have:SizeOf.sizeOf x.l<SizeOf.sizeOf x:=by cases x;simp only[Ex.l,Ex.mk.sizeOf_spec];omega
                     omega) hwx.1 hwx.2
 have hal:((l.take i).map zO).length=i:=by simp only[List.length_map,List.length_take];omega
 have happ:(l.take i).map zO++[yQ x]=(l.take (i+1)).map zO:=by
  rw[zcn hx,List.map_append,zps];rfl
 repeat' first|refine gG ?_|refine gB (fun h=>?_) (fun h=>?_)|refine gI T (zaj hx) ?_|refine gC hR ?_|refine ya T hC rfl rfl rfl rfl rfl rfl rfl rfl rfl ?_|(refine zC T 102 hC (rows:=(l.take i).map zO) (rows2:=[yQ x]) (rows3:=(l.take (i+1)).map zO) (bytes:=56) rfl rfl rfl rfl (xj.sl (T.es_ok _ _ rfl)) happ rfl rfl rfl (by kernel_rfl) (by rw[hal,List.length_singleton];omega) (by rw[hal,List.length_singleton];omega) rfl rfl rfl ?_)
 rw[yq (by omega)]
 exact zh (i+1) (by omega) (mvB 101 102) (by omega) ⟨rfl,⟨rfl,rfl,rfl,rfl,trivial⟩,⟨rfl,trivial⟩,rfl,fun i hi=>zj7 (by omega) hi⟩
theorem zea: ∀(k:Nat) (l:List Sm),SizeOf.sizeOf l≤k→l.length≤1000000→WSs l→zj Tryz.prog 189 [pS (y7 l)] [] (pS (y7 l)) []:=by
 intro k
 induction k with
 |zero=>intro l h;cases l<;>simp at h
 |succ k ih=>
 intro l hk hl hw
 refine gO T Tryz.func189 fun C hC=>?_
 repeat' first|refine gG ?_|refine gB (fun h=>?_) (fun h=>?_)
 rw[List.length_map]
 refine yo hC rfl 101 5 rfl [(3,.one (.ar 101))] ⟨⟨_,rfl,AdS.nil⟩,trivial⟩ [] trivial ?_
 refine zy (fun i:Nat=>i≤l.length) (fun i=>([(3,.one (.ar 101)),(6,pS (y7 l)),(7,I l.length),(8,I i)],[(101,some (Res.arr 5 ((l.take i).map wF)))])) (fun i=>l.length - i) hC
  0 (Nat.zero_le _) id gM ?_
 intro i hi
 refine zI T hC true 200 rfl ?_
 refine zP rfl (fun h=>?_) (fun h=>?_)
 rotate_left
 ·have hge: ¬i<l.length:=by simpa using h
  rw[List.take_of_length_le (by omega)]
  repeat' first|refine gG ?_|refine gB (fun h=>?_) (fun h=>?_)|refine zp ?_
  refine zm rfl (id:=101) (e:=5) (rows:=l.map wF) rfl [(2,pS (y7 l))] ⟨⟨_,rfl,FrS.ar⟩,trivial⟩ [] trivial ?_
  exact gF
 have hlt:i<l.length:=by simpa using h
 clear h
 obtain⟨x,hx⟩:=zf hlt
 have hxm:=List.mem_of_getElem? hx
 obtain⟨he,hsl,hsE⟩:=(zj9 hw x hxm).l
 have hsz:=List.sizeOf_lt_of_mem hxm
 have hE:=zd9 _ x.e (Nat.le_refl _) he.1 he.2
 have hL:=ih x.l (by have:SizeOf.sizeOf x.l<SizeOf.sizeOf x:=by cases x;simp only[Sm.l,Sm.mk.sizeOf_spec];omega
                     omega) hsl.1 hsl.2
 have hS:=ih x.els (by have:SizeOf.sizeOf x.els<SizeOf.sizeOf x:=by cases x;simp only[Sm.els,Sm.mk.sizeOf_spec];omega
                       omega) hsE.1 hsE.2
 have hal:((l.take i).map wF).length=i:=by simp only[List.length_map,List.length_take];omega
 have happ:(l.take i).map wF++[zc0 x]=(l.take (i+1)).map wF:=by
  rw[zcn hx,List.map_append,zpt];rfl
 repeat' first|refine gG ?_|refine gB (fun h=>?_) (fun h=>?_)|refine gI T (ziV hx) ?_|refine gC hE ?_|refine gC hL ?_|refine gC hS ?_|refine ya T hC rfl rfl rfl rfl rfl rfl rfl rfl rfl ?_|(refine zC T 102 hC (rows:=(l.take i).map wF) (rows2:=[zc0 x]) (rows3:=(l.take (i+1)).map wF) (bytes:=96) rfl rfl rfl rfl (xj.sl (T.es_ok _ _ rfl)) happ rfl rfl rfl (by kernel_rfl) (by rw[hal,List.length_singleton];omega) (by rw[hal,List.length_singleton];omega) rfl rfl rfl ?_)
 rw[yq (by omega)]
 exact zh (i+1) (by omega) (mvB 101 102) (by omega) ⟨rfl,⟨rfl,rfl,rfl,rfl,trivial⟩,⟨rfl,trivial⟩,rfl,fun i hi=>zj7 (by omega) hi⟩
end Hw.Fr.Ps
namespace Hw.Fr.Ps
open Go Go.Proofs Hw.M
theorem zeb(v:List Fld)(hv:v.length≤1000000):zj Tryz.prog 188 [pS (yE v)] [] (pS (yE v)) []:=by
 refine gO T Tryz.func188 fun C hC=>?_
 have hl:(v.map zn).length=v.length:=List.length_map _
 repeat' first|refine gG ?_|refine gB (fun h=>?_) (fun h=>?_)
 refine zbG (rows:=v.map zn) (e:=2) (et:=253) rfl (by kernel_rfl) rfl (fun b hb=>?_)
 repeat' first|refine gG ?_|refine gB (fun h=>?_) (fun h=>?_)
 ·have hv0:v=[]:=List.map_eq_nil_iff.1 (hb h)
  subst hv0
  exact zg ⟨.inl rfl,id,_,rfl,LeS.one (.nil 2),trivial,rfl,rfl⟩
 ·refine zka T hC rfl rfl rfl rfl rfl ?_
  repeat' first|refine gG ?_|refine gB (fun h=>?_) (fun h=>?_)|refine zC T 102 hC (rows:=[]) (rows2:=v.map zn) (rows3:=v.map zn) (bytes:=32) rfl rfl rfl rfl (xj.sl (T.es_ok _ _ rfl)) rfl rfl rfl rfl (by kernel_rfl) (by simp only[List.length_nil,hl];omega) (by simp only[List.length_nil,hl];omega) rfl rfl rfl ?_
  refine zm rfl (id:=102) (e:=2) (rows:=v.map zn) rfl [(2,pS (yE v))] ⟨⟨_,rfl,FrS.ar⟩,trivial⟩ [] trivial ?_
  exact gF
def WP(p:Pr):Prop:=p.params.length≤1000000∧p.locs.length≤1000000∧p.body.length≤1000000∧WSs p.body
theorem jX(p:Pr)(h:WP p):zj Tryz.prog 152 [zz (ye p)] [] (zz (ye p)) []:=by
 have h1:=zeb p.params h.1
 have h2:=zeb p.locs h.2.1
 have h3:=zea _ p.body (Nat.le_refl _) h.2.2.1 h.2.2.2
 refine gO T Tryz.func152 fun C hC=>?_
 repeat' first|refine gG ?_|refine gB (fun h=>?_) (fun h=>?_)|refine gC h1 ?_|refine gC h2 ?_|refine gC h3 ?_
 exact gF
def zrg:Pr:=⟨⟨#[]⟩,[],⟨#[]⟩,[],[]⟩
def zfI(d:xk)(s:Str):Option Pr:=d.procs.find? (fun p=>decide (p.n=s))
theorem zpu{d:xk}(s:Str)(h:xV d=false):zj Tryz.prog 115 [zz (zc1 d),Sr s] [] (.tup [zz (ye zrg),I 1]) []:=by
 have hV:=vl d
 rw[h]at hV
 refine gO T Tryz.func115 fun C hC=>?_
 repeat' first|refine gG ?_|refine gB (fun h=>?_) (fun h=>?_)|refine gC hV ?_
 all_goals first
  |exact zg ⟨.inl rfl,id,_,rfl,LeS.tup (.cons (LeS.agg (.cons (.refl _) (.cons (.nil 2) (.cons (.refl _) (.cons (.nil 2) (.cons (.nil 5) .nil)))))) (.cons (.refl _) .nil)),trivial,rfl,rfl⟩
  |(exfalso;simp_all;done)
theorem zfJ{α:Type}{p:α→Bool}: ∀ {l:List α} {i:Nat} {x:α},l[i]?=some x→p x=true→(l.take i).any p=false→l.find? p=some x
 | [],i,x,h,_,_=>by simp at h
 |y::ys,0,x,h,hp,_=>by simp at h;subst h;simp[List.find?,hp]
 |y::ys,i+1,x,h,hp,hn=>by
  simp only[List.take_succ_cons,List.any_cons,Bool.or_eq_false_iff]at hn
  simp only[List.getElem?_cons_succ]at h
  simp only[List.find?,hn.1]
  exact zfJ h hp hn.2
theorem zfK{α:Type}{p:α→Bool}: ∀ {l:List α},l.any p=false→l.find? p=none
 | [],_=>rfl
 |y::ys,h=>by
  simp only[List.any_cons,Bool.or_eq_false_iff]at h
  simp only[List.find?,h.1]
  exact zfK h.2
theorem zmN{d:xk}(s:Str)(h:xV d=true)(hw: ∀p∈d.procs,WP p):zj Tryz.prog 115 [zz (zc1 d),Sr s] []
 (.tup [zz (ye ((zfI d s).getD zrg)),I (if(zfI d s).isSome then 0 else 12)]) []:=by
 have hV:=vl d
 rw[h]at hV
 clear h
 refine gO T Tryz.func115 fun C hC=>?_
 refine zoh rfl 0 3 rfl rfl fun hlen=>?_
 rw[List.length_map]at hlen
 repeat' first|refine gG ?_|refine gB (fun h=>?_) (fun h=>?_)|refine gC hV ?_
 ·exfalso;simp_all;done
 rw[List.length_map]
 refine zy (fun i:Nat=>i≤d.procs.length∧(d.procs.take i).any (fun t=>decide (t.n=s))=false) (fun i=>([(1,Sr s),(4,.one (.bx 1004 0)),(13,pS (.sl 5 (d.procs.map ye))),(14,I d.procs.length),(15,I i)],[(1004,some (Res.box (zV [ZK.str,ZK.slice,ZK.str,ZK.slice,ZK.slice])))])) (fun i=>d.procs.length - i) hC
  0 ⟨Nat.zero_le _,by simp⟩ id gM ?_
 rintro i ⟨hi,hn⟩
 refine zI T hC true 200 rfl ?_
 refine zP rfl (fun h=>?_) (fun h=>?_)
 ·have hlt:i<d.procs.length:=by simpa using h
  clear h
  obtain⟨x,hx⟩:=zf hlt
  have hC2:=jX x (hw x (List.mem_of_getElem? hx))
  repeat' first|refine gG ?_|refine gB (fun h=>?_) (fun h=>?_)|refine gX ?_|refine gC hC2 ?_|refine zT ?_
  ·have e:zfI d s=some x:=zfJ hx (by assumption) hn
   rw[e]
   exact gF
  ·rw[yq (by omega)]
   refine zh (i+1) ⟨by omega,?_⟩ id (by omega) gM
   rw[zgm hx,hn,Bool.false_or];assumption
 ·have hge: ¬i<d.procs.length:=by simpa using h
  repeat' first|refine gG ?_|refine gB (fun h=>?_) (fun h=>?_)|refine zp ?_
  have e:zfI d s=none:=zfK (zi0 (by omega) hn)
  rw[e]
  exact zg ⟨.inl rfl,id,_,rfl,LeS.tup (.cons (LeS.agg (.cons (.refl _) (.cons (.nil 2) (.cons (.refl _) (.cons (.nil 2) (.cons (.nil 5) .nil)))))) (.cons (.refl _) .nil)),trivial,rfl,rfl⟩
end Hw.Fr.Ps
namespace Hw.Fr.Ps
open Go Go.Proofs Hw.M
def sumB{α:Type}(f:α→Nat):List α→Nat
 | []=>0
 |x::r=>f x+sumB f r
theorem vn{α:Type}(f:α→Nat)(a b:List α):sumB f (a++b)=sumB f a+sumB f b:=by
 induction a with
 |nil=>simp[sumB]
 |cons x a ih=>simp only[List.cons_append,sumB,ih];omega
def zgD(d:xk):Nat:=sumB (fun p=>cntSs p.body) d.procs+sumB (fun m=>cntE m.x) d.measures+sumB (fun m=>cntE m.x) d.invs+sumB (fun m=>cntE m.x) d.pots+sumB (fun m=>cntE m.x) d.bounds
theorem zbH: ∀l:List Ex,l.length≤cntEs l
 | []=>by simp
 |e::es=>by have:=zbH es;have:=zmK e;simp only[List.length_cons,cntEs];omega
section
variable {l:List Tok}
theorem vo{f i j:Nat}{x:Ex}(h:xc l f i= .ok x j):i+cntE x≤j:=by
 unfold xc at h
 obtain⟨u,k,h1,h⟩:=ze h
 have:=zZ h1
 have:=(zgC (l:=l) f).1 _ _ _ _ h
 omega
theorem zmO{f i j:Nat}{x:Pr}(h:zcV l f i= .ok x j):i+cntSs x.body≤j:=by
 unfold zcV at h
 obtain⟨n,k1,h1,h⟩:=ze h
 obtain⟨u,k2,h2,h⟩:=ze h
 obtain⟨ps,k3,h3,h⟩:=ze h
 obtain⟨r,k4,h4,h⟩:=ze h
 obtain⟨u2,k5,h5,h⟩:=ze h
 obtain⟨ls,k6,h6,h⟩:=ze h
 obtain⟨b,k7,h7,h⟩:=ze h
 have:=ym h1
 have:=zZ h2
 have:=jS _ _ _ _ _ h3
 have:k3≤k4:=by
  rcases zw h4 with⟨_,h4⟩|⟨_,h4⟩
  ·cases h4;exact Nat.le_refl _
  ·have:=zfe h4;omega
 have:=zZ h5
 have:=zcZ _ _ _ _ _ h6
 have:=(zmM (l:=l) f).1 _ _ _ _ h7
 cases h;simp only[cntSs]at *; omega
theorem zfL{f i j:Nat}{x:Ms}(h:x5 l f i= .ok x j):i+cntE x.x≤j:=by
 unfold x5 at h
 obtain⟨n,k1,h1,h⟩:=ze h
 obtain⟨u,k2,h2,h⟩:=ze h
 obtain⟨t,k3,h3,h⟩:=ze h
 obtain⟨u2,k4,h4,h⟩:=ze h
 obtain⟨u3,k5,h5,h⟩:=ze h
 obtain⟨z,k6,h6,h⟩:=ze h
 obtain⟨y,k7,h7,h⟩:=ze h
 have:=ym h1
 have:=zZ h2
 have:=ym h3
 have:=zZ h4
 have:=zZ h5
 have e6:=zje h6
 have:=vo h7
 have:k5≤k6:=by rw[e6];split<;>omega
 cases h
 show i+cntE y≤_
 omega
theorem zmP{f i j:Nat}{d x:xk}(h:zcW l f i d= .ok x j):i+zgD x≤j+zgD d:=by
 unfold zcW at h
 rcases zw h with⟨hi,h⟩|⟨_,h⟩
 ·obtain⟨n,k1,h1,h⟩:=ze h
  obtain⟨u,k2,h2,h⟩:=ze h
  obtain⟨fs,k3,h3,h⟩:=ze h
  have:=ym h1
  have:=zZ h2
  have:=jS _ _ _ _ _ h3
  cases h;simp only[zgD,vn,sumB,Nat.add_zero]at *; omega
 rcases zw h with⟨hi,h⟩|⟨_,h⟩
 ·obtain⟨n,k1,h1,h⟩:=ze h
  have:=wv h1
  cases h;simp only[zgD,vn,sumB,Nat.add_zero]at *; omega
 rcases zw h with⟨hi,h⟩|⟨_,h⟩
 ·obtain⟨n,k1,h1,h⟩:=ze h
  have:=zmO h1
  cases h;simp only[zgD,vn,sumB,Nat.add_zero]at *; omega
 rcases zw h with⟨hi,h⟩|⟨_,h⟩
 ·obtain⟨n,k1,h1,h⟩:=ze h
  have:=zfL h1
  cases h;simp only[zgD,vn,sumB,Nat.add_zero]at *; omega
 rcases zw h with⟨hi,h⟩|⟨_,h⟩
 ·obtain⟨n,k1,h1,h⟩:=ze h
  obtain⟨t,k2,h2,h⟩:=ze h
  obtain⟨y,k3,h3,h⟩:=ze h
  have:=ym h1
  have:=zjg h2
  have:=vo h3
  cases h;simp only[zgD,vn,sumB,Nat.add_zero]at *; omega
 rcases zw h with⟨hi,h⟩|⟨_,h⟩
 ·obtain⟨t,k2,h2,h⟩:=ze h
  obtain⟨y,k3,h3,h⟩:=ze h
  have:i+1≤k2:=by
   rcases zw h2 with⟨_,h2⟩|⟨_,h2⟩
   ·cases h2;exact Nat.le_refl _
   ·have:=ym h2;omega
  have:=vo h3
  cases h;simp only[zgD,vn,sumB,Nat.add_zero]at *; omega
 rcases zw h with⟨hi,h⟩|⟨_,h⟩
 ·obtain⟨n,k1,h1,h⟩:=ze h
  obtain⟨y,k3,h3,h⟩:=ze h
  have:=ym h1
  have:=vo h3
  cases h;simp only[zgD,vn,sumB,Nat.add_zero]at *; omega
 ·cases h
theorem zec(f:Nat): ∀(g i:Nat) (d x:xk) (j:Nat),itemsA l f g i d= .ok x j→i+zgD x≤j+zgD d
 |0,i,d,x,j,h=>by simp only[itemsA,reduceCtorEq]at h
 |g+1,i,d,x,j,h=>by
  simp only[itemsA]at h
  rcases zw h with⟨_,h⟩|⟨_,h⟩
  ·cases h;omega
  ·obtain⟨y,k,h1,h⟩:=ze h
   have:=zmP h1
   have:=zec f g _ _ _ _ h
   omega
theorem zmQ{f j:Nat}{x:xk}(h:zcX l f= .ok x j):zgD x≤j:=by
 unfold zcX at h
 obtain⟨u,k1,h1,h⟩:=ze h
 obtain⟨n,k2,h2,h⟩:=ze h
 obtain⟨u2,k3,h3,h⟩:=ze h
 have:=zec f _ _ _ _ _ h
 simp only[zgD,sumB]at*
 omega
end
theorem zkb(x:Sm):1≤cntS x:=by cases x;simp only[cntS];omega
theorem vV: ∀l:List Sm,l.length≤cntSs l
 | []=>by simp
 |x::r=>by have:=vV r;have:=zkb x;simp only[List.length_cons,cntSs];omega
mutual
theorem zud: ∀x:Ex,cntE x≤1000000→WX x
 | .mk _ _ _ l,h=>by
   simp only[cntE]at h
   simp only[WX]
   have:=zbH l
   exact⟨by omega,zpv l (by omega)⟩
theorem zpv: ∀l:List Ex,cntEs l≤1000000→WXs l
 | [],_=>by simp only[WXs]
 |x::r,h=>by
  simp only[cntEs]at h
  simp only[WXs]
  exact⟨zud x (by omega),zpv r (by omega)⟩
end
mutual
theorem zue: ∀x:Sm,cntS x≤1000000→WS x
 | .mk _ _ e l els,h=>by
   simp only[cntS]at h
   simp only[WS]
   have h1:=zbH e
   have h2:=vV l
   have h3:=vV els
   exact⟨⟨by omega,zpv e (by omega)⟩,⟨by omega,zmR l (by omega)⟩,by omega,zmR els (by omega)⟩
theorem zmR: ∀l:List Sm,cntSs l≤1000000→WSs l
 | [],_=>by simp only[WSs]
 |x::r,h=>by
  simp only[cntSs]at h
  simp only[WSs]
  exact⟨zue x (by omega),zmR r (by omega)⟩
end
theorem zgE{α:Type}(f:α→Nat): ∀ {l:List α} {x:α},x∈l→f x≤sumB f l
 |y::l,x,h=>by
  simp only[sumB]
  rcases List.mem_cons.1 h with rfl|h
  ·omega
  ·have:=zgE f h;omega
theorem zh9{s:Str}(hv:xV (xI s).1=true): ∀p∈(xI s).1.procs,WP p:=by
 have key: ∀(l:List Tok),l.length≤100000→xV (topD l).1=true→ ∀p∈(topD l).1.procs,WP p:=by
  intro l hl
  unfold topD
  cases hd:zcX l (10*l.length+13)with
  |out=>intro _ p hp;cases hp
  |no j=>simp only;split<;>(intro _ p hp;cases hp)
  |ok x j=>
   simp only
   cases ht:l[j]? with
   |none=>intro _ p hp;cases hp
   |some t=>
    simp only
    by_cases h5:t.k=5
    ·rw[if_pos h5]
     by_cases hx:xV x=true
     ·rw[if_pos hx]
      intro _ p hp
      have htot:=zmQ hd
      have hj:=(List.getElem?_eq_some_iff.1 ht).1
      have hc:cntSs p.body≤100000:=by
       have:=zgE (fun p:Pr=>cntSs p.body) hp
       simp only at this
       unfold zgD at htot
       omega
      simp only[xV,Bool.and_eq_true,List.all_eq_true]at hx
      have hp2:=hx.1.2 p hp
      simp only[zaK,xZ,Bool.and_eq_true,decide_eq_true_eq]at hp2
      have:=vV p.body
      exact⟨by omega,by omega,by omega,zmR _ (by omega)⟩
     ·rw[if_neg hx];intro _ p hp;cases hp
    ·rw[if_neg h5];intro _ p hp;cases hp
 unfold xI at hv⊢
 rcases zbE s with⟨l,he,hl,_⟩|⟨⟨q1,q2⟩,e,he,h74⟩
 ·rw[he]at hv⊢
  simp only[if_true]at hv⊢
  exact key l hl.len hv
 ·rw[he]at hv⊢
  have h0: ¬e=0:=by omega
  simp only[if_neg h0]at hv⊢
  intro p hp;cases hp
end Hw.Fr.Ps