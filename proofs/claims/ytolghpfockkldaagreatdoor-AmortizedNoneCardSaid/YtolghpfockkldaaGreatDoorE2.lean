import Derived.Test.YtolghpfockkldaaGreatDoorE1
set_option linter.defProp false
set_option linter.unusedVariables false
set_option linter.unusedSimpArgs false
set_option linter.unusedSectionVars false
set_option linter.unnecessarySimpa false
namespace Hw
open Go
def ones:List V->List S
 | []=>[]
 |v::vs=> .one v::ones vs
theorem yr{M:Mem}{ρ:Nat->Value}: ∀ {vs:List V} {xs:List Value},RepVs M ρ vs xs->RepSs M ρ (ones vs) xs
 | [],[],_=>by simp only[ones,RepSs]
 | [],_::_,h=>by simp only[RepVs]at h
 |_::_,[],h=>by simp only[RepVs]at h
 |v::vs,x::xs,h=>by
  simp only[RepVs]at h;simp only[ones,RepSs,RepS];exact⟨h.1,yr h.2⟩
theorem ym{M:Mem}{ρ:Nat->Value}: ∀ {a b:List S} {xs ys:List Value},RepSs M ρ a xs->RepSs M ρ b ys->RepSs M ρ (a++b) (xs++ys)
 | [],_,[],_,_,h'=>by simpa using h'
 | [],_,_::_,_,h,_=>by simp only[RepSs]at h
 |_::_,_,[],_,h,_=>by simp only[RepSs]at h
 |x::xs,_,v::vs,_,h,h'=>by
  simp only[uK,RepSs]at h⊢;exact⟨h.1,ym h.2 h'⟩
variable {C:Ctx}{M:Mem}{P:Program}{a:Act}{af:Array Edge}{args ss:List S}{d:Option Nat}{f:FuncId}{g:Option (Nat×Bool)}{ps:String}{res:S}{st:St}{ts:Array TypeId}{w:World}{x:Operand}{ρ:Nat->Value}
section
variable {ty:TypeId}
def za9(h:ju P f){l:List Operand}{xs ys:List Value}(he:a.eval x= .func (.func f) xs.toArray ys.toArray)(w:World):
 (execOp a.eval ⟨d,.call ⟨.value x,l.toArray,ts⟩,ty,ps,af,g⟩).run P w= .ok (.enter f (xs++l.map a.eval++ys).toArray) w:=by
 obtain⟨fn,hf,hn,hb⟩:=h;have J: ¬(fn.name= "runtime.NumGoroutine"):=by simpa using hn
 have hp:program.run P w= .ok P w:=rfl;have U: ¬fn.body=none:=λe=>by rw[e]at hb;cases hb
 simp[execOp,resolve,he,Deferred.ofValue,invoke,callFunc,hf,J,U,hp]
def zeu{R R':RL}(h:zh P f args R res R')(σ:Nat->Nat){l:List Operand}{first caps:List V}
 (hx:okc x (.one (.cl f first caps))) (hl:zcm l ss) (hle:yG (ones first++ss++ones caps) (Ss.ren σ args)) (hi:injB σ R.ids=true) (hi2:injB σ R'.ids=true)
 (hc:cloS (R.ids++R'.ids) res=true) (hcR:yM (R.ids++R'.ids) R'=true) (J:Holds C st M ρ a w) (U:okS (rq x (.one (.cl f first caps))++rqs l ss) st) (hT:okT (R.ren σ) st) (hF:okF C ((zC R R').map σ) st) (hd:dok d st.n=true)
 (k:Act->World->Prop) (Q:Exit->Act->World->Prop) (hk: ∀a' w' M' ρ',Holds C (app d (res.ren σ) (tb (R'.ren σ)++yF (R.ids.map σ)) st) M' ρ' a' w'->(∀i r,tg st.tab i=some r->ρ' i=ρ i)->k a' w'):
 (⟨d,.call ⟨.value x,l.toArray,ts⟩,ty,ps,af,g⟩:Oper).wp P a w k Q:=by
 rw[ze]at U;have e1:=J.evS (zq hx U.1);have e2:=J.zhi (wL hl U.2);simp only[RepS,RepV]at e1;obtain⟨xs,ys,e3,e4,e5⟩:=e1
 have e6:RepSs M (λi=>ρ (σ i)) args (xs++l.map a.eval++ys):=
  (RepSs.ren _ _).1 (hle _ _ _ (ym (ym (yr e4) e2) (yr e5)))
 have tk: ∀i r,tg (tb R) i=some r->tg st.tab (σ i)=some (r.ren σ):=λi r hm=>xc hT (zbv (zF hm))
 have e7:xJ M (λi=>ρ (σ i)) w (tb R):=⟨λi r hr=>(J.zz.res _ _ (tk i r hr)).ren,
  λi j ri rj b U h2 hne hb1 hb2=>J.zz.dis _ _ _ _ b (tk i ri U) (tk j rj h2) (yt hi i j (zH (zF U)) (zH (zF h2)) hne) hb1 hb2,
  λi r b U hb=>J.zz.own _ _ b (tk i r U) hb⟩
 unfold Oper.wp;rw[za9 h.1 e3,Oper.upon_enter];refine Calls.mono (h.2 M _ w _ e6 e7 J.run.imm J.gok) λe w' ⟨v,M',ρ',he,hr⟩=>?_;subst he
 have hi3:injB σ (zC R R')=true:=by
  have key: ∀(l:List Nat) (p:Nat->Bool),injB σ l=true->injB σ (l.filter p)=true:=by
   intro l p
   induction l with
   |nil=>exact λh=>h
   |cons y ys ih=>
    intro h;simp only[injB,um,List.all_eq_true]at h;simp only[q8];split
    ·simp only[injB,um,List.all_eq_true];exact⟨λz hz=>h.1 z (qN.1 hz).1,ih h.2⟩
    ·exact ih h.2
  exact key _ _ hi2
 obtain⟨ρ3,h3,h4⟩:=J.called2 hr hT hi3 hi2 hF hc hcR hd;exact hk _ _ _ _ h3 h4
def zhm{R R':RL}(h:zh P f args R res R')(σ:Nat->Nat){l:List Operand}{first caps:List V}
 (hx:okc x (.one (.cl f first caps))) (hl:zcm l ss) (J:yG (ones first++ss++ones caps) (Ss.ren σ args)) (hi:injB σ R.ids=true) (U:injB σ R'.ids=true)
 (hc:cloS (R.ids++R'.ids) res=true) (hcR:yM (R.ids++R'.ids) R'=true):
 Snd P ⟨d,.call ⟨.value x,l.toArray,ts⟩,ty,ps,af,g⟩ (rq x (.one (.cl f first caps))++rqs l ss) (R.ren σ) ((zC R R').map σ) (res.ren σ) (tb (R'.ren σ)++yF (R.ids.map σ)):=λ_ _ _ _ _ _ hH h1 hT hF hd k Q hk=>zeu h σ hx hl J hi U hc hcR hH h1 hT hF hd k Q λa' w' M' ρ' h _=>hk a' w' M' ρ' h
mutual
theorem V.xp{σ:Nat->Nat}: ∀ {v:V},cloV [] v=true->v.ren σ=v
 | .p _,_=>rfl
 | .pi _ _,_=>rfl
 | .bx _ _,h=>by simp[cloV,hasB]at h
 | .ar _,h=>by simp[cloV,hasB]at h
 | .el _ _,h=>by simp[cloV,hasB]at h
 | .mp _,h=>by simp[cloV,hasB]at h
 | .bs _ _ _,h=>by simp[cloV,hasB]at h
 | .nv _ _,h=>by simp[cloV,hasB]at h
 | .np _ _ _,h=>by simp[cloV,hasB]at h
 | .sv _ _ _,h=>by simp[cloV,hasB]at h
 | .cl f a b,h=>by
   simp only[cloV,um]at h;simp only[V.ren,Vs.xp h.1,Vs.xp h.2]
theorem Vs.xp{σ:Nat->Nat}: ∀ {v:List V},cloVs [] v=true->Vs.ren σ v=v
 | [],_=>rfl
 |v::vs,h=>by
  simp only[cloVs,um]at h;simp only[Vs.ren,V.xp h.1,Vs.xp h.2]
end
mutual
theorem S.xp{σ:Nat->Nat}: ∀ {v:S},cloS [] v=true->v.ren σ=v
 | .one v,h=>by simp only[cloS]at h;simp only[S.ren,V.xp h]
 | .agg vs,h=>by simp only[cloS]at h;simp only[S.ren,Vs.xp h]
 | .tup ss,h=>by simp only[cloS]at h;simp only[S.ren,Ss.xp h]
 | .gd b s,h=>by simp only[cloS]at h;simp only[S.ren,S.xp h]
 | .bq _,_=>rfl
 | .un,_=>rfl
theorem Ss.xp{σ:Nat->Nat}: ∀ {v:List S},cloSs [] v=true->Ss.ren σ v=v
 | [],_=>rfl
 |v::vs,h=>by
  simp only[cloSs,um]at h;simp only[Ss.ren,S.xp h.1,Ss.xp h.2]
end
def ztw(h:zh P f args [] res []){l:List Operand}{first caps:List V}
 (hx:okc x (.one (.cl f first caps))) (hl:zcm l ss) (U:yG (ones first++ss++ones caps) args) (hc:cloS [] res=true):
 Snd P ⟨d,.call ⟨.value x,l.toArray,ts⟩,ty,ps,af,g⟩ (rq x (.one (.cl f first caps))++rqs l ss) [] [] res []:=by
 intro C st M ρ a w J h1 hT hF hd k Q hk;rw[ze]at h1;have e1:=J.evS (zq hx h1.1);have e2:=J.zhi (wL hl h1.2);simp only[RepS,RepV]at e1;obtain⟨xs,ys,e3,e4,e5⟩:=e1;have e6:RepSs M ρ args (xs++l.map a.eval++ys):=U _ _ _ (ym (ym (yr e4) e2) (yr e5));have e7:xJ M ρ w (tb []):=⟨λ_ _ h=>(by cases h),λ_ _ _ _ _ h=>(by cases h),λ_ _ _ h=>(by cases h)⟩;unfold Oper.wp;rw[za9 h.1 e3,Oper.upon_enter];refine Calls.mono (h.2 M _ w _ e6 e7 J.run.imm J.gok) λe w' ⟨v,M',ρ',he,hr⟩=>?_;subst he;obtain⟨ρ3,h3⟩:=J.called (σ:=id) (R:=[]) (R':=[]) (ρ:=ρ) hr trivial rfl rfl trivial hc rfl hd;rw[S.xp hc]at h3;exact hk _ _ _ _ h3
inductive BoV (B:RL):V->V->Prop
 |le {v v':V}:LeV v v'->BoV B v v'
 |ar {id e:Nat} {rows:List (List PV)}:(id,.arr e rows)∈B->BoV B (.ar id) (.p (.sl e rows))
inductive ztx (B:RL):List V->List V->Prop
 |nil:ztx B [] []
 |cons {v v':V} {vs vs':List V}:BoV B v v'->ztx B vs vs'->ztx B (v::vs) (v'::vs')
inductive BoS (B:RL):S->S->Prop
 |le {s s':S}:LeS s s'->BoS B s s'
 |one {v v':V}:BoV B v v'->BoS B (.one v) (.one v')
 |agg {vs vs':List V}:ztx B vs vs'->BoS B (.agg vs) (.agg vs')
inductive ztJ (B:RL):List S->List S->Prop
 |nil:ztJ B [] []
 |cons {v v':S} {vs vs':List S}:BoS B v v'->ztJ B vs vs'->ztJ B (v::vs) (v'::vs')
theorem ztJ.refl(B:RL): ∀l:List S,ztJ B l l
 | []=> .nil
 |_::xs=> .cons (.le (.refl _)) (ztJ.refl B xs)
theorem ztx.refl(B:RL): ∀l:List V,ztx B l l
 | []=> .nil
 |_::xs=> .cons (.le (.refl _)) (ztx.refl B xs)
mutual
def flatS:S->Bool
 | .one (.p (.k _))=>true
 | .tup ss=>flatSs ss
 | .bq _=>true
 |_=>false
def flatSs:List S->Bool
 | []=>true
 |s::ss=>flatS s&&flatSs ss
end
mutual
theorem zeH{M M':Mem}{ρ ρ':Nat->Value}: ∀ {s:S} {x:Value},flatS s=true->RepS M ρ s x->RepS M' ρ' s x
 | .one (.p (.k _)),_,_,h=>by simpa only[RepS,RepV,RepPV]using h
 | .one (.p (.sl _ _)),_,h,_=>by simp[flatS]at h
 | .one (.pi _ _),_,h,_=>by simp[flatS]at h
 | .one (.bx _ _),_,h,_=>by simp[flatS]at h
 | .one (.ar _),_,h,_=>by simp[flatS]at h
 | .one (.el _ _),_,h,_=>by simp[flatS]at h
 | .one (.mp _),_,h,_=>by simp[flatS]at h
 | .one (.bs _ _ _),_,h,_=>by simp[flatS]at h
 | .one (.nv _ _),_,h,_=>by simp[flatS]at h
 | .one (.np _ _ _),_,h,_=>by simp[flatS]at h
 | .one (.sv _ _ _),_,h,_=>by simp[flatS]at h
 | .one (.cl _ _ _),_,h,_=>by simp[flatS]at h
 | .agg _,_,h,_=>by simp[flatS]at h
 | .gd _ _,_,h,_=>by simp[flatS]at h
 | .bq _,_,_,h=>by simpa only[RepS]using h
 | .un,_,h,_=>by simp[flatS]at h
 | .tup ss,x,h,h'=>by
   simp only[flatS]at h;simp only[RepS]at h'⊢;obtain⟨xs,h1,h2⟩:=h';exact⟨xs,h1,zc6 h h2⟩
theorem zc6{M M':Mem}{ρ ρ':Nat->Value}: ∀ {s:List S} {x:List Value},flatSs s=true->RepSs M ρ s x->RepSs M' ρ' s x
 | [],[],_,_=>by simp only[RepSs]
 | [],_::_,_,h=>by simp only[RepSs]at h
 |_::_,[],_,h=>by simp only[RepSs]at h
 |s::ss,x::xs,h,h'=>by
  simp only[flatSs,um]at h;simp only[RepSs]at h'⊢;exact⟨zeH h.1 h'.1,zc6 h.2 h'.2⟩
end
end
structure Law where
 d:Option Nat
 rs:zb
 rt:RL
 fr:List Nat
 v:S
 wt:Tab
def apps(st:St):List Law->St
 | []=>st
 |L::l=>app L.d L.v L.wt (apps st l)
def wv(P:Program)(all:Array Oper)(st:St):List Law->Prop
 | []=>True
 |L::l=>wv P all st l/\ ∃o,all[l.length]?=some o/\yC P all o L.rs L.rt L.fr L.v L.wt/\L.d=o.dst/\okS L.rs (apps st l)/\okT L.rt (apps st l)/\dok L.d st.n=true
def sel(D:Nat->Bool):List Law->List Law
 | []=>[]
 |L::l=>match D l.length with
  |true=>L::sel D l
  |false=>sel D l
def keysS:zb->List Nat
 | []=>[]
 |(k,_)::r=>k::keysS r
def keysT:Tab->List Nat
 | []=>[]
 |(k,_)::r=>k::keysT r
def wr(L:Law)(k:Nat):Bool:=match L.d with
 |some d=>Nat.beq d k
 |none=>false
def wrT(L:Law)(i:Nat):Bool:=hasB i (keysT L.wt)
theorem xY(st:St): ∀l:List Law,(apps st l).n=st.n
 | []=>rfl
 |L::l=>by simp only[apps,app,xY st l]
theorem wX(st:St)(L:Law)(l:List Law)(k:Nat):sg (apps st (L::l)).sl k=if wr L k=true then some L.v else sg (apps st l).sl k:=by
 obtain⟨d,rs,rt,fr,v,wt⟩:=L;cases d with
 |none=>simp[apps,app,wr]
 |some d=>
  simp only[apps,app,wr];rw[yk]
  simp_all
variable {i:Nat}
theorem yN{a b:Tab}(h:hasB i (keysT a)=false):tg (a++b) i=tg b i:=by
 induction a with
 |nil=>rfl
 |cons x xs ih=>
  obtain⟨j,s⟩:=x;simp only[keysT,hasB,uT]at h;simp only[uK,zm];rw[ur (λe=>by subst e;rw[vq]at h;cases h.1)];exact ih h.2
theorem wg{a b b':Tab}(h:hasB i (keysT a)=true):tg (a++b) i=tg (a++b') i:=by
 induction a with
 |nil=>cases h
 |cons x xs ih=>
  obtain⟨j,s⟩:=x;simp only[keysT,hasB,uJ]at h;simp only[uK,zm];by_cases e:j=i
  ·simp_all
  simp_all
def at?:List Law->Nat->Option Law
 | [],_=>none
 |L::l,i=>match Nat.beq l.length i with
  |true=>some L
  |false=>at? l i
def z7(L:Law)(l:List Law)(i:Nat):at? (L::l) i=if l.length=i then some L else at? l i:=by
 simp only[at?];by_cases h:l.length=i
 ·subst h;simp
 ·simp[h,xr h]
theorem xK: ∀ {l:List Law} {i:Nat} {L:Law},at? l i=some L->i<l.length
 | [],_,_,h=>by cases h
 |X::l,i,L,h=>by
  rw[z7]at h;split at h
  ·simp_all
  ·have:=xK h;simp;omega
theorem zgH: ∀ {l:List Law} {i:Nat},i<l.length-> ∃L,at? l i=some L
 | [],_,h=>by simp at h
 |X::l,i,h=>by
  rw[z7];by_cases e:l.length=i
  ·simp_all
  ·rw[ur e];exact zgH (by simp at h;omega)
theorem j4{st:St}{k:Nat}{D D':Nat->Bool}: ∀ {l:List Law},(∀j L,at? l j=some L->wr L k=true->D j=D' j)->sg (apps st (sel D l)).sl k=sg (apps st (sel D' l)).sl k
 | [],_=>rfl
 |X::l,h=>by
  have ih:sg (apps st (sel D l)).sl k=sg (apps st (sel D' l)).sl k:=j4 λj L U J=>h j L (by rw[z7,ur (by have:=xK U;omega)];exact U) J
  have h0:wr X k=true->D l.length=D' l.length:=λJ=>h l.length X (by rw[z7,uw rfl]) J
  have f1: ∀D:Nat->Bool,sg (apps st (sel D (X::l))).sl k=if D l.length=true/\wr X k=true then some X.v else sg (apps st (sel D l)).sl k:=λD=>by
   simp only[sel];cases e:D l.length with
   |true=>simp only[wX,Uq]
   |false=>simp
  grind
theorem vQ{st:St}{k:Nat}{D D':Nat->Bool}: ∀ {l:List Law},(∀j L,at? l j=some L->wrT L k=true->D j=D' j)->tg (apps st (sel D l)).tab k=tg (apps st (sel D' l)).tab k
 | [],_=>rfl
 |X::l,h=>by
  have ih:tg (apps st (sel D l)).tab k=tg (apps st (sel D' l)).tab k:=vQ λj L U J=>h j L (by rw[z7,ur (by have:=xK U;omega)];exact U) J
  have h0:wrT X k=true->D l.length=D' l.length:=λJ=>h l.length X (by rw[z7,uw rfl]) J
  cases J:wrT X k with
  |true=>
   have e:=h0 J;simp only[sel,<-e];cases D l.length with
   |true=>simp only[apps,app];exact wg J
   |false=>exact ih
  |false=>
   have f1: ∀D:Nat->Bool,tg (apps st (sel D (X::l))).tab k=tg (apps st (sel D l)).tab k:=λD=>by
    simp only[sel];cases D l.length with
    |true=>simp only[apps,app];exact yN J
    |false=>rfl
   simp_all
theorem zaN: ∀ {l:List Law} {i:Nat},l.length<=i->sel (λj=>decide (j<i)) l=l
 | [],_,_=>rfl
 |X::l,i,h=>by
  simp only[uX]at h;simp only[sel,uZ (show l.length<i by omega)];rw[zaN ua]
theorem zgI: ∀ {l:List Law} {D:Nat->Bool},(∀j,j<l.length->D j=true)->sel D l=l
 | [],_,_=>rfl
 |X::l,D,h=>by
  simp only[sel,h l.length ue];rw[zgI λj hj=>h j ug]
theorem ji: ∀ {l:List Law} {D:Nat->Bool},(∀j,j<l.length->D j=false)->sel D l=[]
 | [],_,_=>rfl
 |X::l,D,h=>by
  simp only[sel,h l.length ue];exact ji λj hj=>h j ug
theorem wv.at{P:Program}{all:Array Oper}{st:St}: ∀ {l:List Law} {i:Nat} {L:Law},wv P all st l->at? l i=some L->
 ∃o,all[i]?=some o/\yC P all o L.rs L.rt L.fr L.v L.wt/\L.d=o.dst/\okS L.rs (apps st (sel (λj=>decide (j<i)) l))/\okT L.rt (apps st (sel (λj=>decide (j<i)) l))/\dok L.d st.n=true
 | [],_,_,_,h=>by cases h
 |X::l,i,L,hd,h=>by
  rw[z7]at h;split at h
  ·rename_i e;simp only[ui]at h;subst h;subst e
   have:sel (λj=>decide (j<l.length)) (X::l)=l:=by
    simp only[sel,uI (Ua _)];exact zaN (uM _)
   rw[this];exact hd.2
  ·rename_i e;have hlt:=xK h
   have:sel (λj=>decide (j<i)) (X::l)=sel (λj=>decide (j<i)) l:=by
    simp only[sel,uI (show ¬l.length<i by omega)]
   rw[this];exact wv.at hd.1 h
theorem vP{a:zb}{st':St}(h:okS a st)(J: ∀k,hasB k (keysS a)=true->sg st'.sl k=sg st.sl k):okS a st':=by
 induction a with
 |nil=>trivial
 |cons x xs ih=>
  obtain⟨k,s⟩:=x;refine⟨by rw[J k (by simp[keysS,hasB])];exact h.1,ih h.2 λj U=>J j (by simp only[keysS,hasB,U,qO])⟩
theorem wO{a:RL}{st':St}(h:okT a st)(J: ∀k,hasB k a.ids=true->tg st'.tab k=tg st.tab k):okT a st':=by
 induction a with
 |nil=>trivial
 |cons x xs ih=>
  obtain⟨k,s⟩:=x;refine⟨by rw[J k (by simp[RL.ids,hasB])];exact h.1,ih h.2 λj U=>J j (by simp only[RL.ids,hasB,U,qO])⟩
def noT(i:Nat):Tab->Bool
 | []=>true
 |(j,s)::r=> !Nat.beq j i&&(match s with|some r=> !mentR i r|none=>true)&&noT i r
def noL(i:Nat)(L:Law):Bool:= !mentS i L.v&&noT i L.wt
def anyB(p:Nat->Bool):List Nat->Bool
 | []=>false
 |i::l=>p i||anyB p l
theorem jh{p:Nat->Bool}: ∀ {l:List Nat},anyB p l=false-> ∀i,hasB i l=true->p i=false
 | [],_,_,h=>by cases h
 |x::xs,h,i,J=>by
  simp only[anyB,uT]at h;simp only[hasB,uJ]at J;rcases J with J|J
  ·simp_all
  ·exact jh h.2 i J
def apart(X Y:Law):Bool:=
 (match X.d with
   |some d=> !hasB d (keysS Y.rs)&& !wr Y d
   |none=>true)&&
 !anyB (λi=>hasB i Y.rt.ids||hasB i (keysT Y.wt)) (keysT X.wt)&&
 allB (λi=>noL i X) Y.fr
variable {X:Law}
theorem wN{Y:Law}(h:apart X Y=true){k:Nat}(hk:wr X k=true):hasB k (keysS Y.rs)=false/\wr Y k=false:=by
 simp only[apart,um]at h;cases hd:X.d with
 |none=>simp[wr,hd]at hk
 |some d=>
  simp only[wr,hd]at hk
  simp_all
def xL{Y:Law}(h:apart X Y=true){k:Nat}(hk:wrT X k=true):hasB k Y.rt.ids=false/\wrT Y k=false:=by
 simp only[apart,um,ux]at h;have:=jh h.1.2 k hk;simp only[uT]at this;exact this
def zba{Y:Law}(h:apart X Y=true): ∀i∈Y.fr,noL i X=true:=by
 simp only[apart,um]at h;exact zy h.2
def za4(m j:Nat):Bool:=Nat.beq (Nat.land (Nat.shiftRight m j) 1) 1
def zM(o:Oper):List Nat:=(o.after.toList.filter (Region.binds .any)).map (·.on)
def nth(l:List Nat)(i:Nat):Nat:=l.getD i 0
def zq3(ms:List Nat):List Nat->Nat
 | []=>0
 |p::ps=>Nat.lor (Nat.lor (Nat.shiftLeft 1 p) (nth ms p)) (zq3 ms ps)
def xy:List Oper->List Nat->List Nat
 | [],ms=>ms
 |o::os,ms=>xy os (ms++[zq3 ms (zM o)])
def allLt(p:Nat->Bool):Nat->Bool
 |0=>true
 |n+1=>p n&&allLt p n
theorem yc{p:Nat->Bool}: ∀ {n:Nat},allLt p n=true-> ∀i,i<n->p i=true
 |0,_,_,h=>by omega
 |n+1,h,i,hi=>by
  simp only[allLt,um]at h;by_cases e:i=n
  ·subst e;exact h.1
  ·exact yc h.2 i ua
def checkAt(all:Array Oper)(ms:List Nat)(st:St)(l:List Law)(i:Nat):Bool:=
 match all[i]?,at? l i with
 |some o,some L=>
  allB (λp=>Nat.blt p i) (zM o)&&
  allLt (λj=> !za4 (nth ms i) j||anyB (λp=>Nat.beq p j||(Nat.blt j p&&za4 (nth ms p) j)) (zM o)) i&&
  allLt (λj=>match at? l j with
   |some X=>(za4 (nth ms i) j||(apart X L&&apart L X))&&allB (λid=>noL id X) L.fr
   |none=>false) i&&
  allB (λid=>Nat.ble 100 id&&freshB id st) L.fr
 |_,_=>false
def check(all:Array Oper)(ms:List Nat)(st:St)(l:List Law):Bool:=Nat.beq l.length all.size&&allLt (checkAt all ms st l) all.size
theorem zeh{i:Nat}: ∀ {t:Tab},noT i t=true-> ∀ {j r},(j,some r)∈t->j≠i/\mentR i r=false
 | [],_,_,_,h=>by cases h
 |(k,s)::t,h,j,r,J=>by
  simp only[noT,um,ux]at h;rcases uF.1 J with e|J
  ·simp only[uz]at e;obtain⟨rfl,rfl⟩:=e;exact⟨λe=>(by simp_all),by simpa using h.1.2⟩
  ·exact zeh h.2 J
theorem xx{C:Ctx}{id:Nat}{st:St}(h:freshB id st=true)(h0:tg C.tab0 id=none): ∀ {l:List Law},(∀L∈l,noL id L=true)->we C id (apps st l)
 | [],_=>vt h h0
 |L::l,hl=>by
  have U:we C id (apps st l):=xx h h0 λX hX=>hl X (u3 _ hX)
  have hL:=hl L ue;simp only[noL,um,ux]at hL;refine⟨λk s hk=>?_,λi r J=>?_,h0⟩
  ·rw[wX]at hk;split at hk
   ·simp_all
   ·exact U.1 k s hk
  ·simp only[apps,app]at J;have:=zfd J;rcases tp.1 this with hm|hm
   ·exact zeh hL.2 hm
   ·cases hw:hasB i (keysT L.wt)with
    |false=>rw[yN hw]at J;exact U.2.1 i r J
    |true=>
     -- the entry that counts stands in 'wt'
     have: ∀ {a b:Tab} {i:Nat} {r:Res},hasB i (keysT a)=true->tg (a++b) i=some r->(i,some r)∈a:=by
      intro a b i r
      induction a with
      |nil=>intro h;cases h
      |cons x xs U=>
       obtain⟨j,s⟩:=x;intro h h';simp only[keysT,hasB,uJ]at h;simp only[uK,zm]at h';split at h'
       ·rename_i e;subst e;subst h';simp
       ·rename_i e;exact u3 _ (U (h.resolve_left λh=>e (uA h)) h')
     exact zeh hL.2 (this hw J)
theorem jH{D:Nat->Bool}: ∀ {l:List Law} {L:Law},L∈sel D l-> ∃j,D j=true/\at? l j=some L
 | [],_,h=>by cases h
 |X::l,L,h=>by
  simp only[sel]at h
  have old:L∈sel D l-> ∃j,D j=true/\at? (X::l) j=some L:=λh=>by
   obtain⟨j,J,h2⟩:=jH h;exact⟨j,J,by rw[z7,ur (by have:=xK h2;omega)];exact h2⟩
  cases e:D l.length with
  |true=>
   simp only[e]at h;rcases uF.1 h with rfl|h
   ·exact⟨l.length,e,by rw[z7,uw rfl]⟩
   ·exact old h
  |false=>simp_all
variable {D:Nat->Bool}{L:Law}{all:Array Oper}{j:Nat}{o:Oper}
section
variable {l:List Law} {ms:List Nat}
def Down(all:Array Oper)(D:Nat->Bool):Prop:= ∀i o,all[i]?=some o->D i=true-> ∀p∈zM o,D p=true
def jq(hc:check all ms st l=true)(hi:i<all.size): ∃o L,all[i]?=some o/\at? l i=some L/\(∀p∈zM o,p<i)/\
 (∀j,j<i->za4 (nth ms i) j=true-> ∃p∈zM o,p=j\/(j<p/\za4 (nth ms p) j=true))/\
 (∀j X,j<i->at? l j=some X->(za4 (nth ms i) j=true\/(apart X L=true/\apart L X=true))/\ ∀id∈L.fr,noL id X=true)/\
 (∀id∈L.fr,100<=id/\freshB id st=true):=by
 simp only[check,um]at hc;have h:=yc hc.2 i hi;unfold checkAt at h;split at h
 ·rename_i o L ho hL;simp only[um]at h;refine⟨o,L,ho,hL,λp J=>by have:=zy h.1.1.1 p J;simp_all,λj U hb=>?_,λj X U hX=>?_,λid hid=>?_⟩
  ·have:=yc h.1.1.2 j U;simp only[hb,qo,tw]at this
   have key: ∀(l:List Nat) (q:Nat->Bool),anyB q l=true-> ∃p∈l,q p=true:=by
    intro l q
    induction l with
    |nil=>intro h;cases h
    |cons y ys ih=>
     intro h;simp only[anyB,uJ]at h;rcases h with h|h
     ·exact⟨y,ue,h⟩
     ·obtain⟨p,h1,h2⟩:=ih h;exact⟨p,u3 _ h1,h2⟩
   obtain⟨p,J,h2⟩:=key _ _ this;simp only[uJ,um]at h2;exact⟨p,J,h2.imp uA λh=>⟨by simp_all,h.2⟩⟩
  ·have:=yc h.1.2 j U;simp only[hX,um,uJ]at this;exact⟨this.1,zy this.2⟩
  ·have:=zy h.2 id hid
   simp_all
 ·cases h
def zb5(J:check all ms st l=true):l.length=all.size:=by
 simp only[check,um]at J;simp_all
theorem zc7(hc:check all ms st l=true)(hD:Down all D): ∀(i:Nat),i<all.size-> ∀o,all[i]?=some o->(∀p∈zM o,D p=true)-> ∀j,j<i->za4 (nth ms i) j=true->D j=true:=by
 intro i
 induction i using Nat.strongRecOn with
 |_ i ih=>
  intro hi o ho hp j hj hb;obtain⟨o',L,J,hL,hlt,hbit,_⟩:=jq hc hi;rw[ho]at J;simp only[ui]at J;subst J;obtain⟨p,U,h1⟩:=hbit j hj hb;rcases h1 with rfl|⟨hjp,h1⟩
  ·exact hp p U
  ·have hpi:=hlt p U;have hps:p<all.size:=by omega
   have hop:all[p]?=some all[p]:=tT hps;exact ih p hpi hps _ hop (hD p _ hop (hp p U)) j hjp h1
def zjK(hc:check all ms st l=true)(hD:Down all D)(hi:i<all.size)(ho:all[i]?=some o)(hn:D i=false)(hp: ∀p∈zM o,D p=true)
 (hL:at? l i=some L) (hX:at? l j=some X) (J:D j≠decide (j<i)) (hji:j≠i):apart X L=true/\apart L X=true:=by
 have hj:j<all.size:=by rw[<-zb5 hc];exact xK hX
 rcases tu j i with h|h
 ·have hDj:D j=false:=by
   cases e:D j
   ·rfl
   ·rw[e,uZ h]at J;exact absurd rfl J
  obtain⟨o',L',ho',U,_,_,h3,_⟩:=jq hc hi;rw[hL]at U;simp only[ui]at U;subst U;rcases(h3 j X h hX).1 with h4|h4
  ·have:=zc7 hc hD i hi o ho hp j h h4;simp_all
  ·exact h4
 ·have hDj:D j=true:=by
   cases e:D j
   ·rw[e,uI ua]at J;exact absurd rfl J
   ·rfl
  obtain⟨oj,Lj,hoj,hLj,_,_,h3,_⟩:=jq hc hj;rw[hX]at hLj;simp only[ui]at hLj;subst hLj;rcases(h3 i L ua hL).1 with h4|h4
  ·have:=zc7 hc hD j hj oj hoj (hD j oj hoj hDj) i ua h4;simp_all
  simp_all
def zfO(D:Nat->Bool)(i:Nat):Nat->Bool:=λj=>Nat.beq i j||D j
def zU(D:Nat->Bool)(i:Nat):zfO D i i=true:=by simp[zfO]
def zt(h:j≠i):zfO D i j=D j:=by simp[zfO,xr (λe=>h e.symm)]
theorem zdf{k i:Nat}{D:Nat->Bool}{L:Law}: ∀ {l:List Law},at? l i=some L->D i=true->wr L k=true->(∀j X,at? l j=some X->i<j->D j=true->wr X k=false)->
 sg (apps st (sel D l)).sl k=some L.v
 | [],h,_,_,_=>by cases h
 |X::l,h,hD,hw,hn=>by
  rw[z7]at h;split at h
  ·rename_i e;simp only[ui]at h;subst h;subst e;simp only[sel,hD,wX,hw,uW]
  ·rename_i e;have J:=xK h;have U:=zdf (l:=l) h hD hw λj Y hY=>hn j Y (by rw[z7,ur (by have:=xK hY;omega)];exact hY)
   simp only[sel];cases hX:D l.length with
   |false=>exact U
   |true=>
    rw[wX,hn l.length X (by rw[z7,uw rfl]) J hX];simpa using U
theorem zbb{k i:Nat}{D:Nat->Bool}{L:Law}{b:Tab}: ∀ {l:List Law},at? l i=some L->D i=true->wrT L k=true->(∀j X,at? l j=some X->i<j->D j=true->wrT X k=false)->
 tg (apps st (sel D l)).tab k=tg (L.wt++b) k
 | [],h,_,_,_=>by cases h
 |X::l,h,hD,hw,hn=>by
  rw[z7]at h;split at h
  ·rename_i e;simp only[ui]at h;subst h;subst e;simp only[sel,hD,apps,app];exact wg hw
  ·rename_i e;have J:=xK h;have U:=zbb (b:=b) (l:=l) h hD hw λj Y hY=>hn j Y (by rw[z7,ur (by have:=xK hY;omega)];exact hY)
   simp only[sel];cases hX:D l.length with
   |false=>exact U
   |true=>
    simp only[apps,app];rw[yN (hn l.length X (by rw[z7,uw rfl]) J hX)];exact U
def zia(hd:wv P all st l)(hc:check all ms st l=true)(hD:Down all D)(hi:i<all.size)(ho:all[i]?=some o)(hn:D i=false)(hp: ∀p∈zM o,D p=true)
 (hC:C.low) (hH:Holds C (apps st (sel D l)) M ρ a w) {K:Act->World->Prop} {Q:Exit->Act->World->Prop}
 (hk: ∀a' w' M' ρ',Holds C (apps st (sel (zfO D i) l)) M' ρ' a' w'->K a' w'):if Region.wanted o (yielded all a.tmps)then o.wp P a w K Q else K (a.put o.dst undef) w:=by
 obtain⟨o',L,J,hL,_,_,h3,h4⟩:=jq hc hi;rw[ho]at J;simp only[ui]at J;subst J;obtain⟨o',J,hstep,hdst,hS,hT,hdk⟩:=hd.at hL;rw[ho]at J;simp only[ui]at J;subst J;have ap: ∀j X,at? l j=some X->D j≠decide (j<i)->j≠i->apart X L=true/\apart L X=true:=λj X U hne hji=>zjK hc hD hi ho hn hp hL U hne hji
 have eqi: ∀j X,at? l j=some X->(apart X L=true->False)->D j=decide (j<i):=λj X U hno=>by
  by_cases hji:j=i
  ·subst hji;rw[hn];simp
  ·by_cases hne:D j=decide (j<i)
   ·exact hne
   ·exact(hno (ap j X U hne hji).1).elim
 have hS':okS L.rs (apps st (sel D l)):=vP hS λk hk=>j4 λj X U hw=>eqi j X U λh=>by have:=(wN h hw).1;rw[hk]at this;cases this
 have hT':okT L.rt (apps st (sel D l)):=wO hT λk hk=>vQ λj X U hw=>eqi j X U λh=>by have:=(xL h hw).1;rw[hk]at this;cases this
 have hF':okF C L.fr (apps st (sel D l)):=by
  have one: ∀id∈L.fr,we C id (apps st (sel D l)):=λid hid=>by
   refine xx (h4 id hid).2 (by
    cases e:tg C.tab0 id with
    |none=>rfl
    |some r=>have:=hC id r e;have:=(h4 id hid).1;omega) λX U=>?_
   obtain⟨j,hj,hX'⟩:=jH U;rcases tu j i with h|h
   ·exact(h3 j X h hX').2 id hid
   ·have hji:j≠i:=λe=>by subst e;rw[hn]at hj;cases hj
    exact zba (ap j X hX' (by rw[hj,uI ua];simp) hji).1 id hid
  have: ∀fr:List Nat,(∀id∈fr,we C id (apps st (sel D l)))->okF C fr (apps st (sel D l)):=λfr=>by
   induction fr with
   |nil=>exact λ_=>trivial
   |cons x xs ih=>exact λh=>⟨h x ue,ih λid hid=>h id (u3 _ hid)⟩
  exact this _ one
 refine hstep C _ M ρ a w hH hS' hT' hF' (by rw[xY,<-hdst];exact hdk) K Q λa' w' M' ρ' hH'=>hk a' w' M' ρ' (hH'.ext ?_ ?_ ?_)
 ·rw[xY];simp only[app,xY]
 ·intro k
  have e0:sg (app o.dst L.v L.wt (apps st (sel D l))).sl k=if wr L k=true then some L.v else sg (apps st (sel D l)).sl k:=by
   rw[<-hdst];exact wX st L (sel D l) k
  rw[e0];by_cases hw:wr L k=true
  ·rw[uw hw]
   exact zdf hL (zU D i) hw λj X U hij hDj=>by
    rw[zt ua]at hDj;cases hx:wr X k with
    |false=>rfl
    |true=>
     have:=(wN (ap j X U (by rw[hDj,uI ua];simp) ua).1 hx).2
     simp_all
  ·rw[ur hw]
   exact j4 λj X U hx=>zt λe=>by
    simp_all
 ·intro k;cases hw:wrT L k with
  |true=>
   simp only[app]
   exact zbb hL (zU D i) hw λj X U hij hDj=>by
    rw[zt ua]at hDj;cases hx:wrT X k with
    |false=>rfl
    |true=>
     have:=(xL (ap j X U (by rw[hDj,uI ua];simp) ua).1 hx).2
     simp_all
  |false=>
   simp only[app];rw[yN hw]
   exact vQ λj X U hx=>zt λe=>by
    simp_all
def left(D:Nat->Bool):Nat->Nat
 |0=>0
 |n+1=>(match D n with|true=>0|false=>1)+left D n
theorem j5{D:Nat->Bool}{i:Nat}(J:D i=false): ∀ {n:Nat},left D n=left (zfO D i) n+(if i<n then 1 else 0)
 |0=>by simp[left]
 |n+1=>by
  simp only[left];rw[j5 J (n:=n)];by_cases e:n=i
  ·subst e;simp[zU,J];omega
  ·rw[zt e]
   grind
theorem vR{D:Nat->Bool}: ∀ {n:Nat},left D n=0-> ∀j,j<n->D j=true
 |0,_,_,h=>by omega
 |n+1,h,j,hj=>by
  simp only[left]at h;by_cases e:j=n
  ·grind
  ·exact vR (n:=n) ua j ua
def xM{e:Edge}(h:e∈o.after)(hb:Region.binds .any e=true):e.on∈zM o:=by
 simp only[zM,tO,qN,Us]
 grind
def zbc{p:Nat}(h:p∈zM o): ∃e∈o.after,Region.binds .any e=true/\e.on=p:=by
 simp only[zM,tO,qN,Us]at h
 grind
theorem zv7(hd:wv P all st l)(hc:check all ms st l=true)(hC:C.low){Q:Exit->Act->World->Prop}(hQ: ∀a w M ρ,Holds C (apps st l) M ρ a w->Q .normal a w):
 ∀(fuel:Nat) (listed:Array Bool) (M:Mem) (ρ:Nat->Value) (a:Act) (w:World),listed.size=all.size->left (λj=>listed.getD j false) all.size=fuel->Down all (λj=>listed.getD j false)->
  Holds C (apps st (sel (λj=>listed.getD j false) l)) M ρ a w->wpAny P .any all Q fuel listed a w:=by
 have fin: ∀(listed:Array Bool) (M:Mem) (ρ:Nat->Value) (a:Act) (w:World),(∀j,j<all.size->listed.getD j false=true)->Holds C (apps st (sel (λj=>listed.getD j false) l)) M ρ a w->Q .normal a w:=
  λlisted M ρ a w h hH=>hQ a w M ρ (by rw[zgI (l:=l) λj hj=>h j (by rw[<-zb5 hc];exact hj)]at hH;exact hH)
 have full: ∀(listed:Array Bool),listed.size=all.size->Region.ready .any all listed=[]-> ∀j,j<all.size->listed.getD j false=true:=by
  intro listed hs hr j
  induction j using Nat.strongRecOn with
  |_ j ih=>
   intro hj;cases e:listed.getD j false with
   |true=>rfl
   |false=>
    obtain⟨o,L,ho,hL,J,_⟩:=jq hc hj
    have:j∈Region.ready .any all listed:=mem_ready.2 ⟨by
     have J:j<listed.size:=by omega
     simp only[Array.getD,J,oJ]at e ⊢; exact e,o,ho,λe' he hb=>ih e'.on (J _ (xM he hb)) (by have:=J _ (xM he hb);omega)⟩
    rw[hr]at this;cases this
 intro fuel
 induction fuel with
 |zero=>
  intro listed M ρ a w hs hl hD hH;have h0:=vR hl;refine⟨?_,fin listed M ρ a w h0 hH⟩;cases e:Region.ready .any all listed with
  |nil=>rfl
  |cons x xs=>
   obtain⟨h1,o,ho,_⟩:=mem_ready.1 (show x∈Region.ready .any all listed by rw[e];simp)
   grind
 |succ fuel ih=>
  intro listed M ρ a w hs hl hD hH;refine⟨λhr=>fin listed M ρ a w (full listed hs hr) hH,λi hi=>?_⟩;obtain⟨h1,o,ho,hall⟩:=mem_ready.1 hi;have hx:i<all.size:=(tA.1 ho).1;have J:i<listed.size:=by omega
  have hn:listed.getD i false=false:=by simp only[Array.getD,J,oJ]at h1 ⊢; exact h1
  have hput: ∀j,(listed.setIfInBounds i true).getD j false=zfO (λj=>listed.getD j false) i j:=λj=>by
   by_cases e:j=i
   ·subst e;simp[zU,J]
   ·rw[zt e,getD_set_ne false (λh=>e h.symm)]
  have U:(λj=>(listed.setIfInBounds i true).getD j false)=zfO (λj=>listed.getD j false) i:=funext hput
  have hp: ∀p∈zM o,listed.getD p false=true:=λp hp=>by
   obtain⟨e,he,hb,rfl⟩:=zbc hp;exact hall e he hb
  unfold wpOp;simp only[ho]
  have key:=zia hd hc hD hx ho hn hp hC hH (K:=wpAny P .any all Q fuel (listed.setIfInBounds i true)) (Q:=Q) λa' w' M' ρ' hH'=>by
   refine ih _ M' ρ' a' w' (by simpa using hs) ?_ ?_ ?_
   ·rw[U];have:=j5 (D:=λj=>listed.getD j false) hn (n:=all.size);rw[uw hx]at this;omega
   ·rw[U];intro k ok hk hDk p hpk;by_cases e:k=i
    ·subst e;rw[ho]at hk;simp only[ui]at hk;subst hk;by_cases e2:p=k
     ·subst e2;exact zU _ _
     ·rw[zt e2];exact hp p hpk
    ·rw[zt e]at hDk;have:=hD k ok hk hDk p hpk;by_cases e2:p=i
     ·subst e2;exact zU _ _
     ·rw[zt e2];exact this
   ·rw[U];exact hH'
  grind
def zjL{id:Nat}(U:P.follows .mixedOrders=true)(hd:wv P all st l)(hc:check all ms st l=true)(hC:C.low){Q:Exit->Act->World->Prop}
 (hQ: ∀a w M ρ,Holds C (apps st l) M ρ a w->Q .normal a w) (hH:Holds C st M ρ a w):(Code.region id all true).wp P Q a w:=by
 have h0: ∀j,(Array.replicate all.size false).getD j false=false:=λj=>by
  by_cases h:j<all.size
  ·simp[h]
  ·simp[h]
 have J:(λj=>(Array.replicate all.size false).getD j false)=λ_=>false:=funext h0
 refine wp_region_any U (zv7 hd hc hC hQ _ _ M ρ a _ ue ?_ ?_ ?_)
 ·rw[J]
  have: ∀n,left (λ_=>false) n=n:=λn=>by
   induction n with
   |zero=>rfl
   |succ n ih=>simp only[left,ih];omega
  exact this _
 ·rw[J];intro i o _ h;cases h
 ·rw[J,ji λ_ _=>rfl];exact hH.grow (λ_ _=>rfl) (uM _) rfl rfl rfl
end
structure Ty (P:Program) where
 sh:Nat->Option (Option Nat)
 sh_ok: ∀t s,sh t=some s->shp P t=some s
 fo:Nat->Nat->Option Nat
 fo_ok: ∀t f n,fo t f=some n->fieldOff P t f=some n
 es:Nat->Option (Nat×Nat)
 es_ok: ∀t p,es t=some p->elemSz P t=some p
 zs:Nat->Option (List V)
 zs_ok: ∀t vs,zs t=some vs->zeroV P t=some vs
 pl:Nat->Option (List (Nat×Nat))
 pl_ok: ∀t l,pl t=some l->places P t=some l
 str:Nat->Bool
 str_ok: ∀t,str t=true->P.underlying t=some .string
 ik:Nat->Option IntKind
 ik_ok: ∀t k,ik t=some k->P.underlying t=some (.int k)
 mix:P.follows .mixedOrders=true
def vBinI(op:BinOp)(k:IntKind)(m n:Int)(r:zb):Option (S×zb×RL):=match op with
 | .eql=>some (.bq (decide (m=n)),r,[])
 | .neq=>some (.bq (!decide (m=n)),r,[])
 | .lss=>some (.bq (decide (m<n)),r,[])
 | .leq=>some (.bq (decide (m<=n)),r,[])
 | .gtr=>some (.bq (decide (n<m)),r,[])
 | .geq=>some (.bq (decide (n<=m)),r,[])
 | .add=>some (Kk k (k.wrap (m+n)),r,[])
 | .sub=>some (Kk k (k.wrap (m - n)),r,[])
 | .mul=>some (Kk k (k.wrap (m*n)),r,[])
 |_=>none
def vBinS(op:BinOp)(m n:ByteArray)(r:zb):Option (S×zb×RL):=match op with
 | .eql=>some (.bq (decide (m=n)),r,[])
 | .neq=>some (.bq (!decide (m=n)),r,[])
 | .lss=>some (.bq (Op.bytesLess m.toList n.toList),r,[])
 | .geq=>some (.bq (!Op.bytesLess m.toList n.toList),r,[])
 |_=>none
section
variable (T:Ty P) (sl:zb) (tab:Tab)
def vMove(x:Operand):Option (S×zb×RL):=match ev sl x with
 |some s=>some (s,rq x s,[])
 |none=>none
def vNot(x:Operand):Option (S×zb×RL):=match ev sl x with
 |some (.one (.p (.k (.bool b))))=>some (Bo (!b),rq x (Bo b),[])
 |some (.bq b)=>some (.bq (!b),rq x (.bq b),[])
 |_=>none
def vBin(op:BinOp)(x y:Operand):Option (S×zb×RL):=match ev sl x with
 |some (.one (.p (.k (.int k m))))=>match ev sl y with
  |some (.one (.p (.k (.int k' n))))=>if k=k' then vBinI op k m n (rq x (Kk k m)++rq y (Kk k' n))else none
  |_=>none
 |some (.one (.p (.k (.string m))))=>match ev sl y with
  |some (.one (.p (.k (.string n))))=>vBinS op m n (rq x (Sr m)++rq y (Sr n))
  |_=>none
 |_=>none
def vExt(x:Operand)(i:Nat):Option (S×zb×RL):=match ev sl x with
 |some (.tup ss)=>match ss[i]? with
  |some s=>some (s,rq x (.tup ss),[])
  |none=>none
 |_=>none
def vFld(t:TypeId)(x:Operand)(f:Nat):Option (S×zb×RL):=match ev sl x with
 |some (.one (.pi row j))=>match T.fo t f with
  |some n=>some (.one (.pi row (j+n)),rq x (.one (.pi row j)),[])
  |none=>none
 |some (.one (.bx id j))=>match T.fo t f with
  |some n=>some (.one (.bx id (j+n)),rq x (.one (.bx id j)),[])
  |none=>none
 |some (.one (.el id j))=>match T.fo t f with
  |some n=>some (.one (.el id (j+n)),rq x (.one (.el id j)),[])
  |none=>none
 |_=>none
def vLoad(t:TypeId)(x:Operand):Option (S×zb×RL):=match ev sl x with
 |some (.one (.pi row j))=>match T.sh t with
  |some s=>match ofCells s ((row.drop j).map V.p)with
   |some v=>some (v,rq x (.one (.pi row j)),[])
   |none=>none
  |none=>none
 |some (.one (.bx id j))=>match T.sh t with
  |some s=>match tg tab id with
   |some (.box vs)=>match ofCells s (vs.drop j)with
    |some v=>some (v,rq x (.one (.bx id j)),[(id,.box vs)])
    |none=>none
   |_=>none
  |none=>none
 |_=>none
def vNil(x:Operand):Option (S×zb×RL):=match ev sl x with
 |some (.one (.bx id j))=>some (.one (.bx id j),rq x (.one (.bx id j)),[])
 |some (.one (.el id j))=>some (.one (.el id j),rq x (.one (.el id j)),[])
 |_=>none
def vLen(aZ:Array Operand)(ts:Array TypeId):Option (S×zb×RL):=match aZ.toList with
 | [x]=>match ts.toList with
   |t::_=>match ev sl x with
    |some (.one (.p (.sl e rows)))=>match T.es t with
     |some _=>some (I rows.length,rq x (.one (.p (.sl e rows))),[])
     |none=>none
    |some (.one (.p (.k (.slice none 0 0))))=>match T.es t with
     |some _=>some (I 0,rq x (.one (.p (.k (.slice none 0 0)))),[])
     |none=>none
    |some (.one (.ar id))=>match tg tab id with
     |some (.arr e rows)=>match T.es t with
      |some _=>some (I rows.length,rq x (.one (.ar id)),[(id,.arr e rows)])
      |none=>none
     |_=>none
    |some (.one (.p (.k (.string s))))=>if T.str t then some (I s.size,rq x (Sr s),[])else none
    |_=>none
   | []=>none
 |_=>none
def vFun(f:FuncId)(first l:Array Operand):Option (S×zb×RL):=match first.toList with
 | []=>match evs sl l.toList with
   |some ss=>match onesOf ss with
    |some caps=>some (.one (.cl f [] caps),rqs l.toList ss,[])
    |none=>none
   |none=>none
 |_=>none
def vBuild(t:TypeId)(l:Array (Nat×Operand)):Option (S×zb×RL):=match evs sl (l.toList.map (·.2))with
 |some ss=>match T.pl t,T.zs t with
  |some pl,some zs=>match zipParts (l.toList.map (·.1)) ss with
   |some vp=>match fillV (pl[·]?) zs vp with
    |some vs=>some (.agg vs,rqs (l.toList.map (·.2)) ss,[])
    |none=>none
   |none=>none
  |_,_=>none
 |none=>none
def vConv(src dst:TypeId)(x:Operand):Option (S×zb×RL):=match ev sl x with
 |some (.one (.p (.k (.int k0 n))))=>match T.ik src,T.ik dst with
  |some _,some k=>some (Kk k (k.wrap n),rq x (Kk k0 n),[])
  |_,_=>none
 |_=>none
def val:Op->Option (S×zb×RL)
 | .move x| .assign x=>vMove sl x
 | .unOp .not _ x=>vNot sl x
 | .binOp op _ x y _=>vBin sl op x y
 | .extract x i=>vExt sl x i
 | .fieldAddr t x f=>vFld T sl t x f
 | .load t x=>vLoad T sl tab t x
 | .nilCheck x=>vNil sl x
 | .call ⟨.builtin .len,aZ,ts⟩=>vLen T sl tab aZ ts
 | .makeFunc (.func f) first l=>vFun sl f first l
 | .build t l=>vBuild T sl t l
 | .convert src dst x=>vConv T sl src dst x
 |_=>none
end
variable {rs:zb}{rt:RL}{tab:Tab}
def znu(T:Ty P){sl:zb}{op:Op}{v:S}(h:val T sl tab op=some (v,rs,rt)){ty:TypeId}
 {n:Nat}:Snd P ⟨d,op,ty,ps,af,g⟩ rs rt [] v []/\okS rs ⟨n,sl,tab⟩/\okT rt ⟨n,sl,tab⟩:=by
 have E: ∀ {x:Operand} {s:S},ev sl x=some s->okc x s/\okS (rq x s) ⟨n,sl,tab⟩:=λh=>xV (st:=⟨n,sl,tab⟩) h
 unfold val at h;split at h
 ·unfold vMove at h;split at h
  ·rename_i J;simp only[ui,uz]at h;obtain⟨rfl,rfl,rfl⟩:=h;exact⟨zv1 (E J).1,(E J).2,uh⟩
  ·cases h
 ·unfold vMove at h;split at h
  ·rename_i J;simp only[ui,uz]at h;obtain⟨rfl,rfl,rfl⟩:=h;exact⟨zpK (E J).1,(E J).2,uh⟩
  ·cases h
 ·unfold vNot at h;split at h
  ·rename_i J;simp only[ui,uz]at h;obtain⟨rfl,rfl,rfl⟩:=h;exact⟨zxB (E J).1,(E J).2,uh⟩
  ·rename_i J;simp only[ui,uz]at h;obtain⟨rfl,rfl,rfl⟩:=h;exact⟨zv6 (E J).1,(E J).2,uh⟩
  ·cases h
 ·unfold vBin at h;rename_i op0 t1 x1 y1 t2;split at h
  ·rename_i k m J;split at h
   ·rename_i k' U hy;split at h
    ·rename_i e;subst e;have ok:okS (rq x1 (Kk k m)++rq y1 (Kk k U)) ⟨n,sl,tab⟩:=by rw[ze];exact⟨(E J).2,(E hy).2⟩
     have fin: ∀ {f:Int->Int->Bool} {op:BinOp},cmpI op=some f->some (.bq (f m U),rq x1 (Kk k m)++rq y1 (Kk k U),([]:RL))=some (v,rs,rt)->
      Snd P ⟨d,.binOp op t1 x1 y1 t2,ty,ps,af,g⟩ rs rt [] v []/\okS rs ⟨n,sl,tab⟩/\okT rt ⟨n,sl,tab⟩:=λhf h=>by
      simp only[ui,uz]at h;obtain⟨rfl,rfl,rfl⟩:=h;exact⟨(zxC hf (E J).1 (E hy).1).sub (.qb rfl),ok,uh⟩
     have fin2: ∀ {f:Int->Int->Int} {op:BinOp},arith op=some f->some (Kk k (k.wrap (f m U)),rq x1 (Kk k m)++rq y1 (Kk k U),([]:RL))=some (v,rs,rt)->
      Snd P ⟨d,.binOp op t1 x1 y1 t2,ty,ps,af,g⟩ rs rt [] v []/\okS rs ⟨n,sl,tab⟩/\okT rt ⟨n,sl,tab⟩:=λhf h=>by
      simp only[ui,uz]at h;obtain⟨rfl,rfl,rfl⟩:=h;exact⟨zts hf (E J).1 (E hy).1,ok,uh⟩
     unfold vBinI at h;split at h<;>first|exact fin rfl h|exact fin2 rfl h|cases h
    ·cases h
   ·cases h
  ·rename_i m J;split at h
   ·rename_i U hy;have ok:okS (rq x1 (Sr m)++rq y1 (Sr U)) ⟨n,sl,tab⟩:=by rw[ze];exact⟨(E J).2,(E hy).2⟩
    have fin: ∀ {f:ByteArray->ByteArray->Bool} {op:BinOp},zxD op=some f->some (.bq (f m U),rq x1 (Sr m)++rq y1 (Sr U),([]:RL))=some (v,rs,rt)->
     Snd P ⟨d,.binOp op t1 x1 y1 t2,ty,ps,af,g⟩ rs rt [] v []/\okS rs ⟨n,sl,tab⟩/\okT rt ⟨n,sl,tab⟩:=λhf h=>by
     simp only[ui,uz]at h;obtain⟨rfl,rfl,rfl⟩:=h;exact⟨(zv2 hf (E J).1 (E hy).1).sub (.qb rfl),ok,uh⟩
    unfold vBinS at h;split at h<;>first|exact fin rfl h|cases h
   ·cases h
  ·cases h
 ·unfold vExt at h;split at h
  ·rename_i J;split at h
   ·rename_i hs;simp only[ui,uz]at h;obtain⟨rfl,rfl,rfl⟩:=h;exact⟨zng (E J).1 hs,(E J).2,uh⟩
   ·cases h
  ·cases h
 ·unfold vFld at h;split at h
  ·rename_i J;split at h
   ·rename_i hf;simp only[ui,uz]at h;obtain⟨rfl,rfl,rfl⟩:=h;exact⟨zjD (E J).1 (T.fo_ok _ _ _ hf),(E J).2,uh⟩
   ·cases h
  ·rename_i J;split at h
   ·rename_i hf;simp only[ui,uz]at h;obtain⟨rfl,rfl,rfl⟩:=h;exact⟨zjE (E J).1 (T.fo_ok _ _ _ hf),(E J).2,uh⟩
   ·cases h
  ·rename_i J;split at h
   ·rename_i hf;simp only[ui,uz]at h;obtain⟨rfl,rfl,rfl⟩:=h;exact⟨zjF (E J).1 (T.fo_ok _ _ _ hf),(E J).2,uh⟩
   ·cases h
  ·cases h
 ·unfold vLoad at h;split at h
  ·rename_i J;split at h
   ·rename_i hs;split at h
    ·rename_i hv;simp only[ui,uz]at h;obtain⟨rfl,rfl,rfl⟩:=h;exact⟨znj (E J).1 (T.sh_ok _ _ hs) hv,(E J).2,uh⟩
    ·cases h
   ·cases h
  ·rename_i J;split at h
   ·rename_i hs;split at h
    ·rename_i ht;split at h
     ·rename_i hv;simp only[ui,uz]at h;obtain⟨rfl,rfl,rfl⟩:=h;exact⟨znk (E J).1 (T.sh_ok _ _ hs) hv,(E J).2,ht,uh⟩
     ·cases h
    ·cases h
   ·cases h
  ·cases h
 ·unfold vNil at h;split at h
  ·rename_i J;simp only[ui,uz]at h;obtain⟨rfl,rfl,rfl⟩:=h;exact⟨zef (E J).1,(E J).2,uh⟩
  ·rename_i J;simp only[ui,uz]at h;obtain⟨rfl,rfl,rfl⟩:=h;exact⟨zeg (E J).1,(E J).2,uh⟩
  ·cases h
 ·unfold vLen at h;rename_i aZ ts;split at h
  ·rename_i x has;have ha:aZ= #[x]:=by rw[<-Array.toList_inj];simpa using has
   subst ha;split at h
   ·rename_i t tt hts;have ht0:ts[0]?=some t:=by rw[<-qu,hts];rfl
    split at h
    ·rename_i J;split at h
     ·rename_i he;simp only[ui,uz]at h;obtain⟨rfl,rfl,rfl⟩:=h;exact⟨zpN (E J).1 ht0 (T.es_ok _ _ he),(E J).2,uh⟩
     ·cases h
    ·rename_i J;split at h
     ·rename_i he;simp only[ui,uz]at h;obtain⟨rfl,rfl,rfl⟩:=h;exact⟨znm (E J).1 ht0 (T.es_ok _ _ he),(E J).2,uh⟩
     ·cases h
    ·rename_i J;split at h
     ·rename_i ht;split at h
      ·rename_i he;simp only[ui,uz]at h;obtain⟨rfl,rfl,rfl⟩:=h;exact⟨zpO (E J).1 ht0 (T.es_ok _ _ he),(E J).2,ht,uh⟩
      ·cases h
     ·cases h
    ·rename_i J;split at h
     ·rename_i hs;simp only[ui,uz]at h;obtain⟨rfl,rfl,rfl⟩:=h;exact⟨znn (E J).1 ht0 (T.str_ok _ hs),(E J).2,uh⟩
     ·cases h
    ·cases h
   ·cases h
  ·cases h
 ·unfold vFun at h;rename_i f first l
  split at h
  ·rename_i hf;split at h
   ·rename_i ss hss;split at h
    ·rename_i caps hc;simp only[ui,uz]at h;obtain⟨rfl,rfl,rfl⟩:=h;have hf':first= #[]:=by rw[<-Array.toList_inj];simpa using hf
     have:=w7 (st:=⟨n,sl,tab⟩) hss;subst hf';exact⟨by have:=zjJ (P:=P) (d:=d) (ty:=ty) (ps:=ps) (af:=af) (g:=g) (f:=f) this.1 hc;simpa using this,this.2,uh⟩
    ·cases h
   ·cases h
  ·cases h
 ·unfold vBuild at h;rename_i t l;split at h
  ·rename_i ss hss;split at h
   ·rename_i pl zs hpl hzs;split at h
    ·rename_i vp hvp;split at h
     ·rename_i vs hvs;simp only[ui,uz]at h;obtain⟨rfl,rfl,rfl⟩:=h;have:=w7 (st:=⟨n,sl,tab⟩) hss;exact⟨by have:=ztu (P:=P) (d:=d) (ty:=ty) (ps:=ps) (af:=af) (g:=g) (t:=t) this.1 (T.pl_ok _ _ hpl) (T.zs_ok _ _ hzs) hvp hvs;simpa using this,this.2,uh⟩
     ·cases h
    ·cases h
   ·cases h
  ·cases h
 ·unfold vConv at h;split at h
  ·rename_i k0 U J;split at h
   ·rename_i k hs hd;simp only[ui,uz]at h;obtain⟨rfl,rfl,rfl⟩:=h;refine⟨zi λC st M ρ a w hH h1 _=>⟨_,?_,zjP k _⟩,(E J).2,uh⟩;have e:=hH.k (zq (E J).1 h1);simp only[execOp,e,convert,Sem.run_bind,run_underlying (T.ik_ok _ _ hs),run_underlying (T.ik_ok _ _ hd),Result.andThen_ok,Conv.intToInt,Sem.run_pure]
   ·cases h
  ·cases h
 ·cases h
inductive BT (α:Type) where
 |lf
 |nd (l:BT α) (k:Nat) (v:α) (r:BT α)
def bget{α:Type}:BT α->Nat->Option α
 | .lf,_=>none
 | .nd l k v r,j=>match Nat.beq k j with
   |true=>some v
   |false=>match Nat.blt j k with
    |true=>bget l j
    |false=>bget r j
def BT.All{α:Type}(f:Nat->α->Prop):BT α->Prop
 | .lf=>True
 | .nd l k v r=>f k v/\l.All f/\r.All f
theorem BT.All.get{α:Type}{f:Nat->α->Prop}: ∀ {t:BT α},t.All f-> ∀ {j:Nat} {v:α},bget t j=some v->f j v
 | .lf,_,_,_,h=>by cases h
 | .nd l k v r,ha,j,u,h=>by
   simp only[bget]at h;simp only[BT.All]at ha;split at h
   ·simp_all
   ·split at h
    ·exact ha.2.1.get h
    ·exact ha.2.2.get h
def BT.allB{α:Type}(f:Nat->α->Bool):BT α->Bool
 | .lf=>true
 | .nd l k v r=>f k v&&l.allB f&&r.allB f
theorem BT.jB{α:Type}{f:Nat->α->Bool}: ∀ {t:BT α},t.allB f=true->t.All (λk v=>f k v=true)
 | .lf,_=>trivial
 | .nd l k v r,h=>by
   simp only[BT.allB,um]at h;exact⟨h.1.1,BT.jB h.1.2,BT.jB h.2⟩
inductive ZK where
 |int (k:IntKind)|bool|str|slice|ptr|map|nfunc|nif
 deriving DecidableEq
def ZK.val:ZK->Value
 | .int k=> .int k 0
 | .bool=> .bool false
 | .str=> .string ByteArray.empty
 | .slice=> .slice none 0 0
 | .ptr=> .pointer none
 | .map=> .map none
 | .nfunc=> .nilFunc
 | .nif=> .nilIface
def zkB:Value->ZK->Bool
 | .int k n,.int k'=>decide (k=k')&&decide (n=0)
 | .bool b,.bool=> !b
 | .string s,.str=>s.data.toList.isEmpty
 | .slice none 0 0,.slice=>true
 | .pointer none,.ptr=>true
 | .map none,.map=>true
 | .nilFunc,.nfunc=>true
 | .nilIface,.nif=>true
 |_,_=>false
def zpP{v:Value}{z:ZK}(h:zkB v z=true):v=z.val:=by
 unfold zkB at h
 split at h<;>first
  |(simp only[um,uq]at h;rw[h.1,h.2];rfl)
  |rfl
  |cases h
  |skip
 ·rename_i b;cases b<;>simp at h;rfl
 ·rename_i s
  have h2:s.data= #[]:=by
   have:s.data.toList=[]:=by simpa using h
   exact Array.toList_inj.1 (by simpa using this)
  cases s;simp only at h2;subst h2;rfl
def zksB:List Value->List ZK->Bool
 | [],[]=>true
 |v::vs,z::zs=>zkB v z&&zksB vs zs
 |_,_=>false
theorem zfL: ∀ {vs:List Value} {zs:List ZK},zksB vs zs=true->vs=zs.map ZK.val
 | [],[],_=>rfl
 | [],_::_,h=>by cases h
 |_::_,[],h=>by cases h
 |v::vs,z::zs,h=>by
  simp only[zksB,um]at h;rw[zpP h.1,zfL h.2];rfl
def zeroB(P:Program)(t:Nat)(zs:List ZK):Bool:=
 match P.info? t with
 |some i=>match i.zero with
  |some z=>zksB z.cells.toList zs
  |none=>false
 |none=>false
def zV(zs:List ZK):List V:=zs.map λz=> .p (.k z.val)
variable {t:Nat}
theorem zjM{zs:List ZK}(h:zeroB P t zs=true):zeroV P t=some (zV zs):=by
 unfold zeroB at h;cases hi:P.info? t with
 |none=>simp_all
 |some i=>
  rw[hi]at h;simp only at h;cases hz:i.zero with
  |none=>simp_all
  |some z=>
   rw[hz]at h;simp only at h;have e:=zfL h
   have J:z.cells.toList.all Value.oneCell'=true:=by
    rw[e];simp only[List.all_map,List.all_eq_true];intro x _;cases x<;>rfl
   unfold zeroV;simp only[hi,hz];rw[uw J,e,zV,qM];rfl
structure Tabs where
 sh:BT (Option Nat)
 fo:BT (BT Nat)
 es:BT (Nat×Nat)
 zs:BT (List ZK)
 pl:BT (List (Nat×Nat))
 str:BT Unit
 ik:BT IntKind
def isStr(P:Program)(t:Nat):Bool:=match P.underlying t with|some .string=>true|_=>false
def isIk(P:Program)(t:Nat)(k:IntKind):Bool:=match P.underlying t with|some (.int k')=>decide (k'=k)|_=>false
def Tabs.check(P:Program)(t:Tabs):Bool:=
 t.sh.allB (λk v=>decide (shp P k=some v))&&
 t.fo.allB (λk b=>b.allB λf v=>decide (fieldOff P k f=some v))&&
 t.es.allB (λk v=>decide (elemSz P k=some v))&&
 t.zs.allB (λk v=>zeroB P k v)&&
 t.pl.allB (λk v=>decide (places P k=some v))&&
 t.str.allB (λk _=>isStr P k)&&
 t.ik.allB (λk v=>isIk P k v)
def Tabs.ty(t:Tabs)(h:t.check P=true)(hm:P.follows .mixedOrders=true):Ty P where
 mix:=hm
 sh:=bget t.sh
 sh_ok:=by
  simp only[Tabs.check,um]at h;intro j v hj;simpa using(BT.jB h.1.1.1.1.1.1).get hj
 fo j f:=match bget t.fo j with
  |some b=>bget b f
  |none=>none
 fo_ok:=by
  simp only[Tabs.check,um]at h;intro j f v hj;split at hj
  ·rename_i b hb;have h2:=(BT.jB h.1.1.1.1.1.2).get hb;simpa using(BT.jB h2).get hj
  ·cases hj
 es:=bget t.es
 es_ok:=by
  simp only[Tabs.check,um]at h;intro j v hj;simpa using(BT.jB h.1.1.1.1.2).get hj
 zs j:=match bget t.zs j with
  |some z=>some (zV z)
  |none=>none
 zs_ok:=by
  simp only[Tabs.check,um]at h;intro j v hj;split at hj
  ·rename_i z hz;simp only[ui]at hj;subst hj;exact zjM ((BT.jB h.1.1.1.2).get hz)
  ·cases hj
 pl:=bget t.pl
 pl_ok:=by
  simp only[Tabs.check,um]at h;intro j v hj;simpa using(BT.jB h.1.1.2).get hj
 str j:=match bget t.str j with
  |some _=>true
  |none=>false
 str_ok:=by
  simp only[Tabs.check,um]at h;intro j hj;split at hj
  ·rename_i b hb;have:=(BT.jB h.1.2).get hb;unfold isStr at this;grind
  ·cases hj
 ik:=bget t.ik
 ik_ok:=by
  simp only[Tabs.check,um]at h;intro j k hj;have:=(BT.jB h.2).get hj;unfold isIk at this;grind
theorem Ctx.low.none{C:Ctx}(h:C.low){i:Nat}(hi:100<=i):tg C.tab0 i=none:=by
 cases e:tg C.tab0 i with
 |none=>rfl
 |some r=>have:=h i r e;omega
def okL(L:Law)(n:Nat)(sl:zb)(tab:Tab):Prop:=
 okS L.rs ⟨n,sl,tab⟩/\okT L.rt ⟨n,sl,tab⟩/\allB (λid=>Nat.ble 100 id&&freshB id ⟨n,sl,tab⟩) L.fr=true/\dok L.d n=true
theorem j6{C:Ctx}(hC:C.low){st:St}: ∀ {fr:List Nat},allB (λid=>Nat.ble 100 id&&freshB id st) fr=true->okF C fr st
 | [],_=>trivial
 |x::xs,h=>by
  simp only[allB,um]at h;exact⟨vt h.1.2 (hC.none (uS h.1.1)),j6 hC h.2⟩
def metL(all:Array Oper)(sl:zb):Option (Nat×Bool)->Option zb
 |none=>some []
 |some (j,want)=>match(all[j]?).bind (·.dst)with
  |some t=>match sg sl t with
   |some (.one (.p (.k (.bool c))))=>match zbu want c with
    |true=>some [(t,Bo c)]
    |false=>none
   |_=>none
  |none=>none
variable {gs:zb}{wt:Tab}
theorem w8{sl:zb}{op:Op}{ty:TypeId}{fr:List Nat}{v:S}
 (J:metL all sl g=some gs) (hL:Snd P ⟨d,op,ty,ps,af,g⟩ rs rt fr v wt) {n:Nat} :yC P all ⟨d,op,ty,ps,af,g⟩ (gs++rs) rt fr v wt/\okS gs ⟨n,sl,tab⟩:=by
 cases g with
 |none=>
  simp only[metL,ui]at J;subst J;exact⟨yC.plain rfl hL,uh⟩
 |some p=>
  obtain⟨j,want⟩:=p;simp only[metL]at J;split at J
  ·rename_i t ht;split at J
   ·rename_i c hc;split at J
    ·rename_i hw;simp only[ui]at J;subst J;refine⟨λC st M ρ a w hH h1 h2 h3 hd k Q hk=>?_,hc,uh⟩;have U:=vj.wanted (ops:=all) (o:=⟨d,op,ty,ps,af,some (j,want)⟩) (t:=t) (gs:=Bo c) (b:=zbu want c) ⟨j,want,rfl,ht,.inl ⟨c,rfl,rfl⟩⟩ (hH.slots t _ h1.1);rw[U,hw,uw rfl];exact hL C st M ρ a w hH h1.2 h2 h3 hd k Q hk
    ·cases J
   ·cases J
  ·cases J
def lBox(n:Nat)(sl:zb)(tab:Tab)(d:Option Nat)(x:Operand):Option Law:=match d with
 |some d=>match ev sl x with
  |some s=>match cellsOf s with
   |some vs=>match Nat.blt d n&&freshB (1000+d) ⟨n,sl,tab⟩with
    |true=>some ⟨some d,rq x s,[],[1000+d],.one (.bx (1000+d) 0),[(1000+d,some (.box vs))]⟩
    |false=>none
   |none=>none
  |none=>none
 |none=>none
def zq4(T:Ty P)(n:Nat)(sl:zb)(tab:Tab)(d:Option Nat)(t:TypeId):Option Law:=match d with
 |some d=>match T.zs t with
  |some vs=>match Nat.blt d n&&freshB (1000+d) ⟨n,sl,tab⟩with
   |true=>some ⟨some d,[],[],[1000+d],.one (.bx (1000+d) 0),[(1000+d,some (.box vs))]⟩
   |false=>none
  |none=>none
 |none=>none
def lStore(T:Ty P)(sl:zb)(tab:Tab)(d:Option Nat)(t:TypeId)(x y:Operand):Option Law:=match d with
 |none=>match ev sl x with
  |some (.one (.bx id j))=>match ev sl y with
   |some s=>match tg tab id,cellsOf s,T.sh t with
    |some (.box vs),some us,some sh=>match Nat.beq us.length (sh.getD 1)&&Nat.ble (j+us.length) vs.length with
     |true=>some ⟨none,rq x (.one (.bx id j))++rq y s,[(id,.box vs)],[],.un,[(id,some (.box (setAt vs j us)))]⟩
     |false=>none
    |_,_,_=>none
   |none=>none
  |_=>none
 |some _=>none
def zv8(n:Nat)(fl:Bool)(sl:zb)(d:Option Nat)(c x y:Operand):Option Law:=match fl with
 |true=>match d with
  |some d=>match Nat.blt d n with
   |true=>match ev sl c with
    |some (.one (.p (.k (.bool b))))=>match b with
     |true=>match ev sl x with
      |some s=>some ⟨some d,rq c (Bo true)++rq x s,[],[],s,[]⟩
      |none=>none
     |false=>match ev sl y with
      |some s=>some ⟨some d,rq c (Bo false)++rq y s,[],[],s,[]⟩
      |none=>none
    |_=>none
   |false=>none
  |none=>none
 |false=>none
def lVal(T:Ty P)(n:Nat)(sl:zb)(tab:Tab)(d:Option Nat)(op:Op):Option Law:=match d with
 |some d=>match Nat.blt d n with
  |true=>match val T sl tab op with
   |some (v,rs,rt)=>some ⟨some d,rs,rt,[],v,[]⟩
   |none=>none
  |false=>none
 |none=>none
def goL(T:Ty P)(n:Nat)(fl:Bool)(o:Oper)(sl:zb)(tab:Tab):Option Law:=
 match o.op with
 | .box _ x=>lBox n sl tab o.dst x
 | .alloc t=>zq4 T n sl tab o.dst t
 | .store t x y=>lStore T sl tab o.dst t x y
 | .pick c x y=>zv8 n fl sl o.dst c x y
 |op=>lVal T n sl tab o.dst op
def zce(T:Ty P){n:Nat}{fl:Bool}{sl:zb}(h:goL T n fl o sl tab=some L):Snd P o L.rs L.rt L.fr L.v L.wt/\L.d=o.dst/\okL L n sl tab:=by
 obtain⟨d,op,ty,ps,af,g⟩:=o;simp only[goL]at h;have E: ∀ {x:Operand} {s:S},ev sl x=some s->okc x s/\okS (rq x s) ⟨n,sl,tab⟩:=λh=>xV (st:=⟨n,sl,tab⟩) h
 have F: ∀ {d:Nat},freshB (1000+d) ⟨n,sl,tab⟩=true->allB (λid=>Nat.ble 100 id&&freshB id ⟨n,sl,tab⟩) [1000+d]=true:=λ{d} h=>by
  simp only[allB,h,qj];rw[Nat.ble_eq];omega
 split at h
 ·unfold lBox at h;rename_i t x;split at h
  ·rename_i dd;split at h
   ·rename_i s U;split at h
    ·rename_i vs hc;split at h
     ·rename_i J;simp only[um]at J;simp only[ui]at h;subst h;exact⟨zxE (E U).1 hc,rfl,(E U).2,trivial,F J.2,J.1⟩
     ·cases h
    ·cases h
   ·cases h
  ·cases h
 ·unfold zq4 at h;rename_i t;split at h
  ·rename_i dd;split at h
   ·rename_i vs hz;split at h
    ·rename_i J;simp only[um]at J;simp only[ui]at h;subst h;exact⟨ztt (T.zs_ok _ _ hz),rfl,trivial,trivial,F J.2,J.1⟩
    ·cases h
   ·cases h
  ·cases h
 ·unfold lStore at h;rename_i t x y;split at h
  ·split at h
   ·rename_i id j U;split at h
    ·rename_i s hy;split at h
     ·rename_i vs us sh ht hc hs;split at h
      ·rename_i J;simp only[um]at J;simp only[ui]at h;subst h;exact⟨zjH (E U).1 (E hy).1 (T.sh_ok _ _ hs) hc (uA J.1) (uS J.2),rfl,by rw[ze];exact⟨(E U).2,(E hy).2⟩,⟨ht,uh⟩,rfl,rfl⟩
      ·cases h
     ·cases h
    ·cases h
   ·cases h
  ·cases h
 ·unfold zv8 at h;rename_i c x y;split at h
  ·split at h
   ·rename_i dd;split at h
    ·rename_i J;split at h
     ·rename_i b hc;split at h
      ·split at h
       ·rename_i s U;simp only[ui]at h;subst h;exact⟨zpL (E hc).1 (E U).1,rfl,by rw[ze];exact⟨(E hc).2,(E U).2⟩,trivial,rfl,J⟩
       ·cases h
      ·split at h
       ·rename_i s U;simp only[ui]at h;subst h;exact⟨zpM (E hc).1 (E U).1,rfl,by rw[ze];exact⟨(E hc).2,(E U).2⟩,trivial,rfl,J⟩
       ·cases h
     ·cases h
    ·cases h
   ·cases h
  ·cases h
 ·unfold lVal at h;split at h
  ·rename_i dd;split at h
   ·rename_i J;split at h
    ·rename_i v rs rt hv;simp only[ui]at h;subst h;have:=znu T hv (d:=some dd) (ty:=ty) (ps:=ps) (af:=af) (g:=g) (n:=n);exact⟨this.1,rfl,this.2.1,this.2.2,rfl,J⟩
    ·cases h
   ·cases h
  ·cases h
def zpQ(n:Nat)(d:Option Nat)(t:Nat)(s:S):Option Law:=match d with
 |some d=>match Nat.blt d n with
  |true=>some ⟨some d,[(t,s)],[],[],.gd false (Bo false),[]⟩
  |false=>none
 |none=>some ⟨none,[(t,s)],[],[],.gd false (Bo false),[]⟩
def stepL(T:Ty P)(n:Nat)(fl:Bool)(all:Array Oper)(o:Oper)(sl:zb)(tab:Tab):Option Law:=
 match o.guard with
 |none=>goL T n fl o sl tab
 |some (j,want)=>match fl with
  |false=>none
  |true=>match(all[j]?).bind (·.dst)with
   |some t=>match sg sl t with
    |some (.one (.p (.k (.bool c))))=>match zbu want c with
     |true=>match goL T n fl o sl tab with
      |some ⟨d,rs,rt,fr,v,wt⟩=>some ⟨d,(t,Bo c)::rs,rt,fr,v,wt⟩
      |none=>none
     |false=>zpQ n o.dst t (Bo c)
    |some (.gd false (.one (.p (.k (.bool c)))))=>zpQ n o.dst t (.gd false (Bo c))
    |_=>none
   |none=>none
def xd(T:Ty P){n:Nat}{fl:Bool}{sl:zb}(h:stepL T n fl all o sl tab=some L):
 yC P all o L.rs L.rt L.fr L.v L.wt/\L.d=o.dst/\okL L n sl tab:=by
 unfold stepL at h;split at h
 ·rename_i hg;obtain⟨h1,h2,h3⟩:=zce T h;exact⟨yC.plain hg h1,h2,h3⟩
 ·rename_i j want hg;split at h
  ·cases h
  ·split at h
   ·rename_i t ht;split at h
    ·rename_i c U;split at h
     ·rename_i hb;split at h
      ·rename_i d rs rt fr v wt hL;simp only[ui]at h;subst h;obtain⟨h1,h2,h3⟩:=zce T hL;refine⟨λC st M ρ a w hH h4 h5 h6 J k Q hk=>?_,h2,⟨U,h3.1⟩,h3.2⟩;rw[vj.wanted (ops:=all) (o:=o) (t:=t) (gs:=Bo c) (b:=zbu want c) ⟨j,want,hg,ht,.inl ⟨c,rfl,rfl⟩⟩ (hH.slots t _ h4.1),hb,uw rfl];exact h1 C st M ρ a w hH h4.2 h5 h6 J k Q hk
      ·cases h
     ·rename_i hb
      have use: ∀ {v:S},okS [(t,Bo c)] ⟨n,sl,tab⟩/\dok o.dst n=true->L=⟨o.dst,[(t,Bo c)],[],[],.gd false (Bo false),[]⟩->yC P all o L.rs L.rt L.fr L.v L.wt/\L.d=o.dst/\okL L n sl tab:=λ{_} h0 h=>by
       subst h;refine⟨λC st M ρ a w hH h4 h5 h6 J k Q hk=>?_,rfl,⟨U,uh⟩,trivial,rfl,h0.2⟩;rw[vj.wanted (ops:=all) (o:=o) (t:=t) (gs:=Bo c) (b:=zbu want c) ⟨j,want,hg,ht,.inl ⟨c,rfl,rfl⟩⟩ (hH.slots t _ h4.1),hb];simp only[uB,uN];exact hk _ _ M ρ (hH.jO J (by simp[RepS]))
      unfold zpQ at h;split at h
      ·rename_i d J;split at h
       ·rename_i hlt;simp only[ui]at h;exact use (v:= .un) ⟨⟨U,uh⟩,by rw[J];exact hlt⟩ (by rw[<-h,J])
       ·cases h
      ·rename_i J;simp only[ui]at h;exact use (v:= .un) ⟨⟨U,uh⟩,by rw[J];rfl⟩ (by rw[<-h,J])
    ·rename_i c U
     have use:okS [(t,.gd false (Bo c))] ⟨n,sl,tab⟩/\dok o.dst n=true->L=⟨o.dst,[(t,.gd false (Bo c))],[],[],.gd false (Bo false),[]⟩->yC P all o L.rs L.rt L.fr L.v L.wt/\L.d=o.dst/\okL L n sl tab:=λh0 h=>by
      subst h;refine⟨λC st M ρ a w hH h4 h5 h6 J k Q hk=>?_,rfl,⟨U,uh⟩,trivial,rfl,h0.2⟩;rw[vj.wanted (ops:=all) (o:=o) (t:=t) (gs:= .gd false (Bo c)) (b:=false) ⟨j,want,hg,ht,.inr ⟨false,c,rfl,rfl⟩⟩ (hH.slots t _ h4.1)];simp only[uB,uN];exact hk _ _ M ρ (hH.jO J (by simp[RepS]))
     unfold zpQ at h;split at h
     ·rename_i d J;split at h
      ·rename_i hlt;simp only[ui]at h;exact use ⟨⟨U,uh⟩,by rw[J];exact hlt⟩ (by rw[<-h,J])
      ·cases h
     ·rename_i J;simp only[ui]at h;exact use ⟨⟨U,uh⟩,by rw[J];rfl⟩ (by rw[<-h,J])
    ·cases h
   ·cases h
abbrev Mode:=Option (zb×Tab×List Law)
def nx:Mode->Law->Mode
 |none,_=>none
 |some (s,t,done),L=>some (s,t,L::done)
inductive Cur where
 |code (c:Code)
 |ops (all:Array Oper) (rest:List Oper) (md:Mode)
 |fin (e:Exit)
inductive Frm where
 |seq (c:Code)
 |blk (id:Nat)
def unw(P:Program)(C:Ctx):List Frm->(Exit->St->Prop)->Exit->St->Prop
 | [],Q=>Q
 | .seq c::k,Q=>zpD P C c (unw P C k Q)
 | .blk i::k,Q=>blockQ i (unw P C k Q)
def zxH(P:Program)(C:Ctx)(all:Array Oper)(rest:List Oper)(n:Nat)(sl0:zb)(tab0:Tab)(done:List Law)(sl:zb)(tab:Tab)(Q:Exit->St->Prop):Prop:=
 wv P all ⟨n,sl0,tab0⟩ done->(∀k,sg sl k=sg (apps ⟨n,sl0,tab0⟩ done).sl k)->(∀i,tg tab i=tg (apps ⟨n,sl0,tab0⟩ done).tab i)->all.toList.drop done.length=rest->
  ∀M ρ a w id,Holds C ⟨n,sl0,tab0⟩ M ρ a w->(Code.region id all true).wp P (lift C Q) a w
def Goal(P:Program)(C:Ctx)(cur:Cur)(k:List Frm)(n:Nat)(sl:zb)(tab:Tab)(Q:Exit->St->Prop):Prop:=
 match cur with
 | .code c=>Tri P C c ⟨n,sl,tab⟩ (unw P C k Q)
 | .ops all rest none=>zxF P C all rest ⟨n,sl,tab⟩ (unw P C k Q)
 | .ops all rest (some (sl0,tab0,done))=>zxH P C all rest n sl0 tab0 done sl tab (unw P C k Q)
 | .fin e=> ∀M ρ a w,Holds C ⟨n,sl,tab⟩ M ρ a w->lift C (unw P C k Q) e a w
variable {Q:Exit->St->Prop}{md:Mode}{rest:List Oper}
theorem zbF(hC:C.low){k:List Frm}{n:Nat}{sl:zb}
 (hL:yC P all o L.rs L.rt L.fr L.v L.wt) (J:L.d=o.dst) (h:okL L n sl tab) (g:Goal P C (.ops all rest (nx md L)) k n (app L.d L.v L.wt ⟨n,sl,tab⟩).sl (L.wt++tab) Q):
 Goal P C (.ops all (o::rest) md) k n sl tab Q:=by
 obtain⟨h1,h2,h3,h4⟩:=h;cases md with
 |none=>
  rw[J]at g;exact zv3 (st:=⟨n,sl,tab⟩) hL h1 h2 (j6 hC h3) (by rw[<-J];exact h4) g
 |some p=>
  obtain⟨sl0,tab0,done⟩:=p;intro hD U ht hr;refine g ⟨hD,o,?_,hL,J,vP h1 λk _=>(U k).symm,wO h2 λi _=>(ht i).symm,h4⟩ ?_ ?_ ?_
  ·have:(all.toList.drop done.length)[0]?=some o:=by rw[hr];rfl
   rw[tc]at this;simpa using this
  ·intro j;rw[wX];simp only[wr];obtain⟨d,rs,rt,fr,v,wt⟩:=L;cases d with
   |none=>simpa [app]using U j
   |some d=>
    simp only[app];rw[yk];by_cases e:d=j
    ·subst e;simp
    ·simp[e,xr e,U j]
  ·intro i;simp only[apps,app];cases hk:hasB i (keysT L.wt)with
   |true=>exact wg hk
   |false=>rw[yN hk,yN hk];exact ht i
  ·have:(all.toList.drop done.length).drop 1=rest:=by rw[hr];rfl
   rw[tC]at this;simpa [oz]using this
def ev1{sl:zb}{s:S}(h:ev sl x=some s):okc x s:=(xV (st:=⟨0,sl,[]⟩) h).1
def ev2{n:Nat}{sl:zb}{s:S}(h:ev sl x=some s):okS (rq x s) ⟨n,sl,tab⟩:=(xV (st:=⟨n,sl,tab⟩) h).2
def es1{sl:zb}{x:List Operand}{s:List S}(h:evs sl x=some s):zcm x s:=(w7 (st:=⟨0,sl,[]⟩) h).1
def es2{n:Nat}{sl:zb}{x:List Operand}{s:List S}(h:evs sl x=some s):okS (rqs x s) ⟨n,sl,tab⟩:=(w7 (st:=⟨n,sl,tab⟩) h).2
def okA{a b:zb}(h:okS a st)(J:okS b st):okS (a++b) st:=by rw[ze];exact⟨h,J⟩
variable {g0:Option (Nat×Bool)}
def gDo{k:List Frm}{n:Nat}{sl:zb}{op:Op}{ty:TypeId}{fr:List Nat}{v:S}(hC:C.low)
 (J:metL all sl g0=some gs) (U:Snd P ⟨d,op,ty,ps,af,g0⟩ rs rt fr v wt) (h1:okS rs ⟨n,sl,tab⟩) (h2:okT rt ⟨n,sl,tab⟩) (h3:allB (λid=>Nat.ble 100 id&&freshB id ⟨n,sl,tab⟩) fr=true) (hd:dok d n=true)
 (g:Goal P C (.ops all rest (nx md ⟨d,gs++rs,rt,fr,v,wt⟩)) k n (app d v wt ⟨n,sl,tab⟩).sl (wt++tab) Q):Goal P C (.ops all (⟨d,op,ty,ps,af,g0⟩::rest) md) k n sl tab Q:=by
 have:=w8 J U (n:=n) (tab:=tab);exact zbF hC this.1 rfl ⟨okA this.2 h1,h2,h3,hd⟩ g
variable {done:List Law}
def ziN(T:Ty P)(hC:C.low){k:List Frm}{n:Nat}{sl sl0:zb}{tab0:Tab}
 (U:check all (xy all.toList []) ⟨n,sl0,tab0⟩ done=true) (g:Goal P C (.fin .normal) k n sl tab Q):Goal P C (.ops all [] (some (sl0,tab0,done))) k n sl tab Q:=by
 intro hD hs ht _ M ρ a w id J;exact zjL T.mix hD U hC (λa w M ρ J=>g M ρ a w (J.ext (by rw[xY]) hs ht)) J
def mC(_T:Ty P)(_n:Nat)(fl:Bool)(c:Code)(k:List Frm)(sl:zb)(tab:Tab):Option (Cur×List Frm×zb×Tab):=match c with
 | .seq a b=>some (.code a,.seq b::k,sl,tab)
 | .skip=>some (.fin .normal,k,sl,tab)
 | .exit i=>some (.fin (.exit i),k,sl,tab)
 | .ret=>some (.fin .ret,k,sl,tab)
 | .block i c=>some (.code c,.blk i::k,sl,tab)
 | .region _ ops dr=>match dr with
   |false=>some (.ops ops ops.toList none,k,sl,tab)
   |true=>some (.ops ops ops.toList (some (sl,tab,[])),k,sl,tab)
 | .cond c a b=>match fl with
   |true=>match ev sl c with
    |some (.one (.p (.k (.bool bb))))=>match bb with
     |true=>some (.code a,k,sl,tab)
     |false=>some (.code b,k,sl,tab)
    |_=>none
   |false=>none
 |_=>none
def mL(all:Array Oper)(r:List Oper)(md:Mode)(k:List Frm)(sl:zb)(tab:Tab)(L:Option Law):Option (Cur×List Frm×zb×Tab):=match L with
 |some ⟨some d,rs,rt,fr,v,[]⟩=>match md with
  |none=>some (.ops all r none,k,(d,v)::sl,tab)
  |some (s,t,done)=>some (.ops all r (some (s,t,⟨some d,rs,rt,fr,v,[]⟩::done)),k,(d,v)::sl,tab)
 |some ⟨some d,rs,rt,fr,v,[x]⟩=>match md with
  |none=>some (.ops all r none,k,(d,v)::sl,x::tab)
  |some (s,t,done)=>some (.ops all r (some (s,t,⟨some d,rs,rt,fr,v,[x]⟩::done)),k,(d,v)::sl,x::tab)
 |some ⟨none,rs,rt,fr,v,[]⟩=>match md with
  |none=>some (.ops all r none,k,sl,tab)
  |some (s,t,done)=>some (.ops all r (some (s,t,⟨none,rs,rt,fr,v,[]⟩::done)),k,sl,tab)
 |some ⟨none,rs,rt,fr,v,[x]⟩=>match md with
  |none=>some (.ops all r none,k,sl,x::tab)
  |some (s,t,done)=>some (.ops all r (some (s,t,⟨none,rs,rt,fr,v,[x]⟩::done)),k,sl,x::tab)
 |_=>none
def mF(e:Exit)(k:List Frm)(sl:zb)(tab:Tab):Option (Cur×List Frm×zb×Tab):=match k with
 | []=>none
 |f::k=>match e with
  | .normal=>match f with
    | .seq c=>some (.code c,k,sl,tab)
    | .blk _=>some (.fin .normal,k,sl,tab)
  | .exit i=>match f with
    | .seq _=>some (.fin (.exit i),k,sl,tab)
    | .blk j=>match Nat.beq i j with
      |true=>some (.fin .normal,k,sl,tab)
      |false=>some (.fin (.exit i),k,sl,tab)
  | .ret=>some (.fin .ret,k,sl,tab)
  |_=>none
def stepM(T:Ty P)(n:Nat)(fl:Bool):Cur->List Frm->zb->Tab->Option (Cur×List Frm×zb×Tab)
 | .code c,k,sl,tab=>mC T n fl c k sl tab
 | .ops all r md,k,sl,tab=>match r with
   | []=>match md with
     |none=>some (.fin .normal,k,sl,tab)
     |some _=>none
   |o::r=>mL all r md k sl tab (stepL T n fl all o sl tab)
 | .fin e,k,sl,tab=>mF e k sl tab
variable {cur:Cur}{sl':zb}{tab':Tab}
theorem zci(T:Ty P)(hC:C.low){n:Nat}{fl:Bool}{cur':Cur}{k k':List Frm}{sl:zb}
 (h:stepM T n fl cur k sl tab=some (cur',k',sl',tab')) (g:Goal P C cur' k' n sl' tab' Q):Goal P C cur k n sl tab Q:=by
 cases cur with
 |code c=>
  simp only[stepM,mC]at h;split at h
  ·simp only[ui,uz]at h;obtain⟨rfl,rfl,rfl,rfl⟩:=h;exact zvW g
  ·simp only[ui,uz]at h;obtain⟨rfl,rfl,rfl,rfl⟩:=h;exact λM ρ a w J=>wp_skip (g M ρ a w J)
  ·simp only[ui,uz]at h;obtain⟨rfl,rfl,rfl,rfl⟩:=h;exact λM ρ a w J=>wp_exit (g M ρ a w J)
  ·simp only[ui,uz]at h;obtain⟨rfl,rfl,rfl,rfl⟩:=h;exact λM ρ a w J=>wp_ret (g M ρ a w J)
  ·simp only[ui,uz]at h;obtain⟨rfl,rfl,rfl,rfl⟩:=h;exact zm0 g
  ·split at h
   ·simp only[ui,uz]at h;obtain⟨rfl,rfl,rfl,rfl⟩:=h;exact λM ρ a w J=>wp_region_list (g M ρ a w J)
   ·simp only[ui,uz]at h;obtain⟨rfl,rfl,rfl,rfl⟩:=h;exact λM ρ a w J=>g trivial (λ_=>rfl) (λ_=>rfl) rfl M ρ a w _ J
  ·split at h
   ·split at h
    ·rename_i bb hc;split at h
     ·simp only[ui,uz]at h;obtain⟨rfl,rfl,rfl,rfl⟩:=h;exact zm1 hc g
     ·simp only[ui,uz]at h;obtain⟨rfl,rfl,rfl,rfl⟩:=h;exact zm2 hc g
    ·cases h
   ·cases h
  ·cases h
 |ops all r md=>
  simp only[stepM,mL]at h;split at h
  ·split at h
   ·simp only[ui,uz]at h;obtain⟨rfl,rfl,rfl,rfl⟩:=h;exact λM ρ a w J=>wpList_nil (g M ρ a w J)
   ·cases h
  ·rename_i o r;split at h
   ·rename_i U;obtain⟨h1,h2,h3⟩:=xd T U;refine zbF hC h1 h2 h3 ?_;split at h
    ·simp only[ui,uz]at h;obtain⟨rfl,rfl,rfl,rfl⟩:=h;exact g
    ·simp only[ui,uz]at h;obtain⟨rfl,rfl,rfl,rfl⟩:=h;exact g
   ·rename_i U;obtain⟨h1,h2,h3⟩:=xd T U;refine zbF hC h1 h2 h3 ?_;split at h
    ·simp only[ui,uz]at h;obtain⟨rfl,rfl,rfl,rfl⟩:=h;exact g
    ·simp only[ui,uz]at h;obtain⟨rfl,rfl,rfl,rfl⟩:=h;exact g
   ·rename_i U;obtain⟨h1,h2,h3⟩:=xd T U;refine zbF hC h1 h2 h3 ?_;split at h
    ·simp only[ui,uz]at h;obtain⟨rfl,rfl,rfl,rfl⟩:=h;exact g
    ·simp only[ui,uz]at h;obtain⟨rfl,rfl,rfl,rfl⟩:=h;exact g
   ·rename_i U;obtain⟨h1,h2,h3⟩:=xd T U;refine zbF hC h1 h2 h3 ?_;split at h
    ·simp only[ui,uz]at h;obtain⟨rfl,rfl,rfl,rfl⟩:=h;exact g
    ·simp only[ui,uz]at h;obtain⟨rfl,rfl,rfl,rfl⟩:=h;exact g
   ·cases h
 |fin e=>
  simp only[stepM,mF]at h;split at h
  ·cases h
  ·rename_i f k;split at h
   ·split at h
    ·simp only[ui,uz]at h;obtain⟨rfl,rfl,rfl,rfl⟩:=h;exact λM ρ a w J=>⟨_,M,ρ,g,J⟩
    ·simp only[ui,uz]at h;obtain⟨rfl,rfl,rfl,rfl⟩:=h;exact g
   ·split at h
    ·simp only[ui,uz]at h;obtain⟨rfl,rfl,rfl,rfl⟩:=h;exact g
    ·split at h
     ·rename_i hb;simp only[ui,uz]at h;obtain⟨rfl,rfl,rfl,rfl⟩:=h;refine λM ρ a w J=>?_;obtain⟨st,M',ρ',hq,hH'⟩:=g M ρ a w J;exact⟨st,M',ρ',by simp only[unw,blockQ,hb];exact hq,hH'⟩
     ·rename_i hb;simp only[ui,uz]at h;obtain⟨rfl,rfl,rfl,rfl⟩:=h;refine λM ρ a w J=>?_;obtain⟨st,M',ρ',hq,hH'⟩:=g M ρ a w J;exact⟨st,M',ρ',by simp only[unw,blockQ,hb];exact hq,hH'⟩
   ·simp only[ui,uz]at h;obtain⟨rfl,rfl,rfl,rfl⟩:=h;cases f<;>exact g
   ·cases h
def runM{P:Program}(T:Ty P)(n:Nat)(fl:Bool):Nat->Cur->List Frm->zb->Tab->Cur×List Frm×zb×Tab
 |0,cur,k,sl,tab=>(cur,k,sl,tab)
 |f+1,cur,k,sl,tab=>match stepM T n fl cur k sl tab with
  |some (cur',k',sl',tab')=>runM T n fl f cur' k' sl' tab'
  |none=>(cur,k,sl,tab)
theorem w9{P:Program}(T:Ty P){C:Ctx}(hC:C.low){n:Nat}(fl:Bool){Q:Exit->St->Prop}: ∀(f:Nat) {cur cur':Cur} {k k':List Frm} {sl sl':zb} {tab tab':Tab},
 runM T n fl f cur k sl tab=(cur',k',sl',tab')->Goal P C cur' k' n sl' tab' Q->Goal P C cur k n sl tab Q
 |0,cur,cur',k,k',sl,sl',tab,tab',h,g=>by
  simp only[runM,uz]at h;obtain⟨rfl,rfl,rfl,rfl⟩:=h;exact g
 |f+1,cur,cur',k,k',sl,sl',tab,tab',h,g=>by
  simp only[runM]at h;split at h
  ·rename_i J;exact zci T hC J (w9 T hC fl f h g)
  ·simp only[uz]at h;obtain⟨rfl,rfl,rfl,rfl⟩:=h;exact g
def enum:Nat->List S->zb
 |_,[]=>[]
 |k,s::ss=>(k,s)::enum (k+1) ss
def rvOf(T:Ty P)(st:St):ResultVar->Option S
 | .tmp t=>sg st.sl t
 | .cell a t=>match sg st.sl a with
   |some (.one (.bx id j))=>match tg st.tab id,T.sh t with
    |some (.box vs),some sh=>ofCells sh (vs.drop j)
    |_,_=>none
   |_=>none
def rvsOf{P:Program}(T:Ty P)(st:St):List ResultVar->Option (List S)
 | []=>some []
 |r::rs=>match rvOf T st r,rvsOf T st rs with
  |some s,some ss=>some (s::ss)
  |_,_=>none
def tupOf:List S->S
 | [s]=>s
 |ss=> .tup ss
def mR(σ:Nat->Nat)(tab:Tab):RL->Prop
 | []=>True
 |(i,r)::t=>tg tab (σ i)=some (r.ren σ)/\mR σ tab t
theorem zcC{σ:Nat->Nat}{tab:Tab}: ∀ {l:RL},mR σ tab l-> ∀ {i r},(i,r)∈l->tg tab (σ i)=some (r.ren σ)
 | [],_,_,_,h=>by cases h
 |(k0,s0)::r,h,k,s,J=>by
  rcases uF.1 J with e|J
  ·simp only[uz]at e;obtain⟨rfl,rfl⟩:=e;exact h.1
  ·exact zcC h.2 J
def zcn(T:Ty P)(rv:List ResultVar)(R:RL)(res:S)(R':RL):Exit->St->Prop:=λe st=>
 (e= .ret\/e= .normal)/\ ∃(σ:Nat->Nat) (ss:List S),rvsOf T st rv=some ss/\LeS (tupOf ss) (res.ren σ)/\mR σ st.tab R'/\injB σ R'.ids=true/\allB (λi=>Nat.beq (σ i) i) R.ids=true
def zjN(_P:Program)(a:Act)(r:ResultVar):Sem Value:=match r with
 | .tmp t=>pure (a.tmps.getD t undef)
 | .cell x t=>do loadVar t (<-asAddr (a.tmps.getD x undef))
theorem znv{P:Program}(T:Ty P){C:Ctx}{st:St}{M:Mem}{ρ:Nat->Value}{a:Act}{w:World}(hH:Holds C st M ρ a w): ∀(rv:List ResultVar) (ss:List S),rvsOf T st rv=some ss->
 ∃vs:List Value,(rv.mapM (zjN P a)).run P w= .ok vs w/\RepSs M ρ ss vs
 | [],ss,h=>by simp[rvsOf]at h;subst h;exact⟨[],ue,by simp only[RepSs]⟩
 |r::rs,ss,h=>by
  simp only[rvsOf]at h;split at h
  ·rename_i s ss' J h2;simp only[ui]at h;subst h;obtain⟨vs,h3,h4⟩:=znv T hH rs ss' h2
   have one: ∃v,(zjN P a r).run P w= .ok v w/\RepS M ρ s v:=by
    cases r with
    |tmp t=>exact⟨_,rfl,hH.slots t s J⟩
    |cell x t=>
     simp only[rvOf]at J;split at J
     ·rename_i id j hx;split at J
      ·rename_i us sh ht hs;have e:=hH.slots x _ hx;simp only[RepS,RepV]at e;obtain⟨b,e1,e2⟩:=e;obtain⟨b',cs,el,U,h6,h7⟩:=hH.zz.res id _ ht;rw[e1]at U;simp at U;subst U
       obtain⟨u,hu,hr⟩:=yd (w:=w) (b:=b) (o:=j) (T.sh_ok _ _ hs) (h7.drop j) (λi c hc=>by
        rw[tc]at hc
        simp[World.cell?,h6,hc]) J
       exact⟨u,by simp only[zjN,e2,Sem.run_bind,asAddr,Sem.run_pure,Result.andThen_ok,hu],hr⟩
      ·cases J
     ·cases J
   obtain⟨v,U,h6⟩:=one;refine⟨v::vs,?_,by simp only[RepSs];exact⟨h6,h4⟩⟩;simp only[Uy,Sem.run_bind,U,Result.andThen_ok,h3,Sem.run_pure]
  ·cases h
variable {fn:Func}{rv:List ResultVar}
theorem wz(T:Ty P)(U:fn.results=rv.toArray)(hH:Holds C st M ρ a w)
 (h:rvsOf T st rv=some ss): ∃v,(results fn a.tmps).run P w= .ok v w/\RepS M ρ (tupOf ss) v:=by
 obtain⟨vs,h1,h2⟩:=znv T hH rv ss h
 have hmA:(fn.results.mapM (zjN P a)).run P w= .ok vs.toArray w:=by
  rw[U,oU];simp only[Functor.map];have:=Sem.run_bind (P:=P) (w:=w) (rv.mapM (zjN P a)) (λx=>(Sem.pure (List.toArray x)));exact this.trans (by rw[h1];rfl)
 have J:(results fn a.tmps).run P w= .ok (if h:vs.toArray.size=1 then vs.toArray[0]else .tuple vs.toArray) w:=by
  unfold results;simp only[Sem.run_bind];change (Sem.run P (Array.mapM (zjN P a) fn.results) w).andThen _=_;rw[hmA];rfl
 refine⟨_,J,?_⟩
 match ss,vs,h2 with
 | [],[],_=>simp only[tupOf,RepS];exact⟨[],ue,by simp only[RepSs]⟩
 | [s],[v],h2=>simp only[RepSs]at h2;simpa [tupOf]using h2.1
 |s::s'::ss,v::v'::vs,h2=>
  simp only[tupOf,RepS];refine⟨v::v'::vs,?_,h2⟩;rw[dif_neg ue]
 | [],_::_,h2=>simp only[RepSs]at h2
 | [_],[],h2=>simp only[RepSs]at h2
 | [_],_::_::_,h2=>simp only[RepSs]at h2;exact h2.2.elim
 |_::_::_,[],h2=>simp only[RepSs]at h2
 |_::_::_,[_],h2=>simp only[RepSs]at h2;exact h2.2.elim
theorem jj{M:Mem}{ρ:Nat->Value}: ∀ {args:List S} {xs:List Value} {i:Nat} {n:Nat},RepSs M ρ args xs-> ∀ {k:Nat} {s:S},sg (enum i args) k=some s->
 i<=k/\RepS M ρ s ((xs.toArray++Array.replicate n undef).getD (k - i) undef)
 | [],xs,i,n,_,k,s,h=>by cases h
 |a::aZ,[],i,n,hr,_,_,_=>by simp only[RepSs]at hr
 |a::aZ,x::xs,i,n,hr,k,s,h=>by
  simp only[RepSs]at hr;simp only[enum,yk]at h;split at h
  ·rename_i e;subst e;simp only[ui]at h;subst h;refine⟨uM _,?_⟩;simp only[Ue];have U:((x::xs).toArray++Array.replicate n undef).getD 0 undef=x:=by simp[Array.getD]
   rw[U];exact hr.1
  ·rename_i e;obtain⟨h1,h2⟩:=jj (n:=n) hr.2 h;refine⟨ua,?_⟩;have e3:k - i=(k - (i+1))+1:=by omega
   rw[e3];simp only[qL]at h2⊢
   have e4:((x::xs).toArray++Array.replicate n undef)[k - (i+1)+1]?=(xs.toArray++Array.replicate n undef)[k - (i+1)]?:=by
    rw[Uf,Uf];simp only[qg,uX];by_cases J:k - (i+1)<xs.length
    ·rw[uw ua,uw J];simp
    ·rw[ur ua,ur J];congr 1;omega
   rw[e4];exact h2
theorem RepSs.length{M:Mem}{ρ:Nat->Value}: ∀ {x:List S} {v:List Value},RepSs M ρ x v->v.length=x.length
 | [],[],_=>rfl
 | [],_::_,h=>by simp only[RepSs]at h
 |_::_,[],h=>by simp only[RepSs]at h
 |x::xs,v::vs,h=>by simp only[RepSs]at h;simp[h.2.length]
variable {c:Code}
def zqN(T:Ty P){R R':RL}(hf:P.funcs[f]?=some fn)
 (hname:(fn.name== "runtime.NumGoroutine")=false) (U:fn.body=some c) (hrv:fn.results=rv.toArray) (hlow:allB (λi=>Nat.blt i 100) R.ids=true)
 (hn:Nat.ble args.length fn.ntmps=true) (body: ∀C:Ctx,C.low->C.tab0=tb R->Goal P C (.code c) [] fn.ntmps (enum 0 args) (tb R) (zcn T rv R res R')):zh P f args R res R':=by
 refine⟨⟨fn,hf,hname,by rw[U];rfl⟩,λM ρ w xs hx hT hI hG=>?_⟩;have hlen:=hx.length;have hnn:args.length<=fn.ntmps:=uS hn
 have hgf: ∀p∈G2,¬zaO (tb R) ρ p.1:=λp hp ⟨id,r,h1,h2⟩=>by
  obtain⟨v,hv⟩:=zj4 p hp;have:=hG.le _ _ _ hv;rw[hT.own id r p.1 h1 h2 0]at this;cases this
 let C:Ctx:=⟨w,M,ρ,tb R,hG,hgf,[]⟩
 have hC:C.low:=λi r h=>by
  have:=zy hlow i (zH (zF h));simpa [tH]using this
 have hH:Holds C ⟨fn.ntmps,enum 0 args,tb R⟩ M ρ { tmps:=xs.toArray++Array.replicate (fn.ntmps - xs.toArray.size) undef,defers:=[] } w:=by
  refine⟨rfl,ug,λk s hk=>?_,hT,λid r b h1 h2 h3=>h3.2 ⟨id,r,h1,h2⟩,⟨hI,λ_ _=>rfl,uM _,MLe.refl _,λ_ _ _ h=> .inl h,rfl,rfl,rfl⟩,λ_ _ _=>rfl⟩;have:=(jj (n:=fn.ntmps - xs.toArray.size) hx hk).2;simpa using this
 refine calls_of_wp hf U (wp_mono (body C hC rfl M ρ _ w hH) λe a w' ⟨st,M',ρ',hq,J⟩=>?_);simp only[unw]at hq;obtain⟨he,σ,ss,h1,h2,h3,h4,h5⟩:=hq;obtain⟨v,hv,hrep⟩:=wz T hrv J h1
 have frb: ∀b,¬C.fr b->w.heap.size<=b\/zaO (tb R) ρ b:=λb U=>by
  rcases tu b w.heap.size with h|h
  ·exact .inr (tU λhn=>U ⟨h,hn⟩)
  ·exact .inl h
 have tk: ∀i r,tg (tb R') i=some r->tg st.tab (σ i)=some (r.ren σ):=λi r h=>zcC h3 (zF h)
 have ti: ∀i r,tg (tb R') i=some r->i∈R'.ids:=λi r h=>zH (zF h)
 have fin:a.defers=[]/\ ∃v,(results fn a.tmps).run P w'= .ok v w'/\ ∃v' M' ρ',Ending.returned v= .returned v'/\Ret M ρ w R res R' v' M' ρ' w':=by
  refine⟨J.dfr,v,hv,v,M',λi=>ρ' (σ i),rfl,?_⟩
  refine⟨?_,⟨λi r hr=>(J.zz.res _ _ (tk i r hr)).ren,?_,?_⟩,J.run.imm,J.run.base,λb o u hu=>(J.run.newM b o u hu).imp id (frb b),?_,λb U hn=>J.run.fram b ⟨U,hn⟩,
   J.run.size,J.run.os,J.run.tape,J.run.output,?_⟩
  ·exact(RepS.ren _ _).1 (h2 _ _ _ hrep)
  ·intro i j ri rj b e1 e2 hne hb1 hb2;exact J.zz.dis _ _ _ _ b (tk i ri e1) (tk j rj e2) (yt h4 i j (ti i ri e1) (ti j rj e2) hne) hb1 hb2
  ·intro i r b e1 U;exact J.zz.own _ _ b (tk i r e1) U
  ·rintro b ⟨i,r,e1,U⟩;exact frb b (J.ownf _ _ b (tk i r e1) U)
  ·intro id hid;have e:=uA (zy h5 id hid);rw[e];obtain⟨r,hr⟩:=vS hid;exact J.keep id r hr
 rcases he with rfl|rfl<;>exact fin
def zro(T:Ty P){R R':RL}(hf:P.funcs[f]?=some fn)
 (J:(fn.name== "runtime.NumGoroutine")=false) (hb:fn.body=some c) (hrv:fn.results=rv.toArray) (U:allB (λi=>Nat.blt i 100) R.ids=true)
 (hn:Nat.ble args.length fn.ntmps=true) (body: ∀C:Ctx,C.low->Goal P C (.code c) [] fn.ntmps (enum 0 args) (tb R) (zcn T rv R res R')):zh P f args R res R':=
 zqN T hf J hb hrv U hn λC hC _=>body C hC
variable {b:Bool}{k0:IntKind}{m:Nat}{rows:List (List PV)}{α:Type}{μ:α->Nat}{φ:α->Prop}
section
variable {k:List Frm} {n:Nat} {sl:zb}
def zK{e:Exit}(h:Q e ⟨n,sl,tab⟩):Goal P C (.fin e) [] n sl tab Q:=λM ρ _ _ J=>⟨_,M,ρ,h,J⟩
def zpU{c:Nat}{x y:Code}(hc:sg sl c=some (.bq b))(ht:b=true->Goal P C (.code x) k n sl tab Q)(hf:b=false->Goal P C (.code y) k n sl tab Q):
 Goal P C (.code (.cond (.tmp c) x y)) k n sl tab Q:=by
 have key: ∀M ρ a w,Holds C ⟨n,sl,tab⟩ M ρ a w->Holds C ⟨n,(c,Bo b)::sl,tab⟩ M ρ a w:=λM ρ a w h=>h.zr8 rfl rfl λj u J=>by
  rw[yk]at J;split at J
  ·rename_i e;subst e;simp only[ui]at J;subst J;exact LeS.bq rfl _ _ _ (h.slots _ _ hc)
  ·exact h.slots _ _ J
 have back: ∀M ρ a w,Holds C ⟨n,(c,Bo b)::sl,tab⟩ M ρ a w->Holds C ⟨n,sl,tab⟩ M ρ a w:=λM ρ a w h=>h.zr8 rfl rfl λj u J=>by
  by_cases e:c=j
  ·subst e;rw[hc]at J;simp only[ui]at J;subst J;exact LeS.qb rfl _ _ _ (h.slots c _ (zaM _ _ _))
  ·exact h.slots j u (by rw[zbq e];exact J)
 refine λM ρ a w U=>ziH (st:=⟨n,(c,Bo b)::sl,tab⟩) (b:=b) (by simp only[ev];exact zaM _ _ _) (λh=>?_) (λh=>?_) M ρ a w (key M ρ a w U)
 ·exact λM ρ a w U=>ht h M ρ a w (back M ρ a w U)
 ·exact λM ρ a w U=>hf h M ρ a w (back M ρ a w U)
def rdT(tab:Tab):RL->RL
 | []=>[]
 |(k,_)::r=>match tg tab k with
  |some s=>(k,s)::rdT tab r
  |none=>[]
theorem wM{n:Nat}{tab:Tab}{sl:zb}: ∀ {rs:RL},rdT tab rs=rs->okT rs ⟨n,sl,tab⟩
 | [],_=>trivial
 |(k,s)::r,h=>by
  simp only[rdT]at h;split at h
  ·rename_i s' hs;simp only[qC,uz,Uq]at h;exact⟨by simp_all,wM h.2⟩
  ·cases h
def w6{d:Nat}{l:List Operand}{ty:TypeId}(hC:C.low){first caps:List V}
 (h:zh P f args [] res []) (J:ev sl x=some (.one (.cl f first caps))) (U:evs sl l=some ss) (ha:yG (ones first++ss++ones caps) args) (hc:cloS [] res=true) (hm:metL all sl g0=some gs) (hd:Nat.blt d n=true)
 (g:Goal P C (.ops all rest (nx md ⟨some d,gs++(rq x (.one (.cl f first caps))++rqs l ss),[],[],res,[]⟩)) k n ((d,res)::sl) tab Q):
 Goal P C (.ops all (⟨some d,.call ⟨.value x,l.toArray,ts⟩,ty,ps,af,g0⟩::rest) md) k n sl tab Q:=
 gDo hC hm (ztw h (ev1 J) (es1 U) ha hc) (okA (ev2 J) (es2 U)) trivial rfl hd g
def jE(T:Ty P){d:Nat}{y:Operand}{t:TypeId}{ty:TypeId}(hC:C.low){e:Nat}{i:Int}{row:List PV}{el:TypeId}
 (J:ev sl x=some (.one (.p (.sl e rows)))) (U:ev sl y=some (Kk k0 i)) (he:T.es t=some (el,e)) (h0:0<=i) (hi:rows[i.toNat]?=some row) (hm:metL all sl g0=some gs) (hd:Nat.blt d n=true)
 (g:Goal P C (.ops all rest (nx md ⟨some d,gs++(rq x (.one (.p (.sl e rows)))++rq y (Kk k0 i)),[],[],.one (.pi row 0),[]⟩)) k n ((d,.one (.pi row 0))::sl) tab Q):
 Goal P C (.ops all (⟨some d,.indexAddr t x y,ty,ps,af,g0⟩::rest) md) k n sl tab Q:=
 gDo hC hm (zaI (ev1 J) (ev1 U) (T.es_ok _ _ he) h0 hi) (okA (ev2 J) (ev2 U)) trivial rfl hd g
def zpV(T:Ty P){d:Nat}{y:Operand}{t:TypeId}{ty:TypeId}(hC:C.low){s:ByteArray}{i:Int}{c:UInt8}
 (J:ev sl x=some (Sr s)) (U:ev sl y=some (Kk k0 i)) (he:T.str t=true) (h0:0<=i) (hi:s[i.toNat]?=some c) (hm:metL all sl g0=some gs) (hd:Nat.blt d n=true)
 (g:Goal P C (.ops all rest (nx md ⟨some d,gs++(rq x (Sr s)++rq y (Kk k0 i)),[],[],Kk .u8 c.toNat,[]⟩)) k n ((d,Kk .u8 c.toNat)::sl) tab Q):
 Goal P C (.ops all (⟨some d,.index t x y,ty,ps,af,g0⟩::rest) md) k n sl tab Q:=
 gDo hC hm (zhe (ev1 J) (ev1 U) (T.str_ok _ he) h0 hi) (okA (ev2 J) (ev2 U)) trivial rfl hd g
theorem zxI(hm: ∀all rest p,cur≠ .ops all rest (some p))(h: ∀ {M ρ a w},Holds C ⟨n,sl,tab⟩ M ρ a w-> ∃M' ρ',Holds C ⟨n,sl',tab'⟩ M' ρ' a w)(g:Goal P C cur k n sl' tab' Q):
 Goal P C cur k n sl tab Q:=by
 cases cur with
 |code c=>exact λM ρ a w U=>let ⟨M',ρ',J⟩:=h U;g M' ρ' a w J
 |ops a r md=>cases md with
  |none=>exact λM ρ a w U=>let ⟨M',ρ',J⟩:=h U;g M' ρ' a w J
  |some p=>simp_all
 |fin e=>exact λM ρ a w U=>let ⟨M',ρ',J⟩:=h U;g M' ρ' a w J
theorem zep{p:Prop}(hm: ∀all rest p,cur≠ .ops all rest (some p))(h: ∀ {M ρ a w},Holds C ⟨n,sl,tab⟩ M ρ a w->p)(g:p->Goal P C cur k n sl tab Q):Goal P C cur k n sl tab Q:=by
 cases cur with
 |code c=>exact λM ρ a w J=>g (h J) M ρ a w J
 |ops a r md=>cases md with
  |none=>exact λM ρ a w J=>g (h J) M ρ a w J
  |some q=>simp_all
 |fin e=>exact λM ρ a w J=>g (h J) M ρ a w J
theorem zw8(t:Nat){s s':S}(U:sg sl t=some s)(e:s=s')(g:Goal P C cur k n ((t,s')::sl) tab Q):Goal P C cur k n sl tab Q:=by
 subst e
 have key: ∀j,sg ((t,s)::sl) j=sg sl j:=λj=>by
  rw[yk];split
  ·rename_i e;subst e;exact U.symm
  ·rfl
 cases cur with
 |code c=>exact λM ρ a w J=>g M ρ a w (J.ext rfl key λ_=>rfl)
 |ops a r md=>cases md with
  |none=>exact λM ρ a w J=>g M ρ a w (J.ext rfl key λ_=>rfl)
  |some p=>
   obtain⟨s0,t0,done⟩:=p;exact λh1 h2 h3 h4=>g h1 (λj=>(key j).trans (h2 j)) h3 h4
 |fin e=>exact λM ρ a w J=>g M ρ a w (J.ext rfl key λ_=>rfl)
def zxJ(U:sg sl t=some (.bq b))(h:Holds C ⟨n,sl,tab⟩ M ρ a w):Holds C ⟨n,(t,Bo b)::sl,tab⟩ M ρ a w:=
 h.zr8 rfl rfl λj u J=>by
  rw[yk]at J;split at J
  ·rename_i e;subst e;simp only[ui]at J;subst J;exact LeS.bq rfl _ _ _ (h.slots _ _ U)
  ·exact h.slots _ _ J
theorem znw(t:Nat)(J:sg sl t=some (.bq b))(U:b=true->Goal P C (.ops all rest none) k n ((t,Bo true)::sl) tab Q)(g2:b=false->Goal P C (.ops all rest none) k n ((t,Bo false)::sl) tab Q):
 Goal P C (.ops all rest none) k n sl tab Q:=by
 intro M ρ a w hH;have h:=zxJ J hH;cases hb:b with
 |true=>rw[hb]at h;exact U hb M ρ a w h
 |false=>rw[hb]at h;exact g2 hb M ρ a w h
theorem jZ{sl0:zb}{tab0:Tab}{fr:List Nat}
 (g1:b=true->Goal P C (.ops all rest (some (sl0,tab0,⟨some t,rs,rt,fr,Bo true,wt⟩::done))) k n ((t,Bo true)::sl) tab Q)
 (g2:b=false->Goal P C (.ops all rest (some (sl0,tab0,⟨some t,rs,rt,fr,Bo false,wt⟩::done))) k n ((t,Bo false)::sl) tab Q):
 Goal P C (.ops all rest (some (sl0,tab0,⟨some t,rs,rt,fr,.bq b,wt⟩::done))) k n sl tab Q:=by
 intro U hs ht hr
 have use: ∀c:Bool,b=c->Goal P C (.ops all rest (some (sl0,tab0,⟨some t,rs,rt,fr,Bo c,wt⟩::done))) k n ((t,Bo c)::sl) tab Q->
  ∀M ρ a w id,Holds C ⟨n,sl0,tab0⟩ M ρ a w->(Code.region id all true).wp P (lift C (unw P C k Q)) a w:=λc e g=>by
  obtain⟨h1,o,h2,h3,h4,h5⟩:=U;refine g ⟨h1,o,h2,h3.sub (.bq e),h4,h5⟩ (λj=>?_) (λi=>ht i) hr;have:=hs j;rw[wX]at this⊢;rw[yk];simp only[wr]at this⊢;by_cases J:t=j
  ·subst J;simp
  ·simpa [J,xr J]using this
 cases hb:b with
 |true=>grind
 |false=>grind
def j0{want:Bool}(_hg:o.guard=some (j,want))(_ht:(all[j]?).bind (·.dst)=some t)(J:sg sl t=some (.bq b))
 (U:b=true->Goal P C (.ops all (o::rest) none) k n ((t,Bo true)::sl) tab Q) (g2:b=false->Goal P C (.ops all (o::rest) none) k n ((t,Bo false)::sl) tab Q):
 Goal P C (.ops all (o::rest) none) k n sl tab Q:=znw t J U g2
def j3{y:Operand}(_ho:o.op= .pick (.tmp t) x y)(J:sg sl t=some (.bq b))
 (U:b=true->Goal P C (.ops all (o::rest) none) k n ((t,Bo true)::sl) tab Q) (g2:b=false->Goal P C (.ops all (o::rest) none) k n ((t,Bo false)::sl) tab Q):
 Goal P C (.ops all (o::rest) none) k n sl tab Q:=znw t J U g2
def znB(T:Ty P)(hC:C.low)(fl:Bool)(f:Nat){cur1 cur':Cur}{k k1 k':List Frm}{sl sl1:zb}{tab1:Tab}
 (J:stepM T n fl cur k sl tab=some (cur1,k1,sl1,tab1)) (h:runM T n fl f cur1 k1 sl1 tab1=(cur',k',sl',tab')) (g:Goal P C cur' k' n sl' tab' Q):Goal P C cur k n sl tab Q:=
 zci T hC J (w9 T hC fl f h g)
def zhn(T:Ty P){e:Exit}{b':Bool}(J:e= .ret\/e= .normal)(hv:rvsOf T ⟨n,sl,tab⟩ rv=some [.bq b])(h:b=b'):Goal P C (.fin e) [] n sl tab (zcn T rv [] (.bq b') []):=
 zK ⟨J,id,_,hv,.qq h,trivial,rfl,rfl⟩
def zj0(T:Ty P){e:Exit}{b':Bool}(J:e= .ret\/e= .normal)(hv:rvsOf T ⟨n,sl,tab⟩ rv=some [Bo b])(h:b=b'):Goal P C (.fin e) [] n sl tab (zcn T rv [] (.bq b') []):=
 zK ⟨J,id,_,hv,.qb h,trivial,rfl,rfl⟩
def ztS(T:Ty P){e:Exit}{b b':Int}(J:e= .ret\/e= .normal)(hv:rvsOf T ⟨n,sl,tab⟩ rv=some [I b])(h:b=b'):Goal P C (.fin e) [] n sl tab (zcn T rv [] (I b') []):=
 zK ⟨J,id,_,hv,.of (by rw[h];rfl),trivial,rfl,rfl⟩
def wG(t:Nat){e:Nat}(J:sg sl t=some (.one (.p (.sl e rows))))(g:rows.length<=9223372036854775807->Goal P C (.code c) k n sl tab Q):Goal P C (.code c) k n sl tab Q:=
 λM ρ a w h=>g (by
  have:=h.slots t _ J;simp only[RepS,RepV,RepPV]at this
  omega) M ρ a w h
def zen(φ:α->Prop)(T:α->zb×Tab)(μ:α->Nat)(n m:Nat)(Q:Exit->St->Prop):Exit->St->Prop:=
 zv4 (λz:{y // φ y}=>⟨n,(T z.1).1,(T z.1).2⟩) (λz=>μ z.1) m Q
def zj(φ:α->Prop)(T:α->zb×Tab)(μ:α->Nat)(hC:C.low)(x:α)(J:φ x)(σ:Nat->Nat)(U:Matches σ ⟨n,sl,tab⟩ ⟨n,(T x).1,(T x).2⟩)
 (h: ∀y,φ y->Goal P C (.code c) [] n (T y).1 (T y).2 (zen φ T μ n (μ y) (unw P C k Q))):Goal P C (.code (.loop c)) k n sl tab Q:=
 zv5 (st:=⟨n,sl,tab⟩) (λz:{y // φ y}=>⟨n,(T z.1).1,(T z.1).2⟩) (λz=>μ z.1) hC ⟨x,J⟩ σ U λy=>h y.1 y.2
def zg{T:α->zb×Tab}(y:α)(J:φ y)(σ:Nat->Nat)(hμ:μ y<m)(U:Matches σ ⟨n,sl,tab⟩ ⟨n,(T y).1,(T y).2⟩):
 Goal P C (.fin .normal) [] n sl tab (zen φ T μ n m Q):=
 zK ⟨⟨y,J⟩,σ,hμ,U⟩
def zk{T:α->zb×Tab}(g:Goal P C (.fin .ret) k n sl tab Q):Goal P C (.fin .ret) [] n sl tab (zen φ T μ n m (unw P C k Q)):=g
def zd{T:α->zb×Tab}(g:Goal P C (.fin (.exit i)) k n sl tab Q):Goal P C (.fin (.exit i)) [] n sl tab (zen φ T μ n m (unw P C k Q)):=g
end
end Hw
