/- The engine, part K: the laws of calls. -/
import Derived.Test.YtgcfmjlnapcioaaGreatDoorE1
set_option linter.unusedVariables false
set_option linter.unusedSimpArgs false
namespace Hw
open Go
def ones:List V→List S
 | []=>[]
 |v::vs=> .one v::ones vs
theorem xK{M:Mem}{ρ:Nat→Value}: ∀ {vs:List V} {xs:List Value},RepVs M ρ vs xs→RepSs M ρ (ones vs) xs
 | [],[],_=>by simp only[ones,RepSs]
 | [],_::_,h=>by simp only[RepVs]at h
 |_::_,[],h=>by simp only[RepVs]at h
 |v::vs,x::xs,h=>by
  simp only[RepVs]at h
  simp only[ones,RepSs,RepS];exact⟨h.1,xK h.2⟩
theorem yV{M:Mem}{ρ:Nat→Value}: ∀ {a b:List S} {xs ys:List Value},RepSs M ρ a xs→RepSs M ρ b ys→RepSs M ρ (a++b) (xs++ys)
 | [],_,[],_,_,h'=>by simpa using h'
 | [],_,_::_,_,h,_=>by simp only[RepSs]at h
 |_::_,_,[],_,h,_=>by simp only[RepSs]at h
 |x::xs,_,v::vs,_,h,h'=>by
  simp only[List.cons_append,RepSs]at h⊢
  exact⟨h.1,yV h.2 h'⟩
section
variable {P:Program} {d:Option Nat} {ty:TypeId} {ps:String} {af:Array Edge} {g:Option (Nat×Bool)}
theorem zde{f:FuncId}(h:ji P f){x:Operand}{l:List Operand}{ts:Array TypeId}{a:Act}{xs ys:List Value}(he:a.eval x= .func (.func f) xs.toArray ys.toArray)(w:World):
 (execOp a.eval ⟨d,.call ⟨.value x,l.toArray,ts⟩,ty,ps,af,g⟩).run P w= .ok (.enter f (xs++l.map a.eval++ys).toArray) w:=by
 obtain⟨fn,hf,hn,hb⟩:=h
 have hn': ¬(fn.name= "runtime.NumGoroutine"):=by simpa using hn
 have hp:program.run P w= .ok P w:=rfl
 have hb': ¬fn.body=none:=fun e=>by rw[e]at hb;cases hb
 simp[execOp,resolve,he,Deferred.ofValue,invoke,callFunc,hf,hn',hb',hp]
theorem zss{f:FuncId}{args:List S}{R R':RL}{res:S}(h:zj P f args R res R')(σ:Nat→Nat){x:Operand}{l:List Operand}{ts:Array TypeId}{first caps:List V}{ss:List S}
 (hx:okc x (.one (.cl f first caps))) (hl:ziN l ss) (hle:yJ (ones first++ss++ones caps) (Ss.ren σ args)) (hi:injB σ R.ids=true) (hi2:injB σ R'.ids=true)
 (hc:cloS (R.ids++R'.ids) res=true) (hcR:ze6 (R.ids++R'.ids) R'=true):
 Snd P ⟨d,.call ⟨.value x,l.toArray,ts⟩,ty,ps,af,g⟩ (rq x (.one (.cl f first caps))++rqs l ss) (R.ren σ) ((xH R R').map σ) (res.ren σ) (tb (R'.ren σ)++zdG (R.ids.map σ)):=by
 intro C st M ρ a w hH h1 hT hF hd k Q hk
 rw[zd]at h1
 have e1:=hH.evS (zM hx h1.1)
 have e2:=hH.zlV (jk hl h1.2)
 simp only[RepS,RepV]at e1
 obtain⟨xs,ys,e3,e4,e5⟩:=e1
 have e6:RepSs M (fun i=>ρ (σ i)) args (xs++l.map a.eval++ys):=
  (RepSs.ren _ _).1 (hle _ _ _ (yV (yV (xK e4) e2) (xK e5)))
 have tk: ∀i r,tg (tb R) i=some r→tg st.tab (σ i)=some (r.ren σ):=fun i r hm=>zat hT (zgg (xz hm))
 have e7:vx M (fun i=>ρ (σ i)) w (tb R):=⟨fun i r hr=>(hH.yn.res _ _ (tk i r hr)).ren,
  fun i j ri rj b h1 h2 hne hb1 hb2=>hH.yn.dis _ _ _ _ b (tk i ri h1) (tk j rj h2) (w4 hi i j (xe (xz h1)) (xe (xz h2)) hne) hb1 hb2,
  fun i r b h1 hb=>hH.yn.own _ _ b (tk i r h1) hb⟩
 unfold Oper.wp
 rw[zde h.1 e3,Oper.upon_enter]
 refine Calls.mono (h.2 M _ w _ e6 e7 hH.run.imm hH.gok) fun e w' ⟨v,M',ρ',he,hr⟩=>?_
 subst he
 have hi3:injB σ (xH R R')=true:=by
  have key: ∀(l:List Nat) (p:Nat→Bool),injB σ l=true→injB σ (l.filter p)=true:=by
   intro l p
   induction l with
   |nil=>exact fun h=>h
   |cons y ys ih=>
    intro h
    simp only[injB,Bool.and_eq_true,List.all_eq_true]at h
    simp only[List.filter_cons]
    split
    ·simp only[injB,Bool.and_eq_true,List.all_eq_true]
     exact⟨fun z hz=>h.1 z (List.mem_filter.1 hz).1,ih h.2⟩
    ·exact ih h.2
  exact key _ _ hi2
 obtain⟨ρ3,h3⟩:=hH.called hr hT hi3 hi2 hF hc hcR hd
 exact hk _ _ _ _ h3
mutual
theorem V.xE{σ:Nat→Nat}: ∀ {v:V},cloV [] v=true→v.ren σ=v
 | .p _,_=>rfl
 | .pi _ _,_=>rfl
 | .bx _ _,h=>by simp[cloV,hasB]at h
 | .ar _,h=>by simp[cloV,hasB]at h
 | .el _ _,h=>by simp[cloV,hasB]at h
 | .mp _,h=>by simp[cloV,hasB]at h
 | .bs _ _ _,h=>by simp[cloV,hasB]at h
 | .nv _ _,h=>by simp[cloV,hasB]at h
 | .np _ _ _,h=>by simp[cloV,hasB]at h
 | .sv _ _ _,h=>by simp[cloV,hasB]at h
 | .cl f a b,h=>by
   simp only[cloV,Bool.and_eq_true]at h
   simp only[V.ren,Vs.xE h.1,Vs.xE h.2]
theorem Vs.xE{σ:Nat→Nat}: ∀ {v:List V},cloVs [] v=true→Vs.ren σ v=v
 | [],_=>rfl
 |v::vs,h=>by
  simp only[cloVs,Bool.and_eq_true]at h
  simp only[Vs.ren,V.xE h.1,Vs.xE h.2]
end
mutual
theorem S.xE{σ:Nat→Nat}: ∀ {v:S},cloS [] v=true→v.ren σ=v
 | .one v,h=>by simp only[cloS]at h;simp only[S.ren,V.xE h]
 | .agg vs,h=>by simp only[cloS]at h;simp only[S.ren,Vs.xE h]
 | .tup ss,h=>by simp only[cloS]at h;simp only[S.ren,Ss.xE h]
 | .gd b s,h=>by simp only[cloS]at h;simp only[S.ren,S.xE h]
 | .bq _,_=>rfl
 | .un,_=>rfl
theorem Ss.xE{σ:Nat→Nat}: ∀ {v:List S},cloSs [] v=true→Ss.ren σ v=v
 | [],_=>rfl
 |v::vs,h=>by
  simp only[cloSs,Bool.and_eq_true]at h
  simp only[Ss.ren,S.xE h.1,Ss.xE h.2]
end
theorem zqN{f:FuncId}{args:List S}{res:S}(h:zj P f args [] res []){x:Operand}{l:List Operand}{ts:Array TypeId}{first caps:List V}{ss:List S}
 (hx:okc x (.one (.cl f first caps))) (hl:ziN l ss) (hle:yJ (ones first++ss++ones caps) args) (hc:cloS [] res=true):
 Snd P ⟨d,.call ⟨.value x,l.toArray,ts⟩,ty,ps,af,g⟩ (rq x (.one (.cl f first caps))++rqs l ss) [] [] res []:=by
 intro C st M ρ a w hH h1 hT hF hd k Q hk
 rw[zd]at h1
 have e1:=hH.evS (zM hx h1.1)
 have e2:=hH.zlV (jk hl h1.2)
 simp only[RepS,RepV]at e1
 obtain⟨xs,ys,e3,e4,e5⟩:=e1
 have e6:RepSs M ρ args (xs++l.map a.eval++ys):=hle _ _ _ (yV (yV (xK e4) e2) (xK e5))
 have e7:vx M ρ w (tb []):=⟨fun _ _ h=>(by cases h),fun _ _ _ _ _ h=>(by cases h),fun _ _ _ h=>(by cases h)⟩
 unfold Oper.wp
 rw[zde h.1 e3,Oper.upon_enter]
 refine Calls.mono (h.2 M _ w _ e6 e7 hH.run.imm hH.gok) fun e w' ⟨v,M',ρ',he,hr⟩=>?_
 subst he
 obtain⟨ρ3,h3⟩:=hH.called (σ:=id) (R:=[]) (R':=[]) (ρ:=ρ) hr trivial rfl rfl trivial hc rfl hd
 rw[S.xE hc]at h3
 exact hk _ _ _ _ h3
inductive BoV (B:RL):V→V→Prop
 |le {v v':V}:LeV v v'→BoV B v v'
 |ar {id e:Nat} {rows:List (List PV)}:(id,.arr e rows)∈B→BoV B (.ar id) (.p (.sl e rows))
inductive zqP (B:RL):List V→List V→Prop
 |nil:zqP B [] []
 |cons {v v':V} {vs vs':List V}:BoV B v v'→zqP B vs vs'→zqP B (v::vs) (v'::vs')
inductive BoS (B:RL):S→S→Prop
 |le {s s':S}:LeS s s'→BoS B s s'
 |one {v v':V}:BoV B v v'→BoS B (.one v) (.one v')
 |agg {vs vs':List V}:zqP B vs vs'→BoS B (.agg vs) (.agg vs')
inductive zqV (B:RL):List S→List S→Prop
 |nil:zqV B [] []
 |cons {v v':S} {vs vs':List S}:BoS B v v'→zqV B vs vs'→zqV B (v::vs) (v'::vs')
theorem zqV.refl(B:RL): ∀l:List S,zqV B l l
 | []=> .nil
 |_::xs=> .cons (.le (.refl _)) (zqV.refl B xs)
theorem zqP.refl(B:RL): ∀l:List V,zqP B l l
 | []=> .nil
 |_::xs=> .cons (.le (.refl _)) (zqP.refl B xs)
mutual
def flatS:S→Bool
 | .one (.p (.k _))=>true
 | .tup ss=>flatSs ss
 | .bq _=>true
 |_=>false
def flatSs:List S→Bool
 | []=>true
 |s::ss=>flatS s&&flatSs ss
end
mutual
theorem zem{M M':Mem}{ρ ρ':Nat→Value}: ∀ {s:S} {x:Value},flatS s=true→RepS M ρ s x→RepS M' ρ' s x
 | .one (.p (.k _)),_,_,h=>by simpa only[RepS,RepV,RepPV]using h
 | .one (.p (.sl _ _)),_,h,_=>by simp[flatS]at h
 | .one (.pi _ _),_,h,_=>by simp[flatS]at h
 | .one (.bx _ _),_,h,_=>by simp[flatS]at h
 | .one (.ar _),_,h,_=>by simp[flatS]at h
 | .one (.el _ _),_,h,_=>by simp[flatS]at h
 | .one (.mp _),_,h,_=>by simp[flatS]at h
 | .one (.bs _ _ _),_,h,_=>by simp[flatS]at h
 | .one (.nv _ _),_,h,_=>by simp[flatS]at h
 | .one (.np _ _ _),_,h,_=>by simp[flatS]at h
 | .one (.sv _ _ _),_,h,_=>by simp[flatS]at h
 | .one (.cl _ _ _),_,h,_=>by simp[flatS]at h
 | .agg _,_,h,_=>by simp[flatS]at h
 | .gd _ _,_,h,_=>by simp[flatS]at h
 | .bq _,_,_,h=>by simpa only[RepS]using h
 | .un,_,h,_=>by simp[flatS]at h
 | .tup ss,x,h,h'=>by
   simp only[flatS]at h
   simp only[RepS]at h'⊢
   obtain⟨xs,h1,h2⟩:=h'
   exact⟨xs,h1,zcF h h2⟩
theorem zcF{M M':Mem}{ρ ρ':Nat→Value}: ∀ {s:List S} {x:List Value},flatSs s=true→RepSs M ρ s x→RepSs M' ρ' s x
 | [],[],_,_=>by simp only[RepSs]
 | [],_::_,_,h=>by simp only[RepSs]at h
 |_::_,[],_,h=>by simp only[RepSs]at h
 |s::ss,x::xs,h,h'=>by
  simp only[flatSs,Bool.and_eq_true]at h
  simp only[RepSs]at h'⊢
  exact⟨zem h.1 h'.1,zcF h.2 h'.2⟩
end
end
end Hw
/- The engine, part L: regions whose order is drawn: one walk in the order of the text stands for all. -/
namespace Hw
open Go
structure Law where
 d:Option Nat
 rs:zi
 rt:RL
 fr:List Nat
 v:S
 wt:Tab
def apps(st:St):List Law→St
 | []=>st
 |L::l=>app L.d L.v L.wt (apps st l)
def zaR(P:Program)(all:Array Oper)(st:St):List Law→Prop
 | []=>True
 |L::l=>zaR P all st l∧ ∃o,all[l.length]?=some o∧wA P all o L.rs L.rt L.fr L.v L.wt∧L.d=o.dst∧okS L.rs (apps st l)∧okT L.rt (apps st l)∧dok L.d st.n=true
def sel(D:Nat→Bool):List Law→List Law
 | []=>[]
 |L::l=>match D l.length with
  |true=>L::sel D l
  |false=>sel D l
def keysS:zi→List Nat
 | []=>[]
 |(k,_)::r=>k::keysS r
def keysT:Tab→List Nat
 | []=>[]
 |(k,_)::r=>k::keysT r
def wr(L:Law)(k:Nat):Bool:=match L.d with
 |some d=>Nat.beq d k
 |none=>false
def wrT(L:Law)(i:Nat):Bool:=hasB i (keysT L.wt)
theorem zeU(st:St): ∀l:List Law,(apps st l).n=st.n
 | []=>rfl
 |L::l=>by simp only[apps,app,zeU st l]
theorem jL(st:St)(L:Law)(l:List Law)(k:Nat):sg (apps st (L::l)).sl k=if wr L k=true then some L.v else sg (apps st l).sl k:=by
 obtain⟨d,rs,rt,fr,v,wt⟩:=L
 cases d with
 |none=>simp[apps,app,wr]
 |some d=>
  simp only[apps,app,wr]
  rw[y5]
  by_cases e:d=k
  ·subst e;simp
  ·simp[e,yK e]
theorem zaJ{a b:Tab}{i:Nat}(h:hasB i (keysT a)=false):tg (a++b) i=tg b i:=by
 induction a with
 |nil=>rfl
 |cons x xs ih=>
  obtain⟨j,s⟩:=x
  simp only[keysT,hasB,Bool.or_eq_false_iff]at h
  simp only[List.cons_append,yc]
  rw[if_neg (fun e=>by subst e;rw[x9]at h;cases h.1)]
  exact ih h.2
theorem zdB{a b b':Tab}{i:Nat}(h:hasB i (keysT a)=true):tg (a++b) i=tg (a++b') i:=by
 induction a with
 |nil=>cases h
 |cons x xs ih=>
  obtain⟨j,s⟩:=x
  simp only[keysT,hasB,Bool.or_eq_true]at h
  simp only[List.cons_append,yc]
  by_cases e:j=i
  ·rw[if_pos e,if_pos e]
  ·rw[if_neg e,if_neg e]
   exact ih (h.resolve_left fun h=>e (Nat.eq_of_beq_eq_true h))
def at?:List Law→Nat→Option Law
 | [],_=>none
 |L::l,i=>match Nat.beq l.length i with
  |true=>some L
  |false=>at? l i
theorem xF(L:Law)(l:List Law)(i:Nat):at? (L::l) i=if l.length=i then some L else at? l i:=by
 simp only[at?]
 by_cases h:l.length=i
 ·subst h;simp
 ·simp[h,yK h]
theorem zcb: ∀ {l:List Law} {i:Nat} {L:Law},at? l i=some L→i<l.length
 | [],_,_,h=>by cases h
 |X::l,i,L,h=>by
  rw[xF]at h
  split at h
  ·rename_i e;subst e;simp
  ·have:=zcb h;simp;omega
theorem zlJ{st:St}{k:Nat}{D D':Nat→Bool}: ∀ {l:List Law},(∀j L,at? l j=some L→wr L k=true→D j=D' j)→sg (apps st (sel D l)).sl k=sg (apps st (sel D' l)).sl k
 | [],_=>rfl
 |X::l,h=>by
  have ih:sg (apps st (sel D l)).sl k=sg (apps st (sel D' l)).sl k:=zlJ fun j L hj hw=>h j L (by rw[xF,if_neg (by have:=zcb hj;omega)];exact hj) hw
  have h0:wr X k=true→D l.length=D' l.length:=fun hw=>h l.length X (by rw[xF,if_pos rfl]) hw
  have f1: ∀D:Nat→Bool,sg (apps st (sel D (X::l))).sl k=if D l.length=true∧wr X k=true then some X.v else sg (apps st (sel D l)).sl k:=fun D=>by
   simp only[sel]
   cases e:D l.length with
   |true=>simp only[jL,true_and]
   |false=>simp
  rw[f1 D,f1 D']
  by_cases hw:wr X k=true
  ·rw[h0 hw]
   simp only[hw,and_true]
   split
   ·rfl
   ·exact ih
  ·rw[if_neg (fun h=>hw h.2),if_neg (fun h=>hw h.2)];exact ih
theorem zlK{st:St}{k:Nat}{D D':Nat→Bool}: ∀ {l:List Law},(∀j L,at? l j=some L→wrT L k=true→D j=D' j)→tg (apps st (sel D l)).tab k=tg (apps st (sel D' l)).tab k
 | [],_=>rfl
 |X::l,h=>by
  have ih:tg (apps st (sel D l)).tab k=tg (apps st (sel D' l)).tab k:=zlK fun j L hj hw=>h j L (by rw[xF,if_neg (by have:=zcb hj;omega)];exact hj) hw
  have h0:wrT X k=true→D l.length=D' l.length:=fun hw=>h l.length X (by rw[xF,if_pos rfl]) hw
  cases hw:wrT X k with
  |true=>
   have e:=h0 hw
   simp only[sel,←e]
   cases D l.length with
   |true=>simp only[apps,app];exact zdB hw
   |false=>exact ih
  |false=>
   have f1: ∀D:Nat→Bool,tg (apps st (sel D (X::l))).tab k=tg (apps st (sel D l)).tab k:=fun D=>by
    simp only[sel]
    cases D l.length with
    |true=>simp only[apps,app];exact zaJ hw
    |false=>rfl
   rw[f1 D,f1 D'];exact ih
theorem zoG: ∀ {l:List Law} {i:Nat},l.length≤i→sel (fun j=>decide (j<i)) l=l
 | [],_,_=>rfl
 |X::l,i,h=>by
  simp only[List.length_cons]at h
  simp only[sel,decide_eq_true (show l.length<i by omega)]
  rw[zoG (by omega)]
theorem zlL: ∀ {l:List Law} {D:Nat→Bool},(∀j,j<l.length→D j=true)→sel D l=l
 | [],_,_=>rfl
 |X::l,D,h=>by
  simp only[sel,h l.length (by simp)]
  rw[zlL fun j hj=>h j (by simp;omega)]
theorem zhu: ∀ {l:List Law} {D:Nat→Bool},(∀j,j<l.length→D j=false)→sel D l=[]
 | [],_,_=>rfl
 |X::l,D,h=>by
  simp only[sel,h l.length (by simp)]
  exact zhu fun j hj=>h j (by simp;omega)
theorem zaR.at{P:Program}{all:Array Oper}{st:St}: ∀ {l:List Law} {i:Nat} {L:Law},zaR P all st l→at? l i=some L→
 ∃o,all[i]?=some o∧wA P all o L.rs L.rt L.fr L.v L.wt∧L.d=o.dst∧okS L.rs (apps st (sel (fun j=>decide (j<i)) l))∧okT L.rt (apps st (sel (fun j=>decide (j<i)) l))∧dok L.d st.n=true
 | [],_,_,_,h=>by cases h
 |X::l,i,L,hd,h=>by
  rw[xF]at h
  split at h
  ·rename_i e
   simp only[Option.some.injEq]at h;subst h;subst e
   have:sel (fun j=>decide (j<l.length)) (X::l)=l:=by
    simp only[sel,decide_eq_false (Nat.lt_irrefl _)];exact zoG (Nat.le_refl _)
   rw[this];exact hd.2
  ·rename_i e
   have hlt:=zcb h
   have:sel (fun j=>decide (j<i)) (X::l)=sel (fun j=>decide (j<i)) l:=by
    simp only[sel,decide_eq_false (show ¬l.length<i by omega)]
   rw[this];exact zaR.at hd.1 h
theorem zoH{a:zi}{st st':St}(h:okS a st)(he: ∀k,hasB k (keysS a)=true→sg st'.sl k=sg st.sl k):okS a st':=by
 induction a with
 |nil=>trivial
 |cons x xs ih=>
  obtain⟨k,s⟩:=x
  refine⟨by rw[he k (by simp[keysS,hasB])];exact h.1,ih h.2 fun j hj=>he j (by simp only[keysS,hasB,hj,Bool.or_true])⟩
theorem zoI{a:RL}{st st':St}(h:okT a st)(he: ∀k,hasB k a.ids=true→tg st'.tab k=tg st.tab k):okT a st':=by
 induction a with
 |nil=>trivial
 |cons x xs ih=>
  obtain⟨k,s⟩:=x
  refine⟨by rw[he k (by simp[RL.ids,hasB])];exact h.1,ih h.2 fun j hj=>he j (by simp only[RL.ids,hasB,hj,Bool.or_true])⟩
def noT(i:Nat):Tab→Bool
 | []=>true
 |(j,s)::r=> !Nat.beq j i&&(match s with|some r=> !mentR i r|none=>true)&&noT i r
def noL(i:Nat)(L:Law):Bool:= !mentS i L.v&&noT i L.wt
def anyB(p:Nat→Bool):List Nat→Bool
 | []=>false
 |i::l=>p i||anyB p l
theorem zcG{p:Nat→Bool}: ∀ {l:List Nat},anyB p l=false→ ∀i,hasB i l=true→p i=false
 | [],_,_,h=>by cases h
 |x::xs,h,i,hi=>by
  simp only[anyB,Bool.or_eq_false_iff]at h
  simp only[hasB,Bool.or_eq_true]at hi
  rcases hi with hi|hi
  ·rw[←Nat.eq_of_beq_eq_true hi];exact h.1
  ·exact zcG h.2 i hi
def apart(X Y:Law):Bool:=
 (match X.d with
   |some d=> !hasB d (keysS Y.rs)&& !wr Y d
   |none=>true)&&
 !anyB (fun i=>hasB i Y.rt.ids||hasB i (keysT Y.wt)) (keysT X.wt)&&
 allB (fun i=>noL i X) Y.fr
theorem zhv{X Y:Law}(h:apart X Y=true){k:Nat}(hk:wr X k=true):hasB k (keysS Y.rs)=false∧wr Y k=false:=by
 simp only[apart,Bool.and_eq_true]at h
 cases hd:X.d with
 |none=>simp[wr,hd]at hk
 |some d=>
  simp only[wr,hd]at hk
  have:=Nat.eq_of_beq_eq_true hk;subst this
  have h1:=h.1.1
  simp only[hd,Bool.and_eq_true,Bool.not_eq_true']at h1
  exact h1
theorem zeV{X Y:Law}(h:apart X Y=true){k:Nat}(hk:wrT X k=true):hasB k Y.rt.ids=false∧wrT Y k=false:=by
 simp only[apart,Bool.and_eq_true,Bool.not_eq_true']at h
 have:=zcG h.1.2 k hk
 simp only[Bool.or_eq_false_iff]at this
 exact this
theorem znZ{X Y:Law}(h:apart X Y=true): ∀i∈Y.fr,noL i X=true:=by
 simp only[apart,Bool.and_eq_true]at h
 exact xT h.2
def zqQ(m j:Nat):Bool:=Nat.beq (Nat.land (Nat.shiftRight m j) 1) 1
def xG(o:Oper):List Nat:=(o.after.toList.filter (Region.binds .any)).map (·.on)
def nth(l:List Nat)(i:Nat):Nat:=l.getD i 0
def zoK(ms:List Nat):List Nat→Nat
 | []=>0
 |p::ps=>Nat.lor (Nat.lor (Nat.shiftLeft 1 p) (nth ms p)) (zoK ms ps)
def zst:List Oper→List Nat→List Nat
 | [],ms=>ms
 |o::os,ms=>zst os (ms++[zoK ms (xG o)])
def allLt(p:Nat→Bool):Nat→Bool
 |0=>true
 |n+1=>p n&&allLt p n
theorem je{p:Nat→Bool}: ∀ {n:Nat},allLt p n=true→ ∀i,i<n→p i=true
 |0,_,_,h=>by omega
 |n+1,h,i,hi=>by
  simp only[allLt,Bool.and_eq_true]at h
  by_cases e:i=n
  ·subst e;exact h.1
  ·exact je h.2 i (by omega)
def checkAt(all:Array Oper)(ms:List Nat)(st:St)(l:List Law)(i:Nat):Bool:=
 match all[i]?,at? l i with
 |some o,some L=>
  allB (fun p=>Nat.blt p i) (xG o)&&
  allLt (fun j=> !zqQ (nth ms i) j||anyB (fun p=>Nat.beq p j||(Nat.blt j p&&zqQ (nth ms p) j)) (xG o)) i&&
  allLt (fun j=>match at? l j with
   |some X=>(zqQ (nth ms i) j||(apart X L&&apart L X))&&allB (fun id=>noL id X) L.fr
   |none=>false) i&&
  allB (fun id=>Nat.ble 100 id&&freshB id st) L.fr
 |_,_=>false
def check(all:Array Oper)(ms:List Nat)(st:St)(l:List Law):Bool:=Nat.beq l.length all.size&&allLt (checkAt all ms st l) all.size
theorem zdC{i:Nat}: ∀ {t:Tab},noT i t=true→ ∀ {j r},(j,some r)∈t→j≠i∧mentR i r=false
 | [],_,_,_,h=>by cases h
 |(k,s)::t,h,j,r,hm=>by
  simp only[noT,Bool.and_eq_true,Bool.not_eq_true']at h
  rcases List.mem_cons.1 hm with e|hm
  ·simp only[Prod.mk.injEq]at e;obtain⟨rfl,rfl⟩:=e
   exact⟨fun e=>(by subst e;rw[x9]at h;cases h.1.1),by simpa using h.1.2⟩
  ·exact zdC h.2 hm
theorem zcH{C:Ctx}{id:Nat}{st:St}(h:freshB id st=true)(h0:tg C.tab0 id=none): ∀ {l:List Law},(∀L∈l,noL id L=true)→zar C id (apps st l)
 | [],_=>x8 h h0
 |L::l,hl=>by
  have ih:zar C id (apps st l):=zcH h h0 fun X hX=>hl X (List.mem_cons_of_mem _ hX)
  have hL:=hl L (by simp)
  simp only[noL,Bool.and_eq_true,Bool.not_eq_true']at hL
  refine⟨fun k s hk=>?_,fun i r hi=>?_,h0⟩
  ·rw[jL]at hk
   split at hk
   ·simp only[Option.some.injEq]at hk;subst hk;exact hL.1
   ·exact ih.1 k s hk
  ·simp only[apps,app]at hi
   have:=zhp hi
   rcases List.mem_append.1 this with hm|hm
   ·exact zdC hL.2 hm
   ·cases hw:hasB i (keysT L.wt)with
    |false=>rw[zaJ hw]at hi;exact ih.2.1 i r hi
    |true=>
     -- the entry that counts stands in 'wt'
     have: ∀ {a b:Tab} {i:Nat} {r:Res},hasB i (keysT a)=true→tg (a++b) i=some r→(i,some r)∈a:=by
      intro a b i r
      induction a with
      |nil=>intro h;cases h
      |cons x xs ih=>
       obtain⟨j,s⟩:=x
       intro h h'
       simp only[keysT,hasB,Bool.or_eq_true]at h
       simp only[List.cons_append,yc]at h'
       split at h'
       ·rename_i e;subst e;subst h';simp
       ·rename_i e;exact List.mem_cons_of_mem _ (ih (h.resolve_left fun h=>e (Nat.eq_of_beq_eq_true h)) h')
     exact zdC hL.2 (this hw hi)
theorem zlM{D:Nat→Bool}: ∀ {l:List Law} {L:Law},L∈sel D l→ ∃j,D j=true∧at? l j=some L
 | [],_,h=>by cases h
 |X::l,L,h=>by
  simp only[sel]at h
  have old:L∈sel D l→ ∃j,D j=true∧at? (X::l) j=some L:=fun h=>by
   obtain⟨j,h1,h2⟩:=zlM h
   exact⟨j,h1,by rw[xF,if_neg (by have:=zcb h2;omega)];exact h2⟩
  cases e:D l.length with
  |true=>
   simp only[e]at h
   rcases List.mem_cons.1 h with rfl|h
   ·exact⟨l.length,e,by rw[xF,if_pos rfl]⟩
   ·exact old h
  |false=>simp only[e]at h;exact old h
section
variable {P:Program} {all:Array Oper} {st:St} {l:List Law} {ms:List Nat}
def Down(all:Array Oper)(D:Nat→Bool):Prop:= ∀i o,all[i]?=some o→D i=true→ ∀p∈xG o,D p=true
theorem zag(hc:check all ms st l=true){i:Nat}(hi:i<all.size): ∃o L,all[i]?=some o∧at? l i=some L∧(∀p∈xG o,p<i)∧
 (∀j,j<i→zqQ (nth ms i) j=true→ ∃p∈xG o,p=j∨(j<p∧zqQ (nth ms p) j=true))∧
 (∀j X,j<i→at? l j=some X→(zqQ (nth ms i) j=true∨(apart X L=true∧apart L X=true))∧ ∀id∈L.fr,noL id X=true)∧
 (∀id∈L.fr,100≤id∧freshB id st=true):=by
 simp only[check,Bool.and_eq_true]at hc
 have h:=je hc.2 i hi
 unfold checkAt at h
 split at h
 ·rename_i o L ho hL
  simp only[Bool.and_eq_true]at h
  refine⟨o,L,ho,hL,fun p hp=>by have:=xT h.1.1.1 p hp;simpa [Nat.blt_eq]using this,fun j hj hb=>?_,fun j X hj hX=>?_,fun id hid=>?_⟩
  ·have:=je h.1.1.2 j hj
   simp only[hb,Bool.not_true,Bool.false_or]at this
   have key: ∀(l:List Nat) (q:Nat→Bool),anyB q l=true→ ∃p∈l,q p=true:=by
    intro l q
    induction l with
    |nil=>intro h;cases h
    |cons y ys ih=>
     intro h
     simp only[anyB,Bool.or_eq_true]at h
     rcases h with h|h
     ·exact⟨y,by simp,h⟩
     ·obtain⟨p,h1,h2⟩:=ih h;exact⟨p,List.mem_cons_of_mem _ h1,h2⟩
   obtain⟨p,hp,h2⟩:=key _ _ this
   simp only[Bool.or_eq_true,Bool.and_eq_true]at h2
   exact⟨p,hp,h2.imp Nat.eq_of_beq_eq_true fun h=>⟨by simpa [Nat.blt_eq]using h.1,h.2⟩⟩
  ·have:=je h.1.2 j hj
   simp only[hX,Bool.and_eq_true,Bool.or_eq_true]at this
   exact⟨this.1,xT this.2⟩
  ·have:=xT h.2 id hid
   simp only[Bool.and_eq_true]at this
   exact⟨Nat.le_of_ble_eq_true this.1,this.2⟩
 ·cases h
theorem zeW(hc:check all ms st l=true):l.length=all.size:=by
 simp only[check,Bool.and_eq_true]at hc;exact Nat.eq_of_beq_eq_true hc.1
theorem zcI(hc:check all ms st l=true){D:Nat→Bool}(hD:Down all D): ∀(i:Nat),i<all.size→ ∀o,all[i]?=some o→(∀p∈xG o,D p=true)→ ∀j,j<i→zqQ (nth ms i) j=true→D j=true:=by
 intro i
 induction i using Nat.strongRecOn with
 |_ i ih=>
  intro hi o ho hp j hj hb
  obtain⟨o',L,ho',hL,hlt,hbit,_⟩:=zag hc hi
  rw[ho]at ho';simp only[Option.some.injEq]at ho';subst ho'
  obtain⟨p,hpm,h1⟩:=hbit j hj hb
  rcases h1 with rfl|⟨hjp,h1⟩
  ·exact hp p hpm
  ·have hpi:=hlt p hpm
   have hps:p<all.size:=by omega
   have hop:all[p]?=some all[p]:=Array.getElem?_eq_getElem hps
   exact ih p hpi hps _ hop (hD p _ hop (hp p hpm)) j hjp h1
theorem ziH(hc:check all ms st l=true){D:Nat→Bool}(hD:Down all D){i:Nat}(hi:i<all.size){o:Oper}(ho:all[i]?=some o)(hn:D i=false)(hp: ∀p∈xG o,D p=true)
 {L:Law} (hL:at? l i=some L) {j:Nat} {X:Law} (hX:at? l j=some X) (hne:D j≠decide (j<i)) (hji:j≠i):apart X L=true∧apart L X=true:=by
 have hj:j<all.size:=by rw[←zeW hc];exact zcb hX
 rcases Nat.lt_or_ge j i with h|h
 ·have hDj:D j=false:=by
   cases e:D j
   ·rfl
   ·rw[e,decide_eq_true h]at hne;exact absurd rfl hne
  obtain⟨o',L',ho',hL',_,_,h3,_⟩:=zag hc hi
  rw[hL]at hL';simp only[Option.some.injEq]at hL';subst hL'
  rcases(h3 j X h hX).1 with h4|h4
  ·have:=zcI hc hD i hi o ho hp j h h4;rw[hDj]at this;cases this
  ·exact h4
 ·have hDj:D j=true:=by
   cases e:D j
   ·rw[e,decide_eq_false (by omega)]at hne;exact absurd rfl hne
   ·rfl
  obtain⟨oj,Lj,hoj,hLj,_,_,h3,_⟩:=zag hc hj
  rw[hX]at hLj;simp only[Option.some.injEq]at hLj;subst hLj
  rcases(h3 i L (by omega) hL).1 with h4|h4
  ·have:=zcI hc hD j hj oj hoj (hD j oj hoj hDj) i (by omega) h4;rw[hn]at this;cases this
  ·exact⟨h4.2,h4.1⟩
def zoL(D:Nat→Bool)(i:Nat):Nat→Bool:=fun j=>Nat.beq i j||D j
theorem w5(D:Nat→Bool)(i:Nat):zoL D i i=true:=by simp[zoL]
theorem y3{D:Nat→Bool}{i j:Nat}(h:j≠i):zoL D i j=D j:=by simp[zoL,yK (fun e=>h e.symm)]
theorem zlN{k i:Nat}{D:Nat→Bool}{L:Law}: ∀ {l:List Law},at? l i=some L→D i=true→wr L k=true→(∀j X,at? l j=some X→i<j→D j=true→wr X k=false)→
 sg (apps st (sel D l)).sl k=some L.v
 | [],h,_,_,_=>by cases h
 |X::l,h,hD,hw,hn=>by
  rw[xF]at h
  split at h
  ·rename_i e;simp only[Option.some.injEq]at h;subst h;subst e
   simp only[sel,hD,jL,hw,if_true]
  ·rename_i e
   have hlt:=zcb h
   have ih:=zlN (l:=l) h hD hw fun j Y hY=>hn j Y (by rw[xF,if_neg (by have:=zcb hY;omega)];exact hY)
   simp only[sel]
   cases hX:D l.length with
   |false=>exact ih
   |true=>
    rw[jL,hn l.length X (by rw[xF,if_pos rfl]) hlt hX]
    simpa using ih
theorem zhw{k i:Nat}{D:Nat→Bool}{L:Law}{b:Tab}: ∀ {l:List Law},at? l i=some L→D i=true→wrT L k=true→(∀j X,at? l j=some X→i<j→D j=true→wrT X k=false)→
 tg (apps st (sel D l)).tab k=tg (L.wt++b) k
 | [],h,_,_,_=>by cases h
 |X::l,h,hD,hw,hn=>by
  rw[xF]at h
  split at h
  ·rename_i e;simp only[Option.some.injEq]at h;subst h;subst e
   simp only[sel,hD,apps,app];exact zdB hw
  ·rename_i e
   have hlt:=zcb h
   have ih:=zhw (b:=b) (l:=l) h hD hw fun j Y hY=>hn j Y (by rw[xF,if_neg (by have:=zcb hY;omega)];exact hY)
   simp only[sel]
   cases hX:D l.length with
   |false=>exact ih
   |true=>
    simp only[apps,app]
    rw[zaJ (hn l.length X (by rw[xF,if_pos rfl]) hlt hX)]
    exact ih
theorem zn0(hd:zaR P all st l)(hc:check all ms st l=true){D:Nat→Bool}(hD:Down all D){i:Nat}(hi:i<all.size){o:Oper}(ho:all[i]?=some o)(hn:D i=false)(hp: ∀p∈xG o,D p=true)
 {C:Ctx} (hC:C.low) {M:Mem} {ρ:Nat→Value} {a:Act} {w:World} (hH:Holds C (apps st (sel D l)) M ρ a w) {K:Act→World→Prop} {Q:Exit→Act→World→Prop}
 (hk: ∀a' w' M' ρ',Holds C (apps st (sel (zoL D i) l)) M' ρ' a' w'→K a' w'):if Region.wanted o (yielded all a.tmps)then o.wp P a w K Q else K (a.put o.dst undef) w:=by
 obtain⟨o',L,ho',hL,_,_,h3,h4⟩:=zag hc hi
 rw[ho]at ho';simp only[Option.some.injEq]at ho';subst ho'
 obtain⟨o',ho',hstep,hdst,hS,hT,hdk⟩:=hd.at hL
 rw[ho]at ho';simp only[Option.some.injEq]at ho';subst ho'
 have ap: ∀j X,at? l j=some X→D j≠decide (j<i)→j≠i→apart X L=true∧apart L X=true:=fun j X hX hne hji=>ziH hc hD hi ho hn hp hL hX hne hji
 have eqi: ∀j X,at? l j=some X→(apart X L=true→False)→D j=decide (j<i):=fun j X hX hno=>by
  by_cases hji:j=i
  ·subst hji;rw[hn];simp
  ·by_cases hne:D j=decide (j<i)
   ·exact hne
   ·exact(hno (ap j X hX hne hji).1).elim
 have hS':okS L.rs (apps st (sel D l)):=zoH hS fun k hk=>zlJ fun j X hX hw=>eqi j X hX fun h=>by have:=(zhv h hw).1;rw[hk]at this;cases this
 have hT':okT L.rt (apps st (sel D l)):=zoI hT fun k hk=>zlK fun j X hX hw=>eqi j X hX fun h=>by have:=(zeV h hw).1;rw[hk]at this;cases this
 have hF':okF C L.fr (apps st (sel D l)):=by
  have one: ∀id∈L.fr,zar C id (apps st (sel D l)):=fun id hid=>by
   refine zcH (h4 id hid).2 (by
    cases e:tg C.tab0 id with
    |none=>rfl
    |some r=>have:=hC id r e;have:=(h4 id hid).1;omega) fun X hX=>?_
   obtain⟨j,hj,hX'⟩:=zlM hX
   rcases Nat.lt_or_ge j i with h|h
   ·exact(h3 j X h hX').2 id hid
   ·have hji:j≠i:=fun e=>by subst e;rw[hn]at hj;cases hj
    exact znZ (ap j X hX' (by rw[hj,decide_eq_false (by omega)];simp) hji).1 id hid
  have: ∀fr:List Nat,(∀id∈fr,zar C id (apps st (sel D l)))→okF C fr (apps st (sel D l)):=fun fr=>by
   induction fr with
   |nil=>exact fun _=>trivial
   |cons x xs ih=>exact fun h=>⟨h x (by simp),ih fun id hid=>h id (List.mem_cons_of_mem _ hid)⟩
  exact this _ one
 refine hstep C _ M ρ a w hH hS' hT' hF' (by rw[zeU,←hdst];exact hdk) K Q fun a' w' M' ρ' hH'=>hk a' w' M' ρ' (hH'.ext ?_ ?_ ?_)
 ·rw[zeU];simp only[app,zeU]
 ·intro k
  have e0:sg (app o.dst L.v L.wt (apps st (sel D l))).sl k=if wr L k=true then some L.v else sg (apps st (sel D l)).sl k:=by
   rw[←hdst];exact jL st L (sel D l) k
  rw[e0]
  by_cases hw:wr L k=true
  ·rw[if_pos hw]
   exact zlN hL (w5 D i) hw fun j X hX hij hDj=>by
    rw[y3 (by omega)]at hDj
    cases hx:wr X k with
    |false=>rfl
    |true=>
     have:=(zhv (ap j X hX (by rw[hDj,decide_eq_false (by omega)];simp) (by omega)).1 hx).2
     rw[hw]at this;cases this
  ·rw[if_neg hw]
   exact zlJ fun j X hX hx=>y3 fun e=>by
    subst e;rw[hL]at hX;simp only[Option.some.injEq]at hX;subst hX;exact hw hx
 ·intro k
  cases hw:wrT L k with
  |true=>
   simp only[app]
   exact zhw hL (w5 D i) hw fun j X hX hij hDj=>by
    rw[y3 (by omega)]at hDj
    cases hx:wrT X k with
    |false=>rfl
    |true=>
     have:=(zeV (ap j X hX (by rw[hDj,decide_eq_false (by omega)];simp) (by omega)).1 hx).2
     rw[hw]at this;cases this
  |false=>
   simp only[app]
   rw[zaJ hw]
   exact zlK fun j X hX hx=>y3 fun e=>by
    subst e;rw[hL]at hX;simp only[Option.some.injEq]at hX;subst hX;rw[hw]at hx;cases hx
def left(D:Nat→Bool):Nat→Nat
 |0=>0
 |n+1=>(match D n with|true=>0|false=>1)+left D n
theorem zhx{D:Nat→Bool}{i:Nat}(hi:D i=false): ∀ {n:Nat},left D n=left (zoL D i) n+(if i<n then 1 else 0)
 |0=>by simp[left]
 |n+1=>by
  simp only[left]
  rw[zhx hi (n:=n)]
  by_cases e:n=i
  ·subst e;simp[w5,hi];omega
  ·rw[y3 e]
   by_cases h:i<n
   ·rw[if_pos h,if_pos (by omega)];omega
   ·rw[if_neg h,if_neg (by omega)];omega
theorem zeX{D:Nat→Bool}: ∀ {n:Nat},left D n=0→ ∀j,j<n→D j=true
 |0,_,_,h=>by omega
 |n+1,h,j,hj=>by
  simp only[left]at h
  by_cases e:j=n
  ·subst e
   cases hd:D j with
   |true=>rfl
   |false=>rw[hd]at h;simp at h
  ·exact zeX (n:=n) (by omega) j (by omega)
theorem zeY{o:Oper}{e:Edge}(h:e∈o.after)(hb:Region.binds .any e=true):e.on∈xG o:=by
 simp only[xG,List.mem_map,List.mem_filter,Array.mem_toList_iff]
 exact⟨e,⟨h,hb⟩,rfl⟩
theorem zn1{o:Oper}{p:Nat}(h:p∈xG o): ∃e∈o.after,Region.binds .any e=true∧e.on=p:=by
 simp only[xG,List.mem_map,List.mem_filter,Array.mem_toList_iff]at h
 obtain⟨e,⟨h1,h2⟩,h3⟩:=h
 exact⟨e,h1,h2,h3⟩
theorem zsu(hd:zaR P all st l)(hc:check all ms st l=true){C:Ctx}(hC:C.low){Q:Exit→Act→World→Prop}(hQ: ∀a w M ρ,Holds C (apps st l) M ρ a w→Q .normal a w):
 ∀(fuel:Nat) (listed:Array Bool) (M:Mem) (ρ:Nat→Value) (a:Act) (w:World),listed.size=all.size→left (fun j=>listed.getD j false) all.size=fuel→Down all (fun j=>listed.getD j false)→
  Holds C (apps st (sel (fun j=>listed.getD j false) l)) M ρ a w→wpAny P .any all Q fuel listed a w:=by
 have fin: ∀(listed:Array Bool) (M:Mem) (ρ:Nat→Value) (a:Act) (w:World),(∀j,j<all.size→listed.getD j false=true)→Holds C (apps st (sel (fun j=>listed.getD j false) l)) M ρ a w→Q .normal a w:=
  fun listed M ρ a w h hH=>hQ a w M ρ (by rw[zlL (l:=l) fun j hj=>h j (by rw[←zeW hc];exact hj)]at hH;exact hH)
 have full: ∀(listed:Array Bool),listed.size=all.size→Region.ready .any all listed=[]→ ∀j,j<all.size→listed.getD j false=true:=by
  intro listed hs hr j
  induction j using Nat.strongRecOn with
  |_ j ih=>
   intro hj
   cases e:listed.getD j false with
   |true=>rfl
   |false=>
    obtain⟨o,L,ho,hL,hlt,_⟩:=zag hc hj
    have:j∈Region.ready .any all listed:=mem_ready.2 ⟨by
     have hlt:j<listed.size:=by omega
     simp only[Array.getD,hlt,dif_pos]at e ⊢; exact e,o,ho,fun e' he hb=>ih e'.on (hlt _ (zeY he hb)) (by have:=hlt _ (zeY he hb);omega)⟩
    rw[hr]at this;cases this
 intro fuel
 induction fuel with
 |zero=>
  intro listed M ρ a w hs hl hD hH
  have h0:=zeX hl
  refine⟨?_,fin listed M ρ a w h0 hH⟩
  cases e:Region.ready .any all listed with
  |nil=>rfl
  |cons x xs=>
   obtain⟨h1,o,ho,_⟩:=mem_ready.1 (show x∈Region.ready .any all listed by rw[e];simp)
   have hx:x<all.size:=(Array.getElem?_eq_some_iff.1 ho).1
   have h2:=h0 x hx
   have hlt:x<listed.size:=by omega
   simp only[Array.getD,hlt,dif_pos]at h1 h2
   rw[h1]at h2;cases h2
 |succ fuel ih=>
  intro listed M ρ a w hs hl hD hH
  refine⟨fun hr=>fin listed M ρ a w (full listed hs hr) hH,fun i hi=>?_⟩
  obtain⟨h1,o,ho,hall⟩:=mem_ready.1 hi
  have hx:i<all.size:=(Array.getElem?_eq_some_iff.1 ho).1
  have hlt:i<listed.size:=by omega
  have hn:listed.getD i false=false:=by simp only[Array.getD,hlt,dif_pos]at h1 ⊢; exact h1
  have hput: ∀j,(listed.setIfInBounds i true).getD j false=zoL (fun j=>listed.getD j false) i j:=fun j=>by
   by_cases e:j=i
   ·subst e;simp[w5,hlt]
   ·rw[y3 e,getD_set_ne false (fun h=>e h.symm)]
  have hput':(fun j=>(listed.setIfInBounds i true).getD j false)=zoL (fun j=>listed.getD j false) i:=funext hput
  have hp: ∀p∈xG o,listed.getD p false=true:=fun p hp=>by
   obtain⟨e,he,hb,rfl⟩:=zn1 hp;exact hall e he hb
  unfold wpOp
  simp only[ho]
  have key:=zn0 hd hc hD hx ho hn hp hC hH (K:=wpAny P .any all Q fuel (listed.setIfInBounds i true)) (Q:=Q) fun a' w' M' ρ' hH'=>by
   refine ih _ M' ρ' a' w' (by simpa using hs) ?_ ?_ ?_
   ·rw[hput']
    have:=zhx (D:=fun j=>listed.getD j false) hn (n:=all.size)
    rw[if_pos hx]at this
    omega
   ·rw[hput']
    intro k ok hk hDk p hpk
    by_cases e:k=i
    ·subst e;rw[ho]at hk;simp only[Option.some.injEq]at hk;subst hk
     by_cases e2:p=k
     ·subst e2;exact w5 _ _
     ·rw[y3 e2];exact hp p hpk
    ·rw[y3 e]at hDk
     have:=hD k ok hk hDk p hpk
     by_cases e2:p=i
     ·subst e2;exact w5 _ _
     ·rw[y3 e2];exact this
   ·rw[hput'];exact hH'
  split
  ·rename_i hw;rw[if_pos hw]at key;exact .inl key
  ·rename_i hw;rw[if_neg hw]at key;exact key
theorem ziI{id:Nat}(hm:P.follows .mixedOrders=true)(hd:zaR P all st l)(hc:check all ms st l=true){C:Ctx}(hC:C.low){Q:Exit→Act→World→Prop}
 (hQ: ∀a w M ρ,Holds C (apps st l) M ρ a w→Q .normal a w) {M:Mem} {ρ:Nat→Value} {a:Act} {w:World} (hH:Holds C st M ρ a w):(Code.region id all true).wp P Q a w:=by
 have h0: ∀j,(Array.replicate all.size false).getD j false=false:=fun j=>by
  by_cases h:j<all.size
  ·simp[h]
  ·simp[h]
 have h0':(fun j=>(Array.replicate all.size false).getD j false)=fun _=>false:=funext h0
 refine wp_region_any hm (zsu hd hc hC hQ _ _ M ρ a _ (by simp) ?_ ?_ ?_)
 ·rw[h0']
  have: ∀n,left (fun _=>false) n=n:=fun n=>by
   induction n with
   |zero=>rfl
   |succ n ih=>simp only[left,ih];omega
  exact this _
 ·rw[h0'];intro i o _ h;cases h
 ·rw[h0',zhu fun _ _=>rfl]
  exact hH.grow (fun _ _=>rfl) (Nat.le_refl _) rfl rfl rfl
end
end Hw
/- The engine, part G: tables of types; a run of the plain operations by reckoning; functions and calls. -/
namespace Hw
open Go
structure Ty (P:Program) where
 sh:Nat→Option (Option Nat)
 sh_ok: ∀t s,sh t=some s→shp P t=some s
 fo:Nat→Nat→Option Nat
 fo_ok: ∀t f n,fo t f=some n→fieldOff P t f=some n
 es:Nat→Option (Nat×Nat)
 es_ok: ∀t p,es t=some p→elemSz P t=some p
 zs:Nat→Option (List V)
 zs_ok: ∀t vs,zs t=some vs→zeroV P t=some vs
 pl:Nat→Option (List (Nat×Nat))
 pl_ok: ∀t l,pl t=some l→places P t=some l
 str:Nat→Bool
 str_ok: ∀t,str t=true→P.underlying t=some .string
 ik:Nat→Option IntKind
 ik_ok: ∀t k,ik t=some k→P.underlying t=some (.int k)
 mix:P.follows .mixedOrders=true
def val{P:Program}(T:Ty P)(sl:zi)(tab:Tab):Op→Option (S×zi×RL)
 | .move x| .assign x=>match ev sl x with
   |some s=>some (s,rq x s,[])
   |none=>none
 | .unOp .not _ x=>match ev sl x with
   |some (.one (.p (.k (.bool b))))=>some (Bo (!b),rq x (Bo b),[])
   |some (.bq b)=>some (.bq (!b),rq x (.bq b),[])
   |_=>none
 | .binOp op _ x y _=>match ev sl x with
   |some (.one (.p (.k (.int k m))))=>match ev sl y with
    |some (.one (.p (.k (.int k' n))))=>if k=k' then(match op with
     | .eql=>some (.bq (decide (m=n)),rq x (Kk k m)++rq y (Kk k' n),[])
     | .neq=>some (.bq (!decide (m=n)),rq x (Kk k m)++rq y (Kk k' n),[])
     | .lss=>some (.bq (decide (m<n)),rq x (Kk k m)++rq y (Kk k' n),[])
     | .leq=>some (.bq (decide (m≤n)),rq x (Kk k m)++rq y (Kk k' n),[])
     | .gtr=>some (.bq (decide (n<m)),rq x (Kk k m)++rq y (Kk k' n),[])
     | .geq=>some (.bq (decide (n≤m)),rq x (Kk k m)++rq y (Kk k' n),[])
     | .add=>some (Kk k (k.wrap (m+n)),rq x (Kk k m)++rq y (Kk k' n),[])
     | .sub=>some (Kk k (k.wrap (m - n)),rq x (Kk k m)++rq y (Kk k' n),[])
     | .mul=>some (Kk k (k.wrap (m*n)),rq x (Kk k m)++rq y (Kk k' n),[])
     |_=>none)else none
    |_=>none
   |some (.one (.p (.k (.string m))))=>match ev sl y with
    |some (.one (.p (.k (.string n))))=>match op with
     | .eql=>some (.bq (decide (m=n)),rq x (Sr m)++rq y (Sr n),[])
     | .neq=>some (.bq (!decide (m=n)),rq x (Sr m)++rq y (Sr n),[])
     | .lss=>some (.bq (Op.bytesLess m.toList n.toList),rq x (Sr m)++rq y (Sr n),[])
     | .geq=>some (.bq (!Op.bytesLess m.toList n.toList),rq x (Sr m)++rq y (Sr n),[])
     |_=>none
    |_=>none
   |_=>none
 | .extract x i=>match ev sl x with
   |some (.tup ss)=>match ss[i]? with
    |some s=>some (s,rq x (.tup ss),[])
    |none=>none
   |_=>none
 | .fieldAddr t x f=>match ev sl x with
   |some (.one (.pi row j))=>match T.fo t f with
    |some n=>some (.one (.pi row (j+n)),rq x (.one (.pi row j)),[])
    |none=>none
   |some (.one (.bx id j))=>match T.fo t f with
    |some n=>some (.one (.bx id (j+n)),rq x (.one (.bx id j)),[])
    |none=>none
   |some (.one (.el id j))=>match T.fo t f with
    |some n=>some (.one (.el id (j+n)),rq x (.one (.el id j)),[])
    |none=>none
   |_=>none
 | .load t x=>match ev sl x with
   |some (.one (.pi row j))=>match T.sh t with
    |some s=>match ofCells s ((row.drop j).map V.p)with
     |some v=>some (v,rq x (.one (.pi row j)),[])
     |none=>none
    |none=>none
   |some (.one (.bx id j))=>match T.sh t with
    |some s=>match tg tab id with
     |some (.box vs)=>match ofCells s (vs.drop j)with
      |some v=>some (v,rq x (.one (.bx id j)),[(id,.box vs)])
      |none=>none
     |_=>none
    |none=>none
   |_=>none
 | .nilCheck x=>match ev sl x with
   |some (.one (.bx id j))=>some (.one (.bx id j),rq x (.one (.bx id j)),[])
   |some (.one (.el id j))=>some (.one (.el id j),rq x (.one (.el id j)),[])
   |_=>none
 | .call ⟨.builtin .len,as,ts⟩=>match as.toList with
   | [x]=>match ts.toList with
     |t::_=>match ev sl x with
      |some (.one (.p (.sl e rows)))=>match T.es t with
       |some _=>some (I rows.length,rq x (.one (.p (.sl e rows))),[])
       |none=>none
      |some (.one (.p (.k (.slice none 0 0))))=>match T.es t with
       |some _=>some (I 0,rq x (.one (.p (.k (.slice none 0 0)))),[])
       |none=>none
      |some (.one (.ar id))=>match tg tab id with
       |some (.arr e rows)=>match T.es t with
        |some _=>some (I rows.length,rq x (.one (.ar id)),[(id,.arr e rows)])
        |none=>none
       |_=>none
      |some (.one (.p (.k (.string s))))=>if T.str t then some (I s.size,rq x (Sr s),[])else none
      |_=>none
     | []=>none
   |_=>none
 | .makeFunc (.func f) first l=>match first.toList with
   | []=>match evs sl l.toList with
     |some ss=>match onesOf ss with
      |some caps=>some (.one (.cl f [] caps),rqs l.toList ss,[])
      |none=>none
     |none=>none
   |_=>none
 | .build t l=>match evs sl (l.toList.map (·.2))with
   |some ss=>match T.pl t,T.zs t with
    |some pl,some zs=>match zipParts (l.toList.map (·.1)) ss with
     |some vp=>match fillV (pl[·]?) zs vp with
      |some vs=>some (.agg vs,rqs (l.toList.map (·.2)) ss,[])
      |none=>none
     |none=>none
    |_,_=>none
   |none=>none
 | .convert src dst x=>match ev sl x with
   |some (.one (.p (.k (.int k0 n))))=>match T.ik src,T.ik dst with
    |some _,some k=>some (Kk k (k.wrap n),rq x (Kk k0 n),[])
    |_,_=>none
   |_=>none
 |_=>none
theorem zlO{P:Program}(T:Ty P){sl:zi}{tab:Tab}{op:Op}{v:S}{rs:zi}{rt:RL}(h:val T sl tab op=some (v,rs,rt)){d:Option Nat}{ty:TypeId}{ps:String}{af:Array Edge}{g:Option (Nat×Bool)}
 {n:Nat}:Snd P ⟨d,op,ty,ps,af,g⟩ rs rt [] v []∧okS rs ⟨n,sl,tab⟩∧okT rt ⟨n,sl,tab⟩:=by
 have E: ∀ {x:Operand} {s:S},ev sl x=some s→okc x s∧okS (rq x s) ⟨n,sl,tab⟩:=fun h=>zX (st:=⟨n,sl,tab⟩) h
 unfold val at h
 split at h
 ·split at h
  ·rename_i hx;simp only[Option.some.injEq,Prod.mk.injEq]at h;obtain⟨rfl,rfl,rfl⟩:=h
   exact⟨zsl (E hx).1,(E hx).2,trivial⟩
  ·cases h
 ·split at h
  ·rename_i hx;simp only[Option.some.injEq,Prod.mk.injEq]at h;obtain⟨rfl,rfl,rfl⟩:=h
   exact⟨znU (E hx).1,(E hx).2,trivial⟩
  ·cases h
 ·split at h
  ·rename_i hx;simp only[Option.some.injEq,Prod.mk.injEq]at h;obtain⟨rfl,rfl,rfl⟩:=h
   exact⟨ztJ (E hx).1,(E hx).2,trivial⟩
  ·rename_i hx;simp only[Option.some.injEq,Prod.mk.injEq]at h;obtain⟨rfl,rfl,rfl⟩:=h
   exact⟨zsr (E hx).1,(E hx).2,trivial⟩
  ·cases h
 ·rename_i op0 t1 x1 y1 t2
  split at h
  ·rename_i k m hx
   split at h
   ·rename_i k' n' hy
    split at h
    ·rename_i e;subst e
     have ok:okS (rq x1 (Kk k m)++rq y1 (Kk k n')) ⟨n,sl,tab⟩:=by rw[zd];exact⟨(E hx).2,(E hy).2⟩
     have fin: ∀ {f:Int→Int→Bool} {op:BinOp},cmpI op=some f→some (.bq (f m n'),rq x1 (Kk k m)++rq y1 (Kk k n'),([]:RL))=some (v,rs,rt)→
      Snd P ⟨d,.binOp op t1 x1 y1 t2,ty,ps,af,g⟩ rs rt [] v []∧okS rs ⟨n,sl,tab⟩∧okT rt ⟨n,sl,tab⟩:=fun hf h=>by
      simp only[Option.some.injEq,Prod.mk.injEq]at h;obtain⟨rfl,rfl,rfl⟩:=h
      exact⟨(ztK hf (E hx).1 (E hy).1).sub (.qb rfl),ok,trivial⟩
     have fin2: ∀ {f:Int→Int→Int} {op:BinOp},arith op=some f→some (Kk k (k.wrap (f m n')),rq x1 (Kk k m)++rq y1 (Kk k n'),([]:RL))=some (v,rs,rt)→
      Snd P ⟨d,.binOp op t1 x1 y1 t2,ty,ps,af,g⟩ rs rt [] v []∧okS rs ⟨n,sl,tab⟩∧okT rt ⟨n,sl,tab⟩:=fun hf h=>by
      simp only[Option.some.injEq,Prod.mk.injEq]at h;obtain⟨rfl,rfl,rfl⟩:=h
      exact⟨zqG hf (E hx).1 (E hy).1,ok,trivial⟩
     split at h<;>first|exact fin rfl h|exact fin2 rfl h|cases h
    ·cases h
   ·cases h
  ·rename_i m hx
   split at h
   ·rename_i n' hy
    have ok:okS (rq x1 (Sr m)++rq y1 (Sr n')) ⟨n,sl,tab⟩:=by rw[zd];exact⟨(E hx).2,(E hy).2⟩
    have fin: ∀ {f:ByteArray→ByteArray→Bool} {op:BinOp},ztL op=some f→some (.bq (f m n'),rq x1 (Sr m)++rq y1 (Sr n'),([]:RL))=some (v,rs,rt)→
     Snd P ⟨d,.binOp op t1 x1 y1 t2,ty,ps,af,g⟩ rs rt [] v []∧okS rs ⟨n,sl,tab⟩∧okT rt ⟨n,sl,tab⟩:=fun hf h=>by
     simp only[Option.some.injEq,Prod.mk.injEq]at h;obtain⟨rfl,rfl,rfl⟩:=h
     exact⟨(zsm hf (E hx).1 (E hy).1).sub (.qb rfl),ok,trivial⟩
    split at h<;>first|exact fin rfl h|cases h
   ·cases h
  ·cases h
 ·split at h
  ·rename_i hx
   split at h
   ·rename_i hs;simp only[Option.some.injEq,Prod.mk.injEq]at h;obtain⟨rfl,rfl,rfl⟩:=h
    exact⟨zlu (E hx).1 hs,(E hx).2,trivial⟩
   ·cases h
  ·cases h
 ·split at h
  ·rename_i hx
   split at h
   ·rename_i hf;simp only[Option.some.injEq,Prod.mk.injEq]at h;obtain⟨rfl,rfl,rfl⟩:=h
    exact⟨ziz (E hx).1 (T.fo_ok _ _ _ hf),(E hx).2,trivial⟩
   ·cases h
  ·rename_i hx
   split at h
   ·rename_i hf;simp only[Option.some.injEq,Prod.mk.injEq]at h;obtain⟨rfl,rfl,rfl⟩:=h
    exact⟨ziA (E hx).1 (T.fo_ok _ _ _ hf),(E hx).2,trivial⟩
   ·cases h
  ·rename_i hx
   split at h
   ·rename_i hf;simp only[Option.some.injEq,Prod.mk.injEq]at h;obtain⟨rfl,rfl,rfl⟩:=h
    exact⟨ziB (E hx).1 (T.fo_ok _ _ _ hf),(E hx).2,trivial⟩
   ·cases h
  ·cases h
 ·split at h
  ·rename_i hx
   split at h
   ·rename_i hs
    split at h
    ·rename_i hv;simp only[Option.some.injEq,Prod.mk.injEq]at h;obtain⟨rfl,rfl,rfl⟩:=h
     exact⟨zlx (E hx).1 (T.sh_ok _ _ hs) hv,(E hx).2,trivial⟩
    ·cases h
   ·cases h
  ·rename_i hx
   split at h
   ·rename_i hs
    split at h
    ·rename_i ht
     split at h
     ·rename_i hv;simp only[Option.some.injEq,Prod.mk.injEq]at h;obtain⟨rfl,rfl,rfl⟩:=h
      exact⟨zly (E hx).1 (T.sh_ok _ _ hs) hv,(E hx).2,ht,trivial⟩
     ·cases h
    ·cases h
   ·cases h
  ·cases h
 ·split at h
  ·rename_i hx;simp only[Option.some.injEq,Prod.mk.injEq]at h;obtain⟨rfl,rfl,rfl⟩:=h;exact⟨zdy (E hx).1,(E hx).2,trivial⟩
  ·rename_i hx;simp only[Option.some.injEq,Prod.mk.injEq]at h;obtain⟨rfl,rfl,rfl⟩:=h;exact⟨zdz (E hx).1,(E hx).2,trivial⟩
  ·cases h
 ·rename_i as ts
  split at h
  ·rename_i x has
   have ha:as= #[x]:=by rw[←Array.toList_inj];simpa using has
   subst ha
   split at h
   ·rename_i t tt hts
    have ht0:ts[0]?=some t:=by rw[←Array.getElem?_toList,hts];rfl
    split at h
    ·rename_i hx
     split at h
     ·rename_i he;simp only[Option.some.injEq,Prod.mk.injEq]at h;obtain⟨rfl,rfl,rfl⟩:=h;exact⟨znX (E hx).1 ht0 (T.es_ok _ _ he),(E hx).2,trivial⟩
     ·cases h
    ·rename_i hx
     split at h
     ·rename_i he;simp only[Option.some.injEq,Prod.mk.injEq]at h;obtain⟨rfl,rfl,rfl⟩:=h;exact⟨zlA (E hx).1 ht0 (T.es_ok _ _ he),(E hx).2,trivial⟩
     ·cases h
    ·rename_i hx
     split at h
     ·rename_i ht
      split at h
      ·rename_i he;simp only[Option.some.injEq,Prod.mk.injEq]at h;obtain⟨rfl,rfl,rfl⟩:=h;exact⟨znY (E hx).1 ht0 (T.es_ok _ _ he),(E hx).2,ht,trivial⟩
      ·cases h
     ·cases h
    ·rename_i hx
     split at h
     ·rename_i hs;simp only[Option.some.injEq,Prod.mk.injEq]at h;obtain⟨rfl,rfl,rfl⟩:=h;exact⟨zlB (E hx).1 ht0 (T.str_ok _ hs),(E hx).2,trivial⟩
     ·cases h
    ·cases h
   ·cases h
  ·cases h
 ·rename_i f first l
  split at h
  ·rename_i hf
   split at h
   ·rename_i ss hss
    split at h
    ·rename_i caps hc
     simp only[Option.some.injEq,Prod.mk.injEq]at h;obtain⟨rfl,rfl,rfl⟩:=h
     have hf':first= #[]:=by rw[←Array.toList_inj];simpa using hf
     have:=jl (st:=⟨n,sl,tab⟩) hss
     subst hf'
     exact⟨by have:=ziG (P:=P) (d:=d) (ty:=ty) (ps:=ps) (af:=af) (g:=g) (f:=f) this.1 hc;simpa using this,this.2,trivial⟩
    ·cases h
   ·cases h
  ·cases h
 ·rename_i t l
  split at h
  ·rename_i ss hss
   split at h
   ·rename_i pl zs hpl hzs
    split at h
    ·rename_i vp hvp
     split at h
     ·rename_i vs hvs
      simp only[Option.some.injEq,Prod.mk.injEq]at h;obtain⟨rfl,rfl,rfl⟩:=h
      have:=jl (st:=⟨n,sl,tab⟩) hss
      exact⟨by have:=zqI (P:=P) (d:=d) (ty:=ty) (ps:=ps) (af:=af) (g:=g) (t:=t) this.1 (T.pl_ok _ _ hpl) (T.zs_ok _ _ hzs) hvp hvs;simpa using this,this.2,trivial⟩
     ·cases h
    ·cases h
   ·cases h
  ·cases h
 ·split at h
  ·rename_i k0 n' hx
   split at h
   ·rename_i k hs hd
    simp only[Option.some.injEq,Prod.mk.injEq]at h;obtain⟨rfl,rfl,rfl⟩:=h
    refine⟨zo fun C st M ρ a w hH h1 _=>⟨_,?_,zkg k _⟩,(E hx).2,trivial⟩
    have e:=hH.k (zM (E hx).1 h1)
    simp only[execOp,e,convert,Sem.run_bind,run_underlying (T.ik_ok _ _ hs),run_underlying (T.ik_ok _ _ hd),Result.andThen_ok,Conv.intToInt,Sem.run_pure]
   ·cases h
  ·cases h
 ·cases h
end Hw
/- The engine: trees of numbers, for tables. -/
namespace Hw
open Go
inductive BT (α:Type) where
 |lf
 |nd (l:BT α) (k:Nat) (v:α) (r:BT α)
def bget{α:Type}:BT α→Nat→Option α
 | .lf,_=>none
 | .nd l k v r,j=>match Nat.beq k j with
   |true=>some v
   |false=>match Nat.blt j k with
    |true=>bget l j
    |false=>bget r j
def BT.All{α:Type}(f:Nat→α→Prop):BT α→Prop
 | .lf=>True
 | .nd l k v r=>f k v∧l.All f∧r.All f
theorem BT.All.get{α:Type}{f:Nat→α→Prop}: ∀ {t:BT α},t.All f→ ∀ {j:Nat} {v:α},bget t j=some v→f j v
 | .lf,_,_,_,h=>by cases h
 | .nd l k v r,ha,j,u,h=>by
   simp only[bget]at h
   simp only[BT.All]at ha
   split at h
   ·rename_i e
    have:=Nat.eq_of_beq_eq_true e
    subst this;simp only[Option.some.injEq]at h;subst h;exact ha.1
   ·split at h
    ·exact ha.2.1.get h
    ·exact ha.2.2.get h
def BT.allB{α:Type}(f:Nat→α→Bool):BT α→Bool
 | .lf=>true
 | .nd l k v r=>f k v&&l.allB f&&r.allB f
theorem BT.jv{α:Type}{f:Nat→α→Bool}: ∀ {t:BT α},t.allB f=true→t.All (fun k v=>f k v=true)
 | .lf,_=>trivial
 | .nd l k v r,h=>by
   simp only[BT.allB,Bool.and_eq_true]at h
   exact⟨h.1.1,BT.jv h.1.2,BT.jv h.2⟩
inductive ZK where
 |int (k:IntKind)|bool|str|slice|ptr|map|nfunc|nif
 deriving DecidableEq
def ZK.val:ZK→Value
 | .int k=> .int k 0
 | .bool=> .bool false
 | .str=> .string ByteArray.empty
 | .slice=> .slice none 0 0
 | .ptr=> .pointer none
 | .map=> .map none
 | .nfunc=> .nilFunc
 | .nif=> .nilIface
def zkB:Value→ZK→Bool
 | .int k n,.int k'=>decide (k=k')&&decide (n=0)
 | .bool b,.bool=> !b
 | .string s,.str=>s.data.toList.isEmpty
 | .slice none 0 0,.slice=>true
 | .pointer none,.ptr=>true
 | .map none,.map=>true
 | .nilFunc,.nfunc=>true
 | .nilIface,.nif=>true
 |_,_=>false
theorem zn2{v:Value}{z:ZK}(h:zkB v z=true):v=z.val:=by
 unfold zkB at h
 split at h<;>first
  |(simp only[Bool.and_eq_true,decide_eq_true_eq]at h;rw[h.1,h.2];rfl)
  |rfl
  |cases h
  |skip
 ·rename_i b;cases b<;>simp at h;rfl
 ·rename_i s
  have h2:s.data= #[]:=by
   have:s.data.toList=[]:=by simpa using h
   exact Array.toList_inj.1 (by simpa using this)
  cases s;simp only at h2;subst h2;rfl
def zksB:List Value→List ZK→Bool
 | [],[]=>true
 |v::vs,z::zs=>zkB v z&&zksB vs zs
 |_,_=>false
theorem zeZ: ∀ {vs:List Value} {zs:List ZK},zksB vs zs=true→vs=zs.map ZK.val
 | [],[],_=>rfl
 | [],_::_,h=>by cases h
 |_::_,[],h=>by cases h
 |v::vs,z::zs,h=>by
  simp only[zksB,Bool.and_eq_true]at h
  rw[zn2 h.1,zeZ h.2];rfl
def zeroB(P:Program)(t:Nat)(zs:List ZK):Bool:=
 match P.info? t with
 |some i=>match i.zero with
  |some z=>zksB z.cells.toList zs
  |none=>false
 |none=>false
def zV(zs:List ZK):List V:=zs.map fun z=> .p (.k z.val)
theorem ziJ{P:Program}{t:Nat}{zs:List ZK}(h:zeroB P t zs=true):zeroV P t=some (zV zs):=by
 unfold zeroB at h
 cases hi:P.info? t with
 |none=>rw[hi]at h;cases h
 |some i=>
  rw[hi]at h
  simp only at h
  cases hz:i.zero with
  |none=>rw[hz]at h;cases h
  |some z=>
   rw[hz]at h
   simp only at h
   have e:=zeZ h
   have h1:z.cells.toList.all Value.oneCell'=true:=by
    rw[e];simp only[List.all_map,List.all_eq_true];intro x _;cases x<;>rfl
   unfold zeroV
   simp only[hi,hz]
   rw[if_pos h1,e,zV,List.map_map];rfl
structure Tabs where
 sh:BT (Option Nat)
 fo:BT (BT Nat)
 es:BT (Nat×Nat)
 zs:BT (List ZK)
 pl:BT (List (Nat×Nat))
 str:BT Unit
 ik:BT IntKind
def isStr(P:Program)(t:Nat):Bool:=match P.underlying t with|some .string=>true|_=>false
def isIk(P:Program)(t:Nat)(k:IntKind):Bool:=match P.underlying t with|some (.int k')=>decide (k'=k)|_=>false
def Tabs.check(P:Program)(t:Tabs):Bool:=
 t.sh.allB (fun k v=>decide (shp P k=some v))&&
 t.fo.allB (fun k b=>b.allB fun f v=>decide (fieldOff P k f=some v))&&
 t.es.allB (fun k v=>decide (elemSz P k=some v))&&
 t.zs.allB (fun k v=>zeroB P k v)&&
 t.pl.allB (fun k v=>decide (places P k=some v))&&
 t.str.allB (fun k _=>isStr P k)&&
 t.ik.allB (fun k v=>isIk P k v)
def Tabs.ty{P:Program}(t:Tabs)(h:t.check P=true)(hm:P.follows .mixedOrders=true):Ty P where
 mix:=hm
 sh:=bget t.sh
 sh_ok:=by
  simp only[Tabs.check,Bool.and_eq_true]at h
  intro j v hj;simpa using(BT.jv h.1.1.1.1.1.1).get hj
 fo j f:=match bget t.fo j with
  |some b=>bget b f
  |none=>none
 fo_ok:=by
  simp only[Tabs.check,Bool.and_eq_true]at h
  intro j f v hj
  split at hj
  ·rename_i b hb
   have h2:=(BT.jv h.1.1.1.1.1.2).get hb
   simpa using(BT.jv h2).get hj
  ·cases hj
 es:=bget t.es
 es_ok:=by
  simp only[Tabs.check,Bool.and_eq_true]at h
  intro j v hj;simpa using(BT.jv h.1.1.1.1.2).get hj
 zs j:=match bget t.zs j with
  |some z=>some (zV z)
  |none=>none
 zs_ok:=by
  simp only[Tabs.check,Bool.and_eq_true]at h
  intro j v hj
  split at hj
  ·rename_i z hz
   simp only[Option.some.injEq]at hj;subst hj
   exact ziJ ((BT.jv h.1.1.1.2).get hz)
  ·cases hj
 pl:=bget t.pl
 pl_ok:=by
  simp only[Tabs.check,Bool.and_eq_true]at h
  intro j v hj;simpa using(BT.jv h.1.1.2).get hj
 str j:=match bget t.str j with
  |some _=>true
  |none=>false
 str_ok:=by
  simp only[Tabs.check,Bool.and_eq_true]at h
  intro j hj
  split at hj
  ·rename_i b hb
   have:=(BT.jv h.1.2).get hb
   unfold isStr at this;split at this
   ·assumption
   ·cases this
  ·cases hj
 ik:=bget t.ik
 ik_ok:=by
  simp only[Tabs.check,Bool.and_eq_true]at h
  intro j k hj
  have:=(BT.jv h.2).get hj
  unfold isIk at this;split at this
  ·rename_i k' hk;simp only[decide_eq_true_eq]at this;subst this;exact hk
  ·cases this
end Hw
/- The engine, part H: a run by reckoning; functions, calls, what is handed back. -/
namespace Hw
open Go
theorem Ctx.low.none{C:Ctx}(h:C.low){i:Nat}(hi:100≤i):tg C.tab0 i=none:=by
 cases e:tg C.tab0 i with
 |none=>rfl
 |some r=>have:=h i r e;omega
def okL(L:Law)(n:Nat)(sl:zi)(tab:Tab):Prop:=
 okS L.rs ⟨n,sl,tab⟩∧okT L.rt ⟨n,sl,tab⟩∧allB (fun id=>Nat.ble 100 id&&freshB id ⟨n,sl,tab⟩) L.fr=true∧dok L.d n=true
theorem zhy{C:Ctx}(hC:C.low){st:St}: ∀ {fr:List Nat},allB (fun id=>Nat.ble 100 id&&freshB id st) fr=true→okF C fr st
 | [],_=>trivial
 |x::xs,h=>by
  simp only[allB,Bool.and_eq_true]at h
  exact⟨x8 h.1.2 (hC.none (Nat.le_of_ble_eq_true h.1.1)),zhy hC h.2⟩
def metL(all:Array Oper)(sl:zi):Option (Nat×Bool)→Option zi
 |none=>some []
 |some (j,want)=>match(all[j]?).bind (·.dst)with
  |some t=>match sg sl t with
   |some (.one (.p (.k (.bool c))))=>match zgf want c with
    |true=>some [(t,Bo c)]
    |false=>none
   |_=>none
  |none=>none
theorem zq{P:Program}{all:Array Oper}{sl:zi}{gs:zi}{d:Option Nat}{op:Op}{ty:TypeId}{ps:String}{af:Array Edge}{g:Option (Nat×Bool)}{rs:zi}{rt:RL}{fr:List Nat}{v:S}{wt:Tab}
 (hm:metL all sl g=some gs) (hL:Snd P ⟨d,op,ty,ps,af,g⟩ rs rt fr v wt) {n:Nat} {tab:Tab}:wA P all ⟨d,op,ty,ps,af,g⟩ (gs++rs) rt fr v wt∧okS gs ⟨n,sl,tab⟩:=by
 cases g with
 |none=>
  simp only[metL,Option.some.injEq]at hm;subst hm
  exact⟨wA.plain rfl hL,trivial⟩
 |some p=>
  obtain⟨j,want⟩:=p
  simp only[metL]at hm
  split at hm
  ·rename_i t ht
   split at hm
   ·rename_i c hc
    split at hm
    ·rename_i hw
     simp only[Option.some.injEq]at hm;subst hm
     refine⟨fun C st M ρ a w hH h1 h2 h3 hd k Q hk=>?_,hc,trivial⟩
     have hw':=zaI.wanted (ops:=all) (o:=⟨d,op,ty,ps,af,some (j,want)⟩) (t:=t) (gs:=Bo c) (b:=zgf want c) ⟨j,want,rfl,ht,.inl ⟨c,rfl,rfl⟩⟩ (hH.slots t _ h1.1)
     rw[hw',hw,if_pos rfl]
     exact hL C st M ρ a w hH h1.2 h2 h3 hd k Q hk
    ·cases hm
   ·cases hm
  ·cases hm
def goL{P:Program}(T:Ty P)(n:Nat)(fl:Bool)(o:Oper)(sl:zi)(tab:Tab):Option Law:=
 match o.op with
 | .box _ x=>match o.dst with
   |some d=>match ev sl x with
    |some s=>match cellsOf s with
     |some vs=>match Nat.blt d n&&freshB (1000+d) ⟨n,sl,tab⟩with
      |true=>some ⟨some d,rq x s,[],[1000+d],.one (.bx (1000+d) 0),[(1000+d,some (.box vs))]⟩
      |false=>none
     |none=>none
    |none=>none
   |none=>none
 | .alloc t=>match o.dst with
   |some d=>match T.zs t with
    |some vs=>match Nat.blt d n&&freshB (1000+d) ⟨n,sl,tab⟩with
     |true=>some ⟨some d,[],[],[1000+d],.one (.bx (1000+d) 0),[(1000+d,some (.box vs))]⟩
     |false=>none
    |none=>none
   |none=>none
 | .store t x y=>match o.dst with
   |none=>match ev sl x with
    |some (.one (.bx id j))=>match ev sl y with
     |some s=>match tg tab id,cellsOf s,T.sh t with
      |some (.box vs),some us,some sh=>match Nat.beq us.length (sh.getD 1)&&Nat.ble (j+us.length) vs.length with
       |true=>some ⟨none,rq x (.one (.bx id j))++rq y s,[(id,.box vs)],[],.un,[(id,some (.box (setAt vs j us)))]⟩
       |false=>none
      |_,_,_=>none
     |none=>none
    |_=>none
   |some _=>none
 | .pick c x y=>match fl with
   |true=>match o.dst with
    |some d=>match Nat.blt d n with
     |true=>match ev sl c with
      |some (.one (.p (.k (.bool b))))=>match b with
       |true=>match ev sl x with
        |some s=>some ⟨some d,rq c (Bo true)++rq x s,[],[],s,[]⟩
        |none=>none
       |false=>match ev sl y with
        |some s=>some ⟨some d,rq c (Bo false)++rq y s,[],[],s,[]⟩
        |none=>none
      |_=>none
     |false=>none
    |none=>none
   |false=>none
 |op=>match o.dst with
  |some d=>match Nat.blt d n with
   |true=>match val T sl tab op with
    |some (v,rs,rt)=>some ⟨some d,rs,rt,[],v,[]⟩
    |none=>none
   |false=>none
  |none=>none
theorem ze0{P:Program}(T:Ty P){n:Nat}{fl:Bool}{o:Oper}{sl:zi}{tab:Tab}{L:Law}(h:goL T n fl o sl tab=some L):Snd P o L.rs L.rt L.fr L.v L.wt∧L.d=o.dst∧okL L n sl tab:=by
 obtain⟨d,op,ty,ps,af,g⟩:=o
 simp only[goL]at h
 have E: ∀ {x:Operand} {s:S},ev sl x=some s→okc x s∧okS (rq x s) ⟨n,sl,tab⟩:=fun h=>zX (st:=⟨n,sl,tab⟩) h
 have F: ∀ {d:Nat},freshB (1000+d) ⟨n,sl,tab⟩=true→allB (fun id=>Nat.ble 100 id&&freshB id ⟨n,sl,tab⟩) [1000+d]=true:=fun {d} h=>by
  simp only[allB,h,Bool.and_true]
  rw[Nat.ble_eq];omega
 split at h
 ·rename_i t x
  split at h
  ·rename_i dd
   split at h
   ·rename_i s hx
    split at h
    ·rename_i vs hc
     split at h
     ·rename_i hb
      simp only[Bool.and_eq_true]at hb
      simp only[Option.some.injEq]at h;subst h
      exact⟨ztM (E hx).1 hc,rfl,(E hx).2,trivial,F hb.2,hb.1⟩
     ·cases h
    ·cases h
   ·cases h
  ·cases h
 ·rename_i t
  split at h
  ·rename_i dd
   split at h
   ·rename_i vs hz
    split at h
    ·rename_i hb
     simp only[Bool.and_eq_true]at hb
     simp only[Option.some.injEq]at h;subst h
     exact⟨zqH (T.zs_ok _ _ hz),rfl,trivial,trivial,F hb.2,hb.1⟩
    ·cases h
   ·cases h
  ·cases h
 ·rename_i t x y
  split at h
  ·split at h
   ·rename_i id j hx
    split at h
    ·rename_i s hy
     split at h
     ·rename_i vs us sh ht hc hs
      split at h
      ·rename_i hb
       simp only[Bool.and_eq_true]at hb
       simp only[Option.some.injEq]at h;subst h
       exact⟨ziE (E hx).1 (E hy).1 (T.sh_ok _ _ hs) hc (Nat.eq_of_beq_eq_true hb.1) (Nat.le_of_ble_eq_true hb.2),rfl,by rw[zd];exact⟨(E hx).2,(E hy).2⟩,⟨ht,trivial⟩,rfl,rfl⟩
      ·cases h
     ·cases h
    ·cases h
   ·cases h
  ·cases h
 ·rename_i c x y
  split at h
  ·split at h
   ·rename_i dd
    split at h
    ·rename_i hb
     split at h
     ·rename_i b hc
      split at h
      ·split at h
       ·rename_i s hx
        simp only[Option.some.injEq]at h;subst h
        exact⟨znV (E hc).1 (E hx).1,rfl,by rw[zd];exact⟨(E hc).2,(E hx).2⟩,trivial,rfl,hb⟩
       ·cases h
      ·split at h
       ·rename_i s hx
        simp only[Option.some.injEq]at h;subst h
        exact⟨znW (E hc).1 (E hx).1,rfl,by rw[zd];exact⟨(E hc).2,(E hx).2⟩,trivial,rfl,hb⟩
       ·cases h
     ·cases h
    ·cases h
   ·cases h
  ·cases h
 ·split at h
  ·rename_i dd
   split at h
   ·rename_i hb
    split at h
    ·rename_i v rs rt hv
     simp only[Option.some.injEq]at h;subst h
     have:=zlO T hv (d:=some dd) (ty:=ty) (ps:=ps) (af:=af) (g:=g) (n:=n)
     exact⟨this.1,rfl,this.2.1,this.2.2,rfl,hb⟩
    ·cases h
   ·cases h
  ·cases h
def stepL{P:Program}(T:Ty P)(n:Nat)(fl:Bool)(all:Array Oper)(o:Oper)(sl:zi)(tab:Tab):Option Law:=
 match o.guard with
 |none=>goL T n fl o sl tab
 |some (j,want)=>match fl with
  |false=>none
  |true=>match(all[j]?).bind (·.dst)with
   |some t=>match sg sl t with
    |some (.one (.p (.k (.bool c))))=>match zgf want c with
     |true=>match goL T n fl o sl tab with
      |some ⟨d,rs,rt,fr,v,wt⟩=>some ⟨d,(t,Bo c)::rs,rt,fr,v,wt⟩
      |none=>none
     |false=>match o.dst with
      |some d=>match Nat.blt d n with
       |true=>some ⟨some d,[(t,Bo c)],[],[],.gd false (Bo false),[]⟩
       |false=>none
      |none=>some ⟨none,[(t,Bo c)],[],[],.gd false (Bo false),[]⟩
    |some (.gd false (.one (.p (.k (.bool c)))))=>match o.dst with
     |some d=>match Nat.blt d n with
      |true=>some ⟨some d,[(t,.gd false (Bo c))],[],[],.gd false (Bo false),[]⟩
      |false=>none
     |none=>some ⟨none,[(t,.gd false (Bo c))],[],[],.gd false (Bo false),[]⟩
    |_=>none
   |none=>none
theorem vu{P:Program}(T:Ty P){n:Nat}{fl:Bool}{all:Array Oper}{o:Oper}{sl:zi}{tab:Tab}{L:Law}(h:stepL T n fl all o sl tab=some L):
 wA P all o L.rs L.rt L.fr L.v L.wt∧L.d=o.dst∧okL L n sl tab:=by
 unfold stepL at h
 split at h
 ·rename_i hg
  obtain⟨h1,h2,h3⟩:=ze0 T h
  exact⟨wA.plain hg h1,h2,h3⟩
 ·rename_i j want hg
  split at h
  ·cases h
  ·split at h
   ·rename_i t ht
    split at h
    ·rename_i c hc
     split at h
     ·rename_i hb
      split at h
      ·rename_i d rs rt fr v wt hL
       simp only[Option.some.injEq]at h;subst h
       obtain⟨h1,h2,h3⟩:=ze0 T hL
       refine⟨fun C st M ρ a w hH h4 h5 h6 hd k Q hk=>?_,h2,⟨hc,h3.1⟩,h3.2⟩
       rw[zaI.wanted (ops:=all) (o:=o) (t:=t) (gs:=Bo c) (b:=zgf want c) ⟨j,want,hg,ht,.inl ⟨c,rfl,rfl⟩⟩ (hH.slots t _ h4.1),hb,if_pos rfl]
       exact h1 C st M ρ a w hH h4.2 h5 h6 hd k Q hk
      ·cases h
     ·rename_i hb
      have use: ∀ {v:S},okS [(t,Bo c)] ⟨n,sl,tab⟩∧dok o.dst n=true→L=⟨o.dst,[(t,Bo c)],[],[],.gd false (Bo false),[]⟩→wA P all o L.rs L.rt L.fr L.v L.wt∧L.d=o.dst∧okL L n sl tab:=fun {_} h0 h=>by
       subst h
       refine⟨fun C st M ρ a w hH h4 h5 h6 hd k Q hk=>?_,rfl,⟨hc,trivial⟩,trivial,rfl,h0.2⟩
       rw[zaI.wanted (ops:=all) (o:=o) (t:=t) (gs:=Bo c) (b:=zgf want c) ⟨j,want,hg,ht,.inl ⟨c,rfl,rfl⟩⟩ (hH.slots t _ h4.1),hb]
       simp only[Bool.false_eq_true,if_false]
       exact hk _ _ M ρ (hH.zbK hd (by simp[RepS]))
      split at h
      ·rename_i d hd
       split at h
       ·rename_i hlt
        simp only[Option.some.injEq]at h
        exact use (v:= .un) ⟨⟨hc,trivial⟩,by rw[hd];exact hlt⟩ (by rw[←h,hd])
       ·cases h
      ·rename_i hd
       simp only[Option.some.injEq]at h
       exact use (v:= .un) ⟨⟨hc,trivial⟩,by rw[hd];rfl⟩ (by rw[←h,hd])
    ·rename_i c hc
     have use:okS [(t,.gd false (Bo c))] ⟨n,sl,tab⟩∧dok o.dst n=true→L=⟨o.dst,[(t,.gd false (Bo c))],[],[],.gd false (Bo false),[]⟩→wA P all o L.rs L.rt L.fr L.v L.wt∧L.d=o.dst∧okL L n sl tab:=fun h0 h=>by
      subst h
      refine⟨fun C st M ρ a w hH h4 h5 h6 hd k Q hk=>?_,rfl,⟨hc,trivial⟩,trivial,rfl,h0.2⟩
      rw[zaI.wanted (ops:=all) (o:=o) (t:=t) (gs:= .gd false (Bo c)) (b:=false) ⟨j,want,hg,ht,.inr ⟨false,c,rfl,rfl⟩⟩ (hH.slots t _ h4.1)]
      simp only[Bool.false_eq_true,if_false]
      exact hk _ _ M ρ (hH.zbK hd (by simp[RepS]))
     split at h
     ·rename_i d hd
      split at h
      ·rename_i hlt
       simp only[Option.some.injEq]at h
       exact use ⟨⟨hc,trivial⟩,by rw[hd];exact hlt⟩ (by rw[←h,hd])
      ·cases h
     ·rename_i hd
      simp only[Option.some.injEq]at h
      exact use ⟨⟨hc,trivial⟩,by rw[hd];rfl⟩ (by rw[←h,hd])
    ·cases h
   ·cases h
abbrev Mode:=Option (zi×Tab×List Law)
def nx:Mode→Law→Mode
 |none,_=>none
 |some (s,t,done),L=>some (s,t,L::done)
inductive Cur where
 |code (c:Code)
 |ops (all:Array Oper) (rest:List Oper) (md:Mode)
 |fin (e:Exit)
inductive Frm where
 |seq (c:Code)
 |blk (id:Nat)
def unw(P:Program)(C:Ctx):List Frm→(Exit→St→Prop)→Exit→St→Prop
 | [],Q=>Q
 | .seq c::k,Q=>zso P C c (unw P C k Q)
 | .blk i::k,Q=>blockQ i (unw P C k Q)
def ztR(P:Program)(C:Ctx)(all:Array Oper)(rest:List Oper)(n:Nat)(sl0:zi)(tab0:Tab)(done:List Law)(sl:zi)(tab:Tab)(Q:Exit→St→Prop):Prop:=
 zaR P all ⟨n,sl0,tab0⟩ done→(∀k,sg sl k=sg (apps ⟨n,sl0,tab0⟩ done).sl k)→(∀i,tg tab i=tg (apps ⟨n,sl0,tab0⟩ done).tab i)→all.toList.drop done.length=rest→
  ∀M ρ a w id,Holds C ⟨n,sl0,tab0⟩ M ρ a w→(Code.region id all true).wp P (lift C Q) a w
def Goal(P:Program)(C:Ctx)(cur:Cur)(k:List Frm)(n:Nat)(sl:zi)(tab:Tab)(Q:Exit→St→Prop):Prop:=
 match cur with
 | .code c=>Tri P C c ⟨n,sl,tab⟩ (unw P C k Q)
 | .ops all rest none=>ztN P C all rest ⟨n,sl,tab⟩ (unw P C k Q)
 | .ops all rest (some (sl0,tab0,done))=>ztR P C all rest n sl0 tab0 done sl tab (unw P C k Q)
 | .fin e=> ∀M ρ a w,Holds C ⟨n,sl,tab⟩ M ρ a w→lift C (unw P C k Q) e a w
theorem yr{P:Program}{C:Ctx}(hC:C.low){k:List Frm}{n:Nat}{sl:zi}{tab:Tab}{Q:Exit→St→Prop}{all:Array Oper}{o:Oper}{rest:List Oper}{md:Mode}{L:Law}
 (hL:wA P all o L.rs L.rt L.fr L.v L.wt) (hd:L.d=o.dst) (h:okL L n sl tab) (g:Goal P C (.ops all rest (nx md L)) k n (app L.d L.v L.wt ⟨n,sl,tab⟩).sl (L.wt++tab) Q):
 Goal P C (.ops all (o::rest) md) k n sl tab Q:=by
 obtain⟨h1,h2,h3,h4⟩:=h
 cases md with
 |none=>
  rw[hd]at g
  exact zsn (st:=⟨n,sl,tab⟩) hL h1 h2 (zhy hC h3) (by rw[←hd];exact h4) g
 |some p=>
  obtain⟨sl0,tab0,done⟩:=p
  intro hD hs ht hr
  refine g ⟨hD,o,?_,hL,hd,zoH h1 fun k _=>(hs k).symm,zoI h2 fun i _=>(ht i).symm,h4⟩ ?_ ?_ ?_
  ·have:(all.toList.drop done.length)[0]?=some o:=by rw[hr];rfl
   rw[List.getElem?_drop]at this;simpa using this
  ·intro j
   rw[jL]
   simp only[wr]
   obtain⟨d,rs,rt,fr,v,wt⟩:=L
   cases d with
   |none=>simpa [app]using hs j
   |some d=>
    simp only[app]
    rw[y5]
    by_cases e:d=j
    ·subst e;simp
    ·simp[e,yK e,hs j]
  ·intro i
   simp only[apps,app]
   cases hk:hasB i (keysT L.wt)with
   |true=>exact zdB hk
   |false=>rw[zaJ hk,zaJ hk];exact ht i
  ·have:(all.toList.drop done.length).drop 1=rest:=by rw[hr];rfl
   rw[List.drop_drop]at this;simpa [Nat.add_comm]using this
theorem zl9{P:Program}(T:Ty P){C:Ctx}(hC:C.low){k:List Frm}{n:Nat}{sl sl0:zi}{tab tab0:Tab}{done:List Law}{Q:Exit→St→Prop}{all:Array Oper}
 (hc:check all (zst all.toList []) ⟨n,sl0,tab0⟩ done=true) (g:Goal P C (.fin .normal) k n sl tab Q):Goal P C (.ops all [] (some (sl0,tab0,done))) k n sl tab Q:=by
 intro hD hs ht _ M ρ a w id hH
 exact ziI T.mix hD hc hC (fun a w M ρ hH=>g M ρ a w (hH.ext (by rw[zeU]) hs ht)) hH
def stepM{P:Program}(T:Ty P)(n:Nat)(fl:Bool):Cur→List Frm→zi→Tab→Option (Cur×List Frm×zi×Tab)
 | .code c,k,sl,tab=>match c with
   | .seq a b=>some (.code a,.seq b::k,sl,tab)
   | .skip=>some (.fin .normal,k,sl,tab)
   | .exit i=>some (.fin (.exit i),k,sl,tab)
   | .ret=>some (.fin .ret,k,sl,tab)
   | .block i c=>some (.code c,.blk i::k,sl,tab)
   | .region _ ops dr=>match dr with
     |false=>some (.ops ops ops.toList none,k,sl,tab)
     |true=>some (.ops ops ops.toList (some (sl,tab,[])),k,sl,tab)
   | .cond c a b=>match fl with
     |true=>match ev sl c with
      |some (.one (.p (.k (.bool bb))))=>match bb with
       |true=>some (.code a,k,sl,tab)
       |false=>some (.code b,k,sl,tab)
      |_=>none
     |false=>none
   |_=>none
 | .ops all r md,k,sl,tab=>match r with
   | []=>match md with
     |none=>some (.fin .normal,k,sl,tab)
     |some _=>none
   |o::r=>match stepL T n fl all o sl tab with
    |some ⟨some d,rs,rt,fr,v,[]⟩=>match md with
     |none=>some (.ops all r none,k,(d,v)::sl,tab)
     |some (s,t,done)=>some (.ops all r (some (s,t,⟨some d,rs,rt,fr,v,[]⟩::done)),k,(d,v)::sl,tab)
    |some ⟨some d,rs,rt,fr,v,[x]⟩=>match md with
     |none=>some (.ops all r none,k,(d,v)::sl,x::tab)
     |some (s,t,done)=>some (.ops all r (some (s,t,⟨some d,rs,rt,fr,v,[x]⟩::done)),k,(d,v)::sl,x::tab)
    |some ⟨none,rs,rt,fr,v,[]⟩=>match md with
     |none=>some (.ops all r none,k,sl,tab)
     |some (s,t,done)=>some (.ops all r (some (s,t,⟨none,rs,rt,fr,v,[]⟩::done)),k,sl,tab)
    |some ⟨none,rs,rt,fr,v,[x]⟩=>match md with
     |none=>some (.ops all r none,k,sl,x::tab)
     |some (s,t,done)=>some (.ops all r (some (s,t,⟨none,rs,rt,fr,v,[x]⟩::done)),k,sl,x::tab)
    |_=>none
 | .fin e,k,sl,tab=>match k with
   | []=>none
   |f::k=>match e with
    | .normal=>match f with
      | .seq c=>some (.code c,k,sl,tab)
      | .blk _=>some (.fin .normal,k,sl,tab)
    | .exit i=>match f with
      | .seq _=>some (.fin (.exit i),k,sl,tab)
      | .blk j=>match Nat.beq i j with
        |true=>some (.fin .normal,k,sl,tab)
        |false=>some (.fin (.exit i),k,sl,tab)
    | .ret=>some (.fin .ret,k,sl,tab)
    |_=>none
theorem zb1{P:Program}(T:Ty P){C:Ctx}(hC:C.low){n:Nat}{fl:Bool}{cur cur':Cur}{k k':List Frm}{sl sl':zi}{tab tab':Tab}{Q:Exit→St→Prop}
 (h:stepM T n fl cur k sl tab=some (cur',k',sl',tab')) (g:Goal P C cur' k' n sl' tab' Q):Goal P C cur k n sl tab Q:=by
 cases cur with
 |code c=>
  simp only[stepM]at h
  split at h
  ·simp only[Option.some.injEq,Prod.mk.injEq]at h;obtain⟨rfl,rfl,rfl,rfl⟩:=h;exact ztO g
  ·simp only[Option.some.injEq,Prod.mk.injEq]at h;obtain⟨rfl,rfl,rfl,rfl⟩:=h;exact fun M ρ a w hH=>wp_skip (g M ρ a w hH)
  ·simp only[Option.some.injEq,Prod.mk.injEq]at h;obtain⟨rfl,rfl,rfl,rfl⟩:=h;exact fun M ρ a w hH=>wp_exit (g M ρ a w hH)
  ·simp only[Option.some.injEq,Prod.mk.injEq]at h;obtain⟨rfl,rfl,rfl,rfl⟩:=h;exact fun M ρ a w hH=>wp_ret (g M ρ a w hH)
  ·simp only[Option.some.injEq,Prod.mk.injEq]at h;obtain⟨rfl,rfl,rfl,rfl⟩:=h;exact zqL g
  ·split at h
   ·simp only[Option.some.injEq,Prod.mk.injEq]at h;obtain⟨rfl,rfl,rfl,rfl⟩:=h
    exact fun M ρ a w hH=>wp_region_list (g M ρ a w hH)
   ·simp only[Option.some.injEq,Prod.mk.injEq]at h;obtain⟨rfl,rfl,rfl,rfl⟩:=h
    exact fun M ρ a w hH=>g trivial (fun _=>rfl) (fun _=>rfl) rfl M ρ a w _ hH
  ·split at h
   ·split at h
    ·rename_i bb hc
     split at h
     ·simp only[Option.some.injEq,Prod.mk.injEq]at h;obtain⟨rfl,rfl,rfl,rfl⟩:=h;exact zqJ hc g
     ·simp only[Option.some.injEq,Prod.mk.injEq]at h;obtain⟨rfl,rfl,rfl,rfl⟩:=h;exact zqK hc g
    ·cases h
   ·cases h
  ·cases h
 |ops all r md=>
  simp only[stepM]at h
  split at h
  ·split at h
   ·simp only[Option.some.injEq,Prod.mk.injEq]at h;obtain⟨rfl,rfl,rfl,rfl⟩:=h;exact fun M ρ a w hH=>wpList_nil (g M ρ a w hH)
   ·cases h
  ·rename_i o r
   split at h
   ·rename_i hs
    obtain⟨h1,h2,h3⟩:=vu T hs
    refine yr hC h1 h2 h3 ?_
    split at h
    ·simp only[Option.some.injEq,Prod.mk.injEq]at h;obtain⟨rfl,rfl,rfl,rfl⟩:=h;exact g
    ·simp only[Option.some.injEq,Prod.mk.injEq]at h;obtain⟨rfl,rfl,rfl,rfl⟩:=h;exact g
   ·rename_i hs
    obtain⟨h1,h2,h3⟩:=vu T hs
    refine yr hC h1 h2 h3 ?_
    split at h
    ·simp only[Option.some.injEq,Prod.mk.injEq]at h;obtain⟨rfl,rfl,rfl,rfl⟩:=h;exact g
    ·simp only[Option.some.injEq,Prod.mk.injEq]at h;obtain⟨rfl,rfl,rfl,rfl⟩:=h;exact g
   ·rename_i hs
    obtain⟨h1,h2,h3⟩:=vu T hs
    refine yr hC h1 h2 h3 ?_
    split at h
    ·simp only[Option.some.injEq,Prod.mk.injEq]at h;obtain⟨rfl,rfl,rfl,rfl⟩:=h;exact g
    ·simp only[Option.some.injEq,Prod.mk.injEq]at h;obtain⟨rfl,rfl,rfl,rfl⟩:=h;exact g
   ·rename_i hs
    obtain⟨h1,h2,h3⟩:=vu T hs
    refine yr hC h1 h2 h3 ?_
    split at h
    ·simp only[Option.some.injEq,Prod.mk.injEq]at h;obtain⟨rfl,rfl,rfl,rfl⟩:=h;exact g
    ·simp only[Option.some.injEq,Prod.mk.injEq]at h;obtain⟨rfl,rfl,rfl,rfl⟩:=h;exact g
   ·cases h
 |fin e=>
  simp only[stepM]at h
  split at h
  ·cases h
  ·rename_i f k
   split at h
   ·split at h
    ·simp only[Option.some.injEq,Prod.mk.injEq]at h;obtain⟨rfl,rfl,rfl,rfl⟩:=h
     exact fun M ρ a w hH=>⟨_,M,ρ,g,hH⟩
    ·simp only[Option.some.injEq,Prod.mk.injEq]at h;obtain⟨rfl,rfl,rfl,rfl⟩:=h;exact g
   ·split at h
    ·simp only[Option.some.injEq,Prod.mk.injEq]at h;obtain⟨rfl,rfl,rfl,rfl⟩:=h;exact g
    ·split at h
     ·rename_i hb
      simp only[Option.some.injEq,Prod.mk.injEq]at h;obtain⟨rfl,rfl,rfl,rfl⟩:=h
      refine fun M ρ a w hH=>?_
      obtain⟨st,M',ρ',hq,hH'⟩:=g M ρ a w hH
      exact⟨st,M',ρ',by simp only[unw,blockQ,hb];exact hq,hH'⟩
     ·rename_i hb
      simp only[Option.some.injEq,Prod.mk.injEq]at h;obtain⟨rfl,rfl,rfl,rfl⟩:=h
      refine fun M ρ a w hH=>?_
      obtain⟨st,M',ρ',hq,hH'⟩:=g M ρ a w hH
      exact⟨st,M',ρ',by simp only[unw,blockQ,hb];exact hq,hH'⟩
   ·simp only[Option.some.injEq,Prod.mk.injEq]at h;obtain⟨rfl,rfl,rfl,rfl⟩:=h
    cases f<;>exact g
   ·cases h
def runM{P:Program}(T:Ty P)(n:Nat)(fl:Bool):Nat→Cur→List Frm→zi→Tab→Cur×List Frm×zi×Tab
 |0,cur,k,sl,tab=>(cur,k,sl,tab)
 |f+1,cur,k,sl,tab=>match stepM T n fl cur k sl tab with
  |some (cur',k',sl',tab')=>runM T n fl f cur' k' sl' tab'
  |none=>(cur,k,sl,tab)
theorem zI{P:Program}(T:Ty P){C:Ctx}(hC:C.low){n:Nat}(fl:Bool){Q:Exit→St→Prop}: ∀(f:Nat) {cur cur':Cur} {k k':List Frm} {sl sl':zi} {tab tab':Tab},
 runM T n fl f cur k sl tab=(cur',k',sl',tab')→Goal P C cur' k' n sl' tab' Q→Goal P C cur k n sl tab Q
 |0,cur,cur',k,k',sl,sl',tab,tab',h,g=>by
  simp only[runM,Prod.mk.injEq]at h;obtain⟨rfl,rfl,rfl,rfl⟩:=h;exact g
 |f+1,cur,cur',k,k',sl,sl',tab,tab',h,g=>by
  simp only[runM]at h
  split at h
  ·rename_i hs;exact zb1 T hC hs (zI T hC fl f h g)
  ·simp only[Prod.mk.injEq]at h;obtain⟨rfl,rfl,rfl,rfl⟩:=h;exact g
def enum:Nat→List S→zi
 |_,[]=>[]
 |k,s::ss=>(k,s)::enum (k+1) ss
def rvOf{P:Program}(T:Ty P)(st:St):ResultVar→Option S
 | .tmp t=>sg st.sl t
 | .cell a t=>match sg st.sl a with
   |some (.one (.bx id j))=>match tg st.tab id,T.sh t with
    |some (.box vs),some sh=>ofCells sh (vs.drop j)
    |_,_=>none
   |_=>none
def rvsOf{P:Program}(T:Ty P)(st:St):List ResultVar→Option (List S)
 | []=>some []
 |r::rs=>match rvOf T st r,rvsOf T st rs with
  |some s,some ss=>some (s::ss)
  |_,_=>none
def tupOf:List S→S
 | [s]=>s
 |ss=> .tup ss
def mR(σ:Nat→Nat)(tab:Tab):RL→Prop
 | []=>True
 |(i,r)::t=>tg tab (σ i)=some (r.ren σ)∧mR σ tab t
theorem zoM{σ:Nat→Nat}{tab:Tab}: ∀ {l:RL},mR σ tab l→ ∀ {i r},(i,r)∈l→tg tab (σ i)=some (r.ren σ)
 | [],_,_,_,h=>by cases h
 |(k0,s0)::r,h,k,s,hm=>by
  rcases List.mem_cons.1 hm with e|hm
  ·simp only[Prod.mk.injEq]at e;obtain⟨rfl,rfl⟩:=e;exact h.1
  ·exact zoM h.2 hm
def zq4{P:Program}(T:Ty P)(rv:List ResultVar)(R:RL)(res:S)(R':RL):Exit→St→Prop:=fun e st=>
 (e= .ret∨e= .normal)∧ ∃(σ:Nat→Nat) (ss:List S),rvsOf T st rv=some ss∧LeS (tupOf ss) (res.ren σ)∧mR σ st.tab R'∧injB σ R'.ids=true∧allB (fun i=>Nat.beq (σ i) i) R.ids=true
def ziK(_P:Program)(a:Act)(r:ResultVar):Sem Value:=match r with
 | .tmp t=>pure (a.tmps.getD t undef)
 | .cell x t=>do loadVar t (←asAddr (a.tmps.getD x undef))
theorem zlP{P:Program}(T:Ty P){C:Ctx}{st:St}{M:Mem}{ρ:Nat→Value}{a:Act}{w:World}(hH:Holds C st M ρ a w): ∀(rv:List ResultVar) (ss:List S),rvsOf T st rv=some ss→
 ∃vs:List Value,(rv.mapM (ziK P a)).run P w= .ok vs w∧RepSs M ρ ss vs
 | [],ss,h=>by simp[rvsOf]at h;subst h;exact⟨[],by simp,by simp only[RepSs]⟩
 |r::rs,ss,h=>by
  simp only[rvsOf]at h
  split at h
  ·rename_i s ss' h1 h2
   simp only[Option.some.injEq]at h;subst h
   obtain⟨vs,h3,h4⟩:=zlP T hH rs ss' h2
   have one: ∃v,(ziK P a r).run P w= .ok v w∧RepS M ρ s v:=by
    cases r with
    |tmp t=>exact⟨_,rfl,hH.slots t s h1⟩
    |cell x t=>
     simp only[rvOf]at h1
     split at h1
     ·rename_i id j hx
      split at h1
      ·rename_i us sh ht hs
       have e:=hH.slots x _ hx
       simp only[RepS,RepV]at e
       obtain⟨b,e1,e2⟩:=e
       obtain⟨b',cs,el,h5,h6,h7⟩:=hH.yn.res id _ ht
       rw[e1]at h5;simp at h5;subst h5
       obtain⟨u,hu,hr⟩:=yv (w:=w) (b:=b) (o:=j) (T.sh_ok _ _ hs) (h7.drop j) (fun i c hc=>by
        rw[List.getElem?_drop]at hc
        simp[World.cell?,h6,hc]) h1
       exact⟨u,by simp only[ziK,e2,Sem.run_bind,asAddr,Sem.run_pure,Result.andThen_ok,hu],hr⟩
      ·cases h1
     ·cases h1
   obtain⟨v,h5,h6⟩:=one
   refine⟨v::vs,?_,by simp only[RepSs];exact⟨h6,h4⟩⟩
   simp only[List.mapM_cons,Sem.run_bind,h5,Result.andThen_ok,h3,Sem.run_pure]
  ·cases h
theorem zgh{P:Program}(T:Ty P){fn:Func}{rv:List ResultVar}(hrv:fn.results=rv.toArray){C:Ctx}{st:St}{M:Mem}{ρ:Nat→Value}{a:Act}{w:World}(hH:Holds C st M ρ a w)
 {ss:List S} (h:rvsOf T st rv=some ss): ∃v,(results fn a.tmps).run P w= .ok v w∧RepS M ρ (tupOf ss) v:=by
 obtain⟨vs,h1,h2⟩:=zlP T hH rv ss h
 have hmA:(fn.results.mapM (ziK P a)).run P w= .ok vs.toArray w:=by
  rw[hrv,Array.mapM_eq_mapM_toList]
  simp only[Functor.map]
  have:=Sem.run_bind (P:=P) (w:=w) (rv.mapM (ziK P a)) (fun x=>(Sem.pure (List.toArray x)))
  exact this.trans (by rw[h1];rfl)
 have hres:(results fn a.tmps).run P w= .ok (if h:vs.toArray.size=1 then vs.toArray[0]else .tuple vs.toArray) w:=by
  unfold results
  simp only[Sem.run_bind]
  change (Sem.run P (Array.mapM (ziK P a) fn.results) w).andThen _=_
  rw[hmA]
  rfl
 refine⟨_,hres,?_⟩
 match ss,vs,h2 with
 | [],[],_=>simp only[tupOf,RepS];exact⟨[],by simp,by simp only[RepSs]⟩
 | [s],[v],h2=>simp only[RepSs]at h2;simpa [tupOf]using h2.1
 |s::s'::ss,v::v'::vs,h2=>
  simp only[tupOf,RepS]
  refine⟨v::v'::vs,?_,h2⟩
  rw[dif_neg (by simp)]
 | [],_::_,h2=>simp only[RepSs]at h2
 | [_],[],h2=>simp only[RepSs]at h2
 | [_],_::_::_,h2=>simp only[RepSs]at h2;exact h2.2.elim
 |_::_::_,[],h2=>simp only[RepSs]at h2
 |_::_::_,[_],h2=>simp only[RepSs]at h2;exact h2.2.elim
theorem zcJ{M:Mem}{ρ:Nat→Value}: ∀ {args:List S} {xs:List Value} {i:Nat} {n:Nat},RepSs M ρ args xs→ ∀ {k:Nat} {s:S},sg (enum i args) k=some s→
 i≤k∧RepS M ρ s ((xs.toArray++Array.replicate n undef).getD (k - i) undef)
 | [],xs,i,n,_,k,s,h=>by cases h
 |a::as,[],i,n,hr,_,_,_=>by simp only[RepSs]at hr
 |a::as,x::xs,i,n,hr,k,s,h=>by
  simp only[RepSs]at hr
  simp only[enum,y5]at h
  split at h
  ·rename_i e;subst e;simp only[Option.some.injEq]at h;subst h
   refine⟨Nat.le_refl _,?_⟩
   simp only[Nat.sub_self]
   have e0:((x::xs).toArray++Array.replicate n undef).getD 0 undef=x:=by simp[Array.getD]
   rw[e0];exact hr.1
  ·rename_i e
   obtain⟨h1,h2⟩:=zcJ (n:=n) hr.2 h
   refine⟨by omega,?_⟩
   have e3:k - i=(k - (i+1))+1:=by omega
   rw[e3]
   simp only[Array.getD_eq_getD_getElem?]at h2⊢
   have e4:((x::xs).toArray++Array.replicate n undef)[k - (i+1)+1]?=(xs.toArray++Array.replicate n undef)[k - (i+1)]?:=by
    rw[Array.getElem?_append,Array.getElem?_append]
    simp only[List.size_toArray,List.length_cons]
    by_cases hlt:k - (i+1)<xs.length
    ·rw[if_pos (by omega),if_pos hlt];simp
    ·rw[if_neg (by omega),if_neg hlt];congr 1;omega
   rw[e4];exact h2
theorem RepSs.length{M:Mem}{ρ:Nat→Value}: ∀ {x:List S} {v:List Value},RepSs M ρ x v→v.length=x.length
 | [],[],_=>rfl
 | [],_::_,h=>by simp only[RepSs]at h
 |_::_,[],h=>by simp only[RepSs]at h
 |x::xs,v::vs,h=>by simp only[RepSs]at h;simp[h.2.length]
theorem zs0{P:Program}(T:Ty P){f:FuncId}{fn:Func}{c:Code}{args:List S}{R R':RL}{res:S}{rv:List ResultVar}(hf:P.funcs[f]?=some fn)
 (hname:(fn.name== "runtime.NumGoroutine")=false) (hb:fn.body=some c) (hrv:fn.results=rv.toArray) (hlow:allB (fun i=>Nat.blt i 100) R.ids=true)
 (hn:Nat.ble args.length fn.ntmps=true) (body: ∀C:Ctx,C.low→Goal P C (.code c) [] fn.ntmps (enum 0 args) (tb R) (zq4 T rv R res R')):zj P f args R res R':=by
 refine⟨⟨fn,hf,hname,by rw[hb];rfl⟩,fun M ρ w xs hx hT hI hG=>?_⟩
 have hlen:=hx.length
 have hnn:args.length≤fn.ntmps:=Nat.le_of_ble_eq_true hn
 let C:Ctx:=⟨w,M,ρ,tb R,hG,fun p hp ⟨id,r,h1,h2⟩=>by
  obtain⟨v,hv⟩:=ztI p hp
  have:=hG.le _ _ _ hv
  rw[hT.own id r p.1 h1 h2 0]at this;cases this⟩
 have hC:C.low:=fun i r h=>by
  have:=xT hlow i (xe (xz h));simpa [Nat.blt_eq]using this
 have hH:Holds C ⟨fn.ntmps,enum 0 args,tb R⟩ M ρ { tmps:=xs.toArray++Array.replicate (fn.ntmps - xs.toArray.size) undef,defers:=[] } w:=by
  refine⟨rfl,by simp;omega,fun k s hk=>?_,hT,fun id r b h1 h2 h3=>h3.2 ⟨id,r,h1,h2⟩,⟨hI,fun _ _=>rfl,Nat.le_refl _,MLe.refl _,fun _ _ _ h=> .inl h,rfl,rfl,rfl⟩,fun _ _ _=>rfl⟩
  have:=(zcJ (n:=fn.ntmps - xs.toArray.size) hx hk).2
  simpa using this
 refine calls_of_wp hf hb (wp_mono (body C hC M ρ _ w hH) fun e a w' ⟨st,M',ρ',hq,hH'⟩=>?_)
 simp only[unw]at hq
 obtain⟨he,σ,ss,h1,h2,h3,h4,h5⟩:=hq
 obtain⟨v,hv,hrep⟩:=zgh T hrv hH' h1
 have frb: ∀b,¬C.fr b→w.heap.size≤b∨zb8 (tb R) ρ b:=fun b hb=>by
  rcases Nat.lt_or_ge b w.heap.size with h|h
  ·exact .inr (Classical.byContradiction fun hn=>hb ⟨h,hn⟩)
  ·exact .inl h
 have tk: ∀i r,tg (tb R') i=some r→tg st.tab (σ i)=some (r.ren σ):=fun i r h=>zoM h3 (xz h)
 have ti: ∀i r,tg (tb R') i=some r→i∈R'.ids:=fun i r h=>xe (xz h)
 have fin:a.defers=[]∧ ∃v,(results fn a.tmps).run P w'= .ok v w'∧ ∃v' M' ρ',Ending.returned v= .returned v'∧Ret M ρ w R res R' v' M' ρ' w':=by
  refine⟨hH'.dfr,v,hv,v,M',fun i=>ρ' (σ i),rfl,?_⟩
  refine⟨?_,⟨fun i r hr=>(hH'.yn.res _ _ (tk i r hr)).ren,?_,?_⟩,hH'.run.imm,hH'.run.base,fun b o u hu=>(hH'.run.newM b o u hu).imp id (frb b),?_,fun b hb hn=>hH'.run.fram b ⟨hb,hn⟩,
   hH'.run.size,hH'.run.os,hH'.run.tape,hH'.run.output,?_⟩
  ·exact(RepS.ren _ _).1 (h2 _ _ _ hrep)
  ·intro i j ri rj b e1 e2 hne hb1 hb2
   exact hH'.yn.dis _ _ _ _ b (tk i ri e1) (tk j rj e2) (w4 h4 i j (ti i ri e1) (ti j rj e2) hne) hb1 hb2
  ·intro i r b e1 hb;exact hH'.yn.own _ _ b (tk i r e1) hb
  ·rintro b ⟨i,r,e1,hb⟩;exact frb b (hH'.ownf _ _ b (tk i r e1) hb)
  ·intro id hid
   have e:=Nat.eq_of_beq_eq_true (xT h5 id hid)
   rw[e]
   obtain⟨r,hr⟩:=zlG hid
   exact hH'.keep id r hr
 rcases he with rfl|rfl<;>exact fin
end Hw
/- The engine, part I: rules at stops: tests, loops, indexes, sums, calls; what turns on the way. -/
namespace Hw
open Go
section
variable {P:Program} {C:Ctx} {k:List Frm} {n:Nat} {sl:zi} {tab:Tab} {Q:Exit→St→Prop} {all:Array Oper} {rest:List Oper}
theorem zg{e:Exit}(h:Q e ⟨n,sl,tab⟩):Goal P C (.fin e) [] n sl tab Q:=fun M ρ _ _ hH=>⟨_,M,ρ,h,hH⟩
theorem zP{c:Nat}{x y:Code}{b:Bool}(hc:sg sl c=some (.bq b))(ht:b=true→Goal P C (.code x) k n sl tab Q)(hf:b=false→Goal P C (.code y) k n sl tab Q):
 Goal P C (.code (.cond (.tmp c) x y)) k n sl tab Q:=by
 have key: ∀M ρ a w,Holds C ⟨n,sl,tab⟩ M ρ a w→Holds C ⟨n,(c,Bo b)::sl,tab⟩ M ρ a w:=fun M ρ a w h=>h.zqe rfl rfl fun j u hj=>by
  rw[y5]at hj
  split at hj
  ·rename_i e;subst e;simp only[Option.some.injEq]at hj;subst hj;exact LeS.bq rfl _ _ _ (h.slots _ _ hc)
  ·exact h.slots _ _ hj
 have back: ∀M ρ a w,Holds C ⟨n,(c,Bo b)::sl,tab⟩ M ρ a w→Holds C ⟨n,sl,tab⟩ M ρ a w:=fun M ρ a w h=>h.zqe rfl rfl fun j u hj=>by
  by_cases e:c=j
  ·subst e;rw[hc]at hj;simp only[Option.some.injEq]at hj;subst hj
   exact LeS.qb rfl _ _ _ (h.slots c _ (zaH _ _ _))
  ·exact h.slots j u (by rw[zbk e];exact hj)
 refine fun M ρ a w hH=>zhs (st:=⟨n,(c,Bo b)::sl,tab⟩) (b:=b) (by simp only[ev];exact zaH _ _ _) (fun h=>?_) (fun h=>?_) M ρ a w (key M ρ a w hH)
 ·exact fun M ρ a w hH=>ht h M ρ a w (back M ρ a w hH)
 ·exact fun M ρ a w hH=>hf h M ρ a w (back M ρ a w hH)
def rdT(tab:Tab):RL→RL
 | []=>[]
 |(k,_)::r=>match tg tab k with
  |some s=>(k,s)::rdT tab r
  |none=>[]
theorem zbI{n:Nat}{tab:Tab}{sl:zi}: ∀ {rs:RL},rdT tab rs=rs→okT rs ⟨n,sl,tab⟩
 | [],_=>trivial
 |(k,s)::r,h=>by
  simp only[rdT]at h
  split at h
  ·rename_i s' hs
   simp only[List.cons.injEq,Prod.mk.injEq,true_and]at h
   exact⟨by rw[←h.1];exact hs,zbI h.2⟩
  ·cases h
theorem ziY{d:Nat}{x:Operand}{l:List Operand}{ts:Array TypeId}{ty:TypeId}{ps:String}{af:Array Edge}{g0:Option (Nat×Bool)}{gs:zi}{md:Mode}(hC:C.low){f:FuncId}{args ss:List S}{first caps:List V}{res:S}
 (h:zj P f args [] res []) (hx:ev sl x=some (.one (.cl f first caps))) (hl:evs sl l=some ss) (ha:yJ (ones first++ss++ones caps) args) (hc:cloS [] res=true) (hm:metL all sl g0=some gs) (hd:Nat.blt d n=true)
 (g:Goal P C (.ops all rest (nx md ⟨some d,gs++(rq x (.one (.cl f first caps))++rqs l ss),[],[],res,[]⟩)) k n ((d,res)::sl) tab Q):
 Goal P C (.ops all (⟨some d,.call ⟨.value x,l.toArray,ts⟩,ty,ps,af,g0⟩::rest) md) k n sl tab Q:=by
 have e1:=zX (st:=⟨n,sl,tab⟩) hx
 have e2:=jl (st:=⟨n,sl,tab⟩) hl
 have:=zq hm (zqN (ty:=ty) (ps:=ps) (af:=af) (g:=g0) (d:=some d) (ts:=ts) h e1.1 e2.1 ha hc) (n:=n) (tab:=tab)
 exact yr (L:=⟨some d,gs++(rq x (.one (.cl f first caps))++rqs l ss),[],[],res,[]⟩) hC this.1 rfl ⟨by rw[zd,zd];exact⟨this.2,e1.2,e2.2⟩,trivial,rfl,hd⟩ g
theorem yh(T:Ty P){d:Nat}{x y:Operand}{t:TypeId}{ty:TypeId}{ps:String}{af:Array Edge}{g0:Option (Nat×Bool)}{gs:zi}{md:Mode}(hC:C.low){e:Nat}{rows:List (List PV)}{k0:IntKind}{i:Int}{row:List PV}{el:TypeId}
 (hx:ev sl x=some (.one (.p (.sl e rows)))) (hy:ev sl y=some (Kk k0 i)) (he:T.es t=some (el,e)) (h0:0≤i) (hi:rows[i.toNat]?=some row) (hm:metL all sl g0=some gs) (hd:Nat.blt d n=true)
 (g:Goal P C (.ops all rest (nx md ⟨some d,gs++(rq x (.one (.p (.sl e rows)))++rq y (Kk k0 i)),[],[],.one (.pi row 0),[]⟩)) k n ((d,.one (.pi row 0))::sl) tab Q):
 Goal P C (.ops all (⟨some d,.indexAddr t x y,ty,ps,af,g0⟩::rest) md) k n sl tab Q:=by
 have e1:=zX (st:=⟨n,sl,tab⟩) hx
 have e2:=zX (st:=⟨n,sl,tab⟩) hy
 have:=zq hm (ziC (ty:=ty) (ps:=ps) (af:=af) (g:=g0) (d:=some d) e1.1 e2.1 (T.es_ok _ _ he) h0 hi) (n:=n) (tab:=tab)
 exact yr (L:=⟨some d,gs++(rq x (.one (.p (.sl e rows)))++rq y (Kk k0 i)),[],[],.one (.pi row 0),[]⟩) hC this.1 rfl ⟨by rw[zd,zd];exact⟨this.2,e1.2,e2.2⟩,trivial,rfl,hd⟩ g
theorem wm(T:Ty P){d:Nat}{x y:Operand}{t:TypeId}{ty:TypeId}{ps:String}{af:Array Edge}{g0:Option (Nat×Bool)}{gs:zi}{md:Mode}(hC:C.low){s:ByteArray}{k0:IntKind}{i:Int}{c:UInt8}
 (hx:ev sl x=some (Sr s)) (hy:ev sl y=some (Kk k0 i)) (he:T.str t=true) (h0:0≤i) (hi:s[i.toNat]?=some c) (hm:metL all sl g0=some gs) (hd:Nat.blt d n=true)
 (g:Goal P C (.ops all rest (nx md ⟨some d,gs++(rq x (Sr s)++rq y (Kk k0 i)),[],[],Kk .u8 c.toNat,[]⟩)) k n ((d,Kk .u8 c.toNat)::sl) tab Q):
 Goal P C (.ops all (⟨some d,.index t x y,ty,ps,af,g0⟩::rest) md) k n sl tab Q:=by
 have e1:=zX (st:=⟨n,sl,tab⟩) hx
 have e2:=zX (st:=⟨n,sl,tab⟩) hy
 have:=zq hm (zge (ty:=ty) (ps:=ps) (af:=af) (g:=g0) (d:=some d) e1.1 e2.1 (T.str_ok _ he) h0 hi) (n:=n) (tab:=tab)
 exact yr (L:=⟨some d,gs++(rq x (Sr s)++rq y (Kk k0 i)),[],[],Kk .u8 c.toNat,[]⟩) hC this.1 rfl ⟨by rw[zd,zd];exact⟨this.2,e1.2,e2.2⟩,trivial,rfl,hd⟩ g
theorem ztS{cur:Cur}{sl':zi}{tab':Tab}(hm: ∀all rest p,cur≠ .ops all rest (some p))(h: ∀ {M ρ a w},Holds C ⟨n,sl,tab⟩ M ρ a w→ ∃M' ρ',Holds C ⟨n,sl',tab'⟩ M' ρ' a w)(g:Goal P C cur k n sl' tab' Q):
 Goal P C cur k n sl tab Q:=by
 cases cur with
 |code c=>exact fun M ρ a w hH=>let ⟨M',ρ',hH'⟩:=h hH;g M' ρ' a w hH'
 |ops a r md=>cases md with
  |none=>exact fun M ρ a w hH=>let ⟨M',ρ',hH'⟩:=h hH;g M' ρ' a w hH'
  |some p=>exact absurd rfl (hm a r p)
 |fin e=>exact fun M ρ a w hH=>let ⟨M',ρ',hH'⟩:=h hH;g M' ρ' a w hH'
theorem zsv{cur:Cur}{p:Prop}(hm: ∀all rest p,cur≠ .ops all rest (some p))(h: ∀ {M ρ a w},Holds C ⟨n,sl,tab⟩ M ρ a w→p)(g:p→Goal P C cur k n sl tab Q):Goal P C cur k n sl tab Q:=by
 cases cur with
 |code c=>exact fun M ρ a w hH=>g (h hH) M ρ a w hH
 |ops a r md=>cases md with
  |none=>exact fun M ρ a w hH=>g (h hH) M ρ a w hH
  |some q=>exact absurd rfl (hm a r q)
 |fin e=>exact fun M ρ a w hH=>g (h hH) M ρ a w hH
theorem ztT{t:Nat}{b:Bool}{M:Mem}{ρ:Nat→Value}{a:Act}{w:World}(ht:sg sl t=some (.bq b))(h:Holds C ⟨n,sl,tab⟩ M ρ a w):Holds C ⟨n,(t,Bo b)::sl,tab⟩ M ρ a w:=
 h.zqe rfl rfl fun j u hj=>by
  rw[y5]at hj
  split at hj
  ·rename_i e;subst e;simp only[Option.some.injEq]at hj;subst hj;exact LeS.bq rfl _ _ _ (h.slots _ _ ht)
  ·exact h.slots _ _ hj
theorem zlQ(t:Nat){b:Bool}(ht:sg sl t=some (.bq b))(g1:b=true→Goal P C (.ops all rest none) k n ((t,Bo true)::sl) tab Q)(g2:b=false→Goal P C (.ops all rest none) k n ((t,Bo false)::sl) tab Q):
 Goal P C (.ops all rest none) k n sl tab Q:=by
 intro M ρ a w hH
 have h:=ztT ht hH
 cases hb:b with
 |true=>rw[hb]at h;exact g1 hb M ρ a w h
 |false=>rw[hb]at h;exact g2 hb M ρ a w h
theorem zaZ{sl0:zi}{tab0:Tab}{t:Nat}{b:Bool}{rs:zi}{rt:RL}{fr:List Nat}{wt:Tab}{done:List Law}
 (g1:b=true→Goal P C (.ops all rest (some (sl0,tab0,⟨some t,rs,rt,fr,Bo true,wt⟩::done))) k n ((t,Bo true)::sl) tab Q)
 (g2:b=false→Goal P C (.ops all rest (some (sl0,tab0,⟨some t,rs,rt,fr,Bo false,wt⟩::done))) k n ((t,Bo false)::sl) tab Q):
 Goal P C (.ops all rest (some (sl0,tab0,⟨some t,rs,rt,fr,.bq b,wt⟩::done))) k n sl tab Q:=by
 intro hD hs ht hr
 have use: ∀c:Bool,b=c→Goal P C (.ops all rest (some (sl0,tab0,⟨some t,rs,rt,fr,Bo c,wt⟩::done))) k n ((t,Bo c)::sl) tab Q→
  ∀M ρ a w id,Holds C ⟨n,sl0,tab0⟩ M ρ a w→(Code.region id all true).wp P (lift C (unw P C k Q)) a w:=fun c e g=>by
  obtain⟨h1,o,h2,h3,h4,h5⟩:=hD
  refine g ⟨h1,o,h2,h3.sub (.bq e),h4,h5⟩ (fun j=>?_) (fun i=>ht i) hr
  have:=hs j
  rw[jL]at this⊢
  rw[y5]
  simp only[wr]at this⊢
  by_cases hj:t=j
  ·subst hj;simp
  ·simpa [hj,yK hj]using this
 cases hb:b with
 |true=>exact use true hb (g1 hb)
 |false=>exact use false hb (g2 hb)
theorem za0{o:Oper}{j:Nat}{want:Bool}{t:Nat}{b:Bool}(_hg:o.guard=some (j,want))(_ht:(all[j]?).bind (·.dst)=some t)(hs:sg sl t=some (.bq b))
 (g1:b=true→Goal P C (.ops all (o::rest) none) k n ((t,Bo true)::sl) tab Q) (g2:b=false→Goal P C (.ops all (o::rest) none) k n ((t,Bo false)::sl) tab Q):
 Goal P C (.ops all (o::rest) none) k n sl tab Q:=zlQ t hs g1 g2
theorem za1{o:Oper}{t:Nat}{x y:Operand}{b:Bool}(_ho:o.op= .pick (.tmp t) x y)(hs:sg sl t=some (.bq b))
 (g1:b=true→Goal P C (.ops all (o::rest) none) k n ((t,Bo true)::sl) tab Q) (g2:b=false→Goal P C (.ops all (o::rest) none) k n ((t,Bo false)::sl) tab Q):
 Goal P C (.ops all (o::rest) none) k n sl tab Q:=zlQ t hs g1 g2
theorem zsJ(T:Ty P)(hC:C.low)(fl:Bool)(f:Nat){cur cur1 cur':Cur}{k k1 k':List Frm}{sl sl1 sl':zi}{tab tab1 tab':Tab}
 (h1:stepM T n fl cur k sl tab=some (cur1,k1,sl1,tab1)) (h:runM T n fl f cur1 k1 sl1 tab1=(cur',k',sl',tab')) (g:Goal P C cur' k' n sl' tab' Q):Goal P C cur k n sl tab Q:=
 zb1 T hC h1 (zI T hC fl f h g)
theorem ziW(T:Ty P){rv:List ResultVar}{e:Exit}{b b':Bool}(he:e= .ret∨e= .normal)(hv:rvsOf T ⟨n,sl,tab⟩ rv=some [.bq b])(h:b=b'):Goal P C (.fin e) [] n sl tab (zq4 T rv [] (.bq b') []):=
 zg ⟨he,id,_,hv,.qq h,trivial,rfl,rfl⟩
theorem ziX(T:Ty P){rv:List ResultVar}{e:Exit}{b b':Bool}(he:e= .ret∨e= .normal)(hv:rvsOf T ⟨n,sl,tab⟩ rv=some [Bo b])(h:b=b'):Goal P C (.fin e) [] n sl tab (zq4 T rv [] (.bq b') []):=
 zg ⟨he,id,_,hv,.qb h,trivial,rfl,rfl⟩
theorem zq3(T:Ty P){rv:List ResultVar}{e:Exit}{b b':Int}(he:e= .ret∨e= .normal)(hv:rvsOf T ⟨n,sl,tab⟩ rv=some [I b])(h:b=b'):Goal P C (.fin e) [] n sl tab (zq4 T rv [] (I b') []):=
 zg ⟨he,id,_,hv,.of (by rw[h];rfl),trivial,rfl,rfl⟩
theorem w9{c:Code}(t:Nat){e:Nat}{rows:List (List PV)}(ht:sg sl t=some (.one (.p (.sl e rows))))(g:rows.length≤9223372036854775807→Goal P C (.code c) k n sl tab Q):Goal P C (.code c) k n sl tab Q:=
 fun M ρ a w h=>g (by
  have:=h.slots t _ ht
  simp only[RepS,RepV,RepPV]at this
  obtain⟨_,_,_,_,h3,_⟩:=this
  exact h3) M ρ a w h
def zhz{α:Type}(φ:α→Prop)(T:α→zi×Tab)(μ:α→Nat)(n m:Nat)(Q:Exit→St→Prop):Exit→St→Prop:=
 zsp (fun z:{y // φ y}=>⟨n,(T z.1).1,(T z.1).2⟩) (fun z=>μ z.1) m Q
theorem zy{α:Type}(φ:α→Prop)(T:α→zi×Tab)(μ:α→Nat){c:Code}(hC:C.low)(x:α)(hx:φ x)(σ:Nat→Nat)(h0:Matches σ ⟨n,sl,tab⟩ ⟨n,(T x).1,(T x).2⟩)
 (h: ∀y,φ y→Goal P C (.code c) [] n (T y).1 (T y).2 (zhz φ T μ n (μ y) (unw P C k Q))):Goal P C (.code (.loop c)) k n sl tab Q:=
 zsq (st:=⟨n,sl,tab⟩) (fun z:{y // φ y}=>⟨n,(T z.1).1,(T z.1).2⟩) (fun z=>μ z.1) hC ⟨x,hx⟩ σ h0 fun y=>h y.1 y.2
theorem zh{α:Type}{φ:α→Prop}{T:α→zi×Tab}{μ:α→Nat}{m:Nat}(y:α)(hy:φ y)(σ:Nat→Nat)(hμ:μ y<m)(hm:Matches σ ⟨n,sl,tab⟩ ⟨n,(T y).1,(T y).2⟩):
 Goal P C (.fin .normal) [] n sl tab (zhz φ T μ n m Q):=
 zg ⟨⟨y,hy⟩,σ,hμ,hm⟩
theorem zT{α:Type}{φ:α→Prop}{T:α→zi×Tab}{μ:α→Nat}{m:Nat}(g:Goal P C (.fin .ret) k n sl tab Q):Goal P C (.fin .ret) [] n sl tab (zhz φ T μ n m (unw P C k Q)):=g
theorem zp{α:Type}{φ:α→Prop}{T:α→zi×Tab}{μ:α→Nat}{m i:Nat}(g:Goal P C (.fin (.exit i)) k n sl tab Q):Goal P C (.fin (.exit i)) [] n sl tab (zhz φ T μ n m (unw P C k Q)):=g
end
end Hw