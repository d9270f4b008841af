import Derived.Test.YtolghpfockkldaaGreatDoorC1
import Derived.WideKeyMaps
import Derived.DeepKeys4
import Derived.Test.YtolghpfockkldaaGreatDoorE3
import Derived.Test.YtolghpfockkldaaGreatDoorProg
import Derived.KernelRfl
import Derived.Shelf.Strings.Fields
set_option linter.defProp false
set_option linter.unusedVariables false
set_option linter.unusedSimpArgs false
set_option linter.unusedSectionVars false
set_option linter.unnecessarySimpa false
namespace Hw
open Go Go.MapKept
structure zdr (P:Program) (kt:TypeId) (K:Type) where
 enc:K->Value
 s:K->S
 rep: ∀ {M:Mem} {ρ:Nat->Value} {k:K} {v:Value},RepS M ρ (s k) v->v=enc k
 inj: ∀ {a b:K},enc a=enc b->a=b
 check: ∀(w:World) (em:Bool) (k:K),(Instr.checkKey em 10000 kt (enc k)).run P w= .ok () w
 find: ∀(w:World) (k:K) (es:List MapEntry),(∀e∈es,∃k',e.key=enc k')->
  ((Instr.findKey kt (enc k) es).run P w= .ok none w/\ ∀e∈es,e.key≠enc k)\/ ∃j e,(Instr.findKey kt (enc k) es).run P w= .ok (some (j,e.val)) w/\es[j]?=some e/\e.key=enc k
 stays: ∀(w:World) (k:K),(Instr.keyThatStays (enc k) (enc k)).run P w= .ok (enc k) w
variable {P:Program}{kt:TypeId}
def zxK(h:P.underlying kt=some .string):zdr P kt ByteArray where
 enc:=λs=> .string s
 s:=Sr
 rep:=λ{M ρ k v} hr=>by simp only[RepS,RepV,RepPV]at hr;exact hr.1
 inj:=λe=>by simpa using e
 check:=λw em k=>run_checkKey h (by simp[IsKey]) em _
 find:=λw k es hes=>by
  rcases findNow_spec (d:= .string) (k:= .string k) (by simp[IsKey]) es 0 (λx hx=>by obtain⟨k',e⟩:=hes x hx;rw[e];simp[IsKey])with⟨h1,h2⟩|⟨j,e,h1,h2,h3⟩
  ·exact .inl ⟨run_findKey h h1,h2⟩
  ·exact .inr ⟨j,e,by rw[tM]at h1;exact run_findKey h h1,h2,h3⟩
 stays:=λw k=>run_keyThatStays (d:= .string) (by simp[IsKey])
def evS:EV->S
 | .o x=> .one (.p x)
 | .g row=> .agg (row.map V.p)
theorem zkc{M:Mem}{ρ:Nat->Value}: ∀ {row:List PV} {cs:List Value},RepVs M ρ (row.map V.p) cs↔RepPVl M row cs
 | [],[]=>by simp[RepVs,RepPVl]
 | [],_::_=>by simp[RepVs,RepPVl]
 |_::_,[]=>by simp[RepVs,RepPVl]
 |x::xs,c::cs=>by simp only[uN,RepVs,RepV,RepPVl,zkc (row:=xs)]
variable {M:Mem}{ρ:Nat->Value}
theorem zey{e:EV}{v:Value}:RepS M ρ (evS e) v↔RepEV M e v:=by
 cases e with
 |o x=>simp only[evS,RepS,RepV,RepEV]
 |g row=>simp only[evS,RepS,RepEV,zkc]
variable {K:Type}{κ:zdr P kt K}
section
variable [DecidableEq K]
def yn(κ:zdr P kt K)(l:List (K×EV)):List (Value×EV):=l.map λp=>(κ.enc p.1,p.2)
def getG:List (K×EV)->K->Option EV
 | [],_=>none
 |(a,b)::r,k=>if a=k then some b else getG r k
def putG:List (K×EV)->K->EV->List (K×EV)
 | [],k,v=>[(k,v)]
 |(a,b)::r,k,v=>if a=k then(k,v)::r else(a,b)::putG r k v
def zbp:List (K×EV)->K->List (K×EV)
 | [],_=>[]
 |(a,b)::r,k=>if a=k then r else(a,b)::zbp r k
theorem ju(l:List (K×EV))(k k':K)(v:EV):getG (putG l k v) k'=if k=k' then some v else getG l k':=by
 induction l with
 |nil=>simp[putG,getG]
 |cons x r ih=>
  obtain⟨a,b⟩:=x;simp only[putG];by_cases h:a=k
  ·subst h;simp only[uX,getG];split<;>rfl
  ·rw[ur h];simp only[getG,ih]
   grind
theorem zbJ{κ:zdr P kt K}{M:Mem}: ∀ {l:List (K×EV)} {ms:List MapEntry},EntsG M (yn κ l) ms->ms.map (·.key)=l.map λp=>κ.enc p.1
 | [],[],_=>rfl
 | [],_::_,h=>by simp[yn,EntsG]at h
 |_::_,[],h=>by simp[yn,EntsG]at h
 |(a,b)::l,m::ms,h=>by
  have J:m.key=κ.enc a/\RepEV M b m.val/\EntsG M (yn κ l) ms:=by simpa only[yn,uN,EntsG]using h
  simp only[uN,J.1,zbJ J.2.2]
def zds{l:List (K×EV)}{ms:List MapEntry}(h:EntsG M (yn κ l) ms): ∀e∈ms,∃k',e.key=κ.enc k':=λe J=>by
 have:e.key∈ms.map (·.key):=qe.2 ⟨e,J,rfl⟩;rw[zbJ h]at this
 grind
theorem zab{κ:zdr P kt K}{M:Mem}{k:K}: ∀ {l:List (K×EV)} {ms:List MapEntry},EntsG M (yn κ l) ms->(∀e∈ms,e.key≠κ.enc k)->getG l k=none/\(∀v,putG l k v=l++[(k,v)])/\zbp l k=l
 | [],_,_,_=>⟨rfl,λ_=>rfl,rfl⟩
 |_::_,[],h,_=>by simp[yn,EntsG]at h
 |(a,b)::l,m::ms,h,hn=>by
  have J:m.key=κ.enc a/\RepEV M b m.val/\EntsG M (yn κ l) ms:=by simpa only[yn,uN,EntsG]using h
  have e: ¬a=k:=λe=>hn m ue (by rw[J.1,e])
  obtain⟨U,h2,h3⟩:=zab J.2.2 λe he=>hn e (u3 _ he)
  exact⟨by simp only[getG,ur e,U],λv=>by simp only[putG,ur e,h2 v,uL],by simp only[zbp,ur e,h3]⟩
theorem zdt{κ:zdr P kt K}{M:Mem}{k:K}{e:MapEntry}: ∀ {l:List (K×EV)} {ms:List MapEntry} {j:Nat},EntsG M (yn κ l) ms->((yn κ l).map (·.1)).Nodup->ms[j]?=some e->e.key=κ.enc k->
 (∃x,getG l k=some x/\RepEV M x e.val)/\(∀v c,RepEV M v c->EntsG M (yn κ (putG l k v)) (ms.modify j λe=>{ e with key:=κ.enc k,val:=c })/\((yn κ (putG l k v)).map (·.1))=(yn κ l).map (·.1))/\EntsG M (yn κ (zbp l k)) (ms.eraseIdx j)/\((yn κ (zbp l k)).map (·.1)).Sublist ((yn κ l).map (·.1))
 | [],[],_,_,_,hj,_=>by simp at hj
 | [],_::_,_,h,_,_,_=>by simp[yn,EntsG]at h
 |_::_,[],_,h,_,_,_=>by simp_all
 |(a,b)::l,m::ms,j,h,hnd,hj,hk=>by
  have h':m.key=κ.enc a/\RepEV M b m.val/\EntsG M (yn κ l) ms:=by simpa only[yn,uN,EntsG]using h
  have J:κ.enc a∉(yn κ l).map (·.1)/\((yn κ l).map (·.1)).Nodup:=by simpa only[yn,uN,qk]using hnd
  cases j with
  |zero=>
   simp only[List.getElem?_cons_zero,ui]at hj;subst hj;have e:a=k:=κ.inj (h'.1.symm.trans hk);subst e;refine⟨⟨b,by simp only[getG,uX],h'.2.1⟩,λv c hc=>⟨?_,?_⟩,?_,?_⟩
   ·simp only[putG,uX,yn,uN,EntsG,Uc];exact⟨uh,hc,by simpa only[yn]using h'.2.2⟩
   ·simp only[putG,uX,yn,uN]
   ·simp only[zbp,uX,List.eraseIdx_zero,List.tail_cons];exact h'.2.2
   ·simp only[zbp,uX,yn,uN];simp_all
  |succ j=>
   simp only[uZ]at hj
   have ne: ¬a=k:=λe=>by
    subst e;have U:e.key∈ms.map (·.key):=qe.2 ⟨e,uv hj,rfl⟩;rw[zbJ h'.2.2]at U
    apply J.1
    rw[<-hk];simpa only[yn,q7,Function.comp_def]using U
   obtain⟨⟨x,h1,h2⟩,h3,h4,h5⟩:=zdt h'.2.2 J.2 hj hk;refine⟨⟨x,by simp only[getG,ur ne,h1],h2⟩,λv c hc=>⟨?_,?_⟩,?_,?_⟩
   ·have:=(h3 v c hc).1;simp only[putG,ur ne,yn,uN,EntsG,Ud]at this⊢
    simp_all
   ·have:=(h3 v c hc).2;simp only[putG,ur ne,yn,uN]at this⊢;rw[this]
   ·simp only[zbp,ur ne,List.eraseIdx_cons_succ,yn,uN,EntsG]at h4⊢
    simp_all
   ·simp only[zbp,ur ne,yn,uN]at h5⊢
    simp_all
theorem EntsG.append{M:Mem}: ∀ {a b:List (Value×EV)} {x y:List MapEntry},EntsG M a x->EntsG M b y->EntsG M (a++b) (x++y)
 | [],_,[],_,_,h=>by simpa using h
 | [],_,_::_,_,h,_=>by simp only[EntsG]at h
 |_::_,_,[],_,h,_=>by simp only[EntsG]at h
 |(p,q)::a,_,x::xs,_,h,h'=>by
  simp only[EntsG,uL]at h⊢;exact⟨h.1,h.2.1,h.2.2.append h'⟩
end
variable {af:Array Edge}{d:Option Nat}{k0:K}{ps:String}
section
variable [DecidableEq K] {ty:TypeId} {g:Option (Nat×Bool)} {x y u:Operand} {t et:TypeId}
def zi3{id:Nat}:Snd P ⟨d,.makeMap t none,ty,ps,af,g⟩ [] [] [id] (.one (.mp id)) [(id,some (.mpg []))]:=by
 intro C st M ρ a w hH h1 hT hF hd k Q hk
 have J:(execOp a.eval ⟨d,.makeMap t none,ty,ps,af,g⟩).run P w= .ok (.value (.map (some w.heap.size))) (w.alloc (.map #[] 0)):=by
  simp[execOp,Instr.makeMap]
 unfold Oper.wp;rw[J,Oper.upon_value]
 refine hk _ _ M _ (hH.alloc (val:= .map (some w.heap.size)) (λb U=>by simp only[Bk,blk,ui]at U;exact U.symm) hF.1
  ⟨w.heap.size,#[],0,zx _ _ _,zT w _,by simp[EntsG],ue,ue,ue⟩ (by simp only[RepS,RepV];exact⟨(zx _ _ _).symm,rfl⟩) hd)
def zez{id:Nat}{l:List (K×EV)}{ok:Bool}{c0:Value}{z:EV}(hx:okc x (.one (.mp id)))(hy:okc y (κ.s k0))(hu:P.underlying t=some (.map kt et))(J:(P.info? et).bind (·.zero)=some c0)(h0: ∀M,RepEV M z c0):
 Snd P ⟨d,.lookup t x y ok,ty,ps,af,g⟩ (rq x (.one (.mp id))++rq y (κ.s k0)) [(id,.mpg (yn κ l))] []
  (if ok then .tup [evS ((getG l k0).getD z),.bq (getG l k0).isSome]else evS ((getG l k0).getD z)) []:=
 zk λC st M ρ a w hH h1 ht=>by
  rw[za]at h1;have e1:=hH.evS (zt hx h1.1);have e2:=κ.rep (hH.evS (zt hy h1.2));simp only[RepS,RepV]at e1;obtain⟨r,ms,cl,h2,h3,h4,h5,h6,h7⟩:=hH.zH.res id _ ht.1;have U:a.eval x= .map (some r):=e1.1.trans h2
  have hz1:(zeroValue et).run P w= .ok c0 w:=by
   cases hi:P.info? et with
   |none=>rw[hi]at J;cases J
   |some i=>rw[hi]at J;simp only[ql]at J;simp[zeroValue,typeInfo,hi,J]
  rcases κ.find w k0 ms.toList (zds h4)with⟨g1,g2⟩|⟨j,e,g1,g2,g3⟩
  ·obtain⟨g4,_,_⟩:=zab h4 g2;refine⟨if ok then .tuple #[c0,.bool false]else c0,?_,?_⟩
   ·simp[execOp,U,e2,Instr.lookup,run_underlying hu,run_getObj_map h3,κ.check,g1,hz1,Result.andThen]
   ·cases ok
    ·simp only[uB,uM,g4,ow];exact zey.2 (h0 M)
    ·simp only[uX,g4,ow,Option.isSome_none,RepS];exact⟨[c0,.bool false],rfl,by simp only[RepSs,RepS];exact⟨zey.2 (h0 M),trivial,uh⟩⟩
  ·obtain⟨⟨x,g4,g5⟩,_⟩:=zdt h4 h7 g2 g3;refine⟨if ok then .tuple #[e.val,.bool true]else e.val,?_,?_⟩
   ·simp[execOp,U,e2,Instr.lookup,run_underlying hu,run_getObj_map h3,κ.check,g1,Result.andThen]
   ·cases ok
    ·simp only[uB,uM,g4,Option.getD_some];exact zey.2 g5
    ·simp only[uX,g4,Option.getD_some,Option.isSome_some,RepS];exact⟨[e.val,.bool true],rfl,by simp only[RepSs,RepS];exact⟨zey.2 g5,trivial,uh⟩⟩
theorem zi4{l:List (K×EV)}{v:EV}(h:((yn κ l).map (·.1)).Nodup):((yn κ (putG l k0 v)).map (·.1)).Nodup:=by
 have key: ∀(l:List (K×EV)),∀q,q∈(yn κ (putG l k0 v)).map (·.1)->q=κ.enc k0\/q∈(yn κ l).map (·.1):=λl=>by
  induction l with
  |nil=>intro q J;simp only[putG,yn,uN,qv,tv]at J;exact .inl J
  |cons p l U=>
   obtain⟨a,b⟩:=p;intro q J;simp only[putG]at J;by_cases e:a=k0
   ·subst e;rw[uw rfl]at J;simp only[yn,uN,uI]at J⊢;rcases J with h|h
    ·exact .inl h
    ·exact .inr (.inr h)
   ·rw[ur e]at J;simp only[yn,uN,uI]at J⊢;rcases J with h|h
    ·exact .inr (.inl h)
    ·rcases U q (by simpa only[yn]using h)with h|h
     ·exact .inl h
     ·exact .inr (.inr (by simpa only[yn]using h))
 induction l with
 |nil=>simp[putG,yn]
 |cons p l U=>
  obtain⟨a,b⟩:=p;have h':κ.enc a∉(yn κ l).map (·.1)/\((yn κ l).map (·.1)).Nodup:=by simpa only[yn,uN,qk]using h
  simp only[putG];by_cases e:a=k0
  ·subst e;rw[uw rfl];simpa only[yn,uN,qk]using h
  ·rw[ur e]
   have hn:κ.enc a∉(yn κ (putG l k0 v)).map (·.1):=λhm=>by
    rcases key l _ hm with h|h
    ·exact e (κ.inj h)
    ·exact h'.1 h
   have:=U h'.2;simp only[yn,uN,qk]at hn this⊢
   grind
def za1{id:Nat}{l:List (K×EV)}{v:EV}(hx:okc x (.one (.mp id)))(hy:okc y (κ.s k0))(hv:okc u (evS v))(hu:P.underlying t=some (.map kt et)):
 Snd P ⟨d,.mapUpdate t x y u,ty,ps,af,g⟩ (rq x (.one (.mp id))++rq y (κ.s k0)++rq u (evS v)) [(id,.mpg (yn κ l))] [] .un [(id,some (.mpg (yn κ (putG l k0 v))))]:=by
 intro C st M ρ a w hH h1 hT hF hd k Q hk;rw[za,za]at h1;have e1:=hH.evS (zt hx h1.1.1);have e2:=κ.rep (hH.evS (zt hy h1.1.2));have e3:=zey.1 (hH.evS (zt hv h1.2));simp only[RepS,RepV]at e1;obtain⟨r,ms,cl,h2,h3,h4,h5,hnd,hnk⟩:=hH.zH.res id _ hT.1;have hex:a.eval x= .map (some r):=e1.1.trans h2
 have fin: ∀(ms':Array MapEntry) (cl':Nat),(execOp a.eval ⟨d,.mapUpdate t x y u,ty,ps,af,g⟩).run P w= .ok .skip { w with heap:=w.heap.setIfInBounds r (.map ms' cl') }->
  EntsG M (yn κ (putG l k0 v)) ms'.toList->(∀m∈ms',m.born<cl')->(ms'.toList.map (·.born)).Nodup->Oper.wp P ⟨d,.mapUpdate t x y u,ty,ps,af,g⟩ a w k Q:=λms' cl' hrun g1 U g3=>by
  unfold Oper.wp;rw[hrun,Oper.upon_skip];have J:=heap_set (o':= .map ms' cl') h3;refine hk _ _ M ρ (hH.turn (id:=id) hT.1 (λb hb=>J.2 b λe=>hb (by rw[h2,e];rfl)) ue rfl rfl rfl ⟨r,ms',cl',h2,J.1,g1,U,g3,zi4 hnk⟩ (by simp only[RepS]) hd)
 rcases κ.find w k0 ms.toList (zds h4)with⟨g1,U⟩|⟨j,m',g1,U,g3⟩
 ·obtain⟨_,g5,_⟩:=zab h4 U;refine fin (ms.push { key:=κ.enc k0,val:=a.eval u,born:=cl }) (cl+1) ?_ ?_ ?_ ?_
  ·simp[execOp,hex,e2,Instr.mapUpdate,run_underlying hu,run_getObj_map h3,κ.check,g1,run_setObj_map _ h3,Result.andThen]
  ·rw[g5 v];simp only[yn,u6,Array.toList_push];refine EntsG.append (by simpa only[yn]using h4) ?_;simp only[uN,qv,EntsG]
   simp_all
  ·grind
  grind
 ·have g4':ms[j]?=some m':=by simpa using U
  refine fin (ms.modify j λe=>{ e with key:=κ.enc k0,val:=a.eval u }) cl ?_ ?_ ?_ ?_
  ·simp[execOp,hex,e2,Instr.mapUpdate,run_underlying hu,run_getObj_map h3,κ.check,g1,run_setObj_map _ h3,Result.andThen,g4',g3,κ.stays]
  ·have:=((zdt h4 hnk U g3).2.1 v (a.eval u) e3).1;simpa using this
  ·intro m hm;obtain⟨i,hi,rfl⟩:=Ue.1 hm
   grind
  ·have e:((ms.modify j λe=>{ e with key:=κ.enc k0,val:=a.eval u }).toList.map (·.born))=ms.toList.map (·.born):=by
    rw[Array.toList_modify]
    apply List.ext_getElem?
    intro i;rw[uK,Un,uK];cases ms.toList[i]? with
    |none=>rfl
    |some m=>simp only[uH];by_cases h:j=i<;>simp[h]
   rw[e];exact hnd
def zkd{id:Nat}{l:List (K×EV)}{t2:TypeId}(hx:okc x (.one (.mp id)))(hy:okc y (κ.s k0))(hu:P.underlying t=some (.map kt et)):
 Snd P ⟨d,.call ⟨.builtin .delete,#[x,y],#[t,t2]⟩,ty,ps,af,g⟩ (rq x (.one (.mp id))++rq y (κ.s k0)) [(id,.mpg (yn κ l))] [] .un [(id,some (.mpg (yn κ (zbp l k0))))]:=by
 intro C st M ρ a w hH h1 hT hF hd k Q hk;rw[za]at h1;have e1:=hH.evS (zt hx h1.1);have e2:=κ.rep (hH.evS (zt hy h1.2));simp only[RepS,RepV]at e1;obtain⟨r,ms,cl,h2,h3,h4,h5,hnd,U⟩:=hH.zH.res id _ hT.1;have hex:a.eval x= .map (some r):=e1.1.trans h2
 have fin: ∀(ms':Array MapEntry),(execOp a.eval ⟨d,.call ⟨.builtin .delete,#[x,y],#[t,t2]⟩,ty,ps,af,g⟩).run P w= .ok (.value (.tuple #[])) { w with heap:=w.heap.setIfInBounds r (.map ms' cl) }->
  EntsG M (yn κ (zbp l k0)) ms'.toList->ms'.toList.Sublist ms.toList->((yn κ (zbp l k0)).map (·.1)).Nodup->Oper.wp P ⟨d,.call ⟨.builtin .delete,#[x,y],#[t,t2]⟩,ty,ps,af,g⟩ a w k Q:=λms' hrun g1 g2 g3=>by
  unfold Oper.wp;rw[hrun,Oper.upon_value];have J:=heap_set (o':= .map ms' cl) h3;refine hk _ _ M ρ (hH.turn (id:=id) hT.1 (λb hb=>J.2 b λe=>hb (by rw[h2,e];rfl)) ue rfl rfl rfl ⟨r,ms',cl,h2,J.1,g1,λm hm=>h5 m (by simpa using g2.subset (by simpa using hm)),(g2.map _).nodup hnd,g3⟩ (by simp only[RepS]) hd)
 rcases κ.find w k0 ms.toList (zds h4)with⟨g1,g2⟩|⟨j,m',g1,g2,g3⟩
 ·obtain⟨_,_,g6⟩:=zab h4 g2;refine fin ms ?_ (by rw[g6];exact h4) (List.Sublist.refl _) (by rw[g6];exact U);simp[execOp,resolve,invoke,builtin,Builtin.delete_,hex,e2,run_underlying hu,run_getObj_map h3,κ.check,g1,run_setObj_map _ h3,Result.andThen]
 ·have hj:j<ms.size:=by
   have:=(ux.1 g2).1;simpa using this
  obtain⟨_,_,g4,g5⟩:=zdt h4 U g2 g3
  have el:(ms.eraseIdxIfInBounds j).toList=ms.toList.eraseIdx j:=by
   unfold Array.eraseIdxIfInBounds;rw[oB hj,Array.toList_eraseIdx]
  refine fin (ms.eraseIdxIfInBounds j) ?_ (by rw[el];exact g4) (by grind) (g5.nodup U);simp[execOp,resolve,invoke,builtin,Builtin.delete_,hex,e2,run_underlying hu,run_getObj_map h3,κ.check,g1,run_setObj_map _ h3,Result.andThen]
def znO{id:Nat}{es:List (Value×EV)}(hx:okc x (.one (.mp id)))(hu:P.underlying t=some (.map kt et)):
 Snd P ⟨d,.call ⟨.builtin .clear,#[x],#[t]⟩,ty,ps,af,g⟩ (rq x (.one (.mp id))) [(id,.mpg es)] [] .un [(id,some (.mpg []))]:=by
 intro C st M ρ a w hH h1 hT hF hd k Q hk;have e1:=hH.evS (zt hx h1);simp only[RepS,RepV]at e1;obtain⟨r,ms,cl,h2,h3,h4,h5,hnd,hnk⟩:=hH.zH.res id _ hT.1;have hex:a.eval x= .map (some r):=e1.1.trans h2
 have U:(execOp a.eval ⟨d,.call ⟨.builtin .clear,#[x],#[t]⟩,ty,ps,af,g⟩).run P w= .ok (.value (.tuple #[])) { w with heap:=w.heap.setIfInBounds r (.map #[] cl) }:=by
  simp[execOp,resolve,invoke,builtin,Builtin.clear_,hex,run_underlying hu,run_getObj_map h3,run_setObj_map _ h3,Result.andThen]
 unfold Oper.wp;rw[U,Oper.upon_value];have J:=heap_set (o':= .map #[] cl) h3;refine hk _ _ M ρ (hH.turn (id:=id) hT.1 (λb hb=>J.2 b λe=>hb (by rw[h2,e];rfl)) ue rfl rfl rfl ⟨r,#[],cl,h2,J.1,by simp[EntsG],ue,ue,ue⟩ (by simp only[RepS]) hd)
end
variable {g0:Option (Nat×Bool)}{gs:zd}{md:Mode}{pv:EV}
section
variable {C:Ctx} {k:List Frm} {n:Nat} {sl:zd} {tab:Tab} {Q:Exit->St->Prop} {all:Array Oper} {rest:List Oper} [DecidableEq K]
def zdu(κ:zdr P kt K){d:Nat}{t ty:TypeId}(hC:C.low)
 (J:metL all sl g0=some gs) (U:Nat.blt d n=true) (hf:freshB (1000+d) ⟨n,sl,tab⟩=true)
 (g:Goal P C (.ops all rest (nx md ⟨some d,gs,[],[1000+d],.one (.mp (1000+d)),[(1000+d,some (.mpg (yn κ [])))]⟩)) k n ((d,.one (.mp (1000+d)))::sl) ((1000+d,some (.mpg (yn κ [])))::tab) Q):
 Goal P C (.ops all (⟨some d,.makeMap t none,ty,ps,af,g0⟩::rest) md) k n sl tab Q:=by
 have:=zj J (zi3 (P:=P) (ty:=ty) (ps:=ps) (af:=af) (g:=g0) (d:=some d) (t:=t) (id:=1000+d)) (n:=n) (tab:=tab);simp only[uV]at this;refine zN (L:=⟨some d,gs,[],[1000+d],.one (.mp (1000+d)),[(1000+d,some (.mpg (yn κ [])))]⟩) hC this.1 rfl ⟨this.2,trivial,?_,U⟩ g;simp only[allB,hf,qh];rw[Nat.ble_eq];omega
def yz(κ:zdr P kt K){d:Nat}{x y:Operand}{t et ty:TypeId}(hC:C.low){id:Nat}{l:List (K×EV)}{c0:Value}(z:EV){b:Bool}
 (J:ev sl x=some (.one (.mp id))) (U:ev sl y=some (κ.s k0)) (hT:tg tab id=some (.mpg (yn κ l))) (hu:P.underlying t=some (.map kt et)) (hz:(P.info? et).bind (·.zero)=some c0) (h0: ∀M,RepEV M z c0)
 (hv:(getG l k0).getD z=pv) (hs:(getG l k0).isSome=b) (hm:metL all sl g0=some gs) (hd:Nat.blt d n=true)
 (g:Goal P C (.ops all rest (nx md ⟨some d,gs++(rq x (.one (.mp id))++rq y (κ.s k0)),[(id,.mpg (yn κ l))],[],.tup [evS pv,.bq b],[]⟩)) k n ((d,.tup [evS pv,.bq b])::sl) tab Q):
 Goal P C (.ops all (⟨some d,.lookup t x y true,ty,ps,af,g0⟩::rest) md) k n sl tab Q:=by
 subst hv;subst hs;have e1:=zu (st:=⟨n,sl,tab⟩) J;have e2:=zu (st:=⟨n,sl,tab⟩) U;have:=zj hm (zez (P:=P) (ty:=ty) (ps:=ps) (af:=af) (g:=g0) (d:=some d) (ok:=true) (l:=l) e1.1 e2.1 hu hz h0) (n:=n) (tab:=tab);exact zN (L:=⟨some d,gs++(rq x (.one (.mp id))++rq y (κ.s k0)),[(id,.mpg (yn κ l))],[],.tup [evS ((getG l k0).getD z),.bq (getG l k0).isSome],[]⟩) hC this.1 rfl ⟨by rw[za,za];simp_all,⟨hT,uh⟩,rfl,hd⟩ g
def vo(κ:zdr P kt K){d:Nat}{x y:Operand}{t et ty:TypeId}(hC:C.low){id:Nat}{l:List (K×EV)}{c0:Value}(z:EV)
 (J:ev sl x=some (.one (.mp id))) (U:ev sl y=some (κ.s k0)) (hT:tg tab id=some (.mpg (yn κ l))) (hu:P.underlying t=some (.map kt et)) (hz:(P.info? et).bind (·.zero)=some c0) (h0: ∀M,RepEV M z c0)
 (hv:(getG l k0).getD z=pv) (hm:metL all sl g0=some gs) (hd:Nat.blt d n=true)
 (g:Goal P C (.ops all rest (nx md ⟨some d,gs++(rq x (.one (.mp id))++rq y (κ.s k0)),[(id,.mpg (yn κ l))],[],evS pv,[]⟩)) k n ((d,evS pv)::sl) tab Q):
 Goal P C (.ops all (⟨some d,.lookup t x y false,ty,ps,af,g0⟩::rest) md) k n sl tab Q:=by
 subst hv;have e1:=zu (st:=⟨n,sl,tab⟩) J;have e2:=zu (st:=⟨n,sl,tab⟩) U;have:=zj hm (zez (P:=P) (ty:=ty) (ps:=ps) (af:=af) (g:=g0) (d:=some d) (ok:=false) (l:=l) e1.1 e2.1 hu hz h0) (n:=n) (tab:=tab);exact zN (L:=⟨some d,gs++(rq x (.one (.mp id))++rq y (κ.s k0)),[(id,.mpg (yn κ l))],[],evS ((getG l k0).getD z),[]⟩) hC this.1 rfl ⟨by rw[za,za];simp_all,⟨hT,uh⟩,rfl,hd⟩ g
def zcL(κ:zdr P kt K){x y u:Operand}{t et ty:TypeId}(hC:C.low){id:Nat}{l l':List (K×EV)}
 (J:ev sl x=some (.one (.mp id))) (U:ev sl y=some (κ.s k0)) (hw:ev sl u=some (evS pv)) (hT:tg tab id=some (.mpg (yn κ l))) (hu:P.underlying t=some (.map kt et))
 (hv:putG l k0 pv=l') (hm:metL all sl g0=some gs)
 (g:Goal P C (.ops all rest (nx md ⟨none,gs++(rq x (.one (.mp id))++rq y (κ.s k0)++rq u (evS pv)),[(id,.mpg (yn κ l))],[],.un,[(id,some (.mpg (yn κ l')))]⟩)) k n sl ((id,some (.mpg (yn κ l')))::tab) Q):
 Goal P C (.ops all (⟨none,.mapUpdate t x y u,ty,ps,af,g0⟩::rest) md) k n sl tab Q:=by
 subst hv;have e1:=zu (st:=⟨n,sl,tab⟩) J;have e2:=zu (st:=⟨n,sl,tab⟩) U;have e3:=zu (st:=⟨n,sl,tab⟩) hw;have:=zj hm (za1 (P:=P) (ty:=ty) (ps:=ps) (af:=af) (g:=g0) (d:=none) (l:=l) e1.1 e2.1 e3.1 hu) (n:=n) (tab:=tab);exact zN (L:=⟨none,gs++(rq x (.one (.mp id))++rq y (κ.s k0)++rq u (evS pv)),[(id,.mpg (yn κ l))],[],.un,[(id,some (.mpg (yn κ (putG l k0 pv))))]⟩) hC this.1 rfl ⟨by rw[za,za,za];simp_all,⟨hT,uh⟩,rfl,rfl⟩ g
def ztM(κ:zdr P kt K){x y:Operand}{t t2 et ty:TypeId}(hC:C.low){id:Nat}{l l':List (K×EV)}
 (J:ev sl x=some (.one (.mp id))) (U:ev sl y=some (κ.s k0)) (hT:tg tab id=some (.mpg (yn κ l))) (hu:P.underlying t=some (.map kt et))
 (hv:zbp l k0=l') (hm:metL all sl g0=some gs) (hd:dok d n=true)
 (g:Goal P C (.ops all rest (nx md ⟨d,gs++(rq x (.one (.mp id))++rq y (κ.s k0)),[(id,.mpg (yn κ l))],[],.un,[(id,some (.mpg (yn κ l')))]⟩)) k n (app d .un [(id,some (.mpg (yn κ l')))] ⟨n,sl,tab⟩).sl ((id,some (.mpg (yn κ l')))::tab) Q):
 Goal P C (.ops all (⟨d,.call ⟨.builtin .delete,#[x,y],#[t,t2]⟩,ty,ps,af,g0⟩::rest) md) k n sl tab Q:=by
 subst hv;have e1:=zu (st:=⟨n,sl,tab⟩) J;have e2:=zu (st:=⟨n,sl,tab⟩) U;have:=zj hm (zkd (P:=P) (ty:=ty) (ps:=ps) (af:=af) (g:=g0) (d:=d) (t2:=t2) (l:=l) e1.1 e2.1 hu) (n:=n) (tab:=tab);exact zN (L:=⟨d,gs++(rq x (.one (.mp id))++rq y (κ.s k0)),[(id,.mpg (yn κ l))],[],.un,[(id,some (.mpg (yn κ (zbp l k0))))]⟩) hC this.1 rfl ⟨by rw[za,za];simp_all,⟨hT,uh⟩,rfl,hd⟩ g
end
end Hw
namespace Hw.Gm
open Go Go.Proofs Hw.M
abbrev K2:=Fin 1000000×Fin 1000000
def zpK(i:Nat)(nd:Int):Option K2:=if h:i<1000000/\0<=nd/\nd<1000000 then some (⟨i,h.1⟩,⟨nd.toNat,ua⟩)else none
structure Kn where
 kn:List (K2×EV)
 bu:List (K2×EV)
inductive Bn where
 |ok (v:Int) (k:Kn)
 |flt (e:Int) (k:Kn)
 |out
def Bn.bind:Bn->(Int->Kn->Bn)->Bn
 | .ok v k,f=>f v k
 | .flt e k,_=> .flt e k
 | .out,_=> .out
def bdI(n:Int)(k:Kn):Bn:=if n< -1099511627776\/1099511627776<n then .flt 5 k else .ok n k
def zke(n:Int):Prop:= -9223372036854775808<n/\n<9223372036854775808
instance (n:Int):Decidable (zke n):=inferInstanceAs (Decidable (_/\_))
def znP(a b:Int)(k:Kn):Bn:=if zke a/\zke b then(if a.natAbs*b.natAbs>1099511627776 then .flt 5 k else .ok (a*b) k)else .out
def zjV(op a b:Int)(k:Kn):Bn:=
 if op=9 then bdI (IntKind.i64.wrap (a+b)) k else if op=10 then bdI (IntKind.i64.wrap (a - b)) k
 else if op=11 then znP a b k
 else if op=22 then .ok (if a<b then b else a) k else if op=23 then .ok (if b<a then b else a) k
 else if op=14 then .ok (zcJ (decide (a=b))) k else if op=15 then .ok (zcJ (!decide (a=b))) k
 else if op=16 then .ok (zcJ (decide (a<b))) k else if op=17 then .ok (zcJ (decide (a<=b))) k
 else if b=0 then .flt 18 k else if op=12 then bdI (IntKind.i64.wrap (Int.tdiv a b)) k else .ok (Int.tmod a b) k
def zpL(d:zg)(s:Str):Option Nat:=d.measures.findIdx? λm=>decide (m.n=s)
def namI(d:zg)(m:Hp)(nd:Int)(s:Str)(k:Kn):Bn:=if s=(⟨#[116,104,105,115]⟩:UB)then .ok nd k else match ixF d.globals s with
 |none=> .out
 |some i=>match m.g[i]? with
  |none=> .out
  |some v=> .ok v k
def fldI(d:zg)(m:Hp)(v:Int)(s:Str)(k:Kn):Bn:=if v=0 then .flt 17 k else if v<0 then .out else match m.n[(v - 1).toNat]? with
 |none=> .out
 |some x=>if x.t<0 then .out else match d.types[x.t.toNat]? with
  |none=> .out
  |some t=>match ixF t.f s with
   |none=> .out
   |some i=>match x.f[i]? with
    |none=> .out
    |some u=> .ok u k
def zi5(v:Int):Int:=if v<1 then 0 else Nat.log2 v.toNat
def lkI(l:List (K2×EV))(q:K2):Option (Option Int):=match getG l q with
 |none=>some none
 |some (.o (.k (.int .i64 v)))=>some (some v)
 |some _=>none
def lkB(l:List (K2×EV))(q:K2):Option Bool:=match getG l q with
 |none=>some false
 |some (.o (.k (.bool b)))=>some b
 |some _=>none
variable {q:K2}
def znQ{l:List (K2×EV)}{v:Int}(h:lkI l q=some (some v)):getG l q=some (.o (ki v)):=by
 unfold lkI at h
 grind
def znR{l:List (K2×EV)}(h:lkI l q=some none):getG l q=none:=by
 unfold lkI at h
 grind
def zq3{l:List (K2×EV)}{b:Bool}(h:lkB l q=some b):(getG l q).getD (.o (.k (.bool false)))= .o (.k (.bool b)):=by
 unfold lkB at h
 grind
mutual
def inV(d:zg)(m:Hp):Nat->Int->Ex->Kn->Bn
 |0,_,_,_=> .out
 |g+1,nd,e,k=>
  if e.op=1\/e.op=2 then .ok e.n k else if e.op=3 then .ok 0 k
  else if e.op=4 then namI d m nd e.s k
  else if e.op=5 then(atV d m g nd e 0 k).bind λv k=>fldI d m v e.s k
  else if e.op=7 then(match zpL d e.s with
   |none=> .out
   |some i=>(atV d m g nd e 0 k).bind λv k=>meV d m g i v k)
  else if e.op=8 then(atV d m g nd e 0 k).bind λv k=>bdI (IntKind.i64.wrap (-v)) k
  else if e.op=18 then(atV d m g nd e 0 k).bind λv k=> .ok (IntKind.i64.wrap (1 - v)) k
  else if e.op=24 then(atV d m g nd e 0 k).bind λv k=>if v<9223372036854775808 then .ok (zi5 v) k else .out
  else if e.op=19 then(atV d m g nd e 0 k).bind λv k=>if v=0 then .ok 0 k else atV d m g nd e 1 k
  else if e.op=20 then(atV d m g nd e 0 k).bind λv k=>if v=0 then atV d m g nd e 1 k else .ok 1 k
  else if e.op=21 then(atV d m g nd e 0 k).bind λv k=>if v=0 then atV d m g nd e 2 k else atV d m g nd e 1 k
  else(atV d m g nd e 0 k).bind λa k=>(atV d m g nd e 1 k).bind λb k=>zjV e.op a b k
def atV(d:zg)(m:Hp):Nat->Int->Ex->Nat->Kn->Bn
 |0,_,_,_,_=> .out
 |g+1,nd,e,i,k=>match e.l[i]? with
  |none=> .out
  |some x=>inV d m g nd x k
def meV(d:zg)(m:Hp):Nat->Nat->Int->Kn->Bn
 |0,_,_,_=> .out
 |g+1,i,nd,k=>match d.measures[i]? with
  |none=> .out
  |some x=>if nd=0 then .ok x.z k else match zpK i nd with
   |none=> .out
   |some q=>match lkI k.kn q with
    |none=> .out
    |some (some v)=> .ok v k
    |some none=>match lkB k.bu q with
     |none=> .out
     |some true=> .flt 16 k
     |some false=>(inV d m g nd x.x { k with bu:=putG k.bu q (.o (.k (.bool true))) }).bind λv k=> .ok v ⟨putG k.kn q (.o (ki v)),zbp k.bu q⟩
end
end Hw.Gm
namespace Hw
open Go
variable {L:List (List (List PV))}{M:Mem}{q:Nat}{rs:List (List PV)}{w:World}{ρ:Nat->Value}
def zac{id e:Nat}(h:zF M ρ w id (.bag e L))(hq:L[q]?=some rs){v:Value}{xs:List Value}(hx:ρ id= .tuple xs.toArray)(hv:xs[q]?=some v):v7 M w v e rs:=by
 obtain⟨cs,h2,_,hc,_⟩:=h
 grind
variable {P:Program}{af:Array Edge}{el t:TypeId}{g:Option (Nat×Bool)}{i:Int}{kk:Nat}{ps:String}{sh:Option Nat}{x:Operand}
section
variable {d:Option Nat} {ty:TypeId} {y:Operand}
def zf5{id e:Nat}{k:IntKind}(hx:okc x (.one (.nv id q)))(hy:okc y (Kk k i))(hq:L[q]?=some rs)(h:elemSz P t=some (el,e))(h0:0<=i)(hi:i<rs.length):
 Snd P ⟨d,.indexAddr t x y,ty,ps,af,g⟩ (rq x (.one (.nv id q))++rq y (Kk k i)) [(id,.bag e L)] [] (.one (.np id q (i.toNat*e))) []:=
 zk λC st M ρ a w hH h1 ht=>by
  rw[za]at h1;have e1:=hH.evS (zt hx h1.1);have e2:=hH.k (zt hy h1.2);simp only[RepS,RepV]at e1;obtain⟨xs,f1,f2,_⟩:=e1;obtain⟨a',cap,h3,h4,h5,U⟩:=zac (hH.zH.res id _ ht.1) hq f1 f2;obtain⟨ii,hu,J,hsz⟩:=zw h;rcases U with⟨U,h7⟩|⟨b,o,arr,el',fz,U,_⟩
  ·subst h7;omega
  ·subst U;refine⟨.pointer (some ⟨b,o+i.toNat*e,none⟩),?_,by simp only[RepS,RepV];simp_all⟩;simp only[execOp,h3,e2,Instr.indexAt,asIntOf,Sem.run_bind,Sem.run_pure,Result.andThen_ok,run_underlying hu];rw[uw ⟨h0,hi⟩];simp only[Sem.run_bind,Sem.run_pure,Result.andThen_ok,run_sizeOf J,ye,hsz]
def zi6{id e:Nat}{vs:List PV}{s:Option Nat}{v:S}(hx:okc x (.one (.np id q kk)))(hq:L[q]?=some rs)(h:shp P t=some s)
 (hvs: ∀j p,vs[j]?=some p->rs.flatten[kk+j]?=some p) (hv:ofCells s (vs.map V.p)=some v):
 Snd P ⟨d,.load t x,ty,ps,af,g⟩ (rq x (.one (.np id q kk))) [(id,.bag e L)] [] v []:=
 zk λC st M ρ a w hH h1 ht=>by
  have e1:=hH.evS (zt hx h1);simp only[RepS,RepV]at e1;obtain⟨xs,b,o,m,cap,f1,f2,e2⟩:=e1;obtain⟨a',cap',h3,h4,h5,J⟩:=zac (hH.zH.res id _ ht.1) hq f1 f2;simp only[Value.slice.injEq]at h3;rcases J with⟨J,_⟩|⟨b',o',arr,el,fz,J,h7,h7',h8,h9⟩
  ·simp_all
  ·rw[J]at h3;have hb:b=b'/\o=o':=by have:=h3.1;simp at this;exact this
   obtain⟨rfl,rfl⟩:=hb;obtain⟨us,g1,_,g3⟩:=h9.cells (ρ:=ρ)
   obtain⟨ds,k9,U⟩:=wy (M:=M) (ρ:=ρ) (vs:=vs.map V.p) (g:=λj=>arr[o+(kk+j)]?) λj u hj=>by
    rw[uK,uR]at hj;obtain⟨p,hp,rfl⟩:=hj;obtain⟨c,hc,hr⟩:=xf g1 (m:=kk+j) (v:= .p p) (by grind)
    simp_all
   obtain⟨u,hu,hr⟩:=yo (w:=w) (b:=b) (o:=o+kk) h k9 (λq c hc=>by
    have:=U q c hc;simp only[<-qF]at this
    simp[World.cell?,h7,this]) hv
   exact⟨u,by simp only[execOp,e2,Sem.run_bind,Instr.loadAt,Instr.sureAddr,Sem.run_pure,Result.andThen_ok,hu],hr⟩
def zf6{id e:Nat}{rs':List (List PV)}{us:List PV}{s:S}(hx:okc x (.one (.np id q kk)))(hy:okc y s)(h:shp P t=some sh)(hc:cellsOf s=some (us.map V.p))(hl:us.length=sh.getD 1)
 (hq:L[q]?=some rs) (hrl:rs'.length=rs.length) (hre: ∀r∈rs',r.length=e) (hb:kk+us.length<=rs.length*e)
 (hn: ∀m p,rs'.flatten[m]?=some p->(kk<=m/\us[m - kk]?=some p)\/((m<kk\/kk+us.length<=m)/\rs.flatten[m]?=some p)):
 Snd P ⟨d,.store t x y,ty,ps,af,g⟩ (rq x (.one (.np id q kk))++rq y s) [(id,.bag e L)] [] .un [(id,some (.bag e (L.set q rs')))]:=by
 intro C st M ρ a w hH h1 ht _ hd k Q hk;rw[za]at h1;have e0:=hH.evS (zt hx h1.1);have ey:=yH hc (hH.evS (zt hy h1.2));simp only[RepS,RepV]at e0;obtain⟨xs,b,o,m,cap,f1,f2,e2⟩:=e0;obtain⟨cs,g1,gn,gc,gap⟩:=hH.zH.res id _ ht.1;have f1':=f1;rw[g1]at f1;simp only[Value.tuple.injEq]at f1;have f3:xs=cs:=by have:=u5 Array.toList f1;simpa using this.symm
 subst f3;obtain⟨c0,c1,c2⟩:=gc q _ hq;rw[f2]at c1;obtain rfl:=uY c1;obtain⟨ai,capi,i1,i2,i3,i6⟩:=c2;simp only[Value.slice.injEq]at i1;rcases i6 with⟨i6,_⟩|⟨b',o',arr,el,fz,i6,i7,i7',i8,i9⟩
 ·simp_all
 rw[i6]at i1;have hbo:b=b'/\o=o':=by have:=i1.1;simp at this;exact this
 obtain⟨rfl,rfl⟩:=hbo;have hm:m=rs.length:=i1.2.1;have hcp:cap=capi:=i1.2.2;subst hm;subst hcp;obtain⟨ii,hinf,hs⟩:=zad h;have J:(a.eval y).cells.toList.length=us.length:=by rw[ey.length,uk]
 have hie:rs.length*e<=cap*e:=tD e i2;have hst:=zO (P:=P) b (o+kk) el fz (a.eval y).cells.toList 0 arr w i7 i7' (by rw[J];omega) ey.one
 have hrun:(execOp a.eval ⟨d,.store t x y,ty,ps,af,g⟩).run P w= .ok .skip (w.setRow b (setAt arr.toList (o+kk) (a.eval y).cells.toList).toArray):=by
  have U: ¬((a.eval y).cells.size≠ii.size):=by rw[hs,<-hl,<-J];simp
  simp only[execOp,e2,Instr.storeAt,Instr.sureAddr,Sem.run_bind,Sem.run_pure,Result.andThen_ok,storeVar,run_sizeOf hinf,ur U];simp only[hst,Result.andThen_ok,qj]
 unfold Oper.wp;rw[hrun,Oper.upon_skip];have hcsl:o+kk+(a.eval y).cells.toList.length<=arr.toList.length:=by rw[J];simp;omega
 have U:(setAt arr.toList (o+kk) (a.eval y).cells.toList).toArray.size=arr.size:=by simp[yk _ _ _ hcsl]
 have hget: ∀m:Nat,(setAt arr.toList (o+kk) (a.eval y).cells.toList).toArray[o+m]?=if o+m<o+kk then arr[o+m]? else if o+m<o+kk+us.length then(a.eval y).cells.toList[o+m - (o+kk)]? else arr[o+m]?:=λm=>by
  rw[tq,yD _ _ _ _ ua,J];simp
 generalize hW:setAt arr.toList (o+kk) (a.eval y).cells.toList=narr at*;have hoB: ∀k:Nat,k≠b->(w.setRow b narr.toArray).heap[k]?=w.heap[k]?:=λk hk=>setRow_other w b k _ hk
 have hnB:(w.setRow b narr.toArray).heap[b]?=some (.cells narr.toArray el fz):=setRow_heap w b _ _ el _ i7
 -- the array anew
 have hinner:v7 M (w.setRow b narr.toArray) (.slice (some ⟨b,o,none⟩) rs.length cap) e rs':=by
  refine⟨some ⟨b,o,none⟩,cap,by rw[hrl],ua,i3,.inr ⟨b,o,narr.toArray,el,fz,rfl,hnB,by rw[U];exact i7',by rw[U];exact i8,?_⟩⟩;obtain⟨u1,u2,_,u4⟩:=i9.cells (ρ:=ρ)
  obtain⟨ds,k9,k10⟩:=wy (M:=M) (ρ:=ρ) (vs:=rs'.flatten.map V.p) (g:=λj=>narr.toArray[o+j]?) λj v hj=>by
   rw[uK,uR]at hj;obtain⟨p,hp,rfl⟩:=hj;rcases hn j p hp with⟨n1,n2⟩|⟨n1,n2⟩
   ·have hlt:j - kk<us.length:=(ux.1 n2).1;obtain⟨c,v1,v2⟩:=xf ey (m:=j - kk) (v:= .p p) (by rw[uK,n2];rfl);refine⟨c,?_,v2⟩;rw[hget,ur ua,uw ua,<-v1];congr 1;omega
   ·obtain⟨c,v1,v2⟩:=xf u2 (m:=j) (v:= .p p) (by rw[uK,n2];rfl);refine⟨c,?_,v2⟩;rw[hget];rcases n1 with n1|n1
    ·rw[uw ua];exact u4 _ c v1
    ·rw[ur ua,ur ua];exact u4 _ c v1
  exact RowsIn.yv (ρ:=ρ) hre k9 λj c hc=>k10 j c hc
 have hblk:blk (.slice (some ⟨b,o,none⟩) rs.length cap)=some b:=rfl
 have hap2: ∀j c,j≠q->xs[j]?=some c-> ∀b2,blk c=some b2->b2≠b:=λj c hne hj b2 hb2 e=>by
  subst e;exact gap j q b2 c _ hj f2 hne hb2 hblk
 refine hk _ _ M ρ (hH.turn ht.1 (λk hk=>hoB k λe=>hk (by rw[e,g1];exact zkf f2 hblk)) ue rfl rfl rfl
  ⟨xs,g1,by simp_all,λj p hj=>?_,gap⟩ (by simp only[RepS]) hd)
 rw[qU]at hj;split at hj
 ·simp_all
 ·rename_i hjq;obtain⟨c,v1,v2⟩:=gc j p hj;exact⟨c,v1,v2.world λb2 hb2=>hoB b2 (hap2 j c (λe=>hjq e.symm) v1 b2 hb2)⟩
end
variable {C:Ctx}{Q:Exit->St->Prop}{all:Array Oper}{d:Nat}{g0:Option (Nat×Bool)}{gs:zd}{k0:IntKind}{md:Mode}{rest:List Oper}{tab:Tab}
section
variable {k:List Frm} {n:Nat} {sl:zd}
def zpM(T:Ty P){y:Operand}{ty:TypeId}(hC:C.low){id e:Nat}
 (J:ev sl x=some (.one (.nv id q))) (U:ev sl y=some (Kk k0 i)) (hT:tg tab id=some (.bag e L)) (hq:L[q]?=some rs) (he:T.es t=some (el,e)) (h0:0<=i) (hi:i<rs.length) (hm:metL all sl g0=some gs) (hd:Nat.blt d n=true)
 (g:Goal P C (.ops all rest (nx md ⟨some d,gs++(rq x (.one (.nv id q))++rq y (Kk k0 i)),[(id,.bag e L)],[],.one (.np id q (i.toNat*e)),[]⟩)) k n ((d,.one (.np id q (i.toNat*e)))::sl) tab Q):
 Goal P C (.ops all (⟨some d,.indexAddr t x y,ty,ps,af,g0⟩::rest) md) k n sl tab Q:=by
 have e1:=zu (st:=⟨n,sl,tab⟩) J;have e2:=zu (st:=⟨n,sl,tab⟩) U;have:=zj hm (zf5 (e:=e) (L:=L) (ty:=ty) (ps:=ps) (af:=af) (g:=g0) (d:=some d) e1.1 e2.1 hq (T.es_ok _ _ he) h0 hi) (n:=n) (tab:=tab);exact zN (L:=⟨some d,gs++(rq x (.one (.nv id q))++rq y (Kk k0 i)),[(id,.bag e L)],[],.one (.np id q (i.toNat*e)),[]⟩) hC this.1 rfl ⟨by rw[za,za];simp_all,⟨hT,uh⟩,rfl,hd⟩ g
def zq4(T:Ty P){ty:TypeId}(hC:C.low){id e:Nat}(vs:List PV){s:Option Nat}{v:S}
 (hx:ev sl x=some (.one (.np id q kk))) (hT:tg tab id=some (.bag e L)) (hq:L[q]?=some rs) (J:T.sh t=some s) (U: ∀j p,vs[j]?=some p->rs.flatten[kk+j]?=some p) (hv:ofCells s (vs.map V.p)=some v) (hm:metL all sl g0=some gs) (hd:Nat.blt d n=true)
 (g:Goal P C (.ops all rest (nx md ⟨some d,gs++rq x (.one (.np id q kk)),[(id,.bag e L)],[],v,[]⟩)) k n ((d,v)::sl) tab Q):
 Goal P C (.ops all (⟨some d,.load t x,ty,ps,af,g0⟩::rest) md) k n sl tab Q:=by
 have e1:=zu (st:=⟨n,sl,tab⟩) hx;have:=zj hm (zi6 (e:=e) (L:=L) (ty:=ty) (ps:=ps) (af:=af) (g:=g0) (d:=some d) e1.1 hq (T.sh_ok _ _ J) U hv) (n:=n) (tab:=tab);exact zN (L:=⟨some d,gs++rq x (.one (.np id q kk)),[(id,.bag e L)],[],v,[]⟩) hC this.1 rfl ⟨by rw[za];simp_all,⟨hT,uh⟩,rfl,hd⟩ g
def znS(T:Ty P){y:Operand}{ty:TypeId}(hC:C.low){id e:Nat}(rs':List (List PV)){us:List PV}{s:S}
 (hx:ev sl x=some (.one (.np id q kk))) (hy:ev sl y=some s) (hT:tg tab id=some (.bag e L)) (J:T.sh t=some sh) (hc:cellsOf s=some (us.map V.p)) (hl:us.length=sh.getD 1)
 (hq:L[q]?=some rs) (U:rs'.length=rs.length) (hre: ∀r∈rs',r.length=e) (hb:kk+us.length<=rs.length*e)
 (hn: ∀m p,rs'.flatten[m]?=some p->(kk<=m/\us[m - kk]?=some p)\/((m<kk\/kk+us.length<=m)/\rs.flatten[m]?=some p)) (hm:metL all sl g0=some gs)
 (g:Goal P C (.ops all rest (nx md ⟨none,gs++(rq x (.one (.np id q kk))++rq y s),[(id,.bag e L)],[],.un,[(id,some (.bag e (L.set q rs')))]⟩)) k n sl ((id,some (.bag e (L.set q rs')))::tab) Q):
 Goal P C (.ops all (⟨none,.store t x y,ty,ps,af,g0⟩::rest) md) k n sl tab Q:=by
 have e1:=zu (st:=⟨n,sl,tab⟩) hx;have e2:=zu (st:=⟨n,sl,tab⟩) hy;have:=zj hm (zf6 (ty:=ty) (ps:=ps) (af:=af) (g:=g0) (d:=none) e1.1 e2.1 (T.sh_ok _ _ J) hc hl hq U hre hb hn) (n:=n) (tab:=tab);exact zN (L:=⟨none,gs++(rq x (.one (.np id q kk))++rq y s),[(id,.bag e L)],[],.un,[(id,some (.bag e (L.set q rs')))]⟩) hC this.1 rfl ⟨by rw[za,za];simp_all,⟨hT,uh⟩,rfl,rfl⟩ g
end
def RwV(F:(Nat->Value)->Prop)(v v':V):Prop:= ∀M ρ x,F ρ->RepV M ρ v x->RepV M ρ v' x
def znT(F:(Nat->Value)->Prop)(v v':List V):Prop:= ∀M ρ x,F ρ->RepVs M ρ v x->RepVs M ρ v' x
def RwS(F:(Nat->Value)->Prop)(v v':S):Prop:= ∀M ρ x,F ρ->RepS M ρ v x->RepS M ρ v' x
def RwR(F:(Nat->Value)->Prop)(r r':Res):Prop:= ∀M ρ w i,F ρ->zF M ρ w i r->zF M ρ w i r'
variable {F:(Nat->Value)->Prop}
def RwV.refl(v:V):RwV F v v:=λ_ _ _ _ h=>h
def znT.nil:znT F [] []:=λ_ _ _ _ h=>h
def znT.refl(v:List V):znT F v v:=λ_ _ _ _ h=>h
theorem znT.cons{v v':V}{vs vs':List V}(h:RwV F v v')(U:znT F vs vs'):znT F (v::vs) (v'::vs'):=λM ρ x hf J=>by
 cases x with
 |nil=>simp only[RepVs]at J
 |cons c cs=>simp only[RepVs]at J ⊢; exact⟨h _ _ _ hf J.1,U _ _ _ hf J.2⟩
def RwS.refl(v:S):RwS F v v:=λ_ _ _ _ h=>h
theorem RwS.one{v v':V}(h:RwV F v v'):RwS F (.one v) (.one v'):=λM ρ x hf J=>by simp only[RepS]at J ⊢; exact h _ _ _ hf J
theorem RwS.agg{v v':List V}(h:znT F v v'):RwS F (.agg v) (.agg v'):=λM ρ x hf J=>by
 simp only[RepS]at J ⊢; obtain⟨cs,U,h2⟩:=J;exact⟨cs,U,h _ _ _ hf h2⟩
def RwR.refl(r:Res):RwR F r r:=λ_ _ _ _ _ h=>h
theorem RwR.box{vs vs':List V}(h:znT F vs vs'):RwR F (.box vs) (.box vs'):=λ_ _ _ _ J ⟨b,cs,el,U,e2,e3⟩=>⟨b,cs,el,U,e2,h _ _ _ J e3⟩
theorem RwR.vw{ids ids':List Nat}{e:Nat}{rows rows':List (List PC)}(hl:rows'.length=rows.length)(U: ∀r∈rows',r.length=e)
 (h: ∀(j:Nat) (J:PC),rows'.flatten[j]?=some J-> ∃x,rows.flatten[j]?=some x/\RwV F (toV ids x) (toV ids' J)):RwR F (.vw ids e rows) (.vw ids' e rows'):=λM ρ w i hF hr=>by
 obtain⟨a,cap,h1,h2,h3,_,h4⟩:=hr;refine⟨a,cap,by rw[hl];exact h1,ua,h3,U,?_⟩;rcases h4 with h4|⟨b,o,cs,el,fz,h5,h6,h6',h7,h8⟩
 ·exact .inl h4
 ·refine .inr ⟨b,o,cs,el,fz,h5,h6,h6',h7,λj J hj=>?_⟩;obtain⟨x,hx,hv⟩:=h j J hj;obtain⟨c,c1,c2⟩:=h8 j x hx;exact⟨c,c1,hv _ _ _ hF c2⟩
def upW(F:(Nat->Value)->Prop)(olds news:List Nat)(tab:Tab):List (Nat×Res)->Prop
 | []=>True
 |(i,r')::l=>(∃r,tg tab i=some r/\((hasB i olds||hasB i news)=false/\RwR F r r'))/\upW F olds news tab l
theorem zpN{F:(Nat->Value)->Prop}{olds news:List Nat}{tab b:Tab}: ∀ {ups:List (Nat×Res)},upW F olds news tab ups-> ∀ {k:Nat} {r:Res},tg (znB ups++b) k=some r->
 tg b k=some r\/ ∃J,tg tab k=some J/\k∉olds/\k∉news/\RwR F J r
 | [],_,k,r,h=> .inl h
 |(t,s')::l,hu,k,r,h=>by
  simp only[znB,uL,zy]at h;split at h
  ·rename_i e;subst e;simp only[ui]at h;subst h;obtain⟨J,h1,h2,h3⟩:=hu.1;simp only[u0]at h2;have n1:t∉olds:=λU=>by have:=zbq U;rw[h2.1]at this;cases this
   have n2:t∉news:=λU=>by have:=zbq U;rw[h2.2]at this;cases this
   simp_all
  ·exact zpN hu.2 h
structure ztN (M:Mem) (ρ ρ':Nat->Value) (w:World) (tab:Tab) (olds:List Nat) (news:RL):Prop where
 agr: ∀i,i∉news.ids->ρ' i=ρ i
 res: ∀i r,tg (tb news) i=some r->zF M ρ' w i r
 blk: ∀i r b,tg (tb news) i=some r->Bk (ρ' i) b-> ∃j s,j∈olds/\tg tab j=some s/\Bk (ρ j) b
 dis: ∀i j ri rj b,tg (tb news) i=some ri->tg (tb news) j=some rj->i≠j->Bk (ρ' i) b->Bk (ρ' j) b->False
variable {b:Tab}
theorem zeA{l:RL}{i:Nat}{r:Res}(h:tg (tb l++b) i=some r):tg (tb l) i=some r\/(i∉l.ids/\tg b i=some r):=by
 induction l with
 |nil=>exact .inr ⟨by simp[RL.ids],h⟩
 |cons x l U=>
  obtain⟨j,s⟩:=x;simp only[tb,uL,zy]at h⊢;split at h
  ·simp_all
  ·rename_i e;rw[ur e];rcases U h with J|⟨J,h2⟩
   ·exact .inl J
   ·exact .inr ⟨by simp only[RL.ids,uI,oX];grind,h2⟩
variable {cur:Cur}
section
variable {k:List Frm} {n:Nat} {sl:zd}
def zhD(hC:C.low)(hc:lst cur=true)(olds:List Nat)(news:RL)(F:(Nat->Value)->Prop)(hf:allB (λid=>Nat.ble 100 id&&freshB id ⟨n,sl,tab⟩) news.ids=true)
 (hmk: ∀ {M ρ w},xY M ρ w tab-> ∃ρ',F ρ'/\ztN M ρ ρ' w tab olds news)
 (ups:zd) (hS:upS (RwS F) sl ups) (bs:List (Nat×Res)) (hB:upW F olds news.ids tab bs) (g:Goal P C cur k n (ups++sl) (znB bs++(tb news++(xp olds++tab))) Q):Goal P C cur k n sl tab Q:=by
 refine zeB hc (λ{M ρ a w} h=>?_) g;obtain⟨ρ',hF,hR⟩:=hmk h.zH
 have fresh: ∀i∈news.ids,wv C i ⟨n,sl,tab⟩:=λi J=>by
  have:=zE hf i J;simp only[um]at this;exact vq this.2 (hC.none (uS this.1))
 have hX:zdv (λi=>i∈news.ids) ρ ρ':=λi J=>hR.agr i J
 have hsl: ∀k s,sg sl k=some s->RepS M ρ' s (a.tmps.getD k undef):=λk s hk=>RepS.agree hX _ _ (λi J=>(fresh i J).1 k s hk) (h.slots k s hk)
 have hold: ∀i r,tg tab i=some r->zF M ρ' w i r:=λi r J=>
  (h.zH.res i r J).agree hX (λhm=>((fresh i hm).2.1 i r J).1 rfl) (λj hj=>((fresh j hj).2.1 i r J).2)
 have nn: ∀i r,tg tab i=some r->i∉news.ids:=λi r J hm=>((fresh i hm).2.1 i r J).1 rfl
 -- what an entry of the new table is
 have htab: ∀i r,tg (znB bs++(tb news++(xp olds++tab))) i=some r->(i∈news.ids/\tg (tb news) i=some r)\/(i∉olds/\i∉news.ids/\ ∃r0,tg tab i=some r0/\(r=r0\/RwR F r0 r)):=λi r J=>by
  rcases zpN hB J with U|⟨r0,U,h2,h3,h4⟩
  ·rcases zeA U with h2|⟨h2,h3⟩
   ·exact .inl ⟨zL (zK h2),h2⟩
   ·have:=zf7 h3;exact .inr ⟨this.1,h2,r,this.2,.inl rfl⟩
  ·exact .inr ⟨h2,h3,r0,U,.inr h4⟩
 have bkold: ∀i,i∉news.ids-> ∀b,Bk (ρ' i) b->Bk (ρ i) b:=λi J b hb=>by rw[hR.agr i J]at hb;exact hb
 have cross: ∀i j ri b,tg (tb news) i=some ri->j∉olds->j∉news.ids->(∃rj,tg tab j=some rj)->Bk (ρ' i) b->Bk (ρ' j) b->False:=λi j ri b J hjo hjn ⟨rj,hj⟩ hbi hbj=>by
  obtain⟨q,s,hq,hs,hbq⟩:=hR.blk i ri b J hbi;exact h.zH.dis q j s rj b hs hj (λe=>hjo (e ▸ hq)) hbq (bkold j hjn b hbj)
 refine⟨M,ρ',h.dfr,h.sz,λk s hk=>?_,⟨λi r J=>?_,λi j ri rj b J hj hne hbi hbj=>?_,λi r b J hb o=>?_⟩,λi r b J hb=>?_,h.run,λi r J=>?_⟩
 ·rcases zeC hS hk with U|⟨s0,U,h2⟩
  ·exact hsl k s U
  ·exact h2 _ _ _ hF (hsl k s0 U)
 ·rcases htab i r J with⟨_,U⟩|⟨_,_,r0,U,h2⟩
  ·exact hR.res i r U
  ·rcases h2 with rfl|h2
   ·exact hold i r U
   ·exact h2 _ _ _ _ hF (hold i r0 U)
 ·rcases htab i ri J with⟨_,U⟩|⟨i1,i2,r0,U,_⟩<;>rcases htab j rj hj with⟨_,h2⟩|⟨j1,j2,s0,h2,_⟩
  ·exact hR.dis i j ri rj b U h2 hne hbi hbj
  ·grind
  ·grind
  ·exact h.zH.dis i j r0 s0 b U h2 hne (bkold i i2 b hbi) (bkold j j2 b hbj)
 ·rcases htab i r J with⟨_,U⟩|⟨i1,i2,r0,U,_⟩
  ·obtain⟨q,s,_,hs,hbq⟩:=hR.blk i r b U hb;exact h.zH.own q s b hs hbq o
  ·exact h.zH.own i r0 b U (bkold i i2 b hb) o
 ·rcases htab i r J with⟨_,U⟩|⟨i1,i2,r0,U,_⟩
  ·obtain⟨q,s,_,hs,hbq⟩:=hR.blk i r b U hb;exact h.ownf q s b hs hbq
  ·exact h.ownf i r0 b U (bkold i i2 b hb)
 ·rw[hR.agr i λhm=>by have:=(fresh i hm).2.2;rw[J]at this;cases this];exact h.keep i r J
def TkF(id id2 id' m:Nat)(ρ:Nat->Value):Prop:= ∃cs:List Value,ρ id= .tuple cs.toArray/\cs.length=m/\(ρ id2).oneCell'=true/\ρ id'= .tuple (cs++[ρ id2]).toArray
theorem TkF.nv{id J id' m j:Nat}:RwV (TkF id J id' m) (.nv id j) (.nv id' j):=λM ρ x U hr=>by
 obtain⟨cs,h1,h2,h3,h4⟩:=U;simp only[RepV]at hr⊢
 grind
theorem TkF.ar{id J id' m:Nat}:RwV (TkF id J id' m) (.ar J) (.nv id' m):=λM ρ x U hr=>by
 obtain⟨cs,h1,h2,h3,h4⟩:=U;simp only[RepV]at hr⊢
 simp_all
def zi7{cs:List Value}{v:Value}(h:zcv cs)(hv: ∀(j b:Nat) z,cs[j]?=some z->blk z=some b->blk v≠some b):zcv (cs++[v]):=by
 have get: ∀(i:Nat) z,(cs++[v])[i]?=some z->cs[i]?=some z\/(i=cs.length/\z=v):=λi z J=>by
  rcases tu i cs.length with hlt|hge
  ·rw[tU hlt]at J;exact .inl J
  ·rw[qu hge]at J;have h0:i - cs.length=0:=by have:=(ux.1 J).1;simp at this;omega
   rw[h0]at J;simp only[List.getElem?_cons_zero,ui]at J;exact .inr ⟨ua,J.symm⟩
 intro i j b p q hp hq U hbp hbq;rcases get i p hp with hi|⟨rfl,rfl⟩<;>rcases get j q hq with hj|⟨rfl,rfl⟩
 ·exact h i j b p q hi hj U hbp hbq
 ·grind
 ·grind
 ·exact U rfl
def zkg(hC:C.low)(hc:lst cur=true)(id J id':Nat){e:Nat}(hid:tg tab id=some (.bag e L))(U:tg tab J=some (.arr e rs))(hne:Nat.beq id J=false)
 (hf:(Nat.ble 100 id'&&freshB id' ⟨n,sl,tab⟩)=true)
 (ups:zd) (hS:upS (RwS (TkF id J id' L.length)) sl ups) (bs:List (Nat×Res)) (hB:upW (TkF id J id' L.length) [id,J] [id'] tab bs)
 (g:Goal P C cur k n (ups++sl) (znB bs++((id',some (.bag e (L++[rs])))::(id,none)::(J,none)::tab)) Q):Goal P C cur k n sl tab Q:=by
 have hne':id≠J:=λe=>by subst e;rw[jv]at hne;cases hne
 refine zhD hC hc [id,J] [(id',.bag e (L++[rs]))] (TkF id J id' L.length) (by simp only[RL.ids,allB,hf,qh]) (λ{M ρ w} hT=>?_) ups hS bs hB g;simp only[um]at hf
 have nid: ∀i r,tg tab i=some r->i≠id':=λi r hi e=>by
  have:=(vq (C:=C) hf.2 (hC.none (uS hf.1))).2.1 i r hi;exact this.1 e
 obtain⟨cs,h1,h2,h3,h4⟩:=hT.res id _ hid;have hA:v7 M w (ρ J) e rs:=hT.res J _ U;obtain⟨a2,cap2,g1,_⟩:=hA;have hA:v7 M w (ρ J) e rs:=hT.res J _ U;have n1:=nid id _ hid;have n2:=nid J _ U;have bk2: ∀q,blk (ρ J)=some q->Bk (ρ J) q:=λq hq=>by rw[g1]at hq ⊢; exact hq
 have only: ∀i r,tg (tb [(id',Res.bag e (L++[rs]))]) i=some r->i=id'/\r= .bag e (L++[rs]):=λi r hi=>by
  simp only[tb,zy]at hi;split at hi
  ·rename_i e;exact⟨e.symm,(uY hi).symm⟩
  ·cases hi
 refine⟨upd ρ id' (.tuple (cs++[ρ J]).toArray),⟨cs,by rw[ya n1];exact h1,h2,by rw[ya n2,g1];rfl,by rw[zx,ya n2]⟩,λi hi=>ya (by simpa [RL.ids]using hi),λi r hi=>?_,λi r b hi hb=>?_,λi j ri rj b hi hj hne _ _=>?_⟩
 ·obtain⟨rfl,rfl⟩:=only i r hi;refine⟨_,zx _ _ _,by simp[h2],λj rs' hj=>?_,zi7 h4 λj b z hj hz hv=>hT.dis id J _ _ b hid U hne' (by rw[h1];exact zkf hj hz) (bk2 b hv)⟩
  grind
 ·obtain⟨rfl,_⟩:=only i r hi;rw[zx]at hb;obtain⟨x,hx,hxb⟩:=hb;have hx':x∈cs\/x=ρ J:=by simpa using hx
  rcases hx' with hx'|rfl
  ·obtain⟨j,hj⟩:=tY.1 hx';exact⟨id,_,ue,hid,by rw[h1];exact zkf hj hxb⟩
  grind
 grind
def ztO(hC:C.low)(hc:lst cur=true)(id' e:Nat)(hf:(Nat.ble 100 id'&&freshB id' ⟨n,sl,tab⟩)=true)(g:Goal P C cur k n sl ((id',some (.bag e []))::tab) Q):Goal P C cur k n sl tab Q:=by
 refine zhD hC hc [] [(id',.bag e [])] (λ_=>True) (by simp only[RL.ids,allB,hf,qh]) (λ{M ρ w} hT=>?_) [] uh [] uh g
 have only: ∀i r,tg (tb [(id',Res.bag e [])]) i=some r->i=id'/\r= .bag e []:=λi r J=>by
  simp only[tb,zy]at J;split at J
  ·rename_i e;exact⟨e.symm,(uY J).symm⟩
  ·cases J
 refine⟨upd ρ id' (.tuple ([]:List Value).toArray),trivial,λi J=>ya (by simpa [RL.ids]using J),λi r J=>?_,λi r b J hb=>?_,λi j ri rj b J hj hne _ _=>?_⟩
 ·obtain⟨rfl,rfl⟩:=only i r J;exact⟨[],zx _ _ _,rfl,λj rs hj=>by simp at hj,λi j b x y U=>by simp at U⟩
 ·obtain⟨rfl,_⟩:=only i r J;rw[zx]at hb;obtain⟨x,U,_⟩:=hb;simp at U
 grind
end
variable {rows rows':List (List PC)}{rt2:RL}{sy:S}{us z:List V}
section
variable {d:Option Nat} {ty:TypeId} {y:Operand}
def zi8{id e:Nat}{ids:List Nat}{k:IntKind}(hx:okc x (.one (.ar id)))(hy:okc y (Kk k i))
 (h:elemSz P t=some (el,e)) (h0:0<=i) (hi:i<rows.length):
 Snd P ⟨d,.indexAddr t x y,ty,ps,af,g⟩ (rq x (.one (.ar id))++rq y (Kk k i)) [(id,.vw ids e rows)] [] (.one (.el id (i.toNat*e))) []:=
 zk λC st M ρ a w hH h1 ht=>by
  rw[za]at h1;have e':=hH.evS (zt hx h1.1);have e2:=hH.k (zt hy h1.2);simp only[RepS,RepV]at e';obtain⟨a',cap,h3,h4,h5,_,U⟩:=hH.zH.res id _ ht.1;obtain⟨ii,hu,J,hsz⟩:=zw h;rcases U with⟨U,h7⟩|⟨b,o,cs,el',fz,U,_⟩
  ·subst h7;omega
  ·subst U;refine⟨.pointer (some ⟨b,o+i.toNat*e,none⟩),?_,by simp only[RepS,RepV];simp_all⟩;rw[h3]at e';simp only[execOp,e'.1,e2,Instr.indexAt,asIntOf,Sem.run_bind,Sem.run_pure,Result.andThen_ok,run_underlying hu];rw[uw ⟨h0,hi⟩];simp only[Sem.run_bind,Sem.run_pure,Result.andThen_ok,run_sizeOf J,ye,hsz]
def znU{id e:Nat}{ids:List Nat}{as':Array TypeId}{n:Nat}(hx:okc x (.one (.ar id)))(ha:as'[0]?=some t)(h:elemSz P t=some (el,n)):
 Snd P ⟨d,.call ⟨.builtin .len,#[x],as'⟩,ty,ps,af,g⟩ (rq x (.one (.ar id))) [(id,.vw ids e rows)] [] (I rows.length) []:=
 zk λC st M ρ a w U h1 ht=>by
  have J:=U.evS (zt hx h1);simp only[RepS,RepV]at J;obtain⟨a',cap,h3,h4,h5,_,h6⟩:=U.zH.res id _ ht.1;obtain⟨ii,hu,hinf,hsz⟩:=zw h;rw[h3]at J;exact⟨.int .i64 rows.length,by simp[execOp,resolve,invoke,builtin,Builtin.len_,ha,J.1,run_underlying hu,goInt],zjW _ _⟩
def zkh{id e:Nat}{ids:List Nat}{vs:List V}{s:Option Nat}{v:S}(hx:okc x (.one (.el id kk)))(h:shp P t=some s)
 (hvs: ∀j v,vs[j]?=some v-> ∃p,rows.flatten[kk+j]?=some p/\toV ids p=v) (hv:ofCells s vs=some v):
 Snd P ⟨d,.load t x,ty,ps,af,g⟩ (rq x (.one (.el id kk))) [(id,.vw ids e rows)] [] v []:=
 zk λC st M ρ a w hH h1 ht=>by
  have e':=hH.evS (zt hx h1);simp only[RepS,RepV]at e';obtain⟨b,o,m,cap,e1,e2⟩:=e';obtain⟨a',cap',h2,h3,h4,_,J⟩:=hH.zH.res id _ ht.1;rw[e1]at h2;simp only[Value.slice.injEq]at h2;rcases J with⟨J,_⟩|⟨b',o',cs,el,fz,J,h6,h6',h7,h8⟩
  ·simp_all
  ·rw[J]at h2;have hb:b=b'/\o=o':=by have:=h2.1;simp at this;exact this
   obtain⟨rfl,rfl⟩:=hb
   obtain⟨ds,h9,U⟩:=wy (M:=M) (ρ:=ρ) (vs:=vs) (g:=λj=>cs[o+(kk+j)]?) λj u hj=>by
    grind
   obtain⟨u,hu,hr⟩:=yo (w:=w) (b:=b) (o:=o+kk) h h9 (λq c hc=>by
    have:=U q c hc;simp only[<-qF]at this
    simp[World.cell?,h6,this]) hv
   exact⟨u,by simp only[execOp,e2,Sem.run_bind,Instr.loadAt,Instr.sureAddr,Sem.run_pure,Result.andThen_ok,hu],hr⟩
def ztf{id e:Nat}{ids ids':List Nat}{s:S}(hx:okc x (.one (.el id kk)))(hy:okc y s)(h:shp P t=some sh)
 (hc:cellsOf s=some us) (hl:us.length=sh.getD 1) (hln:rows'.length=rows.length) (hle: ∀r∈rows',r.length=e) (hb:kk+us.length<=rows.length*e)
 (hn: ∀q p,rows'.flatten[q]?=some p->(kk<=q/\us[q - kk]?=some (toV ids' p))\/((q<kk\/kk+us.length<=q)/\ ∃p0,rows.flatten[q]?=some p0/\toV ids p0=toV ids' p)):
 Snd P ⟨d,.store t x y,ty,ps,af,g⟩ (rq x (.one (.el id kk))++rq y s) [(id,.vw ids e rows)] [] .un [(id,some (.vw ids' e rows'))]:=by
 intro C st M ρ a w hH h1 ht _ hd k Q hk;rw[za]at h1;have e0:=hH.evS (zt hx h1.1);have e':=yH hc (hH.evS (zt hy h1.2));simp only[RepS,RepV]at e0;obtain⟨b,o,m,cap,e1,e2⟩:=e0;obtain⟨a',cap',h2,h3,h4,hl0,h5⟩:=hH.zH.res id _ ht.1;have h2':=h2;rw[e1]at h2;simp only[Value.slice.injEq]at h2;rcases h5 with⟨h5,_⟩|⟨b',o',cs,el,fz,h5,h6,h6',h7,h8⟩
 ·simp_all
 ·rw[h5]at h2;have hbo:b=b'/\o=o':=by have:=h2.1;simp at this;exact this
  obtain⟨rfl,rfl⟩:=hbo;obtain⟨ii,hinf,hs⟩:=zad h;have J:(a.eval y).cells.toList.length=us.length:=by rw[e'.length]
  have hie:rows.length*e<=cap'*e:=tD e h3;have hst:=zO (P:=P) b (o+kk) el fz (a.eval y).cells.toList 0 cs w h6 h6' (by rw[J];omega) e'.one
  have hrun:(execOp a.eval ⟨d,.store t x y,ty,ps,af,g⟩).run P w= .ok .skip (w.setRow b (setAt cs.toList (o+kk) (a.eval y).cells.toList).toArray):=by
   have U: ¬((a.eval y).cells.size≠ii.size):=by rw[hs,<-hl,<-J];simp
   simp only[execOp,e2,Instr.storeAt,Instr.sureAddr,Sem.run_bind,Sem.run_pure,Result.andThen_ok,storeVar,run_sizeOf hinf,ur U];simp only[hst,Result.andThen_ok,qj]
  unfold Oper.wp;rw[hrun,Oper.upon_skip];have hcsl:o+kk+(a.eval y).cells.toList.length<=cs.toList.length:=by rw[J];simp;omega
  have U:(setAt cs.toList (o+kk) (a.eval y).cells.toList).toArray.size=cs.size:=by simp[yk _ _ _ hcsl]
  refine hk _ _ M ρ (hH.turn ht.1 (λk hk=>setRow_other w b k _ (λe=>hk (by simp[h2',h5,Bk,blk,e]))) ue rfl rfl rfl
   ⟨a',cap',by rw[hln];exact h2',ua,ua,hle,.inr ⟨b,o,_,el,fz,h5,setRow_heap w b _ _ el _ h6,by rw[U];exact h6',ua,λq p hq=>?_⟩⟩ (by simp only[RepS]) hd)
  have hget:(setAt cs.toList (o+kk) (a.eval y).cells.toList).toArray[o+q]?=if o+q<o+kk then cs[o+q]? else if o+q<o+kk+us.length then(a.eval y).cells.toList[o+q - (o+kk)]? else cs[o+q]?:=by
   rw[tq,yD _ _ _ _ ua,J];simp
  rcases hn q p hq with⟨g1,g2⟩|⟨g1,p0,g2,g3⟩
  ·have hlt:q - kk<us.length:=(ux.1 g2).1;obtain⟨c,c1,c2⟩:=xf e' g2
   grind
  grind
def znV(P:Program)(e:Nat)(tx:TypeId)(s:S)(rt:RL)(rows:List (List PC))(ids:List Nat):Prop:=
 ∀(C:Ctx) (st:St) (M:Mem) (ρ:Nat->Value) (a:Act) (w:World) (v:Value),Holds C st M ρ a w->RepS M ρ s v->okT rt st->
  ∃news,Src P e tx v rows.length news w/\(∀(j:Nat) (p:PC),rows.flatten[j]?=some p-> ∃c,news[j]?=some c/\RepV M ρ (toV ids p) c)/\ ∀r∈rows,r.length=e
theorem znV.vw{e:Nat}{tx el:TypeId}{id:Nat}{rows:List (List PC)}{ids:List Nat}(h:elemSz P tx=some (el,e)):znV P e tx (.one (.ar id)) [(id,.vw ids e rows)] rows ids:=by
 intro C st M ρ a w v hH J ht;obtain⟨_,hu,_,_⟩:=zw h;obtain⟨b,cap,h1,h2,h3,hl,h4⟩:=hH.zH.res id _ ht.1;simp only[RepS,RepV]at J;rw[h1]at J;rw[J.1];rcases h4 with⟨rfl,hc⟩|⟨b',o,cs,el',fz,rfl,h6,_,_,h8⟩
 ·have:rows=[]:=tc.1 ua;subst this;exact⟨[],Src.ofNil w hu cap,ue,ue⟩
 ·obtain⟨us,U,h10⟩:=wy (M:=M) (ρ:=ρ) (vs:=rows.flatten.map (toV ids)) (g:=λj=>cs[o+j]?) λj u hj=>by
   grind
  refine⟨us,Src.ofSlice w hu _ _ cap us (by rw[U.length,uk,jw hl]) (λj u hj=>by rw[ye];have:=h10 j u hj;simp[World.cell?,h6,this]) U.one,λj p hj=>?_,hl⟩;exact xf U (m:=j) (by grind)
def zf8{id id' e bytes:Nat}{rows2 rows3:List (List PC)}{ids ids2 ids':List Nat}{tx:TypeId}(hx:okc x (.one (.ar id)))(hy:okc y sy)(hs:znV P e tx sy rt2 rows2 ids2)(hm1:mentI id' ids'=false)(h3l:rows3.length=rows.length+rows2.length)(h3e: ∀r∈rows3,r.length=e)
 (h31: ∀(j:Nat) (x':PC),j<rows.length*e->rows3.flatten[j]?=some x'-> ∃x,rows.flatten[j]?=some x/\toV ids x=toV ids' x') (h32: ∀(j:Nat) (x':PC),rows3.flatten[rows.length*e+j]?=some x'-> ∃x,rows2.flatten[j]?=some x/\toV ids2 x=toV ids' x')
 (he:elemSz P t=some (el,e)) (hz:zeroV P el=some z) (hzl:z.length=e) (hby:(P.info? el).map (·.bytes)=some bytes) (hb:(rows.length+rows2.length)*bytes<=140737488355328) (hlen:rows.length+rows2.length<=9223372036854775807):
 Snd P ⟨d,.call ⟨.builtin .append,#[x,y],#[t,tx]⟩,ty,ps,af,g⟩ (rq x (.one (.ar id))++rq y sy) ((id,.vw ids e rows)::rt2) [id'] (.one (.ar id')) [(id',some (.vw ids' e rows3)),(id,none)]:=by
 intro C st M ρ a w hH h1 hT hF hd k Q hk;rw[za]at h1;have e1:=hH.evS (zt hx h1.1);have e2:=hH.evS (zt hy h1.2);obtain⟨b,cap,h2,h3,h4,hl0,h5⟩:=hH.zH.res id _ hT.1;simp only[RepS,RepV]at e1;obtain⟨ii,hu,hinf,hsz⟩:=zw he;obtain⟨news,J,hnews,hlen2⟩:=hs C st M ρ a w _ hH e2 hT.2;obtain⟨i',zv,hi',hzv,hzs⟩:=xu hz;rw[hinf]at hi';simp only[ui]at hi';subst hi';rw[hinf]at hby;simp only[uH,ui]at hby;have hnl:news.length=rows2.length*e:=J.newsLen;have hfr:=jw hl0
 -- cells of the old and the new, aZ the new name says them
 have hnew: ∀(val:Value) (f:Nat->Option Value),(∀j p,rows.flatten[j]?=some p-> ∃c,f j=some c/\RepV M ρ (toV ids p) c)->(∀j c,news[j]?=some c->f (rows.length*e+j)=some c)->
  ∀j p,rows3.flatten[j]?=some p-> ∃c,f j=some c/\RepV M (upd ρ id' val) (toV ids' p) c:=λval f hf1 hf2 j p hj=>by
  rcases tu j (rows.length*e)with hlt|hge
  ·obtain⟨x,hx,he⟩:=h31 j p hlt hj;obtain⟨c,c1,c2⟩:=hf1 j x hx;refine⟨c,c1,?_⟩;rw[he]at c2;exact RepV.agree (yT ρ id' val) _ _ (λi hi=>by subst hi;exact zbr hm1 p) c2
  ·have e3:rows.length*e+(j - rows.length*e)=j:=by omega
   obtain⟨x,hx,he⟩:=h32 (j - rows.length*e) p (by rw[e3];exact hj);obtain⟨c,c1,c2⟩:=hnews _ x hx;refine⟨c,by have:=hf2 _ c c1;rwa [e3]at this,?_⟩;rw[he]at c2;exact RepV.agree (yT ρ id' val) _ _ (λi hi=>by subst hi;exact zbr hm1 _) c2
 have hcall:execOp a.eval ⟨d,.call ⟨.builtin .append,#[x,y],#[t,tx]⟩,ty,ps,af,g⟩=(do pure (.value (<-Builtin.append_ #[t,tx] ty #[a.eval x,a.eval y]))):=by
  simp[execOp,resolve,invoke,builtin]
 have fin: ∀ {val:Value} {w':World},(Builtin.append_ #[t,tx] ty #[a.eval x,a.eval y]).run P w= .ok val w'->
  (∀b',b'<w.heap.size->(∀i r,(some id)=some i->tg st.tab i=some r-> ¬Bk (ρ i) b')->w'.heap[b']?=w.heap[b']?)->w.heap.size<=w'.heap.size->w'.os=w.os->w'.tape=w.tape->w'.output=w.output->
  (∀b',Bk val b'->w.heap.size<=b'\/ ∃i r,(some id)=some i/\tg st.tab i=some r/\Bk (ρ i) b')->zF M (upd ρ id' val) w' id' (.vw ids' e rows3)->val.oneCell'=true->
  Oper.wp P ⟨d,.call ⟨.builtin .append,#[x,y],#[t,tx]⟩,ty,ps,af,g⟩ a w k Q:=λ{val w'} U g1 g2 g3 g4 g5 g6 g7 g8=>by
  unfold Oper.wp;rw[hcall];simp only[Sem.run_bind,U,Result.andThen_ok,Sem.run_pure,Oper.upon_value];exact hk _ _ _ _ (hH.step (some id) g1 g2 g3 g4 g5 g6 hF.1 g7 (by simp only[RepS,RepV];exact⟨(zx _ _ _).symm,g8⟩) hd)
 have hex:a.eval x= .slice b rows.length cap:=e1.1.trans h2;rcases tu cap (rows.length+rows2.length)with hlt|hge
 · -- a new row
   have hold: ∃olds:List Value,(Builtin.firstCells ii.size rows.length (.slice b rows.length cap)).run P w.drew= .ok olds.toArray w.drew/\(∀(j:Nat) (p:PC),rows.flatten[j]?=some p-> ∃c,olds[j]?=some c/\RepV M ρ (toV ids p) c)/\olds.length=rows.length*e:=by
    rcases h5 with⟨rfl,hc⟩|⟨b',o,cs,el',fz,rfl,h6,_,_,h8⟩
    ·have:rows=[]:=tc.1 ua;subst this;exact⟨[],run_firstCells_none w.drew _ _ _ _,ue,ue⟩
    ·obtain⟨us,h9,h10⟩:=wy (M:=M) (ρ:=ρ) (vs:=rows.flatten.map (toV ids)) (g:=λj=>cs[o+j]?) λj u hj=>by
      rw[uK,uR]at hj;obtain⟨p,hp,rfl⟩:=hj;exact h8 j p hp
     have hul:us.length=rows.length*e:=by rw[h9.length,uk,hfr]
     refine⟨us,?_,λj p hj=>xf h9 (m:=j) (by rw[uK,hj];rfl),hul⟩;rw[hsz]
     exact run_firstCells_some w.drew e rows.length ⟨b',o,none⟩ _ cap us hul (λj u hj=>by
      rw[ye];have:=h10 j u hj;have h6':w.drew.heap[b']?=some (.cells cs el' fz):=h6
      simp[World.cell?,h6',this])
   obtain⟨olds,ho1,ho2,ho3⟩:=hold;have U:=run_append_grow_src (P:=P) w t tx ty el ii zv hu hinf hzv b rows.length cap olds ho1 (a.eval y) rows2.length news (by rw[hsz];exact J) hlt ua (growslice_fits hlt (by rw[hby];exact hb));rw[<-hex]at U;have hcap:=grownCap_ge w (rows.length+rows2.length) cap el
   refine fin U (λb' hb' _=>yi w.drew _ b' hb') ue rfl rfl rfl (λb' hb'=> .inl ?_) ⟨some ⟨w.heap.size,0,none⟩,grownCap w (rows.length+rows2.length) cap el,by rw[zx,h3l],ua,(by have:=grownCap_le_maxLen w (rows.length+rows2.length) cap el (by unfold maxLen;omega);unfold maxLen at this;omega),h3e,.inr
    ⟨w.heap.size,0,_,el,(0,0),rfl,zT w.drew _,λi _=>by simp,?_,?_⟩⟩ rfl
   ·simp only[Bk,blk,ui]at hb';omega
   ·simp only[og,qp,uP,size_zeroCells,hzs,hzl,ho3,hnl,<-qd,tM]
    simp_all
   ·refine hnew _ _ (λj p hj=>?_) (λj c hj=>?_)
    ·grind
    grind
 · -- room
   rcases h5 with⟨rfl,hc⟩|⟨b',o,cs,el',fz,rfl,h6,h6',h7,h8⟩
   ·have e3:rows2=[]:=tc.1 ua;have e4:rows=[]:=tc.1 ua;subst e3;subst e4;subst hc;have hn0:news=[]:=tr (by simpa using hnl);subst hn0
    have U:(Builtin.append_ #[t,tx] ty #[a.eval x,a.eval y]).run P w= .ok (.slice none 0 0) w:=by
     rw[hex];have hl:(Builtin.lenOf (a.eval y)).run P w= .ok 0 w:=J.len w;have hc:(Builtin.firstCells e 0 (a.eval y)).run P w= .ok #[] w:=J.cells;rcases J.kind with⟨e',hk'⟩|hk'<;>simp[Builtin.append_,run_underlying hu,run_underlying hk',Go.sizeOf,typeInfo,hinf,hl,hsz,hc]
    exact fin U (λ_ _ _=>rfl) (uJ _) rfl rfl rfl (λb' hb'=>by simp[Bk,blk]at hb') ⟨none,0,by rw[zx,h3l];rfl,by rw[h3l];simp,ue,h3e,.inl ⟨rfl,rfl⟩⟩ rfl
   ·have hfit:o+rows.length*e+0+news.length<=cs.size:=by
     rw[hnl];have:(rows.length+rows2.length)*e<=cap*e:=tD _ hge;rw[qd]at this;omega
    have hst:=zO (P:=P) b' (o+rows.length*e) el' fz news 0 cs w h6 h6' hfit J.one
    have U:(Builtin.append_ #[t,tx] ty #[a.eval x,a.eval y]).run P w= .ok (.slice (some ⟨b',o,none⟩) (rows.length+rows2.length) cap) (w.setRow b' (setAt cs.toList (o+rows.length*e+0) news).toArray):=by
     rw[hex];have hl:=J.len w;have hc:=J.cells;rcases J.kind with⟨e',hk'⟩|hk'<;>simp[Builtin.append_,run_underlying hu,run_underlying hk',Go.sizeOf,typeInfo,hinf,hl,hsz,hc,hge,ye,hst]
    have hob:Bk (ρ id) b':=by rw[h2];rfl
    have hsl:(setAt cs.toList (o+rows.length*e+0) news).length=cs.size:=by rw[yk _ _ _ (by simpa using hfit)];simp
    refine fin U (λb2 hb2 hne=>xM w b' _ b2 λe=>hne id _ rfl hT.1 (e ▸ hob)) (by simp[World.setRow]) rfl rfl rfl
     (λb2 hb2=> .inr ⟨id,_,rfl,hT.1,by simp only[Bk,blk,ui]at hb2;simp_all⟩)
     ⟨some ⟨b',o,none⟩,cap,by rw[zx,h3l],ua,h4,h3e,.inr ⟨b',o,_,el',fz,rfl,setRow_heap w b' cs _ el' fz h6,?_,?_,?_⟩⟩ rfl
    ·simp_all
    ·simp_all
    ·refine hnew _ _ (λj p hj=>?_) (λj c hj=>?_)
     ·obtain⟨c,c1,c2⟩:=h8 j p hj;have hjl:j<rows.flatten.length:=(ux.1 hj).1;refine⟨c,?_,c2⟩;simp only[tq];rw[yD _ _ _ _ ug,uw ua];simpa using c1
     ·have hjl:j<news.length:=(ux.1 hj).1;simp only[tq];rw[yD _ _ _ _ ug,ur ua,uw ua]
      grind
def znW{id e:Nat}{row:List PC}{ids:List Nat}{s:S}(hx:okc x s)(hc:cellsOf s=some us)(hus:row.map (toV ids)=us)(hrl:row.length=e)(hm:mentI id ids=false)
 (he:elemSz P t=some (el,e)) (hz:zeroV P el=some z) (he0:0<e) (heb:e<=16777216):
 Snd P ⟨d,.buildSlice t 1 #[(0,x)],ty,ps,af,g⟩ (rq x s) [] [id] (.one (.ar id)) [(id,some (.vw ids e [row]))]:=by
 intro C st M ρ a w hH h1 hT hF hd k Q hk;have e':=yH hc (hH.evS (zt hx h1));obtain⟨ii,hu,J,hsz⟩:=zw he;obtain⟨i',zv,hi',hzv,hzs⟩:=xu hz;rw[J]at hi';simp only[ui]at hi';subst hi';have hul:us.length=e:=by rw[<-hus,uk,hrl]
 have hcl:(a.eval x).cells.size=e:=by have:=e'.length;simp at this;omega
 have hfill: ∀cur:Array Value,cur.size=e->Instr.fill (λi=>some (i*e,e)) cur [(0,a.eval x)]=some (a.eval x).cells:=λcur hcur=>by
  simp only[Instr.fill]
  have hcond: ¬((a.eval x).cells.size≠e||0*e+(a.eval x).cells.size>cur.size)=true:=by
   simp only[ne_eq,uO,uq];omega
  have hfold:=vr cur (0*e) (a.eval x).cells.toList 0 cur ug
  have U:(a.eval x).cells.zipIdx.foldl (λcs (p:Value×Nat)=>cs.setIfInBounds (0*e+p.2) p.1) cur=(setAt cur.toList (0*e) (a.eval x).cells.toList).toArray:=by
   rw[<-oJ];simpa using hfold
  rw[ur hcond,U]
  congr 1
  unfold setAt;have:cur.toList.drop (0*e+(a.eval x).cells.toList.length)=[]:=by apply uC;simp;omega
  rw[this];simp
 have hrun:(execOp a.eval ⟨d,.buildSlice t 1 #[(0,x)],ty,ps,af,g⟩).run P w= .ok (.value (.slice (some ⟨w.heap.size,0,none⟩) 1 1)) (w.alloc (.cells (a.eval x).cells el)):=by
  have hn: ¬16777216<e:=by omega
  have h0: ¬e=0:=by omega
  have hf:=hfill ((Array.range (1*e)).map λx=>zv.cells[x % zv.cells.size]!) ue;have hzrun:(zeroValue el).run P w= .ok zv w:=by simp[zeroValue,typeInfo,J,hzv]
  simp[execOp,Instr.buildSlice,run_underlying hu,run_sizeOf J,hsz,hn,h0,newRow,hzrun]at hf⊢;simp[hf]
 unfold Oper.wp;rw[hrun,Oper.upon_value]
 refine hk _ _ M _ (hH.alloc (val:= .slice (some ⟨w.heap.size,0,none⟩) 1 1) (λb hb=>by simp only[Bk,blk,ui]at hb;exact hb.symm) hF.1
  ⟨some ⟨w.heap.size,0,none⟩,1,zx _ _ _,ue,ue,by simp[hrl],.inr ⟨w.heap.size,0,(a.eval x).cells,el,(0,0),rfl,zT w _,λi hi=>by simp,ua,λj p hj=>?_⟩⟩ (by simp only[RepS,RepV];exact⟨(zx _ _ _).symm,rfl⟩) hd)
 simp only[tO,oy,uV]at hj;obtain⟨c,c1,c2⟩:=xf e' (m:=j) (v:=toV ids p) (by grind);refine⟨c,by simp_all,RepV.agree (yT ρ id _) _ _ (λi hi=>by subst hi;exact zbr hm p) c2⟩
end
variable {m:Nat}
section
variable {k:List Frm} {n:Nat} {sl:zd}
def zki(T:Ty P){y:Operand}{ty:TypeId}(hC:C.low){id e:Nat}{ids:List Nat}
 (J:ev sl x=some (.one (.ar id))) (U:ev sl y=some (Kk k0 i)) (hT:tg tab id=some (.vw ids e rows)) (he:T.es t=some (el,e)) (h0:0<=i) (hi:i<rows.length) (hm:metL all sl g0=some gs) (hd:Nat.blt d n=true)
 (g:Goal P C (.ops all rest (nx md ⟨some d,gs++(rq x (.one (.ar id))++rq y (Kk k0 i)),[(id,.vw ids e rows)],[],.one (.el id (i.toNat*e)),[]⟩)) k n ((d,.one (.el id (i.toNat*e)))::sl) tab Q):
 Goal P C (.ops all (⟨some d,.indexAddr t x y,ty,ps,af,g0⟩::rest) md) k n sl tab Q:=by
 have e1:=zu (st:=⟨n,sl,tab⟩) J;have e2:=zu (st:=⟨n,sl,tab⟩) U;have:=zj hm (zi8 (ids:=ids) (ty:=ty) (ps:=ps) (af:=af) (g:=g0) (d:=some d) e1.1 e2.1 (T.es_ok _ _ he) h0 hi) (n:=n) (tab:=tab);exact zN (L:=⟨some d,gs++(rq x (.one (.ar id))++rq y (Kk k0 i)),[(id,.vw ids e rows)],[],.one (.el id (i.toNat*e)),[]⟩) hC this.1 rfl ⟨by rw[za,za];simp_all,⟨hT,uh⟩,rfl,hd⟩ g
def zkj(T:Ty P){ty:TypeId}(hC:C.low){id e:Nat}{ids:List Nat}
 (J:ev sl x=some (.one (.ar id))) (hT:tg tab id=some (.vw ids e rows)) (U:T.es t=some (el,m)) (hm:metL all sl g0=some gs) (hd:Nat.blt d n=true)
 (g:Goal P C (.ops all rest (nx md ⟨some d,gs++rq x (.one (.ar id)),[(id,.vw ids e rows)],[],I rows.length,[]⟩)) k n ((d,I rows.length)::sl) tab Q):
 Goal P C (.ops all (⟨some d,.call ⟨.builtin .len,#[x],#[t]⟩,ty,ps,af,g0⟩::rest) md) k n sl tab Q:=by
 have e1:=zu (st:=⟨n,sl,tab⟩) J;have:=zj hm (znU (e:=e) (rows:=rows) (ids:=ids) (as':= #[t]) (ty:=ty) (ps:=ps) (af:=af) (g:=g0) (d:=some d) e1.1 rfl (T.es_ok _ _ U)) (n:=n) (tab:=tab);exact zN (L:=⟨some d,gs++rq x (.one (.ar id)),[(id,.vw ids e rows)],[],I rows.length,[]⟩) hC this.1 rfl ⟨by rw[za];simp_all,⟨hT,uh⟩,rfl,hd⟩ g
def zf9(T:Ty P){ty:TypeId}(hC:C.low){id e:Nat}{ids:List Nat}(vs:List V){s:Option Nat}{v:S}
 (hx:ev sl x=some (.one (.el id kk))) (hT:tg tab id=some (.vw ids e rows)) (J:T.sh t=some s) (U: ∀j v,vs[j]?=some v-> ∃p,rows.flatten[kk+j]?=some p/\toV ids p=v) (hv:ofCells s vs=some v) (hm:metL all sl g0=some gs) (hd:Nat.blt d n=true)
 (g:Goal P C (.ops all rest (nx md ⟨some d,gs++rq x (.one (.el id kk)),[(id,.vw ids e rows)],[],v,[]⟩)) k n ((d,v)::sl) tab Q):
 Goal P C (.ops all (⟨some d,.load t x,ty,ps,af,g0⟩::rest) md) k n sl tab Q:=by
 have e1:=zu (st:=⟨n,sl,tab⟩) hx;have:=zj hm (zkh (e:=e) (ty:=ty) (ps:=ps) (af:=af) (g:=g0) (d:=some d) e1.1 (T.sh_ok _ _ J) U hv) (n:=n) (tab:=tab);exact zN (L:=⟨some d,gs++rq x (.one (.el id kk)),[(id,.vw ids e rows)],[],v,[]⟩) hC this.1 rfl ⟨by rw[za];simp_all,⟨hT,uh⟩,rfl,hd⟩ g
def zbK(T:Ty P)(id':Nat){y:Operand}{tx ty:TypeId}(hC:C.low){id e bytes:Nat}{rows2:List (List PC)}{ids ids2:List Nat}(ids':List Nat)(rows3:List (List PC))
 (hx:ev sl x=some (.one (.ar id))) (hy:ev sl y=some sy) (hT:tg tab id=some (.vw ids e rows)) (hT2:rdT tab rt2=rt2) (hs:znV P e tx sy rt2 rows2 ids2) (hm1:mentI id' ids'=false) (h3l:rows3.length=rows.length+rows2.length) (h3e: ∀r∈rows3,r.length=e)
 (h31: ∀(j:Nat) (J:PC),j<rows.length*e->rows3.flatten[j]?=some J-> ∃x,rows.flatten[j]?=some x/\toV ids x=toV ids' J) (h32: ∀(j:Nat) (J:PC),rows3.flatten[rows.length*e+j]?=some J-> ∃x,rows2.flatten[j]?=some x/\toV ids2 x=toV ids' J)
 (he:T.es t=some (el,e)) (hz:T.zs el=some z) (hzl:Nat.beq z.length e=true) (hby:(P.info? el).map (·.bytes)=some bytes)
 (hb:(rows.length+rows2.length)*bytes<=140737488355328) (U:rows.length+rows2.length<=9223372036854775807) (hm:metL all sl g0=some gs) (hd:Nat.blt d n=true) (hf:(Nat.ble 100 id'&&freshB id' ⟨n,sl,tab⟩)=true)
 (g:Goal P C (.ops all rest (nx md ⟨some d,gs++(rq x (.one (.ar id))++rq y sy),(id,.vw ids e rows)::rt2,[id'],.one (.ar id'),[(id',some (.vw ids' e rows3)),(id,none)]⟩)) k n ((d,.one (.ar id'))::sl) ([(id',some (.vw ids' e rows3)),(id,none)]++tab) Q):
 Goal P C (.ops all (⟨some d,.call ⟨.builtin .append,#[x,y],#[t,tx]⟩,ty,ps,af,g0⟩::rest) md) k n sl tab Q:=by
 have e1:=zu (st:=⟨n,sl,tab⟩) hx;have e2:=zu (st:=⟨n,sl,tab⟩) hy;have:=zj hm (zf8 (P:=P) (ty:=ty) (ps:=ps) (af:=af) (g:=g0) (d:=some d) (id':=id') e1.1 e2.1 hs hm1 h3l h3e h31 h32 (T.es_ok _ _ he) (T.zs_ok _ _ hz) (uA hzl) hby hb U) (n:=n) (tab:=tab)
 exact zN (L:=⟨some d,gs++(rq x (.one (.ar id))++rq y sy),(id,.vw ids e rows)::rt2,[id'],.one (.ar id'),[(id',some (.vw ids' e rows3)),(id,none)]⟩) hC this.1 rfl
  ⟨by rw[za,za];simp_all,⟨hT,vW hT2⟩,zae hf,hd⟩ g
def zkk(T:Ty P){ty:TypeId}(hC:C.low){e:Nat}(row:List PC)(ids:List Nat){s:S}
 (hx:ev sl x=some s) (hc:cellsOf s=some us) (J:row.map (toV ids)=us) (U:row.length=e) (hmx:mentI (1000+d) ids=false) (he:T.es t=some (el,e)) (hz:T.zs el=some z) (he0:Nat.blt 0 e=true) (heb:Nat.ble e 16777216=true)
 (hm:metL all sl g0=some gs) (hd:Nat.blt d n=true) (hf:(Nat.ble 100 (1000+d)&&freshB (1000+d) ⟨n,sl,tab⟩)=true)
 (g:Goal P C (.ops all rest (nx md ⟨some d,gs++rq x s,[],[1000+d],.one (.ar (1000+d)),[(1000+d,some (.vw ids e [row]))]⟩)) k n ((d,.one (.ar (1000+d)))::sl) ((1000+d,some (.vw ids e [row]))::tab) Q):
 Goal P C (.ops all (⟨some d,.buildSlice t 1 #[(0,x)],ty,ps,af,g0⟩::rest) md) k n sl tab Q:=by
 have e1:=zu (st:=⟨n,sl,tab⟩) hx;have:=zj hm (znW (P:=P) (ty:=ty) (ps:=ps) (af:=af) (g:=g0) (d:=some d) (id:=1000+d) e1.1 hc J U hmx (T.es_ok _ _ he) (T.zs_ok _ _ hz) (by simpa [tI]using he0) (uS heb)) (n:=n) (tab:=tab);exact zN (L:=⟨some d,gs++rq x s,[],[1000+d],.one (.ar (1000+d)),[(1000+d,some (.vw ids e [row]))]⟩) hC this.1 rfl ⟨by rw[za];simp_all,trivial,zae hf,hd⟩ g
def zF.ztP{id e:Nat}(ids:List Nat){rows:List (List PV)}(h:zF M ρ w id (.arr e rows)):zF M ρ w id (.vw ids e (rows.map (·.map PC.p))):=by
 obtain⟨a,cap,h1,h2,h3,hl,h4⟩:=h.toV;have J:(rows.map (·.map PC.p)).flatten=rows.flatten.map PC.p:=by rw[List.map_flatten]
 refine⟨a,cap,by simp_all,by simp_all,h3,λr hr=>?_,?_⟩
 ·grind
 ·rcases h4 with h4|⟨b,o,cs,el,fz,h5,h6,U,h7,h8⟩
  ·exact .inl h4
  ·refine .inr ⟨b,o,cs,el,fz,h5,h6,U,h7,λj p hj=>?_⟩;rw[J,uK,uR]at hj;obtain⟨p,hp,rfl⟩:=hj;exact h8 j p hp
def ztQ(U:lst cur=true)(id:Nat)(ids:List Nat){e:Nat}{rows:List (List PV)}(J:tg tab id=some (.arr e rows))(hr:rows.map (·.map PC.p)=rows')(g:Goal P C cur k n sl ((id,some (.vw ids e rows'))::tab) Q):Goal P C cur k n sl tab Q:=by
 subst hr;exact zwq U J (λ_ _ _ h=>h.ztP ids) g
def zkl{e:Nat}{ids ids2 ids':List Nat}{rows2 rows2':List (List PC)}(U: ∀r∈rows,r.length=e)(hl2: ∀r∈rows2',r.length=e)(hn:rows2'.length=rows2.length)(hi: ∀x∈rows.flatten,toV ids x=toV ids' x)
 (h2: ∀(j:Nat) (J:PC),rows2'.flatten[j]?=some J-> ∃x,rows2.flatten[j]?=some x/\toV ids2 x=toV ids' J):
 (rows++rows2').length=rows.length+rows2.length/\(∀r∈rows++rows2',r.length=e)/\(∀(j:Nat) (J:PC),j<rows.length*e->(rows++rows2').flatten[j]?=some J-> ∃x,rows.flatten[j]?=some x/\toV ids x=toV ids' J)/\
   ∀(j:Nat) (J:PC),(rows++rows2').flatten[rows.length*e+j]?=some J-> ∃x,rows2.flatten[j]?=some x/\toV ids2 x=toV ids' J:=by
 have hf:=jw U
 grind
end
variable {B:RL}{f:FuncId}{res:S}{ts:Array TypeId}{v':V}
section
open Classical in
noncomputable def lentN(M:Mem)(ρ:Nat->Value)(w:World)(B:RL):Mem:=λb o=>match M b o with
 |some v=>some v
 |none=>if ∃i r,(i,r)∈B/\Bk (ρ i) b then w.cell? ⟨b,o,none⟩else none
def zbL(M:Mem)(ρ:Nat->Value)(w:World)(B:RL):Prop:=Imm M w/\ ∀i r,(i,r)∈B->zF M ρ w i r
def w5:MLe M (lentN M ρ w B):=λb o v hv=>by simp only[lentN,hv]
def zeD(h:Imm M w):Imm (lentN M ρ w B) w:=λb o v hv=>by
 simp only[lentN]at hv;split at hv
 ·rename_i u J;simp only[ui]at hv;subst hv;exact h b o u J
 simp_all
def zeE{b o:Nat}{v:Value}(h:lentN M ρ w B b o=some v):M b o=some v\/ ∃i r,(i,r)∈B/\Bk (ρ i) b:=by
 simp only[lentN]at h
 grind
theorem zaI(J:Imm M w){b:Nat}(hb: ∃i r,(i,r)∈B/\Bk (ρ i) b){cs:Array Value}{fz:Nat×Nat}(U:w.heap[b]?=some (.cells cs el fz))(i:Nat)(c:Value)(hc:cs[i]?=some c):lentN M ρ w B b i=some c:=by
 have hc':w.cell? ⟨b,i,none⟩=some c:=by simp[World.cell?,U,hc]
 simp only[lentN];cases hm0:M b i with
 |none=>simp_all
 |some u=>have:=J b i u hm0;simp_all
def zhE(hI:Imm M w){v:Value}{e:Nat}(h:v7 M w v e rs)(hb: ∀b,blk v=some b-> ∃i r,(i,r)∈B/\Bk (ρ i) b):RepPV (lentN M ρ w B) (.sl e rs) v:=by
 obtain⟨a0,cap,J,h2,h3,h4⟩:=h;simp only[RepPV];refine⟨a0,cap,J,h2,tQ h2 h3,?_⟩;rcases h4 with⟨rfl,U⟩|⟨b,o,cs,el,fz,h5,h6,h6',h7,h8⟩
 ·simp_all
 ·exact .inr ⟨b,o,h5,RowsIn.mono w5 (λi c U=>zaI hI (hb b (by rw[J,h5];rfl)) h6 i c U) _ _ h8⟩
def LnV(B:RL)(v v':V):Prop:= ∀M ρ w u,zbL M ρ w B->RepV M ρ v u->RepV (lentN M ρ w B) ρ v' u
def zjX(B:RL)(v v':List V):Prop:= ∀M ρ w u,zbL M ρ w B->RepVs M ρ v u->RepVs (lentN M ρ w B) ρ v' u
def LnS(B:RL)(v v':S):Prop:= ∀M ρ w u,zbL M ρ w B->RepS M ρ v u->RepS (lentN M ρ w B) ρ v' u
def zdw(B:RL)(v v':List S):Prop:= ∀M ρ w u,zbL M ρ w B->RepSs M ρ v u->RepSs (lentN M ρ w B) ρ v' u
def LnV.le{v:V}(h:LeV v v'):LnV B v v':=λ_ _ _ _ _ J=>h _ _ _ (RepV.mono w5 _ _ J)
theorem LnV.refl(v:V):LnV B v v:= .le (.refl v)
def LnS.le{v v':S}(h:LeS v v'):LnS B v v':=λ_ _ _ _ _ J=>h _ _ _ (RepS.mono w5 _ _ J)
theorem LnS.refl(v:S):LnS B v v:= .le (.refl v)
def zjX.nil:zjX B [] []:=λ_ _ _ x _ J=>by cases x<;>simp only[RepVs]at J⊢
theorem zjX.cons{v v':V}{vs vs':List V}(h:LnV B v v')(U:zjX B vs vs'):zjX B (v::vs) (v'::vs'):=λM ρ w x hf J=>by
 cases x with
 |nil=>simp only[RepVs]at J
 |cons c cs=>simp only[RepVs]at J ⊢; exact⟨h _ _ _ _ hf J.1,U _ _ _ _ hf J.2⟩
theorem zjX.refl: ∀v:List V,zjX B v v
 | []=> .nil
 |v::vs=> .cons (.refl v) (zjX.refl vs)
theorem LnS.one{v v':V}(h:LnV B v v'):LnS B (.one v) (.one v'):=λM ρ w x hf J=>by simp only[RepS]at J ⊢; exact h _ _ _ _ hf J
theorem LnS.agg{v v':List V}(h:zjX B v v'):LnS B (.agg v) (.agg v'):=λM ρ w x hf J=>by
 simp only[RepS]at J ⊢; obtain⟨cs,U,h2⟩:=J;exact⟨cs,U,h _ _ _ _ hf h2⟩
def zdw.nil:zdw B [] []:=λ_ _ _ x _ J=>by cases x<;>simp only[RepSs]at J⊢
theorem zdw.cons{v v':S}{vs vs':List S}(h:LnS B v v')(U:zdw B vs vs'):zdw B (v::vs) (v'::vs'):=λM ρ w x hf J=>by
 cases x with
 |nil=>simp only[RepSs]at J
 |cons c cs=>simp only[RepSs]at J ⊢; exact⟨h _ _ _ _ hf J.1,U _ _ _ _ hf J.2⟩
theorem zdw.refl: ∀v:List S,zdw B v v
 | []=> .nil
 |v::vs=> .cons (.refl v) (zdw.refl vs)
theorem LnV.ar{id e:Nat}{rows:List (List PV)}(J:(id,.arr e rows)∈B):LnV B (.ar id) (.p (.sl e rows)):=λM ρ w u U hr=>by
 simp only[RepV]at hr⊢;have hA:v7 M w (ρ id) e rows:=U.2 id _ J;rw[hr.1];obtain⟨a,cap,h1,_⟩:=hA;have hA:v7 M w (ρ id) e rows:=U.2 id _ J;exact zhE U.1 hA λb hb=>⟨id,_,J,by rw[h1]at hb ⊢; exact hb⟩
theorem LnV.nv{id e q:Nat}{L:List (List (List PV))}{rs:List (List PV)}(J:(id,.bag e L)∈B)(hq:L[q]?=some rs):LnV B (.nv id q) (.p (.sl e rs)):=λM ρ w u U hr=>by
 simp only[RepV]at hr⊢;obtain⟨xs,f1,f2,_⟩:=hr;exact zhE U.1 (zac (U.2 id _ J) hq f1 f2) λb hb=>⟨id,_,J,by rw[f1];exact zkf f2 hb⟩
theorem LnV.vw{id e:Nat}{ids:List Nat}{rows:List (List PC)}{rows':List (List PV)}(hm:(id,.vw ids e rows)∈B)(hl:rows'.length=rows.length)(hle: ∀r∈rows',r.length=e)
 (hc: ∀(j:Nat) (J:PV),rows'.flatten[j]?=some J-> ∃x,rows.flatten[j]?=some x/\LnV B (toV ids x) (.p J)):LnV B (.ar id) (.p (.sl e rows')):=λM ρ w u hH hr=>by
 simp only[RepV,RepPV]at hr⊢;obtain⟨a,cap,h1,h2,h3,_,h4⟩:=hH.2 id _ hm;refine⟨a,cap,by simp_all,ua,ua,?_⟩;rcases h4 with⟨rfl,hcap⟩|⟨b,o,cs,el,fz,h5,h6,h6',h7,h8⟩
 ·simp_all
 ·refine .inr ⟨b,o,h5,?_⟩;have hb: ∃i r,(i,r)∈B/\Bk (ρ i) b:=⟨id,_,hm,by rw[h1,h5];rfl⟩
  obtain⟨ds,k9,k10⟩:=wy (M:=lentN M ρ w B) (ρ:=ρ) (vs:=rows'.flatten.map V.p) (g:=λj=>cs[o+j]?) λj v U=>by
   rw[uK,uR]at U;obtain⟨J,hx',rfl⟩:=U;obtain⟨x,hx,hv⟩:=hc j J hx';obtain⟨c,c1,c2⟩:=h8 j x hx;exact⟨c,c1,hv _ _ _ _ hH c2⟩
  exact RowsIn.mono (MLe.refl _) (λi c hcc=>zaI hH.1 hb h6 i c hcc) _ _ (RowsIn.yv (ρ:=ρ) hle k9 λj c U=>k10 j c U)
def zhF{α β:Type}{e:Nat}{rows:List (List α)}{rows':List (List β)}{R:α->β->Prop}(hl: ∀r∈rows,r.length=e)(U: ∀r∈rows',r.length=e)
 (h: ∀(i:Nat) (row':List β),rows'[i]?=some row'-> ∃row,rows[i]?=some row/\ ∀(c:Nat) (J:β),row'[c]?=some J-> ∃x,row[c]?=some x/\R x J):
 ∀(j:Nat) (J:β),rows'.flatten[j]?=some J-> ∃x,rows.flatten[j]?=some x/\R x J:=λj J hj=>by
 obtain⟨i,c,row',h1,h2,h3,h4⟩:=zdx U hj;obtain⟨row,g1,g2⟩:=h i row' h3;obtain⟨x,g3,g4⟩:=g2 c J h4;exact⟨x,by rw[h1,v8 hl h2,g1];exact g3,g4⟩
section
variable {d:Option Nat} {ty:TypeId}
def zq5{args:List S}(h:zf P f args [] res [])(B:RL){l:List Operand}{first caps:List V}{ss:List S}
 (hx:okc x (.one (.cl f first caps))) (hl:zes l ss) (hle:zdw B (ones first++ss++ones caps) args) (hf:flatS res=true):
 Snd P ⟨d,.call ⟨.value x,l.toArray,ts⟩,ty,ps,af,g⟩ (rq x (.one (.cl f first caps))++rqs l ss) B [] res []:=by
 intro C st M ρ a w J h1 hT hF hd k Q hk;rw[za]at h1;have e1:=J.evS (zt hx h1.1);have e2:=J.zhu (wU hl h1.2);simp only[RepS,RepV]at e1;obtain⟨xs,ys,e3,e4,e5⟩:=e1;have hall:zbL M ρ w B:=⟨J.run.imm,λi r hm=>J.zH.res i r (xi hT hm)⟩;have e6:RepSs (lentN M ρ w B) ρ args (xs++l.map a.eval++ys):=hle _ _ _ _ hall (yu (yu (yA e4) e2) (yA e5));have e7:xY (lentN M ρ w B) ρ w (tb []):=⟨λ_ _ h=>(by cases h),λ_ _ _ _ _ h=>(by cases h),λ_ _ _ h=>(by cases h)⟩;unfold Oper.wp;rw[zbk h.1 e3,Oper.upon_enter];refine Calls.mono (h.2 (lentN M ρ w B) ρ w _ e6 e7 (zeD J.run.imm) (J.gok.mono w5)) λe w' ⟨v,M',ρ',he,U⟩=>?_;subst he;have hH':=J.grow (w':=w') (λb hb=>U.fram b hb (λ⟨i,r,h,_⟩=>by cases h)) U.size U.os U.tape U.output;exact hk _ _ _ _ (hH'.jQ hd (zeF hf U.rep))
end
section
variable {k:List Frm} {n:Nat} {sl:zd}
def zga{l:List Operand}{ty:TypeId}(hC:C.low){args ss:List S}{first caps:List V}
 (h:zf P f args [] res []) (B:RL) (J:ev sl x=some (.one (.cl f first caps))) (U:evs sl l=some ss) (ha:zdw B (ones first++ss++ones caps) args) (hc:flatS res=true) (hm:metL all sl g0=some gs) (hB:rdT tab B=B) (hd:Nat.blt d n=true)
 (g:Goal P C (.ops all rest (nx md ⟨some d,gs++(rq x (.one (.cl f first caps))++rqs l ss),B,[],res,[]⟩)) k n ((d,res)::sl) tab Q):
 Goal P C (.ops all (⟨some d,.call ⟨.value x,l.toArray,ts⟩,ty,ps,af,g0⟩::rest) md) k n sl tab Q:=by
 have e1:=zu (st:=⟨n,sl,tab⟩) J;have e2:=xl (st:=⟨n,sl,tab⟩) U;have:=zj hm (zq5 (ty:=ty) (ps:=ps) (af:=af) (g:=g0) (d:=some d) (ts:=ts) h B e1.1 e2.1 ha hc) (n:=n) (tab:=tab);exact zN (L:=⟨some d,gs++(rq x (.one (.cl f first caps))++rqs l ss),B,[],res,[]⟩) hC this.1 rfl ⟨by rw[za,za];simp_all,vW hB,rfl,hd⟩ g
def LnR(B:RL)(r r':Res):Prop:= ∀M ρ w i,zbL M ρ w B->zF M ρ w i r->zF (lentN M ρ w B) ρ w i r'
theorem LnR.box{B:RL}{vs vs':List V}(h:zjX B vs vs'):LnR B (.box vs) (.box vs'):=λ_ _ _ _ J ⟨b,cs,el,U,e2,e3⟩=>⟨b,cs,el,U,e2,h _ _ _ _ J e3⟩
def upN(B:RL)(tab:Tab):List (Nat×Res)->Prop
 | []=>True
 |(i,r')::l=>(∃r,tg tab i=some r/\(hasB i B.ids=false/\LnR B r r'))/\upN B tab l
theorem zpO{B:RL}{tab b:Tab}: ∀ {ups:List (Nat×Res)},upN B tab ups-> ∀ {k:Nat} {r:Res},tg (znB ups++b) k=some r->
 tg b k=some r\/ ∃J,tg tab k=some J/\k∉B.ids/\LnR B J r
 | [],_,k,r,h=> .inl h
 |(t,s')::l,hu,k,r,h=>by
  simp only[znB,uL,zy]at h;split at h
  ·rename_i e;subst e;simp only[ui]at h;subst h;obtain⟨J,h1,h2,h3⟩:=hu.1;have n1:t∉B.ids:=λU=>by have:=zbq U;rw[h2]at this;cases this
   simp_all
  ·exact zpO hu.2 h
def zeG(hc:lst cur=true)(B:RL)(hBT:rdT tab B=B)(ups:zd)(hS:upS (LnS B) sl ups)(bs:List (Nat×Res))(hB:upN B tab bs)
 (g:Goal P C cur k n (ups++sl) (znB bs++(xp B.ids++tab)) Q):Goal P C cur k n sl tab Q:=by
 refine zeB hc (λ{M ρ a w} h=>?_) g;have hTB:=vW (n:=n) (sl:=sl) hBT;have hall:zbL M ρ w B:=⟨h.run.imm,λi r hm=>h.zH.res i r (xi hTB hm)⟩
 have J: ∀i r,tg (znB bs++(xp B.ids++tab)) i=some r->i∉B.ids/\ ∃r0,tg tab i=some r0/\(r=r0\/LnR B r0 r):=λi r hi=>by
  rcases zpO hB hi with U|⟨r0,U,h2,h3⟩
  ·have:=zf7 U;exact⟨this.1,r,this.2,.inl rfl⟩
  ·exact⟨h2,r0,U,.inr h3⟩
 refine⟨lentN M ρ w B,ρ,h.dfr,h.sz,λk s hk=>?_,⟨λi r hi=>?_,λi j ri rj b hi hj hne hbi hbj=>?_,λi r b hi hb o=>?_⟩,λi r b hi hb=>?_,
  ⟨zeD h.run.imm,h.run.fram,h.run.size,h.run.base.trans w5,λb o u hu=>?_,h.run.os,h.run.tape,h.run.output⟩,h.keep⟩
 ·rcases zeC hS hk with U|⟨s0,U,h2⟩
  ·exact RepS.mono w5 _ _ (h.slots k s U)
  ·exact h2 _ _ _ _ hall (h.slots k s0 U)
 ·obtain⟨_,r0,U,h2⟩:=J i r hi;rcases h2 with rfl|h2
  ·exact(h.zH.res i r U).mono w5
  ·exact h2 _ _ _ _ hall (h.zH.res i r0 U)
 ·obtain⟨_,r0,U,_⟩:=J i ri hi;obtain⟨_,s0,h2,_⟩:=J j rj hj;exact h.zH.dis i j r0 s0 b U h2 hne hbi hbj
 ·obtain⟨i1,r0,U,_⟩:=J i r hi;cases hm:lentN M ρ w B b o with
  |none=>rfl
  |some u=>
   rcases zeE hm with h3|⟨j,s,hj,hbj⟩
   ·rw[h.zH.own i r0 b U hb o]at h3;cases h3
   ·exact(h.zH.dis i j r0 s b U (xi hTB hj) (λe=>i1 (e ▸ zL hj)) hb hbj).elim
 ·obtain⟨_,r0,U,_⟩:=J i r hi;exact h.ownf i r0 b U hb
 ·rcases zeE hu with h3|⟨j,s,hj,hbj⟩
  ·exact h.run.newM b o u h3
  ·exact .inr (h.ownf j s b (xi hTB hj) hbj)
end
end
end Hw
namespace Hw.Gm
open Go Go.Proofs Hw.M
def wRows:List Nd->Nat->List (List PC)
 | [],_=>[]
 |x::r,j=>[.p (ki x.t),.n 0 j]::wRows r (j+1)
theorem yq: ∀(l:List Nd) (j:Nat),(wRows l j).length=l.length
 | [],_=>rfl
 |_::r,j=>by simp only[wRows,uW,yq r]
theorem xS: ∀(l:List Nd) (j i:Nat),(wRows l j)[i]?=(l[i]?).map λx=>[PC.p (ki x.t),PC.n 0 (j+i)]
 | [],_,_=>by simp[wRows]
 |x::r,j,0=>by simp[wRows]
 |x::r,j,i+1=>by
  simp only[wRows,uZ,xS r];rw[show j+1+i=j+(i+1) by omega]
def wJ(l:List Nd)(j:Nat): ∀r∈wRows l j,r.length=2:=λr U=>by
 obtain⟨i,J⟩:=tY.1 U;rw[xS,uR]at J;obtain⟨x,_,rfl⟩:=J;rfl
theorem zgb{l l':List Nd}(hl:l.length=l'.length)(h: ∀(i:Nat) x y,l[i]?=some x->l'[i]?=some y->x.t=y.t)(j:Nat):wRows l j=wRows l' j:=by
 refine List.ext_getElem? λi=>?_;rw[xS,xS];cases e:l[i]? with
 |none=>
  have:l'[i]?=none:=by rw[List.getElem?_eq_none_iff]at e ⊢; omega
  rw[this]
 |some x=>
  have hlt:=(ux.1 e).1;obtain⟨y,J⟩:=zb (l:=l') (i:=i) ua;rw[J,uH,uH,h i x y e J]
variable {x:Nd}
def zkm(l:List Nd){k:Nat}(hx:l[k]?=some x)(f:List Int):wRows (l.set k ⟨x.t,f⟩) 0=wRows l 0:=by
 refine zgb (by rw[qQ]) (λi y z J U=>?_) 0;by_cases e:k=i
 ·subst e;rw[hx]at U;rw[List.getElem?_set_self (ux.1 hx).1]at J;rw[<-uY J,<-uY U]
 ·rw[Uo e,U]at J;rw[uY J]
def jR(l:List Nd):List (List (List PV)):=l.map λx=>x.f.map z8
def zbM{l:List Nd}{k:Nat}(h:l[k]?=some x):(jR l)[k]?=some (x.f.map z8):=by unfold jR;rw[uK,h];rfl
def znX(l:List Nd)(k:Nat)(x:Nd)(f:List Int):(jR l).set k (f.map z8)=jR (l.set k ⟨x.t,f⟩):=by unfold jR;rw[Uf]
def zdy(l:List Int): ∀r∈l.map z8,r.length=1:=λr J=>by obtain⟨y,_,rfl⟩:=qe.1 J;rfl
def zkn(l:List Int)(k:Nat)(v:Int): ∀m p,((l.set k v).map z8).flatten[m]?=some p->(k*1<=m/\([ki v]:List PV)[m - k*1]?=some p)\/((m<k*1\/k*1+1<=m)/\(l.map z8).flatten[m]?=some p):=λm p h=>by
 rw[Uf]at h;rcases znY (zdy l) rfl h with⟨c,J,h2,h3⟩|⟨J,h2⟩
 ·have U:c=0:=by omega
  subst U;refine .inl ⟨ua,?_⟩;rw[show m - k*1=0 by omega];exact h3
 ·exact .inr ⟨J,h2⟩
def ztR(l:List Nd)(a b:Nat): ∀x∈(wRows l 0).flatten,toV [a] x=toV [a,b] x:=λx hx=>by
 obtain⟨r,hr,J⟩:=List.mem_flatten.1 hx;obtain⟨j,U⟩:=tY.1 hr;rw[xS,uR]at U;obtain⟨y,_,rfl⟩:=U;simp only[uI,List.not_mem_nil,oL]at J;rcases J with rfl|rfl<;>rfl
def zgc(l:List Nd)(t:Int)(a b:Nat):(wRows l 0++[[PC.p (ki t),PC.a 1]]).length=(wRows l 0).length+([[PC.p (ki t),PC.a 0]]:List (List PC)).length/\(∀r∈wRows l 0++[[PC.p (ki t),PC.a 1]],r.length=2)/\
 (∀(j:Nat) (U:PC),j<(wRows l 0).length*2->(wRows l 0++[[PC.p (ki t),PC.a 1]]).flatten[j]?=some U-> ∃x,(wRows l 0).flatten[j]?=some x/\toV [a] x=toV [a,b] U)/\
   ∀(j:Nat) (U:PC),(wRows l 0++[[PC.p (ki t),PC.a 1]]).flatten[(wRows l 0).length*2+j]?=some U-> ∃x,([[PC.p (ki t),PC.a 0]]:List (List PC)).flatten[j]?=some x/\toV [b] x=toV [a,b] U:=
 zkl (wJ l 0) (λr hr=>by simp only[tv]at hr;subst hr;rfl) rfl (ztR l a b) λj U J=>by
  match j,J with
  |0,J=>simp only[tO,oy,uV,List.getElem?_cons_zero,ui]at J;subst J;exact⟨_,rfl,rfl⟩
  |1,J=>simp only[tO,oy,uV,uZ,List.getElem?_cons_zero,ui]at J;subst J;exact⟨_,rfl,rfl⟩
  |j+2,J=>simp at J
def zgd(l:List Nd)(x:Nd)(a b c:Nat):RwR (TkF a b c l.length) (.vw [a,b] 2 (wRows l 0++[[PC.p (ki x.t),PC.a 1]])) (.vw [c] 2 (wRows (l++[x]) 0)):=by
 have h2: ∀r∈wRows l 0++[[PC.p (ki x.t),PC.a 1]],r.length=2:=λr hr=>(tp.1 hr).elim (wJ l 0 r) λh=>by simp only[tv]at h;subst h;rfl
 refine RwR.vw (by rw[yq,uP,uP,yq];rfl) (wJ _ _) (zhF h2 (wJ _ _) λj row' U=>?_);rw[xS]at U;rw[Uq,yq];by_cases h1:j<l.length
 ·rw[uw h1,xS];rw[tU h1]at U;obtain⟨y,hy,rfl⟩:=uR.1 U;rw[hy];refine⟨_,rfl,λc x' J=>?_⟩
  match c,J with
  |0,J=>simp only[List.getElem?_cons_zero,ui]at J;subst J;exact⟨_,rfl,RwV.refl _⟩
  |1,J=>simp only[uZ,List.getElem?_cons_zero,ui]at J;subst J;exact⟨_,rfl,TkF.nv⟩
  |c+2,J=>simp at J
 ·rw[ur h1];rw[qu ua]at U;by_cases h3:j=l.length
  ·subst h3;rw[Ua]at U⊢;simp only[List.getElem?_cons_zero,uH,ui]at U;subst U;refine⟨_,rfl,λc x' J=>?_⟩
   match c,J with
   |0,J=>simp only[List.getElem?_cons_zero,ui]at J;subst J;exact⟨_,rfl,RwV.refl _⟩
   |1,J=>simp only[uZ,List.getElem?_cons_zero,ui]at J;subst J;rw[tM];exact⟨_,rfl,TkF.ar⟩
   |c+2,J=>simp at J
  ·obtain⟨k,hk⟩: ∃k,j - l.length=k+1:=⟨j - l.length - 1,ua⟩;rw[hk]at U;simp at U
def zko(l:List Nd)(t:Int)(n:Nat):jR l++[List.replicate n [ki 0]]=jR (l++[⟨t,List.replicate n 0⟩]):=by
 simp only[jR,u6,uN,qv,oM,z8]
def zdz(l:List Nd):(jR l).length=l.length:=by simp only[jR,uk]
end Hw.Gm
namespace Hw.Gm.Ps
open Go Go.Proofs Hw.M
abbrev uc(c:Int):S:= .one (.p (.k (.int .u8 c)))
def xU(c:Int):Bool:=(decide (97<=c)&&decide (c<=122))||(decide (65<=c)&&decide (c<=90))
def isDigit(c:Int):Bool:=decide (48<=c)&&decide (c<=57)
def isWord(c:Int):Bool:=(xU c||isDigit c)||decide (c=95)
def zdA:List Str:=[(⟨#[116,121,112,101]⟩:UB),(⟨#[118,97,114]⟩:UB),(⟨#[112,114,111,99]⟩:UB),(⟨#[108,111,99,97,108]⟩:UB),(⟨#[109,101,97,115,117,114,101]⟩:UB),(⟨#[105,110,118,97,114,105,97,110,116]⟩:UB),(⟨#[112,111,116,101,110,116,105,97,108]⟩:UB),(⟨#[98,111,117,110,100]⟩:UB),(⟨#[105,102]⟩:UB),(⟨#[101,108,115,101]⟩:UB),(⟨#[119,104,105,108,101]⟩:UB),(⟨#[114,101,116,117,114,110]⟩:UB),(⟨#[110,101,119]⟩:UB),(⟨#[110,105,108]⟩:UB),(⟨#[116,114,117,101]⟩:UB),(⟨#[102,97,108,115,101]⟩:UB),(⟨#[97,110,100]⟩:UB),(⟨#[111,114]⟩:UB),(⟨#[110,111,116]⟩:UB),(⟨#[109,97,120]⟩:UB),(⟨#[109,105,110]⟩:UB),(⟨#[108,111,103]⟩:UB),(⟨#[105,110,116]⟩:UB),(⟨#[98,111,111,108]⟩:UB),(⟨#[116,104,105,115]⟩:UB),(⟨#[115,111,114,116]⟩:UB),(⟨#[111,112]⟩:UB),(⟨#[114,117,108,101]⟩:UB),(⟨#[115,112,101,99]⟩:UB),(⟨#[100,101,115,99]⟩:UB),(⟨#[115,99,114,105,112,116]⟩:UB)]
def wK(s:Str):Bool:=zdA.any λx=>decide (x=s)
def bytes(s:Str):List Int:=s.data.toList.map λb=>(b.toNat:Int)
variable {i:Nat}
def zhG{s:Str}{c:Int}(h:(bytes s)[i]?=some c): ∃b:UInt8,s[((i:Nat):Int).toNat]?=some b/\c=(b.toNat:Int):=by
 simp only[bytes,uK,uR]at h;obtain⟨b,hb,rfl⟩:=h;refine⟨b,?_,rfl⟩
 have J:i<s.data.size:=by
  have:=(ux.1 hb).1;simpa using this
 have:s.data[i]=b:=by rw[qw,tT J]at hb;exact uY hb
 have U:i<s.size:=J;simp only[u7];rw[getElem?_pos s i U];exact u5 some this
def zkp(s:Str):(bytes s).length=s.size:=by simp only[bytes,uk,qg];rfl
def isName(s:Str):Bool:= !decide (s.size=0)&& !decide (40<s.size)&&(match bytes s with| []=>false|c::_=>xU c)&&(bytes s).all isWord&& !wK s
def isType(s:Str):Bool:=decide (s=(⟨#[105,110,116]⟩:UB))||decide (s=(⟨#[98,111,111,108]⟩:UB))||isName s
def zhH(s:Str):Bool:=decide (s=(⟨#[]⟩:UB))||isName s
def zdB(f:Fld):Bool:=isName f.n&&isType f.t
def xh(l:List Fld)(most:Int):Bool:=decide ((l.length:Int)<=most)&&l.all zdB
def zbN(a b:List Int):zf Tryz.prog 33 [pS (yZ a),pS (yZ b)] [] (.bq (decide (a=b))) []:=by
 refine gO T Tryz.func33 λC hC=>?_;refine wi 0 rfl λU=>?_;rw[uk]at U
 repeat' first|refine gG ?_|refine gB ?_ ?_<;>intro h|refine gL ?_
 ·have:=uo (by simpa using h:decide (((a.map z8).length:Int)=((b.map z8).length:Int))=false);simp only[uk]at this;exact(uF λe=>this (by rw[e])).symm
 ·have hab:a.length=b.length:=by
   have:=uj (by simpa using h:decide (((a.map z8).length:Int)=((b.map z8).length:Int))=true);simp only[uk]at this;omega
  refine zn (λi:Nat=>i<=a.length/\a.take i=b.take i) (λi=>([(0,pS (yZ a)),(1,pS (yZ b)),(5,I i)],[])) (λi=>a.length - i) hC
   0 ⟨uE _,ue⟩ id gM ?_
  rintro i ⟨hi,hn⟩;refine zm T hC true 200 rfl ?_;refine zp rfl ?_ ?_<;>intro h
  ·have hlt:i<a.length:=by simpa using h
   obtain⟨x,hx⟩:=zb hlt;obtain⟨y,hy⟩:=zb (hab ▸ hlt)
   repeat' first|refine gG ?_|refine gB ?_ ?_<;>intro h|refine gX ?_|refine zl ?_|refine gL ?_
   ·have J:x≠y:=by simpa using h
    exact(uF λe=>J (by subst e;rw[hx]at hy;exact uY hy)).symm
   ·have J:x=y:=by simpa using h
    subst J;rw[wrap64 ua];exact zh (i+1) ⟨ua,zkq hx hy hn⟩ id ua gM
  ·have hge: ¬i<a.length:=by simpa using h
   repeat' first|refine gG ?_|refine gB ?_ ?_<;>intro h|refine ze ?_|refine gL ?_
   rw[uQ ua,uQ ua]at hn;exact(uT hn).symm
def vd(d:zg)(s:Str):Int:=idxOf (λt=>decide (t.n=s)) d.types
def jS(s:Str):Bool:=decide (s=(⟨#[105,110,116]⟩:UB))||decide (s=(⟨#[98,111,111,108]⟩:UB))
def known(d:zg)(f:Fld):Bool:=jS f.t|| !decide (vd d f.t<0)
def znZ(a b:Hp):zf Tryz.prog 13 [zr (yS a),zr (yS b)] [] (.bq (decide (a=b))) []:=by
 refine gO T Tryz.func13 λC hC=>?_;refine vN rfl 0 1 rfl rfl λU=>?_;rw[uk]at U
 repeat' first|refine gG ?_|refine gB ?_ ?_<;>intro h|refine gC (zbN _ _) ?_|refine gL ?_
 ·have hg:a.g≠b.g:=by simpa using h
  exact(uF λe=>hg (by rw[e])).symm
 ·have:=uo (by simpa using h:decide (((a.n.map xL).length:Int)=((b.n.map xL).length:Int))=false);simp only[uk]at this;exact(uF λe=>this (by rw[e])).symm
 ·have hab:a.n.length=b.n.length:=by
   have:=uj (by simpa using h:decide (((a.n.map xL).length:Int)=((b.n.map xL).length:Int))=true);simp only[uk]at this;omega
  rename_i hg0;have hg:a.g=b.g:=by simpa using hg0
  refine zn (λi:Nat=>i<=a.n.length/\a.n.take i=b.n.take i) (λi=>([(2,.one (.bx 1002 0)),(3,.one (.bx 1003 0)),(5,I i)],[(1002,some (.box ((yS a).map V.p))),(1003,some (.box ((yS b).map V.p)))])) (λi=>a.n.length - i) hC
   0 ⟨uE _,ue⟩ id gM ?_
  rintro i ⟨hi,hn⟩;refine zm T hC true 200 rfl ?_;refine zp rfl ?_ ?_<;>intro h
  ·have hlt:i<a.n.length:=by simpa using h
   obtain⟨x,hx⟩:=zb hlt;obtain⟨y,hy⟩:=zb (hab ▸ hlt);have no:x≠y->false=decide (a=b):=λJ=>(uF λe=>J (by subst e;rw[hx]at hy;exact uY hy)).symm
   repeat' first|refine gG ?_|refine gB ?_ ?_<;>intro h|refine gX ?_|refine gC (zbN _ _) ?_|refine zl ?_|refine gL ?_
   ·have J:x.t≠y.t:=by simpa using h
    exact no λe=>J (by rw[e])
   ·have J:x.f≠y.f:=by simpa using h
    exact no λe=>J (by rw[e])
   ·rename_i ht;have h1:x.t=y.t:=by simpa using ht
    have h2:x.f=y.f:=by simpa using h
    have J:x=y:=by cases x;cases y;simp_all
    subst J;rw[wrap64 ua];exact zh (i+1) ⟨ua,zkq hx hy hn⟩ id ua gM
  ·have hge: ¬i<a.n.length:=by simpa using h
   repeat' first|refine gG ?_|refine gB ?_ ?_<;>intro h|refine ze ?_|refine gL ?_
   rw[uQ ua,uQ ua]at hn;exact(uT (by cases a;cases b;simp_all)).symm
def zcM(d:zg)(m:Hp)(t:Str)(v:Int):Bool:=
 if t=(⟨#[105,110,116]⟩:UB)then decide (-1099511627776<=v)&&decide (v<=1099511627776)
 else if t=(⟨#[98,111,111,108]⟩:UB)then decide (v=0)||decide (v=1)
 else decide (v=0)||(decide (1<=v)&&decide (v<=m.n.length)&&decide ((m.n[(v - 1).toNat]?).map (·.t)=some (vd d t)))
def zge(m:Hp):Bool:=decide (60<(m.g.length:Int))||decide (60<(m.n.length:Int))||m.n.any λx=>decide (60<(x.f.length:Int))
def zq6(m:Hp):zf Tryz.prog 25 [zr (yS m)] [] (.bq (zge m)) []:=by
 refine gO T Tryz.func25 λC hC=>?_
 repeat' first|refine gG ?_|refine gB ?_ ?_<;>intro h|refine gL ?_
 ·rw[uk]at h;simp only[zge,h,qR]
 ·rename_i J;rw[uk]at h J;simp only[zge,h,J,qR,qO]
 ·rename_i J;rw[uk]at h J;have hlen:m.n.length<=60:=by have:=uo h;omega
  have hm:zge m=m.n.any λx=>decide (60<(x.f.length:Int)):=by simp only[zge,h,J,tw]
  rw[hm]
  refine zn (λi:Nat=>i<=m.n.length/\(m.n.take i).any (λx=>decide (60<(x.f.length:Int)))=false) (λi=>([(1,.one (.bx 1001 0)),(3,I i)],[(1001,some (.box ((yS m).map V.p)))])) (λi=>m.n.length - i) hC
   0 ⟨uE _,ue⟩ id gM ?_
  rintro i ⟨hi,hn⟩;refine zm T hC true 200 rfl ?_;refine zp rfl ?_ ?_<;>intro h
  ·have U:i<m.n.length:=by simpa using h
   obtain⟨x,hx⟩:=zb U
   repeat' first|refine gG ?_|refine gB ?_ ?_<;>intro h|refine gX ?_|refine zl ?_|refine gL ?_
   ·rw[uk]at h;exact(zgf hx h).symm
   ·rw[uk]at h;rw[wrap64 ua];refine zh (i+1) ⟨ua,?_⟩ id ua gM;rw[zdC hx,hn,h];rfl
  ·have hge: ¬i<m.n.length:=by simpa using h
   repeat' first|refine gG ?_|refine gB ?_ ?_<;>intro h|refine ze ?_|refine gL ?_
   exact(zq7 ua hn).symm
def zn0(d:zg):Hp:=⟨List.replicate d.globals.length 0,[]⟩
def newRow(n:Nat):List.replicate n [PV.k (.int .i64 0)]=(List.replicate n (0:Int)).map z8:=by rw[oM];rfl
def zX(op:Int):Int:=
 if(decide (1<=op)&&decide (op<=4))||decide (op=6)then 0
 else if((decide (op=5)||decide (op=8))||decide (op=18))||decide (op=24)then 1
 else if op=7 then -1
 else if op=21 then 3
 else if decide (9<=op)&&decide (op<=23)then 2
 else -2
def za2(e:Ex):Bool:=
 if e.op=4 then decide (e.s=(⟨#[116,104,105,115]⟩:UB))||isName e.s
 else if e.op=5\/e.op=6\/e.op=7 then isName e.s
 else decide (e.s=(⟨#[]⟩:UB))
def vU(e:Ex):Bool:=
 !decide (zX e.op= -2)&& !(decide (0<=zX e.op)&& !decide ((e.l.length:Int)=zX e.op))&& !(decide (zX e.op= -1)&&decide (6<(e.l.length:Int)))&&za2 e&&
 (if e.op=1 then decide (0<=e.n)&&decide (e.n<=1099511627776)else if e.op=2 then decide (e.n=0)||decide (e.n=1)else decide (e.n=0))
mutual
def countS:Ex->Int->Int
 | .mk op n s l,d=>if decide (60<d)|| !vU (.mk op n s l)then 1001 else countL l d 1
def countL:List Ex->Int->Int->Int
 | [],_,n=>n
 |e::es,d,n=>if 1000<n+countS e (d+1)then n+countS e (d+1)else countL es d (n+countS e (d+1))
end
mutual
theorem wc: ∀(e:Ex) (d:Int),1<=countS e d/\countS e d<=1001+1000*(if d<=60 then 61 - d else 0)
 | .mk op n s l,d=>by
   simp only[countS];split
   ·split<;>omega
   ·rename_i h;simp only[uO,uq,uy,oX]at h;have:=ja l d 1 ua ua ua;rw[uw ua];omega
theorem ja: ∀(l:List Ex) (d n:Int),1<=n->n<=1000->d<=60->1<=countL l d n/\countL l d n<=1001+1000*(61 - d)
 | [],d,n,h1,h2,h3=>by simp only[countL];omega
 |e::es,d,n,h1,h2,h3=>by
  simp only[countL];have hb:=wc e (d+1);split at hb
  ·split
   ·omega
   ·exact ja es d _ ua ua h3
  ·split
   ·omega
   ·exact ja es d _ ua ua h3
end
variable {α:Type}{x:α}
def drop_at{l:List α}(h:l[i]?=some x):l.drop i=x::l.drop (i+1):=by
 obtain⟨J,rfl⟩:=ux.1 h;exact qi J
def yE(e:Ex):Bool:=decide (countS e 1<=1000)
def wL(s:Sm)(lo hi:Int):Bool:= !decide ((s.e.length:Int)<lo)&& !decide (hi<(s.e.length:Int))&&s.e.all yE
def zD{l:List Ex}{x:Ex}(h:l[0]?=some x):(l.map xt)[(0:Int).toNat]?=some (yp x):=wh (i:=0) h
def zkr(s:Sm):Bool:=decide ((s.l.length:Int)=0)&&decide ((s.els.length:Int)=0)
def zhI(s:Sm)(b:Bool):Bool:=
 if s.op=1 then isName s.s&&wL s 1 1&&b
 else if s.op=2 then isName s.s&&wL s 2 2&&b
 else if s.op=3 then decide (s.s=(⟨#[]⟩:UB))&&wL s 1 1
 else if s.op=4 then decide (s.s=(⟨#[]⟩:UB))&&wL s 1 1&&decide ((s.els.length:Int)=0)
 else if s.op=5 then decide (s.s=(⟨#[]⟩:UB))&&wL s 0 1&&b
 else if s.op=6 then decide (s.s=(⟨#[]⟩:UB))&&wL s 1 1&&decide ((s.e[0]?).map Ex.op=some 7)&&b
 else false
def vO(s:Sm):Bool:=zhI s (zkr s)
def zeH(n k:Int):Int:=if n<=200 then n+k else n
mutual
def stN:Sm->Int->Int->Int
 | .mk op s e l els,d,n=>if decide (60<d)|| !vO (.mk op s e l els)then 201 else zeH (zeH (n+1) (stL l (d+1) 0)) (stL els (d+1) 0)
def stL:List Sm->Int->Int->Int
 | [],_,n=>n
 |s::r,d,n=>if 200<stN s d n then stN s d n else stL r d (stN s d n)
end
def zhJ(s:Sm)(d n:Int):stN s d n=if decide (60<d)|| !vO s then 201 else zeH (zeH (n+1) (stL s.l (d+1) 0)) (stL s.els (d+1) 0):=by
 cases s;simp only[stN,Sm.l,Sm.els]
def zn1(d:Int):Int:=201+400*(if d<=60 then 61 - d else 0)
def zcN{n k K:Int}(hn:0<=n)(hk:0<=k/\k<=K)(h:n<=200+K):0<=zeH n k/\zeH n k<=200+K:=by
 unfold zeH;split<;>omega
mutual
theorem zeI: ∀(s:Sm) (d n:Int),0<=n->n<=200->0<=stN s d n/\stN s d n<=zn1 d
 | .mk op s e l els,d,n,h0,h1=>by
   simp only[stN];split
   ·unfold zn1;split<;>omega
   ·rename_i h;simp only[uO,uq,uy,oX]at h;have b1:=y9 l (d+1) 0 ua ua;have b2:=y9 els (d+1) 0 ua ua;have b0:1<=zn1 (d+1):=by unfold zn1;split<;>omega
    have c1:=zcN (n:=n+1) ua b1 ua;have c2:=zcN c1.1 b2 c1.2;have:200+zn1 (d+1)<=zn1 d:=by unfold zn1;rw[uw (c:=d<=60) ua];split<;>omega
    omega
theorem y9: ∀(l:List Sm) (d n:Int),0<=n->n<=200->0<=stL l d n/\stL l d n<=zn1 d
 | [],d,n,h0,h1=>by
   simp only[stL];refine⟨h0,?_⟩;unfold zn1;split<;>omega
 |s::r,d,n,h0,h1=>by
  simp only[stL];have b:=zeI s d n h0 h1;split
  ·exact b
  ·exact y9 r d _ b.1 ua
end
def zhK(s:Sm):sizeOf s.l<sizeOf s/\sizeOf s.els<sizeOf s:=by
 cases s;simp only[Sm.l,Sm.els,Sm.mk.sizeOf_spec];omega
def zgg[SizeOf α]{l:List α}(h:l[i]?=some x):sizeOf x<sizeOf l:=qx (uv h)
def zaf(p:Pr):Bool:=isName p.n&&xh p.params 6&&xh p.locs 12&&(decide (p.res=(⟨#[]⟩:UB))||isType p.res)&&decide (stL p.body 1 0<=200)
def vP(m:Ms):Bool:=isName m.n&&isName m.t&& !decide (m.z< -1099511627776)&& !decide (1099511627776<m.z)&&yE m.x
def zbO(m:Iv):Bool:=isName m.n&&zhH m.t&&yE m.x
def zbP(m:Pt):Bool:=zhH m.t&&yE m.x
def zaJ(m:Bd):Bool:=isName m.p&&yE m.x
def yr(d:zg):Bool:=d.measures.all vP&&d.invs.all zbO&&d.pots.all zbP&&d.bounds.all zaJ
def zag(t:z7):Bool:=isName t.n&&xh t.f 12
def jx(d:zg):Bool:=isName d.n&& !decide (12<(d.types.length:Int))&&xh d.globals 8&& !decide (40<(d.procs.length:Int))&&
 !decide (12<(d.measures.length:Int))&& !decide (12<(d.invs.length:Int))&& !decide (12<(d.pots.length:Int))&& !decide (12<(d.bounds.length:Int))
def yl(d:zg):Bool:=jx d&&d.types.all zag&&d.procs.all zaf&&yr d
def zbQ(f:Fld):Bool:=decide (100<(f.n.size:Int))||decide (100<(f.t.size:Int))
def zeJ(l:List Fld):Bool:=decide (60<(l.length:Int))|| !l.all λf=> !zbQ f
def zgh(l:List Fld):zf Tryz.prog 78 [pS (zC l)] [] (.bq (zeJ l)) []:=by
 refine gO T Tryz.func78 λC hC=>?_
 repeat' first|refine gG ?_|refine gB ?_ ?_<;>intro h|refine gL ?_
 ·rw[uk]at h;simp only[zeJ,h,qR]
 ·rw[uk]at h;have hw:zeJ l= !l.all λf=> !zbQ f:=by simp only[zeJ,h,tw]
  rw[hw];have hlen:=uo h;clear h hw
  refine zn (λi:Nat=>i<=(l).length/\((l).take i).all (λf=> !zbQ f)=true) (λi=>([(0,pS (zC l)),(3,I i)],[])) (λi=>(l).length - i) hC
   0 ⟨uE _,ue⟩ id gM ?_
  rintro i ⟨hi,U⟩;refine zm T hC true 200 rfl ?_;refine zp rfl ?_ ?_<;>intro h
  ·have J:i<(l).length:=by first|simpa using h|(have h':=uj h;simp only[uk,td]at h' ⊢; omega)
   clear h;obtain⟨x,hx⟩:=zb J
   repeat' first|refine gG ?_|refine gB ?_ ?_<;>intro h|refine gX ?_|refine zl ?_|refine gL ?_
   all_goals first
    |(have hp:(λf=> !zbQ f) x=true:=by clear U hx J hi;simp_all[zbQ, -List.all_eq_true, -List.all_eq_false]<;>omega
      have hlt':=J
      try simp only[td,qy]at hlt'
      rw[wrap64 ua];refine zh (i+1) ⟨ua,?_⟩ id ua gM
      rw[xV (p:=λf=> !zbQ f) hx,U,tn];exact hp)
    |(have hp:(λf=> !zbQ f) x=false:=by clear U hx J hi;simp_all[zbQ, -List.all_eq_true, -List.all_eq_false]<;>omega
      have hno:=zah (p:=λf=> !zbQ f) hx hp
      rw[hno];rfl)
  have hge: ¬i<(l).length:=by first|simpa using h|(have h':=uo h;simp only[uk,td]at h' ⊢; omega)
  have hall:(l).all (λf=> !zbQ f)=true:=jb (p:=λf=> !zbQ f) ua U;clear h hge U hi
  repeat' first|refine gG ?_|refine gB ?_ ?_<;>intro h|refine ze ?_|refine gL ?_
  rw[hall];rfl
mutual
def leftS:Ex->Int->Int->Int
 | .mk _ _ s l,d,n=>if decide (n<=0)||decide (d=0)||decide (100<(s.size:Int))then -1 else leftL l (d - 1) (n - 1)
def leftL:List Ex->Int->Int->Int
 | [],_,n=>n
 |e::es,d,n=>if 0<=n then leftL es d (leftS e d n)else n
end
def zbs(e:Ex)(d n:Int):leftS e d n=if decide (n<=0)||decide (d=0)||decide (100<(e.s.size:Int))then -1 else leftL e.l (d - 1) (n - 1):=by
 cases e;rfl
mutual
theorem xj: ∀(e:Ex) (d n:Int), -1<=n-> -1<=leftS e d n/\leftS e d n<=n
 | .mk a b s l,d,n,h=>by
   simp only[leftS];split
   ·omega
   ·rename_i h';simp only[uO,uq,oX]at h';have:=vt l (d - 1) (n - 1) ua;omega
theorem vt: ∀(l:List Ex) (d n:Int), -1<=n-> -1<=leftL l d n/\leftL l d n<=n
 | [],d,n,h=>by simp only[leftL];omega
 |e::es,d,n,h=>by
  simp only[leftL];split
  ·have h1:=xj e d n h;have h2:=vt es d _ h1.1;omega
  ·omega
end
theorem zeK{l:List Ex}{d n:Int}(h:n<0):leftL l d n=n:=by
 cases l with
 |nil=>rfl
 |cons e es=>simp only[leftL];rw[ur ua]
def zeL(e:Ex):sizeOf e.l<sizeOf e:=by
 cases e;simp only[Ex.l,Ex.mk.sizeOf_spec];omega
theorem zq8: ∀(N:Nat) (e:Ex) (d n:Int),sizeOf e<N->0<=d->d<=1000-> -1<=n->n<=1000000->zf Tryz.prog 80 [zr (yp e),I d,I n] [] (I (leftS e d n)) []:=by
 intro N
 induction N with
 |zero=>intro e d n h;omega
 |succ N ih=>
  intro e d n hN hd1 hd2 hn1 hn2;refine gO T Tryz.func80 λC hC=>?_;refine vN rfl 0 3 rfl rfl λhlen=>?_;rw[uk]at hlen
  repeat' first|refine gG ?_|refine gB ?_ ?_<;>intro h|refine gN ?_
  ·rw[zbs,h];rfl
  ·rename_i U;rw[zbs,U,h];rfl
  ·rename_i U h1;rw[zbs,U,h1,h];rfl
  ·rename_i U h1;have hc:leftS e d n=leftL e.l (d - 1) (n - 1):=by rw[zbs,U,h1,h];rfl
   have e0:=uo U;have e1:=uo h1;clear U h1 h;have w0:IntKind.i64.wrap (n - 1)=n - 1:=wrap64 ua;have w1:IntKind.i64.wrap (d - 1)=d - 1:=wrap64 ua;rw[hc,w0]
   refine zn (λp:Nat×Int=>p.1<=e.l.length/\ -1<=p.2/\p.2<=1000000/\leftL (e.l.drop p.1) (d - 1) p.2=leftL e.l (d - 1) (n - 1)) (λp=>([(1,I d),(2,I p.2),(3,.one (.bx 1003 0)),(7,I p.1)],[(1003,some (.box ((yp e).map V.p)))])) (λp=>e.l.length - p.1) hC
    (0,n - 1) ⟨uE _,by simp only;omega,by simp only;omega,rfl⟩ id gM ?_
   rintro⟨i,m⟩ ⟨hi,hm1,hm2,J⟩;simp only at hi hm1 hm2 J
   repeat' first|refine gG ?_|refine gB ?_ ?_<;>intro h|refine ze ?_|refine gN ?_
   ·rename_i hlt0;have hlt:i<e.l.length:=by simpa using hlt0
    have hm0:0<=m:=uj h;obtain⟨x,hx⟩:=zb hlt;have hsz:=zgg hx;have hsz2:=zeL e;rw[drop_at hx]at J;simp only[leftL,uw hm0]at J;have hb:=xj x (d - 1) m hm1;have k1:=ih x (d - 1) m ua ua ua hm1 hm2;have w4:IntKind.i64.wrap ((i:Int)+1)=((i+1:Nat):Int):=by rw[show((i:Int)+1)=((i+1:Nat):Int) by omega];exact wrap64 ua
    repeat' first|refine gG ?_|refine gB ?_ ?_<;>intro h|refine gXE ?_|rw[w1]|refine gC k1 ?_
    rw[w4];exact zh (i+1,leftS x (d - 1) m) ⟨by simp only;omega,by simp only;omega,by simp only;omega,J⟩ id (by simp only;omega) gM
   ·have hm0:m<0:=qV.1 (uo h);rw[zeK hm0]at J;exact J
   ·have hge: ¬i<e.l.length:=by simpa using h
    rw[uC ua]at J;exact J
mutual
def laN:Sm->Int->Int->Int
 | .mk _ s e l els,d,n=>if 100<(s.size:Int)then -1 else
    if 0<=(if 0<=leftL e 65 (n - 1)then(if d - 1=0 then -1 else laL l (d - 1) (leftL e 65 (n - 1)))else leftL e 65 (n - 1))then
     (if d - 1=0 then -1 else laL els (d - 1) (if 0<=leftL e 65 (n - 1)then(if d - 1=0 then -1 else laL l (d - 1) (leftL e 65 (n - 1)))else leftL e 65 (n - 1)))
    else(if 0<=leftL e 65 (n - 1)then(if d - 1=0 then -1 else laL l (d - 1) (leftL e 65 (n - 1)))else leftL e 65 (n - 1))
def laL:List Sm->Int->Int->Int
 | [],_,n=>n
 |s::r,d,n=>if 0<=n then laL r d (laN s d n)else n
end
def laS(l:List Sm)(d n:Int):Int:=if d=0 then -1 else laL l d n
def laT(l:List Sm)(d n:Int):Int:=if 0<=n then laS l d n else n
def zpP(s:Sm)(d n:Int):laN s d n=if 100<(s.s.size:Int)then -1 else laT s.els (d - 1) (laT s.l (d - 1) (leftL s.e 65 (n - 1))):=by
 cases s;rfl
def zai{l:List Sm}{d n:Int}(h: -1<=n)(J:0<=n-> -1<=laL l d n/\laL l d n<=n): -1<=laT l d n/\laT l d n<=n:=by
 unfold laT laS;split
 ·split
  ·omega
  ·exact J ua
 ·omega
mutual
theorem zks: ∀(s:Sm) (d n:Int),0<=n-> -1<=laN s d n/\laN s d n<=n
 | .mk op s e l els,d,n,h=>by
   rw[zpP];by_cases hh:100<((Sm.mk op s e l els).s.size:Int)
   ·rw[uw hh];omega
   ·rw[ur hh];simp only[Sm.els,Sm.l,Sm.e];have h1:=vt e 65 (n - 1) ua;have h2:=zai (l:=l) (d:=d - 1) h1.1 (λh0=>vh l (d - 1) _ ua);have h3:=zai (l:=els) (d:=d - 1) h2.1 (λh0=>vh els (d - 1) _ ua);omega
theorem vh: ∀(l:List Sm) (d n:Int), -1<=n-> -1<=laL l d n/\laL l d n<=n
 | [],d,n,h=>by simp only[laL];omega
 |s::r,d,n,h=>by
  simp only[laL];split
  ·rename_i h0;have h1:=zks s d n h0;have h2:=vh r d _ h1.1;omega
  ·omega
end
theorem zkt{l:List Sm}{d n:Int}(h:n<0):laL l d n=n:=by
 cases l with
 |nil=>rfl
 |cons e es=>simp only[laL];rw[ur ua]
def zku{l:List Sm}{d n:Int}(h:0<=n): -1<=laS l d n/\laS l d n<=n:=by
 unfold laS;split
 ·omega
 ·exact vh l d n ua
def zaj(e:Ex)(d n:Int)(J:0<=d)(h2:d<=1000)(h3: -1<=n)(h4:n<=1000000):zf Tryz.prog 80 [zr (yp e),I d,I n] [] (I (leftS e d n)) []:=zq8 (sizeOf e+1) e d n ua J h2 h3 h4
def zn2(i:Nat):((i:Int)+1)=((i+1:Nat):Int):=by omega
def vi(h:i<9223372036854775807):IntKind.i64.wrap ((i:Int)+1)=((i+1:Nat):Int):=by rw[zn2];exact wrap64 ua
def zkv{l:List Sm}{d n:Int}(h:n<0):laT l d n=n:=ur ua
theorem zi9: ∀(N:Nat) (l:List Sm) (d n:Int),sizeOf l<N->0<=d->d<=1000->0<=n->n<=1000000->zf Tryz.prog 79 [pS (yF l),I d,I n] [] (I (laS l d n)) []:=by
 intro N
 induction N with
 |zero=>intro l d n h;omega
 |succ N ih=>
  intro l d n hN hd1 hd2 hn1 hn2;refine gO T Tryz.func79 λC hC=>?_;refine wi 0 rfl λhlen=>?_;rw[uk]at hlen
  repeat' first|refine gG ?_|refine gB ?_ ?_<;>intro h|refine gN ?_
  ·have:=uj h;rw[laS,uw this]
  ·have hd0:=uo h;clear h;rw[laS,ur hd0]
   refine zn (λp:Nat×Int=>p.1<=l.length/\ -1<=p.2/\p.2<=1000000/\laL (l.drop p.1) d p.2=laL l d n) (λp=>([(0,pS (yF l)),(1,I d),(2,I p.2),(7,I p.1)],[])) (λp=>l.length - p.1) hC
    (0,n) ⟨uE _,by simp only;omega,by simp only;omega,rfl⟩ id gM ?_
   rintro⟨i,m⟩ ⟨hi,hm1,hm2,U⟩;simp only at hi hm1 hm2 U
   repeat' first|refine gG ?_|refine gB ?_ ?_<;>intro h|refine ze ?_|refine gN ?_|refine gXT ?_
   rotate_right
   ·have hge: ¬i<l.length:=by simpa using h
    rw[uC ua]at U;exact U
   rotate_right
   ·have hm0:m<0:=qV.1 (uo h);rw[zkt hm0]at U;exact U
   rename_i J;have hlt:i<l.length:=by simpa using J
   have hm0:0<=m:=uj h;clear J h;obtain⟨x,hx⟩:=zb hlt;have hsz:=zgg hx;have hss:=zhK x;rw[drop_at hx]at U;simp only[laL,uw hm0]at U;rw[zpP]at U;have w0:IntKind.i64.wrap (m - 1)=m - 1:=wrap64 ua;have w1:IntKind.i64.wrap (d - 1)=d - 1:=wrap64 ua;refine gI T (jN hx) ?_
   repeat' first|refine gG ?_|refine gB ?_ ?_<;>intro h|refine gN ?_|refine zl ?_
   ·rw[uw (uj h),zkt ua]at U;exact U
   ·rw[ur (uo h)]at U;clear h;rw[w0];have hb0:=vt x.e 65 (m - 1) ua;generalize hA:leftL x.e 65 (m - 1)=A at*;refine jT [(0,pS (yF l)),(1,I d),(2,I A),(7,I i)] [] hC ?_ ?_
    ·refine zn (λp:Nat×Int=>p.1<=x.e.length/\ -1<=p.2/\p.2<=1000000/\leftL (x.e.drop p.1) 65 p.2=A) (λp=>([(0,pS (yF l)),(1,I d),(2,I p.2),(7,I i),(8,I p.1)],[])) (λp=>x.e.length - p.1) hC
      (0,m - 1) ⟨uE _,by simp only;omega,by simp only;omega,hA⟩ id gM ?_
     rintro⟨k,q⟩ ⟨hk,hq1,hq2,hq⟩;simp only at hk hq1 hq2 hq;refine zm T hC true 1 rfl ?_
     repeat' first|refine gG ?_|refine gB ?_ ?_<;>intro h|refine gI T (jN hx) ?_|refine ze ?_
     ·rename_i J;have hlt2:k<x.e.length:=by simpa using J
      have hq0:0<=q:=uj h;clear J h;obtain⟨y,hy⟩:=zb hlt2;refine ztS rfl 35 rfl λhel=>?_;rw[uk]at hel;rw[drop_at hy]at hq;simp only[leftL,uw hq0]at hq;have hb:=xj y 65 q hq1;refine gI T (wh hy) ?_
      repeat' first|refine gG ?_|refine gB ?_ ?_<;>intro h|refine vg hC (zaj y 65 q ua ua hq1 hq2) rfl rfl (zI.refl _) rfl rfl rfl ?_
      simp only;rw[vi ua];exact zh (k+1,leftS y 65 q) ⟨by simp only;omega,by simp only;omega,by simp only;omega,hq⟩ id (by simp only;omega) gM
     ·have hqa:q=A:=by rw[zeK (qV.1 (uo h))]at hq;exact hq
      subst hqa;exact y8 id gM
     ·have hge: ¬k<x.e.length:=by simpa using h
      have hqa:q=A:=by rw[uC ua]at hq;exact hq
      subst hqa;exact y8 id gM
    ·have key: ∀(k:List Sm),sizeOf k<N-> ∀a:Int, -1<=a->a<=1000000->0<=a->laT k (d - 1) a=laS k (d - 1) a/\zf Tryz.prog 79 [pS (yF k),I (d - 1),I a] [] (I (laT k (d - 1) a)) []:=λk hk a ha1 ha2 ha3=>by
      have e:laT k (d - 1) a=laS k (d - 1) a:=by simp only[laT,uw ha3]
      rw[e];exact⟨rfl,ih k (d - 1) a hk ua ua ha3 ha2⟩
     have hB:=zai (l:=x.l) (d:=d - 1) hb0.1 (λh0=>vh x.l (d - 1) A ua);have hnB:A<0->laT x.l (d - 1) A=A:=zkv;have hD:=zai (l:=x.els) (d:=d - 1) hB.1 (λh0=>vh x.els (d - 1) _ ua);have hnD:laT x.l (d - 1) A<0->laT x.els (d - 1) (laT x.l (d - 1) A)=laT x.l (d - 1) A:=zkv;have key1:=λh3=>(key x.l ua A hb0.1 ua h3).2
     have key2:=λh3=>(key x.els ua _ hB.1 ua h3).2
     generalize hBe:laT x.l (d - 1) A=B at*;generalize hDe:laT x.els (d - 1) B=D at*;refine zny T hC true 400 rfl rfl ?_;refine ztT [(0,pS (yF l)),(1,I d),(2,I B),(7,I i)] [] hC ?_ ?_
     ·repeat' first|refine gG ?_|refine gB ?_ ?_<;>intro h|refine gI T (jN hx) ?_|rw[w1]|refine vg hC (key1 (uj uf)) rfl rfl (zI.refl _) rfl rfl rfl ?_
      ·exact y8 id gM
      ·rw[hnB (qV.1 (uo h))]at*;exact y8 id gM
     ·refine zny T hC true 400 rfl rfl ?_;refine jT [(0,pS (yF l)),(1,I d),(2,I D),(7,I i)] [] hC ?_ ?_
      ·repeat' first|refine gG ?_|refine gB ?_ ?_<;>intro h|refine gI T (jN hx) ?_|rw[w1]|refine vg hC (key2 (uj uf)) rfl rfl (zI.refl _) rfl rfl rfl ?_
       ·exact y8 id gM
       ·rw[hnD (qV.1 (uo h))];exact y8 id gM
      ·repeat' first|refine gG ?_|refine gB ?_ ?_<;>intro h
       rw[vi ua];exact zh (i+1,D) ⟨by simp only;omega,by simp only;omega,by simp only;omega,U⟩ id (by simp only;omega) gM
end Hw.Gm.Ps
namespace Hw.Gm
open Go Go.Proofs Go.Shelf
def zgi:Go.Shelf.Ren:=⟨λ|157=>248|229=>265|199=>266|261=>279|311=>292|312=>293|n=>n,λ|9=>9|31=>304|3=>3|5=>5|4=>4|119=>367|0=>0|40=>369|152=>379|21=>21|154=>381|51=>312|141=>383|196=>395|193=>392|198=>398|49=>396|194=>393|201=>401|226=>408|46=>259|227=>409|n=>n,λ|0=>0|6=>2|n=>n⟩
def zq9:Go.Proofs.Lays.n157 Tryz.prog zgi where
 mixed:=by kernel_rfl
 f157:=Tryz.func248.trans (u5 some ud)
 f199:=Tryz.func266.trans (u5 some ud)
 f229:=Tryz.func265.trans (u5 some ud)
 f261:=Tryz.func279.trans (u5 some ud)
 f311:=Tryz.func292.trans (u5 some ud)
 f312:=Tryz.func293.trans (u5 some ud)
 t0:=Tryz.underlying0
 a0:=Tryz.isAgg0
 z0:=Tryz.sizeOf0
 v0:=Tryz.zeroValue0
 t3:=Tryz.underlying3
 a3:=Tryz.isAgg3
 z3:=Tryz.sizeOf3
 v3:=Tryz.zeroValue3
 t4:=Tryz.underlying4
 a4:=Tryz.isAgg4
 z4:=Tryz.sizeOf4
 v4:=Tryz.zeroValue4
 t5:=Tryz.underlying5
 a5:=Tryz.isAgg5
 z5:=Tryz.sizeOf5
 v5:=Tryz.zeroValue5
 t9:=Tryz.underlying9
 a9:=Tryz.isAgg9
 z9:=Tryz.sizeOf9
 v9:=Tryz.zeroValue9
 t21:=Tryz.underlying21
 a21:=Tryz.isAgg21
 z21:=Tryz.sizeOf21
 v21:=Tryz.zeroValue21
 t31:=Tryz.underlying304
 a31:=Tryz.isAgg304
 z31:=Tryz.sizeOf304
 v31:=Tryz.zeroValue304
 t40:=Tryz.underlying369
 a40:=Tryz.isAgg369
 z40:=Tryz.sizeOf369
 v40:=Tryz.zeroValue369
 t46:=Tryz.underlying259
 a46:=Tryz.isAgg259
 z46:=Tryz.sizeOf259
 v46:=Tryz.zeroValue259
 t49:=Tryz.underlying396
 a49:=Tryz.isAgg396
 z49:=Tryz.sizeOf396
 v49:=Tryz.zeroValue396
 t51:=Tryz.underlying312
 a51:=Tryz.isAgg312
 z51:=Tryz.sizeOf312
 v51:=Tryz.zeroValue312
 t119:=Tryz.underlying367
 a119:=Tryz.isAgg367
 z119:=Tryz.sizeOf367
 t141:=Tryz.underlying383
 a141:=Tryz.isAgg383
 z141:=Tryz.sizeOf383
 v141:=Tryz.zeroValue383
 t152:=Tryz.underlying379
 a152:=Tryz.isAgg379
 z152:=Tryz.sizeOf379
 v152:=Tryz.zeroValue379
 t154:=Tryz.underlying381
 a154:=Tryz.isAgg381
 z154:=Tryz.sizeOf381
 v154:=Tryz.zeroValue381
 t193:=Tryz.underlying392
 a193:=Tryz.isAgg392
 z193:=Tryz.sizeOf392
 v193:=Tryz.zeroValue392
 t194:=Tryz.underlying393
 a194:=Tryz.isAgg393
 z194:=Tryz.sizeOf393
 v194:=Tryz.zeroValue393
 t196:=Tryz.underlying395
 a196:=Tryz.isAgg395
 z196:=Tryz.sizeOf395
 v196:=Tryz.zeroValue395
 t198:=Tryz.underlying398
 a198:=Tryz.isAgg398
 z198:=Tryz.sizeOf398
 v198:=Tryz.zeroValue398
 t201:=Tryz.underlying401
 a201:=Tryz.isAgg401
 z201:=Tryz.sizeOf401
 v201:=Tryz.zeroValue401
 t226:=Tryz.underlying408
 a226:=Tryz.isAgg408
 z226:=Tryz.sizeOf408
 v226:=Tryz.zeroValue408
 t227:=Tryz.underlying409
 a227:=Tryz.isAgg409
 z227:=Tryz.sizeOf409
 v227:=Tryz.zeroValue409
 g0:=by kernel_rfl
 g6:=by kernel_rfl
end Hw.Gm
namespace Hw.Gm.Ps
open Go Go.Proofs Hw.M
def xm(c:Int):Int:=if c=32 then 1 else if c=9 then 1 else if c=13 then 1 else if c=10 then 1 else
 if decide (97<=c)&&decide (c<=122)then 2 else if decide (65<=c)&&decide (c<=90)then 2 else if decide (48<=c)&&decide (c<=57)then 3 else if c=95 then 4 else 0
set_option maxHeartbeats 1000000 in
def vu(c:Int):zf Tryz.prog 98 [uc c] [] (I (xm c)) []:=by
 refine gO T Tryz.func98 λC hC=>?_
 repeat' first|refine gG ?_|refine gB ?_ ?_<;>intro h|refine gN ?_
 all_goals (simp_all[xm]<;>omega)
def zbR(c:Int):(xm c=2/\xU c=true/\isWord c=true)\/((xm c=3\/xm c=4)/\xU c=false/\isWord c=true)\/((xm c=0\/xm c=1)/\xU c=false/\isWord c=false):=by
 by_cases U:c=32\/c=9\/c=13\/c=10
 ·refine .inr (.inr ?_);rcases U with rfl|rfl|rfl|rfl<;>exact⟨.inr rfl,rfl,rfl⟩
 ·have e1:c≠32:=by omega
  have e2:c≠9:=by omega
  have e3:c≠13:=by omega
  have e4:c≠10:=by omega
  have ec:xm c=if decide (97<=c)&&decide (c<=122)then 2 else if decide (65<=c)&&decide (c<=90)then 2 else if decide (48<=c)&&decide (c<=57)then 3 else if c=95 then 4 else 0:=by
   simp only[xm,e1,e2,e3,e4,uM]
  rw[ec];unfold isWord xU isDigit;cases(decide (97<=c)&&decide (c<=122))with
  |true=>exact .inl ⟨rfl,rfl,rfl⟩
  |false=>cases(decide (65<=c)&&decide (c<=90))with
   |true=>exact .inl ⟨rfl,rfl,rfl⟩
   |false=>cases(decide (48<=c)&&decide (c<=57))with
    |true=>exact .inr (.inl ⟨.inl rfl,rfl,rfl⟩)
    |false=>
     by_cases J:c=95
     ·rw[uw J];exact .inr (.inl ⟨.inr rfl,rfl,by simp[J]⟩)
     ·rw[ur J];exact .inr (.inr ⟨.inl rfl,rfl,by simp[J]⟩)
def za3(c:Int):decide (xm c=2)=xU c:=by
 rcases zbR c with⟨h,J,_⟩|⟨h,J,_⟩|⟨h,J,_⟩
 ·rw[h,J];rfl
 ·rw[J];exact uF ua
 ·rw[J];exact uF ua
def zaK(c:Int):decide (xm c<2)= !isWord c:=by
 rcases zbR c with⟨h,_,J⟩|⟨h,_,J⟩|⟨h,_,J⟩
 ·rw[h,J];rfl
 ·rw[J];exact uF ua
 ·rw[J];exact uT ua
def zkw(s:Str):zf Tryz.prog 264 [Sr s] [] (Bo false) []:=by
 refine gO T Tryz.func264 λC hC=>?_
 repeat' first|refine gG ?_|refine gB ?_ ?_<;>intro h
 exact zi ⟨.inl rfl,id,_,rfl,LeS.bq ue,trivial,rfl,rfl⟩
def zn3(s:Str):zf Tryz.prog 247 [Sr s] [] (Bo false) []:=by
 refine gO T Tryz.func247 λC hC=>?_
 repeat' first|refine gG ?_|refine gB ?_ ?_<;>intro h
 exact zi ⟨.inl rfl,id,_,rfl,LeS.bq ue,trivial,rfl,rfl⟩
def zn4(a b:Str):Bool:=Op.bytesLess a.toList b.toList
def zra(a b:Str):zf Tryz.prog 246 [Sr a,Sr b] [] (.bq (zn4 a b)) []:=by
 refine gO T Tryz.func246 λC hC=>?_
 repeat' first|refine gG ?_|refine gB ?_ ?_<;>intro h|refine gC (zkw _) ?_|refine gQ ?_|refine gL ?_
 all_goals first|rfl|simp_all[zn4]
def zpQ(l:List Str):Prop:= ∀(h k:Nat) (x y:Str),l[h]?=some x->l[k]?=some y->zn4 x y=decide (h<k)
def zja(l:List Str)(s:Str)(hs:zpQ l)(hl:l.length<=1000):zf Tryz.prog 206 [pS (zbg l),Sr s] [] (.tup [.un,.bq (l.any λx=>decide (x=s))]) []:=by
 refine gO T Tryz.func206 λC hC=>?_
 repeat' first|refine gG ?_|refine gB ?_ ?_<;>intro h
 rw[uk]
 refine zn (λp:Nat×Nat=>p.1<=p.2/\p.2<=l.length/\ ∀k,l[k]?=some s->p.1<=k/\k<=p.2) (λp=>([(0,pS (zbg l)),(1,Sr s),(6,I l.length),(7,I p.1),(8,I p.2)],[])) (λp=>p.2 - p.1) hC
  (0,l.length) ⟨uE _,uJ _,λk hk=>⟨uE _,Nat.le_of_lt (ux.1 hk).1⟩⟩ id gM ?_
 rintro⟨i,j⟩ ⟨hij,hj,hk⟩;simp only at hij hj hk;refine zm T hC true 200 rfl ?_;refine zp rfl ?_ ?_<;>intro h
 ·have hlt:i<j:=by simpa using h
  repeat' first|refine gG ?_|refine gB ?_ ?_<;>intro h|refine zwr hC rfl rfl ub ub rfl rfl ?_
  have hm:IntKind.i64.wrap (IntKind.u64.wrap (IntKind.i64.wrap ((i:Int)+(j:Int))) / 2 ^ (1:Int).toNat)=(((i+j) / 2:Nat):Int):=by
   have e1:IntKind.i64.wrap ((i:Int)+(j:Int))=(i:Int)+(j:Int):=wrap64 ua;rw[e1]
   have:IntKind.u64.wrap ((i:Int)+(j:Int))=((i+j:Nat):Int):=by
    unfold IntKind.wrap;simp[IntKind.bits,IntKind.signed];omega
   rw[this]
   rw[show((i+j:Nat):Int) / 2 ^ (1:Int).toNat=(((i+j) / 2:Nat):Int) by
    rw[show(2:Int) ^ (1:Int).toNat=2 by decide];omega]
   exact wrap64 ua
  simp only;rw[hm];obtain⟨x,U⟩:=zb (l:=l) (i:=(i+j) / 2) ua;generalize hme:(i+j) / 2=m at*
  repeat' first|refine gG ?_|refine gB ?_ ?_<;>intro h|refine gX ?_|refine gC (zra _ _) ?_
  ·rw[vi ua];refine zh (m+1,j) ⟨by simp only;omega,hj,λk J=>?_⟩ id (by simp only;omega) gM;have:=hs m k x s U J;rw[h]at this;have:=uj this.symm;have:=hk k J;simp only;omega
  ·refine zh (i,m) ⟨by simp only;omega,by simp only;omega,λk J=>?_⟩ id (by simp only;omega) gM;have:=hs m k x s U J;rw[h]at this;have:=uo this.symm;have:=hk k J;simp only;omega
 ·have hge:i=j:=by have:=uo h;simp only at this;omega
  subst hge;clear h
  have found: ∀(b:Bool),(b=true-> ∃x,l[i]?=some x/\x=s)->(b=false-> ∀x,l[i]?=some x->x≠s)->b=l.any λx=>decide (x=s):=λb h1 h2=>by
   cases b with
   |true=>obtain⟨x,U,rfl⟩:=h1 rfl;exact(zgf U (uT rfl)).symm
   |false=>
    symm
    rw[List.any_eq_false];intro x U;obtain⟨k,hk1⟩:=tY.1 U;simp only[uq];rintro rfl;have:=hk k hk1;obtain rfl:k=i:=by omega
    exact h2 rfl x hk1 rfl
  repeat' first|refine gG ?_|refine gB ?_ ?_<;>intro h|refine ze ?_|refine gC (zn3 _) ?_|refine gX ?_|(obtain⟨x,U⟩:=zb (l:=l) (i:=i) (by have:=uj h;simp only at this;omega);refine gI T (zq U) ?_)
  ·exact zi ⟨.inl rfl,id,_,rfl,LeS.tup (.cons (LeS.un _) (.cons (LeS.qb (found true (λ_=>⟨x,U,uj h⟩) (λe=>by cases e))) .nil)),trivial,rfl,rfl⟩
  ·exact zi ⟨.inl rfl,id,_,rfl,LeS.tup (.cons (LeS.un _) (.cons (LeS.qb (found false (λe=>by cases e) (λ_ y hy=>by rw[U]at hy;simp only[ui]at hy;subst hy;exact uo h))) .nil)),trivial,rfl,rfl⟩
  ·have h':=uo h;simp only at h';exact zi ⟨.inl rfl,id,_,rfl,LeS.tup (.cons (LeS.un _) (.cons (LeS.qb (found false (λe=>by cases e) (λ_ y hy=>by have:=(ux.1 hy).1;omega))) .nil)),trivial,rfl,rfl⟩
def y2:List Str:=[(⟨#[97,110,100]⟩:UB),(⟨#[98,111,111,108]⟩:UB),(⟨#[98,111,117,110,100]⟩:UB),(⟨#[100,101,115,99]⟩:UB),(⟨#[101,108,115,101]⟩:UB),(⟨#[102,97,108,115,101]⟩:UB),(⟨#[105,102]⟩:UB),(⟨#[105,110,116]⟩:UB),(⟨#[105,110,118,97,114,105,97,110,116]⟩:UB),(⟨#[108,111,99,97,108]⟩:UB),(⟨#[108,111,103]⟩:UB),(⟨#[109,97,120]⟩:UB),(⟨#[109,101,97,115,117,114,101]⟩:UB),(⟨#[109,105,110]⟩:UB),(⟨#[110,101,119]⟩:UB),(⟨#[110,105,108]⟩:UB),(⟨#[110,111,116]⟩:UB),(⟨#[111,112]⟩:UB),(⟨#[111,114]⟩:UB),(⟨#[112,111,116,101,110,116,105,97,108]⟩:UB),(⟨#[112,114,111,99]⟩:UB),(⟨#[114,101,116,117,114,110]⟩:UB),(⟨#[114,117,108,101]⟩:UB),(⟨#[115,99,114,105,112,116]⟩:UB),(⟨#[115,111,114,116]⟩:UB),(⟨#[115,112,101,99]⟩:UB),(⟨#[116,104,105,115]⟩:UB),(⟨#[116,114,117,101]⟩:UB),(⟨#[116,121,112,101]⟩:UB),(⟨#[118,97,114]⟩:UB),(⟨#[119,104,105,108,101]⟩:UB)]
def sortedB(l:List Str):Bool:=(List.range l.length).all λh=>(List.range l.length).all λk=>match l[h]?,l[k]? with
 |some x,some y=>zn4 x y==decide (h<k)
 |_,_=>true
def zkx{l:List Str}(h:sortedB l=true):zpQ l:=λa b x y J U=>by
 simp only[sortedB,List.all_eq_true,List.mem_range]at h;have:=h a (ux.1 J).1 b (ux.1 U).1;rw[J,U]at this;simpa using this
def zn5:sortedB y2=true:=by kernel_rfl
def ztU(s:Str):(y2.any λx=>decide (x=s))=wK s:=by
 have h1:(y2.all λx=>zdA.any λy=>decide (y=x))=true:=by kernel_rfl
 have h2:(zdA.all λx=>y2.any λy=>decide (y=x))=true:=by kernel_rfl
 rw[q8];simp only[wK,List.any_eq_true,List.all_eq_true,uq]at h1 h2⊢;constructor
 ·rintro⟨x,J,rfl⟩;obtain⟨y,U,rfl⟩:=h1 x J;exact⟨y,U,rfl⟩
 ·rintro⟨x,J,rfl⟩;obtain⟨y,U,rfl⟩:=h2 x J;exact⟨y,U,rfl⟩
def zbS:Str:=(⟨#[97,110,100,32,98,111,111,108,32,98,111,117,110,100,32,100,101,115,99,32,101,108,115,101,32,102,97,108,115,101,32,105,102,32,105,110,116,32,105,110,118,97,114,105,97,110,116,32,108,111,99,97,108,32,108,111,103,32,109,97,120,32,109,101,97,115,117,114,101,32,109,105,110,32,110,101,119,32,110,105,108,32,110,111,116,32,111,112,32,111,114,32,112,111,116,101,110,116,105,97,108,32,112,114,111,99,32,114,101,116,117,114,110,32,114,117,108,101,32,115,99,114,105,112,116,32,115,111,114,116,32,115,112,101,99,32,116,104,105,115,32,116,114,117,101,32,116,121,112,101,32,118,97,114,32,119,104,105,108,101]⟩:UB)
def zhL:(Lib.fields zbS.data.toList).map (λl=>(⟨l.toArray⟩:UB))=y2:=by kernel_rfl
def zrb:(zbS.data.toList.all λb=>decide (b.toNat<128))=true:=by kernel_rfl
def zgj(w:World)(hw:GOn w):Calls Tryz.prog 248 #[.string zbS] w λe w'=>e= .returned (.slice (some ⟨w.heap.size,0,none⟩) y2.length y2.length)/\w'=w.alloc (.cells (y2.map Value.string).toArray 9):=by
 have h:=Any.strings_Fields_core zq9 ud zbS w (uj ud) (λj b hb=>by
  have:=List.all_eq_true.1 zrb b (uv hb)
  exact uj this) (λc U=>hw _ _ _ (by
  show G0 0 c=_
  simp[G0,U]))
 refine h.mono λe w' ⟨he,J⟩=>?_;have hl:(Lib.fields zbS.data.toList).length=y2.length:=by rw[<-zhL,uk]
 have U:((Lib.fields zbS.data.toList).map λl=>Value.string ⟨l.toArray⟩)=y2.map Value.string:=by rw[<-zhL,q7];rfl
 rw[hl]at he;rw[U]at J;exact⟨he,J⟩
def zjb:zf Tryz.prog 248 [Sr zbS] [] (pS (zbg y2)) []:=
 zrc ⟨_,Tryz.func248,ud,ud⟩ ub zgj
def zws:zf Tryz.prog 207 [] [] (pS (zbg y2)) []:=by
 refine gO T Tryz.func207 λC hC=>?_
 repeat' first|refine gG ?_|refine gB ?_ ?_<;>intro h|refine gC zjb ?_
 exact gF
def zak(s:Str):zf Tryz.prog 145 [Sr s] [] (.bq (wK s)) []:=by
 refine gO T Tryz.func145 λC hC=>?_
 repeat' first|refine gG ?_|refine gB ?_ ?_<;>intro h|refine gC zws ?_|refine vg hC (zja y2 s (zkx zn5) ub) rfl rfl (zI.refl _) rfl rfl rfl ?_|refine gQ ?_|refine gL ?_
 exact ztU s
def yt(s:Str):zf Tryz.prog 108 [Sr s] [] (.bq (isName s)) []:=by
 refine gO T Tryz.func108 λC hC=>?_;have U:=zkp s
 have e0:decide (s=(⟨#[]⟩:UB))=decide (s.size=0):=by
  obtain⟨⟨l⟩⟩:=s;cases l with
  |nil=>rfl
  |cons a l=>exact(uF (by intro h;cases h)).trans (uF (by simp[ByteArray.size])).symm
 repeat' first|refine gG ?_|refine gB ?_ ?_<;>intro h
 ·repeat' first|refine gG ?_|refine gB ?_ ?_<;>intro h|refine gL ?_
  rw[e0]at h;simp only[isName,h,qm,tJ]
 ·repeat' first|refine gG ?_|refine gB ?_ ?_<;>intro h|refine gL ?_
  have h1:40<s.size:=by have:=uj h;omega
  simp[isName,h1]
 ·rename_i h0;rw[e0]at h0;have hs:0<(bytes s).length:=by have:=uo h0;omega
  obtain⟨c,hc⟩:=zb hs;obtain⟨b,hb,rfl⟩:=zhG hc;have hlen:s.size<=40:=by have:=uo h;omega
  have hnm:isName s=(xU (b.toNat:Int)&&((bytes s).all isWord&& !wK s)):=by
   cases hbs:bytes s with
   |nil=>rw[hbs]at hs;simp at hs
   |cons c cs=>
    have hc':=hc;rw[hbs]at hc';simp only[List.getElem?_cons_zero,ui]at hc';have e1: ¬s.size=0:=by rw[U]at hs;omega
    have e2: ¬40<s.size:=by omega
    simp only[isName,hbs,hc',e1,e2,qE,qA,tn,Bool.and_assoc]
  clear h h0;refine wV T hC rfl rfl rfl (qt _) hb rfl rfl ?_
  repeat' first|refine gG ?_|refine gB ?_ ?_<;>intro h|refine gC (vu _) ?_|refine gC (zak _) ?_|refine gL ?_
  ·rw[za3]at h;have hl:xU (b.toNat:Int)=false:=by simpa using h
   rw[hnm,hl];rfl
  ·rw[hnm,h];simp
  ·rename_i h1;rw[za3]at h1;have hl:xU (b.toNat:Int)=true:=by simpa using h1
   have J:isName s=(bytes s).all isWord:=by rw[hnm,hl,h];simp
   refine zn (λi:Nat=>i<=s.size/\((bytes s).take i).all isWord=true) (λi=>([(0,Sr s),(22,I s.size),(23,I i)],[])) (λi=>s.size - i) hC
    0 ⟨uE _,ue⟩ id gM ?_
   rintro i ⟨hi,hn⟩;refine zm T hC true 200 rfl ?_;refine zp rfl ?_ ?_<;>intro h
   ·have hlt:i<(bytes s).length:=by rw[U];have:=uj h;omega
    obtain⟨c,hx⟩:=zb hlt;obtain⟨b,hb,rfl⟩:=zhG hx
    repeat' first|refine gG ?_|refine gB ?_ ?_<;>intro h|refine gXS ?_|refine gC (vu _) ?_|refine zl ?_|refine gL ?_
    ·rw[zaK]at h;have hw:isWord (b.toNat:Int)=false:=by simpa using h
     rw[J,zah hx hw]
    ·rw[zaK]at h;have hw:isWord (b.toNat:Int)=true:=by simpa using h
     rw[vi ua];refine zh (i+1) ⟨ua,?_⟩ id ua gM;rw[xV hx,hn,hw];rfl
   ·have hge:s.size<=i:=by have:=uo h;omega
    repeat' first|refine gG ?_|refine gB ?_ ?_<;>intro h|refine ze ?_|refine gL ?_
    rw[J,jb (by rw[U];exact hge) hn]
def idxR{α σ:Type}(p:α->σ->Bool)(nx:α->σ->σ):List α->Nat->σ->Int×σ
 | [],_,s=>(-1,s)
 |x::r,k,s=>if p x s=true then((k:Int),nx x s)else idxR p nx r (k+1) (nx x s)
def anyR{α σ:Type}(p:α->σ->Bool)(nx:α->σ->σ):List α->σ->Bool×σ
 | [],s=>(false,s)
 |x::r,s=>if p x s=true then(true,nx x s)else anyR p nx r (nx x s)
theorem zgk{α σ:Type}(p:α->σ->Bool)(nx:α->σ->σ): ∀(l:List α) (k:Nat) (s:σ),∃i s',idxR p nx l k s=(i,s')/\anyR p nx l s=(decide (0<=i),s')
 | [],k,s=>⟨-1,s,rfl,rfl⟩
 |x::r,k,s=>by
  simp only[idxR,anyR];by_cases h:p x s=true
  ·exact⟨k,nx x s,uw h,by rw[uw h,uT ua]⟩
  ·rw[ur h,ur h];exact zgk p nx r (k+1) (nx x s)
variable {α:Type}
def za4{σ:Type}(p:α->σ->Bool)(nx:α->σ->σ)(l:List α)(k:Nat)(s:σ):decide (0<=(idxR p nx l k s).1)=(anyR p nx l s).1:=by
 obtain⟨i,s',J,h2⟩:=zgk p nx l k s;simp only[J,h2]
def za5{σ:Type}(p:α->σ->Bool)(nx:α->σ->σ)(l:List α)(k:Nat)(s:σ):(idxR p nx l k s).2=(anyR p nx l s).2:=by
 obtain⟨i,s',J,h2⟩:=zgk p nx l k s;simp only[J,h2]
theorem zbT{α:Type}(p:α->Bool): ∀(l:List α) (s:Unit),(anyR (λx _=>p x) (λ_ s=>s) l s).1=l.any p
 | [],_=>rfl
 |x::r,s=>by
  simp only[anyR,qn];cases h:p x with
  |true=>rfl
  |false=>simp only[uB,uM,tw];exact zbT p r s
def zky(f:FuncId)(dp:Int)(l:List Ex)(p:Ex->Int->Bool)(nx:Ex->Int->Int)(inv:Int->Prop)
 (hf: ∀x∈l,∀s:Int,inv s->zf Tryz.prog f [zr (yp x),.one (.bx 1 0),.one (.bx 2 0)] [(0,.box [.p (ki s)]),(1,.box [.p (ki dp)]),(2,.box [.bx 0 0])] (.bq (p x s)) ((λs:Int=>[(0,.box [.p (ki s)]),(1,.box [.p (ki dp)]),(2,.box [.bx 0 0])]) (nx x s))/\(p x s=false->inv (nx x s))) (s:Int) (hs:inv s):
 zf Tryz.prog 234 [pS (.sl 4 (l.map xt)),.one (.cl f [] [.bx 1 0,.bx 2 0])] [(0,.box [.p (ki s)]),(1,.box [.p (ki dp)]),(2,.box [.bx 0 0])] (I (idxR p nx l 0 s).1) ((λs:Int=>[(0,.box [.p (ki s)]),(1,.box [.p (ki dp)]),(2,.box [.bx 0 0])]) (idxR p nx l 0 s).2):=by
 refine gO T Tryz.func234 λC hC=>?_;have hs0:=hs;refine wi 0 rfl λhl=>?_;rw[uk]at hl
 repeat' first|refine gG ?_|refine gB ?_ ?_<;>intro h
 rw[uk]
 refine zn (λq:Nat×Int=>q.1<=l.length/\inv q.2/\idxR p nx (l.drop q.1) q.1 q.2=idxR p nx l 0 s) (λq=>(λs:Int=>([(0,pS (.sl 4 (l.map xt))),(1,.one (.cl f [] [.bx 1 0,.bx 2 0])),(7,I l.length),(8,I q.1)],[(0,some (.box [.p (ki s)])),(1,some (.box [.p (ki dp)])),(2,some (.box [.bx 0 0]))])) q.2) (λq=>l.length - q.1) hC
  (0,s) ⟨uE _,hs,rfl⟩ id gM ?_
 generalize idxR p nx l 0 s=res;clear hs hs0;rintro⟨i,s⟩ ⟨hi,hv,J⟩;simp only at hi hv J;refine zm T hC true 200 rfl ?_;refine zp rfl ?_ ?_<;>intro hh
 ·have hlt:i<l.length:=by simpa using hh
  clear hh;obtain⟨x,hx⟩:=zb hlt;rw[drop_at hx]at J;simp only[idxR]at J;have hv2:=(hf x (uv hx) s hv).2
  repeat' first|refine gG ?_|refine gB ?_ ?_<;>intro h|refine gI T (wh hx) ?_|refine yh hC (hf x (uv hx) s hv).1 id rfl rfl (zI.refl _) rfl rfl rfl rfl rfl rfl rfl rfl ?_|refine zl ?_
  ·rw[uw uf]at J;subst J;exact gE
  ·have U:p x s=false:=by assumption
   rw[U]at J;simp only[uB,uM]at J;rw[wrap64 ua];exact zh (i+1,nx x s) ⟨by simp only;omega,hv2 U,J⟩ id (by simp only;omega) gM
 ·have hge: ¬i<l.length:=by simpa using hh
  rw[uC ua]at J;simp only[idxR]at J;subst J
  repeat' first|refine gG ?_|refine gB ?_ ?_<;>intro h|refine ze ?_
  exact gE
def zkz(f:FuncId)(dp:Int)(l:List Ex)(p:Ex->Int->Bool)(nx:Ex->Int->Int)(inv:Int->Prop)
 (hf: ∀x∈l,∀s:Int,inv s->zf Tryz.prog f [zr (yp x),.one (.bx 1 0),.one (.bx 2 0)] [(0,.box [.p (ki s)]),(1,.box [.p (ki dp)]),(2,.box [.bx 0 0])] (.bq (p x s)) ((λs:Int=>[(0,.box [.p (ki s)]),(1,.box [.p (ki dp)]),(2,.box [.bx 0 0])]) (nx x s))/\(p x s=false->inv (nx x s))) (s:Int) (J:inv s):
 zf Tryz.prog 193 [pS (.sl 4 (l.map xt)),.one (.cl f [] [.bx 1 0,.bx 2 0])] [(0,.box [.p (ki s)]),(1,.box [.p (ki dp)]),(2,.box [.bx 0 0])] (.bq (anyR p nx l s).1) ((λs:Int=>[(0,.box [.p (ki s)]),(1,.box [.p (ki dp)]),(2,.box [.bx 0 0])]) (anyR p nx l s).2):=by
 refine gO T Tryz.func193 λC hC=>?_
 repeat' first|refine gG ?_|refine gB ?_ ?_<;>intro h|refine gR (zky f dp l p nx inv hf s J) (nm [0,1,2]) ?_
 exact zi ⟨.inl rfl,id,_,rfl,.qq (za4 p nx l 0 s),by rw[<-za5 p nx l 0 s];exact⟨rfl,rfl,rfl,uh⟩,rfl,rfl⟩
def ixB{α:Type}(p:α->Bool):List α->Nat->Int
 | [],_=> -1
 |x::r,k=>if p x=true then(k:Int)else ixB p r (k+1)
theorem zpR{α:Type}(p:α->Bool): ∀(l:List α) (k:Nat),0<=ixB p l k↔l.any p=true
 | [],_=>by simp[ixB]
 |x::l,k=>by
  rw[qn];by_cases h:p x=true
  ·have e:ixB p (x::l) k=(k:Int):=uw h;rw[e,h];simp
  ·have e:ixB p (x::l) k=ixB p l (k+1):=ur h;rw[e,zpR p l (k+1)];simp only[h,tw]
def zgl(p:α->Bool)(l:List α)(k:Nat):decide (0<=ixB p l k)=l.any p:=by
 rw[q8,oI];exact zpR p l k
inductive IxK:{α:Type}->(α->List PV)->(α->List PV)->Nat->FuncId->FuncId->Prop
 |expr:IxK xt yp 4 234 193
 |field:IxK zG zG 2 97 59
 |bound:IxK wm wm 5 83 156
 |type:IxK zW zW 2 115 72
 |proc:IxK zJ zJ 5 56 112
section
variable {row rc:α->List PV} {w:Nat} {c d:FuncId} (hk:IxK row rc w c d) {f:FuncId} {l:List α} {p:α->Bool} (hf: ∀x∈l,zf Tryz.prog f [zr (rc x)] [] (.bq (p x)) [])
abbrev nT(hk:IxK row rc w c d)(hf: ∀x∈l,zf Tryz.prog f [zr (rc x)] [] (.bq (p x)) [])(i:Nat):zd×Tab:=([(0,pS (.sl w (l.map row))),(1,.one (.cl f [] [])),(7,I l.length),(8,I i)],[])
include hk hf
def ztV:zf Tryz.prog c [pS (.sl w (l.map row)),.one (.cl f [] [])] [] (I (ixB p l 0)) []:=by
 have hk0:=hk;cases hk;refine gO T Tryz.func234 λC hC=>?_
 rotate_left
 refine gO T Tryz.func97 λC hC=>?_
 rotate_left
 refine gO T Tryz.func83 λC hC=>?_
 rotate_left
 refine gO T Tryz.func115 λC hC=>?_
 rotate_left
 refine gO T Tryz.func56 λC hC=>?_
 rotate_left
 all_goals
  refine wi 0 rfl λhl=>?_;rw[uk]at hl
  repeat' first|refine gG ?_|refine gB ?_ ?_<;>intro h
  rw[uk];refine zn (λi:Nat=>i<=l.length/\ixB p (l.drop i) i=ixB p l 0) (nT hk0 hf) (λi=>l.length - i) hC 0 ⟨uE _,rfl⟩ id gM ?_;generalize ixB p l 0=res;rintro i ⟨hi,J⟩;change Goal _ _ _ _ _ [_,_,_,_] [] _;refine zm T hC true 200 rfl ?_;refine zp rfl ?_ ?_<;>intro hh
  ·have hlt:i<l.length:=by simpa using hh
   clear hh;obtain⟨x,U⟩:=zb hlt;rw[drop_at U]at J;simp only[ixB]at J
   repeat' first|refine gG ?_|refine gB ?_ ?_<;>intro h|refine gI T (wh U) ?_|refine gI T (zq U) ?_|refine gR (hf x (uv U)) id ?_|refine zl ?_
   ·rw[uw uf]at J;subst J;exact gF
   ·have hpf:p x=false:=by assumption
    rw[hpf]at J;simp only[uB,uM]at J;rw[wrap64 ua];exact zh (i+1) ⟨ua,J⟩ id ua gM
  ·have hge: ¬i<l.length:=by simpa using hh
   rw[uC ua]at J;simp only[ixB]at J;subst J
   repeat' first|refine gG ?_|refine gB ?_ ?_<;>intro h|refine ze ?_
   exact gF
def zeM:zf Tryz.prog d [pS (.sl w (l.map row)),.one (.cl f [] [])] [] (.bq (l.any p)) []:=by
 have J:=ztV hk hf;cases hk;refine gO T Tryz.func193 λC hC=>?_
 rotate_left
 refine gO T Tryz.func59 λC hC=>?_
 rotate_left
 refine gO T Tryz.func156 λC hC=>?_
 rotate_left
 refine gO T Tryz.func72 λC hC=>?_
 rotate_left
 refine gO T Tryz.func112 λC hC=>?_
 rotate_left
 all_goals
  repeat' first|refine gG ?_|refine gB ?_ ?_<;>intro h|refine gR J (nm []) ?_
  exact zi ⟨.inl rfl,id,_,rfl,.qq (zgl p l 0),trivial,rfl,rfl⟩
end
def zkA(f:FuncId)(l:List Ex)(p:Ex->Bool)(hf: ∀x∈l,zf Tryz.prog f [zr (yp x)] [] (.bq (p x)) []):zf Tryz.prog 193 [pS (.sl 4 (l.map xt)),.one (.cl f [] [])] [] (.bq (l.any p)) []:=zeM .expr hf
def zcO(f:FuncId)(l:List Fld)(p:Fld->Bool)(hf: ∀x∈l,zf Tryz.prog f [zr (zG x)] [] (.bq (p x)) []):zf Tryz.prog 59 [pS (.sl 2 (l.map zG)),.one (.cl f [] [])] [] (.bq (l.any p)) []:=zeM .field hf
def zjc(f:FuncId)(l:List Bd)(p:Bd->Bool)(hf: ∀x∈l,zf Tryz.prog f [zr (wm x)] [] (.bq (p x)) []):zf Tryz.prog 156 [pS (.sl 5 (l.map wm)),.one (.cl f [] [])] [] (.bq (l.any p)) []:=zeM .bound hf
def zkC(f:FuncId)(l:List z7)(p:z7->Bool)(hf: ∀x∈l,zf Tryz.prog f [zr (zW x)] [] (.bq (p x)) []):zf Tryz.prog 72 [pS (.sl 2 (l.map zW)),.one (.cl f [] [])] [] (.bq (l.any p)) []:=zeM .type hf
def zkD(f:FuncId)(l:List Pr)(p:Pr->Bool)(hf: ∀x∈l,zf Tryz.prog f [zr (zJ x)] [] (.bq (p x)) []):zf Tryz.prog 112 [pS (.sl 5 (l.map zJ)),.one (.cl f [] [])] [] (.bq (l.any p)) []:=zeM .proc hf
end Hw.Gm.Ps
