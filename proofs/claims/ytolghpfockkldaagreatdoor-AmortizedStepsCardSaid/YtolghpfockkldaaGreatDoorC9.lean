import Derived.Test.YtolghpfockkldaaGreatDoorC1
import Derived.Test.YtolghpfockkldaaGreatDoorC6
import Derived.Test.YtolghpfockkldaaGreatDoorE3
import Derived.Test.YtolghpfockkldaaGreatDoorC7
import Derived.Test.YtolghpfockkldaaGreatDoorC3
import Derived.Test.YtolghpfockkldaaGreatDoorC4
import Derived.Test.YtolghpfockkldaaGreatDoorC2
import Derived.Shelf.Strconv.AtoiAll
import Derived.Test.YtolghpfockkldaaGreatDoorProg
import Derived.KernelRfl
import Derived.Shelf.Small.Strs
import Derived.Shelf.Strings.Prefix
import Derived.Test.YtolghpfockkldaaGreatDoorC8
set_option linter.unusedVariables false
set_option linter.unusedSimpArgs false
set_option linter.unusedSectionVars false
set_option linter.unnecessarySimpa false
namespace Hw
open Go
def ix:List Nat->Nat->Nat
 | [],_=>0
 |j::r,i=>match Nat.beq j i with
  |true=>0
  |false=>ix r i+1
theorem zva(m:List Nat): ∀ {l:List Nat} {i:Nat},hasB i l=true->(l++m)[ix l i]?=some i
 | [],_,h=>by cases h
 |j::r,i,h=>by
  simp only[ix];split
  ·rename_i e;simp[uA e]
  ·rename_i e;simp only[hasB,e,tw]at h;simpa using zva m h
variable {i:Nat}
theorem zvb{m l:List Nat}(h:hasB i l=true):nm (l++m) (ix l i)=i:=by
 unfold nm;rw[zva m h];rfl
section
variable {l:List Nat} {f g:Nat->Nat}
mutual
theorem V.back(hl: ∀i,hasB i l=true->g (f i)=i): ∀v:V,cloV l v=true->(v.ren f).ren g=v
 | .p _,_=>rfl
 | .pi _ _,_=>rfl
 | .bx i j,h=>by simp only[V.ren];rw[hl i h]
 | .ar i,h=>by simp only[V.ren];rw[hl i h]
 | .el i j,h=>by simp only[V.ren];rw[hl i h]
 | .mp i,h=>by simp only[V.ren];rw[hl i h]
 | .bs i j k,h=>by simp only[V.ren];rw[hl i h]
 | .nv i j,h=>by simp only[V.ren];rw[hl i h]
 | .np i j k,h=>by simp only[V.ren];rw[hl i h]
 | .sv i j k,h=>by simp only[V.ren];rw[hl i h]
 | .cl n a b,h=>by
   simp only[cloV,um]at h;simp only[V.ren];rw[Vs.back hl a h.1,Vs.back hl b h.2]
theorem Vs.back(hl: ∀i,hasB i l=true->g (f i)=i): ∀v:List V,cloVs l v=true->Vs.ren g (Vs.ren f v)=v
 | [],_=>rfl
 |v::vs,h=>by
  simp only[cloVs,um]at h;simp only[Vs.ren];rw[V.back hl v h.1,Vs.back hl vs h.2]
end
mutual
theorem S.back(hl: ∀i,hasB i l=true->g (f i)=i): ∀v:S,cloS l v=true->(v.ren f).ren g=v
 | .one v,h=>by simp only[S.ren];rw[V.back hl v h]
 | .agg v,h=>by simp only[S.ren];rw[Vs.back hl v h]
 | .tup v,h=>by simp only[S.ren];rw[Ss.back hl v h]
 | .gd b v,h=>by simp only[S.ren];rw[S.back hl v h]
 | .bq _,_=>rfl
 | .un,_=>rfl
theorem Ss.back(hl: ∀i,hasB i l=true->g (f i)=i): ∀v:List S,cloSs l v=true->Ss.ren g (Ss.ren f v)=v
 | [],_=>rfl
 |v::vs,h=>by
  simp only[cloSs,um]at h;simp only[Ss.ren];rw[S.back hl v h.1,Ss.back hl vs h.2]
end
def zxz(l:List Nat):Res->Bool
 | .box vs=>cloVs l vs
 | .arr _ _=>true
 |_=>false
def gRL(l:List Nat):RL->Bool
 | []=>true
 |(i,r)::t=>hasB i l&&(zxz l r&&gRL l t)
theorem Res.back(J: ∀i,hasB i l=true->g (f i)=i): ∀ {r:Res},zxz l r=true->(r.ren f).ren g=r
 | .box vs,h=>by simp only[Res.ren];rw[Vs.back J vs h]
 | .arr _ _,_=>rfl
theorem RL.back(J: ∀i,hasB i l=true->g (f i)=i): ∀ {R:RL},gRL l R=true->(R.ren f).ren g=R
 | [],_=>rfl
 |(i,r)::t,h=>by
  simp only[gRL,um]at h;simp only[RL.ren];rw[J i h.1,Res.back J h.2.1,RL.back J h.2.2]
theorem zg9{n:Nat}{sl:zd}{tab:Tab}(J: ∀i,hasB i l=true->g (f i)=i): ∀ {R:RL},gRL l R=true->okT R ⟨n,sl,tab⟩->mR g tab (R.ren f)
 | [],_,_=>trivial
 |(i,r)::t,h,ht=>by
  simp only[gRL,um]at h;exact⟨by rw[J i h.1,Res.back J h.2.1];exact ht.1,zg9 J h.2.2 ht.2⟩
end
theorem zvc{g:Nat->Nat}{st:St}: ∀ {R:RL},mR g st.tab R->mT g st (tb R)
 | [],_=>trivial
 |(_,_)::_,h=>⟨h.1,zvc h.2⟩
theorem zmD: ∀R:RL,(tb R).map (·.1)=R.ids
 | []=>rfl
 |(_,_)::t=>by simp only[tb,uN,RL.ids,zmD t]
def pickR(tab:Tab):List Nat->Option RL
 | []=>some []
 |i::r=>match tg tab i with
  |some x=>match pickR tab r with
   |some t=>some ((i,x)::t)
   |none=>none
  |none=>none
theorem zbA{n:Nat}{sl:zd}{tab:Tab}: ∀ {l:List Nat} {R:RL},pickR tab l=some R->R.ids=l/\okT R ⟨n,sl,tab⟩
 | [],R,h=>by simp only[pickR,ui]at h;subst h;exact⟨rfl,uh⟩
 |i::r,R,h=>by
  simp only[pickR]at h;split at h
  ·rename_i x J;split at h
   ·rename_i t U;simp only[ui]at h;subst h;have:=zbA (n:=n) (sl:=sl) U;exact⟨by simp only[RL.ids,this.1],J,this.2⟩
   ·cases h
  ·cases h
variable {α:Type}
def fcN:Nat->(Nat->α)->α
 |0,f=>f 0
 |n+1,f=>f (n+1)
theorem wQ(n:Nat)(f:Nat->α):fcN n f=f n:=by cases n<;>rfl
def fcI:Int->(Int->α)->α
 | .ofNat n,f=>fcN n λn=>f (.ofNat n)
 | .negSucc n,f=>fcN n λn=>f (.negSucc n)
theorem zvd(n:Int)(f:Int->α):fcI n f=f n:=by cases n<;>simp only[fcI,wQ]
def fcK:Value->(Value->α)->α
 | .int k i,f=>fcI i λi=>f (.int k i)
 | .bool true,f=>f (.bool true)
 | .bool false,f=>f (.bool false)
 |v,f=>f v
theorem zve(v:Value)(f:Value->α):fcK v f=f v:=by unfold fcK;split<;>simp only[zvd]
def fcP:PV->(PV->α)->α
 | .k v,f=>fcK v λv=>f (.k v)
 |x,f=>f x
theorem zvf(v:PV)(f:PV->α):fcP v f=f v:=by cases v<;>simp only[fcP,zve]
mutual
def fcV:V->(V->α)->α
 | .p x,f=>fcP x λx=>f (.p x)
 | .bx i j,f=>fcN i λi=>fcN j λj=>f (.bx i j)
 | .el i j,f=>fcN i λi=>fcN j λj=>f (.el i j)
 | .ar i,f=>fcN i λi=>f (.ar i)
 | .pi r j,f=>fcN j λj=>f (.pi r j)
 | .cl n a b,f=>fcVs a λa=>fcVs b λb=>f (.cl n a b)
 |v,f=>f v
def fcVs:List V->(List V->α)->α
 | [],f=>f []
 |v::vs,f=>fcV v λv=>fcVs vs λvs=>f (v::vs)
end
mutual
theorem zqx: ∀(v:V) (f:V->α),fcV v f=f v
 | .p x,f=>by simp only[fcV,zvf]
 | .bx i j,f=>by simp only[fcV,wQ]
 | .el i j,f=>by simp only[fcV,wQ]
 | .ar i,f=>by simp only[fcV,wQ]
 | .pi r j,f=>by simp only[fcV,wQ]
 | .cl n a b,f=>by simp only[fcV];rw[zck a,zck b]
 | .mp _,f=>by simp only[fcV]
 | .bs _ _ _,f=>by simp only[fcV]
 | .nv _ _,f=>by simp only[fcV]
 | .np _ _ _,f=>by simp only[fcV]
 | .sv _ _ _,f=>by simp only[fcV]
theorem zck: ∀(v:List V) (f:List V->α),fcVs v f=f v
 | [],f=>by simp only[fcVs]
 |v::vs,f=>by simp only[fcVs];rw[zqx v,zck vs]
end
mutual
def fcS:S->(S->α)->α
 | .one v,f=>fcV v λv=>f (.one v)
 | .agg v,f=>fcVs v λv=>f (.agg v)
 | .tup v,f=>fcSs v λv=>f (.tup v)
 |v,f=>f v
def fcSs:List S->(List S->α)->α
 | [],f=>f []
 |v::vs,f=>fcS v λv=>fcSs vs λvs=>f (v::vs)
end
mutual
theorem zfF: ∀(v:S) (f:S->α),fcS v f=f v
 | .one v,f=>by simp only[fcS,zqx]
 | .agg v,f=>by simp only[fcS,zck]
 | .tup v,f=>by simp only[fcS];rw[zha v]
 | .gd _ _,f=>by simp only[fcS]
 | .bq _,f=>by simp only[fcS]
 | .un,f=>by simp only[fcS]
theorem zha: ∀(v:List S) (f:List S->α),fcSs v f=f v
 | [],f=>by simp only[fcSs]
 |v::vs,f=>by simp only[fcSs];rw[zfF v,zha vs]
end
def fcRows:List (List PV)->(List (List PV)->α)->α
 | [],f=>f []
 |r::rs,f=>fcRows rs λrs=>f (r::rs)
theorem zfG: ∀(v:List (List PV)) (f:List (List PV)->α),fcRows v f=f v
 | [],f=>rfl
 |v::vs,f=>by simp only[fcRows];rw[zfG vs]
def fcR:Res->(Res->α)->α
 | .box vs,f=>fcVs vs λvs=>f (.box vs)
 | .arr e rows,f=>fcRows rows λrows=>f (.arr e rows)
 |r,f=>f r
theorem zqy(v:Res)(f:Res->α):fcR v f=f v:=by cases v<;>simp only[fcR,zck,zfG]
def fcRL:RL->(RL->α)->α
 | [],f=>f []
 |(i,r)::t,f=>fcN i λi=>fcR r λr=>fcRL t λt=>f ((i,r)::t)
theorem zed: ∀(v:RL) (f:RL->α),fcRL v f=f v
 | [],f=>rfl
 |(i,r)::t,f=>by simp only[fcRL,wQ,zqy];rw[zed t]
def fcL:List Nat->(List Nat->α)->α
 | [],f=>f []
 |i::t,f=>fcN i λi=>fcL t λt=>f (i::t)
theorem zcl: ∀(v:List Nat) (f:List Nat->α),fcL v f=f v
 | [],f=>rfl
 |i::t,f=>by simp only[fcL,wQ];rw[zcl t]
def fcT:Tab->Tab->(Tab->α)->α
 | [],t,f=>f t
 |(i,none)::r,t,f=>fcN i λi=>fcT r t λt=>f ((i,none)::t)
 |(i,some x)::r,t,f=>fcN i λi=>fcR x λx=>fcT r t λt=>f ((i,some x)::t)
theorem jI: ∀(v t:Tab) (f:Tab->α),fcT v t f=f (v++t)
 | [],t,f=>rfl
 |(i,none)::r,t,f=>by simp only[fcT,wQ];rw[jI r];rfl
 |(i,some x)::r,t,f=>by simp only[fcT,wQ,zqy];rw[jI r];rfl
def addN(i:Nat)(a:List Nat):List Nat:=match hasB i a with
 |true=>a
 |false=>a++[i]
mutual
def adV:V->List Nat->List Nat
 | .bx i _,a=>addN i a
 | .ar i,a=>addN i a
 | .el i _,a=>addN i a
 | .cl _ x y,a=>zvg y (zvg x a)
 |_,a=>a
def zvg:List V->List Nat->List Nat
 | [],a=>a
 |v::vs,a=>zvg vs (adV v a)
end
mutual
def adS:S->List Nat->List Nat
 | .one v,a=>adV v a
 | .agg v,a=>zvg v a
 | .tup v,a=>zw4 v a
 |_,a=>a
def zw4:List S->List Nat->List Nat
 | [],a=>a
 |v::vs,a=>zw4 vs (adS v a)
end
def growI(tab:Tab):List Nat->List Nat->List Nat
 | [],a=>a
 |i::r,a=>match tg tab i with
  |some (.box vs)=>growI tab r (zvg vs a)
  |_=>growI tab r a
def ziG(tab:Tab)(a:List Nat)(f:List Nat->α):α:=
 fcL a λa=>fcL (growI tab a a) λb=>fcL (growI tab b b) λc=>fcL (growI tab c c) f
structure Kno (P:Program) where
 fo:Nat->Option Func
 fo_ok: ∀(f:Nat) (fn:Func),fo f=some fn->P.funcs[f]?=some fn/\(fn.name== "runtime.NumGoroutine")=false
 bo:Nat->Option Nat
 bo_ok: ∀t b,bo t=some b->(P.info? t).map (·.bytes)=some b
 lf:FuncId->List S->RL->Option (S×RL)
 lf_ok: ∀f a R r R',lf f a R=some (r,R')->zf P f a R r R'
def asc{α:Type}:List (Nat×α)->Nat->Option α
 | [],_=>none
 |(i,a)::r,j=>match Nat.beq i j with
  |true=>some a
  |false=>asc r j
def zv8{α:Type}(p:Nat->α->Prop):List (Nat×α)->Prop
 | []=>True
 |(i,a)::r=>p i a/\zv8 p r
theorem zmE{α:Type}{p:Nat->α->Prop}: ∀ {l:List (Nat×α)},zv8 p l-> ∀i a,asc l i=some a->p i a
 | [],_,_,_,h=>by cases h
 |(j,b)::r,hp,i,a,h=>by
  simp only[asc]at h;split at h
  ·rename_i e;rw[<-uA e];simp only[ui]at h;subst h;exact hp.1
  ·exact zmE hp.2 i a h
def toB:Law->Law
 |⟨d,rs,rt,fr,.bq b,wt⟩=>⟨d,rs,rt,fr,Bo b,wt⟩
 |L=>L
def LOK(P:Program)(o:Oper)(n:Nat)(sl:zd)(tab:Tab)(L:Law):Prop:=Snd P o L.rs L.rt L.fr L.v L.wt/\L.d=o.dst/\okL L n sl tab
theorem LOK.toB{P:Program}{o:Oper}{n:Nat}{sl:zd}{tab:Tab}{L:Law}(h:LOK P o n sl tab L):LOK P o n sl tab (toB L):=by
 unfold Hw.toB;split
 ·exact⟨h.1.sub (.bq rfl),h.2⟩
 ·exact h
variable {P:Program}
section
variable (T:Ty P) (N:Kno P) (d n:Nat) (sl:zd) (tab:Tab)
def xIdx(t:TypeId)(x y:Operand):Option Law:=match ev sl x with
 |some (.one (.p (.sl e rows)))=>match ev sl y with
  |some (.one (.p (.k (.int k (.ofNat j)))))=>match T.es t with
   |some (_,e')=>match Nat.beq e' e with
    |true=>match rows[j]? with
     |some row=>some ⟨some d,rq x (.one (.p (.sl e rows)))++rq y (Kk k (.ofNat j)),[],[],.one (.pi row 0),[]⟩
     |none=>none
    |false=>none
   |none=>none
  |_=>none
 |_=>none
def xLit(t:TypeId)(len:Nat)(l:Array (Nat×Operand)):Option Law:=match evs sl (l.toList.map (·.2))with
 |some ss=>match T.es t with
  |some (el,e)=>match T.zs el with
   |some _=>match partsR e 0 (l.toList.map (·.1)) ss with
    |some rows=>match Nat.beq l.toList.length len&&(Nat.ble (len*e) 16777216&&Nat.ble len 16777216)with
     |true=>some ⟨some d,rqs (l.toList.map (·.2)) ss,[],[],.one (.p (.sl e rows)),[]⟩
     |false=>none
    |none=>none
   |none=>none
  |none=>none
 |none=>none
def zw5(f:FuncId)(fs l:Array Operand):Option Law:=match evs sl fs.toList with
 |some ssf=>match onesOf ssf with
  |some first=>match evs sl l.toList with
   |some ss=>match onesOf ss with
    |some caps=>some ⟨some d,rqs fs.toList ssf++rqs l.toList ss,[],[],.one (.cl f first caps),[]⟩
    |none=>none
   |none=>none
  |none=>none
 |none=>none
def xApp(aZ:Array Operand)(ts:Array TypeId):Option Law:=match aZ.toList with
 | [x,y]=>match ts.toList with
   | [t,tx]=>match ev sl y with
     |some (.one (.p (.sl e rows2)))=>match T.es tx with
      |some (_,e2)=>match T.es t with
       |some (el,e1)=>match T.zs el with
        |some z=>match N.bo el with
         |some bytes=>match Nat.beq e2 e&&(Nat.beq e1 e&&(Nat.beq z.length e&&(Nat.ble 100 (1000+d)&&freshB (1000+d) ⟨n,sl,tab⟩)))with
          |true=>match ev sl x with
           |some (.one (.ar id))=>match tg tab id with
            |some (.arr e3 rows)=>match Nat.beq e3 e&&(Nat.ble ((rows.length+rows2.length)*bytes) 140737488355328&&Nat.ble (rows.length+rows2.length) 9223372036854775807)with
             |true=>some ⟨some d,rq x (.one (.ar id))++rq y (.one (.p (.sl e rows2))),[(id,.arr e3 rows)],[1000+d],.one (.ar (1000+d)),[(1000+d,some (.arr e3 (rows++rows2))),(id,none)]⟩
             |false=>none
            |_=>none
           |some (.one (.p (.k (.slice none 0 0))))=>match Nat.ble (rows2.length*bytes) 140737488355328&&Nat.ble rows2.length 9223372036854775807 with
            |true=>some ⟨some d,rq x (.one (.p (.k (.slice none 0 0))))++rq y (.one (.p (.sl e rows2))),[],[1000+d],.one (.ar (1000+d)),[(1000+d,some (.arr e rows2))]⟩
            |false=>none
           |_=>none
          |false=>none
         |none=>none
        |none=>none
       |none=>none
      |none=>none
     |_=>none
   |_=>none
 |_=>none
def frs(d:Nat):Nat->List Nat
 |0=>[]
 |k+1=>frs d k++[1000*(k+1)+d]
def xCall(ce:FuncId->List S->RL->Option (S×RL))(x:Operand)(l:Array Operand):Option Law:=match ev sl x with
 |some (.one (.cl f first caps))=>match evs sl l.toList with
  |some ss=>ziG tab (zw4 (ones first++ss++ones caps) []) λids=>match pickR tab ids with
   |some R0=>match cloSs ids (ones first++ss++ones caps)&&gRL ids R0 with
    |true=>fcSs (Ss.ren (ix ids) (ones first++ss++ones caps)) λargs=>fcRL (R0.ren (ix ids)) λR=>match ce f args R with
     |some (res,R')=>fcL (ids++frs d (zP R R').length) λnw=>
      match injB (nm nw) R.ids&&(injB (nm nw) R'.ids&&(cloS (R.ids++R'.ids) res&&(xH (R.ids++R'.ids) R'&&allB (λid=>Nat.ble 100 id&&freshB id ⟨n,sl,tab⟩) ((zP R R').map (nm nw)))))with
      |true=>some ⟨some d,rq x (.one (.cl f first caps))++rqs l.toList ss,R0,(zP R R').map (nm nw),res.ren (nm nw),tb (R'.ren (nm nw))++xp ids⟩
      |false=>none
     |none=>none
    |false=>none
   |none=>none
  |none=>none
 |_=>none
def goX(ce:FuncId->List S->RL->Option (S×RL))(o:Oper):Option Law:=
 match goL T n true o sl tab with
 |some L=>some (toB L)
 |none=>match o.dst with
  |none=>none
  |some d=>match Nat.blt d n with
   |false=>none
   |true=>match o.op with
    | .indexAddr t x y=>xIdx T d sl t x y
    | .buildSlice t len l=>xLit T d sl t len l
    | .makeFunc (.func f) fs l=>zw5 d sl f fs l
    | .call ⟨.builtin .append,aZ,ts⟩=>xApp T N d n sl tab aZ ts
    | .call ⟨.value x,l,_⟩=>xCall d n sl tab ce x l
    |_=>none
end
variable {L:Law}{N:Kno P}{af:Array Edge}{ce:FuncId->List S->RL->Option (S×RL)}{f:FuncId}{g:Option (Nat×Bool)}{o:Oper}{ps:String}{t:TypeId}{tab:Tab}{ts:Array TypeId}
section
variable {T:Ty P} {d n:Nat} {sl:zd}
theorem zsK{x y:Operand}(h:xIdx T d sl t x y=some L){ty:TypeId}(hd:Nat.blt d n=true):
 LOK P ⟨some d,.indexAddr t x y,ty,ps,af,g⟩ n sl tab L:=by
 unfold xIdx at h;split at h
 ·rename_i e rows hx;split at h
  ·rename_i k j hy;split at h
   ·rename_i el e' he;split at h
    ·rename_i J;have J:=uA J;subst J;split at h
     ·rename_i row hr;simp only[ui]at h;subst h;have U:=zu (st:=⟨n,sl,tab⟩) hx;have e2:=zu (st:=⟨n,sl,tab⟩) hy;exact⟨zaU U.1 e2.1 (T.es_ok _ _ he) (uD _) hr,rfl,by rw[za];exact⟨U.2,e2.2⟩,trivial,rfl,hd⟩
     ·cases h
    ·cases h
   ·cases h
  ·cases h
 ·cases h
theorem zsL{len:Nat}{l:Array (Nat×Operand)}(h:xLit T d sl t len l=some L){ty:TypeId}(hd:Nat.blt d n=true):
 LOK P ⟨some d,.buildSlice t len l,ty,ps,af,g⟩ n sl tab L:=by
 obtain⟨l⟩:=l;unfold xLit at h;split at h
 ·rename_i ss hl;split at h
  ·rename_i el e he;split at h
   ·rename_i z hz;split at h
    ·rename_i rows hr;split at h
     ·rename_i J;simp only[um]at J;simp only[ui]at h;subst h;have U:=xl (st:=⟨n,sl,tab⟩) hl;exact⟨zvh U.1 (T.es_ok _ _ he) (T.zs_ok _ _ hz) hr J.1 J.2.1 J.2.2,rfl,U.2,trivial,rfl,hd⟩
     ·cases h
    ·cases h
   ·cases h
  ·cases h
 ·cases h
theorem zsM{fs l:Array Operand}(h:zw5 d sl f fs l=some L){ty:TypeId}(hd:Nat.blt d n=true):
 LOK P ⟨some d,.makeFunc (.func f) fs l,ty,ps,af,g⟩ n sl tab L:=by
 obtain⟨fs⟩:=fs;obtain⟨l⟩:=l;unfold zw5 at h;split at h
 ·rename_i ssf hf;split at h
  ·rename_i first h1
   split at h
   ·rename_i ss hl;split at h
    ·rename_i caps h2;simp only[ui]at h;subst h;have J:=xl (st:=⟨n,sl,tab⟩) hf;have U:=xl (st:=⟨n,sl,tab⟩) hl;exact⟨zf0 J.1 h1 U.1 h2,rfl,by rw[za];exact⟨J.2,U.2⟩,trivial,rfl,hd⟩
    ·cases h
   ·cases h
  ·cases h
 ·cases h
theorem zsN{aZ:Array Operand}(h:xApp T N d n sl tab aZ ts=some L){ty:TypeId}(hd:Nat.blt d n=true):
 LOK P ⟨some d,.call ⟨.builtin .append,aZ,ts⟩,ty,ps,af,g⟩ n sl tab L:=by
 obtain⟨aZ⟩:=aZ;obtain⟨ts⟩:=ts;unfold xApp at h;split at h
 ·rename_i x y U;simp only at U;subst U;split at h
  ·rename_i t tx hts;simp only at hts;subst hts;split at h
   ·rename_i e rows2 hy;split at h
    ·rename_i el2 e2 he2;split at h
     ·rename_i el e1 he1;split at h
      ·rename_i z hz;split at h
       ·rename_i bytes hby;split at h
        ·rename_i hb;simp only[um]at hb;obtain⟨b1,b2,b3,b4,b5⟩:=hb;have b1:=uA b1;have b2:=uA b2;subst b1;subst b2;have E2:=zu (st:=⟨n,sl,tab⟩) hy;split at h
         ·rename_i id hx;split at h
          ·rename_i e3 rows ht;split at h
           ·rename_i J;simp only[um]at J;have c1:=uA J.1;subst c1;simp only[ui]at h;subst h;have E1:=zu (st:=⟨n,sl,tab⟩) hx
            exact⟨ziH E1.1 E2.1 (zcH.sl (T.es_ok _ _ he2)) (T.es_ok _ _ he1) (T.zs_ok _ _ hz) (uA b3) (N.bo_ok _ _ hby) (uS J.2.1) (uS J.2.2),
             rfl,by rw[za];exact⟨E1.2,E2.2⟩,⟨ht,uh⟩,zae (by simp only[um];exact⟨b4,b5⟩),hd⟩
           ·cases h
          ·cases h
         ·rename_i hx;split at h
          ·rename_i J;simp only[um]at J;simp only[ui]at h;subst h;have E1:=zu (st:=⟨n,sl,tab⟩) hx
           exact⟨zlN E1.1 E2.1 (zcH.sl (T.es_ok _ _ he2)) (T.es_ok _ _ he1) (T.zs_ok _ _ hz) (uA b3) (N.bo_ok _ _ hby) (uS J.1) (uS J.2),
            rfl,by rw[za];exact⟨E1.2,E2.2⟩,trivial,zae (by simp only[um];exact⟨b4,b5⟩),hd⟩
          ·cases h
         ·cases h
        ·cases h
       ·cases h
      ·cases h
     ·cases h
    ·cases h
   ·cases h
  ·cases h
 ·cases h
theorem zpg(hce: ∀f a R r R',ce f a R=some (r,R')->zf P f a R r R'){x:Operand}{l:Array Operand}(h:xCall d n sl tab ce x l=some L)
 {ty:TypeId} (hd:Nat.blt d n=true):
 LOK P ⟨some d,.call ⟨.value x,l,ts⟩,ty,ps,af,g⟩ n sl tab L:=by
 obtain⟨l⟩:=l;unfold xCall at h;simp only[ziG,zcl,zha,zed]at h;split at h
 ·rename_i f first caps hx
  split at h
  ·rename_i ss hl;generalize growI tab _ _=ids at h;split at h
   ·rename_i R0 hR;split at h
    ·rename_i hg;simp only[um]at hg;split at h
     ·rename_i res R' hf;split at h
      ·rename_i hb;simp only[um]at hb;obtain⟨b1,b2,b3,b4,b5⟩:=hb;simp only[ui]at h;subst h;have hi: ∀i,hasB i ids=true->nm (ids++frs d (zP (R0.ren (ix ids)) R').length) (ix ids i)=i:=λi hi=>zvb hi
       have e1:=zu (st:=⟨n,sl,tab⟩) hx;have e2:=xl (st:=⟨n,sl,tab⟩) hl;have hp:=zbA (n:=n) (sl:=sl) hR
       have hL:=zhz (ty:=ty) (ps:=ps) (af:=af) (g:=g) (d:=some d) (ts:=ts) (hce _ _ _ _ _ hf) (nm (ids++frs d (zP (R0.ren (ix ids)) R').length)) e1.1 e2.1
        (by rw[Ss.back hi _ hg.1];exact zI.refl _) b1 b2 b3 b4
       have J:=RL.back hi hg.2;rw[J]at hL;have U:(RL.ids (RL.ren (ix ids) R0)).map (nm (ids++frs d (zP (R0.ren (ix ids)) R').length))=ids:=by rw[<-zmF,J,hp.1]
       rw[U]at hL;exact⟨hL,rfl,by rw[za];exact⟨e1.2,e2.2⟩,hp.2,b5,hd⟩
      ·cases h
     ·cases h
    ·cases h
   ·cases h
  ·cases h
 ·cases h
theorem zvi(U: ∀f a R r R',ce f a R=some (r,R')->zf P f a R r R')(h:goX T N n sl tab ce o=some L):LOK P o n sl tab L:=by
 unfold goX at h;split at h
 ·rename_i L0 hL;simp only[ui]at h;subst h;exact LOK.toB (zcm T hL)
 ·obtain⟨dd,op,ty,ps,af,g⟩:=o;simp only at h;split at h
  ·cases h
  ·rename_i d;split at h
   ·cases h
   ·rename_i J;split at h
    ·exact zsK h J
    ·exact zsL h J
    ·exact zsM h J
    ·exact zsN h J
    ·exact zpg U h J
    ·cases h
end
def stepW(n:Nat)(all:Array Oper)(o:Oper)(sl:zd)(g:Option Law):Option Law:=
 match o.guard with
 |none=>g
 |some (j,want)=>match(all[j]?).bind (·.dst)with
  |some t=>match sg sl t with
   |some (.one (.p (.k (.bool c))))=>match zbG want c with
    |true=>match g with
     |some ⟨d,rs,rt,fr,v,wt⟩=>some ⟨d,(t,Bo c)::rs,rt,fr,v,wt⟩
     |none=>none
    |false=>match dok o.dst n with
     |true=>some ⟨o.dst,[(t,Bo c)],[],[],.gd false (Bo false),[]⟩
     |false=>none
   |some (.gd false (.one (.p (.k (.bool c)))))=>match dok o.dst n with
    |true=>some ⟨o.dst,[(t,.gd false (Bo c))],[],[],.gd false (Bo false),[]⟩
    |false=>none
   |_=>none
  |none=>none
variable {all:Array Oper}
theorem zph{n:Nat}{sl:zd}{g:Option Law}(hg: ∀L,g=some L->LOK P o n sl tab L)(h:stepW n all o sl g=some L):
 yL P all o L.rs L.rt L.fr L.v L.wt/\L.d=o.dst/\okL L n sl tab:=by
 unfold stepW at h;split at h
 ·rename_i hn;obtain⟨h1,h2,h3⟩:=hg L h;exact⟨yL.plain hn h1,h2,h3⟩
 ·rename_i j want hj;split at h
  ·rename_i t ht
   have off: ∀ {c:Bool} {s:S},(s=Bo c/\zbG want c=false\/s= .gd false (Bo c))->sg sl t=some s->dok o.dst n=true->L=⟨o.dst,[(t,s)],[],[],.gd false (Bo false),[]⟩->yL P all o L.rs L.rt L.fr L.v L.wt/\L.d=o.dst/\okL L n sl tab:=
    λ{c s} hs U J e=>by
     subst e
     have hgi:vm all o t s false:=by
      rcases hs with⟨rfl,hw⟩|rfl
      ·exact⟨j,want,hj,ht,.inl ⟨c,rfl,hw.symm⟩⟩
      ·exact⟨j,want,hj,ht,.inr ⟨false,c,rfl,rfl⟩⟩
     refine⟨λC st M ρ a w hH h4 h5 h6 J k Q hk=>?_,rfl,⟨U,uh⟩,trivial,rfl,J⟩;rw[hgi.wanted (hH.slots t _ h4.1)];simp only[uB,uM];exact hk _ _ M ρ (hH.jQ J (by simp[RepS]))
   split at h
   ·rename_i c U;split at h
    ·rename_i hw;split at h
     ·rename_i d rs rt fr v wt;simp only[ui]at h;subst h;obtain⟨h1,h2,h3⟩:=hg _ rfl;refine⟨λC st M ρ a w hH h4 h5 h6 J k Q hk=>?_,h2,⟨U,h3.1⟩,h3.2⟩;rw[vm.wanted (ops:=all) (o:=o) (t:=t) (gs:=Bo c) (b:=zbG want c) ⟨j,want,hj,ht,.inl ⟨c,rfl,rfl⟩⟩ (hH.slots t _ h4.1),hw,uw rfl];exact h1 C st M ρ a w hH h4.2 h5 h6 J k Q hk
     ·cases h
    ·rename_i hw;split at h
     ·rename_i J;simp only[ui]at h;exact off (.inl ⟨rfl,hw⟩) U J h.symm
     ·cases h
   ·rename_i c U;split at h
    ·rename_i J;simp only[ui]at h;exact off (c:=c) (.inr rfl) U J h.symm
    ·cases h
   ·cases h
  ·cases h
def zvl(P:Program)(c:Code)(Q:Exit->Act->World->Prop)(a:Act)(w:World):Prop:=
 ∀b k cs,∃e a' w',Q e a' w'/\Arrives P (lone (b.at a (.code c:: .inLoop c::k)) cs w) b k cs e a' w'
def zw6(P:Program)(C:Ctx)(c:Code)(Q:Exit->St->Prop):Exit->St->Prop
 | .normal,st=> ∀M ρ a w,Holds C st M ρ a w->zvl P c (lift C Q) a w
 |e,st=>Q e st
variable {C:Ctx}{Q:Exit->St->Prop}{c:Code}{st:St}
theorem zmG(h:Tri P C c st (zw6 P C c Q)): ∀M ρ a w,Holds C st M ρ a w->zvl P c (lift C Q) a w:=by
 intro M ρ a w hH b k cs;obtain⟨e,a₁,w₁,⟨st',M',ρ',hq,U⟩,J⟩:=h M ρ a w hH b (.inLoop c::k) cs;cases e with
 |normal=>
  obtain⟨e₂,a₂,w₂,hq₂,harr₂⟩:=hq M' ρ' a₁ w₁ U b k cs;exact⟨e₂,a₂,w₂,hq₂,.of_steps (Steps.trans J (.one step_inLoop)) harr₂⟩
 |exit id=>exact⟨_,a₁,w₁,⟨st',M',ρ',hq,U⟩,.pass (x:= .inLoop c) rfl (λ_ _=> .inl ue) J⟩
 |goto l=>exact⟨_,a₁,w₁,⟨st',M',ρ',hq,U⟩,.pass (x:= .inLoop c) rfl (λ_ _=> .inl ue) J⟩
 |ret=>exact⟨_,a₁,w₁,⟨st',M',ρ',hq,U⟩,.pass (x:= .inLoop c) rfl (λ_ _=> .inl ue) J⟩
 |panic ch=>exact⟨_,a₁,w₁,⟨st',M',ρ',hq,U⟩,.pass (x:= .inLoop c) rfl (λ_ _=> .inl ue) J⟩
 |outgrown=>exact⟨_,a₁,w₁,⟨st',M',ρ',hq,U⟩,.pass (x:= .inLoop c) rfl (λ_ _=> .inl ue) J⟩
theorem zvm(h:Tri P C c st (zw6 P C c Q)):Tri P C (.loop c) st Q:=by
 intro M ρ a w U b k cs;obtain⟨e,a',w',hq,J⟩:=zmG h M ρ a w U b k cs;exact⟨e,a',w',hq,.of_steps (.one step_loop) J⟩
def lvI(tab:Tab):Tab->List Nat->List Nat
 | [],a=>a
 |(i,_)::r,a=>match hasB i a with
  |true=>lvI tab r a
  |false=>match tg tab i with
   |some _=>lvI tab r (i::a)
   |none=>lvI tab r a
def zvn(c:Nat):List Nat->List (Nat×Nat)
 | []=>[]
 |i::r=>match Nat.blt i 1000 with
  |true=>(i,i)::zvn c r
  |false=>fcN c λc=>(i,c)::zvn (c+1) r
def zvo:Nat->List Nat->Nat
 |m,[]=>m
 |m,i::r=>match Nat.blt i 1000&&Nat.ble m i with
  |true=>zvo (i+1) r
  |false=>zvo m r
def goI:List (Nat×Nat)->Nat->Nat
 | [],i=>i
 |(j,k)::r,i=>match Nat.beq j i with
  |true=>k
  |false=>goI r i
def baI:List (Nat×Nat)->Nat->Nat
 | [],i=>i
 |(j,k)::r,i=>match Nat.beq k i with
  |true=>j
  |false=>baI r i
def lowI:List (Nat×Nat)->Bool
 | []=>true
 |(i,j)::r=>(Nat.ble 100 j||Nat.beq i j)&&lowI r
theorem zmH: ∀ {l:List (Nat×Nat)},lowI l=true-> ∀i,i<100->baI l i=i
 | [],_,i,_=>rfl
 |(a,b)::r,h,i,hi=>by
  simp only[lowI,um,uO]at h;simp only[baI];split
  ·rename_i e;have e:=uA e;rcases h.1 with J|J
   ·have:=uS J;omega
   ·rw[uA J];exact e
  ·exact zmH h.2 i hi
def cmS{α:Type}(ids:List Nat)(f:Nat->Nat)(sl:zd):zd->List Nat->(zd->Option α)->Option α
 | [],_,k=>k []
 |(t,_)::r,seen,k=>match hasB t seen with
  |true=>cmS ids f sl r seen k
  |false=>match sg sl t with
   |some s=>match cloS ids s with
    |true=>fcS (s.ren f) λs'=>cmS ids f sl r (t::seen) λsl'=>k ((t,s')::sl')
    |false=>cmS ids f sl r (t::seen) k
   |none=>cmS ids f sl r (t::seen) k
theorem zfH{α:Type}{ids:List Nat}{f g:Nat->Nat}{n:Nat}{sl:zd}{tab:Tab}(J: ∀i,hasB i ids=true->g (f i)=i): ∀ {r:zd} {seen:List Nat} {k:zd->Option α} {x:α},cmS ids f sl r seen k=some x->
 ∃sl',mS g ⟨n,sl,tab⟩ sl'/\k sl'=some x
 | [],_,k,x,h=>⟨[],trivial,h⟩
 |(t,_)::r,seen,k,x,h=>by
  simp only[cmS]at h;split at h
  ·exact zfH J h
  ·split at h
   ·rename_i s U;split at h
    ·rename_i hc;rw[zfF]at h;obtain⟨sl',h1,h2⟩:=zfH J h;exact⟨(t,s.ren f)::sl',⟨by rw[S.back J s hc];exact U,h1⟩,h2⟩
    ·exact zfH J h
   ·exact zfH J h
def cmX(sl:zd)(tab:Tab)(k:zd->Tab->Option α):Option α:=
 fcL (lvI tab tab []) λids=>match pickR tab ids with
 |some R0=>fcM (zvn (zvo 100 ids) ids) λl=>match gRL ids R0&&(allB (λi=>Nat.beq (baI l (goI l i)) i) ids&&(lowI l&&injB (baI l) (R0.ren (goI l)).ids))with
  |true=>fcRL (R0.ren (goI l)) λR=>cmS ids (goI l) sl sl [] λsl'=>fcT (tb R) [] λtab'=>k sl' tab'
  |false=>none
 |none=>none
where fcM:List (Nat×Nat)->(List (Nat×Nat)->Option α)->Option α
 | [],f=>f []
 |(i,j)::r,f=>fcN i λi=>fcN j λj=>fcM r λr=>f ((i,j)::r)
theorem zqz{α:Type}: ∀(v:List (Nat×Nat)) (f:List (Nat×Nat)->Option α),cmX.fcM v f=f v
 | [],f=>rfl
 |(i,j)::r,f=>by simp only[cmX.fcM,wQ];rw[zqz r]
variable {x:α}
theorem zqA{n:Nat}{sl:zd}{k:zd->Tab->Option α}(h:cmX sl tab k=some x): ∃sl' tab' σ,Matches σ ⟨n,sl,tab⟩ ⟨n,sl',tab'⟩/\k sl' tab'=some x:=by
 unfold cmX at h;simp only[zcl,zqz,zed,jI]at h;split at h
 ·rename_i R0 hR;split at h
  ·rename_i J;simp only[um]at J;obtain⟨b1,b2,b3,b4⟩:=J
   have U: ∀i,hasB i (lvI tab tab [])=true->baI (zvn (zvo 100 (lvI tab tab [])) (lvI tab tab [])) (goI (zvn (zvo 100 (lvI tab tab [])) (lvI tab tab [])) i)=i:=
    λi hi=>uA (zE b2 i (z1 hi))
   obtain⟨sl',h1,h2⟩:=zfH (n:=n) (tab:=tab) U h;refine⟨sl',_,_,⟨rfl,h1,?_,?_,zmH b3⟩,h2⟩
   ·rw[uV];exact zvc (zg9 (n:=n) (sl:=sl) U b1 (zbA hR).2)
   ·rw[uV,zmD];exact b4
  ·cases h
 ·cases h
def cA(L:Law)(m:Nat):List Law->Nat->Bool
 | [],_=>true
 |X::r,k=>fcN (k - 1) λk=>((zbf m k||(apart X L&&apart L X))&&allB (λid=>noL id X) L.fr)&&cA L m r k
theorem zvp{L:Law}{m:Nat}: ∀ {l:List Law} {k:Nat},k=l.length->cA L m l k=true-> ∀j X,at? l j=some X->((zbf m j||(apart X L&&apart L X))&&allB (λid=>noL id X) L.fr)=true
 | [],_,_,_,_,_,hX=>by cases hX
 |Y::r,k,hk,h,j,X,hX=>by
  simp only[cA,wQ]at h;have J:k - 1=r.length:=by rw[hk];rfl
  rw[J,um]at h;rw[yg]at hX;split at hX
  ·rename_i e;subst e;simp only[ui]at hX;subst hX;exact h.1
  ·exact zvp rfl h.2 j X hX
def cM(all:Array Oper)(ms:List Nat)(st:St):List Law->Bool
 | []=>true
 |L::l=>fcN l.length λk=>(match all[k]? with
  |some o=>allB (λp=>Nat.blt p k) (zS o)&&allLt (λj=> !zbf (nth ms k) j||anyB (λp=>Nat.beq p j||(Nat.blt j p&&zbf (nth ms p) j)) (zS o)) k&&fcN (nth ms k) (λm=>cA L m l k)&&allB (λid=>Nat.ble 100 id&&freshB id st) L.fr
  |none=>false)&&cM all ms st l
theorem zmI{l:List Law}{i:Nat}(J:i<l.length): ∀p:List Law,at? (p++l) i=at? l i
 | []=>rfl
 |X::p=>by
  rw[uL,yg,ur (by rw[uP];omega),zmI J p]
theorem zee{p:Nat->Bool}: ∀ {n:Nat},(∀i,i<n->p i=true)->allLt p n=true
 |0,_=>rfl
 |n+1,h=>by simp only[allLt,um];exact⟨h n ua,zee λi hi=>h i ua⟩
theorem zvq{all:Array Oper}{ms:List Nat}{st:St}: ∀ {l:List Law},cM all ms st l=true-> ∀(p:List Law) (i:Nat),i<l.length->checkAt all ms st (p++l) i=true
 | [],_,_,_,hi=>absurd hi (oD _)
 |L::l,h,p,i,hi=>by
  simp only[cM,wQ,um]at h;by_cases e:i=l.length
  ·subst e;have J:=h.1;split at J
   ·rename_i o ho;simp only[um]at J;have hL:at? (p++L::l) l.length=some L:=by rw[zmI hi,yg,uw rfl]
    unfold checkAt;rw[ho,hL];simp only[um];refine⟨⟨⟨J.1.1.1,J.1.1.2⟩,zee λj hj=>?_⟩,J.2⟩;obtain⟨X,hX⟩:=zgK hj;have U:at? (p++L::l) j=some X:=by rw[zmI (by simp only[uW];omega),yg,ur ua];exact hX
    rw[U];exact zvp rfl J.1.2 j X hX
   ·cases J
  ·have:=zvq h.2 (p++[L]) i (by simp only[uW]at hi;omega);rwa [tE]at this
def zmJ(all:Array Oper)(st:St)(l:List Law):Bool:=Nat.beq l.length all.size&&fcL (vc all.toList []) λms=>cM all ms st l
theorem zmK{l:List Law}(h:zmJ all st l=true):check all (vc all.toList []) st l=true:=by
 unfold zmJ at h;rw[zcl,um]at h;unfold check;rw[um];refine⟨h.1,zee λi J=>?_⟩;have:=zvq h.2 [] i (by rw[uA h.1];exact J);exact this
def fcSl{α:Type}:zd->(zd->α)->α
 | [],f=>f []
 |(k,s)::r,f=>fcN k λk=>fcSl r λr=>f ((k,s)::r)
theorem zhb{α:Type}: ∀(v:zd) (f:zd->α),fcSl v f=f v
 | [],f=>rfl
 |(k,s)::r,f=>by simp only[fcSl,wQ];rw[zhb r]
def zvr{α:Type}:RL->(RL->α)->α
 | [],f=>f []
 |(k,s)::r,f=>fcN k λk=>zvr r λr=>f ((k,s)::r)
theorem zhc{α:Type}: ∀(v:RL) (f:RL->α),zvr v f=f v
 | [],f=>rfl
 |(k,s)::r,f=>by simp only[zvr,wQ];rw[zhc r]
inductive FrX where
 |seq (c:Code)
 |blk (i:Nat)
 |rnd (c:Code)
def unX(P:Program)(C:Ctx):List FrX->(Exit->St->Prop)->Exit->St->Prop
 | [],Q=>Q
 | .seq c::k,Q=>zpi P C c (unX P C k Q)
 | .blk i::k,Q=>blockQ i (unX P C k Q)
 | .rnd c::k,Q=>zw6 P C c (unX P C k Q)
def arIn(tab:Tab):List V->Option (Nat×Nat×List (List PV))
 | []=>none
 | .ar id::r=>match tg tab id with
   |some (.arr e rows)=>some (id,e,rows)
   |_=>arIn tab r
 |_::r=>arIn tab r
def zsO(id e:Nat)(rows:List (List PV)):List V->List V
 | []=>[]
 | .ar i::r=>match Nat.beq i id with
   |true=> .p (.sl e rows)::zsO id e rows r
   |false=> .ar i::zsO id e rows r
 |v::r=>v::zsO id e rows r
theorem zmL{id e:Nat}{rows:List (List PV)}: ∀vs:List V,zcs id e rows vs (zsO id e rows vs)
 | []=>zcs.nil
 |v::r=>by
  have J:=zmL (id:=id) (e:=e) (rows:=rows) r;unfold zsO;split
  ·rename_i h;cases h
  ·rename_i i r' h;simp only[qC]at h;obtain⟨rfl,rfl⟩:=h;split
   ·rename_i e;rw[uA e];exact zcs.cons FrV.ar J
   ·exact zcs.cons (FrV.refl _) J
  ·rename_i h;simp only[qC]at h;obtain⟨rfl,rfl⟩:=h;exact zcs.cons (FrV.refl _) J
def preL(T:Ty P)(o:Oper)(sl:zd)(tab:Tab):Option (Nat×List V×Nat×Nat×List (List PV)):=
 match o.op with
 | .load t x=>match T.sh t with
   |some (some _)=>match ev sl x with
    |some (.one (.bx b _))=>match tg tab b with
     |some (.box vs)=>match arIn tab vs with
      |some (id,e,rows)=>match tg tab id with
       |some (.arr e' rows')=>match Nat.beq b id with
        |true=>none
        |false=>some (b,vs,id,e',rows')
       |_=>none
      |none=>none
     |_=>none
    |_=>none
   |_=>none
 |_=>none
section
variable (T:Ty P) (N:Kno P) (ce:FuncId->List S->RL->Option (S×RL)) (n:Nat) (k:List FrX) (sl:zd) (tab:Tab) (go:Cur->List FrX->zd->Tab->Option α)
def xC(c:Code):Option α:=match c with
 | .seq a b=>go (.code a) (.seq b::k) sl tab
 | .skip=>go (.fin .normal) k sl tab
 | .exit i=>go (.fin (.exit i)) k sl tab
 | .ret=>go (.fin .ret) k sl tab
 | .block i c=>go (.code c) (.blk i::k) sl tab
 | .loop c=>cmX sl tab λsl tab=>go (.code c) (.rnd c::k) sl tab
 | .region _ ops dr=>match dr with
   |false=>go (.ops ops ops.toList none) k sl tab
   |true=>go (.ops ops ops.toList (some (sl,tab,[]))) k sl tab
 | .cond c a b=>match ev sl c with
   |some (.one (.p (.k (.bool bb))))=>match bb with
    |true=>go (.code a) k sl tab
    |false=>go (.code b) k sl tab
   |_=>none
 |_=>none
def xE(all:Array Oper)(md:Mode):Option α:=match md with
 |none=>go (.fin .normal) k sl tab
 |some (s,t,done)=>match zmJ all ⟨n,s,t⟩ done with
  |true=>go (.fin .normal) k sl tab
  |false=>none
def xPut(all:Array Oper)(r:List Oper)(L:Option Law):Option α:=match L with
 |some ⟨some d,_,_,_,v,wt⟩=>fcS v λv=>fcT wt tab λtab=>go (.ops all r none) k ((d,v)::sl) tab
 |some ⟨none,_,_,_,_,wt⟩=>fcT wt tab λtab=>go (.ops all r none) k sl tab
 |none=>none
def zvs(all:Array Oper)(r:List Oper)(s:zd)(t:Tab)(done:List Law)(L:Option Law):Option α:=match L with
 |some ⟨some d,rs,rt,fr,v,wt⟩=>fcSl rs λrs=>zvr rt λrt=>fcL fr λfr=>fcS v λv=>fcT wt [] λwt=>fcT wt tab λtab=>go (.ops all r (some (s,t,⟨some d,rs,rt,fr,v,wt⟩::done))) k ((d,v)::sl) tab
 |some ⟨none,rs,rt,fr,v,wt⟩=>fcSl rs λrs=>zvr rt λrt=>fcL fr λfr=>fcT wt [] λwt=>fcT wt tab λtab=>go (.ops all r (some (s,t,⟨none,rs,rt,fr,v,wt⟩::done))) k sl tab
 |none=>none
def xO(all:Array Oper)(o:Oper)(r:List Oper)(md:Mode):Option α:=match md with
 |none=>match preL T o sl tab with
  |some (b,vs,id,e,rows)=>fcT [(b,some (.box (zsO id e rows vs)))] ((id,none)::tab) λtab=>go (.ops all (o::r) none) k sl tab
  |none=>xPut k sl tab go all r (stepW n all o sl (goX T N n sl tab ce o))
 |some (s,t,done)=>zvs k sl tab go all r s t done (stepW n all o sl (goX T N n sl tab ce o))
def xF(e:Exit)(f:FrX):Option α:=match e with
 | .normal=>match f with
   | .seq c=>go (.code c) k sl tab
   | .blk _=>go (.fin .normal) k sl tab
   | .rnd c=>cmX sl tab λsl tab=>go (.code c) (.rnd c::k) sl tab
 | .exit i=>match f with
   | .blk j=>match Nat.beq i j with
     |true=>go (.fin .normal) k sl tab
     |false=>go (.fin (.exit i)) k sl tab
   |_=>go (.fin (.exit i)) k sl tab
 | .ret=>go (.fin .ret) k sl tab
 |_=>none
def stepX(cur:Cur):Option α:=match cur with
 | .code c=>xC k sl tab go c
 | .ops all r md=>match r with
   | []=>xE n k sl tab go all md
   |o::r=>xO T N ce n k sl tab go all o r md
 | .fin e=>match k with
   | []=>none
   |f::k=>xF k sl tab go e f
end
theorem ziI{T:Ty P}(hce: ∀f a R r R',ce f a R=some (r,R')->zf P f a R r R')(hC:C.low){n:Nat}{cur:Cur}{k:List FrX}{sl:zd}
 {go:Cur->List FrX->zd->Tab->Option α} (h:stepX T N ce n k sl tab go cur=some x)
 (J: ∀cur k sl tab,go cur k sl tab=some x->Goal P C cur [] n sl tab (unX P C k Q)):Goal P C cur [] n sl tab (unX P C k Q):=by
 have law: ∀ {all:Array Oper} {o:Oper} {r:List Oper} {md:Mode} {L:Law},stepW n all o sl (goX T N n sl tab ce o)=some L->Goal P C (.ops all r (nx md L)) [] n (app L.d L.v L.wt ⟨n,sl,tab⟩).sl (L.wt++tab) (unX P C k Q)->Goal P C (.ops all (o::r) md) [] n sl tab (unX P C k Q):=λhs g=>by
  obtain⟨h1,h2,h3⟩:=zph (λL hL=>zvi hce hL) hs;exact zN hC h1 h2 h3 g
 cases cur with
 |code c=>
  simp only[stepX,xC]at h;split at h
  ·exact zvt (J _ _ _ _ h)
  ·have g:=J _ _ _ _ h;exact λM ρ a w U=>wp_skip (g M ρ a w U)
  ·have g:=J _ _ _ _ h;exact λM ρ a w U=>wp_exit (g M ρ a w U)
  ·have g:=J _ _ _ _ h;exact λM ρ a w U=>wp_ret (g M ρ a w U)
  ·exact zmM (J _ _ _ _ h)
  ·obtain⟨sl',tab',σ,hm,h2⟩:=zqA (n:=n) h;have g:=J _ _ _ _ h2;exact zvm λM ρ a w U=>g _ _ _ _ (U.matches hC hm)
  ·split at h
   ·have g:=J _ _ _ _ h;exact λM ρ a w U=>wp_region_list (g M ρ a w U)
   ·have g:=J _ _ _ _ h;exact λM ρ a w U=>g trivial (λ_=>rfl) (λ_=>rfl) rfl M ρ a w _ U
  ·split at h
   ·rename_i hc;split at h
    ·exact zmN hc (J _ _ _ _ h)
    ·exact zmO hc (J _ _ _ _ h)
   ·cases h
  ·cases h
 |ops all r md=>
  simp only[stepX,xE,xO,xPut,zvs]at h;split at h
  ·split at h
   ·have g:=J _ _ _ _ h;exact λM ρ a w U=>wpList_nil (g M ρ a w U)
   ·split at h
    ·rename_i hc;exact zi2 T hC (zmK hc) (J _ _ _ _ h)
    ·cases h
  ·rename_i o r;split at h
   ·split at h
    ·rename_i b vs id e rows hp;rw[jI]at h;have g:=J _ _ _ _ h
     have hq:tg tab b=some (.box vs)/\tg tab id=some (.arr e rows)/\Nat.beq b id=false:=by
      unfold preL at hp;split at hp
      ·split at hp
       ·split at hp
        ·split at hp
         ·rename_i hb;split at hp
          ·split at hp
           ·rename_i ha;split at hp
            ·cases hp
            ·rename_i hne;simp only[ui,uz]at hp;obtain⟨rfl,rfl,rfl,rfl,rfl⟩:=hp;exact⟨hb,ha,hne⟩
           ·cases hp
          ·cases hp
         ·cases hp
        ·cases hp
       ·cases hp
      ·cases hp
     exact zdk rfl hq.2.1 [] uh [(b,zsO id e rows vs)] ⟨⟨vs,hq.1,(λe=>by have h3:=hq.2.2;rw[e,jv]at h3;cases h3),zmL vs⟩,uh⟩ g
    ·split at h
     ·rename_i hs;rw[zfF,jI]at h;exact law hs (J _ _ _ _ h)
     ·rename_i hs;rw[jI]at h;exact law hs (J _ _ _ _ h)
     ·cases h
   ·split at h
    ·rename_i hs;rw[zhb,zhc,zcl,zfF,jI,jI,uV]at h;exact law hs (J _ _ _ _ h)
    ·rename_i hs;rw[zhb,zhc,zcl,jI,jI,uV]at h;exact law hs (J _ _ _ _ h)
    ·cases h
 |fin e=>
  simp only[stepX,xF]at h;split at h
  ·cases h
  ·rename_i f k;split at h
   ·split at h
    ·have g:=J _ _ _ _ h;exact λM ρ a w U=>⟨_,M,ρ,g,U⟩
    ·have g:=J _ _ _ _ h;exact g
    ·obtain⟨sl',tab',σ,hm,h2⟩:=zqA (n:=n) h;have g:=J _ _ _ _ h2;exact λM ρ a w U=>⟨_,M,ρ,zmG (st:=⟨n,sl,tab⟩) λM ρ a w U=>g _ _ _ _ (U.matches hC hm),U⟩
   ·split at h
    ·split at h
     ·rename_i hb;have g:=J _ _ _ _ h;refine λM ρ a w U=>?_;obtain⟨st,M',ρ',hq,hH'⟩:=g M ρ a w U;exact⟨st,M',ρ',by simp only[unw,unX,blockQ,hb];exact hq,hH'⟩
     ·rename_i hb;have g:=J _ _ _ _ h;refine λM ρ a w U=>?_;obtain⟨st,M',ρ',hq,hH'⟩:=g M ρ a w U;exact⟨st,M',ρ',by simp only[unw,unX,blockQ,hb];exact hq,hH'⟩
    ·rename_i hf;have g:=J _ _ _ _ h;cases f with
     |seq c=>exact g
     |rnd c=>exact g
     |blk j=>exact absurd rfl (hf j)
   ·have g:=J _ _ _ _ h;cases f<;>exact g
   ·cases h
def runX{α:Type}{P:Program}(T:Ty P)(N:Kno P)(ce:FuncId->List S->RL->Option (S×RL))(n:Nat)(out:Exit->zd->Tab->Option α):Nat->Cur->List FrX->zd->Tab->Option α
 |0,_,_,_,_=>none
 |f+1,cur,k,sl,tab=>match k with
  | []=>match cur with
    | .fin e=>out e sl tab
    |cur=>stepX T N ce n [] sl tab (runX T N ce n out f) cur
  |x::k=>stepX T N ce n (x::k) sl tab (runX T N ce n out f) cur
theorem zhd{α:Type}{P:Program}{T:Ty P}{N:Kno P}{ce:FuncId->List S->RL->Option (S×RL)}(J: ∀f a R r R',ce f a R=some (r,R')->zf P f a R r R'){C:Ctx}(hC:C.low){n:Nat}{Q:Exit->St->Prop}{out:Exit->zd->Tab->Option α}{x:α}
 (U: ∀e sl tab,out e sl tab=some x->Goal P C (.fin e) [] n sl tab Q): ∀(f:Nat) {cur:Cur} {k:List FrX} {sl:zd} {tab:Tab},runX T N ce n out f cur k sl tab=some x->Goal P C cur [] n sl tab (unX P C k Q)
 |0,_,_,_,_,h=>by cases h
 |f+1,cur,k,sl,tab,h=>by
  unfold runX at h;split at h
  ·split at h
   ·exact U _ _ _ h
   ·exact ziI J hC h λ_ _ _ _ h=>zhd J hC U f h
  ·exact ziI J hC h λ_ _ _ _ h=>zhd J hC U f h
def frzX{α:Type}:List ResultVar->zd->Tab->(zd->Tab->Option α)->Option α
 | [],sl,tab,f=>f sl tab
 | .tmp t::r,sl,tab,f=>match sg sl t with
   |some (.one (.ar id))=>match tg tab id with
    |some (.arr e rows)=>frzX r ((t,.one (.p (.sl e rows)))::sl) ((id,none)::tab) f
    |_=>frzX r sl tab f
   |_=>frzX r sl tab f
 |_::r,sl,tab,f=>frzX r sl tab f
theorem zcn{α:Type}{P:Program}{C:Ctx}{n:Nat}{e:Exit}{Q:Exit->St->Prop}{f:zd->Tab->Option α}{x:α}(hf: ∀sl tab,f sl tab=some x->Goal P C (.fin e) [] n sl tab Q): ∀ {rv:List ResultVar} {sl:zd} {tab:Tab},frzX rv sl tab f=some x->Goal P C (.fin e) [] n sl tab Q
 | [],_,_,h=>hf _ _ h
 | .cell _ _::r,_,_,h=>zcn hf (rv:=r) h
 | .tmp t::r,sl,tab,h=>by
   simp only[frzX]at h;split at h
   ·rename_i id J;split at h
    ·rename_i U rows ht;exact zdk rfl ht [(t,.one (.p (.sl U rows)))] ⟨⟨_,J,FrS.ar⟩,uh⟩ [] uh (zcn hf (rv:=r) h)
    ·exact zcn hf (rv:=r) h
   ·exact zcn hf (rv:=r) h
def zw7:Exit->Bool
 | .ret=>true
 | .normal=>true
 |_=>false
def onI(tab:Tab):List Nat->List Nat
 | []=>[]
 |i::r=>match tg tab i with
  |some _=>i::onI tab r
  |none=>onI tab r
def zxA(T:Ty P)(rv:List ResultVar)(n:Nat)(R:RL)(e:Exit)(sl:zd)(tab:Tab):Option (S×RL):=match zw7 e with
 |true=>frzX rv sl tab λsl tab=>match rvsOf T ⟨n,sl,tab⟩ rv with
  |some ss=>ziG tab (adS (tupOf ss) R.ids) λids=>match pickR tab (onI tab ids)with
   |some R0=>match cloS ids (tupOf ss)&&(gRL ids R0&&(injB (nm ids) (R0.ren (ix ids)).ids&&allB (λi=>Nat.beq (nm ids i) i) R.ids))with
    |true=>fcS ((tupOf ss).ren (ix ids)) λres=>fcRL (R0.ren (ix ids)) λR'=>some (res,R')
    |false=>none
   |none=>none
  |none=>none
 |false=>none
def evalF{P:Program}(T:Ty P)(K:Kno P)(N:Nat):Nat->FuncId->List S->RL->Option (S×RL)
 |0,f,args,R=>K.lf f args R
 |m+1,f,args,R=>match K.lf f args R with
  |some r=>some r
  |none=>match K.fo f with
   |some fn=>match fn.body with
    |some c=>match allB (λi=>Nat.blt i 100) R.ids&&Nat.ble args.length fn.ntmps with
     |true=>fcN fn.ntmps λn=>runX T K (evalF T K N m) n (zxA T fn.results.toList n R) N (.code c) [] (enum 0 args) (tb R)
     |false=>none
    |none=>none
   |none=>none
theorem ziJ{P:Program}{T:Ty P}{K:Kno P}{N:Nat}: ∀(m:Nat) (f:FuncId) (a:List S) (R:RL) (r:S) (R':RL),evalF T K N m f a R=some (r,R')->zf P f a R r R'
 |0,f,a,R,r,R',h=>K.lf_ok f a R r R' h
 |m+1,f,a,R,r,R',h=>by
  unfold evalF at h;split at h
  ·rename_i q hq;simp only[ui]at h;subst h;exact K.lf_ok _ _ _ _ _ hq
  ·split at h
   ·rename_i fn hf;split at h
    ·rename_i c hc;split at h
     ·rename_i hb;simp only[um]at hb;rw[wQ]at h;refine zqY T (K.fo_ok _ _ hf).1 (K.fo_ok _ _ hf).2 hc (rv:=fn.results.toList) (oz).symm hb.1 hb.2 λC hC=>?_;refine zhd (ziJ m) hC (Q:=zdm T fn.results.toList R r R') (x:=(r,R')) (λe sl tab h=>?_) N (k:=[]) h;unfold zxA at h;split at h
      ·rename_i he;refine zcn (λsl tab h=>?_) h;split at h
       ·rename_i ss hss;simp only[ziG,zcl,zfF,zed]at h;generalize growI tab _ _=ids at h;split at h
        ·rename_i R0 hR;split at h
         ·rename_i J;simp only[um]at J;simp only[ui,uz]at h;obtain⟨rfl,rfl⟩:=h
          have U: ∀i,hasB i ids=true->nm ids (ix ids i)=i:=λi U=>by
           have:=zvb (m:=[]) U;rwa [uV]at this
          refine zi ⟨?_,nm ids,ss,hss,?_,zg9 (n:=fn.ntmps) (sl:=sl) U J.2.1 (zbA hR).2,J.2.2.1,J.2.2.2⟩
          ·cases e<;>first|exact .inl rfl|exact .inr rfl|cases he
          ·rw[S.back U _ J.1];exact .refl _
         ·cases h
        ·cases h
       ·cases h
      ·cases h
     ·cases h
    ·cases h
   ·cases h
def eqY:List UInt8->List UInt8->Bool
 | [],[]=>true
 |a::r,b::s=>match Nat.beq a.toNat b.toNat with
  |true=>eqY r s
  |false=>false
 |_,_=>false
theorem zqB: ∀ {a b:List UInt8},eqY a b=decide (a=b)
 | [],[]=>rfl
 | [],_::_=>rfl
 |_::_,[]=>rfl
 |a::r,b::s=>by
  simp only[eqY];split
  ·rename_i h;have:a=b:=od.1 (uA h);subst this;rw[zqB];simp
  ·rename_i h;have:a≠b:=λe=>by subst e;rw[Nat.beq_refl]at h;cases h
   simp[this]
theorem eqS(a b:ByteArray):decide (a=b)=eqY a.data.toList b.data.toList:=by
 rw[zqB,qZ];constructor
 ·exact λh=>by rw[h]
 ·exact λh=>by cases a;cases b;simp only at h;congr 1;exact Array.toList_inj.1 h
def leK:Value->Value->Bool
 | .int .i64 (.ofNat i),.int .i64 (.ofNat j)=>Nat.beq i j
 | .int .i64 (.negSucc i),.int .i64 (.negSucc j)=>Nat.beq i j
 | .string a,.string b=>eqY a.data.toList b.data.toList
 | .bool true,.bool true=>true
 | .bool false,.bool false=>true
 | .slice none 0 0,.slice none 0 0=>true
 |_,_=>false
theorem zvu{v w:Value}(h:leK v w=true):v=w:=by
 unfold leK at h;split at h
 ·rw[uA h]
 ·rw[uA h]
 ·rw[<-eqS]at h;rw[uj h]
 ·rfl
 ·rfl
 ·rfl
 ·cases h
def nilK:Value->Bool
 | .slice none 0 0=>true
 |_=>false
mutual
def leP:PV->PV->Bool
 | .k v,y=>match y with
   | .k w=>leK v w
   | .sl _ []=>nilK v
   |_=>false
 | .sl e r,y=>match y with
   | .sl e' r'=>Nat.beq e e'&&leRows r r'
   |_=>false
 | .pr _,_=>false
def leRow:List PV->List PV->Bool
 | [],y=>match y with
   | []=>true
   |_=>false
 |x::xs,y=>match y with
  |y::ys=>leRow xs ys&&leP x y
  | []=>false
def leRows:List (List PV)->List (List PV)->Bool
 | [],y=>match y with
   | []=>true
   |_=>false
 |x::xs,y=>match y with
  |y::ys=>leRow x y&&leRows xs ys
  | []=>false
end
mutual
theorem zqC{M:Mem}: ∀ {x y:PV} {v:Value},leP x y=true->RepPV M x v->RepPV M y v
 | .k v,y,c,h,hr=>by
   simp only[leP]at h;split at h
   ·rw[<-zvu h];exact hr
   ·unfold nilK at h;split at h
    ·exact LeV.nil _ M (λ_=> .bool true) c hr
    ·cases h
   ·cases h
 | .sl e r,y,c,h,hr=>by
   simp only[leP]at h;split at h
   ·rename_i e' r';rw[um]at h;have he:=uA h.1;subst he;have hl:=zda h.2;simp only[RepPV]at hr⊢;obtain⟨a,cap,h1,h2,h3,h4⟩:=hr;refine⟨a,cap,by rw[<-hl];exact h1,ua,ua,?_⟩;rcases h4 with rfl|⟨b,o,h5,h6⟩
    ·exact .inl (tc.1 hl.symm)
    ·exact .inr ⟨b,o,h5,zfI h.2 h6⟩
   ·cases h
theorem zfJ: ∀ {x y:List PV},leRow x y=true->x.length=y.length
 | [],[],_=>rfl
 | [],_::_,h=>by cases h
 |_::_,[],h=>by simp only[leRow]at h;cases h
 |x::xs,y::ys,h=>by
  simp only[leRow,um]at h;simp only[uW,zfJ h.1]
theorem ziK{M:Mem}{g:Nat->Option Value}: ∀ {x y:List PV} {o:Nat},leRow x y=true->RowIn M g x o->RowIn M g y o
 | [],[],_,_,_=>by simp only[RowIn]
 | [],_::_,_,h,_=>by cases h
 |_::_,[],_,h,_=>by simp only[leRow]at h;cases h
 |x::xs,y::ys,o,h,hr=>by
  simp only[leRow,um]at h;simp only[RowIn]at hr⊢;obtain⟨⟨c,h1,h2⟩,h3⟩:=hr;exact⟨⟨c,h1,zqC h.2 h2⟩,ziK h.1 h3⟩
theorem zda: ∀ {x y:List (List PV)},leRows x y=true->x.length=y.length
 | [],[],_=>rfl
 | [],_::_,h=>by cases h
 |_::_,[],h=>by simp only[leRows]at h;cases h
 |x::xs,y::ys,h=>by
  simp only[leRows,um]at h;simp only[uW,zda h.2]
theorem zfI{M:Mem}{g:Nat->Option Value}{e:Nat}: ∀ {x y:List (List PV)} {o:Nat},leRows x y=true->RowsIn M g e x o->RowsIn M g e y o
 | [],[],_,_,_=>by simp only[RowsIn]
 | [],_::_,_,h,_=>by cases h
 |_::_,[],_,h,_=>by simp only[leRows]at h;cases h
 |x::xs,y::ys,o,h,hr=>by
  simp only[leRows,um]at h;simp only[RowsIn]at hr⊢;exact⟨by rw[<-zfJ h.1];exact hr.1,ziK h.1 hr.2.1,zfI h.2 hr.2.2⟩
end
def leV:V->V->Bool
 | .p x,.p y=>leP x y
 | .bx i j,.bx i' j'=>Nat.beq i i'&&Nat.beq j j'
 |_,_=>false
theorem zqD{x y:V}(h:leV x y=true):LeV x y:=by
 unfold leV at h;split at h
 ·exact λM ρ c J=>zqC h J
 ·rw[um]at h;rw[uA h.1,uA h.2];exact .refl _
 ·cases h
def leVs:List V->List V->Bool
 | [],[]=>true
 |x::xs,y::ys=>leVs xs ys&&leV x y
 |_,_=>false
theorem zhe: ∀ {x y:List V},leVs x y=true->zpj x y
 | [],[],_=> .refl _
 | [],_::_,h=>by cases h
 |_::_,[],h=>by cases h
 |x::xs,y::ys,h=>by
  simp only[leVs,um]at h;exact .cons (zqD h.2) (zhe h.1)
mutual
def leS:S->S->Bool
 | .one x,t=>match t with
   | .one y=>leV x y
   |_=>false
 | .agg x,t=>match t with
   | .agg y=>leVs x y
   |_=>false
 | .tup x,t=>match t with
   | .tup y=>leSs x y
   |_=>false
 |_,_=>false
def leSs:List S->List S->Bool
 | [],t=>match t with
   | []=>true
   |_=>false
 |x::xs,t=>match t with
  |y::ys=>leS x y&&leSs xs ys
  | []=>false
end
mutual
theorem zqE: ∀ {x y:S},leS x y=true->LeS x y
 | .one x,y,h=>by
   simp only[leS]at h;split at h
   ·exact .one (zqD h)
   ·cases h
 | .agg x,y,h=>by
   simp only[leS]at h;split at h
   ·exact .agg (zhe h)
   ·cases h
 | .tup x,y,h=>by
   simp only[leS]at h;split at h
   ·exact .tup (zhf h)
   ·cases h
 | .gd _ _,_,h=>by simp only[leS]at h;cases h
 | .bq _,_,h=>by simp only[leS]at h;cases h
 | .un,_,h=>by simp only[leS]at h;cases h
theorem zhf: ∀ {x y:List S},leSs x y=true->zI x y
 | [],[],_=> .nil
 | [],_::_,h=>by simp only[leSs]at h;cases h
 |_::_,[],h=>by simp only[leSs]at h;cases h
 |x::xs,y::ys,h=>by
  simp only[leSs,um]at h;exact .cons (zqE h.1) (zhf h.2)
end
def leRL:RL->RL->Bool
 | [],[]=>true
 |(i,.box x)::r,(j,.box y)::s=>(Nat.beq i j&&leVs x y)&&leRL r s
 |_,_=>false
theorem ziL: ∀ {x y:RL},leRL x y=true->x.ids=y.ids
 | [],[],_=>rfl
 | [],_::_,h=>by cases h
 |(i,.box x)::r,(j,.box y)::s,h=>by
  simp only[leRL,um]at h;simp only[RL.ids,uA h.1.1,ziL h.2]
theorem zaC{M:Mem}{ρ:Nat->Value}{w:World}: ∀ {x y:RL},leRL x y=true-> ∀ {k:Nat} {q:Res},tg (tb y) k=some q-> ∃r,tg (tb x) k=some r/\(zF M ρ w k r->zF M ρ w k q)
 | [],[],_,_,_,h=>by cases h
 | [],_::_,h,_,_,_=>by cases h
 |(i,.box x)::r,(j,.box y)::s,h,k,q,hk=>by
  simp only[leRL,um]at h;have e:=uA h.1.1;subst e;simp only[tb,zy]at hk⊢;split at hk
  ·rename_i e;subst e;simp only[ui]at hk;subst hk;exact⟨.box x,uw rfl,λ⟨b,cs,el,J,h2,h3⟩=>⟨b,cs,el,J,h2,zhe h.1.2 _ _ _ h3⟩⟩
  ·rename_i U;obtain⟨r',J,h2⟩:=zaC h.2 hk;exact⟨r',by rw[ur U];exact J,h2⟩
variable {ρ:Nat->Value}
theorem ziM{x y:RL}(h:x.ids=y.ids){b:Nat}(U:zbo (tb x) ρ b):zbo (tb y) ρ b:=by
 obtain⟨i,r,h1,h2⟩:=U;have J:=zL (zK h1);rw[h]at J;obtain⟨r',h3⟩:=vZ J;exact⟨i,r',h3,h2⟩
theorem zf.le{a a':List S}{R0 R R':RL}{r r':S}(h:zf P f a R r R')(ha:zI a' a)(U:leRL R0 R=true)(hr:LeS r r'):zf P f a' R0 r' R':=by
 have e:=ziL U;have oi: ∀ {ρ:Nat->Value} {b:Nat},zbo (tb R) ρ b->zbo (tb R0) ρ b:=λho=>ziM e.symm ho
 have io: ∀ {ρ:Nat->Value} {b:Nat},zbo (tb R0) ρ b->zbo (tb R) ρ b:=λho=>ziM e ho
 refine⟨h.1,λM ρ w xs h1 h2 h3 h4=>(h.2 M ρ w xs (ha _ _ _ h1) ⟨λi q J=>?_,λi j ri rj b h5 h6 hne hb1 hb2=>?_,λi q b h5 hb=>?_⟩ h3 h4).mono λe' w' ⟨v,M',ρ',he,J⟩=>
  ⟨v,M',ρ',he,⟨hr _ _ _ J.rep,J.zH,J.imm,J.mle,λb o u hu=>(J.newM b o u hu).imp id (Or.imp id oi),λb hb=>(J.own b hb).imp id oi,λb h7 h8=>J.fram b h7 λho=>h8 (oi ho),J.size,J.os,J.tape,J.output,λid hid=>J.keep id (by rw[<-e];exact hid)⟩⟩⟩
 ·obtain⟨r1,h5,h6⟩:=zaC (M:=M) (ρ:=ρ) (w:=w) U J;exact h6 (h2.res i r1 h5)
 ·obtain⟨r1,h7,_⟩:=zaC (M:=M) (ρ:=ρ) (w:=w) U h5;obtain⟨r2,h8,_⟩:=zaC (M:=M) (ρ:=ρ) (w:=w) U h6;exact h2.dis i j r1 r2 b h7 h8 hne hb1 hb2
 ·obtain⟨r1,h7,_⟩:=zaC (M:=M) (ρ:=ρ) (w:=w) U h5;exact h2.own i r1 b h7 hb
theorem zpk{args:List S}{R R':RL}{s s':S}(h:zf P f args R s R')(U:LeS s s'):zf P f args R s' R':=
 ⟨h.1,λM ρ w xs h1 h2 h3 h4=>(h.2 M ρ w xs h1 h2 h3 h4).mono λe w' ⟨v,M',ρ',he,J⟩=>⟨v,M',ρ',he,{ J with rep:=U _ _ _ J.rep }⟩⟩
structure Ent where
 f:FuncId
 a:List S
 R:RL
 r:S
 R':RL
def lfT:List Ent->FuncId->List S->RL->Option (S×RL)
 | [],_,_,_=>none
 |e::l,f,a,R=>match Nat.beq e.f f&&(leRL R e.R&&leSs a e.a)with
  |true=>some (e.r,e.R')
  |false=>lfT l f a R
def zmP(P:Program):List Ent->Prop
 | []=>True
 |e::l=>zf P e.f e.a e.R e.r e.R'/\zmP P l
theorem zqF{P:Program}: ∀ {l:List Ent},zmP P l-> ∀ {f:FuncId} {a:List S} {R:RL} {r:S} {R':RL},lfT l f a R=some (r,R')->zf P f a R r R'
 | [],_,_,_,_,_,_,h=>by cases h
 |e::l,hl,f,a,R,r,R',h=>by
  simp only[lfT]at h;split at h
  ·rename_i J;simp only[um]at J;simp only[ui,uz]at h;obtain⟨rfl,rfl⟩:=h;rw[<-uA J.1];exact hl.1.le (zhf J.2.2) J.2.1 (.refl _)
  ·exact zqF hl.2 h
variable {K:Kno P}
theorem xo{T:Ty P}{N m:Nat}{a:List S}{R R':RL}{t:S}(h:(evalF T K N m f a R).map (λq=>(leS q.1 t,q.2))=some (true,R')):zf P f a R t R':=by
 obtain⟨q,J,h2⟩:=uR.1 h;simp only[uz]at h2;have:=ziJ (T:=T) (K:=K) (N:=N) m f a R q.1 q.2 J;rw[h2.2]at this;exact zpk this (zqE h2.1)
end Hw
namespace Hw.Gm
open Go Go.Proofs Hw.M
theorem zqG{rows:List (List PV)}{i:Nat}{k:Int}{t:Str}{x y z:PV}(h:rows[i]?=some [ki k,ks t,x,y,z])(s:Str):
 zf Tryz.prog 107 [.one (.bx 0 0),Sr s] [(0,.box [.p (.sl 5 rows),.p (ki i),.p (.k (.bool false))])] (.bq ((decide (k=3)||decide (k=4))&&decide (t=s))) [(0,.box [.p (.sl 5 rows),.p (ki i),.p (.k (.bool false))])]:=by
 refine gO T Tryz.func107 λC hC=>?_
 repeat' first|refine gG ?_|refine gB ?_ ?_<;>intro h|refine gI T h ?_
 all_goals first
  |exact zi ⟨.inl rfl,id,_,rfl,.qq (by simp_all),⟨rfl,uh⟩,rfl,rfl⟩
  |exact zi ⟨.inl rfl,id,_,rfl,.qb (by simp_all),⟨rfl,uh⟩,rfl,rfl⟩
def isC(k:Int)(t s:Str):Bool:=match k with
 | .ofNat k=>match Nat.beq k 3||Nat.beq k 4 with
   |true=>eqY t.data.toList s.data.toList
   |false=>false
 |_=>false
theorem zqH(k:Int)(t s:Str):((decide (k=3)||decide (k=4))&&decide (t=s))=isC k t s:=by
 cases k with
 |ofNat k=>
  unfold isC;rw[eqS];have J:decide (Int.ofNat k=3)=Nat.beq k 3:=by rw[q8,uq,Nat.beq_eq];exact⟨λh=>by injection h,λh=>by rw[h];rfl⟩
  have U:decide (Int.ofNat k=4)=Nat.beq k 4:=by rw[q8,uq,Nat.beq_eq];exact⟨λh=>by injection h,λh=>by rw[h];rfl⟩
  rw[J,U];simp only;cases Nat.beq k 3||Nat.beq k 4<;>rfl
 |negSucc k=>
  have J:decide (Int.negSucc k=3)=false:=rfl;have U:decide (Int.negSucc k=4)=false:=rfl;rw[J,U];rfl
def lfI(a:List S)(R:RL):Option (S×RL):=match a with
 | [.one (.bx b j),.one (.p (.k (.string s)))]=>match R with
   | [(q,.box [.p (.sl e rows),.p (.k (.int .i64 (.ofNat i))),.p (.k (.bool false))])]=>match Nat.beq b 0&&(Nat.beq j 0&&(Nat.beq q 0&&Nat.beq e 5))with
     |true=>match rows[i]? with
      |some [.k (.int .i64 k),.k (.string t),_,_,_]=>match isC k t s with
       |true=>some (Bo true,R)
       |false=>some (Bo false,R)
      |_=>none
     |false=>none
   |_=>none
 |_=>none
theorem zvv{a:List S}{R:RL}{r:S}{R':RL}(h:lfI a R=some (r,R')):zf Tryz.prog 107 a R r R':=by
 unfold lfI at h;split at h
 ·split at h
  ·split at h
   ·rename_i hb;simp only[um]at hb;obtain⟨J,h2,h3,h4⟩:=hb;have J:=uA J;have h2:=uA h2;have h3:=uA h3;have h4:=uA h4;subst J h2 h3 h4;split at h
    ·rename_i hr;split at h
     ·rename_i U;simp only[ui,uz]at h;obtain⟨rfl,rfl⟩:=h;exact zpk (zqG hr _) (.bq (by rw[zqH];exact U))
     ·rename_i U;simp only[ui,uz]at h;obtain⟨rfl,rfl⟩:=h;exact zpk (zqG hr _) (.bq (by rw[zqH];exact U))
    ·cases h
   ·cases h
  ·cases h
 ·cases h
end Hw.Gm
namespace Hw.Gm
open Go Go.Proofs Hw.M Ps
theorem ziN{α:Type}(p:α->Bool): ∀(l:List α),(anyR (λ(x:α) (_:Unit)=>p x) (λ_ s=>s) l ()).1=l.any p
 | []=>rfl
 |x::r=>by
  simp only[anyR,qn];cases p x with
  |true=>simp
  |false=>simp only[uB,uM,tw];exact ziN p r
theorem zmQ(l:List EnT):zf Tryz.prog 34 [pS (enL l),.one (.cl 35 [] [])] [] (.bq (l.any zax)) []:=by
 have:=zsj 35 l (λx _=>zax x) (λ_ s=>s) (λ_=>True) (λx _ _ _=>⟨zo2 x,λ_=>trivial⟩) () trivial;rwa [ziN]at this
theorem zgu{x:EnT}(J:zax x=false):zf Tryz.prog 37 [zr (enR x)] [] (.bq (zo1 x)) []:=by
 have hb:=zo0 J;have U:IntKind.i64.wrap (x.ac+x.af)=x.ac+x.af:=wrap64 ua;have w2:IntKind.i64.wrap (x.ac+x.af - x.be)=x.ac+x.af - x.be:=wrap64 ua;unfold zo1;refine gO T Tryz.func37 λC hC=>?_
 repeat' first|refine gG ?_|refine gB ?_ ?_<;>intro h|refine gQ ?_|refine gL ?_|(rw[U,w2])
 all_goals (simp_all<;>omega)
def zvw(l:List EnT):Int×Int:=if l.any zax=true then(0,1)else(idxI (l.findIdx? zo1),0)
theorem zmR(l:List EnT):zf Tryz.prog 14 [pS (enL l)] [] (.tup [I (zvw l).1,I (zvw l).2]) []:=by
 have J:=zmQ l;unfold zvw;cases hw:l.any zax with
 |true=>
  rw[hw]at J;refine gO T Tryz.func14 λC hC=>?_
  repeat' first|refine gG ?_|exact gD|refine gB ?_ ?_<;>intro h|refine gC J ?_
  exact gF
 |false=>
  rw[hw]at J;have U:=zl2 37 l (λx _=>zo1 x) (λ_ s=>s) (λ_=>True) (λx hx _ _=>⟨zgu (by have:=List.any_eq_false.1 hw x hx;simpa using this),λ_=>trivial⟩) () trivial;rw[yX]at U;refine gO T Tryz.func14 λC hC=>?_
  repeat' first|refine gG ?_|exact gD|refine gB ?_ ?_<;>intro h|refine gC J ?_|refine gC U ?_
  exact gF
end Hw.Gm
namespace Hw.Gm.Ps
open Go Go.Proofs Hw.M
structure Tok where
 k:Int
 t:Str
 n:Int
 ln:Int
 cl:Int
 deriving DecidableEq
def zef(t:Tok):List PV:=[ki t.k,ks t.t,ki t.n,ki t.ln,ki t.cl]
def zmS(l:List Tok):PV:= .sl 5 (l.map zef)
abbrev By:=List UInt8
def zaX(l:By):Str:=⟨l.toArray⟩
def lst(s:Str):By:=s.data.toList
theorem zeg(s:Str):zaX (lst s)=s:=by cases s;simp[zaX,lst]
theorem zmT(l:By):lst (zaX l)=l:=by simp[zaX,lst]
theorem jm(s:Str):(lst s).length=s.size:=by simp only[lst,qg];rfl
def wB(b:UInt8):Bool:=isWord b.toNat
def dB(b:UInt8):Bool:=isDigit b.toNat
def blB(b:UInt8):Bool:=decide (xm b.toNat=1)
def numV:By->Int->Int
 | [],a=>a
 |b::r,a=>numV r (a*10+((b.toNat:Int) - 48))
def zfK(w:By):Bool:= !decide (w=[])&& !(decide (1<w.length)&&decide (w.head?=some 48))&&w.all dB&&decide (numV w 0<=1099511627776)
def zpl(w:By):Option (Int×Str×Int):=if wK (zaX w)=true then some (3,zaX w,0)else if isName (zaX w)=true then some (1,zaX w,0)else if zfK w=true then some (2,(⟨#[]⟩:UB),numV w 0)else none
def syms:List Str:=[(⟨#[61,61]⟩:UB),(⟨#[33,61]⟩:UB),(⟨#[60,61]⟩:UB),(⟨#[45,62]⟩:UB),(⟨#[40]⟩:UB),(⟨#[41]⟩:UB),⟨#[123]⟩,⟨#[125]⟩,(⟨#[91]⟩:UB),(⟨#[93]⟩:UB),(⟨#[44]⟩:UB),(⟨#[59]⟩:UB),(⟨#[58]⟩:UB),(⟨#[46]⟩:UB),(⟨#[61]⟩:UB),(⟨#[60]⟩:UB),(⟨#[43]⟩:UB),(⟨#[45]⟩:UB),(⟨#[42]⟩:UB),(⟨#[47]⟩:UB),(⟨#[37]⟩:UB)]
def zj1(l:By):Option Str:=syms.find? λy=>(lst y).isPrefixOf l
def tk:By->Option (Nat×Option (Int×Str×Int))
 | []=>none
 |c::r=>if blB c=true then some (1,none)
  else if c=35 then some (((c::r).takeWhile λb=>decide (b≠10)).length,none)
  else if wB c=true then(zpl ((c::r).takeWhile wB)).map λt=>(((c::r).takeWhile wB).length,some t)
  else(zj1 (c::r)).map λy=>(y.size,some (4,y,0))
def mvX(p:Int×Int)(c:UInt8):Int×Int:=if c=10 then(p.1+1,1)else(p.1,p.2+1)
def jY(p:Int×Int)(t:Int×Str×Int):Tok:=⟨t.1,t.2.1,t.2.2,p.1,p.2⟩
def lx:Nat->By->Int×Int->List Tok->List Tok×(Int×Int)×Int
 |0,_,_,_=>([],(0,0),0)
 |_+1,[],p,out=>(out++[⟨5,(⟨#[]⟩:UB),0,p.1,p.2⟩],(0,0),0)
 |f+1,c::r,p,out=>match tk (c::r)with
  |none=>([],p,7)
  |some (n,o)=>lx f ((c::r).drop n) (((c::r).take n).foldl mvX p) (out++(o.map (jY p)).toList)
theorem vK{p:UInt8->Bool}: ∀l:By,(l.takeWhile p).length<=l.length
 | []=>by simp
 |c::r=>by
  rw[qG];split
  ·simp only[uW];have:=vK (p:=p) r;omega
  ·simp
theorem jn: ∀ {a l:By},a.isPrefixOf l=true->a.length<=l.length
 | [],_,_=>by simp
 |_::_,[],h=>by simp[List.isPrefixOf]at h
 |x::a,y::l,h=>by
  simp only[List.isPrefixOf,um]at h;have:=jn h.2;simp only[uW];omega
theorem zfL: ∀y∈syms,1<=y.size/\y.size<=2:=by decide
theorem zmU{l:By}{y:Str}(h:zj1 l=some y):y∈syms/\(lst y).isPrefixOf l=true:=⟨qB h,by have:=oG h;exact this⟩
variable {o:Option (Int×Str×Int)}
theorem zqI{l:By}{n:Nat}(h:tk l=some (n,o)):1<=n/\n<=l.length:=by
 cases l with
 |nil=>cases h
 |cons c r=>
  simp only[tk]at h;split at h
  ·simp only[ui,uz]at h;obtain⟨rfl,_⟩:=h;simp
  ·split at h
   ·rename_i J;simp only[ui,uz]at h;obtain⟨rfl,_⟩:=h;refine⟨?_,vK _⟩;rw[qG,uw (by rw[J];decide)];simp
   ·split at h
    ·rename_i U;rw[uR]at h;obtain⟨t,_,h⟩:=h;simp only[uz]at h;obtain⟨rfl,_⟩:=h;refine⟨?_,vK _⟩;rw[qG,uw U];simp
    ·rw[uR]at h;obtain⟨y,hy,h⟩:=h;simp only[uz]at h;obtain⟨rfl,_⟩:=h;obtain⟨h1,h2⟩:=zmU hy;refine⟨(zfL y h1).1,?_⟩;have:=jn h2;rwa [jm]at this
theorem zqJ: ∀(f g:Nat) (l:By) (p:Int×Int) (out:List Tok),l.length<f->l.length<g->lx f l p out=lx g l p out
 |0,_,_,_,_,h,_=>by omega
 |_+1,0,_,_,_,_,h=>by omega
 |_+1,_+1,[],_,_,_,_=>rfl
 |f+1,g+1,c::r,p,out,h,h'=>by
  simp only[lx];cases e:tk (c::r)with
  |none=>rfl
  |some q=>
   obtain⟨n,o⟩:=q;have J:=zqI e;simp only[uW]at h h' J;simp only;have hl:((c::r).drop n).length=r.length+1 - n:=by rw[tA,uW]
   exact zqJ f g _ _ _ ua ua
theorem zsP(f:Nat)(l:By)(p:Int×Int)(out:List Tok)(h:l.length<f):lx f l p out=lx (l.length+1) l p out:=zqJ _ _ _ _ _ h (Nat.lt_succ_self _)
def lxx(l:By)(p:Int×Int)(out:List Tok):List Tok×(Int×Int)×Int:=lx (l.length+1) l p out
theorem zsQ(p:Int×Int)(out:List Tok):lxx [] p out=(out++[⟨5,(⟨#[]⟩:UB),0,p.1,p.2⟩],(0,0),0):=rfl
theorem zmV{c:UInt8}{r:By}(p:Int×Int)(out:List Tok)(h:tk (c::r)=none):lxx (c::r) p out=([],p,7):=by
 unfold lxx;simp only[lx,h]
theorem zbB{l:By}{n:Nat}(p:Int×Int)(out:List Tok)(h:tk l=some (n,o)):lxx l p out=lxx (l.drop n) ((l.take n).foldl mvX p) (out++(o.map (jY p)).toList):=by
 cases l with
 |nil=>cases h
 |cons c r=>
  have J:=zqI h;unfold lxx;simp only[lx,h];simp only[uW]at J;exact zsP _ _ _ _ (by rw[tA,uW];omega)
def vL(s:Str):List Tok×(Int×Int)×Int:=if 65536<s.size then([],(0,0),4)else lxx (lst s) (1,1) []
theorem zhg: ∀(l:By) (p:Int×Int),(∀b∈l,b≠10)->l.foldl mvX p=(p.1,p.2+l.length)
 | [],p,_=>by simp
 |b::r,p,h=>by
  have J:b≠10:=h b ue;rw[List.foldl_cons,zhg r _ λx U=>h x (by simp[U])];simp only[mvX,ur J,uW,uz,Ul];omega
def natV:By->Nat->Nat
 | [],a=>a
 |b::r,a=>natV r (a*10+(b.toNat - 48))
theorem ziO{b:UInt8}:dB b=true↔48<=b.toNat/\b.toNat<=57:=by
 unfold dB isDigit;simp only[um,uq];omega
theorem ziP: ∀(l:By) (a:Nat),l.all dB=true->numV l a=(natV l a:Int)
 | [],a,_=>rfl
 |b::r,a,h=>by
  simp only[tN,um]at h;have hb:=ziO.1 h.1;have e:((a:Int)*10+((b.toNat:Int) - 48))=((a*10+(b.toNat - 48):Nat):Int):=by omega
  simp only[numV,natV];rw[e];exact ziP r _ h.2
theorem zmW: ∀(l:By) (a:Nat),a<=natV l a
 | [],a=>uJ a
 |b::r,a=>by
  have:=zmW r (a*10+(b.toNat - 48));simp only[natV];omega
theorem zbd: ∀(l:By) (acc:Nat),l.all dB=true->acc<18446744073709551616->Lib.parseUint10 acc l=if natV l acc<18446744073709551616 then .ok (natV l acc)else .range
 | [],acc,_,ha=>by
   show Lib.NumEnd.ok acc=if acc<_ then _ else _
   rw[uw ha];rfl
 |c::r,acc,h,ha=>by
  simp only[tN,um]at h;have U:=ziO.1 h.1;have hg:=zmW r (acc*10+(c.toNat - 48));simp only[Lib.parseUint10,natV,uw U];by_cases J:1844674407370955162<=acc
  ·rw[uw J];exact(ur ua).symm
  ·rw[ur J];by_cases h2:18446744073709551616<=acc*10+(c.toNat - 48)
   ·rw[uw h2];exact(ur ua).symm
   ·rw[ur h2];exact zbd r _ h.2 ua
theorem zhh{w:By}(U:w≠ [])(J:w.all dB=true):Lib.atoiAll w=if numV w 0<=9223372036854775807 then .ok (numV w 0)else .range:=by
 cases w with
 |nil=>exact absurd rfl U
 |cons c r=>
  have hc:=ziO.1 (by simp only[tN,um]at J;exact J.1);rw[Lib.atoiAll_plain c r ua ua,Lib.parseMag,ur ue,zbd _ _ J ua];have hn:=ziP (c::r) 0 J;rw[show((0:Nat):Int)=0 from rfl]at hn;by_cases h1:natV (c::r) 0<18446744073709551616
  ·rw[uw h1];simp only[Lib.signless];by_cases h2:9223372036854775808<=natV (c::r) 0
   ·rw[uw h2,ur ua]
   ·rw[ur h2,uw ua,hn]
  ·rw[ur h1,ur ua];rfl
def zsR(w:By):Int:=if numV w 0<=9223372036854775807 then numV w 0 else 9223372036854775807
end Hw.Gm.Ps
namespace Hw.Gm
open Go Go.Proofs Go.Shelf
def zhi:Go.Shelf.Ren:=⟨λ|137=>148|217=>210|266=>251|n=>n,λ|9=>9|5=>5|3=>3|n=>n,λ|n=>n⟩
theorem zsS:Go.Proofs.Lays.n137 Tryz.prog zhi where
 mixed:=by kernel_rfl
 f137:=Tryz.func148.trans (u5 some ud)
 f217:=Tryz.func210.trans (u5 some ud)
 f266:=Tryz.func251.trans (u5 some ud)
 t3:=Tryz.underlying3
 a3:=Tryz.isAgg3
 z3:=Tryz.sizeOf3
 v3:=Tryz.zeroValue3
 t5:=Tryz.underlying5
 a5:=Tryz.isAgg5
 z5:=Tryz.sizeOf5
 v5:=Tryz.zeroValue5
 t9:=Tryz.underlying9
 a9:=Tryz.isAgg9
 z9:=Tryz.sizeOf9
 v9:=Tryz.zeroValue9
def zhj:Go.Shelf.Ren:=⟨λ|99=>147|206=>209|n=>n,λ|9=>9|4=>4|3=>3|n=>n,λ|n=>n⟩
theorem zsT:Go.Proofs.Lays.n99 Tryz.prog zhj where
 mixed:=by kernel_rfl
 f99:=Tryz.func147.trans (u5 some ud)
 f206:=Tryz.func209.trans (u5 some ud)
 t3:=Tryz.underlying3
 a3:=Tryz.isAgg3
 z3:=Tryz.sizeOf3
 v3:=Tryz.zeroValue3
 t4:=Tryz.underlying4
 a4:=Tryz.isAgg4
 z4:=Tryz.sizeOf4
 v4:=Tryz.zeroValue4
 t9:=Tryz.underlying9
 a9:=Tryz.isAgg9
 z9:=Tryz.sizeOf9
 v9:=Tryz.zeroValue9
def w9:Go.Shelf.Ren:=⟨λ|172=>208|244=>249|245=>250|247=>267|279=>268|280=>269|281=>270|282=>271|287=>280|316=>281|171=>283|205=>282|321=>294|322=>295|243=>296|246=>299|283=>300|284=>301|285=>302|286=>303|129=>203|317=>304|318=>305|319=>306|320=>307|337=>308|338=>309|n=>n,λ|9=>9|3=>3|75=>319|76=>320|4=>4|5=>5|167=>370|37=>59|0=>0|85=>371|2=>2|168=>373|53=>314|175=>384|46=>259|210=>387|127=>404|145=>407|143=>405|21=>21|171=>411|173=>413|212=>415|51=>312|20=>20|213=>416|232=>417|233=>418|80=>147|n=>n,λ|15=>3|16=>4|17=>5|18=>6|19=>7|n=>n⟩
theorem ziQ:Go.Proofs.LaysC.n172 Tryz.prog w9 where
 mixed:=by kernel_rfl
 f129:=Tryz.func203.trans (u5 some ud)
 f171:=Tryz.func283.trans (u5 some ud)
 f172:=Tryz.func208.trans (u5 some ud)
 f205:=Tryz.func282.trans (u5 some ud)
 f243:=Tryz.func296.trans (u5 some ud)
 f244:=Tryz.func249.trans (u5 some ud)
 f245:=Tryz.func250.trans (u5 some ud)
 f246:=Tryz.func299.trans (u5 some ud)
 f247:=Tryz.func267.trans (u5 some ud)
 f279:=Tryz.func268.trans (u5 some ud)
 f280:=Tryz.func269.trans (u5 some ud)
 f281:=Tryz.func270.trans (u5 some ud)
 f282:=Tryz.func271.trans (u5 some ud)
 f283:=Tryz.func300.trans (u5 some ud)
 f284:=Tryz.func301.trans (u5 some ud)
 f285:=Tryz.func302.trans (u5 some ud)
 f286:=Tryz.func303.trans (u5 some ud)
 f287:=Tryz.func280.trans (u5 some ud)
 f316:=Tryz.func281.trans (u5 some ud)
 f317:=Tryz.func304.trans (u5 some ud)
 f318:=Tryz.func305.trans (u5 some ud)
 f319:=Tryz.func306.trans (u5 some ud)
 f320:=Tryz.func307.trans (u5 some ud)
 f321:=Tryz.func294.trans (u5 some ud)
 f322:=Tryz.func295.trans (u5 some ud)
 f337:=Tryz.func308.trans (u5 some ud)
 f338:=Tryz.func309.trans (u5 some ud)
 t0:=Tryz.underlying0
 a0:=Tryz.isAgg0
 z0:=Tryz.sizeOf0
 v0:=Tryz.zeroValue0
 t2:=Tryz.underlying2
 a2:=Tryz.isAgg2
 z2:=Tryz.sizeOf2
 v2:=Tryz.zeroValue2
 t3:=Tryz.underlying3
 a3:=Tryz.isAgg3
 z3:=Tryz.sizeOf3
 v3:=Tryz.zeroValue3
 t4:=Tryz.underlying4
 a4:=Tryz.isAgg4
 z4:=Tryz.sizeOf4
 v4:=Tryz.zeroValue4
 t5:=Tryz.underlying5
 a5:=Tryz.isAgg5
 z5:=Tryz.sizeOf5
 v5:=Tryz.zeroValue5
 t9:=Tryz.underlying9
 a9:=Tryz.isAgg9
 z9:=Tryz.sizeOf9
 v9:=Tryz.zeroValue9
 t20:=Tryz.underlying20
 a20:=Tryz.isAgg20
 z20:=Tryz.sizeOf20
 v20:=Tryz.zeroValue20
 t21:=Tryz.underlying21
 a21:=Tryz.isAgg21
 z21:=Tryz.sizeOf21
 v21:=Tryz.zeroValue21
 t37:=Tryz.underlying59
 a37:=Tryz.isAgg59
 z37:=Tryz.sizeOf59
 v37:=Tryz.zeroValue59
 t46:=Tryz.underlying259
 a46:=Tryz.isAgg259
 z46:=Tryz.sizeOf259
 v46:=Tryz.zeroValue259
 t51:=Tryz.underlying312
 a51:=Tryz.isAgg312
 z51:=Tryz.sizeOf312
 v51:=Tryz.zeroValue312
 t53:=Tryz.underlying314
 a53:=Tryz.isAgg314
 z53:=Tryz.sizeOf314
 v53:=Tryz.zeroValue314
 t75:=Tryz.underlying319
 a75:=Tryz.isAgg319
 z75:=Tryz.sizeOf319
 v75:=Tryz.zeroValue319
 t76:=Tryz.underlying320
 a76:=Tryz.isAgg320
 z76:=Tryz.sizeOf320
 v76:=Tryz.zeroValue320
 t85:=Tryz.underlying371
 a85:=Tryz.isAgg371
 z85:=Tryz.sizeOf371
 v85:=Tryz.zeroValue371
 t127:=Tryz.underlying404
 a127:=Tryz.isAgg404
 z127:=Tryz.sizeOf404
 v127:=Tryz.zeroValue404
 t143:=Tryz.underlying405
 a143:=Tryz.isAgg405
 z143:=Tryz.sizeOf405
 v143:=Tryz.zeroValue405
 t145:=Tryz.underlying407
 a145:=Tryz.isAgg407
 z145:=Tryz.sizeOf407
 v145:=Tryz.zeroValue407
 t167:=Tryz.underlying370
 a167:=Tryz.isAgg370
 z167:=Tryz.sizeOf370
 v167:=Tryz.zeroValue370
 t168:=Tryz.underlying373
 a168:=Tryz.isAgg373
 z168:=Tryz.sizeOf373
 v168:=Tryz.zeroValue373
 t171:=Tryz.underlying411
 a171:=Tryz.isAgg411
 z171:=Tryz.sizeOf411
 v171:=Tryz.zeroValue411
 t173:=Tryz.underlying413
 a173:=Tryz.isAgg413
 z173:=Tryz.sizeOf413
 v173:=Tryz.zeroValue413
 t175:=Tryz.underlying384
 a175:=Tryz.isAgg384
 z175:=Tryz.sizeOf384
 v175:=Tryz.zeroValue384
 t210:=Tryz.underlying387
 a210:=Tryz.isAgg387
 z210:=Tryz.sizeOf387
 v210:=Tryz.zeroValue387
 t212:=Tryz.underlying415
 a212:=Tryz.isAgg415
 z212:=Tryz.sizeOf415
 v212:=Tryz.zeroValue415
 t213:=Tryz.underlying416
 a213:=Tryz.isAgg416
 z213:=Tryz.sizeOf416
 t232:=Tryz.underlying417
 a232:=Tryz.isAgg417
 z232:=Tryz.sizeOf417
 v232:=Tryz.zeroValue417
 t233:=Tryz.underlying418
 a233:=Tryz.isAgg418
 z233:=Tryz.sizeOf418
 v233:=Tryz.zeroValue418
 g15:=by kernel_rfl
 g16:=by kernel_rfl
 g17:=by kernel_rfl
 g18:=by kernel_rfl
 g19:=by kernel_rfl
 t80:=Tryz.underlying147
 a80:=Tryz.isAgg147
 z80:=Tryz.sizeOf147
 v80:=Tryz.zeroValue147
 i0:=by kernel_rfl
 i2:=by kernel_rfl
 i3:=by kernel_rfl
 i4:=by kernel_rfl
 i5:=by kernel_rfl
 i9:=by kernel_rfl
 i20:=by kernel_rfl
 i21:=by kernel_rfl
 i37:=by kernel_rfl
 i46:=by kernel_rfl
 i51:=by kernel_rfl
 i53:=by kernel_rfl
 i75:=by kernel_rfl
 i76:=by kernel_rfl
 i80:=by kernel_rfl
 i85:=by kernel_rfl
 i127:=by kernel_rfl
 i143:=by kernel_rfl
 i145:=by kernel_rfl
 i167:=by kernel_rfl
 i168:=by kernel_rfl
 i171:=by kernel_rfl
 i173:=by kernel_rfl
 i175:=by kernel_rfl
 i210:=by kernel_rfl
 i212:=by kernel_rfl
 i232:=by kernel_rfl
 i233:=by kernel_rfl
 m15:=by kernel_rfl
 m16:=by kernel_rfl
 m17:=by kernel_rfl
 m18:=by kernel_rfl
 m19:=by kernel_rfl
 c0:=by kernel_rfl
 c2:=by kernel_rfl
 c3:=by kernel_rfl
 c4:=by kernel_rfl
 c5:=by kernel_rfl
 c9:=by kernel_rfl
 c20:=by kernel_rfl
 c21:=by kernel_rfl
 c37:=by kernel_rfl
 c46:=by kernel_rfl
 c51:=by kernel_rfl
 c53:=by kernel_rfl
 c75:=by kernel_rfl
 c76:=by kernel_rfl
 c80:=by kernel_rfl
 c85:=by kernel_rfl
 c127:=by kernel_rfl
 c143:=by kernel_rfl
 c145:=by kernel_rfl
 c167:=by kernel_rfl
 c168:=by kernel_rfl
 c171:=by kernel_rfl
 c173:=by kernel_rfl
 c175:=by kernel_rfl
 c210:=by kernel_rfl
 c212:=by kernel_rfl
 c213:=by kernel_rfl
 c232:=by kernel_rfl
 c233:=by kernel_rfl
end Hw.Gm
namespace Hw.Gm.Ps
open Go Go.Proofs Go.Shelf Hw.M
theorem zeh{f:FuncId}{fn:Func}(h:Tryz.prog.funcs[f]?=some fn)(J:(fn.name== "runtime.NumGoroutine")=false)(h2:fn.body.isNone=false):jC Tryz.prog f:=⟨fn,h,J,h2⟩
theorem zei(s p:Str):zf Tryz.prog 147 [Sr s,Sr p] [] (Bo ((lst p).isPrefixOf (lst s))) []:=
 @zht _ _ [.string s,.string p] _ (zeh Tryz.func147 ud ud) (λw _=>Any.strings_HasPrefix zsT s p w) rfl
theorem zfM(s:Str)(c:UInt8):zf Tryz.prog 148 [Sr s,uc c.toNat] [] (I (Lib.indexByte (lst s) c)) []:=
 @zht _ _ [.string s,.int .u8 c.toNat] _ (zeh Tryz.func148 ud ud) (λw _=>by
  have:=Any.strings_IndexByte zsS s c.toNat w;have e:((c.toNat:Int).toNat).toUInt8=c:=by simp
  rw[e]at this
  exact this) rfl
theorem zsU{s:Str}{v:Int}(h:Lib.atoiAll (lst s)= .ok v)(hs:s.size<=1000000):zf Tryz.prog 208 [Sr s] [] (.tup [I v,.one (.p (.k .nilIface))]) []:=by
 refine⟨zeh Tryz.func208 ud ud,λM ρ w xs J _ U hG=>?_⟩;obtain rfl:=zex (av:=[.string s]) J;refine(Any.strconv_Atoi_ok ziQ s ua v h w).mono λe w' ⟨he,hw⟩=>?_
 have hb:RowKit.Below w.heap.size w w':=by
  rcases hw with rfl|⟨t,rfl⟩
  ·exact RowKit.Below.refl _ _
  ·exact Lib.bytesWorld_below w _ t
 exact⟨_,M,ρ,he,zj3 U hb (by simp only[RepS];exact⟨[.int .i64 v,.nilIface],rfl,by simp only[RepSs,RepS,RepV,RepPV];exact⟨⟨uh,rfl⟩,⟨uh,rfl⟩,uh⟩⟩)⟩
theorem zjE{s:Str}(h:Lib.atoiAll (lst s)= .range)(hs:s.size<=1000000)(hn:Lib.atoiSat (lst s)=9223372036854775807):zf Tryz.prog 208 [Sr s] [] (.tup [I 9223372036854775807,.one (.ar 0)]) [(0,.ifc)]:=by
 refine⟨zeh Tryz.func208 ud ud,λM ρ w xs hx hT hI hG=>?_⟩;obtain rfl:=zex (av:=[.string s]) hx;obtain⟨te,pe,hev⟩:=hG.er 4 (by simp[G3]);have hv:=hI _ _ _ hev;refine(Any.strconv_Atoi_range ziQ s ua h _ w hv (.inr ⟨te,pe,rfl⟩)).mono λe w' ⟨N,he,_,_,J⟩=>?_;have hn':Lib.atoiSat s.data.toList=9223372036854775807:=hn;rw[hn']at he
 have only: ∀i r,tg (tb [(0,Res.ifc)]) i=some r->i=0/\r= .ifc:=λi r U=>by
  simp only[tb,zy]at U;split at U
  ·rename_i e;exact⟨e.symm,(uY U).symm⟩
  ·cases U
 have nob: ∀ {i r b},tg (tb [(0,Res.ifc)]) i=some r->Bk (upd ρ 0 (.iface (w9.t 168) (.pointer (some ⟨N,0,none⟩))) i) b->False:=λ{i r b} U J=>by
  obtain⟨rfl,_⟩:=only i r U;rw[zx]at J;simp[Bk,blk]at J
 refine⟨_,M,upd ρ 0 (.iface (w9.t 168) (.pointer (some ⟨N,0,none⟩))),he,?_⟩
 refine⟨?_,⟨λi r U=>?_,λi j ri rj b U _ _ J _=>nob U J,λi r b U J=>(nob U J).elim⟩,λb o u hu=>by rw[cell_of_heap (J.block b (jK (hI b o u hu)))];exact hI b o u hu,MLe.refl M,λb o u hu=> .inl hu,
  λb ⟨i,r,U,J⟩=>(nob U J).elim,λb h _=>J.block b h,J.size,J.os,J.tape,J.output,λid hid=>by simp[RL.ids]at hid⟩
 ·simp only[RepS];exact⟨[.int .i64 9223372036854775807,.iface (w9.t 168) (.pointer (some ⟨N,0,none⟩))],rfl,by simp only[RepSs,RepS,RepV,RepPV];exact⟨⟨uh,rfl⟩,⟨by rw[zx],rfl⟩,uh⟩⟩
 ·obtain⟨rfl,rfl⟩:=only i r U;exact⟨_,_,zx _ _ _⟩
variable {i:Nat}
theorem vT{s:Str}{b:UInt8}(h:(lst s)[i]?=some b):s[((i:Nat):Int).toNat]?=some b:=by
 have J:i<s.data.size:=by
  have:=(ux.1 h).1;simpa [lst]using this
 have:s.data[i]=b:=by unfold lst at h;rw[qw,tT J]at h;exact uY h
 have U:i<s.size:=J;simp only[u7];rw[getElem?_pos s i U];exact u5 some this
theorem zfN(c:Int):decide (xm c=3)=isDigit c:=by
 unfold xm isDigit;by_cases h1:c=32
 ·subst h1;rfl
 by_cases h2:c=9
 ·subst h2;rfl
 by_cases h3:c=13
 ·subst h3;rfl
 by_cases h4:c=10
 ·subst h4;rfl
 simp only[h1,h2,h3,h4,uM];by_cases U:(decide (97<=c)&&decide (c<=122))=true
 ·rw[uw U];simp only[um,uq]at U;rw[uF (show ¬c<=57 by omega)];simp
 ·rw[ur U];by_cases h6:(decide (65<=c)&&decide (c<=90))=true
  ·rw[uw h6];simp only[um,uq]at h6;rw[uF (show ¬c<=57 by omega)];simp
  ·rw[ur h6];by_cases J:(decide (48<=c)&&decide (c<=57))=true
   ·rw[uw J,J];rfl
   ·rw[ur J];have h7':(decide (48<=c)&&decide (c<=57))=false:=by simpa using J
    rw[h7'];by_cases h8:c=95
    ·rw[uw h8];rfl
    ·rw[ur h8];rfl
def zhk(w:By):Bool:=decide (w=[])||(decide (1<w.length)&&decide (w.head?=some 48))
theorem zej(w:By):zfK w=(!zhk w&&w.all dB&&decide (numV w 0<=1099511627776)):=by
 unfold zfK zhk;cases decide (w=[])<;>cases(decide (1<w.length)&&decide (w.head?=some 48))<;>simp
def zqK(w:By):Int:=if(!zhk w&&w.all dB)=true then zsR w else 0
theorem zjF{w:By}(J:w≠ [])(U:w.all dB=true):Lib.atoiSat w=9223372036854775807:=by
 cases w with
 |nil=>exact absurd rfl J
 |cons c r=>
  have hc:=ziO.1 (by simp only[tN,um]at U;exact U.1);exact Lib.atoiSat_other c r ua
theorem zjG(s:Str)(hs:s.size<=1000000):zf Tryz.prog 146 [Sr s] [] (.tup [I (zqK (lst s)),.bq (zfK (lst s))]) []:=by
 have hl:=jm s
 have no:zhk (lst s)=true->zqK (lst s)=0/\zfK (lst s)=false:=λh=>by
  rw[zej];unfold zqK;rw[h];simp
 by_cases h0:s=⟨#[]⟩
 ·obtain⟨e1,e2⟩:=no (by rw[h0];rfl);rw[e1,e2];refine gO T Tryz.func146 λC hC=>?_
  repeat' first|refine gG ?_|refine gB ?_ ?_<;>intro h
  all_goals first
   |exact zi ⟨.inl rfl,id,_,rfl,LeS.tup (.cons (.refl _) (.cons (.qb rfl) .nil)),trivial,rfl,rfl⟩
   |(exfalso;simp_all;done)
 have U:lst s≠ []:=λe=>h0 (by rw[<-zeg s,e];rfl)
 have hpos:0<(lst s).length:=List.length_pos_iff.2 U;obtain⟨b,hb⟩:=zb hpos;have hhd:(lst s).head?=some b:=by rw[List.head?_eq_getElem?];exact hb
 by_cases h1:(decide (1<(lst s).length)&&decide ((lst s).head?=some 48))=true
 ·obtain⟨e1,e2⟩:=no (by unfold zhk;rw[h1];simp);rw[e1,e2];simp only[um,uq,hhd,ui]at h1;obtain⟨h1,rfl⟩:=h1;refine gO T Tryz.func146 λC hC=>?_
  repeat' first|refine gG ?_|refine gB ?_ ?_<;>intro h|refine wV T hC rfl rfl rfl (qt _) (vT hb) rfl rfl ?_
  all_goals first
   |exact zi ⟨.inl rfl,id,_,rfl,LeS.tup (.cons (.refl _) (.cons (.qb rfl) .nil)),trivial,rfl,rfl⟩
   |(exfalso;simp_all;done)
   |(exfalso;simp only[uq,uu]at *; omega)
   |(exfalso;revert h;decide)
 have hnn:zhk (lst s)=false:=by
  unfold zhk;rw[uF U];simpa using h1
 have hif:zqK (lst s)=if(lst s).all dB=true then zsR (lst s)else 0:=by unfold zqK;rw[hnn];simp
 have hok:zfK (lst s)=((lst s).all dB&&decide (numV (lst s) 0<=1099511627776)):=by rw[zej,hnn];rfl
 have h48:1<(lst s).length->b≠48:=λh e=>h1 (by rw[hhd,e];simp[h])
 rw[hif,hok];clear no h1 hhd;refine gO T Tryz.func146 λC hC=>?_
 repeat' first|refine gG ?_|refine gB ?_ ?_<;>intro h|refine wV T hC rfl rfl rfl (qt _) (vT hb) rfl rfl ?_
 all_goals first
  |(exfalso;simp_all;done)
  |(exfalso;simp only[uq,uu]at *; refine h48 ua ?_;apply od.1;have h48':(48:UInt8).toNat=48:=rfl;omega)
  |skip
 all_goals
  refine zn (λi:Nat=>i<=s.size/\((lst s).take i).all dB=true) (λi=>([(0,Sr s),(20,I s.size),(21,I i)],[])) (λi=>s.size - i) hC
   0 ⟨uE _,ue⟩ id gM ?_
  rintro i ⟨hi,hn⟩;refine zm T hC true 200 rfl ?_;refine zp rfl ?_ ?_<;>intro hh
  ·have hlt:i<(lst s).length:=by have:=uj hh;omega
   clear hh;obtain⟨x,hx⟩:=zb hlt
   repeat' first|refine gG ?_|refine gB ?_ ?_<;>intro h|refine wV T hC rfl rfl rfl (uD _) (vT hx) rfl rfl ?_|refine gC (vu _) ?_|refine zl ?_
   all_goals first
    |(have hd:dB x=false:=by unfold dB;rw[<-zfN];simpa using h
      rw[zah hx hd]
      exact zi ⟨.inl rfl,id,_,rfl,LeS.tup (.cons (.refl _) (.cons (.qb rfl) .nil)),trivial,rfl,rfl⟩)
    |(have hd:dB x=true:=by unfold dB;rw[<-zfN];simpa using h
      rw[vi ua];refine zh (i+1) ⟨ua,?_⟩ id ua gM
      rw[xV hx,hn,hd];rfl)
  ·have hge: ¬i<(lst s).length:=by have:=uo hh;omega
   have J:=jb (p:=dB) ua hn;clear hh;rw[J,tn];have ha:=zhh U J;have hsat:=zjF U J;by_cases hv:numV (lst s) 0<=9223372036854775807
   ·rw[uw hv]at ha;have hA:=zsU ha hs;have hi':zsR (lst s)=numV (lst s) 0:=by unfold zsR;rw[uw hv]
    rw[hi',uw rfl]
    repeat' first|refine gG ?_|refine gB ?_ ?_<;>intro h|refine ze ?_|refine gC hA ?_|refine ztw hC rfl ud rfl rfl ?_
    all_goals first
     |exact zi ⟨.inl rfl,id,_,rfl,LeS.tup (.cons (.refl _) (.cons (.qq rfl) .nil)),trivial,rfl,rfl⟩
     |(exfalso;simp_all;done)
   ·rw[ur hv]at ha;have hA:=zjE ha hs hsat;have hi':zsR (lst s)=9223372036854775807:=by unfold zsR;rw[ur hv]
    rw[hi',uF (show ¬numV (lst s) 0<=1099511627776 by omega),uw rfl]
    repeat' first|refine gG ?_|refine gB ?_ ?_<;>intro h|refine ze ?_|(refine gR hA (nm [140]) ?_)|refine ztv hC rfl rfl ud rfl rfl ?_
    all_goals first
     |exact zi ⟨.inl rfl,id,_,rfl,LeS.tup (.cons (.refl _) (.cons (.qb rfl) .nil)),trivial,rfl,rfl⟩
     |(exfalso;simp_all;done)
theorem zhl(s:Str)(i j:Nat):lst (s.extract i j)=((lst s).drop i).take (j - i):=by
 simp only[lst,ByteArray.data_extract,Up,oP]
theorem jZ(s:Str)(i j:Nat):s.extract i j=zaX (((lst s).drop i).take (j - i)):=by rw[<-zhl,zeg]
variable {c:UInt8}
theorem zmX{r:By}(h: ∀y∈[(⟨#[61,61]⟩:UB),(⟨#[33,61]⟩:UB),(⟨#[60,61]⟩:UB),(⟨#[45,62]⟩:UB)],(lst y).isPrefixOf (c::r)=false):zj1 (c::r)=if 0<=Lib.indexByte (lst (⟨#[40,41,123,125,91,93,44,59,58,46,61,60,43,45,42,47,37]⟩:Str)) c then some (zaX [c])else none:=by
 have key: ∀i:Fin 256,(([(⟨#[40]⟩:UB),(⟨#[41]⟩:UB),⟨#[123]⟩,⟨#[125]⟩,(⟨#[91]⟩:UB),(⟨#[93]⟩:UB),(⟨#[44]⟩:UB),(⟨#[59]⟩:UB),(⟨#[58]⟩:UB),(⟨#[46]⟩:UB),(⟨#[61]⟩:UB),(⟨#[60]⟩:UB),(⟨#[43]⟩:UB),(⟨#[45]⟩:UB),(⟨#[42]⟩:UB),(⟨#[47]⟩:UB),(⟨#[37]⟩:UB)]:List Str).find? λy=>(lst y).isPrefixOf [UInt8.ofNat i.val])=
  if 0<=Lib.indexByte (lst (⟨#[40,41,123,125,91,93,44,59,58,46,61,60,43,45,42,47,37]⟩:Str)) (UInt8.ofNat i.val)then some (zaX [UInt8.ofNat i.val])else none:=by decide+kernel
 have U:UInt8.ofNat c.toNat=c:=by simp
 have hk:=key ⟨c.toNat,c.toNat_lt⟩;simp only[U]at hk;rw[<-hk];have e:syms=[(⟨#[61,61]⟩:UB),(⟨#[33,61]⟩:UB),(⟨#[60,61]⟩:UB),(⟨#[45,62]⟩:UB)]++[(⟨#[40]⟩:UB),(⟨#[41]⟩:UB),⟨#[123]⟩,⟨#[125]⟩,(⟨#[91]⟩:UB),(⟨#[93]⟩:UB),(⟨#[44]⟩:UB),(⟨#[59]⟩:UB),(⟨#[58]⟩:UB),(⟨#[46]⟩:UB),(⟨#[61]⟩:UB),(⟨#[60]⟩:UB),(⟨#[43]⟩:UB),(⟨#[45]⟩:UB),(⟨#[42]⟩:UB),(⟨#[47]⟩:UB),(⟨#[37]⟩:UB)]:=rfl;unfold zj1;rw[e,qW]
 have hn:([(⟨#[61,61]⟩:UB),(⟨#[33,61]⟩:UB),(⟨#[60,61]⟩:UB),(⟨#[45,62]⟩:UB)]:List Str).find? (λy=>(lst y).isPrefixOf (c::r))=none:=by
  rw[List.find?_eq_none];intro y J;rw[h y J];simp
 rw[hn,Option.none_or];have one: ∀y∈([(⟨#[40]⟩:UB),(⟨#[41]⟩:UB),⟨#[123]⟩,⟨#[125]⟩,(⟨#[91]⟩:UB),(⟨#[93]⟩:UB),(⟨#[44]⟩:UB),(⟨#[59]⟩:UB),(⟨#[58]⟩:UB),(⟨#[46]⟩:UB),(⟨#[61]⟩:UB),(⟨#[60]⟩:UB),(⟨#[43]⟩:UB),(⟨#[45]⟩:UB),(⟨#[42]⟩:UB),(⟨#[47]⟩:UB),(⟨#[37]⟩:UB)]:List Str),(lst y).length=1:=by decide+kernel
 have: ∀l:List Str,(∀y∈l,(lst y).length=1)->l.find? (λy=>(lst y).isPrefixOf (c::r))=l.find? (λy=>(lst y).isPrefixOf [c]):=λl=>by
  induction l with
  |nil=>intro _;rfl
  |cons y l ih=>
   intro hl;have J:=hl y ue
   have e2:(lst y).isPrefixOf (c::r)=(lst y).isPrefixOf [c]:=by
    match lst y,J with
    | [u],_=>rfl
    | [],J=>simp at J
    |_::_::_,J=>simp at J
   rw[qT,qT,e2,ih λz hz=>hl z (by simp[hz])]
 exact this _ one
theorem zpm:zj1 []=none:=by decide+kernel
theorem zmY(s:Str):zf Tryz.prog 100 [Sr s] [] (Sr ((zj1 (lst s)).getD (⟨#[]⟩:UB))) []:=by
 have hl:=jm s;have hP:=λy:Str=>zei s y
 refine gO T Tryz.func100 λC hC=>?_
 repeat' first|refine gG ?_|refine gB ?_ ?_<;>intro h|(refine znJ (vs:=[.p (ks (⟨#[61,61]⟩:UB)),.p (ks (⟨#[33,61]⟩:UB)),.p (ks (⟨#[60,61]⟩:UB)),.p (ks (⟨#[45,62]⟩:UB))]) (len:=4) (e:=1) (el:=9) (zs:=List.replicate 4 (.p (ks (⟨#[]⟩:UB)))) hC rfl ud ud ud rfl ud rfl rfl ?_)
 refine zn (λi:Nat=>i<=4/\ ∀y∈([(⟨#[61,61]⟩:UB),(⟨#[33,61]⟩:UB),(⟨#[60,61]⟩:UB),(⟨#[45,62]⟩:UB)]:List Str).take i,(lst y).isPrefixOf (lst s)=false) (λi=>([(0,Sr s),(5,.agg [.p (ks (⟨#[61,61]⟩:UB)),.p (ks (⟨#[33,61]⟩:UB)),.p (ks (⟨#[60,61]⟩:UB)),.p (ks (⟨#[45,62]⟩:UB))]),(6,I i)],[])) (λi=>4 - i) hC
  0 ⟨uE _,ue⟩ id gM ?_
 rintro i ⟨hi,hn⟩;refine zm T hC true 200 rfl ?_;refine zp rfl ?_ ?_<;>intro hh
 ·have hlt:i<4:=by have:=uj hh;omega
  clear hh;obtain⟨y,hy⟩:=zb (l:=([(⟨#[61,61]⟩:UB),(⟨#[33,61]⟩:UB),(⟨#[60,61]⟩:UB),(⟨#[45,62]⟩:UB)]:List Str)) (i:=i) (by simpa using hlt)
  have hyv:([.p (ks (⟨#[61,61]⟩:UB)),.p (ks (⟨#[33,61]⟩:UB)),.p (ks (⟨#[60,61]⟩:UB)),.p (ks (⟨#[45,62]⟩:UB))]:List V)[((i:Nat):Int).toNat]?=some (.p (ks y)):=by
   have:([.p (ks (⟨#[61,61]⟩:UB)),.p (ks (⟨#[33,61]⟩:UB)),.p (ks (⟨#[60,61]⟩:UB)),.p (ks (⟨#[45,62]⟩:UB))]:List V)=([(⟨#[61,61]⟩:UB),(⟨#[33,61]⟩:UB),(⟨#[60,61]⟩:UB),(⟨#[45,62]⟩:UB)]:List Str).map λy=>V.p (ks y):=rfl
   rw[this,uK,u7,hy];rfl
  have J:=hP y;cases hp:(lst y).isPrefixOf (lst s)with
  |true=>
   rw[hp]at J
   have hsy:zj1 (lst s)=some y:=by
    unfold zj1;have e:syms=([(⟨#[61,61]⟩:UB),(⟨#[33,61]⟩:UB),(⟨#[60,61]⟩:UB),(⟨#[45,62]⟩:UB)]:List Str)++[(⟨#[40]⟩:UB),(⟨#[41]⟩:UB),⟨#[123]⟩,⟨#[125]⟩,(⟨#[91]⟩:UB),(⟨#[93]⟩:UB),(⟨#[44]⟩:UB),(⟨#[59]⟩:UB),(⟨#[58]⟩:UB),(⟨#[46]⟩:UB),(⟨#[61]⟩:UB),(⟨#[60]⟩:UB),(⟨#[43]⟩:UB),(⟨#[45]⟩:UB),(⟨#[42]⟩:UB),(⟨#[47]⟩:UB),(⟨#[37]⟩:UB)]:=rfl;rw[e,qW]
    have:([(⟨#[61,61]⟩:UB),(⟨#[33,61]⟩:UB),(⟨#[60,61]⟩:UB),(⟨#[45,62]⟩:UB)]:List Str).find? (λy=>(lst y).isPrefixOf (lst s))=some y:=by
     rw[List.find?_eq_some_iff_getElem];refine⟨hp,i,by simpa using hlt,?_,λj hj=>?_⟩
     ·have:=(ux.1 hy).2;exact this
     ·have:=hn (([(⟨#[61,61]⟩:UB),(⟨#[33,61]⟩:UB),(⟨#[60,61]⟩:UB),(⟨#[45,62]⟩:UB)]:List Str)[j]'ug) (List.mem_take_iff_getElem.2 ⟨j,ug,rfl⟩);rw[this];rfl
    rw[this];rfl
   rw[hsy]
   repeat' first|refine gG ?_|refine gB ?_ ?_<;>intro h|(refine zhy (len:=4) (el:=9) hC rfl rfl ud ud ud (uD _) ua hyv rfl rfl ?_)|refine gC J ?_|refine zl ?_
   exact gF
  |false=>
   rw[hp]at J
   repeat' first|refine gG ?_|refine gB ?_ ?_<;>intro h|(refine zhy (len:=4) (el:=9) hC rfl rfl ud ud ud (uD _) ua hyv rfl rfl ?_)|refine gC J ?_
   rw[vi ua];refine zh (i+1) ⟨ua,λz U=>?_⟩ id ua gM;rw[qc,hy]at U;rcases tp.1 U with U|U
   ·exact hn z U
   ·simp only[Option.toList_some,tv]at U;subst U;exact hp
 ·have hge:i=4:=by have:=uo hh;omega
  subst hge;clear hh;have hn4: ∀y∈([(⟨#[61,61]⟩:UB),(⟨#[33,61]⟩:UB),(⟨#[60,61]⟩:UB),(⟨#[45,62]⟩:UB)]:List Str),(lst y).isPrefixOf (lst s)=false:=λy hy=>hn y (by simpa using hy)
  match hls:lst s with
  | []=>
    have h0:s=⟨#[]⟩:=by rw[<-zeg s,hls];rfl
    subst h0;rw[zpm]
    repeat' first|refine gG ?_|refine gB ?_ ?_<;>intro h|refine ze ?_
    all_goals first
     |exact gF
     |(exfalso;simp_all;done)
  |c::r=>
   rw[hls]at hn4 hl;have hsz:1<=s.size:=by simp only[uW]at hl;omega
   have hc0:(lst s)[0]?=some c:=by rw[hls];rfl
   have hI:=zfM ⟨#[40,41,123,125,91,93,44,59,58,46,61,60,43,45,42,47,37]⟩ c;have hne:s≠⟨#[]⟩:=λe=>by subst e;simp[lst]at hls
   rw[zmX hn4];generalize Lib.indexByte (lst (⟨#[40,41,123,125,91,93,44,59,58,46,61,60,43,45,42,47,37]⟩:Str)) c=q at hI
   have hx:s.extract 0 (1:Int).toNat=zaX [c]:=by
    rw[jZ,hls];rfl
   repeat' first|refine gG ?_|refine gB ?_ ?_<;>intro h|refine ze ?_|refine wV T hC rfl rfl rfl (qt _) (vT hc0) rfl rfl ?_|refine gC hI ?_|(refine ztt hC rfl rfl ud ub ua rfl rfl ?_)
   all_goals first
    |(rw[uw (by simpa using h),hx]
      exact gF)
    |(rw[ur (by simpa using h)]
      exact gF)
    |(exfalso;simp_all;done)
def zxB(k:Int)(t:Str)(n ln cl:Int):List PV:=[ki k,ks t,ki n,ki ln,ki cl]
theorem zjH(s:Str)(hs:s.size<=1000000):(∀t,zpl (lst s)=some t->zf Tryz.prog 99 [Sr s] [] (.tup [zr (zxB t.1 t.2.1 t.2.2 0 0),Bo true]) [])/\(zpl (lst s)=none->zf Tryz.prog 99 [Sr s] [] (.tup [zr (zxB 2 (⟨#[]⟩:UB) (zqK (lst s)) 0 0),Bo false]) []):=by
 have U:=zak s;have hN:=yt s;have hI:=zjG s hs
 have hif:zfK (lst s)=true->zqK (lst s)=numV (lst s) 0:=λh=>by
  rw[zej]at h;simp only[um,uq]at h;unfold zqK zsR;rw[uw (by simp[h.1.1,h.1.2]),uw ua]
 unfold zpl;rw[zeg];cases hk:wK s with
 |true=>
  rw[hk]at U;refine⟨λt J=>?_,λh=>by simp at h⟩;rw[uw rfl]at J;obtain rfl:=uY J;refine gO T Tryz.func99 λC hC=>?_
  repeat' first|refine gG ?_|refine gB ?_ ?_<;>intro h|refine gC U ?_
  all_goals first
   |exact gF
   |(exfalso;simp_all;done)
 |false=>
 rw[hk]at U;cases hn:isName s with
 |true=>
  rw[hn]at hN;refine⟨λt J=>?_,λh=>by simp at h⟩;simp only[uB,uM,uX]at J;obtain rfl:=uY J;refine gO T Tryz.func99 λC hC=>?_
  repeat' first|refine gG ?_|refine gB ?_ ?_<;>intro h|refine gC U ?_|refine gC hN ?_
  all_goals first
   |exact gF
   |(exfalso;simp_all;done)
 |false=>
 rw[hn]at hN;cases ho:zfK (lst s)with
 |true=>
  rw[ho,hif ho]at hI;refine⟨λt J=>?_,λh=>by simp at h⟩;simp only[uB,uM,uX]at J;obtain rfl:=uY J;refine gO T Tryz.func99 λC hC=>?_
  repeat' first|refine gG ?_|refine gB ?_ ?_<;>intro h|refine gC U ?_|refine gC hN ?_|refine gC hI ?_
  all_goals first
   |exact zi ⟨.inl rfl,id,_,rfl,LeS.tup (.cons (.refl _) (.cons (.bq rfl) .nil)),trivial,rfl,rfl⟩
   |exact gF
   |(exfalso;simp_all;done)
 |false=>
  rw[ho]at hI;refine⟨λt J=>by simp at J,λ_=>?_⟩;refine gO T Tryz.func99 λC hC=>?_
  repeat' first|refine gG ?_|refine gB ?_ ?_<;>intro h|refine gC U ?_|refine gC hN ?_|refine gC hI ?_
  all_goals first
   |exact zi ⟨.inl rfl,id,_,rfl,LeS.tup (.cons (.refl _) (.cons (.bq rfl) .nil)),trivial,rfl,rfl⟩
   |exact gF
   |(exfalso;simp_all;done)
def mvU(a b i:Nat):Nat:=match Nat.beq i a with
 |true=>b
 |false=>i
theorem zhm{a b:Nat}(ha:100<=a)(hi:i<100):mvU a b i=i:=by
 unfold mvU;rw[xB ua]
theorem zmZ{p:UInt8->Bool}: ∀(l:By) (k:Nat),(l.take k).all p=true->(∀x,l[k]?=some x->p x=false)->l.takeWhile p=l.take k
 | [],k,_,_=>by simp
 |x::l,0,_,h=>by
  have:=h x rfl;rw[qG,ur (by simp[this])];rfl
 |x::l,k+1,ha,h=>by
  rw[tW,tN,um]at ha;rw[qG,uw ha.1,tW,zmZ l k ha.2 (λy J=>h y (by simpa using J))]
theorem zhn{l:By}(h:l[i]?=some c):l.drop i=c::l.drop (i+1):=by
 obtain⟨J,rfl⟩:=ux.1 h;exact qi J
theorem zm0:blB c=true↔xm c.toNat=1:=by unfold blB;exact oI
theorem zm1:wB c=true↔2<=xm c.toNat:=by
 have:=zaK c.toNat;unfold wB;cases h:isWord (c.toNat:Int)with
 |true=>rw[h]at this;simp at this;simpa using this
 |false=>rw[h]at this;simp at this;simp;omega
theorem zjI{l:By}(p:Int×Int)(out:List Tok)(h:l[i]?=some c)(J:blB c=true):lxx (l.drop i) p out=lxx (l.drop (i+1)) (mvX p c) out:=by
 have U:tk (l.drop i)=some (1,none):=by rw[zhn h];simp only[tk,uw J]
 rw[zbB p out U,tG,zhn h];simp
variable {p:UInt8->Bool}
theorem zfO{l:By}(J:p 10=false)(q:Int×Int):(l.take (l.takeWhile p).length).foldl mvX q=(q.1,q.2+(l.takeWhile p).length):=by
 have e:l.take (l.takeWhile p).length=l.takeWhile p:=(oW.1 (List.takeWhile_prefix p)).symm;rw[e];refine zhg _ _ λb U e=>?_;subst e;have:=(List.all_eq_true.1 (List.all_takeWhile (p:=p) (l:=l))) _ U;rw[J]at this;cases this
theorem zpn{l:By}{k:Nat}(p:Int×Int)(out:List Tok)(h:l[i]?=some 35)(hk:((l.drop i).takeWhile λb=>decide (b≠10)).length=k):lxx (l.drop i) p out=lxx (l.drop (i+k)) (p.1,p.2+k) out:=by
 subst hk
 have J:tk (l.drop i)=some (((l.drop i).takeWhile λb=>decide (b≠10)).length,none):=by
  rw[zhn h];simp only[tk];rw[ur ub];rfl
 rw[zbB p out J,tG,zfO ub];simp
theorem zm2{l:By}(p:Int×Int)(out:List Tok)(h:l[i]?=some c)(U:blB c=false)(hc:c≠35)(hw:wB c=true){t:Int×Str×Int}(J:zpl ((l.drop i).takeWhile wB)=some t):lxx (l.drop i) p out=lxx (l.drop (i+((l.drop i).takeWhile wB).length)) (p.1,p.2+((l.drop i).takeWhile wB).length) (out++[jY p t]):=by
 have hk:tk (l.drop i)=some (((l.drop i).takeWhile wB).length,some t):=by
  rw[zhn h]at J⊢;simp only[tk];rw[ur (by simp[U]),ur hc,uw hw,J];rfl
 rw[zbB p out hk,tG,zfO ub];rfl
theorem zpo{l:By}(p:Int×Int)(out:List Tok)(h:l[i]?=some c)(U:blB c=false)(hc:c≠35)(hw:wB c=true)(J:zpl ((l.drop i).takeWhile wB)=none):lxx (l.drop i) p out=([],p,7):=by
 rw[zhn h]at J⊢;refine zmV p out ?_;simp only[tk];rw[ur (by simp[U]),ur hc,uw hw,J];rfl
theorem zm3: ∀y∈syms,∀b∈lst y,b≠10:=by decide+kernel
variable {y:Str}
theorem zpp{l:By}(h:zj1 l=some y)(q:Int×Int):(l.take y.size).foldl mvX q=(q.1,q.2+(y.size:Int)):=by
 obtain⟨J,h2⟩:=zmU h
 have e:l.take y.size=lst y:=by
  rw[<-jm];exact(oW.1 (List.isPrefixOf_iff_prefix.1 h2)).symm
 rw[e,zhg _ _ (zm3 y J),jm]
theorem zpq{l:By}(p:Int×Int)(out:List Tok)(h:l[i]?=some c)(U:blB c=false)(hc:c≠35)(hw:wB c=false)(J:zj1 (l.drop i)=some y):lxx (l.drop i) p out=lxx (l.drop (i+y.size)) (p.1,p.2+(y.size:Int)) (out++[jY p (4,y,0)]):=by
 have hk:tk (l.drop i)=some (y.size,some (4,y,0)):=by
  rw[zhn h]at J⊢;simp only[tk];rw[ur (by simp[U]),ur hc,ur (by simp[hw]),J];rfl
 rw[zbB p out hk,tG,zpp J];rfl
theorem zsV{l:By}(p:Int×Int)(out:List Tok)(h:l[i]?=some c)(U:blB c=false)(hc:c≠35)(hw:wB c=false)(J:zj1 (l.drop i)=none):lxx (l.drop i) p out=([],p,7):=by
 rw[zhn h]at J⊢;refine zmV p out ?_;simp only[tk];rw[ur (by simp[U]),ur hc,ur (by simp[hw]),J];rfl
theorem zfP(s:Str)(hs:s.size<=1000000):zf Tryz.prog 62 [Sr s] [] (.tup [pS (zmS (vL s).1),zr [ki (vL s).2.1.1,ki (vL s).2.1.2],I (vL s).2.2]) []:=by
 have hl:=jm s;by_cases hbig:65536<s.size
 ·have hR:vL s=([],(0,0),4):=uw hbig;rw[hR];refine gO T Tryz.func62 λC hC=>?_
  repeat' first|refine gG ?_|refine gB ?_ ?_<;>intro h
  all_goals first
   |exact zi ⟨.inl rfl,id,_,rfl,LeS.tup (.cons (LeS.one (.nil 5)) (.cons (.refl _) (.cons (.refl _) .nil))),trivial,rfl,rfl⟩
   |(exfalso;simp only[uu]at h;omega)
 have hR:vL s=lxx ((lst s).drop 0) (1,1) []:=ur hbig;generalize vL s=R at hR;refine gO T Tryz.func62 λC hC=>?_
 repeat' first|refine gG ?_|refine gB ?_ ?_<;>intro h
 ·exfalso;have:=uj h;omega
 refine gA 101 5 [(5,.one (.ar 101))] [] ?_
 refine zn (λq:Nat×Nat×Nat×List Tok=>q.1<=s.size/\q.2.2.1<=q.1/\q.2.1<=q.1+1/\q.2.2.2.length<=q.1/\R=lxx ((lst s).drop q.1) (q.2.1,(q.1:Int) - q.2.2.1+1) q.2.2.2) (λq=>([(0,Sr s),(3,.one (.bx 1003 0)),(5,.one (.ar 101)),(6,I q.2.1),(7,I q.2.2.1),(8,I q.1)],[(1003,some (Res.box [.p (ki 0),.p (ki 0)])),(101,some (Res.arr 5 (q.2.2.2.map zef)))])) (λq=>s.size - q.1) hC
  (0,1,0,[]) ⟨uE _,uE _,ub,uE _,hR⟩ id gM ?_
 rintro⟨i,ln,bg,out⟩ ⟨hi,hb,hlnn,hout,U⟩;simp only at hi hb hlnn hout U;refine zm T hC true 200 rfl ?_;refine zp rfl ?_ ?_<;>intro hh
 rotate_left
 ·have hge:i=s.size:=by have:=uo hh;omega
  clear hh;rw[oZ ua,zsQ]at U;subst U;have w1:IntKind.i64.wrap ((s.size:Int) - bg)=(s.size:Int) - bg:=wrap64 ua;have w2:IntKind.i64.wrap ((s.size:Int) - bg+1)=(s.size:Int) - bg+1:=wrap64 ua;have hol:(out.map zef).length=out.length:=uk _;have happ:out.map zef++[[ki 5,ks (⟨#[]⟩:UB),ki 0,ki ln,ki (IntKind.i64.wrap (IntKind.i64.wrap ((s.size:Int) - bg)+1))]]=(out++[(⟨5,(⟨#[]⟩:UB),0,ln,(i:Int) - bg+1⟩:Tok)]).map zef:=by rw[w1,w2,hge,u6];rfl
  repeat' first|refine gG ?_|refine gB ?_ ?_<;>intro h|refine ze ?_|refine gT ?_|(refine gY T 102 ((out++[(⟨5,(⟨#[]⟩:UB),0,ln,(i:Int) - bg+1⟩:Tok)]).map zef) 48 ?_)
  refine gZ 102 [(2,pS (zmS (out++[(⟨5,(⟨#[]⟩:UB),0,ln,(i:Int) - bg+1⟩:Tok)])))] [] ?_;exact gF
 have hlt:i<(lst s).length:=by have:=uj hh;omega
 clear hh;obtain⟨c,hc⟩:=zb hlt;have hK:=vu c.toNat;have w1:IntKind.i64.wrap ((i:Int) - bg)=(i:Int) - bg:=wrap64 ua;have w2:IntKind.i64.wrap ((i:Int) - bg+1)=(i:Int) - bg+1:=wrap64 ua;cases hbl:blB c with
 |true=>
  have hcl:=zm0.1 hbl;rw[zjI _ _ hc hbl]at U;rw[hcl]at hK
  repeat' first|refine gG ?_|exact gD|refine gB ?_ ?_<;>intro h|refine wV T hC rfl rfl rfl (uD _) (vT hc) rfl rfl ?_|refine gC hK ?_
  ·have h10:c=10:=od.1 (by have:=uj h;have e:(10:UInt8).toNat=10:=rfl;omega);subst h10;dsimp only;rw[vi ua,vi ua];refine zh (i+1,ln+1,i+1,out) ⟨by simp only;omega,uJ _,by simp only;omega,by simp only;omega,?_⟩ id (by simp only;omega) gM;rw[U];simp[mvX]
  ·have h10:c≠10:=λe=>by subst e;exact absurd h ub
   dsimp only;rw[vi ua];refine zh (i+1,ln,bg,out) ⟨by simp only;omega,by simp only;omega,by simp only;omega,by simp only;omega,?_⟩ id (by simp only;omega) gM;rw[U];unfold mvX;rw[ur h10]
   congr 2
   show(i:Int) - bg+1+1=((i+1:Nat):Int) - bg+1;omega
 |false=>
 have hcl:xm c.toNat≠1:=λe=>by rw[zm0.2 e]at hbl;cases hbl
 by_cases h35:c=35
 ·subst h35;rw[show xm ((35:UInt8).toNat:Int)=0 from rfl]at hK
  repeat' first|refine gG ?_|exact gD|refine gB ?_ ?_<;>intro h|refine wV T hC rfl rfl rfl (uD _) (vT hc) rfl rfl ?_|refine gC hK ?_
  all_goals (try (exfalso;revert h;decide))
  refine zn (λk:Nat=>i+k<=s.size/\(((lst s).drop i).take k).all (λb=>decide (b≠10))=true) (λk=>([(0,Sr s),(3,.one (.bx 1003 0)),(5,.one (.ar 101)),(6,I ln),(7,I bg),(8,I (i+k:Nat))],[(1003,some (Res.box [.p (ki 0),.p (ki 0)])),(101,some (Res.arr 5 (out.map zef)))])) (λk=>s.size - i - k) hC
   0 ⟨ua,ue⟩ id gM ?_
  rintro k ⟨hk,hall⟩
  have hcom:(∀x,((lst s).drop i)[k]?=some x->x=10)->0<k/\R=lxx ((lst s).drop (i+k)) (ln,((i+k:Nat):Int) - bg+1) out:=λJ=>by
   have htw:=zmZ _ k hall (λx h=>by simpa using J x h);refine⟨?_,?_⟩
   ·rcases qK k with rfl|h
    ·have:=J 35 (by rw[u9];exact hc);cases this
    ·exact h
   ·rw[U,zpn _ _ hc (k:=k) (by rw[htw,tj,tA];omega)];have e:(i:Int) - bg+1+k=((i+k:Nat):Int) - bg+1:=by omega
    show lxx _ ((ln:Int),(i:Int) - bg+1+k) out=_;rw[e]
  refine zm T hC true 200 rfl ?_;by_cases hj:i+k<s.size
  ·obtain⟨x,J⟩:=zb (l:=lst s) (i:=i+k) ua;have hxd:((lst s).drop i)[k]?=some x:=by rw[u9];exact J
   repeat' first|refine gG ?_|(exfalso;have h2:=uo h;omega)|refine gB ?_ ?_<;>intro h|refine wV T hC rfl rfl rfl (uD _) (vT J) rfl rfl ?_|refine ze ?_
   ·have hx10:x≠10:=λe=>by subst e;exact absurd h ub
    rw[vi ua];exact zh (k+1) ⟨ua,by rw[xV hxd,hall];simpa using hx10⟩ id ua gM
   ·obtain⟨h0,hL'⟩:=hcom λy hy=>by
     rw[hxd]at hy;obtain rfl:=uY hy;exact od.1 (by have e2:(10:UInt8).toNat=10:=rfl;simp at h;omega)
    exact zh (i+k,ln,bg,out) ⟨by simp only;omega,by simp only;omega,by simp only;omega,by simp only;omega,hL'⟩ id (by simp only;omega) gM
  ·repeat' first|refine gG ?_|(exfalso;have h2:=uj h;omega)|refine gB ?_ ?_<;>intro h|refine ze ?_
   obtain⟨h0,hL'⟩:=hcom λy hy=>by
    rw[u9,tZ ua]at hy;cases hy
   exact zh (i+k,ln,bg,out) ⟨by simp only;omega,by simp only;omega,by simp only;omega,by simp only;omega,hL'⟩ id (by simp only;omega) gM
 have hwd:= @zm1 c;have h35c: ¬(c.toNat:Int)=35:=λe=>h35 (od.1 (by have e2:(35:UInt8).toNat=35:=rfl;omega))
 generalize hcv:xm (c.toNat:Int)=cv at hK hcl hwd;cases hw:wB c with
 |true=>
  rw[hw]at hwd;have hcw:2<=cv:=hwd.1 rfl
  repeat' first|refine gG ?_|(exfalso;have h2:=uj h;omega)|(exfalso;have h2:=uo h;omega)|refine gB ?_ ?_<;>intro h|refine wV T hC rfl rfl rfl (uD _) (vT hc) rfl rfl ?_|refine gC hK ?_
  dsimp only;rw[w1,w2]
  refine zn (λk:Nat=>i+k<=s.size/\(((lst s).drop i).take k).all wB=true) (λk=>([(0,Sr s),(3,.one (.bx 1003 0)),(5,.one (.ar 101)),(6,I ln),(7,I bg),(8,I i),(9,.one (.bx 1009 0)),(11,I (i+k:Nat))],[(1003,some (Res.box [.p (ki 0),.p (ki 0)])),(1009,some (Res.box [.p (ki ln),.p (ki ((i:Int) - bg+1))])),(101,some (Res.arr 5 (out.map zef)))])) (λk=>s.size - i - k) hC
   0 ⟨ua,ue⟩ id gM ?_
  rintro k ⟨hk,hall⟩
  have hwe:(∀x,((lst s).drop i)[k]?=some x->wB x=false)->0<k/\((lst s).drop i).takeWhile wB=((lst s).drop i).take k/\(((lst s).drop i).takeWhile wB).length=k:=λJ=>by
   have htw:=zmZ _ k hall J;refine⟨?_,htw,?_⟩
   ·rcases qK k with rfl|h
    ·have:=J c (by rw[u9];exact hc);rw[hw]at this;cases this
    ·exact h
   ·rw[htw,tj,tA];omega
  have hex:s.extract i (i+k)=zaX (((lst s).drop i).take k):=by rw[jZ,show i+k - i=k by omega]
  have hlx:lst (s.extract ((i:Nat):Int).toNat ((i+k:Nat):Int).toNat)=((lst s).drop i).take k:=by rw[u7,u7,hex,zmT]
  have hW:=zjH (s.extract ((i:Nat):Int).toNat ((i+k:Nat):Int).toNat) (by rw[<-jm,hlx,tj];omega);rw[hlx]at hW;have hol:(out.map zef).length=out.length:=uk _;by_cases hend: ∃x,(lst s)[i+k]?=some x/\wB x=true
  ·obtain⟨x,J,hwx⟩:=hend;have hxd:((lst s).drop i)[k]?=some x:=by rw[u9];exact J
   have hxl:=(ux.1 J).1;have hKx:=vu x.toNat;have hcx:=zm1.1 hwx;refine zm T hC true 200 rfl ?_
   repeat' first|refine gG ?_|(exfalso;have h2:=uj h;omega)|(exfalso;have h2:=uo h;omega)|refine gB ?_ ?_<;>intro h|refine wV T hC rfl rfl rfl (uD _) (vT J) rfl rfl ?_|refine gC hKx ?_
   rw[vi ua];exact zh (k+1) ⟨ua,by rw[xV hxd,hall,hwx];rfl⟩ id ua gM
  ·have hno: ∀x,((lst s).drop i)[k]?=some x->wB x=false:=λx J=>by
    rw[u9]at J;cases hwx:wB x with
    |false=>rfl
    |true=>exact absurd ⟨x,J,hwx⟩ hend
   obtain⟨h0,htw,hlen⟩:=hwe hno
   have hend2:s.size<=i+k\/ ∃x,(lst s)[i+k]?=some x/\ ¬2<=xm (x.toNat:Int):=by
    by_cases hz:s.size<=i+k
    ·exact .inl hz
    ·obtain⟨x,J⟩:=zb (l:=lst s) (i:=i+k) ua;refine .inr ⟨x,J,λe=>?_⟩;have:=hno x (by rw[u9];exact J);rw[zm1.2 e]at this;cases this
   cases ht:zpl (((lst s).drop i).take k)with
   |none=>
    have hW2:=hW.2 ht;have hbad:=zpo ((ln:Int),(i:Int) - bg+1) out hc hbl h35 hw (by rw[htw];exact ht);rw[hbad]at U;subst U;refine zm T hC true 200 rfl ?_;rcases hend2 with hz|⟨x,J,hcx⟩
    ·repeat' first|refine gG ?_|(exfalso;have h2:=uj h;omega)|(exfalso;have h2:=uo h;omega)|refine gB ?_ ?_<;>intro h|refine ze ?_|(refine zdj hC rfl rfl rfl ud (uD _) ua ua rfl rfl ?_)|refine gC hW2 ?_|refine zl ?_
     exact zi ⟨.inl rfl,id,_,rfl,LeS.tup (.cons (LeS.one (.nil 5)) (.cons (.refl _) (.cons (.refl _) .nil))),trivial,rfl,rfl⟩
    ·have hKx:=vu x.toNat;have hxl:=(ux.1 J).1
     repeat' first|refine gG ?_|(exfalso;have h2:=uj h;omega)|(exfalso;have h2:=uo h;omega)|refine gB ?_ ?_<;>intro h|refine wV T hC rfl rfl rfl (uD _) (vT J) rfl rfl ?_|refine gC hKx ?_|refine ze ?_|(refine zdj hC rfl rfl rfl ud (uD _) ua ua rfl rfl ?_)|refine gC hW2 ?_|refine zl ?_
     exact zi ⟨.inl rfl,id,_,rfl,LeS.tup (.cons (LeS.one (.nil 5)) (.cons (.refl _) (.cons (.refl _) .nil))),trivial,rfl,rfl⟩
   |some t=>
    have hW1:=hW.1 t ht;have hgo:=zm2 ((ln:Int),(i:Int) - bg+1) out hc hbl h35 hw (t:=t) (by rw[htw];exact ht);rw[hlen]at hgo;rw[hgo]at U;have e:(i:Int) - bg+1+k=((i+k:Nat):Int) - bg+1:=by omega
    simp only[e]at U;have happ:out.map zef++[zef (jY ((ln:Int),(i:Int) - bg+1) t)]=(out++[jY ((ln:Int),(i:Int) - bg+1) t]).map zef:=by rw[u6];rfl
    refine zm T hC true 200 rfl ?_;rcases hend2 with hz|⟨x,J,hcx⟩
    ·repeat' first|refine gG ?_|(exfalso;have h2:=uj h;omega)|(exfalso;have h2:=uo h;omega)|refine gB ?_ ?_<;>intro h|refine ze ?_|(refine zdj hC rfl rfl rfl ud (uD _) ua ua rfl rfl ?_)|refine gC hW1 ?_|refine gT ?_|(refine gY T 102 ((out++[jY ((ln:Int),(i:Int) - bg+1) t]).map zef) 48 ?_)|refine zl ?_
     exact zh (i+k,ln,bg,out++[jY ((ln:Int),(i:Int) - bg+1) t]) ⟨by simp only;omega,by simp only;omega,by simp only;omega,by simp only[uP,uU];omega,U⟩ (mvU 101 102) (by simp only;omega) ⟨rfl,⟨rfl,rfl,rfl,rfl,rfl,rfl,uh⟩,⟨rfl,rfl,uh⟩,rfl,λi hi=>zhm ua hi⟩
    ·have hKx:=vu x.toNat;have hxl:=(ux.1 J).1
     repeat' first|refine gG ?_|(exfalso;have h2:=uj h;omega)|(exfalso;have h2:=uo h;omega)|refine gB ?_ ?_<;>intro h|refine wV T hC rfl rfl rfl (uD _) (vT J) rfl rfl ?_|refine gC hKx ?_|refine ze ?_|(refine zdj hC rfl rfl rfl ud (uD _) ua ua rfl rfl ?_)|refine gC hW1 ?_|refine gT ?_|(refine gY T 102 ((out++[jY ((ln:Int),(i:Int) - bg+1) t]).map zef) 48 ?_)|refine zl ?_
     exact zh (i+k,ln,bg,out++[jY ((ln:Int),(i:Int) - bg+1) t]) ⟨by simp only;omega,by simp only;omega,by simp only;omega,by simp only[uP,uU];omega,U⟩ (mvU 101 102) (by simp only;omega) ⟨rfl,⟨rfl,rfl,rfl,rfl,rfl,rfl,uh⟩,⟨rfl,rfl,uh⟩,rfl,λi hi=>zhm ua hi⟩
 |false=>
  rw[hw]at hwd;have hcw: ¬2<=cv:=λe=>by have:=hwd.2 e;cases this
  repeat' first|refine gG ?_|(exfalso;have h2:=uj h;omega)|(exfalso;have h2:=uo h;omega)|refine gB ?_ ?_<;>intro h|refine wV T hC rfl rfl rfl (uD _) (vT hc) rfl rfl ?_|refine gC hK ?_
  dsimp only;rw[w1,w2];have hsx:lst (s.extract ((i:Nat):Int).toNat s.size)=(lst s).drop i:=by rw[u7,jZ,zmT,uQ (by rw[tA];omega)]
  have hS:=zmY (s.extract ((i:Nat):Int).toNat s.size);rw[hsx]at hS;have hol:(out.map zef).length=out.length:=uk _;cases hy:zj1 ((lst s).drop i)with
  |none=>
   rw[hy]at hS;have hbad:=zsV ((ln:Int),(i:Int) - bg+1) out hc hbl h35 hw hy;rw[hbad]at U;subst U
   repeat' first|refine gG ?_|(exfalso;exact absurd h ub)|refine gB ?_ ?_<;>intro h|(refine zhw hC rfl rfl ud (uD _) ua rfl rfl ?_)|refine gC hS ?_|refine zl ?_
   exact zi ⟨.inl rfl,id,_,rfl,LeS.tup (.cons (LeS.one (.nil 5)) (.cons (.refl _) (.cons (.refl _) .nil))),trivial,rfl,rfl⟩
  |some y=>
   rw[hy]at hS;have hys:=zmU hy;have hyz:=zfL y hys.1;have hyl:=jn hys.2;rw[jm,tA]at hyl;have hyne:y≠⟨#[]⟩:=λe=>by subst e;exact absurd hyz.1 ub
   have hgo:=zpq ((ln:Int),(i:Int) - bg+1) out hc hbl h35 hw hy;rw[hgo]at U;have e:(i:Int) - bg+1+(y.size:Int)=((i+y.size:Nat):Int) - bg+1:=by omega
   simp only[e]at U;have happ:out.map zef++[zef (jY ((ln:Int),(i:Int) - bg+1) (4,y,0))]=(out++[jY ((ln:Int),(i:Int) - bg+1) (4,y,0)]).map zef:=by rw[u6];rfl
   repeat' first|refine gG ?_|(exfalso;exact hyne (uj h))|refine gB ?_ ?_<;>intro h|(refine zhw hC rfl rfl ud (uD _) ua rfl rfl ?_)|refine gC hS ?_|refine gT ?_|(refine gY T 102 ((out++[jY ((ln:Int),(i:Int) - bg+1) (4,y,0)]).map zef) 48 ?_)|refine zl ?_
   show Goal _ _ _ _ _ ((8,Kk IntKind.i64 (IntKind.i64.wrap ((i:Int)+(y.size:Int))))::_) _ _;rw[show IntKind.i64.wrap ((i:Int)+(y.size:Int))=((i+y.size:Nat):Int) from by rw[wrap64 ua];omega];exact zh (i+y.size,ln,bg,out++[jY ((ln:Int),(i:Int) - bg+1) (4,y,0)]) ⟨by simp only;omega,by simp only;omega,by simp only;omega,by simp only[uP,uU];omega,U⟩ (mvU 101 102) (by simp only;omega) ⟨rfl,⟨rfl,rfl,rfl,rfl,rfl,rfl,uh⟩,⟨rfl,rfl,uh⟩,rfl,λi hi=>zhm ua hi⟩
end Hw.Gm.Ps
namespace Hw.Gm
open Go Go.Proofs Go.Shelf Hw.M Ps
def opsOf:Code->List Oper
 | .region _ ops _=>ops.toList
 | .seq a b=>opsOf a++opsOf b
 |_=>[]
def rowOf(o:Oper):List (Str×Str×Int):=match o.op with
 | .build _ ps=>match ps.toList with
   | [(_,.const (.string n)),(_,.const (.string x)),(_,.const (.int _ k))]=>[(n,x,k)]
   |_=>[]
 |_=>[]
noncomputable def zv9:List (Str×Str×Int):=match Tryz.f61.body with
 |some c=>(opsOf c).flatMap rowOf
 |none=>[]
def zek(x:Str×Str×Int):List PV:=[ks x.1,ks x.2.1,ki x.2.2]
theorem zvx:zf Tryz.prog 61 [] [] (pS (.sl 3 (zv9.map zek))) []:=by
 refine gO T Tryz.func61 λC hC=>?_
 repeat' first|refine gG ?_|refine gB ?_ ?_<;>intro h|refine gT ?_
 exact gF
def noS:Str×Str×Int:=((⟨#[]⟩:UB),(⟨#[]⟩:UB),0)
noncomputable def zsW(s:Str):Option (Str×Str×Int):=zv9.find? λx=>decide (x.1=s)
theorem zpr:zv9.length=11:=by kernel_rfl
theorem ziR{α:Type}{p:α->Bool}: ∀ {l:List α} {i:Nat} {x:α},l[i]?=some x->p x=true->(l.take i).any p=false->l.find? p=some x
 | [],i,x,h,_,_=>by simp at h
 |y::ys,0,x,h,hp,_=>by simp at h;subst h;simp[List.find?,hp]
 |y::ys,i+1,x,h,hp,hn=>by
  simp only[tW,qn,u0]at hn;simp only[uZ]at h;simp only[List.find?,hn.1];exact ziR h hp hn.2
theorem ziS{α:Type}{p:α->Bool}: ∀ {l:List α},l.any p=false->l.find? p=none
 | [],_=>rfl
 |y::ys,h=>by
  simp only[qn,u0]at h;simp only[List.find?,h.1];exact ziS h.2
theorem zps(s:Str):zf Tryz.prog 43 [Sr s] [] (.tup [zr (zek ((zsW s).getD noS)),I (if(zsW s).isSome then 0 else 9)]) []:=by
 have hA:=zvx;have hL:=zpr;unfold zsW;generalize zv9=L at hA hL;refine gO T Tryz.func43 λC hC=>?_
 repeat' first|refine gG ?_|refine gB ?_ ?_<;>intro h|refine gC hA ?_
 rw[uk]
 refine zn (λi:Nat=>i<=L.length/\(L.take i).any (λx=>decide (x.1=s))=false) (λi=>([(0,Sr s),(2,.one (.bx 1002 0)),(6,pS (.sl 3 (L.map zek))),(7,I L.length),(8,I i)],[(1002,some (Res.box ((zek noS).map V.p)))])) (λi=>L.length - i) hC
  0 ⟨uE _,ue⟩ id gM ?_
 rintro i ⟨hi,J⟩;refine zm T hC true 200 rfl ?_;refine zp rfl ?_ ?_<;>intro h
 ·have U:i<L.length:=by simpa using h
  clear h;obtain⟨x,hx⟩:=zb U
  repeat' first|refine gG ?_|refine gB ?_ ?_<;>intro h|refine gX ?_|refine zl ?_
  ·have e:L.find? (λx=>decide (x.1=s))=some x:=ziR hx uf J;rw[e];exact gF
  ·rw[wrapN ua];refine zh (i+1) ⟨ua,?_⟩ id ua gM;rw[qc,hx,List.any_append,J];simpa using h
 ·have hge:L.length=i:=by have:=uo h;omega
  rw[<-hge,List.take_length]at J;rw[ziS J];clear h
  repeat' first|refine gG ?_|refine gB ?_ ?_<;>intro h|refine ze ?_
  exact gF
noncomputable def znG:Str:=((zsW (⟨#[108,105,115,116]⟩:UB)).getD noS).2.1
theorem zpt:(zsW (⟨#[108,105,115,116]⟩:UB)).isSome=true:=by kernel_rfl
def awC:List Cl:=[⟨(⟨#[112,117,116]⟩:UB),[1,5]⟩,⟨(⟨#[112,117,116]⟩:UB),[2,6]⟩,⟨(⟨#[103,101,116]⟩:UB),[2]⟩]
noncomputable def fl:List (Nat×Func):=[(63,Tryz.f63),(64,Tryz.f64),(65,Tryz.f65),(66,Tryz.f66),(101,Tryz.f101),(103,Tryz.f103),(104,Tryz.f104),(105,Tryz.f105),(106,Tryz.f106),(149,Tryz.f149),(150,Tryz.f150),(151,Tryz.f151),(152,Tryz.f152),(211,Tryz.f211),(212,Tryz.f212),(252,Tryz.f252),(253,Tryz.f253),(256,Tryz.f256),(272,Tryz.f272),(285,Tryz.f285),(254,Tryz.f254),(102,Tryz.f102),(284,Tryz.f284),(255,Tryz.f255),(44,Tryz.f44)]
theorem zw8:zv8 (λf fn=>Tryz.prog.funcs[f]?=some fn/\(fn.name== "runtime.NumGoroutine")=false) fl:=by
 unfold fl
 repeat' first|exact uh|refine⟨⟨ud,ud⟩,?_⟩
def bl:List (Nat×Nat):=[(124,56),(136,32),(217,96),(90,104),(129,40),(160,96),(163,88),(126,72),(165,72)]
theorem zw9:zv8 (λt b=>(Tryz.prog.info? t).map (·.bytes)=some b) bl:=by
 unfold bl
 repeat' first|exact uh|refine⟨by dsimp only;kernel_rfl,?_⟩
noncomputable def knX(l:List Ent)(hl:zmP Tryz.prog l):Kno Tryz.prog where
 fo:=asc fl
 fo_ok:=zmE zw8
 bo:=asc bl
 bo_ok:=zmE zw9
 lf:=λf a R=>match Nat.beq f 107 with
  |true=>lfI a R
  |false=>lfT l f a R
 lf_ok:=λf a R r R' h=>by
  split at h
  ·rename_i e;rw[uA e];exact zvv h
  ·exact zqF hl h
def lxC:Nat->By->Int×Int->List Tok
 |0,_,_=>[]
 |_+1,[],p=>[⟨5,(⟨#[]⟩:UB),0,p.1,p.2⟩]
 |f+1,c::r,p=>match tk (c::r)with
  |none=>[]
  |some (n,o)=>match o with
   |none=>lxC f ((c::r).drop n) (((c::r).take n).foldl mvX p)
   |some t=>jY p t::lxC f ((c::r).drop n) (((c::r).take n).foldl mvX p)
variable {t:Int×Str×Int}
theorem zxa{l:By}(h:zpl l=some t):t.1≠5:=by
 unfold zpl at h
 repeat' split at h
 all_goals first
  |(cases h;done)
  |(simp only[ui]at h;subst h;simp)
theorem zx1{l:By}{n:Nat}(h:tk l=some (n,some t)):t.1≠5:=by
 cases l with
 |nil=>cases h
 |cons c r=>
  simp only[tk]at h;by_cases J:blB c=true
  ·rw[uw J]at h;cases h
  rw[ur J]at h;by_cases h2:c=35
  ·rw[uw h2]at h;cases h
  rw[ur h2]at h;by_cases h3:wB c=true
  ·rw[uw h3]at h;obtain⟨x,U,h4⟩:=uR.1 h;cases h4;exact zxa U
  ·rw[ur h3]at h;obtain⟨x,U,h4⟩:=uR.1 h;cases h4;exact(by decide:(4:Int)≠5)
theorem zm4: ∀(f:Nat) (l:By) (p:Int×Int) (out:List Tok),(∃t∈lxC f l p,t.k=5)->lx f l p out=(out++lxC f l p,(0,0),0)
 |0,_,_,_,h=>by obtain⟨t,J,_⟩:=h;cases J
 |_+1,[],_,_,_=>rfl
 |f+1,c::r,p,out,h=>by
  simp only[lxC]at h⊢;simp only[lx];cases hq:tk (c::r)with
  |none=>rw[hq]at h;obtain⟨t,J,_⟩:=h;cases J
  |some z=>
   obtain⟨n,o⟩:=z;rw[hq]at h;cases o with
   |none=>
    simp only at h;simp only[zm4 f _ _ _ h,tV,Option.toList_none,uV]
   |some t=>
    simp only at h
    have h2: ∃x∈lxC f ((c::r).drop n) (((c::r).take n).foldl mvX p),x.k=5:=by
     obtain⟨x,U,h5⟩:=h;rcases uI.1 U with rfl|U
     ·exact absurd h5 (zx1 hq)
     ·exact⟨x,U,h5⟩
    simp only[zm4 f _ _ _ h2,uH,Option.toList_some,tE,qP]
noncomputable def zm5:List Tok:=lxC ((Ps.lst znG).length+1) (Ps.lst znG) (1,1)
theorem zpu:(decide (znG.size<=65536)&&zm5.any (λt=>decide (t.k=5)))=true:=by kernel_rfl
theorem zjJ{s:Str}(hz:s.size<=65536)(h: ∃t∈lxC ((Ps.lst s).length+1) (Ps.lst s) (1,1),t.k=5):vL s=(lxC ((Ps.lst s).length+1) (Ps.lst s) (1,1),(0,0),0):=by
 unfold vL;rw[ur ua];exact zm4 _ _ _ [] h
theorem zpv:zf Tryz.prog 62 [Sr znG] [] (.tup [pS (zmS zm5),zr [ki 0,ki 0],I 0]) []:=by
 have h:=zpu;unfold zm5 at h⊢;generalize znG=s at h⊢;rw[um,List.any_eq_true]at h;have J:=uj h.1;have hT:=zjJ J (by obtain⟨t,U,h2⟩:=h.2;exact⟨t,U,uj h2⟩);have:=zfP s ua;rwa [hT]at this
noncomputable def rdX(i:Nat):RL:=[(0,.box [.p (zmS zm5),.p (ki i),.p (.k (.bool false))])]
abbrev rdA:List S:=[.one (.bx 0 0)]
def xN(s:Str):Ex:= .mk 4 0 s []
def xI(n:Int):Ex:= .mk 1 n (⟨#[]⟩:UB) []
def xO:Ex:= .mk 3 0 (⟨#[]⟩:UB) []
def xF(x:Ex)(s:Str):Ex:= .mk 5 0 s [x]
def xC(s:Str)(l:List Ex):Ex:= .mk 7 0 s l
def x1(o:Int)(x:Ex):Ex:= .mk o 0 (⟨#[]⟩:UB) [x]
def x2(o:Int)(x y:Ex):Ex:= .mk o 0 (⟨#[]⟩:UB) [x,y]
def zxC:PV:= .sl 1 [[.sl 2 [[ks (⟨#[111,114]⟩:UB),ki 20]]],[.sl 2 [[ks (⟨#[97,110,100]⟩:UB),ki 19]]],[.sl 2 []],[.sl 2 [[ks ⟨#[61,61]⟩,ki 14],[ks ⟨#[33,61]⟩,ki 15],[ks ⟨#[60,61]⟩,ki 17],[ks ⟨#[60]⟩,ki 16]]],[.sl 2 [[ks ⟨#[43]⟩,ki 9],[ks ⟨#[45]⟩,ki 10]]],[.sl 2 [[ks ⟨#[42]⟩,ki 11],[ks ⟨#[47]⟩,ki 12],[ks ⟨#[37]⟩,ki 13]]]]
def zel:List Ent:=[⟨254,[],[],pS zxC,[]⟩]
theorem zsX:(evalF T (knX [] trivial) 999 1 254 [] []).map (λq=>(leS q.1 (pS zxC),q.2))=some (true,[]):=by kernel_rfl
theorem yN:zmP Tryz.prog zel:=⟨xo zsX,uh⟩
def s0_:UB:=⟨#[113]⟩
def s1_:UB:=⟨#[107]⟩
def s2_:UB:=⟨#[]⟩
def s3_:UB:=⟨#[78]⟩
def s4_:UB:=⟨#[105,110,116]⟩
def s5_:UB:=⟨#[112]⟩
def s6_:UB:=⟨#[110]⟩
def s7_:UB:=⟨#[114]⟩
def s8_:UB:=⟨#[118]⟩
def s9_:UB:=⟨#[105]⟩
def s10_:UB:=⟨#[99]⟩
def s11_:UB:=⟨#[98,101,102,111,114,101]⟩
def s12_:UB:=⟨#[97,102,116,101,114]⟩
def s13_:UB:=⟨#[120]⟩
def s14_:UB:=⟨#[108,101,110,103,116,104]⟩
def s15_:UB:=⟨#[116,104,105,115]⟩
def s16_:UB:=⟨#[112,117,116]⟩
def s17_:UB:=⟨#[109,97,107,101]⟩
def s18_:UB:=⟨#[103,101,116]⟩
def s19_:UB:=⟨#[114,101,109,111,118,101]⟩
def s20_:UB:=⟨#[115,105,122,101]⟩
def p0:Pr:=⟨s11_,[⟨s1_,s4_⟩],s3_,[⟨s5_,s3_⟩,⟨s0_,s3_⟩],[.mk 1 s0_ [(xN s7_)] [] [],.mk 4 s2_ [(x2 19 (x2 15 (xN s0_) xO) (x2 16 (xF (xN s0_) s1_) (xN s1_)))] [.mk 1 s5_ [(xN s0_)] [] [],.mk 1 s0_ [(xF (xN s0_) s6_)] [] []] [],.mk 5 s2_ [(xN s5_)] [] []]⟩
theorem c0:(evalF T (knX zel yN) 9999 40 104 rdA (rdX 22)).map (λq=>(leS q.1 (zr (zJ p0)),q.2))=some (true,rdX 67):=by kernel_rfl
def p1:Pr:=⟨s12_,[⟨s5_,s3_⟩],s3_,[],[.mk 5 s2_ [(.mk 21 0 s2_ [(x2 14 (xN s5_) xO),(xN s7_),(xF (xN s5_) s6_)])] [] []]⟩
theorem c1:(evalF T (knX zel yN) 9999 40 104 rdA (rdX 68)).map (λq=>(leS q.1 (zr (zJ p1)),q.2))=some (true,rdX 90):=by kernel_rfl
def p2:Pr:=⟨s16_,[⟨s1_,s4_⟩,⟨s8_,s4_⟩],s4_,[⟨s5_,s3_⟩,⟨s0_,s3_⟩],[.mk 1 s5_ [(xC s11_ [(xN s1_)])] [] [],.mk 1 s0_ [(xC s12_ [(xN s5_)])] [] [],.mk 3 s2_ [(x2 19 (x2 15 (xN s0_) xO) (x2 14 (xF (xN s0_) s1_) (xN s1_)))] [.mk 2 s8_ [(xN s0_),(xN s8_)] [] [],.mk 5 s2_ [(xI 1)] [] []] [],.mk 1 s0_ [(xC s17_ [(xN s1_),(xN s8_),(xN s0_)])] [] [],.mk 3 s2_ [(x2 14 (xN s5_) xO)] [.mk 1 s7_ [(xN s0_)] [] []] [.mk 2 s6_ [(xN s5_),(xN s0_)] [] []],.mk 1 s10_ [(x2 9 (xN s10_) (xI 1))] [] [],.mk 5 s2_ [(xI 0)] [] []]⟩
theorem c2:(evalF T (knX zel yN) 9999 40 104 rdA (rdX 91)).map (λq=>(leS q.1 (zr (zJ p2)),q.2))=some (true,rdX 184):=by kernel_rfl
def p3:Pr:=⟨s17_,[⟨s1_,s4_⟩,⟨s8_,s4_⟩,⟨s6_,s3_⟩],s3_,[⟨s13_,s3_⟩],[.mk 1 s13_ [(.mk 6 0 s3_ [])] [] [],.mk 2 s1_ [(xN s13_),(xN s1_)] [] [],.mk 2 s8_ [(xN s13_),(xN s8_)] [] [],.mk 2 s6_ [(xN s13_),(xN s6_)] [] [],.mk 5 s2_ [(xN s13_)] [] []]⟩
theorem c3:(evalF T (knX zel yN) 9999 40 104 rdA (rdX 185)).map (λq=>(leS q.1 (zr (zJ p3)),q.2))=some (true,rdX 229):=by kernel_rfl
def p4:Pr:=⟨s18_,[⟨s1_,s4_⟩],s4_,[⟨s0_,s3_⟩],[.mk 1 s0_ [(xC s12_ [(xC s11_ [(xN s1_)])])] [] [],.mk 3 s2_ [(x2 19 (x2 15 (xN s0_) xO) (x2 14 (xF (xN s0_) s1_) (xN s1_)))] [.mk 5 s2_ [(xF (xN s0_) s8_)] [] []] [],.mk 5 s2_ [(x1 8 (xI 1099511627776))] [] []]⟩
theorem c4:(evalF T (knX zel yN) 9999 40 104 rdA (rdX 230)).map (λq=>(leS q.1 (zr (zJ p4)),q.2))=some (true,rdX 273):=by kernel_rfl
def p5:Pr:=⟨s19_,[⟨s1_,s4_⟩],s4_,[⟨s5_,s3_⟩,⟨s0_,s3_⟩],[.mk 1 s5_ [(xC s11_ [(xN s1_)])] [] [],.mk 1 s0_ [(xC s12_ [(xN s5_)])] [] [],.mk 3 s2_ [(x2 20 (x2 14 (xN s0_) xO) (x2 15 (xF (xN s0_) s1_) (xN s1_)))] [.mk 5 s2_ [(x1 8 (xI 1099511627776))] [] []] [],.mk 3 s2_ [(x2 14 (xN s5_) xO)] [.mk 1 s7_ [(xF (xN s0_) s6_)] [] []] [.mk 2 s6_ [(xN s5_),(xF (xN s0_) s6_)] [] []],.mk 1 s10_ [(x2 10 (xN s10_) (xI 1))] [] [],.mk 5 s2_ [(xF (xN s0_) s8_)] [] []]⟩
theorem c5:(evalF T (knX zel yN) 9999 40 104 rdA (rdX 274)).map (λq=>(leS q.1 (zr (zJ p5)),q.2))=some (true,rdX 354):=by kernel_rfl
def p6:Pr:=⟨(⟨#[102,108,111,111,114]⟩:UB),[⟨s1_,s4_⟩],s4_,[⟨s5_,s3_⟩,⟨s0_,s3_⟩],[.mk 1 s5_ [(xC s11_ [(xN s1_)])] [] [],.mk 1 s0_ [(xC s12_ [(xN s5_)])] [] [],.mk 3 s2_ [(x2 19 (x2 15 (xN s0_) xO) (x2 14 (xF (xN s0_) s1_) (xN s1_)))] [.mk 5 s2_ [(xN s1_)] [] []] [],.mk 5 s2_ [(.mk 21 0 s2_ [(x2 14 (xN s5_) xO),(x1 8 (xI 1099511627776)),(xF (xN s5_) s1_)])] [] []]⟩
theorem c6:(evalF T (knX zel yN) 9999 40 104 rdA (rdX 355)).map (λq=>(leS q.1 (zr (zJ p6)),q.2))=some (true,rdX 415):=by kernel_rfl
def p7:Pr:=⟨(⟨#[99,101,105,108,105,110,103]⟩:UB),[⟨s1_,s4_⟩],s4_,[⟨s0_,s3_⟩],[.mk 1 s0_ [(xC s12_ [(xC s11_ [(xN s1_)])])] [] [],.mk 5 s2_ [(.mk 21 0 s2_ [(x2 14 (xN s0_) xO),(x1 8 (xI 1099511627776)),(xF (xN s0_) s1_)])] [] []]⟩
theorem c7:(evalF T (knX zel yN) 9999 40 104 rdA (rdX 416)).map (λq=>(leS q.1 (zr (zJ p7)),q.2))=some (true,rdX 453):=by kernel_rfl
def p8:Pr:=⟨(⟨#[114,97,110,107]⟩:UB),[⟨s1_,s4_⟩],s4_,[⟨s0_,s3_⟩,⟨s9_,s4_⟩],[.mk 1 s0_ [(xN s7_)] [] [],.mk 4 s2_ [(x2 19 (x2 15 (xN s0_) xO) (x2 16 (xF (xN s0_) s1_) (xN s1_)))] [.mk 1 s9_ [(x2 9 (xN s9_) (xI 1))] [] [],.mk 1 s0_ [(xF (xN s0_) s6_)] [] []] [],.mk 5 s2_ [(xN s9_)] [] []]⟩
theorem c8:(evalF T (knX zel yN) 9999 40 104 rdA (rdX 454)).map (λq=>(leS q.1 (zr (zJ p8)),q.2))=some (true,rdX 501):=by kernel_rfl
def p9:Pr:=⟨(⟨#[115,101,108,101,99,116]⟩:UB),[⟨s9_,s4_⟩],s4_,[⟨s0_,s3_⟩],[.mk 3 s2_ [(x2 20 (x2 16 (xN s9_) (xI 0)) (x2 17 (xN s10_) (xN s9_)))] [.mk 5 s2_ [(x1 8 (xI 1099511627776))] [] []] [],.mk 1 s0_ [(xN s7_)] [] [],.mk 4 s2_ [(x2 16 (xI 0) (xN s9_))] [.mk 1 s0_ [(xF (xN s0_) s6_)] [] [],.mk 1 s9_ [(x2 10 (xN s9_) (xI 1))] [] []] [],.mk 5 s2_ [(xF (xN s0_) s1_)] [] []]⟩
theorem c9:(evalF T (knX zel yN) 9999 40 104 rdA (rdX 502)).map (λq=>(leS q.1 (zr (zJ p9)),q.2))=some (true,rdX 555):=by kernel_rfl
def p10:Pr:=⟨s20_,[],s4_,[],[.mk 5 s2_ [(xN s10_)] [] []]⟩
theorem c10:(evalF T (knX zel yN) 9999 40 104 rdA (rdX 556)).map (λq=>(leS q.1 (zr (zJ p10)),q.2))=some (true,rdX 565):=by kernel_rfl
def m11:Ms:=⟨s14_,s3_,0,(x2 9 (xI 1) (xC s14_ [(xF (xN s15_) s6_)]))⟩
theorem c11:(evalF T (knX zel yN) 9999 40 105 rdA (rdX 566)).map (λq=>(leS q.1 (zr (yI m11)),q.2))=some (true,rdX 581):=by kernel_rfl
def x12:Ex:=(x2 20 (x2 14 (xF (xN s15_) s6_) xO) (x2 16 (xF (xN s15_) s1_) (xF (xF (xN s15_) s6_) s1_)))
theorem c12:(evalF T (knX zel yN) 9999 40 106 rdA (rdX 586)).map (λq=>(leS q.1 (zr (xt x12)),q.2))=some (true,rdX 602):=by kernel_rfl
def x13:Ex:=(x2 14 (xN s10_) (xC s14_ [(xN s7_)]))
theorem c13:(evalF T (knX zel yN) 9999 40 106 rdA (rdX 604)).map (λq=>(leS q.1 (zr (xt x13)),q.2))=some (true,rdX 611):=by kernel_rfl
def x14:Ex:=(x2 9 (x2 11 (xI 2) (xC s14_ [(xN s7_)])) (xI 10))
theorem c14:(evalF T (knX zel yN) 9999 40 106 rdA (rdX 613)).map (λq=>(leS q.1 (zr (xt x14)),q.2))=some (true,rdX 622):=by kernel_rfl
def x15:Ex:=(x2 9 (x2 11 (xI 2) (xC s14_ [(xN s7_)])) (xI 4))
theorem c15:(evalF T (knX zel yN) 9999 40 106 rdA (rdX 624)).map (λq=>(leS q.1 (zr (xt x15)),q.2))=some (true,rdX 633):=by kernel_rfl
def x16:Ex:=(x2 9 (x2 11 (xI 2) (xC s14_ [(xN s7_)])) (xI 6))
theorem c16:(evalF T (knX zel yN) 9999 40 106 rdA (rdX 635)).map (λq=>(leS q.1 (zr (xt x16)),q.2))=some (true,rdX 644):=by kernel_rfl
def x17:Ex:=(xI 0)
theorem c17:(evalF T (knX zel yN) 9999 40 106 rdA (rdX 646)).map (λq=>(leS q.1 (zr (xt x17)),q.2))=some (true,rdX 648):=by kernel_rfl
def zsY:zg:=⟨(⟨#[108,105,115,116]⟩:UB),[⟨s3_,[⟨s1_,s4_⟩,⟨s8_,s4_⟩,⟨s6_,s3_⟩]⟩],[⟨s7_,s3_⟩,⟨s10_,s4_⟩],[p0,p1,p2,p3,p4,p5,p6,p7,p8,p9,p10],[m11],[⟨(⟨#[115,111,114,116,101,100]⟩:UB),s3_,x12⟩,⟨(⟨#[99,111,117,110,116,101,100]⟩:UB),s2_,x13⟩],[],[⟨s16_,x14⟩,⟨s18_,x15⟩,⟨s19_,x16⟩,⟨s20_,x17⟩]⟩
theorem zm6:yl zsY=true:=by kernel_rfl
noncomputable def zxD:List Ent:=[⟨62,[Sr znG],[],.tup [pS (zmS zm5),zr [ki 0,ki 0],I 0],[]⟩,⟨67,[zr (zA zsY)],[],Bo true,[]⟩,⟨104,rdA,rdX 22,zr (zJ p0),rdX 67⟩,⟨104,rdA,rdX 68,zr (zJ p1),rdX 90⟩,⟨104,rdA,rdX 91,zr (zJ p2),rdX 184⟩,⟨104,rdA,rdX 185,zr (zJ p3),rdX 229⟩,⟨104,rdA,rdX 230,zr (zJ p4),rdX 273⟩,⟨104,rdA,rdX 274,zr (zJ p5),rdX 354⟩,⟨104,rdA,rdX 355,zr (zJ p6),rdX 415⟩,⟨104,rdA,rdX 416,zr (zJ p7),rdX 453⟩,⟨104,rdA,rdX 454,zr (zJ p8),rdX 501⟩,⟨104,rdA,rdX 502,zr (zJ p9),rdX 555⟩,⟨104,rdA,rdX 556,zr (zJ p10),rdX 565⟩,⟨105,rdA,rdX 566,zr (yI m11),rdX 581⟩,⟨106,rdA,rdX 586,zr (xt x12),rdX 602⟩,⟨106,rdA,rdX 604,zr (xt x13),rdX 611⟩,⟨106,rdA,rdX 613,zr (xt x14),rdX 622⟩,⟨106,rdA,rdX 624,zr (xt x15),rdX 633⟩,⟨106,rdA,rdX 635,zr (xt x16),rdX 644⟩,⟨106,rdA,rdX 646,zr (xt x17),rdX 648⟩]
theorem zsZ:zmP Tryz.prog zxD:=⟨zpv,zpk (wM zsY) (.bq zm6),xo c0,xo c1,xo c2,xo c3,xo c4,xo c5,xo c6,xo c7,xo c8,xo c9,xo c10,xo c11,xo c12,xo c13,xo c14,xo c15,xo c16,xo c17,uh⟩
theorem zm7:(evalF T (knX zxD zsZ) 9999 40 44 [Sr znG] []).map (λq=>(leS q.1 (.tup [zr (zA zsY),zr [ki 0,ki 0],I 0]),q.2))=some (true,[]):=by kernel_rfl
theorem zho:zf Tryz.prog 44 [Sr znG] [] (.tup [zr (zA zsY),zr [ki 0,ki 0],I 0]) []:=xo zm7
def awX(d:zg):Option (List EnT×Option Hp×Int)->Bool
 |some (xs,some n,e)=>decide (e=0)&&decide (xs.length=3)&&(match xs[2]? with
  |some x=>decide (x.ac=6)&&decide (x.be=0)&&decide (x.af=0)&&decide (x.bo=8)
  |none=>false)&&zZ d n&&decide ((zvw xs).1= -1)&&decide ((zvw xs).2=0)
 |_=>false
def awP(d:zg):Bool:=wS d (zn0 d)&&awX d (zcE d (zn0 d) 200 awC 100)
theorem zs0:awP zsY=true:=by kernel_rfl
theorem zvy: ∃d:zg,zf Tryz.prog 21 [Sr (⟨#[108,105,115,116]⟩:UB)] [] (.tup [zr (zA d),I 0]) []/\awP d=true:=by
 have U:=zps (⟨#[108,105,115,116]⟩:UB);rw[zpt,uw rfl]at U;have J:=zho;have h3:=zs0;have hz:znG=((zsW (⟨#[108,105,115,116]⟩:UB)).getD noS).2.1:=by unfold znG;rfl
 rw[hz]at J;clear hz;generalize (zsW (⟨#[108,105,115,116]⟩:UB)).getD noS=q at U J;generalize zsY=d at J h3;obtain⟨q1,q2,q3⟩:=q;simp only at J;refine⟨d,?_,h3⟩;clear h3;refine gO T Tryz.func21 λC hC=>?_
 repeat' first|refine gG ?_|exact gD|refine gB ?_ ?_<;>intro h|refine gC U ?_|refine gC J ?_
 exact gF
theorem zbC:zf Tryz.prog 6 [] [] (Bo true) []:=by
 obtain⟨d,hL,ha⟩:=zvy;unfold awP at ha;rw[um]at ha;obtain⟨h1,h2⟩:=ha;obtain⟨hcw,J⟩:=vG h1;have hN:=zjk d
 have ht:yj d=true:=by
  simp only[zZ,um]at J;exact J.1.1.1.1.1
 unfold zhU at hN;rw[uw ht]at hN;clear ht J hcw h1;generalize zn0 d=m at hN h2;cases hA:zcE d m 200 awC 100 with
 |none=>rw[hA]at h2;cases h2
 |some q=>
  obtain⟨xs,om,e⟩:=q;rw[hA]at h2;have hAu:=vH hA;cases om with
  |none=>cases h2
  |some n=>
   simp only[awX,um,uq]at h2;obtain⟨⟨⟨⟨⟨rfl,U⟩,hx⟩,hvn⟩,hf1⟩,hf2⟩:=h2;cases hx2:xs[2]? with
   |none=>rw[hx2]at hx;cases hx
   |some x=>
    rw[hx2]at hx;simp only[um,uq]at hx;obtain⟨ac,be,af,bo⟩:=x;obtain⟨⟨⟨h5,h6⟩,h7⟩,h8⟩:=hx;simp only at h5 h6 h7 h8;subst h5 h6 h7 h8;have hF:=zmR xs;rw[hf1,hf2]at hF;have hV:=yW d n;rw[hvn]at hV;clear hA hf1 hf2 hvn;have hl3:((xs.map enR).length:Int)=3:=by rw[uk,U];rfl
    have hat:(xs.map enR)[(2:Int).toNat]?=some (enR ⟨6,0,0,8⟩):=zq (i:=2) hx2;refine gO T Tryz.func6 λC hC=>?_
    repeat' first|refine gG ?_|exact gD|(exfalso;rw[hl3]at h;simp at h;done)|refine gB ?_ ?_<;>intro h|refine gC hL ?_|refine gC hN ?_|refine gT ?_|refine gC hAu ?_|refine gC hF ?_|refine gC hV ?_|(refine gI T hat ?_)|(refine zwd hC [.i .i64,.i .i64,.i .i64,.i .i64] [.i .i64 6,.i .i64 0,.i .i64 0,.i .i64 8] [.i .i64 6,.i .i64 0,.i .i64 0,.i .i64 8] rfl rfl ud ud rfl rfl ud rfl rfl ?_)|refine gQ ?_|refine gL ?_
    all_goals first
     |exact zi ⟨.inl rfl,id,_,rfl,LeS.bq ub,trivial,rfl,rfl⟩
     |exact gD
     |(exfalso;rw[hl3]at h;simp at h;done)
theorem zhp(d:zg)(m:Hp)(l:List Cl)(fuel c:Int)(h: ¬(zql d m=true/\l.length<=8/\zbc l 8=true/\0<=fuel/\fuel<=1000)):
 zf Tryz.prog 3 [zr (zA d),zr (yS m),pS (vS l),I fuel,.one (.p (.k (.int .u8 c)))] [] (.bq true) []:=by
 have U:=zbC;have J:=zit d m;have hL:=zby l 8;cases h1:zql d m with
 |false=>
  rw[h1]at J;refine gO T Tryz.func3 λC hC=>?_
  repeat' first|refine gG ?_|exact gD|refine gB ?_ ?_<;>intro h|refine gC U ?_|refine gC J ?_
  all_goals exact zi ⟨.inl rfl,id,_,rfl,LeS.qb rfl,trivial,rfl,rfl⟩
 |true=>
  rw[h1]at J;by_cases h2:8<l.length
  ·refine gO T Tryz.func3 λC hC=>?_
   repeat' first|refine gG ?_|exact gD|(exfalso;simp only[uq,uu,uk]at h;omega)|refine gB ?_ ?_<;>intro h|refine gC U ?_|refine gC J ?_
   all_goals exact zi ⟨.inl rfl,id,_,rfl,LeS.qb rfl,trivial,rfl,rfl⟩
  cases h3:zbc l 8 with
  |false=>
   rw[h3]at hL;refine gO T Tryz.func3 λC hC=>?_
   repeat' first|refine gG ?_|exact gD|(exfalso;simp only[uq,uu,uk]at h;omega)|refine gB ?_ ?_<;>intro h|refine gC U ?_|refine gC J ?_|refine gC hL ?_
   all_goals exact zi ⟨.inl rfl,id,_,rfl,LeS.qb rfl,trivial,rfl,rfl⟩
  |true=>
   rw[h3]at hL
   have h4:fuel<0\/1000<fuel:=by
    by_cases q:fuel<0\/1000<fuel
    ·exact q
    ·exact absurd ⟨h1,ua,h3,ua,ua⟩ h
   refine gO T Tryz.func3 λC hC=>?_
   repeat' first|refine gG ?_|exact gD|(exfalso;simp only[uq,uu,uk]at h;omega)|refine gB ?_ ?_<;>intro h|refine gC U ?_|refine gC J ?_|refine gC hL ?_
   all_goals first
    |exact zi ⟨.inl rfl,id,_,rfl,LeS.qb rfl,trivial,rfl,rfl⟩
    |(exfalso;simp only[uq,uu,uk]at *; omega)
variable {K g:Nat}
theorem zs1(d:zg)(m p:Hp)(l:List Cl)(fuel c:Int)(h0:0<=c)(h1:c<=255)(hg:zql d m=true/\l.length<=8/\zbc l 8=true/\0<=fuel/\fuel<=1000)(hK:K<=l.length)(J:IntKind.i64.wrap (((l.map yy).length:Int)+1)≠0)
 (hk:(IntKind.i64.wrap c).tmod (IntKind.i64.wrap (((l.map yy).length:Int)+1))=(K:Int)) {a:List EnT} {e:Int} (he: ¬e=0) (hx:zcE d m g l fuel=some ([],none,e)) (ha:zcE d m g (l.take K) fuel=some (a,some p,0)) (hb:zcE d p g (l.drop K) fuel=some ([],none,e)):
 zf Tryz.prog 3 [zr (zA d),zr (yS m),pS (vS l),I fuel,.one (.p (.k (.int .u8 c)))] [] (.bq true) []:=by
 obtain⟨g1,g2,g3,g4,g5⟩:=hg;have hW:=zbC;have U:=zit d m;have hL:=zby l 8;rw[g1]at U;rw[g3]at hL;have hA:=vH hx;have hB:=vH ha;have hD:=vH hb;refine gO T Tryz.func3 λC hC=>?_
 repeat' first|refine gG ?_|exact gD|(exfalso;simp only[uq,uu,uk]at h;omega)|(exfalso;simp[he]at h;done)|refine gB ?_ ?_<;>intro h|refine gC hW ?_|refine gC U ?_|refine gC hL ?_|refine gC hA ?_|refine gC hB ?_|refine gC hD ?_|(refine zfY hC rfl rfl J rfl rfl ?_;rw[hk])|(refine jM T hC ((l.take K).map yy) rfl rfl rfl (uD _) (by rw[uk];omega) (by rw[u7,qo]) rfl rfl ?_)|(refine zfZ T hC ((l.drop K).map yy) rfl rfl rfl (uD _) (by rw[uk];omega) (by rw[u7,oU]) rfl rfl ?_)
 all_goals exact zi ⟨.inl rfl,id,_,rfl,LeS.qq ue,trivial,rfl,rfl⟩
theorem zm8{f:Hp->Cl->Option (EnT×Option Hp×Int)}: ∀ {l:List Cl} {m:Hp} {q:List EnT×Option Hp×Int},audF f l m=some q->q.1.length<=l.length
 | [],m,q,h=>by simp only[audF,ui]at h;subst h;exact uJ _
 |c::l,m,q,h=>by
  rw[zaB]at h;cases hf:f m c with
  |none=>rw[hf]at h;cases h
  |some w=>
   obtain⟨x,om,e⟩:=w;rw[hf]at h;cases om with
   |none=>simp only[ui]at h;subst h;simp
   |some m2=>
    simp only at h;by_cases J: ¬e=0
    ·rw[uw J]at h;simp only[ui]at h;subst h;simp
    ·rw[ur J]at h;cases hl:audF f l m2 with
     |none=>rw[hl]at h;cases h
     |some q2=>
      rw[hl]at h;have:=zm8 hl;simp only[uH,ui]at h;split at h
      ·subst h;simp only[uW];omega
      ·subst h;simp only[uW];omega
theorem zs2(d:zg)(m p n:Hp)(l:List Cl)(fuel c:Int)(h0:0<=c)(h1:c<=255)(hg:zql d m=true/\l.length<=8/\zbc l 8=true/\0<=fuel/\fuel<=1000)(hK:K<=l.length)(hne:IntKind.i64.wrap (((l.map yy).length:Int)+1)≠0)
 (hk:(IntKind.i64.wrap c).tmod (IntKind.i64.wrap (((l.map yy).length:Int)+1))=(K:Int)) (hok:wS d m=true) (hokn:wS d n=true) {a b:List EnT} (hla:a.length<=500000) (hlb:b.length<=500000)
 (hx:zcE d m g l fuel=some (a++b,some n,0)) (ha:zcE d m g (l.take K) fuel=some (a,some p,0)) (hb:zcE d p g (l.drop K) fuel=some (b,some n,0))
 {v1 e1 v2 e2:Int} (hp1:ptE d m g=some (v1,e1)) (hp2:ptE d n g=some (v2,e2))
 (hxx:a++b=[]\/ ∃y z,(a++b)[0]?=some y/\(a++b)[(a++b).length - 1]?=some z/\e1=0/\e2=0/\v1=y.be/\v2=z.af):
 zf Tryz.prog 3 [zr (zA d),zr (yS m),pS (vS l),I fuel,.one (.p (.k (.int .u8 c)))] [] (.bq true) []:=by
 obtain⟨g1,g2,g3,g4,g5⟩:=hg;have hW:=zbC;have hF:=zit d m;have hL:=zby l 8;rw[g1]at hF;rw[g3]at hL;have hA:=vH hx;have hB:=vH ha;have hD:=vH hb;have hP:=zaz hok hp1;have hQ:=zaz hokn hp2;have U:=zfy a b hla hlb;have J:=zsx (a++b) (a++b);have hMq:=znZ n n;rw[uT rfl]at J hMq;rcases hxx with he|⟨y,z,q1,q2,rfl,rfl,rfl,rfl⟩
 ·generalize a++b=x at he hA U J;subst he;refine gO T Tryz.func3 λC hC=>?_
  repeat' first|refine gG ?_|exact gD|(exfalso;simp only[uq,uu,uk]at h;omega)|exact gD|refine gB ?_ ?_<;>intro h|refine gC hW ?_|refine gC hF ?_|refine gC hL ?_|refine gC hA ?_|refine gC hB ?_|refine gC hD ?_|refine gC hP ?_|refine gC hQ ?_|refine gT ?_|refine gC U ?_|refine gC J ?_|refine gC hMq ?_|(refine zfY hC rfl rfl hne rfl rfl ?_;rw[hk])|(refine jM T hC ((l.take K).map yy) rfl rfl rfl (uD _) (by rw[uk];omega) (by rw[u7,qo]) rfl rfl ?_)|(refine zfZ T hC ((l.drop K).map yy) rfl rfl rfl (uD _) (by rw[uk];omega) (by rw[u7,oU]) rfl rfl ?_)
  all_goals exact zi ⟨.inl rfl,id,_,rfl,LeS.qb rfl,trivial,rfl,rfl⟩
 ·have hxl:0<(a++b).length:=(ux.1 q1).1;have hxb:(a++b).length<=1000000:=by rw[uP];omega
  generalize a++b=x at q1 q2 hA U J hxl hxb;have hwl:IntKind.i64.wrap (((x.map enR).length:Int) - 1)=((x.length - 1:Nat):Int):=by rw[uk,wrap64 ua];omega
  have hat:(x.map enR)[(0:Int).toNat]?=some (enR y):=by rw[show(0:Int).toNat=0 from rfl,uK,q1];rfl
  have hat2:(x.map enR)[((x.length - 1:Nat):Int).toNat]?=some (enR z):=by rw[u7,uK,q2];rfl
  refine gO T Tryz.func3 λC hC=>?_
  repeat' first|refine gG ?_|exact gD|(exfalso;simp only[uq,uu,uk]at h;omega)|exact gD|refine gB ?_ ?_<;>intro h|refine gC hW ?_|refine gC hF ?_|refine gC hL ?_|refine gC hA ?_|refine gC hB ?_|refine gC hD ?_|refine gC hP ?_|refine gC hQ ?_|refine gT ?_|refine gC U ?_|refine gC J ?_|refine gC hMq ?_|(refine zfY hC rfl rfl hne rfl rfl ?_;rw[hk])|(refine jM T hC ((l.take K).map yy) rfl rfl rfl (uD _) (by rw[uk];omega) (by rw[u7,qo]) rfl rfl ?_)|(refine zfZ T hC ((l.drop K).map yy) rfl rfl rfl (uD _) (by rw[uk];omega) (by rw[u7,oU]) rfl rfl ?_)|(refine gI T hat ?_)|(rw[hwl];refine gI T hat2 ?_)
  all_goals exact zi ⟨.inl rfl,id,_,rfl,LeS.qq ue,trivial,rfl,rfl⟩
theorem zvz{l:List Cl}{c:Int}(J:0<=c)(h1:c<=255)(hl:l.length<=8): ∃K:Nat,K<=l.length/\IntKind.i64.wrap (((l.map yy).length:Int)+1)≠0/\(IntKind.i64.wrap c).tmod (IntKind.i64.wrap (((l.map yy).length:Int)+1))=(K:Int):=by
 rw[uk,show IntKind.i64.wrap ((l.length:Int)+1)=(l.length:Int)+1 from wrap64 ua,show IntKind.i64.wrap c=c from wrap64 ua];refine⟨(c.tmod (l.length+1)).toNat,?_,ua,?_⟩
 ·have h2:=Int.tmod_lt_of_pos c (show 0<(l.length:Int)+1 by omega);omega
 ·have h2:=Int.tmod_nonneg ((l.length:Int)+1) J;omega
theorem zm9(d:zg)(m:Hp)(l:List Cl)(fuel c:Int)(h0:0<=c)(h1:c<=255)(hg:zql d m=true/\l.length<=8/\zbc l 8=true/\0<=fuel/\fuel<=1000)(hK:K<=l.length)(J:IntKind.i64.wrap (((l.map yy).length:Int)+1)≠0)
 (hk:(IntKind.i64.wrap c).tmod (IntKind.i64.wrap (((l.map yy).length:Int)+1))=(K:Int)) {f:Int} (hf: ¬f=0) (hx:zcE d m g l fuel=some ([],none,f)) (ha:zcE d m g (l.take K) fuel=some ([],none,f)):
 zf Tryz.prog 3 [zr (zA d),zr (yS m),pS (vS l),I fuel,.one (.p (.k (.int .u8 c)))] [] (.bq true) []:=by
 obtain⟨g1,g2,g3,g4,g5⟩:=hg;have hW:=zbC;have U:=zit d m;have hL:=zby l 8;rw[g1]at U;rw[g3]at hL;have hA:=vH hx;have hB:=vH ha;refine gO T Tryz.func3 λC hC=>?_
 repeat' first|refine gG ?_|exact gD|(exfalso;simp only[uq,uu,uk]at h;omega)|(exfalso;simp[hf]at h;done)|refine gB ?_ ?_<;>intro h|refine gC hW ?_|refine gC U ?_|refine gC hL ?_|refine gC hA ?_|refine gC hB ?_|(refine zfY hC rfl rfl J rfl rfl ?_;rw[hk])|(refine jM T hC ((l.take K).map yy) rfl rfl rfl (uD _) (by rw[uk];omega) (by rw[u7,qo]) rfl rfl ?_)
 all_goals exact zi ⟨.inl rfl,id,_,rfl,LeS.qq ue,trivial,rfl,rfl⟩
theorem zaH(d:zg)(m:Hp)(l:List Cl)(fuel c:Int)(h0:0<=c)(h1:c<=255):
 zf Tryz.prog 3 [zr (zA d),zr (yS m),pS (vS l),I fuel,.one (.p (.k (.int .u8 c)))] [] (.bq true) []:=by
 by_cases J:zql d m=true/\l.length<=8/\zbc l 8=true/\0<=fuel/\fuel<=1000
 rotate_left
 ·exact zhp d m l fuel c J
 obtain⟨K,hK,U,hk⟩:=zvz h0 h1 J.2.1;cases hok:wS d m with
 |false=>
  have hE: ∀l',zcE d m 0 l' fuel=some ([],none,1):=λl'=>by unfold zcE;rw[uw hok]
  exact zm9 d m l fuel c h0 h1 J hK U hk ub (hE _) (hE _)
 |true=>
  obtain⟨g,x,n,e,a,p,f,hx,ha,hr⟩:=zg8 hok l K (fuel:=fuel) J.2.2.2.1 (by have:=J.2.2.2.2;omega) (by have:=J.2.1;omega);rcases hr with⟨hf,rfl,rfl,rfl,rfl,rfl⟩|⟨rfl,p',b,q,e2,rfl,hp',hb,⟨he,rfl,rfl,rfl,rfl,rfl⟩|⟨rfl,rfl,rfl,n',rfl,rfl,hn',v1,e1,v2,e2',hp1,hp2,hxx⟩⟩
  ·exact zm9 d m l fuel c h0 h1 J hK U hk hf hx ha
  ·exact zs1 d m p' l fuel c h0 h1 J hK U hk he hx ha hb
  ·have hL: ∀(m':Hp) (l':List Cl) xs om,zcE d m' g l' fuel=some (xs,om,0)->xs.length<=l'.length:=λm' l' xs om h=>by
    unfold zcE at h;split at h
    ·simp at h
    ·split at h
     ·simp at h
     ·split at h
      ·simp at h
      ·exact zm8 h
   have hl8:=J.2.1;exact zs2 d m p' n' l fuel c h0 h1 J hK U hk hok hn' (by have:=hL _ _ _ _ ha;rw[tj]at this;omega) (by have:=hL _ _ _ _ hb;rw[tA]at this;omega) hx ha hb hp1 hp2 hxx
end Hw.Gm
