import Derived.Test.YtolghpfockkldaaGreatDoorC6
import Derived.Test.YtolghpfockkldaaGreatDoorC2
import Derived.Test.YtolghpfockkldaaGreatDoorC4
import Derived.Test.YtolghpfockkldaaGreatDoorC3
import Derived.Test.YtolghpfockkldaaGreatDoorC5
import Derived.Test.YtolghpfockkldaaGreatDoorC1
set_option linter.defProp false
set_option linter.unusedVariables false
set_option linter.unusedSimpArgs false
set_option linter.unusedSectionVars false
set_option linter.unnecessarySimpa false
namespace Hw
open Go
def zcD(ms:List Nat)(m i:Nat):Bool:=Nat.beq i m||(Nat.blt m i&&zbf (nth ms i) m)
def vR(P:Program)(all:Array Oper)(st:St)(ms:List Nat)(m:Nat):List Law->Prop
 | []=>True
 |L::l=>vR P all st ms m l/\(zcD ms m l.length=true\/ ∃o,all[l.length]?=some o/\yL P all o L.rs L.rt L.fr L.v L.wt/\L.d=o.dst/\okS L.rs (apps st l)/\okT L.rt (apps st l)/\dok L.d st.n=true)
def checkQ(all:Array Oper)(ms:List Nat)(l:List Law)(m:Nat)(kp:List Nat):Bool:=
 allLt (λj=>match at? l j with
  |some X=>Nat.beq j m||(Nat.blt j m&&zbf (nth ms m) j)||(Nat.blt m j&&zbf (nth ms j) m)|| !anyB (λi=>hasB i kp) (keysT X.wt)
  |none=>false) l.length&&
 allLt (λq=>match all[q+l.length]? with
  |some o'=>anyB (λp=>zcD ms m p) (zS o')
  |none=>true) (all.size - l.length)
theorem zft{p:Nat->Bool}: ∀ {l:List Nat},anyB p l=true-> ∃i∈l,p i=true
 |y::ys,h=>by
  simp only[anyB,uO]at h;rcases h with h|h
  ·simp_all
  ·obtain⟨p,h1,h2⟩:=zft h;grind
variable {C:Ctx}{D:Nat->Bool}{K:Act->World->Prop}{L:Law}{M:Mem}{P:Program}{Q:Exit->Act->World->Prop}{a:Act}{all:Array Oper}{kp:RL}{m:Nat}{o:Oper}{pv:Value}{st:St}{w:World}{ρ:Nat->Value}
section
variable {l:List Law} {ms:List Nat}
theorem vR.of: ∀ {l:List Law},wI P all st l->vR P all st ms m l
 | [],_=>trivial
 |_::_,h=>⟨vR.of h.1,.inr h.2⟩
theorem vR.at: ∀ {l:List Law} {i:Nat} {L:Law},vR P all st ms m l->at? l i=some L->zcD ms m i=true\/
 ∃o,all[i]?=some o/\yL P all o L.rs L.rt L.fr L.v L.wt/\L.d=o.dst/\okS L.rs (apps st (sel (λj=>decide (j<i)) l))/\okT L.rt (apps st (sel (λj=>decide (j<i)) l))/\dok L.d st.n=true
 | [],_,_,_,h=>by cases h
 |X::l,i,L,hd,h=>by
  rw[yg]at h;split at h
  ·rename_i e;simp only[ui]at h;subst h;subst e
   have:sel (λj=>decide (j<l.length)) (X::l)=l:=by
    simp only[sel,uF (oT _)];exact za0 (uJ _)
   rw[this];exact hd.2
  ·have hlt:=xZ h
   have:sel (λj=>decide (j<i)) (X::l)=sel (λj=>decide (j<i)) l:=by
    simp only[sel,uF (show ¬l.length<i by omega)]
   rw[this];exact vR.at hd.1 h
def zlY{i:Nat}(ho:all[i]?=some o)(hL:at? l i=some L)
 (hat: ∃o,all[i]?=some o/\yL P all o L.rs L.rt L.fr L.v L.wt/\L.d=o.dst/\okS L.rs (apps st (sel (λj=>decide (j<i)) l))/\okT L.rt (apps st (sel (λj=>decide (j<i)) l))/\dok L.d st.n=true)
 (hc:wX all ms st l=true) (hD:Down all D) (hn:D i=false) (hp: ∀p∈zS o,D p=true)
 (hC:C.low) (hH:Holds C (apps st (sel D l)) M ρ a w) 
 (hk: ∀a' w' M' ρ',Holds C (apps st (sel (zfV D i) l)) M' ρ' a' w'->K a' w'):if Region.wanted o (yielded all a.tmps)then o.wp P a w K Q else K (a.put o.dst undef) w:=by
 have hi:=xZ hL;obtain⟨o',L',J,hL',_,_,h3,h4⟩:=yC hc hi;rw[ho]at J;simp only[ui]at J;subst J;rw[hL]at hL';simp only[ui]at hL';subst hL';obtain⟨o',J,hstep,hdst,hS,hT,hdk⟩:=hat;rw[ho]at J;simp only[ui]at J;subst J;have ap: ∀j X,at? l j=some X->D j≠decide (j<i)->j≠i->apart X L=true/\apart L X=true:=λj X U hne hji=>jO hc hD hi ho hn hp hL U hne hji
 have eqi: ∀j X,at? l j=some X->(apart X L=true->False)->D j=decide (j<i):=λj X U hno=>by
  by_cases hji:j=i
  ·subst hji;rw[hn];simp
  ·by_cases hne:D j=decide (j<i)
   ·exact hne
   ·exact(hno (ap j X U hne hji).1).elim
 have hS':okS L.rs (apps st (sel D l)):=jD hS λk hk=>j9 λj X U hw=>eqi j X U λh=>by have:=(wY h hw).1;rw[hk]at this;cases this
 have hT':okT L.rt (apps st (sel D l)):=wZ hT λk hk=>vX λj X U hw=>eqi j X U λh=>by have:=(x8 h hw).1;rw[hk]at this;cases this
 have hF':okF C L.fr (apps st (sel D l)):=by
  have one: ∀id∈L.fr,wv C id (apps st (sel D l)):=λid hid=>by
   refine xK (h4 id hid).2 (by
    cases e:tg C.tab0 id with
    |none=>rfl
    |some r=>have:=hC id r e;have:=(h4 id hid).1;omega) λX U=>?_
   obtain⟨j,hj,hX'⟩:=jP U;rcases tu j i with h|h
   ·exact(h3 j X h hX').2 id hid
   ·have hji:j≠i:=λe=>by subst e;rw[hn]at hj;cases hj
    exact zbl (ap j X hX' (by rw[hj,uF ua];simp) hji).1 id hid
  have: ∀fr:List Nat,(∀id∈fr,wv C id (apps st (sel D l)))->okF C fr (apps st (sel D l)):=λfr=>by
   induction fr with
   |nil=>exact λ_=>trivial
   |cons x xs ih=>exact λh=>⟨h x ue,ih λid hid=>h id (u3 _ hid)⟩
  exact this _ one
 refine hstep C _ M ρ a w hH hS' hT' hF' (by rw[wk,<-hdst];exact hdk) K Q λa' w' M' ρ' hH'=>hk a' w' M' ρ' (hH'.ext ?_ ?_ ?_)
 ·rw[wk];simp only[app,wk]
 ·intro k
  have e0:sg (app o.dst L.v L.wt (apps st (sel D l))).sl k=if wr L k=true then some L.v else sg (apps st (sel D l)).sl k:=by
   rw[<-hdst];exact vb st L (sel D l) k
  rw[e0];by_cases hw:wr L k=true
  ·rw[uw hw]
   exact zdo hL (zY D i) hw λj X U hij hDj=>by
    rw[zz ua]at hDj;cases hx:wr X k with
    |false=>rfl
    |true=>
     have:=(wY (ap j X U (by rw[hDj,uF ua];simp) ua).1 hx).2
     simp_all
  ·rw[ur hw]
   exact j9 λj X U hx=>zz λe=>by
    simp_all
 ·intro k;cases hw:wrT L k with
  |true=>
   simp only[app]
   exact zbm hL (zY D i) hw λj X U hij hDj=>by
    rw[zz ua]at hDj;cases hx:wrT X k with
    |false=>rfl
    |true=>
     have:=(x8 (ap j X U (by rw[hDj,uF ua];simp) ua).1 hx).2
     simp_all
  |false=>
   simp only[app];rw[yR hw]
   exact vX λj X U hx=>zz λe=>by
    simp_all
def zlZ(hc:wX all ms st l=true)(hD:Down all D)(hno: ∀k,l.length<=k->D k=false)(hm:D m=false){j:Nat}(hj:D j=true)(hw:zcD ms m j=true):False:=by
 simp only[zcD,uO,um]at hw;rcases hw with hw|⟨h1,h2⟩
 ·simp_all
 ·have J:j<l.length:=by
   rcases tu j l.length with h|h
   ·exact h
   ·rw[hno j h]at hj;cases hj
  obtain⟨oj,_,U,_⟩:=yC hc J;have:=xJ hc hD j J oj U (hD j oj U hj) m (by simpa [tI]using h1) h2
  simp_all
theorem zoW(hc:wX all ms st l=true)(hp:checkQ all ms l m kp.ids=true)(hLm:at? l m=some L)(ho:all[m]?=some o)(hL:zpG P all o L.rs L.rt L.fr pv L.wt)
 (hS:okS L.rs (apps st (sel (λj=>decide (j<m)) l))) (hT:okT L.rt (apps st (sel (λj=>decide (j<m)) l))) (hK:okT kp (apps st (sel (λj=>decide (j<m)) l))) (hC:C.low) (hD:Down all D)
 (hno: ∀k,l.length<=k->D k=false) (hn:D m=false) (hpr: ∀p∈zS o,D p=true)
 (hH:Holds C (apps st (sel D l)) M ρ a w) 
 (hQ: ∀a w M ρ,Holds C ⟨st.n,[],L.wt++tb kp⟩ M ρ a w->Q (.panic (chn pv)) a w):if Region.wanted o (yielded all a.tmps)then o.wp P a w K Q else K (a.put o.dst undef) w:=by
 have hi:=xZ hLm;obtain⟨o',L',ho',hL',_,_,h3,h4⟩:=yC hc hi;rw[ho]at ho';simp only[ui]at ho';subst ho';rw[hLm]at hL';simp only[ui]at hL';subst hL';have ap: ∀j X,at? l j=some X->D j≠decide (j<m)->j≠m->apart X L=true/\apart L X=true:=λj X hX hne J=>jO hc hD hi ho hn hpr hLm hX hne J
 have eqi: ∀j X,at? l j=some X->(apart X L=true->False)->D j=decide (j<m):=λj X hX hno=>by
  by_cases J:j=m
  ·subst J;rw[hn];simp
  ·by_cases hne:D j=decide (j<m)
   ·exact hne
   ·exact(hno (ap j X hX hne J).1).elim
 have hS':okS L.rs (apps st (sel D l)):=jD hS λk hk=>j9 λj X hX hw=>eqi j X hX λh=>by have:=(wY h hw).1;rw[hk]at this;cases this
 have hT':okT L.rt (apps st (sel D l)):=wZ hT λk hk=>vX λj X hX hw=>eqi j X hX λh=>by have:=(x8 h hw).1;rw[hk]at this;cases this
 have hK':okT kp (apps st (sel D l)):=wZ hK λk hk=>vX λj X hX hw=>by
  simp only[checkQ,um]at hp;have:=ym hp.1 j (xZ hX);simp only[hX,uO,um,uy]at this;rcases this with((h|⟨h1,h2⟩)|⟨h1,h2⟩)|h
  ·have:=uA h;subst this;rw[hn];simp
  ·have hlt:j<m:=by simpa [tI]using h1
   rw[uT hlt];exact xJ hc hD m hi o ho hpr j hlt h2
  ·have hlt:m<j:=by simpa [tI]using h1
   rw[uF ua];cases e:D j with
   |false=>rfl
   |true=>exact(zlZ hc hD hno hn e (by simp[zcD,h1,h2])).elim
  ·have:=jq h k hw;rw[hk]at this;cases this
 have hF':okF C L.fr (apps st (sel D l)):=by
  have one: ∀id∈L.fr,wv C id (apps st (sel D l)):=λid U=>by
   refine xK (h4 id U).2 (by
    cases e:tg C.tab0 id with
    |none=>rfl
    |some r=>have:=hC id r e;have:=(h4 id U).1;omega) λX hX=>?_
   obtain⟨j,hj,hX'⟩:=jP hX;rcases tu j m with h|h
   ·exact(h3 j X h hX').2 id U
   ·have J:j≠m:=λe=>by subst e;rw[hn]at hj;cases hj
    exact zbl (ap j X hX' (by rw[hj,uF ua];simp) J).1 id U
  have: ∀fr:List Nat,(∀id∈fr,wv C id (apps st (sel D l)))->okF C fr (apps st (sel D l)):=λfr=>by
   induction fr with
   |nil=>exact λ_=>trivial
   |cons x xs ih=>exact λh=>⟨h x ue,ih λid U=>h id (u3 _ U)⟩
  exact this _ one
 refine hL C _ M ρ a w hH hS' hT' hF' K Q λM' ρ' w' hH'=>hQ a w' M' ρ' (hH'.drop (by rw[wk]) (λk s e=>by cases e) λi r e=>?_)
 cases hk:hasB i (keysT L.wt)with
 |true=>
  have e:tg (L.wt++tb kp) i=some r:=e;show tg (L.wt++(apps st (sel D l)).tab) i=some r;rw[<-e];exact wx hk
 |false=>
  have e:tg (L.wt++tb kp) i=some r:=e;show tg (L.wt++(apps st (sel D l)).tab) i=some r;rw[yR hk]at e⊢;exact xi hK' (zK e)
def zjy{id:Nat}(hmx:P.follows .mixedOrders=true)(hd:vR P all st ms m l)(hc:wX all ms st l=true)(hp:checkQ all ms l m kp.ids=true)(hLm:at? l m=some L)(ho:all[m]?=some o)(hL:zpG P all o L.rs L.rt L.fr pv L.wt)
 (hS:okS L.rs (apps st (sel (λj=>decide (j<m)) l))) (hT:okT L.rt (apps st (sel (λj=>decide (j<m)) l))) (hK:okT kp (apps st (sel (λj=>decide (j<m)) l))) (hC:C.low)
 (hQ: ∀a w M ρ,Holds C ⟨st.n,[],L.wt++tb kp⟩ M ρ a w->Q (.panic (chn pv)) a w)
 (hH:Holds C st M ρ a w):(Code.region id all true).wp P Q a w:=by
 have hsz:m<all.size:=(tz.1 ho).1;have hml:=xZ hLm
 have h5:allLt (λq=>match all[q+l.length]? with
  |some o'=>anyB (λp=>zcD ms m p) (zS o')
  |none=>true) (all.size - l.length)=true:=by
  simp only[checkQ,um]at hp;exact hp.2
 have main: ∀(fuel:Nat) (listed:Array Bool) (M:Mem) (ρ:Nat->Value) (a:Act) (w:World),listed.size=all.size->left (λj=>listed.getD j false) all.size=fuel->Down all (λj=>listed.getD j false)->
  (∀k,l.length<=k->listed.getD k false=false)->listed.getD m false=false->Holds C (apps st (sel (λj=>listed.getD j false) l)) M ρ a w->wpAny P .any all Q fuel listed a w:=by
  intro fuel
  induction fuel with
  |zero=>
   intro listed M ρ a w hs hl hD hno U hH;have:=vY hl m hsz;rw[U]at this;cases this
  |succ fuel ih=>
   intro listed M ρ a w hs hl hD hno U hH;refine⟨λhr=>?_,λi hi=>?_⟩
   ·exfalso
    have fullj: ∀j,j<l.length->listed.getD j false=true:=by
     intro j
     induction j using Nat.strongRecOn with
     |_ j ih=>
      intro hj;cases e:listed.getD j false with
      |true=>rfl
      |false=>
       obtain⟨oj,_,hoj,_,hlt,_⟩:=yC hc (i:=j) hj
       have:j∈Region.ready .any all listed:=mem_ready.2 ⟨by
        have hlt:j<listed.size:=by have:=(tz.1 hoj).1;omega
        simp only[Array.getD,hlt,oB]at e ⊢; exact e,oj,hoj,λe' he hb=>ih e'.on (hlt _ (x9 he hb)) (by have:=hlt _ (x9 he hb);omega)⟩
       rw[hr]at this;cases this
    have:=fullj m hml;rw[U]at this;cases this
   ·obtain⟨h1,oi,J,hall⟩:=mem_ready.1 hi;have hx:i<all.size:=(tz.1 J).1;have hlt:i<listed.size:=by omega
    have hn:listed.getD i false=false:=by simp only[Array.getD,hlt,oB]at h1 ⊢; exact h1
    have hput: ∀j,(listed.setIfInBounds i true).getD j false=zfV (λj=>listed.getD j false) i j:=λj=>by
     by_cases e:j=i
     ·subst e;simp[zY,hlt]
     ·rw[zz e,getD_set_ne false (λh=>e h.symm)]
    have hput':(λj=>(listed.setIfInBounds i true).getD j false)=zfV (λj=>listed.getD j false) i:=funext hput
    have hpr: ∀p∈zS oi,listed.getD p false=true:=λp hp=>by
     obtain⟨e,he,hb,rfl⟩:=zbn hp;exact hall e he hb
    unfold wpOp;simp only[J]
    have key:if Region.wanted oi (yielded all a.tmps)then oi.wp P a w (wpAny P .any all Q fuel (listed.setIfInBounds i true)) Q else wpAny P .any all Q fuel (listed.setIfInBounds i true) (a.put oi.dst undef) w:=by
     by_cases him:i=m
     ·subst him;rw[ho]at J;simp only[ui]at J;subst J;exact zoW hc hp hLm ho hL hS hT hK hC hD hno U hpr hH hQ
     by_cases hil:i<l.length
     ·obtain⟨_,Li,hoi',hLi,_⟩:=yC hc hil;rcases vR.at hd hLi with hw|hat
      ·exfalso;simp only[zcD,uO,um]at hw;rcases hw with hw|⟨h1,h2⟩
       ·exact him (uA hw)
       ·have:=xJ hc hD i hil oi J hpr m (by simpa [tI]using h1) h2;rw[U]at this;cases this
      ·refine zlY J hLi hat hc hD hn hpr hC hH λa' w' M' ρ' hH'=>?_;refine ih _ M' ρ' a' w' (by simpa using hs) ?_ ?_ ?_ ?_ ?_
       ·rw[hput'];have:=zaa (D:=λj=>listed.getD j false) hn (n:=all.size);rw[uw hx]at this;omega
       ·rw[hput'];intro k ok hk hDk p hpk;by_cases e:k=i
        ·subst e;rw[J]at hk;simp only[ui]at hk;subst hk;by_cases e2:p=k
         ·subst e2;exact zY _ _
         ·rw[zz e2];exact hpr p hpk
        ·rw[zz e]at hDk;have:=hD k ok hk hDk p hpk;by_cases e2:p=i
         ·subst e2;exact zY _ _
         ·rw[zz e2];exact this
       ·intro k hk;rw[hput,zz ua];exact hno k hk
       ·rw[hput,zz ua];exact U
       ·rw[hput'];exact hH'
     ·exfalso;have:=ym h5 (i - l.length) ua;rw[show i - l.length+l.length=i by omega,J]at this;obtain⟨p,hpm,hw⟩:=zft this;exact zlZ hc hD hno U (hpr p hpm) hw
    split
    ·rename_i hw;rw[uw hw]at key;exact .inl key
    ·rename_i hw;rw[ur hw]at key;exact key
 have h0: ∀j,(Array.replicate all.size false).getD j false=false:=λj=>by
  by_cases h:j<all.size
  ·simp[h]
  ·simp[h]
 have h0':(λj=>(Array.replicate all.size false).getD j false)=λ_=>false:=funext h0
 refine wp_region_any hmx (main _ _ M ρ a _ ue ?_ ?_ (λk _=>h0 k) (h0 m) ?_)
 ·rw[h0']
  have: ∀n,left (λ_=>false) n=n:=λn=>by
   induction n with
   |zero=>rfl
   |succ n ih=>simp only[left,ih];omega
  exact this _
 ·rw[h0'];intro i o _ h;cases h
 ·rw[h0',jr λ_ _=>rfl];exact hH.grow (λ_ _=>rfl) (uJ _) rfl rfl rfl
end
def zuF(o:Oper):Law:=⟨o.dst,[],[],[],.un,[]⟩
def backL{P:Program}(T:Ty P)(n:Nat)(all:Array Oper)(ms:List Nat)(m:Nat):List Oper->zd->Tab->List Law->List Law
 | [],_,_,l=>l
 |o::r,sl,tab,l=>match zcD ms m l.length with
  |true=>backL T n all ms m r (app o.dst .un [] ⟨n,sl,tab⟩).sl tab (zuF o::l)
  |false=>match stepL T n true all o sl tab with
   |some L=>backL T n all ms m r (app L.d L.v L.wt ⟨n,sl,tab⟩).sl (L.wt++tab) (L::l)
   |none=>l
variable {tab:Tab}
theorem zl0{n:Nat}{sl:zd}(J: ∀k,sg sl k=sg st.sl k)(j:Nat):sg (app L.d L.v L.wt ⟨n,sl,tab⟩).sl j=sg (app L.d L.v L.wt st).sl j:=by
 obtain⟨d,rs,rt,fr,v,wt⟩:=L;cases d with
 |none=>exact J j
 |some d=>
  simp only[app];rw[yx,yx]
  simp_all
theorem zqe{a tab':Tab}(J: ∀i,tg tab i=tg tab' i)(i:Nat):tg (a++tab) i=tg (a++tab') i:=by
 cases hk:hasB i (keysT a)with
 |true=>exact wx hk
 |false=>rw[yR hk,yR hk];exact J i
theorem zd3{P:Program}(T:Ty P){n:Nat}{all:Array Oper}{ms:List Nat}{m:Nat}{st:St}(J:st.n=n): ∀ {rest:List Oper} {sl:zd} {tab:Tab} {l:List Law},vR P all st ms m l->m<l.length->all.toList.drop l.length=rest->
 (∀k,sg sl k=sg (apps st l).sl k)->(∀i,tg tab i=tg (apps st l).tab i)->vR P all st ms m (backL T n all ms m rest sl tab l)/\at? (backL T n all ms m rest sl tab l) m=at? l m/\sel (λj=>decide (j<m)) (backL T n all ms m rest sl tab l)=sel (λj=>decide (j<m)) l
 | [],sl,tab,l,hd,hm,hr,hs,ht=>by
   rw[backL];simp_all
 |o::r,sl,tab,l,hd,hm,hr,hs,ht=>by
  have U:all.toList.drop (l.length+1)=r:=by
   have:(all.toList.drop l.length).drop 1=r:=by rw[hr];rfl
   rw[tG]at this;simpa [oK]using this
  have back: ∀L:Law,at? (L::l) m=at? l m/\sel (λj=>decide (j<m)) (L::l)=sel (λj=>decide (j<m)) l:=λL=>by
   refine⟨by rw[yg,ur ua],?_⟩;simp only[sel,uF (show ¬l.length<m by omega)]
  simp only[backL];split
  ·rename_i hw
   obtain⟨h1,h2,h3⟩:=zd3 T J (l:=zuF o::l) (rest:=r) (sl:=(app o.dst .un [] ⟨n,sl,tab⟩).sl) (tab:=tab) ⟨hd,.inl hw⟩ ug (by simpa using U) (λk=>by
    have:=zl0 (L:=zuF o) (n:=n) (tab:=tab) hs k
    simpa [apps,zuF]using this) (λi=>by simp only[apps,zuF,app];exact ht i)
   simp_all
  ·split
   ·rename_i L hL;obtain⟨g1,g2,g3,g4,g5,g6⟩:=xk T hL
    have ho:all[l.length]?=some o:=by
     have:(all.toList.drop l.length)[0]?=some o:=by rw[hr];rfl
     rw[u9]at this;simpa using this
    obtain⟨h1,h2,h3⟩:=zd3 T J (l:=L::l) (rest:=r) (sl:=(app L.d L.v L.wt ⟨n,sl,tab⟩).sl) (tab:=L.wt++tab) ⟨hd,.inr ⟨o,ho,g1,g2,jD g3 λk _=>(hs k).symm,wZ g4 λi _=>(ht i).symm,by rw[J];exact g6⟩⟩ ug (by simpa using U)
     (λk=>by simp only[apps];exact zl0 hs k) (λi=>by simp only[apps,app];exact zqe ht i)
    simp_all
   simp_all
variable {af:Array Edge}{d:Option Nat}{done:List Law}{g0:Option (Nat×Bool)}{gs sl0:zd}{ps:String}{tab0:Tab}{x:Operand}
section
variable {k:List Frm} {n:Nat} {sl:zd} {Q:Exit->St->Prop} {rest:List Oper}
def zwM(T:Ty P){rs:zd}{rt:RL}{fr:List Nat}{wt:Tab}(hC:C.low)(ks:List Nat)(hL:zpG P all o rs rt fr pv wt)(hS:okS rs ⟨n,sl,tab⟩)(hT:okT rt ⟨n,sl,tab⟩)
 (hc:wX all (vc all.toList []) ⟨n,sl0,tab0⟩ (backL T n all (vc all.toList []) done.length rest (app o.dst .un wt ⟨n,sl,tab⟩).sl (wt++tab) (⟨o.dst,rs,rt,fr,.un,wt⟩::done))=true)
 (hp:checkQ all (vc all.toList []) (backL T n all (vc all.toList []) done.length rest (app o.dst .un wt ⟨n,sl,tab⟩).sl (wt++tab) (⟨o.dst,rs,rt,fr,.un,wt⟩::done)) done.length (pick tab ks).ids=true)
 (g:Goal P C (.fin (.panic (chn pv))) k n [] (wt++tb (pick tab ks)) Q):Goal P C (.ops all (o::rest) (some (sl0,tab0,done))) k n sl tab Q:=by
 intro hD hs J hr M ρ a w id U
 have ho:all[done.length]?=some o:=by
  have:(all.toList.drop done.length)[0]?=some o:=by rw[hr];rfl
  rw[u9]at this;simpa using this
 have hr':all.toList.drop (done.length+1)=rest:=by
  have:(all.toList.drop done.length).drop 1=rest:=by rw[hr];rfl
  rw[tG]at this;simpa [oK]using this
 obtain⟨h1,h2,h3⟩:=zd3 T (all:=all) (ms:=vc all.toList []) (m:=done.length) (st:=⟨n,sl0,tab0⟩) rfl (rest:=rest) (sl:=(app o.dst .un wt ⟨n,sl,tab⟩).sl) (tab:=wt++tab) (l:=⟨o.dst,rs,rt,fr,.un,wt⟩::done) ⟨vR.of hD,.inl (by simp[zcD])⟩ ue (by simpa using hr')
  (λj=>by simp only[apps];exact zl0 (L:=⟨o.dst,rs,rt,fr,.un,wt⟩) hs j) (λi=>by simp only[apps,app];exact zqe J i)
 have e3:sel (λj=>decide (j<done.length)) (backL T n all (vc all.toList []) done.length rest (app o.dst .un wt ⟨n,sl,tab⟩).sl (wt++tab) (⟨o.dst,rs,rt,fr,.un,wt⟩::done))=done:=by
  rw[h3];simp only[sel,uF (oT _)];exact za0 (uJ _)
 have e2:at? (backL T n all (vc all.toList []) done.length rest (app o.dst .un wt ⟨n,sl,tab⟩).sl (wt++tab) (⟨o.dst,rs,rt,fr,.un,wt⟩::done)) done.length=some ⟨o.dst,rs,rt,fr,.un,wt⟩:=by rw[h2,yg,uw rfl]
 refine zjy (kp:=pick tab ks) T.mix h1 hc hp e2 ho hL (by rw[e3];exact jD hS λk _=>(hs k).symm) (by rw[e3];exact wZ hT λi _=>(J i).symm) (by rw[e3];exact wZ (zdp (n:=n) (sl:=sl)) λi _=>(J i).symm) hC (λa w M ρ U=>g M ρ a w U) U
def zd4(T:Ty P){l:List Operand}{ts:Array TypeId}{ty:TypeId}(hC:C.low){f:FuncId}{args ss:List S}{first caps:List V}{Rw Rr Rw':RL}
 (h:zU P f args (Rw++Rr) pv (Rw'++Rr)) (σ:Nat->Nat) (ks:List Nat) (hx:ev sl x=some (.one (.cl f first caps))) (hl:evs sl l=some ss) (ha:zI (ones first++ss++ones caps) (Ss.ren σ args)) (hi:injB σ (RL.ids (Rw++Rr))=true) (J:injB σ (RL.ids (Rw'++Rr))=true)
 (U:xH (RL.ids (Rw++Rr)++RL.ids (Rw'++Rr)) (Rw'++Rr)=true) (hT:rdT tab ((Rw++Rr).ren σ)=(Rw++Rr).ren σ) (hm:metL all sl g0=some gs)
 (hc:wX all (vc all.toList []) ⟨n,sl0,tab0⟩ (backL T n all (vc all.toList []) done.length rest (app d .un (tb (Rw'.ren σ)++xp (Rw.ids.map σ)) ⟨n,sl,tab⟩).sl ((tb (Rw'.ren σ)++xp (Rw.ids.map σ))++tab) (⟨d,gs++(rq x (.one (.cl f first caps))++rqs l ss),(Rw++Rr).ren σ,(zP (Rw++Rr) (Rw'++Rr)).map σ,.un,tb (Rw'.ren σ)++xp (Rw.ids.map σ)⟩::done))=true)
 (hp:checkQ all (vc all.toList []) (backL T n all (vc all.toList []) done.length rest (app d .un (tb (Rw'.ren σ)++xp (Rw.ids.map σ)) ⟨n,sl,tab⟩).sl ((tb (Rw'.ren σ)++xp (Rw.ids.map σ))++tab) (⟨d,gs++(rq x (.one (.cl f first caps))++rqs l ss),(Rw++Rr).ren σ,(zP (Rw++Rr) (Rw'++Rr)).map σ,.un,tb (Rw'.ren σ)++xp (Rw.ids.map σ)⟩::done)) done.length (pick tab ks).ids=true)
 (g:Goal P C (.fin (.panic (chn pv))) k n [] ((tb (Rw'.ren σ)++xp (Rw.ids.map σ))++tb (pick tab ks)) Q):
 Goal P C (.ops all (⟨d,.call ⟨.value x,l.toArray,ts⟩,ty,ps,af,g0⟩::rest) (some (sl0,tab0,done))) k n sl tab Q:=by
 have e1:=zu (st:=⟨n,sl,tab⟩) hx;have e2:=xl (st:=⟨n,sl,tab⟩) hl;have:=zdn hm (zoV (ty:=ty) (ps:=ps) (af:=af) (g:=g0) (d:=d) (ts:=ts) h σ e1.1 e2.1 ha hi J U) (n:=n) (tab:=tab);exact zwM T hC ks this.1 (by rw[za,za];simp_all) (vW hT) hc hp g
def zoX{K:Type}[DecidableEq K]{kt:TypeId}(κ:zdr P kt K){t et ty:TypeId}{md:Mode}(hC:C.low){id:Nat}{l:List (K×EV)}
 (J:ev sl x=some (.one (.mp id))) (hT:tg tab id=some (.mpg (yn κ l))) (U:P.underlying t=some (.map kt et)) (hm:metL all sl g0=some gs) (hd:dok d n=true)
 (g:Goal P C (.ops all rest (nx md ⟨d,gs++rq x (.one (.mp id)),[(id,.mpg (yn κ l))],[],.un,[(id,some (.mpg (yn κ [])))]⟩)) k n (app d .un [(id,some (.mpg (yn κ [])))] ⟨n,sl,tab⟩).sl ((id,some (.mpg (yn κ [])))::tab) Q):
 Goal P C (.ops all (⟨d,.call ⟨.builtin .clear,#[x],#[t]⟩,ty,ps,af,g0⟩::rest) md) k n sl tab Q:=by
 have e1:=zu (st:=⟨n,sl,tab⟩) J;have:=zj hm (znO (P:=P) (ty:=ty) (ps:=ps) (af:=af) (g:=g0) (d:=d) (es:=yn κ l) e1.1 U) (n:=n) (tab:=tab);exact zN (L:=⟨d,gs++rq x (.one (.mp id)),[(id,.mpg (yn κ l))],[],.un,[(id,some (.mpg (yn κ [])))]⟩) hC this.1 rfl ⟨by rw[za];simp_all,⟨hT,uh⟩,rfl,hd⟩ g
end
end Hw
namespace Hw.Gm
open Go Go.Proofs Hw.M Ps
def zx0(v:Int):IntKind.i64.wrap (-v)=IntKind.i64.wrap (0 - v):=by rw[Int.zero_sub]
def zd5(n:Int)(k:Kn):(∃e,bdI n k= .flt e k)\/(∃v,bdI n k= .ok v k)\/bdI n k= .out:=by
 unfold bdI;by_cases h:n< -1099511627776\/1099511627776<n
 ·rw[uw h];exact .inl ⟨_,rfl⟩
 ·rw[ur h];exact .inr (.inl ⟨_,rfl⟩)
def zl1(a b:Int)(k:Kn):(∃e,znP a b k= .flt e k)\/(∃v,znP a b k= .ok v k)\/znP a b k= .out:=by
 unfold znP;by_cases h:zke a/\zke b
 ·rw[uw h];by_cases h2:a.natAbs*b.natAbs>1099511627776
  ·rw[uw h2];exact .inl ⟨_,rfl⟩
  ·rw[ur h2];exact .inr (.inl ⟨_,rfl⟩)
 ·rw[ur h];exact .inr (.inr rfl)
def zfu(op a b:Int)(k:Kn):(∃e,zjV op a b k= .flt e k)\/(∃v,zjV op a b k= .ok v k)\/zjV op a b k= .out:=by
 unfold zjV
 have J: ∀ {p:Prop} [Decidable p] {x y:Bn},((∃e,x= .flt e k)\/(∃v,x= .ok v k)\/x= .out)->((∃e,y= .flt e k)\/(∃v,y= .ok v k)\/y= .out)->((∃e,(if p then x else y)= .flt e k)\/(∃v,(if p then x else y)= .ok v k)\/(if p then x else y)= .out):=λ{p} _ {x y} U hy=>by
  by_cases h:p
  ·rw[uw h];exact U
  ·rw[ur h];exact hy
 have ok: ∀v,(∃e,Bn.ok v k= .flt e k)\/(∃u,Bn.ok v k= .ok u k)\/Bn.ok v k= .out:=λv=> .inr (.inl ⟨_,rfl⟩)
 exact J (zd5 _ _) (J (zd5 _ _) (J (zl1 _ _ _) (J (ok _) (J (ok _) (J (ok _) (J (ok _) (J (ok _) (J (ok _) (J (.inl ⟨_,rfl⟩) (J (zd5 _ _) (ok _)))))))))))
variable {er:Int}
def zsg{op a b:Int}{k U:Kn}(h:zjV op a b k= .flt er U):U=k:=by
 rcases zfu op a b k with⟨e,J⟩|⟨v,J⟩|J<;>rw[J]at h<;>cases h<;>rfl
def zoY{op a b:Int}{k U:Kn}{w:Int}(h:zjV op a b k= .ok w U):U=k:=by
 rcases zfu op a b k with⟨e,J⟩|⟨v,J⟩|J<;>rw[J]at h<;>cases h<;>rfl
variable {d:zg}{m:Hp}
set_option maxHeartbeats 2000000 in
set_option maxRecDepth 100000 in
theorem zoZ(hs:xy m)(g:Nat)(hAt: ∀nd e i k,zwL d m nd e i k (atV d m g nd e i k))(hMe: ∀i nd k,zwK d m i nd k (meV d m g i nd k))(nd:Int)(e:Ex)(k:Kn):zv3 d m nd e k (inV d m (g+1) nd e k):=by
 rw[inV];by_cases o12:e.op=1\/e.op=2
 ·rw[uw o12];rcases o12 with o12|o12
  all_goals
   show zf _ _ _ _ _ _;refine gO T Tryz.func96 λC hC=>?_
   repeat' first|refine gG ?_|exact gD|(exfalso;first|(have h0:=uj h;omega)|(have h0:=uo h;omega))|(exfalso;simp only[uy,uG,uq,uu]at h;omega)|refine gB ?_ ?_<;>intro h
   all_goals exact gE
 rw[ur o12];by_cases o3:e.op=3
 ·rw[uw o3];show zf _ _ _ _ _ _;refine gO T Tryz.func96 λC hC=>?_
  repeat' first|refine gG ?_|exact gD|(exfalso;first|(have h0:=uj h;omega)|(have h0:=uo h;omega))|(exfalso;simp only[uy,uG,uq,uu]at h;omega)|refine gB ?_ ?_<;>intro h
  all_goals exact gE
 rw[ur o3];by_cases o4:e.op=4
 ·rw[uw o4];have hN:=zoQ d m k e.s nd;cases hr_hN:namI d m nd e.s k with
  |out=>exact uh
  |flt er k9=>
   rw[hr_hN]at hN;have hN:zU _ _ _ _ _ _:=hN;show zU _ _ _ _ _ _;refine zR T Tryz.func96 ud rfl rfl rfl λC hC=>?_
   repeat' first|refine gG ?_|exact gD|(exfalso;first|(have h0:=uj h;omega)|(have h0:=uo h;omega))|(exfalso;simp only[uy,uG,uq,uu]at h;omega)|refine gB ?_ ?_<;>intro h|(refine zo hC hN (nm [0,1,2]) rfl rfl (zI.refl _) rfl rfl rfl rfl rfl rfl ?_)
   exact gU (zi ⟨rfl,id,⟨rfl,rfl,rfl,uh⟩,rfl,rfl⟩)
  |ok v k1=>
   rw[hr_hN]at hN;have hN:zf _ _ _ _ _ _:=hN
   try simp only[Bn.bind]
   show zf _ _ _ _ _ _;refine gO T Tryz.func96 λC hC=>?_
   repeat' first|refine gG ?_|exact gD|(exfalso;first|(have h0:=uj h;omega)|(have h0:=uo h;omega))|(exfalso;simp only[uy,uG,uq,uu]at h;omega)|refine gB ?_ ?_<;>intro h|refine gR hN (nm [0,1,2]) ?_
   all_goals exact gE
 rw[ur o4];by_cases o5:e.op=5
 ·rw[uw o5];have hA:FnX Tryz.prog 137 [I 0,.one (.bx 5 0),.one (.bx 6 0),.one (.bx 7 0)] (imR d m k 0 1 2++clI e nd) (aE d m e nd (atV d m g nd e 0 k)):=hAt nd e 0 k;cases hr_hA:atV d m g nd e 0 k with
  |out=>exact uh
  |flt er k9=>
   rw[hr_hA]at hA;have hA:zU _ _ _ _ _ _:=hA;show zU _ _ _ _ _ _;refine zR T Tryz.func96 ud rfl rfl rfl λC hC=>?_
   repeat' first|refine gG ?_|exact gD|(exfalso;first|(have h0:=uj h;omega)|(have h0:=uo h;omega))|(exfalso;simp only[uy,uG,uq,uu]at h;omega)|refine gB ?_ ?_<;>intro h|(refine zd4 T hC hA (nm [0,1,2,3,4,1003,1004,1005]) [] rfl rfl (zI.refl _) rfl rfl rfl rfl rfl ud ud ?_)
   exact gU (zi ⟨rfl,id,⟨rfl,rfl,rfl,uh⟩,rfl,rfl⟩)
  |ok v k1=>
   rw[hr_hA]at hA;have hA:zf _ _ _ _ _ _:=hA
   try simp only[Bn.bind]
   have hF:=zlV (d:=d) hs k1 v e.s;cases hr_hF:fldI d m v e.s k1 with
   |out=>exact uh
   |flt er k9=>
    rw[hr_hF]at hF;have hF:zU _ _ _ _ _ _:=hF;show zU _ _ _ _ _ _;refine zR T Tryz.func96 ud rfl rfl rfl λC hC=>?_
    repeat' first|refine gG ?_|exact gD|(exfalso;first|(have h0:=uj h;omega)|(have h0:=uo h;omega))|(exfalso;simp only[uy,uG,uq,uu]at h;omega)|refine gB ?_ ?_<;>intro h|(refine yd hC hA (nm [0,1,2,3,4,1003,1004,1005]) rfl rfl (zI.refl _) rfl rfl rfl rfl rfl rfl rfl rfl ?_)|(refine xq T hC hF (nm [0,1,2]) [] rfl rfl (zI.refl _) rfl rfl rfl rfl rfl ud ud ?_)
    exact gU (zi ⟨rfl,id,⟨rfl,rfl,rfl,uh⟩,rfl,rfl⟩)
   |ok u k2=>
    rw[hr_hF]at hF;have hF:zf _ _ _ _ _ _:=hF
    try simp only[Bn.bind]
    show zf _ _ _ _ _ _;refine gO T Tryz.func96 λC hC=>?_
    repeat' first|refine gG ?_|exact gD|(exfalso;first|(have h0:=uj h;omega)|(have h0:=uo h;omega))|(exfalso;simp only[uy,uG,uq,uu]at h;omega)|refine gB ?_ ?_<;>intro h|(refine yd hC hA (nm [0,1,2,3,4,1003,1004,1005]) rfl rfl (zI.refl _) rfl rfl rfl rfl rfl rfl rfl rfl ?_)|refine gR hF (nm [0,1,2]) ?_
    all_goals exact gE
 rw[ur o5];by_cases o7:e.op=7
 ·rw[uw o7];have hNm:=zfr d m k e.s;cases hi:zpL d e.s with
  |none=>exact uh
  |some i=>
   rw[hi]at hNm;simp only[idxI]at hNm;have hA:FnX Tryz.prog 137 [I 0,.one (.bx 5 0),.one (.bx 6 0),.one (.bx 7 0)] (imR d m k 0 1 2++clI e nd) (aE d m e nd (atV d m g nd e 0 k)):=hAt nd e 0 k;cases hr_hA:atV d m g nd e 0 k with
   |out=>exact uh
   |flt er k9=>
    rw[hr_hA]at hA;have hA:zU _ _ _ _ _ _:=hA;show zU _ _ _ _ _ _;refine zR T Tryz.func96 ud rfl rfl rfl λC hC=>?_
    repeat' first|refine gG ?_|exact gD|(exfalso;first|(have h0:=uj h;omega)|(have h0:=uo h;omega))|(exfalso;simp only[uy,uG,uq,uu]at h;omega)|refine gB ?_ ?_<;>intro h|refine gR hNm (nm [0,1,2]) ?_|(refine zd4 T hC hA (nm [0,1,2,3,4,1003,1004,1005]) [] rfl rfl (zI.refl _) rfl rfl rfl rfl rfl ud ud ?_)
    exact gU (zi ⟨rfl,id,⟨rfl,rfl,rfl,uh⟩,rfl,rfl⟩)
   |ok v k1=>
    rw[hr_hA]at hA;have hA:zf _ _ _ _ _ _:=hA
    try simp only[Bn.bind]
    have hM:=hMe i v k1;cases hr_hM:meV d m g i v k1 with
    |out=>exact uh
    |flt er k9=>
     rw[hr_hM]at hM;have hM:zU _ _ _ _ _ _:=hM;show zU _ _ _ _ _ _;refine zR T Tryz.func96 ud rfl rfl rfl λC hC=>?_
     repeat' first|refine gG ?_|exact gD|(exfalso;first|(have h0:=uj h;omega)|(have h0:=uo h;omega))|(exfalso;simp only[uy,uG,uq,uu]at h;omega)|refine gB ?_ ?_<;>intro h|refine gR hNm (nm [0,1,2]) ?_|(refine yd hC hA (nm [0,1,2,3,4,1003,1004,1005]) rfl rfl (zI.refl _) rfl rfl rfl rfl rfl rfl rfl rfl ?_)|(refine xq T hC hM (nm [0,1,2]) [] rfl rfl (zI.refl _) rfl rfl rfl rfl rfl ud ud ?_)
     exact gU (zi ⟨rfl,id,⟨rfl,rfl,rfl,uh⟩,rfl,rfl⟩)
    |ok u k2=>
     rw[hr_hM]at hM;have hM:zf _ _ _ _ _ _:=hM
     try simp only[Bn.bind]
     show zf _ _ _ _ _ _;refine gO T Tryz.func96 λC hC=>?_
     repeat' first|refine gG ?_|exact gD|(exfalso;first|(have h0:=uj h;omega)|(have h0:=uo h;omega))|(exfalso;simp only[uy,uG,uq,uu]at h;omega)|refine gB ?_ ?_<;>intro h|refine gR hNm (nm [0,1,2]) ?_|(refine yd hC hA (nm [0,1,2,3,4,1003,1004,1005]) rfl rfl (zI.refl _) rfl rfl rfl rfl rfl rfl rfl rfl ?_)|refine gR hM (nm [0,1,2]) ?_
     all_goals exact gE
 rw[ur o7];by_cases o8:e.op=8
 ·rw[uw o8];have hA:FnX Tryz.prog 137 [I 0,.one (.bx 5 0),.one (.bx 6 0),.one (.bx 7 0)] (imR d m k 0 1 2++clI e nd) (aE d m e nd (atV d m g nd e 0 k)):=hAt nd e 0 k;cases hr_hA:atV d m g nd e 0 k with
  |out=>exact uh
  |flt er k9=>
   rw[hr_hA]at hA;have hA:zU _ _ _ _ _ _:=hA;show zU _ _ _ _ _ _;refine zR T Tryz.func96 ud rfl rfl rfl λC hC=>?_
   repeat' first|refine gG ?_|exact gD|(exfalso;first|(have h0:=uj h;omega)|(have h0:=uo h;omega))|(exfalso;simp only[uy,uG,uq,uu]at h;omega)|refine gB ?_ ?_<;>intro h|(refine zo hC hA (nm [0,1,2,3,4,1003,1004,1005]) rfl rfl (zI.refl _) rfl rfl rfl rfl rfl rfl ?_)
   exact gU (zi ⟨rfl,id,⟨rfl,rfl,rfl,uh⟩,rfl,rfl⟩)
  |ok v k1=>
   rw[hr_hA]at hA;have hA:zf _ _ _ _ _ _:=hA
   try simp only[Bn.bind]
   rw[zx0];have hB:=zh5 (IntKind.i64.wrap (0 - v)) k1;cases hr_hB:bdI (IntKind.i64.wrap (0 - v)) k1 with
   |out=>exact uh
   |flt er k9=>
    have hk:k9=k1:=by unfold bdI at hr_hB;split at hr_hB<;>simp_all
    subst hk;rw[hr_hB]at hB;have hB:zU _ _ _ _ _ _:=hB;show zU _ _ _ _ _ _;refine zR T Tryz.func96 ud rfl rfl rfl λC hC=>?_
    repeat' first|refine gG ?_|exact gD|(exfalso;first|(have h0:=uj h;omega)|(have h0:=uo h;omega))|(exfalso;simp only[uy,uG,uq,uu]at h;omega)|refine gB ?_ ?_<;>intro h|(refine zdi hC rfl rfl rfl ?_)|(refine yd hC hA (nm [0,1,2,3,4,1003,1004,1005]) rfl rfl (zI.refl _) rfl rfl rfl rfl rfl rfl rfl rfl ?_)|(refine zo hC hB id rfl rfl (zI.refl _) rfl rfl rfl rfl rfl rfl ?_)
    exact gU (zi ⟨rfl,id,⟨rfl,rfl,rfl,uh⟩,rfl,rfl⟩)
   |ok u k9=>
    have hk:k9=k1:=by unfold bdI at hr_hB;split at hr_hB<;>simp_all
    subst hk;rw[hr_hB]at hB;have hB:zf _ _ _ _ _ _:=hB;show zf _ _ _ _ _ _;refine gO T Tryz.func96 λC hC=>?_
    repeat' first|refine gG ?_|exact gD|(exfalso;first|(have h0:=uj h;omega)|(have h0:=uo h;omega))|(exfalso;simp only[uy,uG,uq,uu]at h;omega)|refine gB ?_ ?_<;>intro h|(refine zdi hC rfl rfl rfl ?_)|(refine yd hC hA (nm [0,1,2,3,4,1003,1004,1005]) rfl rfl (zI.refl _) rfl rfl rfl rfl rfl rfl rfl rfl ?_)|refine gC hB ?_
    all_goals exact gE
 rw[ur o8];by_cases o18:e.op=18
 ·rw[uw o18];have hA:FnX Tryz.prog 137 [I 0,.one (.bx 5 0),.one (.bx 6 0),.one (.bx 7 0)] (imR d m k 0 1 2++clI e nd) (aE d m e nd (atV d m g nd e 0 k)):=hAt nd e 0 k;cases hr_hA:atV d m g nd e 0 k with
  |out=>exact uh
  |flt er k9=>
   rw[hr_hA]at hA;have hA:zU _ _ _ _ _ _:=hA;show zU _ _ _ _ _ _;refine zR T Tryz.func96 ud rfl rfl rfl λC hC=>?_
   repeat' first|refine gG ?_|exact gD|(exfalso;first|(have h0:=uj h;omega)|(have h0:=uo h;omega))|(exfalso;simp only[uy,uG,uq,uu]at h;omega)|refine gB ?_ ?_<;>intro h|(refine zo hC hA (nm [0,1,2,3,4,1003,1004,1005]) rfl rfl (zI.refl _) rfl rfl rfl rfl rfl rfl ?_)
   exact gU (zi ⟨rfl,id,⟨rfl,rfl,rfl,uh⟩,rfl,rfl⟩)
  |ok v k1=>
   rw[hr_hA]at hA;have hA:zf _ _ _ _ _ _:=hA
   try simp only[Bn.bind]
   show zf _ _ _ _ _ _;refine gO T Tryz.func96 λC hC=>?_
   repeat' first|refine gG ?_|exact gD|(exfalso;first|(have h0:=uj h;omega)|(have h0:=uo h;omega))|(exfalso;simp only[uy,uG,uq,uu]at h;omega)|refine gB ?_ ?_<;>intro h|(refine yd hC hA (nm [0,1,2,3,4,1003,1004,1005]) rfl rfl (zI.refl _) rfl rfl rfl rfl rfl rfl rfl rfl ?_)
   all_goals exact gE
 rw[ur o18];by_cases o24:e.op=24
 ·rw[uw o24];have hA:FnX Tryz.prog 137 [I 0,.one (.bx 5 0),.one (.bx 6 0),.one (.bx 7 0)] (imR d m k 0 1 2++clI e nd) (aE d m e nd (atV d m g nd e 0 k)):=hAt nd e 0 k;cases hr_hA:atV d m g nd e 0 k with
  |out=>exact uh
  |flt er k9=>
   rw[hr_hA]at hA;have hA:zU _ _ _ _ _ _:=hA;show zU _ _ _ _ _ _;refine zR T Tryz.func96 ud rfl rfl rfl λC hC=>?_
   repeat' first|refine gG ?_|exact gD|(exfalso;first|(have h0:=uj h;omega)|(have h0:=uo h;omega))|(exfalso;simp only[uy,uG,uq,uu]at h;omega)|refine gB ?_ ?_<;>intro h|(refine zo hC hA (nm [0,1,2,3,4,1003,1004,1005]) rfl rfl (zI.refl _) rfl rfl rfl rfl rfl rfl ?_)
   exact gU (zi ⟨rfl,id,⟨rfl,rfl,rfl,uh⟩,rfl,rfl⟩)
  |ok v k1=>
   rw[hr_hA]at hA;have hA:zf _ _ _ _ _ _:=hA
   try simp only[Bn.bind]
   by_cases hv:v<9223372036854775808
   ·rw[uw hv];exact zsf o24 hv hA
   ·rw[ur hv];exact uh
 rw[ur o24];by_cases o19:e.op=19
 ·rw[uw o19];have hA:FnX Tryz.prog 137 [I 0,.one (.bx 5 0),.one (.bx 6 0),.one (.bx 7 0)] (imR d m k 0 1 2++clI e nd) (aE d m e nd (atV d m g nd e 0 k)):=hAt nd e 0 k;cases hr_hA:atV d m g nd e 0 k with
  |out=>exact uh
  |flt er k9=>
   rw[hr_hA]at hA;have hA:zU _ _ _ _ _ _:=hA;show zU _ _ _ _ _ _;refine zR T Tryz.func96 ud rfl rfl rfl λC hC=>?_
   repeat' first|refine gG ?_|exact gD|(exfalso;first|(have h0:=uj h;omega)|(have h0:=uo h;omega))|(exfalso;simp only[uy,uG,uq,uu]at h;omega)|refine gB ?_ ?_<;>intro h|(refine zo hC hA (nm [0,1,2,3,4,1003,1004,1005]) rfl rfl (zI.refl _) rfl rfl rfl rfl rfl rfl ?_)
   exact gU (zi ⟨rfl,id,⟨rfl,rfl,rfl,uh⟩,rfl,rfl⟩)
  |ok v k1=>
   rw[hr_hA]at hA;have hA:zf _ _ _ _ _ _:=hA
   try simp only[Bn.bind]
   by_cases h0:v=0
   ·rw[uw h0];show zf _ _ _ _ _ _;refine gO T Tryz.func96 λC hC=>?_
    repeat' first|refine gG ?_|exact gD|(exfalso;first|(have h0:=uj h;omega)|(have h0:=uo h;omega))|(exfalso;simp only[uy,uG,uq,uu]at h;omega)|refine gB ?_ ?_<;>intro h|(refine yd hC hA (nm [0,1,2,3,4,1003,1004,1005]) rfl rfl (zI.refl _) rfl rfl rfl rfl rfl rfl rfl rfl ?_)
    all_goals exact gE
   ·rw[ur h0];have hB1:FnX Tryz.prog 137 [I 1,.one (.bx 5 0),.one (.bx 6 0),.one (.bx 7 0)] (imR d m k1 0 1 2++clI e nd) (aE d m e nd (atV d m g nd e 1 k1)):=hAt nd e 1 k1;cases hr_hB1:atV d m g nd e 1 k1 with
    |out=>exact uh
    |flt er k9=>
     rw[hr_hB1]at hB1;have hB1:zU _ _ _ _ _ _:=hB1;show zU _ _ _ _ _ _;refine zR T Tryz.func96 ud rfl rfl rfl λC hC=>?_
     repeat' first|refine gG ?_|exact gD|(exfalso;first|(have h0:=uj h;omega)|(have h0:=uo h;omega))|(exfalso;simp only[uy,uG,uq,uu]at h;omega)|refine gB ?_ ?_<;>intro h|(refine yd hC hA (nm [0,1,2,3,4,1003,1004,1005]) rfl rfl (zI.refl _) rfl rfl rfl rfl rfl rfl rfl rfl ?_)|(refine zo hC hB1 (nm [0,1,2,3,4,1003,1004,1005]) rfl rfl (zI.refl _) rfl rfl rfl rfl rfl rfl ?_)
     exact gU (zi ⟨rfl,id,⟨rfl,rfl,rfl,uh⟩,rfl,rfl⟩)
    |ok u k2=>
     rw[hr_hB1]at hB1;have hB1:zf _ _ _ _ _ _:=hB1
     try simp only[Bn.bind]
     show zf _ _ _ _ _ _;refine gO T Tryz.func96 λC hC=>?_
     repeat' first|refine gG ?_|exact gD|(exfalso;first|(have h0:=uj h;omega)|(have h0:=uo h;omega))|(exfalso;simp only[uy,uG,uq,uu]at h;omega)|refine gB ?_ ?_<;>intro h|(refine yd hC hA (nm [0,1,2,3,4,1003,1004,1005]) rfl rfl (zI.refl _) rfl rfl rfl rfl rfl rfl rfl rfl ?_)|(refine yd hC hB1 (nm [0,1,2,3,4,1003,1004,1005]) rfl rfl (zI.refl _) rfl rfl rfl rfl rfl rfl rfl rfl ?_)
     all_goals exact gE
 rw[ur o19];by_cases o20:e.op=20
 ·rw[uw o20];have hA:FnX Tryz.prog 137 [I 0,.one (.bx 5 0),.one (.bx 6 0),.one (.bx 7 0)] (imR d m k 0 1 2++clI e nd) (aE d m e nd (atV d m g nd e 0 k)):=hAt nd e 0 k;cases hr_hA:atV d m g nd e 0 k with
  |out=>exact uh
  |flt er k9=>
   rw[hr_hA]at hA;have hA:zU _ _ _ _ _ _:=hA;show zU _ _ _ _ _ _;refine zR T Tryz.func96 ud rfl rfl rfl λC hC=>?_
   repeat' first|refine gG ?_|exact gD|(exfalso;first|(have h0:=uj h;omega)|(have h0:=uo h;omega))|(exfalso;simp only[uy,uG,uq,uu]at h;omega)|refine gB ?_ ?_<;>intro h|(refine zo hC hA (nm [0,1,2,3,4,1003,1004,1005]) rfl rfl (zI.refl _) rfl rfl rfl rfl rfl rfl ?_)
   exact gU (zi ⟨rfl,id,⟨rfl,rfl,rfl,uh⟩,rfl,rfl⟩)
  |ok v k1=>
   rw[hr_hA]at hA;have hA:zf _ _ _ _ _ _:=hA
   try simp only[Bn.bind]
   by_cases h0:v=0
   ·rw[uw h0];have hB1:FnX Tryz.prog 137 [I 1,.one (.bx 5 0),.one (.bx 6 0),.one (.bx 7 0)] (imR d m k1 0 1 2++clI e nd) (aE d m e nd (atV d m g nd e 1 k1)):=hAt nd e 1 k1;cases hr_hB1:atV d m g nd e 1 k1 with
    |out=>exact uh
    |flt er k9=>
     rw[hr_hB1]at hB1;have hB1:zU _ _ _ _ _ _:=hB1;show zU _ _ _ _ _ _;refine zR T Tryz.func96 ud rfl rfl rfl λC hC=>?_
     repeat' first|refine gG ?_|exact gD|(exfalso;first|(have h0:=uj h;omega)|(have h0:=uo h;omega))|(exfalso;simp only[uy,uG,uq,uu]at h;omega)|refine gB ?_ ?_<;>intro h|(refine yd hC hA (nm [0,1,2,3,4,1003,1004,1005]) rfl rfl (zI.refl _) rfl rfl rfl rfl rfl rfl rfl rfl ?_)|(refine zo hC hB1 (nm [0,1,2,3,4,1003,1004,1005]) rfl rfl (zI.refl _) rfl rfl rfl rfl rfl rfl ?_)
     exact gU (zi ⟨rfl,id,⟨rfl,rfl,rfl,uh⟩,rfl,rfl⟩)
    |ok u k2=>
     rw[hr_hB1]at hB1;have hB1:zf _ _ _ _ _ _:=hB1
     try simp only[Bn.bind]
     show zf _ _ _ _ _ _;refine gO T Tryz.func96 λC hC=>?_
     repeat' first|refine gG ?_|exact gD|(exfalso;first|(have h0:=uj h;omega)|(have h0:=uo h;omega))|(exfalso;simp only[uy,uG,uq,uu]at h;omega)|refine gB ?_ ?_<;>intro h|(refine yd hC hA (nm [0,1,2,3,4,1003,1004,1005]) rfl rfl (zI.refl _) rfl rfl rfl rfl rfl rfl rfl rfl ?_)|(refine yd hC hB1 (nm [0,1,2,3,4,1003,1004,1005]) rfl rfl (zI.refl _) rfl rfl rfl rfl rfl rfl rfl rfl ?_)
     all_goals exact gE
   ·rw[ur h0];show zf _ _ _ _ _ _;refine gO T Tryz.func96 λC hC=>?_
    repeat' first|refine gG ?_|exact gD|(exfalso;first|(have h0:=uj h;omega)|(have h0:=uo h;omega))|(exfalso;simp only[uy,uG,uq,uu]at h;omega)|refine gB ?_ ?_<;>intro h|(refine yd hC hA (nm [0,1,2,3,4,1003,1004,1005]) rfl rfl (zI.refl _) rfl rfl rfl rfl rfl rfl rfl rfl ?_)
    all_goals exact gE
 rw[ur o20];by_cases o21:e.op=21
 ·rw[uw o21];have hA:FnX Tryz.prog 137 [I 0,.one (.bx 5 0),.one (.bx 6 0),.one (.bx 7 0)] (imR d m k 0 1 2++clI e nd) (aE d m e nd (atV d m g nd e 0 k)):=hAt nd e 0 k;cases hr_hA:atV d m g nd e 0 k with
  |out=>exact uh
  |flt er k9=>
   rw[hr_hA]at hA;have hA:zU _ _ _ _ _ _:=hA;show zU _ _ _ _ _ _;refine zR T Tryz.func96 ud rfl rfl rfl λC hC=>?_
   repeat' first|refine gG ?_|exact gD|(exfalso;first|(have h0:=uj h;omega)|(have h0:=uo h;omega))|(exfalso;simp only[uy,uG,uq,uu]at h;omega)|refine gB ?_ ?_<;>intro h|(refine zo hC hA (nm [0,1,2,3,4,1003,1004,1005]) rfl rfl (zI.refl _) rfl rfl rfl rfl rfl rfl ?_)
   exact gU (zi ⟨rfl,id,⟨rfl,rfl,rfl,uh⟩,rfl,rfl⟩)
  |ok v k1=>
   rw[hr_hA]at hA;have hA:zf _ _ _ _ _ _:=hA
   try simp only[Bn.bind]
   by_cases h0:v=0
   ·rw[uw h0];have hB2:FnX Tryz.prog 137 [I 2,.one (.bx 5 0),.one (.bx 6 0),.one (.bx 7 0)] (imR d m k1 0 1 2++clI e nd) (aE d m e nd (atV d m g nd e 2 k1)):=hAt nd e 2 k1;cases hr_hB2:atV d m g nd e 2 k1 with
    |out=>exact uh
    |flt er k9=>
     rw[hr_hB2]at hB2;have hB2:zU _ _ _ _ _ _:=hB2;show zU _ _ _ _ _ _;refine zR T Tryz.func96 ud rfl rfl rfl λC hC=>?_
     repeat' first|refine gG ?_|exact gD|(exfalso;first|(have h0:=uj h;omega)|(have h0:=uo h;omega))|(exfalso;simp only[uy,uG,uq,uu]at h;omega)|refine gB ?_ ?_<;>intro h|(refine yd hC hA (nm [0,1,2,3,4,1003,1004,1005]) rfl rfl (zI.refl _) rfl rfl rfl rfl rfl rfl rfl rfl ?_)|(refine zo hC hB2 (nm [0,1,2,3,4,1003,1004,1005]) rfl rfl (zI.refl _) rfl rfl rfl rfl rfl rfl ?_)
     exact gU (zi ⟨rfl,id,⟨rfl,rfl,rfl,uh⟩,rfl,rfl⟩)
    |ok u k2=>
     rw[hr_hB2]at hB2;have hB2:zf _ _ _ _ _ _:=hB2
     try simp only[Bn.bind]
     show zf _ _ _ _ _ _;refine gO T Tryz.func96 λC hC=>?_
     repeat' first|refine gG ?_|exact gD|(exfalso;first|(have h0:=uj h;omega)|(have h0:=uo h;omega))|(exfalso;simp only[uy,uG,uq,uu]at h;omega)|refine gB ?_ ?_<;>intro h|(refine yd hC hA (nm [0,1,2,3,4,1003,1004,1005]) rfl rfl (zI.refl _) rfl rfl rfl rfl rfl rfl rfl rfl ?_)|(refine yd hC hB2 (nm [0,1,2,3,4,1003,1004,1005]) rfl rfl (zI.refl _) rfl rfl rfl rfl rfl rfl rfl rfl ?_)
     all_goals exact gE
   ·rw[ur h0];have hB1:FnX Tryz.prog 137 [I 1,.one (.bx 5 0),.one (.bx 6 0),.one (.bx 7 0)] (imR d m k1 0 1 2++clI e nd) (aE d m e nd (atV d m g nd e 1 k1)):=hAt nd e 1 k1;cases hr_hB1:atV d m g nd e 1 k1 with
    |out=>exact uh
    |flt er k9=>
     rw[hr_hB1]at hB1;have hB1:zU _ _ _ _ _ _:=hB1;show zU _ _ _ _ _ _;refine zR T Tryz.func96 ud rfl rfl rfl λC hC=>?_
     repeat' first|refine gG ?_|exact gD|(exfalso;first|(have h0:=uj h;omega)|(have h0:=uo h;omega))|(exfalso;simp only[uy,uG,uq,uu]at h;omega)|refine gB ?_ ?_<;>intro h|(refine yd hC hA (nm [0,1,2,3,4,1003,1004,1005]) rfl rfl (zI.refl _) rfl rfl rfl rfl rfl rfl rfl rfl ?_)|(refine zo hC hB1 (nm [0,1,2,3,4,1003,1004,1005]) rfl rfl (zI.refl _) rfl rfl rfl rfl rfl rfl ?_)
     exact gU (zi ⟨rfl,id,⟨rfl,rfl,rfl,uh⟩,rfl,rfl⟩)
    |ok u k2=>
     rw[hr_hB1]at hB1;have hB1:zf _ _ _ _ _ _:=hB1
     try simp only[Bn.bind]
     show zf _ _ _ _ _ _;refine gO T Tryz.func96 λC hC=>?_
     repeat' first|refine gG ?_|exact gD|(exfalso;first|(have h0:=uj h;omega)|(have h0:=uo h;omega))|(exfalso;simp only[uy,uG,uq,uu]at h;omega)|refine gB ?_ ?_<;>intro h|(refine yd hC hA (nm [0,1,2,3,4,1003,1004,1005]) rfl rfl (zI.refl _) rfl rfl rfl rfl rfl rfl rfl rfl ?_)|(refine yd hC hB1 (nm [0,1,2,3,4,1003,1004,1005]) rfl rfl (zI.refl _) rfl rfl rfl rfl rfl rfl rfl rfl ?_)
     all_goals exact gE
 rw[ur o21];have hA:FnX Tryz.prog 137 [I 0,.one (.bx 5 0),.one (.bx 6 0),.one (.bx 7 0)] (imR d m k 0 1 2++clI e nd) (aE d m e nd (atV d m g nd e 0 k)):=hAt nd e 0 k;cases hr_hA:atV d m g nd e 0 k with
 |out=>exact uh
 |flt er k9=>
  rw[hr_hA]at hA;have hA:zU _ _ _ _ _ _:=hA;show zU _ _ _ _ _ _;refine zR T Tryz.func96 ud rfl rfl rfl λC hC=>?_
  repeat' first|refine gG ?_|exact gD|(exfalso;first|(have h0:=uj h;omega)|(have h0:=uo h;omega))|(exfalso;simp only[uy,uG,uq,uu]at h;omega)|refine gB ?_ ?_<;>intro h|(refine zo hC hA (nm [0,1,2,3,4,1003,1004,1005]) rfl rfl (zI.refl _) rfl rfl rfl rfl rfl rfl ?_)
  exact gU (zi ⟨rfl,id,⟨rfl,rfl,rfl,uh⟩,rfl,rfl⟩)
 |ok v k1=>
  rw[hr_hA]at hA;have hA:zf _ _ _ _ _ _:=hA
  try simp only[Bn.bind]
  have hB1:FnX Tryz.prog 137 [I 1,.one (.bx 5 0),.one (.bx 6 0),.one (.bx 7 0)] (imR d m k1 0 1 2++clI e nd) (aE d m e nd (atV d m g nd e 1 k1)):=hAt nd e 1 k1;cases hr_hB1:atV d m g nd e 1 k1 with
  |out=>exact uh
  |flt er k9=>
   rw[hr_hB1]at hB1;have hB1:zU _ _ _ _ _ _:=hB1;show zU _ _ _ _ _ _;refine zR T Tryz.func96 ud rfl rfl rfl λC hC=>?_
   repeat' first|refine gG ?_|exact gD|(exfalso;first|(have h0:=uj h;omega)|(have h0:=uo h;omega))|(exfalso;simp only[uy,uG,uq,uu]at h;omega)|refine gB ?_ ?_<;>intro h|(refine yd hC hA (nm [0,1,2,3,4,1003,1004,1005]) rfl rfl (zI.refl _) rfl rfl rfl rfl rfl rfl rfl rfl ?_)|(refine zd4 T hC hB1 (nm [0,1,2,3,4,1003,1004,1005]) [] rfl rfl (zI.refl _) rfl rfl rfl rfl rfl ud ud ?_)
   exact gU (zi ⟨rfl,id,⟨rfl,rfl,rfl,uh⟩,rfl,rfl⟩)
  |ok u k2=>
   rw[hr_hB1]at hB1;have hB1:zf _ _ _ _ _ _:=hB1
   try simp only[Bn.bind]
   have hT:=zrv e.op v u k2;cases hr_hT:zjV e.op v u k2 with
   |out=>exact uh
   |flt er k9=>
    have hk:k9=k2:=zsg hr_hT;subst hk;rw[hr_hT]at hT;have hT:zU _ _ _ _ _ _:=hT;show zU _ _ _ _ _ _;refine zR T Tryz.func96 ud rfl rfl rfl λC hC=>?_
    repeat' first|refine gG ?_|exact gD|(exfalso;first|(have h0:=uj h;omega)|(have h0:=uo h;omega))|(exfalso;simp only[uy,uG,uq,uu]at h;omega)|refine gB ?_ ?_<;>intro h|(refine yd hC hA (nm [0,1,2,3,4,1003,1004,1005]) rfl rfl (zI.refl _) rfl rfl rfl rfl rfl rfl rfl rfl ?_)|(refine yd hC hB1 (nm [0,1,2,3,4,1003,1004,1005]) rfl rfl (zI.refl _) rfl rfl rfl rfl rfl rfl rfl rfl ?_)|(refine xq T hC hT id [0,1,2] rfl rfl (zI.refl _) rfl rfl rfl rfl rfl ud ud ?_)
    exact gU (zi ⟨rfl,id,⟨rfl,rfl,rfl,uh⟩,rfl,rfl⟩)
   |ok w k9=>
    have hk:k9=k2:=zoY hr_hT;subst hk;rw[hr_hT]at hT;have hT:zf _ _ _ _ _ _:=hT;show zf _ _ _ _ _ _;refine gO T Tryz.func96 λC hC=>?_
    repeat' first|refine gG ?_|exact gD|(exfalso;first|(have h0:=uj h;omega)|(have h0:=uo h;omega))|(exfalso;simp only[uy,uG,uq,uu]at h;omega)|refine gB ?_ ?_<;>intro h|(refine yd hC hA (nm [0,1,2,3,4,1003,1004,1005]) rfl rfl (zI.refl _) rfl rfl rfl rfl rfl rfl rfl rfl ?_)|(refine yd hC hB1 (nm [0,1,2,3,4,1003,1004,1005]) rfl rfl (zI.refl _) rfl rfl rfl rfl rfl rfl rfl rfl ?_)|refine gC hT ?_
    all_goals exact gE
theorem zgZ(d:zg)(m:Hp)(U:xy m): ∀g:Nat,(∀nd e k,zv3 d m nd e k (inV d m g nd e k))/\(∀nd e i k,zwL d m nd e i k (atV d m g nd e i k))/\ ∀i nd k,zwK d m i nd k (meV d m g i nd k)
 |0=>⟨λnd e k=>by rw[inV];trivial,λnd e i k=>by rw[atV];trivial,λi nd k=>by rw[meV];trivial⟩
 |g+1=>
  have J:=zgZ d m U g
  ⟨λnd e k=>zoZ U g J.2.1 J.2.2 nd e k,λnd e i k=>zoU g J.1 nd e i k,λi nd k=>zoT g J.1 i nd k⟩
abbrev clX(e:Ex)(nd:Int):RL:=[(5,.box [.bx 0 0]),(6,.box ((yp e).map V.p)),(7,.box [.p (ki nd)])]
noncomputable def tEE(d:zg)(m:Hp)(e:Ex)(nd:Int):Bn->End
 | .ok v k=> .ok (I v) (imR d m k 0 1 2++clX e nd)
 | .flt er k=> .pn (flI er) (imR d m k 0 1 2++clX e nd)
 | .out=> .no
abbrev clK(i:Nat)(nd:Int):RL:=[(5,.box [.bx 0 0]),(6,.box (([ki (i:Int)]).map V.p)),(7,.box [.p (ki nd)])]
noncomputable def tKE(d:zg)(m:Hp)(i:Nat)(nd:Int):Bn->End
 | .ok v k=> .ok (I v) (imR d m k 0 1 2++clK i nd)
 | .flt er k=> .pn (flI er) (imR d m k 0 1 2++clK i nd)
 | .out=> .no
def unB(k:Kn):Option Int->Kn
 |none=>k
 |some _=>⟨k.kn,[]⟩
set_option maxRecDepth 100000 in
def zd6(d:zg)(m:Hp)(k:Kn)(v:Int)(rq:Option Int):
 zt0 Tryz.prog 136 [.one (.bx 3 0),.one (.bx 4 0),.one (.bx 5 0)] (imR d m k 0 1 2++[(3,.box [.p (ki v)]),(4,.box [.p (ki 0)]),(5,.box [.bx 0 0])]) (rq.map flI)
  (imR d m (unB k rq) 0 1 2++[(3,.box [.p (ki (if rq.isSome then 0 else v))]),(4,.box [.p (ki (rq.getD 0))]),(5,.box [.bx 0 0])]):=by
 refine zrm T (rq.map flI) (Tryz.func136) ud rfl rfl rfl rfl rfl rfl rfl (by cases rq<;>rfl) λC hC=>?_;cases rq
 all_goals
  repeat' first|refine gG ?_|refine gB ?_ ?_<;>intro h|(refine zj5 hC rfl ud rfl rfl ?_)|(refine zk9 hC rfl ud rfl rfl ?_)|(refine zrn hC [.int .i64 _] rfl ud rfl rfl rfl ?_)|(refine zoX k2G (et:=4) hC rfl rfl ud rfl rfl ?_)|refine ze ?_
  exact zi ⟨.inr rfl,id,_,rfl,zlp,⟨rfl,rfl,rfl,rfl,rfl,rfl,uh⟩,rfl,rfl⟩
def trV:Bn->Option (Int×Int×Kn)
 | .ok v k=>some (v,0,k)
 | .flt e k=>some (0,e,⟨k.kn,[]⟩)
 | .out=>none
variable {F:FuncId}{nd:Int}{r:Bn}
def zsh{e:Ex}{k k1:Kn}{v J:Int}(h:FnX Tryz.prog F [.one (.bx 5 0),.one (.bx 6 0),.one (.bx 7 0)] (imR d m k 0 1 2++clX e nd) (tEE d m e nd r))(U:trV r=some (v,J,k1)):
 zf Tryz.prog 94 [.one (.bx 0 0),.one (.cl F [] [.bx 5 0,.bx 6 0,.bx 7 0])] (imR d m k 0 1 2++clX e nd) (.tup [I v,I J]) (imR d m k1 0 1 2++clX e nd):=by
 refine zhZ T (m:=1) (Rm:=imR d m k 0 1 2++clX e nd++[(10,.box [.bx 0 0]),(11,.box [.p (ki 0)]),(12,.box [.p (ki 0)])])
  (sl1:=[(1,.one (.cl F [] [.bx 5 0,.bx 6 0,.bx 7 0])),(2,.one (.bx 10 0)),(4,.one (.bx 11 0)),(5,.one (.bx 12 0))]) (Tryz.func94) ud rfl rfl rfl rfl rfl rfl rfl rfl rfl rfl rfl (λC hC=>?_) (λC hC=>?_)
 ·repeat' first|refine gG ?_|exact gD|refine gB ?_ ?_<;>intro h
  show Goal _ _ _ [] _ _ _ _;exact zi ⟨ms [(10,1002),(11,1004),(12,1005)],rfl,⟨rfl,rfl,rfl,rfl,uh⟩,⟨rfl,rfl,rfl,rfl,rfl,rfl,rfl,rfl,rfl,uh⟩,rfl,rfl⟩
 ·cases r with
  |out=>cases U
  |ok v1 k2=>
   cases U;have h:zf _ _ _ _ _ _:=h;have hD:=zd6 d m k1 v none
   repeat' first|refine gG ?_|refine gB ?_ ?_<;>intro h|refine gR h (nm [0,1,2,3,4,5,6,7]) ?_
   exact zi ⟨none,_,_,_,nm [0,1,2,11,12,10],.inl rfl,hD,zI.refl _,⟨rfl,rfl,rfl,rfl,rfl,rfl,uh⟩,rfl,rfl,rfl,rfl,⟨.inl rfl,id,_,rfl,.refl _,⟨rfl,rfl,rfl,rfl,rfl,rfl,uh⟩,rfl,rfl⟩⟩
  |flt er k2=>
   cases U;have h:zU _ _ _ _ _ _:=h;have hD:=zd6 d m k2 0 (some J)
   repeat' first|refine gG ?_|refine gB ?_ ?_<;>intro h|(refine zo hC h (nm [0,1,2,3,4,5,6,7]) rfl rfl (zI.refl _) rfl rfl rfl rfl rfl rfl ?_)
   exact gU (zi ⟨some (flI J),_,_,_,nm [0,1,2,11,12,10],rfl,hD,zI.refl _,⟨rfl,rfl,rfl,rfl,rfl,rfl,uh⟩,rfl,rfl,rfl,rfl,⟨.inl rfl,id,_,rfl,.refl _,⟨rfl,rfl,rfl,rfl,rfl,rfl,uh⟩,rfl,rfl⟩⟩)
def zsi{i:Nat}{k k1:Kn}{v e:Int}(h:FnX Tryz.prog F [.one (.bx 5 0),.one (.bx 6 0),.one (.bx 7 0)] (imR d m k 0 1 2++clK i nd) (tKE d m i nd r))(J:trV r=some (v,e,k1)):
 zf Tryz.prog 94 [.one (.bx 0 0),.one (.cl F [] [.bx 5 0,.bx 6 0,.bx 7 0])] (imR d m k 0 1 2++clK i nd) (.tup [I v,I e]) (imR d m k1 0 1 2++clK i nd):=by
 refine zhZ T (m:=1) (Rm:=imR d m k 0 1 2++clK i nd++[(10,.box [.bx 0 0]),(11,.box [.p (ki 0)]),(12,.box [.p (ki 0)])])
  (sl1:=[(1,.one (.cl F [] [.bx 5 0,.bx 6 0,.bx 7 0])),(2,.one (.bx 10 0)),(4,.one (.bx 11 0)),(5,.one (.bx 12 0))]) (Tryz.func94) ud rfl rfl rfl rfl rfl rfl rfl rfl rfl rfl rfl (λC hC=>?_) (λC hC=>?_)
 ·repeat' first|refine gG ?_|exact gD|refine gB ?_ ?_<;>intro h
  show Goal _ _ _ [] _ _ _ _;exact zi ⟨ms [(10,1002),(11,1004),(12,1005)],rfl,⟨rfl,rfl,rfl,rfl,uh⟩,⟨rfl,rfl,rfl,rfl,rfl,rfl,rfl,rfl,rfl,uh⟩,rfl,rfl⟩
 ·cases r with
  |out=>cases J
  |ok v1 k2=>
   cases J;have h:zf _ _ _ _ _ _:=h;have U:=zd6 d m k1 v none
   repeat' first|refine gG ?_|refine gB ?_ ?_<;>intro h|refine gR h (nm [0,1,2,3,4,5,6,7]) ?_
   exact zi ⟨none,_,_,_,nm [0,1,2,11,12,10],.inl rfl,U,zI.refl _,⟨rfl,rfl,rfl,rfl,rfl,rfl,uh⟩,rfl,rfl,rfl,rfl,⟨.inl rfl,id,_,rfl,.refl _,⟨rfl,rfl,rfl,rfl,rfl,rfl,uh⟩,rfl,rfl⟩⟩
  |flt er k2=>
   cases J;have h:zU _ _ _ _ _ _:=h;have U:=zd6 d m k2 0 (some e)
   repeat' first|refine gG ?_|refine gB ?_ ?_<;>intro h|(refine zo hC h (nm [0,1,2,3,4,5,6,7]) rfl rfl (zI.refl _) rfl rfl rfl rfl rfl rfl ?_)
   exact gU (zi ⟨some (flI e),_,_,_,nm [0,1,2,11,12,10],rfl,U,zI.refl _,⟨rfl,rfl,rfl,rfl,rfl,rfl,uh⟩,rfl,rfl,rfl,rfl,⟨.inl rfl,id,_,rfl,.refl _,⟨rfl,rfl,rfl,rfl,rfl,rfl,uh⟩,rfl,rfl⟩⟩)
structure EnT where
 ac:Int
 be:Int
 af:Int
 bo:Int
def enR(x:EnT):List PV:=[ki x.ac,ki x.be,ki x.af,ki x.bo]
def enL(l:List EnT):PV:= .sl 4 (l.map enR)
def bdB(n:Int):Bool:=decide (-1099511627776<=n)&&decide (n<=1099511627776)
def zax(x:EnT):Bool:=decide (x.ac<0)|| !bdB x.ac|| !bdB x.be|| !bdB x.af|| !bdB x.bo
def zo0{x:EnT}(h:zax x=false):(0<=x.ac/\x.ac<=1099511627776)/\(-1099511627776<=x.be/\x.be<=1099511627776)/\(-1099511627776<=x.af/\x.af<=1099511627776)/\ -1099511627776<=x.bo/\x.bo<=1099511627776:=by
 simp only[zax,bdB,u0,uG,um,uq,uu]at h;omega
def zo1(x:EnT):Bool:= !decide (x.bo=1099511627776)&&decide (x.ac+x.af - x.be>x.bo)
def zl2(f:FuncId)(l:List EnT)(p:EnT->Unit->Bool)(nx:EnT->Unit->Unit)(inv:Unit->Prop)
 (hf: ∀x∈l,∀s:Unit,inv s->zf Tryz.prog f [zr (enR x)] [] (.bq (p x s)) ((λs:Unit=>[]) (nx x s))/\(p x s=false->inv (nx x s))) (s:Unit) (hs:inv s):
 zf Tryz.prog 36 [pS (.sl 4 (l.map enR)),.one (.cl f [] [])] [] (I (idxR p nx l 0 s).1) ((λs:Unit=>[]) (idxR p nx l 0 s).2):=by
 refine gO T Tryz.func36 λC hC=>?_;have hs0:=hs;refine wi 0 rfl λhl=>?_;rw[uk]at hl
 repeat' first|refine gG ?_|refine gB ?_ ?_<;>intro h
 rw[uk]
 refine zn (λq:Nat×Unit=>q.1<=l.length/\inv q.2/\idxR p nx (l.drop q.1) q.1 q.2=idxR p nx l 0 s) (λq=>(λs:Unit=>([(0,pS (.sl 4 (l.map enR))),(1,.one (.cl f [] [])),(7,I l.length),(8,I q.1)],[])) q.2) (λq=>l.length - q.1) hC
  (0,s) ⟨uE _,hs,rfl⟩ id gM ?_
 generalize idxR p nx l 0 s=res;clear hs hs0;rintro⟨i,s⟩ ⟨hi,hv,J⟩;simp only at hi hv J;refine zm T hC true 200 rfl ?_;refine zp rfl ?_ ?_<;>intro hh
 ·have hlt:i<l.length:=by simpa using hh
  clear hh;obtain⟨x,hx⟩:=zb hlt;rw[drop_at hx]at J;simp only[idxR]at J;have hv2:=(hf x (uv hx) s hv).2
  repeat' first|refine gG ?_|refine gB ?_ ?_<;>intro h|refine gI T (zq hx) ?_|refine yh hC (hf x (uv hx) s hv).1 id rfl rfl (zI.refl _) rfl rfl rfl rfl rfl rfl rfl rfl ?_|refine zl ?_
  ·rw[uw uf]at J;subst J;exact gF
  ·have U:p x s=false:=by assumption
   rw[U]at J;simp only[uB,uM]at J;rw[wrap64 ua];exact zh (i+1,nx x s) ⟨by simp only;omega,hv2 U,J⟩ id (by simp only;omega) gM
 ·have hge: ¬i<l.length:=by simpa using hh
  rw[uC ua]at J;simp only[idxR]at J;subst J
  repeat' first|refine gG ?_|refine gB ?_ ?_<;>intro h|refine ze ?_
  exact gF
def zsj(f:FuncId)(l:List EnT)(p:EnT->Unit->Bool)(nx:EnT->Unit->Unit)(inv:Unit->Prop)
 (hf: ∀x∈l,∀s:Unit,inv s->zf Tryz.prog f [zr (enR x)] [] (.bq (p x s)) ((λs:Unit=>[]) (nx x s))/\(p x s=false->inv (nx x s))) (s:Unit) (J:inv s):
 zf Tryz.prog 34 [pS (.sl 4 (l.map enR)),.one (.cl f [] [])] [] (.bq (anyR p nx l s).1) ((λs:Unit=>[]) (anyR p nx l s).2):=by
 refine gO T Tryz.func34 λC hC=>?_
 repeat' first|refine gG ?_|refine gB ?_ ?_<;>intro h|refine gR (zl2 f l p nx inv hf s J) (nm []) ?_
 exact zi ⟨.inl rfl,id,_,rfl,.qq (za4 p nx l 0 s),by rw[<-za5 p nx l 0 s];exact uh,rfl,rfl⟩
def ji(n:Int):zf Tryz.prog 38 [I n] [] (.bq (bdB n)) []:=by
 unfold bdB;refine gO T Tryz.func38 λC hC=>?_
 repeat' first|refine gG ?_|refine gB ?_ ?_<;>intro h|refine gQ ?_|refine gL ?_
 all_goals (try simp only[uk]at*)
 all_goals first
  |rfl
  |(simp;done)
  |(simp_all;done)
  |(simp_all;omega)
  |(intros;simp_all<;>omega)
def zo2(x:EnT):zf Tryz.prog 35 [zr (enR x)] [] (.bq (zax x)) []:=by
 have J:=ji x.ac;have h2:=ji x.be;have h3:=ji x.af;have h4:=ji x.bo;unfold zax;generalize bdB x.ac=b1 at*;generalize bdB x.be=b2 at*;generalize bdB x.af=b3 at*;generalize bdB x.bo=b4 at*;refine gO T Tryz.func35 λC hC=>?_
 repeat' first|refine gG ?_|refine gB ?_ ?_<;>intro h|refine gC J ?_|refine gC h2 ?_|refine gC h3 ?_|refine gC h4 ?_|refine gQ ?_|refine gL ?_
 all_goals (try simp only[uk]at*)
 all_goals first
  |rfl
  |(simp;done)
  |(simp_all;done)
  |(simp_all;omega)
  |(intros;simp_all<;>omega)
inductive Vn (α:Type) where
 |ok (v:α)
 |flt (e:Int)
 |out
def Vn.bind{α β:Type}:Vn α->(α->Vn β)->Vn β
 | .ok v,f=>f v
 | .flt e,_=> .flt e
 | .out,_=> .out
def Bn.vn:Bn->Vn Int
 | .ok v _=> .ok v
 | .flt e _=> .flt e
 | .out=> .out
abbrev kn0:Kn:=⟨[],[]⟩
structure Scp where
 ps:List Fld
 va:List Int
def vbV(d:zg)(m:Hp)(c:Scp)(s:Str):Vn Int:=match ixF c.ps s with
 |some i=>(match c.va[i]? with
  |some v=> .ok v
  |none=> .out)
 |none=>match ixF d.globals s with
  |some i=>(match m.g[i]? with
   |some v=> .ok v
   |none=> .out)
  |none=> .ok 0
def nbV(n:Int):Vn Int:=if n< -1099511627776\/1099511627776<n then .flt 5 else .ok n
def pdV(a b:Int):Vn Int:=if a.natAbs*b.natAbs>1099511627776 then .flt 5 else .ok (a*b)
def tw0(op a b:Int):Vn Int:=
 if op=9 then nbV (a+b)else if op=10 then nbV (a - b)else if op=11 then pdV a b
 else if op=14 then .ok (zcJ (decide (a=b)))else if op=15 then .ok (zcJ (!decide (a=b)))
 else if op=16 then .ok (zcJ (decide (a<b)))else if op=17 then .ok (zcJ (decide (a<=b)))
 else if op=22 then .ok (if a<b then b else a)else if op=23 then .ok (if b<a then b else a)
 else if b=0 then .flt 18 else if op=12 then .ok (Int.tdiv a b)else .ok (Int.tmod a b)
def twV(op a b:Int):Vn Int:=if inB a/\inB b then tw0 op a b else .out
def meaE(d:zg)(m:Hp)(g:Nat)(s:Str)(nd:Int):Option (Int×Int):=
 if isB m nd=false then some (0,2)else match zpL d s with
  |none=>some (0,9)
  |some i=>match d.measures[i]? with
   |none=>none
   |some x=>if ¬nd=0/\ ¬tyI d m nd=x.t then some (0,11)else(trV (meV d m g i nd kn0)).map λq=>(q.1,q.2.1)
def mesV(d:zg)(m:Hp)(g:Nat)(s:Str)(nd:Int):Vn Int:=match meaE d m g s nd with
 |none=> .out
 |some (v,e)=>if e=0 then .ok v else .flt e
def opsV(d:zg)(m:Hp)(g:Nat)(e:Ex)(l:List Int):Vn Int:=match l[0]? with
 |none=> .out
 |some a=>if e.op=5 then(fldI d m a e.s kn0).vn else if e.op=7 then mesV d m g e.s a
  else if e.op=8 then(if inB a then nbV (-a)else .out)else if e.op=18 then(if inB a then .ok (1 - a)else .out)
  else if e.op=24 then(if inB a then .ok (zi5 a)else .out)
  else match l[1]? with
   |none=> .out
   |some b=>twV e.op a b
mutual
def vaV(d:zg)(m:Hp)(G:Nat)(c:Scp):Nat->Ex->Vn Int
 |0,_=> .out
 |g+1,e=>if e.op=1\/e.op=2\/e.op=3 then .ok e.n else if e.op=4 then vbV d m c e.s
  else if e.op=19\/e.op=20 then(vatV d m G c g e 0).bind λa=>if(decide (a=1)==decide (e.op=19))=true then vatV d m G c g e 1 else .ok a
  else if e.op=21 then(vatV d m G c g e 0).bind λa=>if inB a/\a<=2 then vatV d m G c g e (2 - a).toNat else .out
  else if e.l.length<=1000000 then(vasV d m G c g e.l).bind λl=>opsV d m G e l else .out
def vatV(d:zg)(m:Hp)(G:Nat)(c:Scp):Nat->Ex->Nat->Vn Int
 |0,_,_=> .out
 |g+1,e,i=>match e.l[i]? with
  |none=> .out
  |some x=>vaV d m G c g x
def vasV(d:zg)(m:Hp)(G:Nat)(c:Scp):Nat->List Ex->Vn (List Int)
 |0,_=> .out
 |_+1,[]=> .ok []
 |g+1,x::r=>(vaV d m G c g x).bind λv=>(vasV d m G c g r).bind λl=> .ok (v::l)
end
def evV:Vn Int->Option (Int×Int)
 | .ok v=>some (v,0)
 | .flt e=>some (0,e)
 | .out=>none
def wS(d:zg)(m:Hp):Bool:=decide ((zcC d).2.2=0)&&zZ d m
def ztk(d:zg)(m:Hp)(g:Nat)(e:Ex)(nd:Int):Option (Int×Int):=
 if wS d m=false\/yE e=false then some (0,1)else if isB m nd=false then some (0,2)
 else if ¬(exT d (zbh d (tyI d m nd)) false e).2=0 then some (0,(exT d (zbh d (tyI d m nd)) false e).2)
 else(trV (inV d m g nd e kn0)).map λq=>(q.1,q.2.1)
def sumN(f:Int->Option (Int×Int)):List Int->Int->Vn Int
 | [],s=> .ok s
 |k::r,s=>match f k with
  |none=> .out
  |some (n,e)=>if ¬e=0 then .flt e else if inB n then(if bdB (s+n)=true then sumN f r (s+n)else .flt 5)else .out
def zv4(f:Pt->Int->Vn Int):List Pt->Int->Vn Int
 | [],s=> .ok s
 |p::r,s=>(f p s).bind λs=>zv4 f r s
def ptN(d:zg)(m:Hp)(g:Nat)(x:Ex)(l:List Int)(s:Int):Vn Int:=sumN (ztk d m g x) l s
def ptL(d:zg)(m:Hp)(p:Pt)(l:List Int):List Int:=if p.t=(⟨#[]⟩:UB)then [0]else l.filter λk=>decide (tyN d (ndG m k).t=p.t)
def ptP(d:zg)(m:Hp)(g:Nat)(l:List Int)(ps:List Pt)(s:Int):Vn Int:=zv4 (λp s=>ptN d m g p.x (ptL d m p l) s) ps s
def ptE(d:zg)(m:Hp)(g:Nat):Option (Int×Int):=if zZ d m=false then some (0,1)else evV (ptP d m g (vz d m).order d.pots 0)
def plB(t:Str):Bool:=decide (t=(⟨#[105,110,116]⟩:UB))||decide (t=(⟨#[98,111,111,108]⟩:UB))
def agB(q:Int×Fld):Bool:= !bdB q.1||(decide (q.2.t=(⟨#[98,111,111,108]⟩:UB))&& !decide (q.1=0)&& !decide (q.1=1))
def chE(d:zg)(c:Cl):Int×Pr:=match zaZ d c.p with
 |none=>(9,zor)
 |some i=>match d.procs[i]? with
  |none=>(9,zor)
  |some p=>if(!decide (p.res=(⟨#[]⟩:UB))&& !plB p.res)||p.params.any (λf=> !plB f.t)then(12,zor)
   else if ¬c.a.length=p.params.length then(3,zor)else if(List.zip c.a p.params).any agB=true then(11,zor)else(0,p)
def zv5(d:zg)(s:Str):Option Nat:=d.bounds.findIdx? λb=>decide (b.p=s)
def bnE(d:zg)(m:Hp)(g:Nat)(p:Pr)(c:Cl):Option (Int×Int):=match zv5 d p.n with
 |none=>some (1099511627776,0)
 |some i=>match d.bounds[i]? with
  |none=>none
  |some b=>evV (vaV d m g ⟨p.params,c.a⟩ g b.x)
def entE(d:zg)(m:Hp)(g:Nat)(c:Cl)(fuel:Int):Option (EnT×Option Hp×Int):=
 if ¬(chE d c).1=0 then some (⟨0,0,0,0⟩,none,(chE d c).1)else match ptE d m g with
 |none=>none
 |some (be,e)=>if ¬e=0 then some (⟨0,0,0,0⟩,none,e)else match bnE d m g (chE d c).2 c with
  |none=>none
  |some (bo,e)=>if ¬e=0 then some (⟨0,0,0,0⟩,none,e)else if ¬zd0 d m fuel=0 then some (⟨0,be,0,bo⟩,none,zd0 d m fuel)
   else if ¬zca d m c=0 then some (⟨0,be,0,bo⟩,none,zca d m c)else match plF (rnV d fuel g (chE d c).2 c.a (mc0 m))with
   |none=>none
   |some (_,_,x)=>if 1099511627776<x.acc.length then none else match ptE d ⟨x.g,x.ns⟩ g with
    |none=>none
    |some (af,e)=>some (⟨(ndC x.acc:Nat),be,af,bo⟩,some ⟨x.g,x.ns⟩,e)
def audF(f:Hp->Cl->Option (EnT×Option Hp×Int)):List Cl->Hp->Option (List EnT×Option Hp×Int)
 | [],m=>some ([],some m,0)
 |c::r,m=>match f m c with
  |none=>none
  |some (x,some m2,e)=>if ¬e=0 then some ([],none,e)else(audF f r m2).map λq=>if q.2.2=0 then(x::q.1,q.2)else q
  |some (_,none,e)=>some ([],none,e)
def zj0(d:zg)(g:Nat)(fuel:Int)(l:List Cl)(m:Hp):Option (List EnT×Option Hp×Int):=audF (λm c=>entE d m g c fuel) l m
def zcE(d:zg)(m:Hp)(g:Nat)(l:List Cl)(fuel:Int):Option (List EnT×Option Hp×Int):=
 if wS d m=false then some ([],none,1)else if fuel<0\/1048576<fuel then some ([],none,2)else if 2000<l.length then some ([],none,4)else zj0 d g fuel l m
def NzF(a:Ft):Prop:= ∀f,a=some f-> ¬f.2.2=0
theorem NzF.or{a b:Ft}(J:NzF a)(U:NzF b):NzF (orF a b):=by
 unfold orF;cases a with
 |none=>exact U
 |some f=>exact J
theorem NzF.first{α:Type}{g:α->Nat->Ft}(h: ∀x i,NzF (g x i)): ∀(l:List α) (i:Nat),NzF (firstF g l i)
 | [],_=>λf h=>by cases h
 |x::r,i=>by
  unfold firstF;cases hg:g x i with
  |none=>exact NzF.first h r (i+1)
  |some f=>intro f' e;cases e;exact h x i f hg
def zsk(d:zg):NzF (zfX d):=by
 unfold zfX zcb zfe zdN zcc zc2
 repeat' first|apply NzF.or|(apply NzF.first;intro x i)
 all_goals (intro f hf;(try dsimp only at hf);(try simp only[ftE,y5]at hf);repeat' split at hf)
 all_goals first
  |(cases hf;done)
  |(cases hf;exact(by decide: ¬(10:Int)=0))
  |(cases hf;exact(by decide: ¬(9:Int)=0))
  |(cases hf;exact(by decide: ¬(11:Int)=0))
  |(cases hf;assumption)
theorem ztl(h:(zcC d).2.2=0):yl d=true/\zfX d=none:=by
 unfold zcC at h;cases hv:yl d with
 |false=>rw[hv]at h;simp at h
 |true=>
  rw[hv]at h;simp only[qz,uM,zwG]at h;refine⟨rfl,?_⟩;cases hf:zfX d with
  |none=>rfl
  |some f=>rw[hf]at h;exact absurd h (zsk d f hf)
def jj(hd:yl d=true)(h:zZ d m=true):xy m/\zgI d m:=by
 have hs:=jB hd;simp only[zZ,um,uq,uy,uu]at h;obtain⟨⟨⟨⟨⟨_,hg⟩,hn⟩,U⟩,_⟩,_⟩:=h;refine⟨⟨by have:=hs.gl;omega,ua,λx hx=>?_⟩,λx hx=>?_⟩
 ·obtain⟨h0,ty,J,hle⟩:=wg (List.all_eq_true.1 U x hx);have:=hs.tyf ty (uv J);omega
 ·obtain⟨h0,ty,J,_⟩:=wg (List.all_eq_true.1 U x hx);exact⟨h0,(ux.1 J).1⟩
def zo3{t:z7}(h:t∈d.types):yK d t.n=true:=by
 unfold yK zgJ;rw[oo];exact⟨t,h,ue⟩
def zo4(hw:zgI d m){n:Int}(h:isB m n=true):tyI d m n=(⟨#[]⟩:UB)\/yK d (tyI d m n)=true:=by
 unfold isB at h;simp only[um,uq]at h;unfold tyI;by_cases J:n=0
 ·rw[uw J];exact .inl rfl
 ·rw[ur J];obtain⟨x,U⟩:=zb (l:=m.n) (i:=(n - 1).toNat) ua;obtain⟨h1,h2⟩:=hw x (uv U);obtain⟨y,hy⟩:=zb h2;rw[show tyN d (ndG m n).t=y.n by simp only[ndG,U,Option.getD_some,tyN,hy,uH]];exact .inr (zo3 (uv hy))
theorem zl3(U:xy m)(g:Nat)(nd:Int)(e:Ex)(k:Kn):
 FnX Tryz.prog 95 [.one (.bx 5 0),.one (.bx 6 0),.one (.bx 7 0)] (imR d m k 0 1 2++clX e nd) (tEE d m e nd (inV d m g nd e k)):=by
 have J:=(zgZ d m U g).1 nd e k;cases hr:inV d m g nd e k with
 |out=>trivial
 |ok v k1=>
  rw[hr]at J;have J:zf _ _ _ _ _ _:=J;show zf _ _ _ _ _ _;refine gO T Tryz.func95 λC hC=>?_
  repeat' first|refine gG ?_|refine gB ?_ ?_<;>intro h|refine gR J (nm [0,1,2]) ?_
  exact gE
 |flt er k1=>
  rw[hr]at J;have J:zU _ _ _ _ _ _:=J;show zU _ _ _ _ _ _;refine zR T Tryz.func95 ud rfl rfl rfl λC hC=>?_
  repeat' first|refine gG ?_|refine gB ?_ ?_<;>intro h|(refine zo hC J (nm [0,1,2]) rfl rfl (zI.refl _) rfl rfl rfl rfl rfl rfl ?_)
  exact gU (zi ⟨rfl,id,⟨rfl,rfl,rfl,rfl,rfl,rfl,uh⟩,rfl,rfl⟩)
theorem zl4(U:xy m)(g:Nat)(nd:Int)(i:Nat)(k:Kn):
 FnX Tryz.prog 258 [.one (.bx 5 0),.one (.bx 6 0),.one (.bx 7 0)] (imR d m k 0 1 2++clK i nd) (tKE d m i nd (meV d m g i nd k)):=by
 have J:=(zgZ d m U g).2.2 i nd k;cases hr:meV d m g i nd k with
 |out=>trivial
 |ok v k1=>
  rw[hr]at J;have J:zf _ _ _ _ _ _:=J;show zf _ _ _ _ _ _;refine gO T Tryz.func258 λC hC=>?_
  repeat' first|refine gG ?_|refine gB ?_ ?_<;>intro h|refine gR J (nm [0,1,2]) ?_
  exact gE
 |flt er k1=>
  rw[hr]at J;have J:zU _ _ _ _ _ _:=J;show zU _ _ _ _ _ _;refine zR T Tryz.func258 ud rfl rfl rfl λC hC=>?_
  repeat' first|refine gG ?_|refine gB ?_ ?_<;>intro h|(refine zo hC J (nm [0,1,2]) rfl rfl (zI.refl _) rfl rfl rfl rfl rfl rfl ?_)
  exact gU (zi ⟨rfl,id,⟨rfl,rfl,rfl,rfl,rfl,rfl,uh⟩,rfl,rfl⟩)
def zsl(h:wS d m=false):(zcC d).2.2≠0\/zZ d m=false:=by
 unfold wS at h;simp only[qS,uu]at h;exact h
def vG(h:wS d m=true):(zcC d).2.2=0/\zZ d m=true:=by
 unfold wS at h;simp only[um,uq]at h;exact h
variable {g:Nat}
theorem ziq{e:Ex}{v:Int}(h:ztk d m g e nd=some (v,er)):zf Tryz.prog 55 [zr (zA d),zr (yS m),zr (yp e),I nd] [] (.tup [I v,I er]) []:=by
 unfold ztk at h;cases h1:wS d m with
 |false=>
  rw[uw (.inl h1)]at h;cases h;have U:=zoP (zsl h1);refine gO T Tryz.func55 λC hC=>?_
  repeat' first|refine gG ?_|exact gD|refine gB ?_ ?_<;>intro h|refine gC U ?_|refine ze ?_
  exact gF
 |true=>
  obtain⟨hc,hv⟩:=vG h1;obtain⟨hd,hf⟩:=ztl hc;obtain⟨hs,hw⟩:=jj hd hv;have U:=zlR hc hv;have hE:=yU e;cases h2:yE e with
  |false=>
   rw[uw (.inr h2)]at h;cases h;rw[h2]at hE;refine gO T Tryz.func55 λC hC=>?_
   repeat' first|refine gG ?_|exact gD|refine gB ?_ ?_<;>intro h|refine gR U (nm [100,101,102]) ?_|refine gC hE ?_|refine ze ?_
   exact gF
  |true=>
   rw[ur (by simp[h1,h2])]at h;rw[h2]at hE;have hI:=zqd d m kn0 nd;cases h3:isB m nd with
   |false=>
    rw[uw h3]at h;cases h;rw[h3]at hI;refine gO T Tryz.func55 λC hC=>?_
    repeat' first|refine gG ?_|exact gD|refine gB ?_ ?_<;>intro h|refine gR U (nm [100,101,102]) ?_|refine gC hE ?_|refine gR hI (nm [100,101,102]) ?_|refine ze ?_
    exact gF
   |true=>
    rw[ur (by simp[h3])]at h;rw[h3]at hI;have hT:=zlU hs hw kn0 h3;have J:=zgW hd hf (tyI d m nd) e h2 (zo4 hw h3);generalize exT d (zbh d (tyI d m nd)) false e=q at h J;obtain⟨q1,q2⟩:=q;simp only at h J;by_cases h4:q2=0
    ·subst h4;rw[ur ue]at h;cases ht:trV (inV d m g nd e kn0)with
     |none=>rw[ht]at h;cases h
     |some w=>
      obtain⟨v1,e1,k1⟩:=w;rw[ht]at h;cases h;have hX:=zsh (zl3 hs g nd e kn0) ht;refine gO T Tryz.func55 λC hC=>?_
      repeat' first|refine gG ?_|exact gD|refine gB ?_ ?_<;>intro h|refine gR U (nm [100,101,102]) ?_|refine gC hE ?_|refine gR hI (nm [100,101,102]) ?_|refine gK hT (nm [100,101,102]) ?_|refine gC J ?_|refine gR hX (nm [100,101,102,3,4,1010,1006,1007]) ?_|refine ze ?_
      exact gF
    ·rw[uw h4]at h;cases h;refine gO T Tryz.func55 λC hC=>?_
     repeat' first|refine gG ?_|(exfalso;simp[h4]at h;done)|exact gD|refine gB ?_ ?_<;>intro h|refine gR U (nm [100,101,102]) ?_|refine gC hE ?_|refine gR hI (nm [100,101,102]) ?_|refine gK hT (nm [100,101,102]) ?_|refine gC J ?_|refine ze ?_
     exact gF
theorem zo5(h1:wS d m=true){s:Str}{v:Int}(h:meaE d m g s nd=some (v,er)):zf Tryz.prog 227 [zr (zA d),zr (yS m),Sr s,I nd] [] (.tup [I v,I er]) []:=by
 unfold meaE at h;obtain⟨hc,hv⟩:=vG h1;obtain⟨hd,hf⟩:=ztl hc;obtain⟨hs,hw⟩:=jj hd hv;have hM:=zlR hc hv;have U:=zqd d m kn0 nd;cases h3:isB m nd with
 |false=>
  rw[uw h3]at h;cases h;rw[h3]at U;refine gO T Tryz.func227 λC hC=>?_
  repeat' first|refine gG ?_|exact gD|refine gB ?_ ?_<;>intro h|refine gR hM (nm [100,101,102]) ?_|refine gR U (nm [100,101,102]) ?_|refine ze ?_
  exact gF
 |true=>
  rw[ur (by simp[h3])]at h;rw[h3]at U;have J:=zfr d m kn0 s;have hT:=zlU hs hw kn0 h3;cases hi:zpL d s with
  |none=>
   rw[hi]at h J;cases h;simp only[idxI]at J;refine gO T Tryz.func227 λC hC=>?_
   repeat' first|refine gG ?_|exact gD|refine gB ?_ ?_<;>intro h|refine gR hM (nm [100,101,102]) ?_|refine gR U (nm [100,101,102]) ?_|refine gR J (nm [100,101,102]) ?_|refine ze ?_
   exact gF
  |some i=>
   rw[hi]at h J;simp only[idxI]at J;cases hx:d.measures[i]? with
   |none=>simp only[hx]at h;cases h
   |some x=>
    simp only[hx]at h;by_cases h4: ¬nd=0/\ ¬tyI d m nd=x.t
    ·rw[uw h4]at h;cases h;refine gO T Tryz.func227 λC hC=>?_
     repeat' first|refine gG ?_|exact gD|(exfalso;have h9:=uj h;omega)|(exfalso;simp[h4.1,h4.2]at h;done)|refine gB ?_ ?_<;>intro h|refine gR hM (nm [100,101,102]) ?_|refine gR U (nm [100,101,102]) ?_|refine gR J (nm [100,101,102]) ?_|refine gK hT (nm [100,101,102]) ?_|(refine gI T (zq hx) ?_)|refine ze ?_
     exact gF
    ·rw[ur h4]at h;cases ht:trV (meV d m g i nd kn0)with
     |none=>rw[ht]at h;cases h
     |some w=>
      obtain⟨v1,e1,k1⟩:=w;rw[ht]at h;cases h;have hX:=zsi (zl4 hs g nd i kn0) ht;refine gO T Tryz.func227 λC hC=>?_
      repeat' first|refine gG ?_|exact gD|(exfalso;have h9:=uj h;omega)|(exfalso;simp at h;simp_all;done)|refine gB ?_ ?_<;>intro h|refine gR hM (nm [100,101,102]) ?_|refine gR U (nm [100,101,102]) ?_|refine gR J (nm [100,101,102]) ?_|refine gK hT (nm [100,101,102]) ?_|(refine gI T (zq hx) ?_)|refine gR hX (nm [100,101,102,3,4,1010,1012,1007]) ?_|refine ze ?_
      all_goals exact gF
end Hw.Gm
namespace Hw
open Go
theorem zir{M:Mem}{g:Nat->Option Value}{z:Value}(J:z.oneCell'=true): ∀(m o:Nat),(∀j,j<m->g (o+j)=some z)->RowsIn M g 1 (List.replicate m [PV.k z]) o
 |0,_,_=>by simp[RowsIn]
 |m+1,o,h=>by
  rw[q6];simp only[RowsIn,RowIn,RepPV,uU,Ul];refine⟨⟨⟨z,h 0 ua,rfl,J⟩,uh⟩,zir J m (o+1) λj hj=>?_⟩
  grind
variable {P:Program}{af:Array Edge}{d:Option Nat}{el:TypeId}{ps:String}{rows:List (List PV)}{x:Operand}{z:Value}
section
variable {ty:TypeId} {g:Option (Nat×Bool)} {t:TypeId}
def zl5{id k m:Nat}(hx:okc x (.one (.sv id (k*1) m)))(he:elemSz P t=some (el,1))(hz: ∀w,(zeroValue el).run P w= .ok z w)(hzc:z.cells= #[z])(h1:z.oneCell'=true)(hkm:k+m<=rows.length):
 Snd P ⟨d,.call ⟨.builtin .clear,#[x],#[t]⟩,ty,ps,af,g⟩ (rq x (.one (.sv id (k*1) m))) [(id,.arr 1 rows)] [] .un [(id,some (.arr 1 (rows.take k++List.replicate m [PV.k z]++rows.drop (k+m))))]:=by
 intro C st M ρ a w hH hs1 hT hF hd q Q hk;have e1:=hH.evS (zt hx hs1);simp only[RepS,RepV]at e1;obtain⟨ii,hu,hinf,hsz⟩:=zw he;obtain⟨ad,cap,h3,h4,h5,h6⟩:=hH.zH.res id _ hT.1;by_cases h0:m=0
 ·subst h0;have hrow:rows.take k++List.replicate 0 [.k z]++rows.drop (k+0)=rows:=by simp
  rw[hrow]at hk
  obtain⟨ad3,c3,hv⟩: ∃(ad3:Option Addr) (c3:Nat),a.eval x= .slice ad3 0 c3:=by
   grind
  have U:(execOp a.eval ⟨d,.call ⟨.builtin .clear,#[x],#[t]⟩,ty,ps,af,g⟩).run P w= .ok (.value (.tuple #[])) w:=by
   cases ad3 with
   |none=>simp[execOp,resolve,invoke,builtin,Builtin.clear_,run_underlying hu,hv]
   |some b=>simp[execOp,resolve,invoke,builtin,Builtin.clear_,run_underlying hu,hv]
  unfold Oper.wp;rw[U,Oper.upon_value];exact hk _ _ M ρ (hH.turn hT.1 (λk _=>rfl) (uJ _) rfl rfl rfl ⟨ad,cap,h3,h4,h5,h6⟩ (by simp only[RepS]) hd)
 ·obtain⟨b,o,N,cp,c3,hid,hv,_,_⟩:=e1.resolve_left λh=>h0 h.1
  have h3':=h3;rw[hid]at h3;simp only[Value.slice.injEq]at h3;rcases h6 with⟨h6,_⟩|⟨b',o',cs,el',fz,h6,h7,h7',h8,h9⟩
  ·omega
  ·rw[h6]at h3;have hbo:b=b'/\o=o':=by have:=h3.1;simp at this;exact this
   obtain⟨rfl,rfl⟩:=hbo;have hst:=zO (P:=P) b (o+k*1) el' fz (List.replicate m z) 0 cs w h7 h7' (by simp only[qa];omega) (λv hv=>by rw[List.eq_of_mem_replicate hv];exact h1)
   have hzl:(Builtin.zeroCells z.cells m).toList=List.replicate m z:=by
    rw[hzc];simp[Builtin.zeroCells]
    apply List.ext_getElem
    ·simp
    ·intro i h1 h2;simp[Nat.mod_one]
   have U:(execOp a.eval ⟨d,.call ⟨.builtin .clear,#[x],#[t]⟩,ty,ps,af,g⟩).run P w= .ok (.value (.tuple #[])) (w.setRow b (setAt cs.toList (o+k*1) (List.replicate m z)).toArray):=by
    rw[qj]at hst;obtain⟨m',rfl⟩: ∃m',m=m'+1:=⟨m - 1,ua⟩;simp[execOp,resolve,invoke,builtin,Builtin.clear_,run_underlying hu,hv,hz,hzl];simp only[Nat.mul_one]at hst;rw[hst];rfl
   unfold Oper.wp;rw[U,Oper.upon_value];have hcsl:o+k*1+(List.replicate m z).length<=cs.toList.length:=by simp only[qa,qg];omega
   have hnew:RowsIn M (λq=>(setAt cs.toList (o+k*1) (List.replicate m z))[q]?) 1 (rows.take k++List.replicate m [PV.k z]++rows.drop (k+m)) o:=by
    have J: ∀q:Nat,(λq:Nat=>(setAt cs.toList (o+k*1) (List.replicate m z))[q]?) q=if q<o+k*1 then cs[q]? else if q<o+k*1+m then(List.replicate m z)[q - (o+k*1)]? else cs[q]?:=λq=>by
     simp only[];rw[yD _ _ _ _ (by simp only[qa,qg];omega)];simp
    generalize (λq:Nat=>(setAt cs.toList (o+k*1) (List.replicate m z))[q]?)=g' at J⊢;have htl:(rows.take k).length=k:=by rw[tj];omega
    refine RowsIn.append (RowsIn.append (RowsIn.congr (λq hq=>?_) (h9.take k)) ?_) ?_
    ·rw[htl]at hq;rw[J,uw ua]
    ·rw[htl];refine zir h1 m _ λj hj=>?_;rw[J,ur ua,uw ua,show o+k*1+j - (o+k*1)=j by omega,oc,uw hj]
    ·rw[uP,htl,qa];refine RowsIn.congr (λq hq=>?_) (h9.drop (k+m));rw[J,ur ua,ur ua]
   have hlen:(rows.take k++List.replicate m [PV.k z]++rows.drop (k+m)).length=rows.length:=by
    simp only[uP,tj,tA,qa];omega
   have hsize:(setAt cs.toList (o+k*1) (List.replicate m z)).toArray.size=cs.size:=by rw[qp,yk _ _ _ hcsl,qg]
   refine hk _ _ M ρ (hH.turn hT.1 (λk' hk'=>setRow_other w b k' _ (λe'=>hk' (by simp[h3',h6,Bk,blk,e']))) ue rfl rfl rfl
    ⟨ad,cap,by simp_all,ua,h5,.inr ⟨b,o,_,el',fz,h6,setRow_heap w b _ _ el' _ h7,?_,?_,?_⟩⟩ (by simp only[RepS]) hd)
   ·simp_all
   ·omega
   ·simpa using hnew
end
section
variable {C:Ctx} {k:List Frm} {n:Nat} {sl:zd} {tab:Tab} {Q:Exit->St->Prop} {all:Array Oper} {rest:List Oper}
def zl6{t ty:TypeId}{g0:Option (Nat×Bool)}{gs:zd}{md:Mode}(hC:C.low){id kk m:Nat}(rows3:List (List PV))
 (hx:ev sl x=some (.one (.sv id (kk*1) m))) (hT:tg tab id=some (.arr 1 rows)) (he:elemSz P t=some (el,1)) (hz: ∀w,(zeroValue el).run P w= .ok z w) (J:z.cells= #[z]) (h1:z.oneCell'=true) (U:kk+m<=rows.length)
 (h3:rows.take kk++List.replicate m [PV.k z]++rows.drop (kk+m)=rows3) (hm:metL all sl g0=some gs) (hd:dok d n=true)
 (g:Goal P C (.ops all rest (nx md ⟨d,gs++rq x (.one (.sv id (kk*1) m)),[(id,.arr 1 rows)],[],.un,[(id,some (.arr 1 rows3))]⟩)) k n (app d .un [(id,some (.arr 1 rows3))] ⟨n,sl,tab⟩).sl ((id,some (.arr 1 rows3))::tab) Q):
 Goal P C (.ops all (⟨d,.call ⟨.builtin .clear,#[x],#[t]⟩,ty,ps,af,g0⟩::rest) md) k n sl tab Q:=by
 subst h3;have e1:=zu (st:=⟨n,sl,tab⟩) hx;have:=zj hm (zl5 (P:=P) (d:=d) (ty:=ty) (ps:=ps) (af:=af) (g:=g0) e1.1 he hz J h1 U) (n:=n) (tab:=tab);exact zN (L:=⟨d,gs++rq x (.one (.sv id (kk*1) m)),[(id,.arr 1 rows)],[],.un,[(id,some (.arr 1 (rows.take kk++List.replicate m [PV.k z]++rows.drop (kk+m))))]⟩) hC this.1 rfl ⟨by rw[za];simp_all,⟨hT,uh⟩,rfl,hd⟩ g
end
end Hw
namespace Hw.Gm
open Go Go.Proofs Hw.M Ps
abbrev ptB(d:zg)(m:Hp)(p:Pt)(a b c:Nat):RL:=[(a,.box ((zA d).map V.p)),(b,.box ((yS m).map V.p)),(c,.box ((zhB p).map V.p))]
def zis(d:zg)(m:Hp)(p:Pt)(k:Int):Bool:= !decide (tyN d (ndG m k).t=p.t)
def zv6(m:Hp)(k:Int):Prop:=1<=k/\k<=m.n.length
variable {d:zg}{m:Hp}
def zl7(hs:xy m)(hw:zgI d m)(p:Pt){k:Int}(hk:zv6 m k):zf Tryz.prog 54 [I k,.one (.bx 0 0),.one (.bx 1 0),.one (.bx 2 0)] (ptB d m p 0 1 2) (.bq (zis d m p k)) (ptB d m p 0 1 2):=by
 have hn:=hs.n;obtain⟨k1,k2⟩:=hk;obtain⟨x,J⟩:=zb (l:=m.n) (i:=(k - 1).toNat) ua;obtain⟨h1,h2⟩:=hw x (uv J);obtain⟨y,hy⟩:=zb h2;have U:IntKind.i64.wrap (k - 1)=k - 1:=wrap64 ua;have hof:zis d m p k= !decide (y.n=p.t):=by simp only[zis,ndG,J,Option.getD_some,tyN,hy,uH]
 rw[hof];refine gO T Tryz.func54 λC hC=>?_
 repeat' first|refine gG ?_|refine gB ?_ ?_<;>intro h|(rw[U];refine gI T (yV J) ?_)|(refine xX T hC rfl rfl rfl h1 (yV hy) rfl rfl ?_)|refine ze ?_
 exact gE
abbrev ptC:S:= .one (.cl 54 [] [.bx 5 0,.bx 6 0,.bx 7 0])
abbrev ptR(d:zg)(m:Hp)(p:Pt)(l:List Int):RL:=(0,.arr 1 (l.map z8))::ptB d m p 5 6 7
abbrev ptT(d:zg)(m:Hp)(p:Pt)(l:List Int):Tab:=[(0,some (.arr 1 (l.map z8))),(5,some (.box ((zA d).map V.p))),(6,some (.box ((yS m).map V.p))),(7,some (.box ((zhB p).map V.p)))]
variable {i:Nat}{q:Int->Bool}{x:Int}
def zg0{l:List Int}(h:l[i]?=some x)(U:q x=true)(hn: ∀j y,j<i->l[j]?=some y->q y=false):l.findIdx? q=some i:=by
 rw[tL];obtain⟨J,he⟩:=ux.1 h;refine⟨J,by rw[he];exact U,λj hj=>?_⟩;rw[hn j _ hj (th ua)];simp
def zjz{l:List Int}(U: ∀j y,j<l.length->l[j]?=some y->q y=false):l.findIdx? q=none:=by
 rw[qX];intro y hy;obtain⟨j,J⟩:=tK hy;exact U j y (ux.1 J).1 J
def zsm(hs:xy m)(hw:zgI d m)(p:Pt){l:List Int}(hl: ∀x∈l,zv6 m x):
 zf Tryz.prog 88 [.one (.ar 0),ptC] (ptR d m p l) (I (idxI (l.findIdx? (zis d m p)))) (ptR d m p l):=by
 have J:(l.map z8).length=l.length:=uk _;refine gO T Tryz.func88 λC hC=>?_;refine zla 0 rfl rfl λU=>?_;rw[J]at U
 repeat' first|refine gG ?_|refine gB ?_ ?_<;>intro h
 refine zn (λi:Nat=>i<=l.length/\ ∀j y,j<i->l[j]?=some y->zis d m p y=false) (λi=>([(0,.one (.ar 0)),(1,ptC),(7,I l.length),(8,I i)],ptT d m p l)) (λi=>l.length - i) hC
  0 ⟨uE _,λj y hj=>absurd hj (oD _)⟩ id ⟨rfl,⟨rfl,rfl,by rw[<-J];rfl,rfl,uh⟩,⟨rfl,rfl,rfl,rfl,uh⟩,rfl,λ_ _=>rfl⟩ ?_
 rintro i ⟨hi,hn⟩;refine zm T hC true 200 rfl ?_;refine zp rfl ?_ ?_<;>intro h
 ·have hlt:i<l.length:=by simpa using h
  clear h;obtain⟨x,hx⟩:=zb hlt;have hP:=zl7 hs hw p (hl x (uv hx));cases hq:zis d m p x with
  |true=>
   rw[hq]at hP;rw[zg0 hx hq hn];simp only[idxI]
   repeat' first|refine gG ?_|exact gD|refine gB ?_ ?_<;>intro h|(refine jH T hC (rows:=l.map z8) rfl rfl rfl rfl (uD _) (by rw[J];omega) rfl rfl ?_)|(refine jg T hC i 0 (rows:=l.map z8) (row:=z8 x) rfl rfl rfl ue (by rw[uK,hx];rfl) rfl rfl rfl ?_)|refine gR hP (nm [5,6,7]) ?_|refine zl ?_
   exact gE
  |false=>
   rw[hq]at hP
   repeat' first|refine gG ?_|exact gD|refine gB ?_ ?_<;>intro h|(refine jH T hC (rows:=l.map z8) rfl rfl rfl rfl (uD _) (by rw[J];omega) rfl rfl ?_)|(refine jg T hC i 0 (rows:=l.map z8) (row:=z8 x) rfl rfl rfl ue (by rw[uK,hx];rfl) rfl rfl rfl ?_)|refine gR hP (nm [5,6,7]) ?_|refine zl ?_
   rw[wrap64 ua];exact zh (i+1) ⟨ua,λj y hj hy=>(oR.1 hj).elim (λh1=>hn j y h1 hy) (λe=>by subst e;rw[hx]at hy;cases hy;exact hq)⟩ id ua gM
 ·have hge: ¬i<l.length:=by simpa using h
  clear h;rw[zjz λj y hj=>hn j y ua];simp only[idxI]
  repeat' first|refine gG ?_|refine gB ?_ ?_<;>intro h|refine ze ?_
  exact gE
def filter_all{l:List Int}(h: ∀x∈l,q x=false):l.filter (λx=> !q x)=l:=by
 rw[List.filter_eq_self];intro x J;rw[h x J];rfl
def take_set{l:List Int}(h:i<l.length):(l.set i x).take (i+1)=l.take i++[x]:=by
 apply List.ext_getElem?
 intro j;rw[qL,qU,Uq,tj,Nat.min_eq_left ua];by_cases J:j<i
 ·rw[uw ua,ur ua,uw J,qL,uw J]
 ·by_cases h2:j=i
  ·subst h2;rw[uw ua,uw rfl,uw h,ur J];simp
  ·rw[ur ua,ur J];rw[tZ ug]
def drop_set{l:List Int}{j:Nat}(h:i<j):(l.set i x).drop j=l.drop j:=by
 apply List.ext_getElem?
 intro k;rw[u9,u9,qU,ur ua]
theorem zsn(hs:xy m)(hw:zgI d m)(p:Pt){l:List Int}(hl: ∀x∈l,zv6 m x):
 zf Tryz.prog 53 [.one (.ar 0),ptC] (ptR d m p l) (.one (.ar 2)) ((2,.arr 1 ((l.filter λx=> !zis d m p x).map z8))::ptB d m p 5 6 7):=by
 have hI:=zsm hs hw p hl;have hll:(l.map z8).length=l.length:=uk _;refine gO T Tryz.func53 λC hC=>?_;refine zla 0 rfl rfl λhlen=>?_;rw[hll]at hlen;cases hi:l.findIdx? (zis d m p)with
 |none=>
  rw[hi]at hI;simp only[idxI]at hI;rw[filter_all (λx hx=>by have:=qX.1 hi x hx;simpa using this)]
  repeat' first|refine gG ?_|exact gD|refine gB ?_ ?_<;>intro h|refine gR hI (nm [0,5,6,7]) ?_
  exact gW [0,1,0]
 |some i0=>
  rw[hi]at hI;simp only[idxI]at hI;obtain⟨hi1,hi2,hi3⟩:=tL.1 hi;have hw0:IntKind.i64.wrap ((i0:Int)+1)=((i0+1:Nat):Int):=by rw[wrap64 ua];omega
  repeat' first|refine gG ?_|(exfalso;have h9:=uj h;omega)|refine gB ?_ ?_<;>intro h|refine gR hI (nm [0,5,6,7]) ?_
  rw[hw0]
  refine zn (λq:Nat×Nat×List Int=>q.1<q.2.1/\q.2.1<=l.length/\q.2.2.length=l.length/\q.2.2.take q.1=(l.take q.2.1).filter (λx=> !zis d m p x)/\q.2.2.drop q.2.1=l.drop q.2.1)
   (λq=>([(0,.one (.ar 0)),(1,ptC),(5,I q.1),(6,I q.2.1)],ptT d m p q.2.2)) (λq=>l.length - q.2.1) hC
   (i0,i0+1,l) ⟨ue,by simp only;omega,rfl,?_,rfl⟩ id gM ?_
  ·simp only
   have ht:(l.take i0).filter (λx=> !zis d m p x)=l.take i0:=filter_all λx hx=>by
    obtain⟨j,hj⟩:=tK hx;rw[qL]at hj;split at hj
    ·rename_i hlt;have:=hi3 j hlt;obtain⟨h5,h6⟩:=ux.1 hj;rw[h6]at this;simpa using this
    ·cases hj
   rw[yc (th hi1),oa,ht];simp[hi2]
  rintro⟨i,j,cur⟩ ⟨hij,hj,J,htk,hdr⟩;simp only at hij hj J htk hdr;have U:(cur.map z8).length=l.length:=by rw[uk,J]
  change Goal _ _ _ _ _ [(0,.one (.ar 0)),(1,ptC),(5,I (i:Int)),(6,I (j:Int))] (ptT d m p cur) _;have hcu: ∀k,k<l.length-> ∃y,cur[k]?=some y:=λk hk=>zb ua
  refine zm T hC true 200 rfl ?_;refine zp rfl ?_ ?_<;>intro h
  ·have hlt:j<l.length:=by simp only[uk,J]at h;simpa using h
   clear h;obtain⟨x,hx⟩:=zb hlt
   have hxc:cur[j]?=some x:=by
    have:=u5 (λq:List Int=>q[0]?) hdr;simp only[u9,qj]at this;rw[this];exact hx
   have hP:=zl7 hs hw p (hl x (uv hx));have hw3:IntKind.i64.wrap ((j:Int)+1)=((j+1:Nat):Int):=by rw[wrap64 ua];omega
   cases hq:zis d m p x with
   |true=>
    rw[hq]at hP
    repeat' first|refine gG ?_|exact gD|refine gB ?_ ?_<;>intro h|(refine jH T hC (rows:=cur.map z8) rfl rfl rfl rfl (uD _) (by rw[U];omega) rfl rfl ?_)|(refine jg T hC j 0 (rows:=cur.map z8) (row:=z8 x) rfl rfl rfl ue (by rw[uK,hxc];rfl) rfl rfl rfl ?_)|refine gR hP (nm [5,6,7]) ?_|refine zl ?_
    rw[hw3];refine zh (i,j+1,cur) ⟨by simp only;omega,by simp only;omega,J,?_,?_⟩ id (by simp only;omega) gM
    ·simp only;rw[yc hx,oa,<-htk];simp[hq]
    ·simp only;have:=u5 (List.drop 1) hdr;rwa [tG,tG]at this
   |false=>
    rw[hq]at hP;obtain⟨y,hy⟩:=hcu i ua;have hw2:IntKind.i64.wrap ((i:Int)+1)=((i+1:Nat):Int):=by rw[wrap64 ua];omega
    have hset:(cur.map z8).set i (setAt (z8 y) 0 [ki x])=(cur.set i x).map z8:=by rw[Uf];rfl
    repeat' first|refine gG ?_|exact gD|refine gB ?_ ?_<;>intro h|(refine jH T hC (rows:=cur.map z8) rfl rfl rfl rfl (uD _) (by rw[U];omega) rfl rfl ?_)|(refine jg T hC j 0 (rows:=cur.map z8) (row:=z8 x) rfl rfl rfl ue (by rw[uK,hxc];rfl) rfl rfl rfl ?_)|refine gR hP (nm [5,6,7]) ?_|refine zl ?_
    refine zdM T hC i 0 (rows:=cur.map z8) (row:=z8 y) (us:=[ki x]) rfl rfl rfl rfl rfl rfl ue (by rw[uK,hy];rfl) (uJ 1) hset rfl ?_
    repeat' first|refine gG ?_|refine gB ?_ ?_<;>intro h|refine zl ?_
    rw[hw2,hw3];refine zh (i+1,j+1,cur.set i x) ⟨by simp only;omega,by simp only;omega,by simp only[qQ];exact J,?_,?_⟩ id (by simp only;omega) gM
    ·simp only;rw[yc hx,oa,<-htk,take_set ua];simp[hq]
    ·simp only;rw[drop_set ua];have:=u5 (List.drop 1) hdr;rwa [tG,tG]at this
  ·have hge: ¬j<l.length:=by simp only[uk,J]at h;simpa using h
   clear h;have hjl:j=l.length:=by omega
   rw[uQ (l:=l) (i:=j) ua]at htk;have hil:i<=cur.length:=by omega
   have h3:(cur.map z8).take i++List.replicate ((cur.map z8).length - i) [PV.k (.int .i64 0)]++(cur.map z8).drop (i+((cur.map z8).length - i))=(cur.take i).map z8++List.replicate (l.length - i) [PV.k (.int .i64 0)]:=by
    rw[U,uC (by rw[U];omega),uV,qo]
   have htr:((cur.take i).map z8++List.replicate (l.length - i) [PV.k (.int .i64 0)]).take ((i:Int)).toNat=(l.filter λx=> !zis d m p x).map z8:=by
    rw[u7,List.take_append_of_le_length (by rw[uk,tj];omega),uQ (by rw[uk,tj];omega),htk]
   repeat' first|refine gG ?_|refine gB ?_ ?_<;>intro h|refine ze ?_|(refine zt6 T hC (rows:=cur.map z8) rfl rfl rfl rfl (uD _) (by rw[U];omega) rfl rfl ?_)|(refine zl6 hC (kk:=i) (m:=(cur.map z8).length - i) (rows:=cur.map z8) ((cur.take i).map z8++List.replicate (l.length - i) [PV.k (.int .i64 0)]) rfl rfl (T.es_ok _ _ rfl) Tryz.zeroValue3 rfl rfl (by rw[U];omega) h3 rfl rfl ?_)|(refine zgG T 120 hC (rows:=(cur.take i).map z8++List.replicate (l.length - i) [PV.k (.int .i64 0)]) rfl rfl rfl rfl (uD _) (by simp only[uP,uk,tj,qa];omega) htr rfl rfl rfl ?_)
   exact gW [0,1,120]
end Hw.Gm
namespace Hw.Gm
open Go Go.Proofs Go.Shelf Hw.M Ps
abbrev flA(e:Int):Value:= .iface 230 (.agg #[.int .i64 e])
def vE:Vn Int->End
 | .ok v=> .ok (I v) []
 | .flt e=> .pn (flA e) []
 | .out=> .no
def zl8(n:Int):FnX Tryz.prog 183 [I n] [] (vE (nbV n)):=by
 have J:=ji n;unfold bdB at J;unfold nbV;by_cases U:n< -1099511627776\/1099511627776<n
 ·rw[uw U];rw[show(decide (-1099511627776<=n)&&decide (n<=1099511627776))=false by simp;omega]at J;show zU _ _ _ _ _ _;refine zR T Tryz.func183 ud rfl rfl rfl λC hC=>?_
  repeat' first|refine gG ?_|exact gD|refine gB ?_ ?_<;>intro h|refine gC J ?_|(refine zb7 hC [.int .i64 5] rfl ud rfl rfl ?_)|(refine xw hC rfl rfl ?_)
  all_goals exact gU (zi ⟨rfl,id,trivial,rfl,rfl⟩)
 ·rw[ur U];rw[show(decide (-1099511627776<=n)&&decide (n<=1099511627776))=true by simp;omega]at J;show zf _ _ _ _ _ _;refine gO T Tryz.func183 λC hC=>?_
  repeat' first|refine gG ?_|exact gD|refine gB ?_ ?_<;>intro h|refine gC J ?_
  exact gF
def zay(b:Bool):zf Tryz.prog 229 [.bq b] [] (I (zcJ b)) []:=by
 cases b
 all_goals
  refine gO T Tryz.func229 λC hC=>?_
  repeat' first|refine gG ?_|exact gD|refine gB ?_ ?_<;>intro h
  all_goals exact gF
variable {a:Int}
def zxy(h:inB a):(if a< -a then -a else a)=(a.natAbs:Int):=by split<;>omega
def zwN{b:Int}(ha:inB a)(hb:inB b)(h0:b≠0):(Int.tdiv 1099511627776 (b.natAbs:Int)<(a.natAbs:Int))↔1099511627776<a.natAbs*b.natAbs:=by
 have e:Int.tdiv 1099511627776 (b.natAbs:Int)=((1099511627776 / b.natAbs:Nat):Int):=by rw[show(1099511627776:Int)=((1099511627776:Nat):Int) from rfl];exact(Ut _ _).symm
 rw[e];have J:0<b.natAbs:=by omega
 have:=Nat.div_lt_iff_lt_mul J (x:=1099511627776) (y:=a.natAbs);omega
def zuG{b:Int}(ha:inB a)(hb:inB b):FnX Tryz.prog 228 [I a,I b] [] (vE (pdV a b)):=by
 have ha':=ha;have hb':=hb;unfold inB at ha' hb';have wa:IntKind.i64.wrap (0 - a)= -a:=by rw[wrap64 ua];omega
 have wb:IntKind.i64.wrap (0 - b)= -b:=by rw[wrap64 ua];omega
 have ma:=zxy ha;have mb:=zxy hb;unfold pdV;by_cases J:a=0
 ·subst J;rw[ur ue];show zf _ _ _ _ _ _;refine gO T Tryz.func228 λC hC=>?_
  repeat' first|refine gG ?_|exact gD|refine gB ?_ ?_<;>intro h
  rw[show IntKind.i64.wrap (0*b)=0*b by rw[Int.zero_mul];rfl];exact gF
 by_cases U:b=0
 ·subst U;rw[ur ue];show zf _ _ _ _ _ _;refine gO T Tryz.func228 λC hC=>?_
  repeat' first|refine gG ?_|(exfalso;simp[J]at h;done)|exact gD|refine gB ?_ ?_<;>intro h
  rw[show IntKind.i64.wrap (a*0)=a*0 by rw[Int.mul_zero];rfl];exact gF
 have hlt:=zwN ha hb U
 have hq:IntKind.i64.wrap (Int.tdiv 1099511627776 (b.natAbs:Int))=Int.tdiv 1099511627776 (b.natAbs:Int):=by
  have e:Int.tdiv 1099511627776 (b.natAbs:Int)=((1099511627776 / b.natAbs:Nat):Int):=by rw[show(1099511627776:Int)=((1099511627776:Nat):Int) from rfl];exact(Ut _ _).symm
  have:=oE 1099511627776 b.natAbs;rw[e];generalize 1099511627776 / b.natAbs=q at this;exact wrap64 ua
 by_cases h2:a.natAbs*b.natAbs>1099511627776
 ·rw[uw h2];show zU _ _ _ _ _ _;refine zR T Tryz.func228 ud rfl rfl rfl λC hC=>?_
  repeat' first|refine gG ?_|(exfalso;simp[J]at h;done)|(exfalso;simp[U]at h;done)|refine gB ?_ ?_<;>intro h|refine zdi hC rfl rfl rfl ?_|(rw[wa];refine vQ hC (a.natAbs:Int) rfl rfl ma rfl rfl ?_)|(rw[wb];refine vQ hC (b.natAbs:Int) rfl rfl mb rfl rfl ?_)|(refine zew hC rfl rfl ua rfl rfl ?_;rw[hq])|(refine zb7 hC [.int .i64 5] rfl ud rfl rfl ?_)|(refine xw hC rfl rfl ?_)
  all_goals first
   |exact gU (zi ⟨rfl,id,trivial,rfl,rfl⟩)
   |(exfalso;simp only[uy,uG,uq,uu]at *; omega)
 ·rw[ur h2];show zf _ _ _ _ _ _;refine gO T Tryz.func228 λC hC=>?_
  repeat' first|refine gG ?_|(exfalso;simp[J]at h;done)|(exfalso;simp[U]at h;done)|(exfalso;have h9:=uj h;omega)|refine gB ?_ ?_<;>intro h|refine zdi hC rfl rfl rfl ?_|(rw[wa];refine vQ hC (a.natAbs:Int) rfl rfl ma rfl rfl ?_)|(rw[wb];refine vQ hC (b.natAbs:Int) rfl rfl mb rfl rfl ?_)|(refine zew hC rfl rfl ua rfl rfl ?_;rw[hq])
  have hp:((a.natAbs*b.natAbs:Nat):Int)=(a*b).natAbs:=by rw[ot]
  rw[wrap64 ua];exact gF
def zso(U:inB a)(h: ¬a<1):zf Tryz.prog 184 [I a] [] (.tup [I (zi5 a),I 0]) []:=by
 have J:=U;unfold inB at J;have hL:=zll a.toNat ua;have hc:IntKind.u64.wrap a=(a.toNat:Int):=by rw[IntKind.wrap_u64];omega
 have hl:IntKind.i64.wrap ((Lib.bitLen a.toNat:Int) - 1)=zi5 a:=by
  unfold zi5;rw[ur h,zaQ ua ua]
  have hlt:Nat.log2 a.toNat<64:=by
   rw[oC ua];omega
  rw[wrap64 ua];omega
 refine gO T Tryz.func184 λC hC=>?_
 repeat' first|refine gG ?_|(exfalso;have h9:=uj h;omega)|refine gB ?_ ?_<;>intro h|(rw[hc];refine gC hL ?_)
 rw[hl];exact gF
def zuH{op b:Int}(ha:inB a)(hb:inB b):FnX Tryz.prog 185 [I op,I a,I b] [] (vE (tw0 op a b)):=by
 have ha':=ha;have hb':=hb;unfold inB at ha' hb';have hw1:IntKind.i64.wrap (a+b)=a+b:=wrap64 ua;have hw2:IntKind.i64.wrap (a - b)=a - b:=wrap64 ua;have J:=zl8 (a+b);have U:=zl8 (a - b);have hMul:=zuG ha hb;have hT1:=zay (decide (a=b));have hT2:=zay (!decide (a=b));have hT3:=zay (decide (a<b));have hT4:=zay (decide (a<=b));unfold tw0;by_cases o9:op=9
 ·subst o9;simp only[Int.reduceEq,uX,uM];cases hr:nbV (a+b)with
  |out=>trivial
  |ok v=>
   rw[hr]at J;have J:zf _ _ _ _ _ _:=J;show zf _ _ _ _ _ _;refine gO T Tryz.func185 λC hC=>?_
   repeat' first|refine gG ?_|exact gD|refine gB ?_ ?_<;>intro h|(rw[hw1];refine gC J ?_)
   exact gF
  |flt e=>
   rw[hr]at J;have J:zU _ _ _ _ _ _:=J;show zU _ _ _ _ _ _;refine zR T Tryz.func185 ud rfl rfl rfl λC hC=>?_
   repeat' first|refine gG ?_|exact gD|refine gB ?_ ?_<;>intro h|(rw[hw1];refine zo hC J id rfl rfl (zI.refl _) rfl rfl rfl rfl rfl rfl ?_)
   exact gU (zi ⟨rfl,id,trivial,rfl,rfl⟩)
 rw[ur o9];by_cases o10:op=10
 ·subst o10;simp only[Int.reduceEq,uX,uM];cases hr:nbV (a - b)with
  |out=>trivial
  |ok v=>
   rw[hr]at U;have U:zf _ _ _ _ _ _:=U;show zf _ _ _ _ _ _;refine gO T Tryz.func185 λC hC=>?_
   repeat' first|refine gG ?_|exact gD|refine gB ?_ ?_<;>intro h|(rw[hw2];refine gC U ?_)
   exact gF
  |flt e=>
   rw[hr]at U;have U:zU _ _ _ _ _ _:=U;show zU _ _ _ _ _ _;refine zR T Tryz.func185 ud rfl rfl rfl λC hC=>?_
   repeat' first|refine gG ?_|exact gD|refine gB ?_ ?_<;>intro h|(rw[hw2];refine zo hC U id rfl rfl (zI.refl _) rfl rfl rfl rfl rfl rfl ?_)
   exact gU (zi ⟨rfl,id,trivial,rfl,rfl⟩)
 rw[ur o10];by_cases o11:op=11
 ·subst o11;simp only[Int.reduceEq,uX,uM];cases hr:pdV a b with
  |out=>trivial
  |ok v=>
   rw[hr]at hMul;have hMul:zf _ _ _ _ _ _:=hMul;show zf _ _ _ _ _ _;refine gO T Tryz.func185 λC hC=>?_
   repeat' first|refine gG ?_|exact gD|refine gB ?_ ?_<;>intro h|refine gC hMul ?_
   exact gF
  |flt e=>
   rw[hr]at hMul;have hMul:zU _ _ _ _ _ _:=hMul;show zU _ _ _ _ _ _;refine zR T Tryz.func185 ud rfl rfl rfl λC hC=>?_
   repeat' first|refine gG ?_|exact gD|refine gB ?_ ?_<;>intro h|(refine zo hC hMul id rfl rfl (zI.refl _) rfl rfl rfl rfl rfl rfl ?_)
   exact gU (zi ⟨rfl,id,trivial,rfl,rfl⟩)
 rw[ur o11];by_cases o14:op=14
 ·subst o14;simp only[Int.reduceEq,uX,uM];show zf _ _ _ _ _ _;refine gO T Tryz.func185 λC hC=>?_
  repeat' first|refine gG ?_|exact gD|refine gB ?_ ?_<;>intro h|refine gC hT1 ?_
  exact gF
 rw[ur o14];by_cases o15:op=15
 ·subst o15;simp only[Int.reduceEq,uX,uM];show zf _ _ _ _ _ _;refine gO T Tryz.func185 λC hC=>?_
  repeat' first|refine gG ?_|exact gD|refine gB ?_ ?_<;>intro h|refine gC hT2 ?_
  exact gF
 rw[ur o15];by_cases o16:op=16
 ·subst o16;simp only[Int.reduceEq,uX,uM];show zf _ _ _ _ _ _;refine gO T Tryz.func185 λC hC=>?_
  repeat' first|refine gG ?_|exact gD|refine gB ?_ ?_<;>intro h|refine gC hT3 ?_
  exact gF
 rw[ur o16];by_cases o17:op=17
 ·subst o17;simp only[Int.reduceEq,uX,uM];show zf _ _ _ _ _ _;refine gO T Tryz.func185 λC hC=>?_
  repeat' first|refine gG ?_|exact gD|refine gB ?_ ?_<;>intro h|refine gC hT4 ?_
  exact gF
 rw[ur o17];by_cases o22:op=22
 ·subst o22;simp only[Int.reduceEq,uX,uM];show zf _ _ _ _ _ _;refine gO T Tryz.func185 λC hC=>?_
  repeat' first|refine gG ?_|exact gD|refine gB ?_ ?_<;>intro h|(refine vQ hC (if a<b then b else a) rfl rfl rfl rfl rfl ?_)
  exact gF
 rw[ur o22];by_cases o23:op=23
 ·subst o23;simp only[Int.reduceEq,uX,uM];show zf _ _ _ _ _ _;refine gO T Tryz.func185 λC hC=>?_
  repeat' first|refine gG ?_|exact gD|refine gB ?_ ?_<;>intro h|(refine zlg hC (if b<a then b else a) rfl rfl rfl rfl rfl ?_)
  exact gF
 rw[ur o23];by_cases h0:b=0
 ·rw[uw h0];subst h0;show zU _ _ _ _ _ _;refine zR T Tryz.func185 ud rfl rfl rfl λC hC=>?_
  repeat' first|refine gG ?_|(exfalso;simp[o9,o10,o11,o14,o15,o16,o17,o22,o23]at h;done)|exact gD|refine gB ?_ ?_<;>intro h|(refine zb7 hC [.int .i64 18] rfl ud rfl rfl ?_)|(refine xw hC rfl rfl ?_)
  all_goals exact gU (zi ⟨rfl,id,trivial,rfl,rfl⟩)
 rw[ur h0]
 have hq:IntKind.i64.wrap (Int.tdiv a b)=Int.tdiv a b:=by
  have:(Int.tdiv a b).natAbs<=a.natAbs:=by rw[Uj];exact oE _ _
  generalize Int.tdiv a b=q at this;exact wrap64 ua
 by_cases o12:op=12
 ·subst o12;rw[uw rfl];show zf _ _ _ _ _ _;refine gO T Tryz.func185 λC hC=>?_
  repeat' first|refine gG ?_|exact gD|(exfalso;simp[h0]at h;done)|refine gB ?_ ?_<;>intro h|(refine zew hC rfl rfl h0 rfl rfl ?_;rw[hq])
  exact gF
 rw[ur o12];show zf _ _ _ _ _ _;refine gO T Tryz.func185 λC hC=>?_
 repeat' first|refine gG ?_|(exfalso;simp[o9,o10,o11,o14,o15,o16,o17,o22,o23]at h;done)|(exfalso;simp[h0]at h;done)|(exfalso;simp[o12]at h;done)|refine gB ?_ ?_<;>intro h|(refine zfY hC rfl rfl h0 rfl rfl ?_)
 exact gF
end Hw.Gm
namespace Hw.Gm
open Go Go.Proofs Hw.M Ps
def zo6(d:zg)(m:Hp)(c:Scp):List PV:=zA d++(yS m++[zC c.ps,yZ c.va])
variable {i:Nat}
def zl9{l:List Fld}{s:Str}{f:Fld}(h:l[i]?=some f)(U:f.n=s)(hn: ∀j f,j<i->l[j]?=some f-> ¬f.n=s):ixF l s=some i:=by
 unfold ixF;rw[tL];obtain⟨J,he⟩:=ux.1 h;refine⟨J,by rw[he];simpa using U,λj hj=>?_⟩;have:=hn j _ hj (th ua);simpa using this
def zqf{l:List Fld}{s:Str}(U: ∀j f,j<l.length->l[j]?=some f-> ¬f.n=s):ixF l s=none:=by
 unfold ixF;rw[qX];intro f hf;obtain⟨j,J⟩:=tK hf;simpa using U j f (ux.1 J).1 J
def zma{l:List Fld}{s:Str}{f:Fld}(h:l[i]?=some f)(J: ¬f.n=s)(U: ∀j f,j<i->l[j]?=some f-> ¬f.n=s): ∀j f,j<i+1->l[j]?=some f-> ¬f.n=s:=λj f' hj hf=>by
 rcases oR.1 hj with h1|rfl
 ·exact U j f' h1 hf
 ·rw[h]at hf;cases hf;exact J
def vbT(d:zg)(c:Scp)(s:Str):Str:=match ixF c.ps s with
 |some i=>((c.ps[i]?).map (·.t)).getD (⟨#[]⟩:UB)
 |none=>match ixF d.globals s with
  |some i=>((d.globals[i]?).map (·.t)).getD (⟨#[]⟩:UB)
  |none=>(⟨#[]⟩:UB)
variable {c:Scp}{d:zg}{m:Hp}
def zuI{s:Str}{v:Int}(J:vbV d m c s= .ok v):zf Tryz.prog 180 [zr (zo6 d m c),Sr s] [] (.tup [Sr (vbT d c s),I v]) []:=by
 refine gO T Tryz.func180 λC hC=>?_;refine vN rfl 0 10 rfl rfl λhl=>?_;refine vN rfl 0 2 rfl rfl λhg=>?_;rw[uk]at hl hg
 repeat' first|refine gG ?_|refine gB ?_ ?_<;>intro h
 rw[uk]
 refine zn (λi:Nat=>i<=c.ps.length/\ ∀j f,j<i->c.ps[j]?=some f-> ¬f.n=s) (λi=>([(2,.one (.bx 1002 0)),(1,Sr s),(11,pS (zC c.ps)),(12,I c.ps.length),(13,I i)],[(1002,some (.box ((zo6 d m c).map V.p)))])) (λi=>c.ps.length - i) hC
  0 ⟨uE _,λj f hj=>absurd hj (oD _)⟩ id gM ?_
 rintro i ⟨hi,hn⟩;refine zm T hC true 200 rfl ?_;refine zp rfl ?_ ?_<;>intro h
 ·have hlt:i<c.ps.length:=by simpa using h
  clear h;obtain⟨f,hf⟩:=zb hlt;by_cases hs:f.n=s
  ·have U:=zl9 hf hs hn;unfold vbV at J;rw[U]at J;cases hv:c.va[i]? with
   |none=>simp only[hv]at J;cases J
   |some u=>
    simp only[hv]at J;cases J;have ht:vbT d c s=f.t:=by unfold vbT;rw[U];simp only[hf,uH,Option.getD_some]
    rw[ht]
    repeat' first|refine gG ?_|(exfalso;simp[hs]at h;done)|refine gB ?_ ?_<;>intro h|(refine gI T (zq hf) ?_)|(refine gI T (zq hv) ?_)|refine zl ?_
    exact gF
  ·repeat' first|refine gG ?_|(exfalso;simp[hs]at h;done)|refine gB ?_ ?_<;>intro h|(refine gI T (zq hf) ?_)|refine zl ?_
   rw[wrap64 ua];exact zh (i+1) ⟨ua,zma hf hs hn⟩ id ua gM
 ·have hge: ¬i<c.ps.length:=by simpa using h
  clear h;have hno:=zqf (l:=c.ps) (s:=s) λj f hj=>hn j f ua
  clear hn;unfold vbV at J;rw[hno]at J;simp only at J
  repeat' first|refine gG ?_|refine gB ?_ ?_<;>intro h|refine ze ?_
  rw[uk]
  refine zn (λi:Nat=>i<=d.globals.length/\ ∀j f,j<i->d.globals[j]?=some f-> ¬f.n=s) (λi=>([(2,.one (.bx 1002 0)),(1,Sr s),(32,pS (zC d.globals)),(33,I d.globals.length),(34,I i)],[(1002,some (.box ((zo6 d m c).map V.p)))])) (λi=>d.globals.length - i) hC
   0 ⟨uE _,λj f hj=>absurd hj (oD _)⟩ id gM ?_
  rintro i ⟨hi,hn⟩;refine zm T hC true 200 rfl ?_;refine zp rfl ?_ ?_<;>intro h
  ·have hlt:i<d.globals.length:=by simpa using h
   clear h;obtain⟨f,hf⟩:=zb hlt;by_cases hs:f.n=s
   ·have U:=zl9 hf hs hn;rw[U]at J;cases hv:m.g[i]? with
    |none=>simp only[hv]at J;cases J
    |some u=>
     simp only[hv]at J;cases J;have ht:vbT d c s=f.t:=by unfold vbT;rw[hno,U];simp only[hf,uH,Option.getD_some]
     rw[ht]
     repeat' first|refine gG ?_|(exfalso;simp[hs]at h;done)|refine gB ?_ ?_<;>intro h|(refine gI T (zq hf) ?_)|(refine gI T (zq hv) ?_)|refine zl ?_
     exact gF
   ·repeat' first|refine gG ?_|(exfalso;simp[hs]at h;done)|refine gB ?_ ?_<;>intro h|(refine gI T (zq hf) ?_)|refine zl ?_
    rw[wrap64 ua];exact zh (i+1) ⟨ua,zma hf hs hn⟩ id ua gM
  ·have hge: ¬i<d.globals.length:=by simpa using h
   clear h;have hno2:=zqf (l:=d.globals) (s:=s) λj f hj=>hn j f ua
   rw[hno2]at J;cases J;have ht:vbT d c s=(⟨#[]⟩:UB):=by unfold vbT;rw[hno,hno2]
   rw[ht]
   repeat' first|refine gG ?_|refine gB ?_ ?_<;>intro h|refine ze ?_
   exact gF
def zuJ(x:Fld)(s:Str):zf Tryz.prog 226 [zr (zG x),.one (.bx 0 0)] [(0,.box [.p (ks s)])] (.bq (decide (x.n=s))) [(0,.box [.p (ks s)])]:=by
 refine gO T Tryz.func226 λC hC=>?_
 repeat' first|refine gG ?_|refine gB ?_ ?_<;>intro h|refine ze ?_
 exact gE
def zsp(hs:xy m)(c:Scp)(v:Int)(s:Str):FnX Tryz.prog 181 [zr (zo6 d m c),I v,Sr s] [] (vE (fldI d m v s kn0).vn):=by
 have hn:=hs.n;unfold fldI;by_cases h0:v=0
 ·rw[uw h0];show zU _ _ _ _ _ _;refine zR T Tryz.func181 ud rfl rfl rfl λC hC=>?_
  repeat' first|refine gG ?_|(exfalso;have h9:=uo h;omega)|refine gB ?_ ?_<;>intro h|(refine zb7 hC [.int .i64 17] rfl ud rfl rfl ?_)|(refine xw hC rfl rfl ?_)
  all_goals first
   |exact gU (zi ⟨rfl,id,trivial,rfl,rfl⟩)
   |exact zi ⟨rfl,id,trivial,rfl,rfl⟩
 ·rw[ur h0];by_cases hv:v<0
  ·rw[uw hv];trivial
  ·rw[ur hv];cases U:m.n[(v - 1).toNat]? with
   |none=>trivial
   |some x=>
    simp only;by_cases ht:x.t<0
    ·rw[uw ht];trivial
    ·rw[ur ht];cases hy:d.types[x.t.toNat]? with
     |none=>trivial
     |some t=>
      simp only;cases hi:ixF t.f s with
      |none=>trivial
      |some i=>
       simp only;cases hu:x.f[i]? with
       |none=>trivial
       |some u=>
        simp only;have hlt:=(ux.1 U).1;have hw1:IntKind.i64.wrap (v - 1)=v - 1:=wrap64 ua;have J:=jz 226 t.f (λx _=>decide (x.n=s)) (λ_ s=>s) (λc=>c=s) (λx U c hc=>⟨by subst hc;exact zuJ x c,λ_=>hc⟩) s rfl;rw[yX]at J;have hix:t.f.findIdx? (λx=>decide (x.n=s))=some i:=hi;rw[hix]at J;simp only[idxI]at J;show zf _ _ _ _ _ _;refine gO T Tryz.func181 λC hC=>?_
        repeat' first|refine gG ?_|(exfalso;have h9:=uj h;omega)|refine gB ?_ ?_<;>intro h|(rw[hw1];refine gI T (yV U) ?_)|(refine gI T (yV hy) ?_)|refine gR J (nm [1005]) ?_|(refine gI T (zq hu) ?_)|refine ze ?_
        exact gF
theorem zsq(h1:wS d m=true)(c:Scp)(g:Nat)(s:Str)(nd:Int):FnX Tryz.prog 182 [zr (zo6 d m c),Sr s,I nd] [] (vE (mesV d m g s nd)):=by
 unfold mesV;cases hr:meaE d m g s nd with
 |none=>trivial
 |some q=>
  obtain⟨v,e⟩:=q;have U:=zo5 h1 hr;simp only;by_cases J:e=0
  ·rw[uw J];subst J;show zf _ _ _ _ _ _;refine gO T Tryz.func182 λC hC=>?_
   repeat' first|refine gG ?_|exact gD|refine gB ?_ ?_<;>intro h|refine gC U ?_
   exact gF
  ·rw[ur J];show zU _ _ _ _ _ _;refine zR T Tryz.func182 ud rfl rfl rfl λC hC=>?_
   repeat' first|refine gG ?_|(exfalso;simp[J]at h;done)|refine gB ?_ ?_<;>intro h|refine gC U ?_|(refine zb7 hC [.int .i64 e] rfl ud rfl rfl ?_)|(refine xw hC rfl rfl ?_)
   exact gU (zi ⟨rfl,id,trivial,rfl,rfl⟩)
abbrev zjA(d:zg)(m:Hp)(c:Scp)(e:Ex)(r:Vn Int):Prop:=FnX Tryz.prog 126 [zr (zo6 d m c),zr (yp e)] [] (vE r)
variable {G g:Nat}
theorem zmb{e:Ex}:vatV d m G c g e i= .out\/ ∃k x,g=k+1/\e.l[i]?=some x/\vatV d m G c g e i=vaV d m G c k x:=by
 cases g with
 |zero=>left;rw[vatV]
 |succ k=>
  cases hx:e.l[i]? with
  |none=>left;rw[vatV,hx]
  |some x=>right;exact⟨k,x,rfl,rfl,by rw[vatV,hx]⟩
variable {F:List Int->Vn Int}{r:Vn Int}{vals:List Int}{x:Ex}
theorem zo7{k:Nat}{l:List Ex}(h:((vasV d m G c k (x::l)).bind λq=>F (vals++q))=r)(J:r≠ .out):
 ∃j,k=j+1/\((∃v,vaV d m G c j x= .ok v/\((vasV d m G c j l).bind λq=>F ((vals++[v])++q))=r)\/ ∃er,vaV d m G c j x= .flt er/\r= .flt er):=by
 cases k with
 |zero=>exact absurd h.symm (by simpa [vasV,Vn.bind]using J)
 |succ j=>
  refine⟨j,rfl,?_⟩;rw[vasV]at h;cases hx:vaV d m G c j x with
  |out=>rw[hx]at h;exact absurd h.symm (by simpa [Vn.bind]using J)
  |flt er=>rw[hx]at h;exact .inr ⟨er,rfl,h.symm⟩
  |ok v=>
   rw[hx]at h;refine .inl ⟨v,rfl,?_⟩;simp only[Vn.bind]at h;cases hr:vasV d m G c j l with
   |ok q=>rw[hr]at h;simp only at h ⊢; rw[<-h];simp only[Vn.bind,tE,qP]
   |flt er=>rw[hr]at h;exact h
   |out=>rw[hr]at h;exact h
theorem zsr{k:Nat}(h:((vasV d m G c k []).bind λq=>F (vals++q))=r)(J:r≠ .out):F vals=r:=by
 cases k with
 |zero=>exact absurd h.symm (by simpa [vasV,Vn.bind]using J)
 |succ j=>rw[vasV]at h;rw[<-h];simp only[Vn.bind,uV]
variable {a:Int}
def zqg{e y:Ex}(J:e.op=19\/e.op=20)(hx:e.l[0]?=some x)(hA:zjA d m c x (.ok a))(r:Vn Int)
 (hr:if(decide (a=1)==decide (e.op=19))=true then e.l[1]?=some y/\zjA d m c y r else r= .ok a):zjA d m c e r:=by
 have hA:zf _ _ _ _ _ _:=hA;by_cases ht:(decide (a=1)==decide (e.op=19))=true
 ·rw[uw ht]at hr;obtain⟨hy,U⟩:=hr;cases r with
  |out=>trivial
  |ok b=>
   have U:zf _ _ _ _ _ _:=U;show zf _ _ _ _ _ _;rcases J with J|J
   all_goals
    refine gO T Tryz.func126 λC hC=>?_
    repeat' first|refine gG ?_|exact gD|(exfalso;have h9:=uj h;omega)|(exfalso;simp_all;done)|refine zaq hC rfl rfl ud rfl rfl ?_|refine gB ?_ ?_<;>intro h|(refine gI T (zD hx) ?_)|refine gC hA ?_|(refine gI T (yJ hy) ?_)|refine gC U ?_
    exact gF
  |flt er=>
   have U:zU _ _ _ _ _ _:=U;show zU _ _ _ _ _ _;rcases J with J|J
   all_goals
    refine zR T Tryz.func126 ud rfl rfl rfl λC hC=>?_
    repeat' first|refine gG ?_|exact gD|(exfalso;have h9:=uj h;omega)|(exfalso;simp_all;done)|refine zaq hC rfl rfl ud rfl rfl ?_|refine gB ?_ ?_<;>intro h|(refine gI T (zD hx) ?_)|refine gC hA ?_|(refine gI T (yJ hy) ?_)|(refine xq T hC U id [] rfl rfl (zI.refl _) rfl rfl rfl rfl rfl ud ud ?_)
    exact gU (zi ⟨rfl,id,trivial,rfl,rfl⟩)
 ·rw[ur ht]at hr;subst hr;show zf _ _ _ _ _ _;rcases J with J|J
  all_goals
   refine gO T Tryz.func126 λC hC=>?_
   repeat' first|refine gG ?_|exact gD|(exfalso;have h9:=uj h;omega)|(exfalso;simp_all;done)|refine zaq hC rfl rfl ud rfl rfl ?_|refine gB ?_ ?_<;>intro h|(refine gI T (zD hx) ?_)|refine gC hA ?_
   exact gF
theorem zwO{e y:Ex}(ho:e.op=21)(hx:e.l[0]?=some x)(U:zjA d m c x (.ok a))(h2:inB a/\a<=2)(hy:e.l[(2 - a).toNat]?=some y)(J:zjA d m c y r):zjA d m c e r:=by
 have U:zf _ _ _ _ _ _:=U;have h3:=h2.1;unfold inB at h3;obtain⟨i,hi⟩: ∃i:Nat,2 - a=i:=⟨(2 - a).toNat,ua⟩;have hw:IntKind.i64.wrap (2 - a)=(i:Int):=by rw[wrap64 ua];omega
 rw[hi,u7]at hy;cases r with
 |out=>trivial
 |ok b=>
  have J:zf _ _ _ _ _ _:=J;show zf _ _ _ _ _ _;refine gO T Tryz.func126 λC hC=>?_
  repeat' first|refine gG ?_|exact gD|(exfalso;have h9:=uj h;omega)|(exfalso;have h9:=uo h;omega)|refine gB ?_ ?_<;>intro h|(refine gI T (zD hx) ?_)|refine gC U ?_|(rw[hw];refine gI T (wh hy) ?_)|refine gC J ?_
  exact gF
 |flt er=>
  have J:zU _ _ _ _ _ _:=J;show zU _ _ _ _ _ _;refine zR T Tryz.func126 ud rfl rfl rfl λC hC=>?_
  repeat' first|refine gG ?_|exact gD|(exfalso;have h9:=uj h;omega)|(exfalso;have h9:=uo h;omega)|refine gB ?_ ?_<;>intro h|(refine gI T (zD hx) ?_)|refine gC U ?_|(rw[hw];refine gI T (wh hy) ?_)|(refine xq T hC J id [] rfl rfl (zI.refl _) rfl rfl rfl rfl rfl ud ud ?_)
  exact gU (zi ⟨rfl,id,trivial,rfl,rfl⟩)
variable {er:Int}
def zqh{e:Ex}(J:e.op=19\/e.op=20\/e.op=21)(hx:e.l[0]?=some x)(U:zjA d m c x (.flt er)):zjA d m c e (.flt er):=by
 have U:zU _ _ _ _ _ _:=U;show zU _ _ _ _ _ _;rcases J with J|J|J
 all_goals
  refine zR T Tryz.func126 ud rfl rfl rfl λC hC=>?_
  repeat' first|refine gG ?_|exact gD|(exfalso;have h9:=uj h;omega)|(exfalso;have h9:=uo h;omega)|refine gB ?_ ?_<;>intro h|(refine gI T (zD hx) ?_)|(refine xq T hC U id [] rfl rfl (zI.refl _) rfl rfl rfl rfl rfl ud ud ?_)
  exact gU (zi ⟨rfl,id,trivial,rfl,rfl⟩)
def vaT(d:zg)(m:Hp)(c:Scp)(e:Ex)(q:Nat×Nat×List Int):zd×Tab:=
 ([(2,.one (.bx 1002 0)),(3,.one (.bx 1003 0)),(8,.one (.ar 140)),(69,pS (jc e.l)),(70,I e.l.length),(71,I q.1)],
  [(1002,some (.box ((zo6 d m c).map V.p))),(1003,some (.box ((yp e).map V.p))),(140,some (.arr 1 (q.2.2.map z8)))])
theorem zqi(h1:wS d m=true)(hs:xy m){k:Nat}(ih: ∀j,j<=k-> ∀e,zjA d m c e (vaV d m G c j e)){e:Ex}(ho: ¬(e.op=1\/e.op=2\/e.op=3))(o4: ¬e.op=4)(o19: ¬(e.op=19\/e.op=20))(o21: ¬e.op=21)
 (hl:e.l.length<=1000000) (hr:((vasV d m G c k e.l).bind λl=>opsV d m G e l)=r) (hn:r≠ .out):zjA d m c e r:=by
 have g1: ¬e.op=1:=λh=>ho (.inl h)
 have g2: ¬e.op=2:=λh=>ho (.inr (.inl h))
 have g3: ¬e.op=3:=λh=>ho (.inr (.inr h))
 have g4: ¬e.op=19:=λh=>o19 (.inl h)
 have g5: ¬e.op=20:=λh=>o19 (.inr h)
 clear ho o19;refine zxs T Tryz.func126 ud rfl rfl rfl rfl λC hC=>?_
 repeat' first|refine gG ?_|(exfalso;have U:=uj h;omega)|refine gB ?_ ?_<;>intro h
 refine gA 140 1 [(8,.one (.ar 140))] [] ?_;rw[uk]
 refine zn (λq:Nat×Nat×List Int=>q.1<=e.l.length/\q.2.1<=k/\q.2.2.length=q.1/\((vasV d m G c q.2.1 (e.l.drop q.1)).bind λl=>opsV d m G e (q.2.2++l))=r) (vaT d m c e) (λq=>e.l.length - q.1) hC
  (0,k,[]) ⟨uE _,uJ _,rfl,hr⟩ id gM ?_
 clear hr;rintro⟨i,k1,vals⟩ ⟨hi,hk,hv,J⟩;simp only at hi hk hv J;refine zm T hC true 200 rfl ?_;refine zp rfl ?_ ?_<;>intro h
 ·have hlt:i<e.l.length:=by simpa [vaT]using h
  clear h;obtain⟨x,hx⟩:=zb hlt;rw[drop_at hx]at J;obtain⟨j,rfl,hcase⟩:=zo7 J hn;have hX:=ih j ua x;rcases hcase with⟨v,hev,hnx⟩|⟨er1,hev,hE⟩
  ·rw[hev]at hX;have hX:zf _ _ _ _ _ _:=hX;have happ:vals.map z8++[[ki v]]=(vals++[v]).map z8:=by rw[u6];rfl
   repeat' first|refine gG ?_|refine gB ?_ ?_<;>intro h|refine gXE ?_|refine gC hX ?_|refine gT ?_|(refine gY T 141 ((vals++[v]).map z8) 8 ?_)
   rw[wrapN ua];exact zh (i+1,j,vals++[v]) ⟨by simp only;omega,by simp only;omega,by simp only[uP,uU];omega,hnx⟩ (ms [(140,141)]) (by simp only;omega) ⟨rfl,⟨rfl,rfl,rfl,rfl,rfl,rfl,uh⟩,⟨rfl,rfl,rfl,uh⟩,rfl,xc rfl⟩
  ·rw[hev]at hX;have hX:zU _ _ _ _ _ _:=hX;subst hE
   repeat' first|refine gG ?_|refine gB ?_ ?_<;>intro h|refine gXE ?_|(refine zo hC hX id rfl rfl (zI.refl _) rfl rfl rfl rfl rfl rfl ?_)
   exact gU (zcX (gU (zfa ⟨rfl,id,trivial,rfl,rfl⟩)))
 have hge: ¬i<e.l.length:=by simpa [vaT]using h
 clear h;rw[uC ua]at J;have J:=zsr J hn;refine gZ 140 [(8,pS (yZ vals))] [] ?_;unfold opsV at J;cases h0:vals[0]? with
 |none=>rw[h0]at J;exact absurd J.symm hn
 |some a=>
  simp only[h0]at J;by_cases o5:e.op=5
  ·rw[uw o5]at J;have hF:=zsp (d:=d) hs c a e.s;rw[J]at hF;cases r with
   |out=>exact absurd rfl hn
   |ok v=>
    have hF:zf _ _ _ _ _ _:=hF
    repeat' first|refine gG ?_|exact gD|(exfalso;have U:=uj h;omega)|(exfalso;have U:=uo h;omega)|refine gB ?_ ?_<;>intro h|refine ze ?_|(refine gI T (wP h0) ?_)|refine gC hF ?_
    exact zdH ⟨.inl rfl,id,_,rfl,.refl _,trivial,rfl,rfl⟩
   |flt er=>
    have hF:zU _ _ _ _ _ _:=hF
    repeat' first|refine gG ?_|exact gD|(exfalso;have U:=uj h;omega)|(exfalso;have U:=uo h;omega)|refine gB ?_ ?_<;>intro h|refine ze ?_|(refine gI T (wP h0) ?_)|(refine xq T hC hF id [] rfl rfl (zI.refl _) rfl rfl rfl rfl rfl ud ud ?_)
    exact gU (zfa ⟨rfl,id,trivial,rfl,rfl⟩)
  rw[ur o5]at J;by_cases o7:e.op=7
  ·rw[uw o7]at J;have hM:=zsq h1 c G e.s a;rw[J]at hM;cases r with
   |out=>exact absurd rfl hn
   |ok v=>
    have hM:zf _ _ _ _ _ _:=hM
    repeat' first|refine gG ?_|exact gD|(exfalso;have U:=uj h;omega)|(exfalso;have U:=uo h;omega)|refine gB ?_ ?_<;>intro h|refine ze ?_|(refine gI T (wP h0) ?_)|refine gC hM ?_
    exact zdH ⟨.inl rfl,id,_,rfl,.refl _,trivial,rfl,rfl⟩
   |flt er=>
    have hM:zU _ _ _ _ _ _:=hM
    repeat' first|refine gG ?_|exact gD|(exfalso;have U:=uj h;omega)|(exfalso;have U:=uo h;omega)|refine gB ?_ ?_<;>intro h|refine ze ?_|(refine gI T (wP h0) ?_)|(refine xq T hC hM id [] rfl rfl (zI.refl _) rfl rfl rfl rfl rfl ud ud ?_)
    exact gU (zfa ⟨rfl,id,trivial,rfl,rfl⟩)
  rw[ur o7]at J;by_cases o8:e.op=8
  ·rw[uw o8]at J;by_cases hb:inB a
   ·rw[uw hb]at J;have hb':=hb;unfold inB at hb';have hw:IntKind.i64.wrap (0 - a)= -a:=by rw[wrap64 ua];omega
    have hN:=zl8 (-a);rw[J]at hN;cases r with
    |out=>exact absurd rfl hn
    |ok v=>
     have hN:zf _ _ _ _ _ _:=hN
     repeat' first|refine gG ?_|exact gD|(exfalso;have U:=uj h;omega)|(exfalso;have U:=uo h;omega)|refine gB ?_ ?_<;>intro h|refine ze ?_|(refine gI T (wP h0) ?_)|(refine zdi hC rfl rfl rfl ?_)|(rw[hw];refine gC hN ?_)
     exact zdH ⟨.inl rfl,id,_,rfl,.refl _,trivial,rfl,rfl⟩
    |flt er=>
     have hN:zU _ _ _ _ _ _:=hN
     repeat' first|refine gG ?_|exact gD|(exfalso;have U:=uj h;omega)|(exfalso;have U:=uo h;omega)|refine gB ?_ ?_<;>intro h|refine ze ?_|(refine gI T (wP h0) ?_)|(refine zdi hC rfl rfl rfl ?_)|(rw[hw];refine zo hC hN id rfl rfl (zI.refl _) rfl rfl rfl rfl rfl rfl ?_)
     exact gU (zfa ⟨rfl,id,trivial,rfl,rfl⟩)
   ·rw[ur hb]at J;exact absurd J.symm hn
  rw[ur o8]at J;by_cases o18:e.op=18
  ·rw[uw o18]at J;by_cases hb:inB a
   ·rw[uw hb]at J;have hb':=hb;unfold inB at hb';have hw:IntKind.i64.wrap (1 - a)=1 - a:=by rw[wrap64 ua]
    subst J
    repeat' first|refine gG ?_|exact gD|(exfalso;have U:=uj h;omega)|(exfalso;have U:=uo h;omega)|refine gB ?_ ?_<;>intro h|refine ze ?_|(refine gI T (wP h0) ?_)
    rw[hw];exact zdH ⟨.inl rfl,id,_,rfl,.refl _,trivial,rfl,rfl⟩
   ·rw[ur hb]at J;exact absurd J.symm hn
  rw[ur o18]at J;by_cases o24:e.op=24
  ·rw[uw o24]at J;by_cases hb:inB a
   ·rw[uw hb]at J;subst J;by_cases ha1:a<1
    ·have hz:zi5 a=0:=by unfold zi5;rw[uw ha1]
     rw[hz]
     repeat' first|refine gG ?_|exact gD|(exfalso;have U:=uj h;omega)|(exfalso;have U:=uo h;omega)|refine gB ?_ ?_<;>intro h|refine ze ?_|(refine gI T (wP h0) ?_)
     exact zdH ⟨.inl rfl,id,_,rfl,.refl _,trivial,rfl,rfl⟩
    ·have hL:=zso hb ha1
     repeat' first|refine gG ?_|exact gD|(exfalso;have U:=uj h;omega)|(exfalso;have U:=uo h;omega)|refine gB ?_ ?_<;>intro h|refine ze ?_|(refine gI T (wP h0) ?_)|refine gC hL ?_
     exact zdH ⟨.inl rfl,id,_,rfl,.refl _,trivial,rfl,rfl⟩
   ·rw[ur hb]at J;exact absurd J.symm hn
  rw[ur o24]at J;cases h1':vals[1]? with
  |none=>rw[h1']at J;exact absurd J.symm hn
  |some b=>
   simp only[h1']at J;unfold twV at J;by_cases hb:inB a/\inB b
   ·rw[uw hb]at J;have hT:=zuH (op:=e.op) hb.1 hb.2;rw[J]at hT;cases r with
    |out=>exact absurd rfl hn
    |ok v=>
     have hT:zf _ _ _ _ _ _:=hT
     repeat' first|refine gG ?_|exact gD|(exfalso;have U:=uj h;omega)|(exfalso;have U:=uo h;omega)|refine gB ?_ ?_<;>intro h|refine ze ?_|(refine gI T (wP h0) ?_)|(refine xX T hC rfl rfl rfl ub (yV (i:=1) h1') rfl rfl ?_)|refine gC hT ?_
     exact zdH ⟨.inl rfl,id,_,rfl,.refl _,trivial,rfl,rfl⟩
    |flt er=>
     have hT:zU _ _ _ _ _ _:=hT
     repeat' first|refine gG ?_|exact gD|(exfalso;have U:=uj h;omega)|(exfalso;have U:=uo h;omega)|refine gB ?_ ?_<;>intro h|refine ze ?_|(refine gI T (wP h0) ?_)|(refine xX T hC rfl rfl rfl ub (yV (i:=1) h1') rfl rfl ?_)|(refine xq T hC hT id [] rfl rfl (zI.refl _) rfl rfl rfl rfl rfl ud ud ?_)
     exact gU (zfa ⟨rfl,id,trivial,rfl,rfl⟩)
   ·rw[ur hb]at J;exact absurd J.symm hn
theorem zwP(h1:wS d m=true)(hs:xy m)(G:Nat)(c:Scp): ∀(k:Nat) (e:Ex),zjA d m c e (vaV d m G c k e):=by
 intro k
 induction k using Nat.strongRecOn with
 |_ k ih=>
 intro e;cases k with
 |zero=>rw[vaV];trivial
 |succ k=>
 have ih: ∀j,j<=k-> ∀e,zjA d m c e (vaV d m G c j e):=λj hj=>ih j ua
 have hat: ∀i,vatV d m G c k e i= .out\/ ∃x,e.l[i]?=some x/\zjA d m c x (vatV d m G c k e i):=λi=>by
  rcases zmb (d:=d) (m:=m) (G:=G) (c:=c) (g:=k) (e:=e) (i:=i)with h|⟨j,x,rfl,hx,h⟩
  ·exact .inl h
  ·exact .inr ⟨x,hx,by rw[h];exact ih j ua x⟩
 rw[vaV];by_cases o1:e.op=1\/e.op=2\/e.op=3
 ·rw[uw o1];show zf _ _ _ _ _ _;rcases o1 with o1|o1|o1
  all_goals
   refine gO T Tryz.func126 λC hC=>?_
   repeat' first|refine gG ?_|exact gD|(exfalso;simp[o1]at h;done)|refine gB ?_ ?_<;>intro h
   exact gF
 rw[ur o1];by_cases o4:e.op=4
 ·rw[uw o4];cases hr:vbV d m c e.s with
  |out=>trivial
  |flt er=>exfalso;unfold vbV at hr;((repeat' split at hr)<;>cases hr)
  |ok v=>
   have hV:=zuI hr;show zf _ _ _ _ _ _;refine gO T Tryz.func126 λC hC=>?_
   repeat' first|refine gG ?_|exact gD|(exfalso;simp[o4]at h;done)|refine gB ?_ ?_<;>intro h|refine gC hV ?_
   exact gF
 rw[ur o4];by_cases J:e.op=19\/e.op=20
 ·rw[uw J];rcases hat 0 with h|⟨x,hx,hA⟩
  ·rw[h];trivial
  ·cases hr:vatV d m G c k e 0 with
   |out=>trivial
   |flt er=>rw[hr]at hA;exact zqh (J.imp id .inl) hx hA
   |ok a=>
    rw[hr]at hA;simp only[Vn.bind];by_cases ht:(decide (a=1)==decide (e.op=19))=true
    ·rw[uw ht];rcases hat 1 with h|⟨y,hy,hB⟩
     ·rw[h];trivial
     ·exact zqg (y:=y) J hx hA _ (by rw[uw ht];exact⟨hy,hB⟩)
    ·rw[ur ht];exact zqg (y:=x) J hx hA _ (by rw[ur ht])
 rw[ur J];by_cases U:e.op=21
 ·rw[uw U];rcases hat 0 with h|⟨x,hx,hA⟩
  ·rw[h];trivial
  ·cases hr:vatV d m G c k e 0 with
   |out=>trivial
   |flt er=>rw[hr]at hA;exact zqh (.inr (.inr U)) hx hA
   |ok a=>
    rw[hr]at hA;simp only[Vn.bind];by_cases h2:inB a/\a<=2
    ·rw[uw h2];rcases hat (2 - a).toNat with h|⟨y,hy,hB⟩
     ·rw[h];trivial
     ·exact zwO U hx hA h2 hy hB
    ·rw[ur h2];trivial
 rw[ur U];by_cases hl:e.l.length<=1000000
 ·rw[uw hl];cases hr:(vasV d m G c k e.l).bind λl=>opsV d m G e l with
  |out=>trivial
  |ok v=>exact zqi h1 hs ih o1 o4 J U hl hr ue
  |flt er=>exact zqi h1 hs ih o1 o4 J U hl hr ue
 ·rw[ur hl];trivial
set_option maxRecDepth 100000 in
def zqj(v:Int)(rq:Option Int):
 zt0 Tryz.prog 125 [.one (.bx 3 0),.one (.bx 4 0)] [(3,.box [.p (ki v)]),(4,.box [.p (ki 0)])] (rq.map flA)
  [(3,.box [.p (ki (if rq.isSome then 0 else v))]),(4,.box [.p (ki (rq.getD 0))])]:=by
 refine zrm T (rq.map flA) (Tryz.func125) ud rfl rfl rfl rfl rfl rfl rfl (by cases rq<;>rfl) λC hC=>?_;cases rq
 all_goals
  repeat' first|refine gG ?_|refine gB ?_ ?_<;>intro h|(refine zj5 hC rfl ud rfl rfl ?_)|(refine zk9 hC rfl ud rfl rfl ?_)|(refine zrn hC [.int .i64 _] rfl ud rfl rfl rfl ?_)|refine ze ?_
  exact zi ⟨.inr rfl,id,_,rfl,zlp,⟨rfl,rfl,uh⟩,rfl,rfl⟩
def zo8(h1:wS d m=true)(hs:xy m){k:Nat}{e:Ex}{v:Int}(U:evV (vaV d m G c k e)=some (v,er)):
 zf Tryz.prog 85 [zr (zo6 d m c),zr (yp e)] [] (.tup [I v,I er]) []:=by
 have J:=zwP h1 hs G c k e
 refine zhZ T (m:=1) (Rm:=[(10,.box ((zo6 d m c).map V.p)),(11,.box ((yp e).map V.p)),(12,.box [.p (ki 0)]),(13,.box [.p (ki 0)])])
  (sl1:=[(2,.one (.bx 10 0)),(3,.one (.bx 11 0)),(4,.one (.bx 12 0)),(5,.one (.bx 13 0))]) (Tryz.func85) ud rfl rfl rfl rfl rfl rfl rfl rfl rfl rfl rfl (λC hC=>?_) (λC hC=>?_)
 ·repeat' first|refine gG ?_|exact gD|refine gB ?_ ?_<;>intro h
  show Goal _ _ _ [] _ _ _ _;exact zi ⟨ms [(10,1002),(11,1003),(12,1004),(13,1005)],rfl,⟨rfl,rfl,rfl,rfl,uh⟩,⟨rfl,rfl,rfl,rfl,uh⟩,rfl,rfl⟩
 ·cases hv:vaV d m G c k e with
  |out=>rw[hv]at U;cases U
  |ok v1=>
   rw[hv]at U J;cases U;have J:zf _ _ _ _ _ _:=J;have hD:=zqj v none
   repeat' first|refine gG ?_|refine gB ?_ ?_<;>intro h|refine gC J ?_
   first
    |exact zi ⟨none,_,_,_,nm [0,1,2,12,13],.inl rfl,hD,zI.refl _,⟨rfl,rfl,uh⟩,rfl,rfl,rfl,rfl,⟨.inl rfl,id,_,rfl,.refl _,trivial,rfl,rfl⟩⟩
    |exact zi ⟨none,_,_,_,nm [0,1,2,12,13],.inr rfl,hD,zI.refl _,⟨rfl,rfl,uh⟩,rfl,rfl,rfl,rfl,⟨.inl rfl,id,_,rfl,.refl _,trivial,rfl,rfl⟩⟩
  |flt er1=>
   rw[hv]at U J;cases U;have J:zU _ _ _ _ _ _:=J;have hD:=zqj 0 (some er)
   repeat' first|refine gG ?_|refine gB ?_ ?_<;>intro h|(refine zo hC J id rfl rfl (zI.refl _) rfl rfl rfl rfl rfl rfl ?_)
   exact gU (zi ⟨some (flA er),_,_,_,nm [0,1,2,12,13],rfl,hD,zI.refl _,⟨rfl,rfl,uh⟩,rfl,rfl,rfl,rfl,⟨.inl rfl,id,_,rfl,.refl _,trivial,rfl,rfl⟩⟩)
def zss(f:FuncId)(px:Pr)(l:List Bd)(p:Bd->Unit->Bool)(nx:Bd->Unit->Unit)(inv:Unit->Prop)
 (hf: ∀x∈l,∀s:Unit,inv s->zf Tryz.prog f [zr (wm x),.one (.bx 0 0)] [(0,.box ((zJ px).map V.p))] (.bq (p x s)) ((λs:Unit=>[(0,.box ((zJ px).map V.p))]) (nx x s))/\(p x s=false->inv (nx x s))) (s:Unit) (hs:inv s):
 zf Tryz.prog 83 [pS (.sl 5 (l.map wm)),.one (.cl f [] [.bx 0 0])] [(0,.box ((zJ px).map V.p))] (I (idxR p nx l 0 s).1) ((λs:Unit=>[(0,.box ((zJ px).map V.p))]) (idxR p nx l 0 s).2):=by
 refine gO T Tryz.func83 λC hC=>?_;have hs0:=hs;refine wi 0 rfl λhl=>?_;rw[uk]at hl
 repeat' first|refine gG ?_|refine gB ?_ ?_<;>intro h
 rw[uk]
 refine zn (λq:Nat×Unit=>q.1<=l.length/\inv q.2/\idxR p nx (l.drop q.1) q.1 q.2=idxR p nx l 0 s) (λq=>(λs:Unit=>([(0,pS (.sl 5 (l.map wm))),(1,.one (.cl f [] [.bx 0 0])),(7,I l.length),(8,I q.1)],[(0,some (.box ((zJ px).map V.p)))])) q.2) (λq=>l.length - q.1) hC
  (0,s) ⟨uE _,hs,rfl⟩ id gM ?_
 generalize idxR p nx l 0 s=res;clear hs hs0;rintro⟨i,s⟩ ⟨hi,hv,J⟩;simp only at hi hv J;refine zm T hC true 200 rfl ?_;refine zp rfl ?_ ?_<;>intro hh
 ·have hlt:i<l.length:=by simpa using hh
  clear hh;obtain⟨x,hx⟩:=zb hlt;rw[drop_at hx]at J;simp only[idxR]at J;have hv2:=(hf x (uv hx) s hv).2
  repeat' first|refine gG ?_|refine gB ?_ ?_<;>intro h|refine gI T (zq hx) ?_|refine yh hC (hf x (uv hx) s hv).1 id rfl rfl (zI.refl _) rfl rfl rfl rfl rfl rfl rfl rfl ?_|refine zl ?_
  ·rw[uw uf]at J;subst J;exact gE
  ·have U:p x s=false:=by assumption
   rw[U]at J;simp only[uB,uM]at J;rw[wrap64 ua];exact zh (i+1,nx x s) ⟨by simp only;omega,hv2 U,J⟩ id (by simp only;omega) gM
 ·have hge: ¬i<l.length:=by simpa using hh
  rw[uC ua]at J;simp only[idxR]at J;subst J
  repeat' first|refine gG ?_|refine gB ?_ ?_<;>intro h|refine ze ?_
  exact gE
def zmc(x:Bd)(p:Pr):zf Tryz.prog 84 [zr (wm x),.one (.bx 0 0)] [(0,.box ((zJ p).map V.p))] (.bq (decide (x.p=p.n))) [(0,.box ((zJ p).map V.p))]:=by
 refine gO T Tryz.func84 λC hC=>?_
 repeat' first|refine gG ?_|refine gB ?_ ?_<;>intro h|refine ze ?_
 exact gE
theorem zo9(h1:wS d m=true)(hs:xy m){p:Pr}{c:Cl}{v:Int}(J:bnE d m G p c=some (v,er)):
 zf Tryz.prog 50 [zr (zA d),zr (yS m),zr (zJ p),zr (yy c)] [] (.tup [I v,I er]) []:=by
 have U:=zss 84 p d.bounds (λx _=>decide (x.p=p.n)) (λ_ s=>s) (λ_=>True) (λx _ _ _=>⟨zmc x p,λ_=>trivial⟩) () trivial;rw[yX]at U;unfold bnE zv5 at J;cases hi:d.bounds.findIdx? (λb=>decide (b.p=p.n))with
 |none=>
  rw[hi]at J U;cases J;simp only[idxI]at U;refine gO T Tryz.func50 λC hC=>?_
  repeat' first|refine gG ?_|exact gD|refine gB ?_ ?_<;>intro h|refine gR U (nm [1006]) ?_|refine ze ?_
  exact gF
 |some i=>
  rw[hi]at J U;simp only[idxI]at U;cases hx:d.bounds[i]? with
  |none=>simp only[hx]at J;cases J
  |some x=>
   simp only[hx]at J;have hE:=zo8 h1 hs J;refine gO T Tryz.func50 λC hC=>?_
   repeat' first|refine gG ?_|(exfalso;have h9:=uj h;omega)|refine gB ?_ ?_<;>intro h|refine gR U (nm [1006]) ?_|(refine gI T (zq hx) ?_)|refine gC hE ?_|refine ze ?_
   exact gF
def zfv(t:Str):zf Tryz.prog 58 [Sr t] [] (.bq (plB t)) []:=by
 unfold plB;refine gO T Tryz.func58 λC hC=>?_
 repeat' first|refine gG ?_|refine gB ?_ ?_<;>intro h|refine gQ ?_|refine gL ?_
 all_goals (try simp only[uk]at*)
 all_goals first
  |rfl
  |(simp;done)
  |(simp_all;done)
  |(simp_all;omega)
  |(intros;simp_all<;>omega)
def zmd(f:Fld):zf Tryz.prog 60 [zr (zG f)] [] (.bq (!plB f.t)) []:=by
 have J:=zfv f.t;refine gO T Tryz.func60 λC hC=>?_
 repeat' first|refine gG ?_|refine gB ?_ ?_<;>intro h|refine gC J ?_
 exact gF
def zme(x:Pr)(c:Cl):zf Tryz.prog 57 [zr (zJ x),.one (.bx 0 0)] [(0,.box ((yy c).map V.p))] (.bq (decide (x.n=c.p))) [(0,.box ((yy c).map V.p))]:=by
 refine gO T Tryz.func57 λC hC=>?_
 repeat' first|refine gG ?_|refine gB ?_ ?_<;>intro h|refine ze ?_
 exact gE
def zst(f:FuncId)(cx:Cl)(l:List Pr)(p:Pr->Unit->Bool)(nx:Pr->Unit->Unit)(inv:Unit->Prop)
 (hf: ∀x∈l,∀s:Unit,inv s->zf Tryz.prog f [zr (zJ x),.one (.bx 0 0)] [(0,.box ((yy cx).map V.p))] (.bq (p x s)) ((λs:Unit=>[(0,.box ((yy cx).map V.p))]) (nx x s))/\(p x s=false->inv (nx x s))) (s:Unit) (hs:inv s):
 zf Tryz.prog 56 [pS (.sl 5 (l.map zJ)),.one (.cl f [] [.bx 0 0])] [(0,.box ((yy cx).map V.p))] (I (idxR p nx l 0 s).1) ((λs:Unit=>[(0,.box ((yy cx).map V.p))]) (idxR p nx l 0 s).2):=by
 refine gO T Tryz.func56 λC hC=>?_;have hs0:=hs;refine wi 0 rfl λhl=>?_;rw[uk]at hl
 repeat' first|refine gG ?_|refine gB ?_ ?_<;>intro h
 rw[uk]
 refine zn (λq:Nat×Unit=>q.1<=l.length/\inv q.2/\idxR p nx (l.drop q.1) q.1 q.2=idxR p nx l 0 s) (λq=>(λs:Unit=>([(0,pS (.sl 5 (l.map zJ))),(1,.one (.cl f [] [.bx 0 0])),(7,I l.length),(8,I q.1)],[(0,some (.box ((yy cx).map V.p)))])) q.2) (λq=>l.length - q.1) hC
  (0,s) ⟨uE _,hs,rfl⟩ id gM ?_
 generalize idxR p nx l 0 s=res;clear hs hs0;rintro⟨i,s⟩ ⟨hi,hv,J⟩;simp only at hi hv J;refine zm T hC true 200 rfl ?_;refine zp rfl ?_ ?_<;>intro hh
 ·have hlt:i<l.length:=by simpa using hh
  clear hh;obtain⟨x,hx⟩:=zb hlt;rw[drop_at hx]at J;simp only[idxR]at J;have hv2:=(hf x (uv hx) s hv).2
  repeat' first|refine gG ?_|refine gB ?_ ?_<;>intro h|refine gI T (zq hx) ?_|refine yh hC (hf x (uv hx) s hv).1 id rfl rfl (zI.refl _) rfl rfl rfl rfl rfl rfl rfl rfl ?_|refine zl ?_
  ·rw[uw uf]at J;subst J;exact gE
  ·have U:p x s=false:=by assumption
   rw[U]at J;simp only[uB,uM]at J;rw[wrap64 ua];exact zh (i+1,nx x s) ⟨by simp only;omega,hv2 U,J⟩ id (by simp only;omega) gM
 ·have hge: ¬i<l.length:=by simpa using hh
  rw[uC ua]at J;simp only[idxR]at J;subst J
  repeat' first|refine gG ?_|refine gB ?_ ?_<;>intro h|refine ze ?_
  exact gE
def prZ(q:Int×Pr):List PV:=if q.1=0 then zJ q.2 else zPr
abbrev ckT(d:zg)(p:Pr)(c:Cl)(i:Nat):zd×Tab:=([(3,.one (.bx 1003 0)),(4,.one (.bx 1004 0)),(7,.one (.bx 1007 0)),(47,pS (zC p.params)),(48,I p.params.length),(49,I i)],
 [(1003,some (.box ((yy c).map V.p))),(1004,some (.box (zPr.map V.p))),(1007,some (.box ((zJ p).map V.p)))])
set_option maxHeartbeats 1000000 in
theorem zmf(d:zg)(c:Cl):zf Tryz.prog 40 [zr (zA d),zr (yy c)] [] (.tup [zr (prZ (chE d c)),I (chE d c).1]) []:=by
 have hI:=zst 57 c d.procs (λx _=>decide (x.n=c.p)) (λ_ s=>s) (λ_=>True) (λx _ _ _=>⟨zme x c,λ_=>trivial⟩) () trivial;rw[yX]at hI;unfold chE zaZ;cases hi:d.procs.findIdx? (λp=>decide (p.n=c.p))with
 |none=>
  rw[hi]at hI;simp only[idxI]at hI;rw[show prZ ((9:Int),zor)=zPr from by rw[prZ,ur ub]];refine gO T Tryz.func40 λC hC=>?_
  repeat' first|refine gG ?_|exact gD|refine gB ?_ ?_<;>intro h|refine gR hI (nm [1003]) ?_|refine ze ?_
  exact gF
 |some i=>
  rw[hi]at hI;simp only[idxI]at hI
  obtain⟨p,hp⟩: ∃p,d.procs[i]?=some p:=by
   obtain⟨h1,_⟩:=tL.1 hi;exact⟨_,th h1⟩
  simp only[hp];have hP:=zfv p.res;have hA:=zcO 60 p.params (λf=> !plB f.t) (λx _=>zmd x);generalize hb2:p.params.any (λf=> !plB f.t)=b2 at hA⊢;generalize hb1:plB p.res=b1 at hP⊢;clear hb1 hb2;by_cases H:((!decide (p.res=(⟨#[]⟩:UB))&& !b1)||b2)=true
  ·rw[uw H];rw[show prZ ((12:Int),zor)=zPr from by rw[prZ,ur ub]]
   have J:(p.res=(⟨#[]⟩:UB)/\b2=true)\/(¬p.res=(⟨#[]⟩:UB)/\b1=true/\b2=true)\/(¬p.res=(⟨#[]⟩:UB)/\b1=false):=by
    by_cases e1:p.res=(⟨#[]⟩:UB)<;>cases b1<;>cases b2<;>simp_all
   clear H;rcases J with⟨e1,rfl⟩|⟨e1,rfl,rfl⟩|⟨e1,rfl⟩
   all_goals
    refine gO T Tryz.func40 λC hC=>?_
    repeat' first|refine gG ?_|exact gD|(exfalso;have h9:=uj h;omega)|(exfalso;simp[e1]at h;done)|refine gB ?_ ?_<;>intro h|refine gR hI (nm [1003]) ?_|(refine gI T (zq hp) ?_)|refine gC hP ?_|refine gC hA ?_|refine ze ?_
    exact gF
  rw[ur H]
  have J:(p.res=(⟨#[]⟩:UB)/\b2=false)\/(¬p.res=(⟨#[]⟩:UB)/\b1=true/\b2=false):=by
   by_cases e1:p.res=(⟨#[]⟩:UB)<;>cases b1<;>cases b2<;>simp_all
  clear H;by_cases hl:c.a.length=p.params.length
  ·rw[ur (by simpa using hl)];cases ha:(List.zip c.a p.params).any agB with
   |true=>
    rw[uw rfl];rw[show prZ ((11:Int),zor)=zPr from by rw[prZ,ur ub]];rcases J with⟨e1,rfl⟩|⟨e1,rfl,rfl⟩
    all_goals
     refine gO T Tryz.func40 λC hC=>?_;refine vN rfl 1 1 rfl rfl λhlen=>?_;rw[uk]at hlen
     repeat' first|refine gG ?_|exact gD|(exfalso;simp only[uq,uu,uk,uy,uG]at h;omega)|(exfalso;simp[e1]at h;done)|refine gB ?_ ?_<;>intro h|refine gR hI (nm [1003]) ?_|(refine gI T (zq hp) ?_)|refine gC hP ?_|refine gC hA ?_|refine ze ?_
     rw[uk]
     refine zn (λi:Nat=>i<=p.params.length/\((List.zip c.a p.params).take i).any agB=false) (ckT d p c) (λi=>p.params.length - i) hC
      0 ⟨uE _,ue⟩ id gM ?_
     rintro i ⟨hi2,hn⟩;refine zm T hC true 200 rfl ?_;refine zp rfl ?_ ?_<;>intro h
     ·have hlt:i<p.params.length:=by simpa using h
      clear h;obtain⟨v,hv⟩:=zb (l:=c.a) (i:=i) ua;obtain⟨f,hf⟩:=zb (l:=p.params) (i:=i) hlt;have hz:(List.zip c.a p.params)[i]?=some (v,f):=by rw[tl];exact⟨hv,hf⟩
      have hB:=ji v;cases hg:agB (v,f)with
      |true=>
       have U:=hg;unfold agB at U;simp only at U;generalize bdB v=bb at hB U
       repeat' first|refine gG ?_|refine gB ?_ ?_<;>intro h|(refine gI T (zq hv) ?_)|(refine gI T (zq hf) ?_)|refine gC hB ?_|refine zl ?_
       all_goals first
        |exact gF
        |(exfalso;clear hn ha hi2 hlt hl;simp_all;done)
      |false=>
       have U:=hg;unfold agB at U;simp only at U;generalize bdB v=bb at hB U
       repeat' first|refine gG ?_|refine gB ?_ ?_<;>intro h|(refine gI T (zq hv) ?_)|(refine gI T (zq hf) ?_)|refine gC hB ?_|refine zl ?_
       all_goals first
        |(rw[wrap64 ua]
          exact zh (i+1) ⟨ua,by rw[zdC hz,hn];simp[hg]⟩ id ua gM)
        |(exfalso;clear hn ha hi2 hlt hl;simp_all;done)
     ·exfalso;have hge: ¬i<p.params.length:=by simpa using h
      rw[uQ (by rw[td];omega),ha]at hn;cases hn
   |false=>
    rw[ur ue];rw[show prZ ((0:Int),p)=zJ p from by rw[prZ,uw rfl]];rcases J with⟨e1,rfl⟩|⟨e1,rfl,rfl⟩
    all_goals
     refine gO T Tryz.func40 λC hC=>?_;refine vN rfl 1 1 rfl rfl λhlen=>?_;rw[uk]at hlen
     repeat' first|refine gG ?_|exact gD|(exfalso;simp only[uq,uu,uk,uy,uG]at h;omega)|(exfalso;simp[e1]at h;done)|refine gB ?_ ?_<;>intro h|refine gR hI (nm [1003]) ?_|(refine gI T (zq hp) ?_)|refine gC hP ?_|refine gC hA ?_|refine ze ?_
     rw[uk]
     refine zn (λi:Nat=>i<=p.params.length) (ckT d p c) (λi=>p.params.length - i) hC
      0 (uE _) id gM ?_
     intro i hi2;refine zm T hC true 200 rfl ?_;refine zp rfl ?_ ?_<;>intro h
     ·have hlt:i<p.params.length:=by simpa using h
      clear h;obtain⟨v,hv⟩:=zb (l:=c.a) (i:=i) ua;obtain⟨f,hf⟩:=zb (l:=p.params) (i:=i) hlt;have hz:(List.zip c.a p.params)[i]?=some (v,f):=by rw[tl];exact⟨hv,hf⟩
      have hB:=ji v
      have U:agB (v,f)=false:=by
       have:=List.any_eq_false.1 ha (v,f) (uv hz);simpa using this
      unfold agB at U;simp only at U;generalize bdB v=bb at hB U
      repeat' first|refine gG ?_|refine gB ?_ ?_<;>intro h|(refine gI T (zq hv) ?_)|(refine gI T (zq hf) ?_)|refine gC hB ?_|refine zl ?_
      all_goals first
       |(rw[wrap64 ua]
         exact zh (i+1) ua id ua gM)
       |(exfalso;clear ha hi2 hlt hl;simp_all;done)
     ·clear h
      repeat' first|refine gG ?_|refine gB ?_ ?_<;>intro h|refine ze ?_
      exact gF
  ·rw[uw hl];rw[show prZ ((3:Int),zor)=zPr from by rw[prZ,ur ub]];rcases J with⟨e1,rfl⟩|⟨e1,rfl,rfl⟩
   all_goals
    refine gO T Tryz.func40 λC hC=>?_
    repeat' first|refine gG ?_|exact gD|(exfalso;simp only[uq,uu,uk,uy,uG]at h;omega)|(exfalso;simp[e1]at h;done)|refine gB ?_ ?_<;>intro h|refine gR hI (nm [1003]) ?_|(refine gI T (zq hp) ?_)|refine gC hP ?_|refine gC hA ?_|refine ze ?_
    exact gF
theorem zfw{f:Int->Option (Int×Int)}{k:Int}{l:List Int}{s:Int}{F:Int->Vn Int}{R:Vn Int}(h:((sumN f (k::l) s).bind F)=R)(U:R≠ .out):
 ∃n e,f k=some (n,e)/\((¬e=0/\R= .flt e)\/(e=0/\inB n/\((bdB (s+n)=false/\R= .flt 5)\/(bdB (s+n)=true/\((sumN f l (s+n)).bind F)=R)))):=by
 rw[sumN]at h;cases hx:f k with
 |none=>rw[hx]at h;exact absurd h.symm U
 |some q=>
  obtain⟨n,e⟩:=q;rw[hx]at h;refine⟨n,e,rfl,?_⟩;simp only at h;by_cases hf:e=0
  ·rw[ur (by simpa using hf)]at h;right;refine⟨hf,?_⟩;by_cases J:inB n
   ·rw[uw J]at h;refine⟨J,?_⟩;cases hB:bdB (s+n)with
    |true=>rw[hB,uw rfl]at h;exact .inr ⟨rfl,h⟩
    |false=>rw[hB,ur ub]at h;exact .inl ⟨rfl,h.symm⟩
   ·rw[ur J]at h;exact absurd h.symm U
  ·rw[uw hf]at h;exact .inl ⟨hf,h.symm⟩
def zqk{n:Int}:bdB n=true↔inB n:=by unfold bdB inB;simp
def zmg(hv:zZ d m=true):(vz d m).order.length<=4096:=by
 have J:=ze5 hv;have:=zhV m.n.length _ J.nodup J.inr;simp only[zZ,um,uy,uu]at hv;omega
abbrev poT(d:zg)(m:Hp)(l:List Int)(q:Nat×Int):zd×Tab:=([(2,.one (.bx 1002 0)),(3,.one (.bx 1003 0)),(6,pS (yZ l)),(8,I q.2),(26,pS (.sl 5 (d.pots.map zhB))),(27,I d.pots.length),(28,I q.1)],
 [(1002,some (.box ((zA d).map V.p))),(1003,some (.box ((yS m).map V.p)))])
abbrev piT(d:zg)(m:Hp)(l:List Int)(p:Pt)(L:List Int)(i:Nat)(q:Nat×Int):zd×Tab:=([(2,.one (.bx 1002 0)),(3,.one (.bx 1003 0)),(6,pS (yZ l)),(8,I q.2),(26,pS (.sl 5 (d.pots.map zhB))),(27,I d.pots.length),(28,I i),(10,.one (.bx 1010 0)),(40,pS (yZ L)),(41,I L.length),(42,I q.1)],
 [(1002,some (.box ((zA d).map V.p))),(1003,some (.box ((yS m).map V.p))),(1010,some (.box ((zhB p).map V.p)))])
set_option maxHeartbeats 1000000 in
theorem zg1{v e:Int}(hd:yl d=true)(h:ptE d m g=some (v,e)):zf Tryz.prog 31 [zr (zA d),zr (yS m)] [] (.tup [I v,I e]) []:=by
 unfold ptE at h;cases hv:zZ d m with
 |false=>
  rw[uw hv]at h;cases h;have hR:=ze6 hv;refine gO T Tryz.func31 λC hC=>?_
  repeat' first|refine gG ?_|exact gD|refine gB ?_ ?_<;>intro h|refine gC hR ?_|refine ze ?_
  exact gF
 |true=>
  rw[ur (by simp[hv])]at h;obtain⟨hs,hw⟩:=jj hd hv;have hR:=ze7 hv;have hso:=(ze5 hv).inr;have hol:=zmg hv;generalize (vz d m).order=l at h hR hol hso;have hnod: ∀x∈l,zv6 m x:=hso;generalize hRR:ptP d m g l d.pots 0=R at h;have hRn:R≠ .out:=λe=>by subst e;cases h
  refine gO T Tryz.func31 λC hC=>?_;refine vN rfl 0 6 rfl rfl λhpl=>?_;rw[uk]at hpl
  repeat' first|refine gG ?_|exact gD|refine gB ?_ ?_<;>intro h|refine gC hR ?_
  rw[uk]
  refine zn (λq:Nat×Int=>q.1<=d.pots.length/\inB q.2/\ptP d m g l (d.pots.drop q.1) q.2=R) (poT d m l) (λq=>d.pots.length - q.1) hC
   (0,0) ⟨uE _,ub,hRR⟩ id gM ?_
  clear hRR;rintro⟨i,s⟩ ⟨hi,U,J⟩;simp only at hi U J;change Goal _ _ _ _ _ [(2,.one (.bx 1002 0)),(3,.one (.bx 1003 0)),(6,pS (yZ l)),(8,I s),(26,pS (.sl 5 (d.pots.map zhB))),(27,I d.pots.length),(28,I (i:Int))] (poT d m l (i,s)).2 _;refine zm T hC true 200 rfl ?_;refine zp rfl ?_ ?_<;>intro h
  ·have hlt:i<d.pots.length:=by simpa using h
   clear h;obtain⟨p,hp⟩:=zb hlt;rw[drop_at hp]at J
   replace J:((ptN d m g p.x (ptL d m p l) s).bind λs=>ptP d m g l (d.pots.drop (i+1)) s)=R:=J
   have hF:=zsn hs hw p hnod;have hC1:=jy l ua
   have hL: ∃L,ptL d m p l=L/\L.length<=4096/\((p.t=(⟨#[]⟩:UB)/\L=[0])\/(¬p.t=(⟨#[]⟩:UB)/\L=l.filter λx=> !zis d m p x)):=by
    unfold ptL;by_cases ht:p.t=(⟨#[]⟩:UB)
    ·rw[uw ht];exact⟨_,rfl,ue,.inl ⟨ht,rfl⟩⟩
    ·rw[ur ht];refine⟨_,rfl,tQ (Uh _ _) hol,.inr ⟨ht,?_⟩⟩
     congr 1
     funext k
     simp[zis]
   obtain⟨L,hL1,hL3,hL2⟩:=hL;rw[hL1]at J;clear hL1;rcases hL2 with⟨ht,hL4⟩|⟨ht,hLf⟩
   ·repeat' first|refine gG ?_|(exfalso;simp[ht]at h;done)|refine gB ?_ ?_<;>intro h|(refine gI T (zq hp) ?_)|refine gT ?_
    subst hL4;change Goal _ _ _ _ _ ((42,I 0)::(41,I (([0]:List Int).length:Int))::(40,pS (yZ [0]))::_) _ _;generalize ([0]:List Int)=L at J hL3⊢
    refine zn (λq:Nat×Int=>q.1<=L.length/\inB q.2/\((ptN d m g p.x (L.drop q.1) q.2).bind λs=>ptP d m g l (d.pots.drop (i+1)) s)=R) (piT d m l p L i) (λq=>L.length - q.1) hC
     (0,s) ⟨uE _,U,J⟩ id gM ?_
    clear J U;rintro⟨k,s⟩ ⟨hk,U,J⟩;simp only at hk U J;change Goal _ _ _ _ _ [(2,.one (.bx 1002 0)),(3,.one (.bx 1003 0)),(6,pS (yZ l)),(8,I s),(26,pS (.sl 5 (d.pots.map zhB))),(27,I d.pots.length),(28,I (i:Int)),(10,.one (.bx 1010 0)),(40,pS (yZ L)),(41,I L.length),(42,I (k:Int))] (piT d m l p L i (k,s)).2 _;refine zm T hC true 200 rfl ?_;refine zp rfl ?_ ?_<;>intro h
    ·have hklt:k<L.length:=by simpa using h
     clear h;obtain⟨n0,hn0⟩:=zb hklt;rw[drop_at hn0]at J;obtain⟨n,f,hE,hcase⟩:=zfw J hRn;have hX:=ziq hE;have hsb':=U;unfold inB at hsb';rcases hcase with⟨hf,rfl⟩|⟨rfl,hnb,⟨hB,rfl⟩|⟨hB,hnx⟩⟩
     ·cases h
      repeat' first|refine gG ?_|exact gD|(exfalso;simp[hf]at h;done)|refine gB ?_ ?_<;>intro h|(refine gI T (zq hn0) ?_)|refine gC hX ?_|refine zl ?_
      exact gF
     ·cases h;unfold inB at hnb;have hw1:IntKind.i64.wrap (s+n)=s+n:=wrap64 ua;have hb:=ji (s+n);rw[hB]at hb
      repeat' first|refine gG ?_|exact gD|refine gB ?_ ?_<;>intro h|(refine gI T (zq hn0) ?_)|refine gC hX ?_|(rw[hw1];refine gC hb ?_)|refine zl ?_
      exact gF
     ·unfold inB at hnb;have hw1:IntKind.i64.wrap (s+n)=s+n:=wrap64 ua;have hb:=ji (s+n);rw[hB]at hb
      repeat' first|refine gG ?_|exact gD|refine gB ?_ ?_<;>intro h|(refine gI T (zq hn0) ?_)|refine gC hX ?_|(rw[hw1];refine gC hb ?_)|refine zl ?_
      rw[show IntKind.i64.wrap ((k:Int)+1)=((k+1:Nat):Int) by rw[wrap64 ua];omega];exact zh (k+1,s+n) ⟨by simp only;omega,zqk.1 hB,hnx⟩ id (by simp only;omega) gM
    ·have hkge: ¬k<L.length:=by simpa using h
     clear h;rw[uC ua]at J
     replace J:ptP d m g l (d.pots.drop (i+1)) s=R:=J
     repeat' first|refine gG ?_|refine gB ?_ ?_<;>intro h|refine ze ?_
     rw[show IntKind.i64.wrap ((i:Int)+1)=((i+1:Nat):Int) by rw[wrap64 ua];omega];exact zh (i+1,s) ⟨by simp only;omega,U,J⟩ id (by simp only;omega) gM
   ·rw[<-hLf]at hF
    repeat' first|refine gG ?_|(exfalso;simp[ht]at h;done)|refine gB ?_ ?_<;>intro h|(refine gI T (zq hp) ?_)|refine gT ?_|refine gR hC1 (nm [140]) ?_|refine gR hF (nm [140,1,141,3,4,1002,1003,1010]) ?_
    refine gZ 141 [(40,pS (yZ L))] [] ?_;rw[uk]
    refine zn (λq:Nat×Int=>q.1<=L.length/\inB q.2/\((ptN d m g p.x (L.drop q.1) q.2).bind λs=>ptP d m g l (d.pots.drop (i+1)) s)=R) (piT d m l p L i) (λq=>L.length - q.1) hC
     (0,s) ⟨uE _,U,J⟩ id gM ?_
    clear J U;rintro⟨k,s⟩ ⟨hk,U,J⟩;simp only at hk U J;change Goal _ _ _ _ _ [(2,.one (.bx 1002 0)),(3,.one (.bx 1003 0)),(6,pS (yZ l)),(8,I s),(26,pS (.sl 5 (d.pots.map zhB))),(27,I d.pots.length),(28,I (i:Int)),(10,.one (.bx 1010 0)),(40,pS (yZ L)),(41,I L.length),(42,I (k:Int))] (piT d m l p L i (k,s)).2 _;refine zm T hC true 200 rfl ?_;refine zp rfl ?_ ?_<;>intro h
    ·have hklt:k<L.length:=by simpa using h
     clear h;obtain⟨n0,hn0⟩:=zb hklt;rw[drop_at hn0]at J;obtain⟨n,f,hE,hcase⟩:=zfw J hRn;have hX:=ziq hE;have hsb':=U;unfold inB at hsb';rcases hcase with⟨hf,rfl⟩|⟨rfl,hnb,⟨hB,rfl⟩|⟨hB,hnx⟩⟩
     ·cases h
      repeat' first|refine gG ?_|exact gD|(exfalso;simp[hf]at h;done)|refine gB ?_ ?_<;>intro h|(refine gI T (zq hn0) ?_)|refine gC hX ?_|refine zl ?_
      exact gF
     ·cases h;unfold inB at hnb;have hw1:IntKind.i64.wrap (s+n)=s+n:=wrap64 ua;have hb:=ji (s+n);rw[hB]at hb
      repeat' first|refine gG ?_|exact gD|refine gB ?_ ?_<;>intro h|(refine gI T (zq hn0) ?_)|refine gC hX ?_|(rw[hw1];refine gC hb ?_)|refine zl ?_
      exact gF
     ·unfold inB at hnb;have hw1:IntKind.i64.wrap (s+n)=s+n:=wrap64 ua;have hb:=ji (s+n);rw[hB]at hb
      repeat' first|refine gG ?_|exact gD|refine gB ?_ ?_<;>intro h|(refine gI T (zq hn0) ?_)|refine gC hX ?_|(rw[hw1];refine gC hb ?_)|refine zl ?_
      rw[show IntKind.i64.wrap ((k:Int)+1)=((k+1:Nat):Int) by rw[wrap64 ua];omega];exact zh (k+1,s+n) ⟨by simp only;omega,zqk.1 hB,hnx⟩ id (by simp only;omega) gM
    ·have hkge: ¬k<L.length:=by simpa using h
     clear h;rw[uC ua]at J
     replace J:ptP d m g l (d.pots.drop (i+1)) s=R:=J
     repeat' first|refine gG ?_|refine gB ?_ ?_<;>intro h|refine ze ?_
     rw[show IntKind.i64.wrap ((i:Int)+1)=((i+1:Nat):Int) by rw[wrap64 ua];omega];exact zh (i+1,s) ⟨by simp only;omega,U,J⟩ id (by simp only;omega) gM
  ·have hge: ¬i<d.pots.length:=by simpa using h
   clear h;rw[uC ua]at J
   replace J:Vn.ok s=R:=J
   subst J;cases h
   repeat' first|refine gG ?_|refine gB ?_ ?_<;>intro h|refine ze ?_
   exact gF
def zfx(d:zg)(m:Hp):zf Tryz.prog 28 [zr (zA d),zr (yS m)] [] (I (if wS d m=true then 0 else 1)) []:=by
 have J:=zbx d;have U:=yW d m;unfold wS;generalize zcC d=q at J⊢;generalize hr:(if(decide (q.2.2=0)&&zZ d m)=true then(0:Int)else 1)=r;refine gO T Tryz.func28 λC hC=>?_
 repeat' first|refine gG ?_|refine gB ?_ ?_<;>intro h|refine gC J ?_|refine gC U ?_|refine ze ?_
 all_goals (simp only[uy,uG,uq,uu]at *; simp_all;subst hr;exact gF)
def zaz{v e:Int}(J:wS d m=true)(h:ptE d m g=some (v,e)):zf Tryz.prog 10 [zr (zA d),zr (yS m)] [] (.tup [I v,I e]) []:=by
 have U:=zfx d m;rw[uw J]at U;have hP:=zg1 (ztl (vG J).1).1 h;refine gO T Tryz.func10 λC hC=>?_
 repeat' first|refine gG ?_|exact gD|refine gB ?_ ?_<;>intro h|refine gC U ?_|refine gC hP ?_
 exact gF
def zjB(m:Hp)(hg:m.g.length<=1000000)(hn:m.n.length<=1000000)(hf: ∀x∈m.n,x.f.length<=1000000):
 zf Tryz.prog 29 [zr (yS m)] [] (.agg [.ar 0,.ar 1]) [(0,.arr 1 (m.g.map z8)),(1,.vw [2] 2 (wRows m.n 0)),(2,.bag 1 (jR m.n))]:=by
 have hC1:=jy m.g hg;refine gO T Tryz.func29 λC hC=>?_
 repeat' first|refine gG ?_|refine gB ?_ ?_<;>intro h|refine gR hC1 (nm [141]) ?_
 rw[uk];refine gA 150 2 [] [(1003,[.ar 141,.ar 150])] ?_;refine ztO hC rfl 151 1 rfl ?_;refine ztQ rfl 150 [151] (rows:=[]) (rows':=wRows (m.n.take 0) 0) rfl rfl ?_
 refine zn (λi:Nat=>i<=m.n.length) (λi=>([(2,.one (.bx 1002 0)),(3,.one (.bx 1003 0)),(11,pS (zic m.n)),(12,I m.n.length),(13,I i)],
  [(1002,some (Res.box [.p (.k (.slice none 0 0)),.p (.k (.slice none 0 0))])),(1003,some (Res.box [.ar 141,.ar 150])),(141,some (Res.arr 1 (m.g.map z8))),(150,some (Res.vw [151] 2 (wRows (m.n.take i) 0))),(151,some (Res.bag 1 (jR (m.n.take i))))])) (λi=>m.n.length - i) hC
  0 (uE _) id gM ?_
 intro i hi;refine zm T hC true 200 rfl ?_;refine zp rfl ?_ ?_<;>intro h
 ·have hlt:i<m.n.length:=by simpa using h
  clear h;obtain⟨x,hx⟩:=zb hlt;have hC2:=jy x.f (hf x (uv hx));have hj:=zgc (m.n.take i) x.t 151 140;have J:=yq (m.n.take i) 0;have htl:(m.n.take i).length=i:=by rw[tj];omega
  have hbt:jR (m.n.take i)++[x.f.map z8]=jR (m.n.take (i+1)):=by unfold jR;rw[yc hx,u6];rfl
  have U:=zgd (m.n.take i) x 151 140 161;rw[<-yc hx,<-zdz]at U
  repeat' first|refine gG ?_|refine gB ?_ ?_<;>intro h|(refine gI T (zq hx) ?_)|refine gR hC2 (nm [140]) ?_|(refine zkk T hC [PC.p (ki x.t),PC.a 0] [140] rfl rfl rfl rfl rfl rfl rfl rfl rfl rfl rfl rfl ?_)|(refine zbK T 160 hC (id:=150) (rows:=wRows (m.n.take i) 0) (rows2:=[[PC.p (ki x.t),PC.a 0]]) (ids:=[151]) (ids2:=[140]) [151,140] (wRows (m.n.take i) 0++[[PC.p (ki x.t),PC.a 1]]) (bytes:=32) rfl rfl rfl rfl (znV.vw (T.es_ok _ _ rfl)) rfl hj.1 hj.2.1 hj.2.2.1 hj.2.2.2 rfl rfl rfl ud (by rw[J,uU];omega) (by rw[J,uU];omega) rfl rfl rfl ?_)
  rw[wrapN ua];refine zkg hC rfl 151 140 161 rfl rfl rfl rfl [] uh [(160,.vw [161] 2 (wRows (m.n.take (i+1)) 0))] ⟨⟨_,rfl,rfl,U⟩,uh⟩ ?_;exact zh (i+1) ua (ms [(150,160),(151,161)]) ua ⟨rfl,⟨rfl,rfl,rfl,rfl,rfl,uh⟩,⟨rfl,rfl,rfl,rfl,(by rw[<-hbt];rfl),uh⟩,rfl,xc rfl⟩
 ·have hge: ¬i<m.n.length:=by simpa using h
  clear h;rw[uQ ua]
  repeat' first|refine gG ?_|refine gB ?_ ?_<;>intro h|refine ze ?_
  exact gW [141,150,151]
theorem zpa{c:Cl}(h:(chE d c).1=0): ∃i,zaZ d c.p=some i/\d.procs[i]?=some (chE d c).2:=by
 unfold chE at h⊢;cases hi:zaZ d c.p with
 |none=>rw[hi]at h;cases h
 |some i=>
  simp only[hi]at h⊢;cases hp:d.procs[i]? with
  |none=>simp only[hp]at h;cases h
  |some p=>
   simp only[hp]at h⊢;refine⟨i,rfl,?_⟩;by_cases J:((!decide (p.res=(⟨#[]⟩:UB))&& !plB p.res)||p.params.any (λf=> !plB f.t))=true
   ·rw[uw J]at h;cases h
   rw[ur J]at h⊢;by_cases h2: ¬c.a.length=p.params.length
   ·rw[uw h2]at h;cases h
   rw[ur h2]at h⊢;by_cases h3:(List.zip c.a p.params).any agB=true
   ·rw[uw h3]at h;cases h
   rw[ur h3];exact hp
abbrev mzS(om:Option Hp):S:=zr (yS (om.getD ⟨[],[]⟩))
def zuK{x e:S}:LeS (.tup [x,.agg [.p (.k (.slice none 0 0)),.p (.k (.slice none 0 0))],e]) (.tup [x,mzS none,e]):=LeS.tup (.cons (.refl _) (.cons (LeS.agg (.cons (.nil 1) (.cons (.nil 2) .nil))) (.cons (.refl _) .nil)))
end Hw.Gm
