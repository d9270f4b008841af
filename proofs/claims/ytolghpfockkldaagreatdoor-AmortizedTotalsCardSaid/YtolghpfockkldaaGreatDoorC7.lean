import Derived.Test.YtolghpfockkldaaGreatDoorC6
import Derived.Test.YtolghpfockkldaaGreatDoorC1
import Derived.Test.YtolghpfockkldaaGreatDoorC3
import Derived.Test.YtolghpfockkldaaGreatDoorC4
import Derived.Test.YtolghpfockkldaaGreatDoorC5
set_option linter.unusedVariables false
set_option linter.unusedSimpArgs false
set_option linter.unusedSectionVars false
set_option linter.unnecessarySimpa false
namespace Hw.Gm
open Go Go.Proofs Hw.M Ps
theorem zpg(x:Fld)(s:Str):zh Tryz.prog 243 [zF (zw x),.one (.bx 0 0)] [(0,.box [.p (ks s)])] (.bq (decide (x.n=s))) [(0,.box [.p (ks s)])]:=by
 refine gO T Tryz.func243 λC hC=>?_
 repeat' first|refine gG ?_|refine gB ?_ ?_<;>intro h|refine ze ?_
 exact gE
theorem zsq(i:Nat):zh Tryz.prog 242 [I i] [] (.tup [I i,I 0]) []:=by
 refine gO T Tryz.func242 λC hC=>?_
 repeat' first|refine gG ?_|(exfalso;have h9:=uj h;omega)|refine gB ?_ ?_<;>intro h
 exact gF
variable {i:Nat}
theorem zha(t:yn)(s:Str)(h:ixF t.f s=some i):zh Tryz.prog 199 [zF (zS t),Sr s] [] (.tup [I i,I 0]) []:=by
 have J:=jJ 243 t.f (λx _=>decide (x.n=s)) (λ_ s=>s) (λc=>c=s) (λx hx c hc=>⟨by subst hc;exact zpg x c,λ_=>hc⟩) s rfl;rw[y3]at J;have U:t.f.findIdx? (λx=>decide (x.n=s))=some i:=h;rw[U]at J;simp only[idxI]at J;have hI:=zsq i;refine gO T Tryz.func199 λC hC=>?_
 repeat' first|refine gG ?_|refine gB ?_ ?_<;>intro h|refine gR J (nm [1003]) ?_|refine gC hI ?_
 exact gF
def tyI(d:zj)(m:Hp)(n:Int):Str:=if n=0 then(⟨#[]⟩:UH)else tyN d (ndG m n).t
variable {d:zj}{m:Hp}
theorem zmi(hs:xI m)(hw:zgU d m)(k:Kn){n:Int}(h:isB m n=true):zh Tryz.prog 93 [.one (.bx 0 0),I n] (imR d m k 0 1 2) (Sr (tyI d m n)) (imR d m k 0 1 2):=by
 unfold isB at h;simp only[uo,uq]at h;have hn:=hs.n;unfold tyI;by_cases h0:n=0
 ·rw[uv h0];refine gO T Tryz.func93 λC hC=>?_
  repeat' first|refine gG ?_|(exfalso;have h9:=um h;omega)|refine gB ?_ ?_<;>intro h|refine ze ?_
  exact gE
 ·rw[uu h0];obtain⟨x,J⟩:=zd (l:=m.n) (i:=(n - 1).toNat) ua;obtain⟨h1,h2⟩:=hw x (List.mem_of_getElem? J);obtain⟨y,hy⟩:=zd h2;have U:IntKind.i64.wrap (n - 1)=n - 1:=wrap64 ua;rw[show tyN d (ndG m n).t=y.n by simp only[ndG,J,Option.getD_some,tyN,hy,uO]];refine gO T Tryz.func93 λC hC=>?_
  repeat' first|refine gG ?_|(exfalso;have h9:=uj h;omega)|refine gB ?_ ?_<;>intro h|(rw[U];refine gI T (yZ J) ?_)|(refine xz T hC rfl rfl rfl h1 (yZ hy) rfl rfl ?_)|refine ze ?_
  exact gE
theorem zmj(hs:xI m)(k:Kn)(v:Int)(s:Str):FnX Tryz.prog 139 [.one (.bx 0 0),I v,Sr s] (imR d m k 0 1 2) (bE d m (fldI d m v s k)):=by
 have hn:=hs.n;unfold fldI;by_cases U:v=0
 ·rw[uv U];show ya _ _ _ _ _ _;refine zX T Tryz.func139 ud rfl rfl rfl λC hC=>?_
  repeat' first|refine gG ?_|(exfalso;have h9:=um h;omega)|refine gB ?_ ?_<;>intro h|(refine zcm hC [.int .i64 17] rfl ud rfl rfl ?_)|(refine xF hC rfl rfl ?_)
  all_goals first
   |exact gU (zi ⟨rfl,id,⟨rfl,rfl,rfl,uh⟩,rfl,rfl⟩)
   |exact zi ⟨rfl,id,⟨rfl,rfl,rfl,uh⟩,rfl,rfl⟩
 ·rw[uu U];by_cases hv:v<0
  ·rw[uv hv];trivial
  ·rw[uu hv];cases hx:m.n[(v - 1).toNat]? with
   |none=>trivial
   |some x=>
    simp only;by_cases ht:x.t<0
    ·rw[uv ht];trivial
    ·rw[uu ht];cases hy:d.types[x.t.toNat]? with
     |none=>trivial
     |some t=>
      simp only;cases hi:ixF t.f s with
      |none=>trivial
      |some i=>
       simp only;cases hu:x.f[i]? with
       |none=>trivial
       |some u=>
        simp only;have hlt:=(uw.1 hx).1;have J:IntKind.i64.wrap (v - 1)=v - 1:=wrap64 ua;have hF:=zha t s hi;show zh _ _ _ _ _ _;refine gO T Tryz.func139 λC hC=>?_
        repeat' first|refine gG ?_|(exfalso;have h9:=uj h;omega)|refine gB ?_ ?_<;>intro h|(rw[J];refine gI T (yZ hx) ?_)|(refine gI T (yZ hy) ?_)|refine gC hF ?_|(refine gI T (zl hu) ?_)|refine ze ?_
        exact gE
abbrev zve(d:zj)(m:Hp)(nd:Int)(e:Ex)(k:Kn)(r:Bn):Prop:=FnX Tryz.prog 96 [.one (.bx 0 0),zF (ye e),I nd] (imR d m k 0 1 2) (bE d m r)
abbrev zvO(d:zj)(m:Hp)(i:Nat)(nd:Int)(k:Kn)(r:Bn):Prop:=FnX Tryz.prog 140 [.one (.bx 0 0),I i,I nd] (imR d m k 0 1 2) (bE d m r)
theorem zix: ∀M,RepEV M (.o (ki 0)) (.int .i64 0):=λM=>by simp only[RepEV,RepPV];exact⟨uh,rfl⟩
theorem zmk{nd:Int}{q:K2}(h:zu7 i nd=some q):(q.1.val:Int)=i/\(q.2.val:Int)=nd:=by
 unfold zu7 at h;split at h
 ·rename_i hh;simp only[ui]at h;subst h;exact⟨rfl,by simp only;omega⟩
 ·cases h
theorem zph(g:Nat)(hE: ∀nd e k,zve d m nd e k (inV d m g nd e k))(i:Nat)(nd:Int)(k:Kn):zvO d m i nd k (meV d m (g+1) i nd k):=by
 rw[meV];cases hx:d.measures[i]? with
 |none=>trivial
 |some x=>
  simp only;by_cases h0:nd=0
  ·rw[uv h0];show zh _ _ _ _ _ _;refine gO T Tryz.func140 λC hC=>?_
   repeat' first|refine gG ?_|(exfalso;have h9:=um h;omega)|refine gB ?_ ?_<;>intro h|(refine gI T (zl hx) ?_)|refine ze ?_
   exact gE
  ·rw[uu h0];cases hq:zu7 i nd with
   |none=>trivial
   |some q=>
    simp only;obtain⟨e1,e2⟩:=zmk hq;have key:(S.agg [.p (ki (i:Int)),.p (ki nd)])=k2G.s q:=by show _=S.agg [.p (ki (q.1.val:Int)),.p (ki (q.2.val:Int))];rw[e1,e2]
    cases hk:lkI k.kn q with
    |none=>trivial
    |some ov=>
     cases ov with
     |some v=>
      have J:=zoN hk;show zh _ _ _ _ _ _;refine gO T Tryz.func140 λC hC=>?_
      repeat' first|refine gG ?_|(exfalso;have h9:=uj h;omega)|exact gD|refine gB ?_ ?_<;>intro h|(refine gI T (zl hx) ?_)|(refine yH k2G hC (et:=3) (c0:= .int .i64 0) (k0:=q) (.o (ki 0)) (pv:= .o (ki v)) (b:=true) rfl (uX some key) rfl ud ud zix (by rw[J];rfl) (by rw[J];rfl) rfl rfl ?_)|refine ze ?_
      exact gE
     |none=>
      have J:=zoO hk;simp only;cases hb:lkB k.bu q with
      |none=>trivial
      |some bb=>
       have hgb:=zrQ hb;cases bb with
       |true=>
        show ya _ _ _ _ _ _;refine zX T Tryz.func140 ud rfl rfl rfl λC hC=>?_
        repeat' first|refine gG ?_|(exfalso;have h9:=uj h;omega)|exact gD|refine gB ?_ ?_<;>intro h|(refine gI T (zl hx) ?_)|(refine yH k2G hC (et:=3) (c0:= .int .i64 0) (k0:=q) (.o (ki 0)) (pv:= .o (ki 0)) (b:=false) rfl (uX some key) rfl ud ud zix (by rw[J];rfl) (by rw[J];rfl) rfl rfl ?_)|(refine vQ k2G hC (et:=4) (c0:= .bool false) (k0:=q) (.o (.k (.bool false))) (pv:= .o (.k (.bool true))) rfl (uX some key) rfl ud ud (zfI false) hgb rfl rfl ?_)|(refine zcm hC [.int .i64 16] rfl ud rfl rfl ?_)|(refine xF hC rfl rfl ?_)
        exact gU (zi ⟨rfl,id,⟨rfl,rfl,rfl,uh⟩,rfl,rfl⟩)
       |false=>
        simp only;have U:=hE nd x.x { k with bu:=putG k.bu q (.o (.k (.bool true))) };cases hr:inV d m g nd x.x { k with bu:=putG k.bu q (.o (.k (.bool true))) } with
        |out=>trivial
        |ok v k1=>
         rw[hr]at U;have U:zh _ _ _ _ _ _:=U;show zh _ _ _ _ _ _;refine gO T Tryz.func140 λC hC=>?_
         repeat' first|refine gG ?_|(exfalso;have h9:=uj h;omega)|exact gD|refine gB ?_ ?_<;>intro h|(refine gI T (zl hx) ?_)|(refine yH k2G hC (et:=3) (c0:= .int .i64 0) (k0:=q) (.o (ki 0)) (pv:= .o (ki 0)) (b:=false) rfl (uX some key) rfl ud ud zix (by rw[J];rfl) (by rw[J];rfl) rfl rfl ?_)|(refine vQ k2G hC (et:=4) (c0:= .bool false) (k0:=q) (.o (.k (.bool false))) (pv:= .o (.k (.bool false))) rfl (uX some key) rfl ud ud (zfI false) hgb rfl rfl ?_)|(refine zdi k2G hC (et:=4) (k0:=q) (pv:= .o (.k (.bool true))) rfl (uX some key) rfl rfl ud rfl rfl ?_)|refine gR U (nm [0,1,2]) ?_|(refine zue k2G hC (et:=4) (k0:=q) rfl (uX some key) rfl ud rfl rfl rfl ?_)|(refine zdi k2G hC (et:=3) (k0:=q) (pv:= .o (ki v)) rfl (uX some key) rfl rfl ud rfl rfl ?_)|refine ze ?_
         exact gE
        |flt e k1=>
         rw[hr]at U;have U:ya _ _ _ _ _ _:=U;show ya _ _ _ _ _ _;refine zX T Tryz.func140 ud rfl rfl rfl λC hC=>?_
         repeat' first|refine gG ?_|(exfalso;have h9:=uj h;omega)|exact gD|refine gB ?_ ?_<;>intro h|(refine gI T (zl hx) ?_)|(refine yH k2G hC (et:=3) (c0:= .int .i64 0) (k0:=q) (.o (ki 0)) (pv:= .o (ki 0)) (b:=false) rfl (uX some key) rfl ud ud zix (by rw[J];rfl) (by rw[J];rfl) rfl rfl ?_)|(refine vQ k2G hC (et:=4) (c0:= .bool false) (k0:=q) (.o (.k (.bool false))) (pv:= .o (.k (.bool false))) rfl (uX some key) rfl ud ud (zfI false) hgb rfl rfl ?_)|(refine zdi k2G hC (et:=4) (k0:=q) (pv:= .o (.k (.bool true))) rfl (uX some key) rfl rfl ud rfl rfl ?_)|(refine zr hC U (nm [0,1,2]) rfl rfl (zH.refl _) rfl rfl rfl rfl rfl rfl ?_)
         exact gU (zi ⟨rfl,id,⟨rfl,rfl,rfl,uh⟩,rfl,rfl⟩)
abbrev clI(e:Ex)(nd:Int):RL:=[(5,.box [.bx 0 0]),(6,.box ((ye e).map V.p)),(7,.box [.p (ki nd)])]
noncomputable def aE(d:zj)(m:Hp)(e:Ex)(nd:Int):Bn->End
 | .ok v k=> .ok (I v) (imR d m k 0 1 2++clI e nd)
 | .flt er k=> .pn (flI er) (imR d m k 0 1 2++clI e nd)
 | .out=> .no
abbrev zvP(d:zj)(m:Hp)(nd:Int)(e:Ex)(i:Nat)(k:Kn)(r:Bn):Prop:=FnX Tryz.prog 137 [I i,.one (.bx 5 0),.one (.bx 6 0),.one (.bx 7 0)] (imR d m k 0 1 2++clI e nd) (aE d m e nd r)
theorem zpi(g:Nat)(hE: ∀nd e k,zve d m nd e k (inV d m g nd e k))(nd:Int)(e:Ex)(i:Nat)(k:Kn):zvP d m nd e i k (atV d m (g+1) nd e i k):=by
 rw[atV];cases U:e.l[i]? with
 |none=>trivial
 |some x=>
  simp only;have J:=hE nd x k;cases hr:inV d m g nd x k with
  |out=>trivial
  |ok v k1=>
   rw[hr]at J;have J:zh _ _ _ _ _ _:=J;show zh _ _ _ _ _ _;refine gO T Tryz.func137 λC hC=>?_
   repeat' first|refine gG ?_|refine gB ?_ ?_<;>intro h|(refine gI T (xA U) ?_)|refine gR J (nm [0,1,2]) ?_
   exact gE
  |flt er k1=>
   rw[hr]at J;have J:ya _ _ _ _ _ _:=J;show ya _ _ _ _ _ _;refine zX T Tryz.func137 ud rfl rfl rfl λC hC=>?_
   repeat' first|refine gG ?_|refine gB ?_ ?_<;>intro h|(refine gI T (xA U) ?_)|(refine xE T hC J (nm [0,1,2]) [5,6,7] rfl rfl (zH.refl _) rfl rfl rfl rfl rfl ud ud ?_)
   exact gU (zi ⟨rfl,id,⟨rfl,rfl,rfl,rfl,rfl,rfl,uh⟩,rfl,rfl⟩)
end Hw.Gm
namespace Hw
open Go
theorem zen(σ:Nat->Nat): ∀ {A B:RL},(A++B).ren σ=A.ren σ++B.ren σ
 | [],_=>rfl
 |(i,r)::A,B=>by simp only[uN,RL.ren,zen σ (A:=A)]
theorem ziy: ∀ {A B:RL},RL.ids (A++B)=A.ids++B.ids
 | [],_=>rfl
 |(i,r)::A,B=>by simp only[uN,RL.ids,ziy (A:=A)]
theorem zml: ∀ {A B:RL},tb (A++B)=tb A++tb B
 | [],_=>rfl
 |(i,r)::A,B=>by simp only[uN,tb,zml (A:=A)]
theorem ziz{i:Nat}: ∀ {l:List Nat} {t:Tab},i∈l->tg (xy l++t) i=none
 |x::l,t,h=>by
  simp only[xy,uN,zC];split
  ·rfl
  ·rename_i ne;rcases uI.1 h with e|h
   ·exact absurd e.symm ne
   ·exact ziz h
variable {i:Nat}{tab:Tab}
theorem ziA{Rw Rr Rw':RL}{σ:Nat->Nat}(hT: ∀j s,(j,s)∈Rr.ren σ->tg tab j=some s){r:Res}(h:tg ((tb (Rw'.ren σ)++xy (Rw.ids.map σ))++tab) i=some r):
 tg ((tb ((Rw'++Rr).ren σ)++xy ((RL.ids (Rw++Rr)).map σ))++tab) i=some r:=by
 rw[zen,ziy,zml,u6];simp only[tq]at h⊢;cases h1:hasB i (keysT (tb (Rw'.ren σ)))with
 |true=>
  rw[wM (b':=[]) h1]at h⊢;exact h
 |false=>
  rw[y2 h1]at h⊢;rcases Classical.em (i∈Rw.ids.map σ)with U|U
  ·rw[ziz U]at h;cases h
  ·rw[zbR U]at h;refine zkh hT (λJ=>?_) h;rcases tj.1 J with J|J
   ·exact absurd J U
   ·rw[zgi];exact J
variable {P:Program}{af:Array Edge}{args ss:List S}{d:Option Nat}{f:FuncId}{g:Option (Nat×Bool)}{ps:String}{res:S}{ts:Array TypeId}{x:Operand}
section
variable {ty:TypeId}
theorem zsr{Rw Rr Rw':RL}(h:zh P f args (Rw++Rr) res (Rw'++Rr))(σ:Nat->Nat){l:List Operand}{first caps:List V}
 (hx:okc x (.one (.cl f first caps))) (hl:zeK l ss) (J:zH (ones first++ss++ones caps) (Ss.ren σ args)) (hi:injB σ (RL.ids (Rw++Rr))=true) (U:injB σ (RL.ids (Rw'++Rr))=true)
 (hc:cloS (RL.ids (Rw++Rr)++RL.ids (Rw'++Rr)) res=true) (hcR:x9 (RL.ids (Rw++Rr)++RL.ids (Rw'++Rr)) (Rw'++Rr)=true):
 Snd P ⟨d,.call ⟨.value x,l.toArray,ts⟩,ty,ps,af,g⟩ (rq x (.one (.cl f first caps))++rqs l ss) ((Rw++Rr).ren σ) ((yc (Rw++Rr) (Rw'++Rr)).map σ) (res.ren σ) (tb (Rw'.ren σ)++xy (Rw.ids.map σ)):=by
 intro C st M ρ a w hH h1 hT hF hd k Q hk;refine zki h σ hx hl J hi U hc hcR C st M ρ a w hH h1 hT hF hd k Q λa' w' M' ρ' hH'=>hk a' w' M' ρ' ?_
 refine hH'.shift rfl rfl λi r hr=>?_;exact ziA (λj s hm=>xm hT (by rw[zen];exact tj.2 (.inr hm))) hr
end
variable {C:Ctx}{Q:Exit->St->Prop}{all:Array Oper}{rest:List Oper}
section
variable {k:List Frm} {n:Nat} {sl:zf}
theorem yj{l:List Operand}{ty:TypeId}{g0:Option (Nat×Bool)}{gs:zf}{md:Mode}(hC:C.low){first caps:List V}{Rw Rr Rw':RL}
 (h:zh P f args (Rw++Rr) res (Rw'++Rr)) (σ:Nat->Nat) (hx:ev sl x=some (.one (.cl f first caps))) (hl:evs sl l=some ss) (ha:zH (ones first++ss++ones caps) (Ss.ren σ args)) (hi:injB σ (RL.ids (Rw++Rr))=true) (J:injB σ (RL.ids (Rw'++Rr))=true)
 (hc:cloS (RL.ids (Rw++Rr)++RL.ids (Rw'++Rr)) res=true) (U:x9 (RL.ids (Rw++Rr)++RL.ids (Rw'++Rr)) (Rw'++Rr)=true) (hT:rdT tab ((Rw++Rr).ren σ)=(Rw++Rr).ren σ) (hfr:allB (λid=>Nat.ble 100 id&&freshB id ⟨n,sl,tab⟩) ((yc (Rw++Rr) (Rw'++Rr)).map σ)=true) (hm:metL all sl g0=some gs) (hd:dok d n=true)
 (g:Goal P C (.ops all rest (nx md ⟨d,gs++(rq x (.one (.cl f first caps))++rqs l ss),(Rw++Rr).ren σ,(yc (Rw++Rr) (Rw'++Rr)).map σ,res.ren σ,tb (Rw'.ren σ)++xy (Rw.ids.map σ)⟩)) k n (app d (res.ren σ) (tb (Rw'.ren σ)++xy (Rw.ids.map σ)) ⟨n,sl,tab⟩).sl ((tb (Rw'.ren σ)++xy (Rw.ids.map σ))++tab) Q):
 Goal P C (.ops all (⟨d,.call ⟨.value x,l.toArray,ts⟩,ty,ps,af,g0⟩::rest) md) k n sl tab Q:=by
 have e1:=zB (st:=⟨n,sl,tab⟩) hx;have e2:=xO (st:=⟨n,sl,tab⟩) hl;have:=zk hm (zsr (ty:=ty) (ps:=ps) (af:=af) (g:=g0) (d:=d) (ts:=ts) h σ e1.1 e2.1 ha hi J hc U) (n:=n) (tab:=tab);exact zT (L:=⟨d,gs++(rq x (.one (.cl f first caps))++rqs l ss),(Rw++Rr).ren σ,(yc (Rw++Rr) (Rw'++Rr)).map σ,res.ren σ,tb (Rw'.ren σ)++xy (Rw.ids.map σ)⟩) hC this.1 rfl ⟨by rw[za,za];exact⟨this.2,e1.2,e2.2⟩,jg hT,hfr,hd⟩ g
end
section
variable {ty:TypeId}
theorem zpj{Rw Rr Rw':RL}{pv:Value}(h:ya P f args (Rw++Rr) pv (Rw'++Rr))(σ:Nat->Nat){l:List Operand}{first caps:List V}
 (hx:okc x (.one (.cl f first caps))) (hl:zeK l ss) (J:zH (ones first++ss++ones caps) (Ss.ren σ args)) (hi:injB σ (RL.ids (Rw++Rr))=true) (U:injB σ (RL.ids (Rw'++Rr))=true)
 (hcR:x9 (RL.ids (Rw++Rr)++RL.ids (Rw'++Rr)) (Rw'++Rr)=true):
 PnO P ⟨d,.call ⟨.value x,l.toArray,ts⟩,ty,ps,af,g⟩ (rq x (.one (.cl f first caps))++rqs l ss) ((Rw++Rr).ren σ) ((yc (Rw++Rr) (Rw'++Rr)).map σ) pv (tb (Rw'.ren σ)++xy (Rw.ids.map σ)):=by
 intro C st M ρ a w hH h1 hT hF K Q hk;refine zgO h σ hx hl J hi U hcR C st M ρ a w hH h1 hT hF K Q λM' ρ' w' hH'=>hk M' ρ' w' ?_
 refine hH'.shift rfl rfl λi r hr=>?_;exact ziA (λj s hm=>xm hT (by rw[zen];exact tj.2 (.inr hm))) hr
end
section
variable {k:List Frm} {n:Nat} {sl:zf}
end
end Hw
namespace Hw.Gm
open Go Go.Proofs Hw.M Ps
theorem zss{d:zj}{m:Hp}{nd:Int}{e:Ex}{k k1:Kn}{v:Int}(o:e.op=24)(hv:v<9223372036854775808)
 (U:zh Tryz.prog 137 [I 0,.one (.bx 5 0),.one (.bx 6 0),.one (.bx 7 0)] (imR d m k 0 1 2++clI e nd) (I v) (imR d m k1 0 1 2++clI e nd)):
 zh Tryz.prog 96 [.one (.bx 0 0),zF (ye e),I nd] (imR d m k 0 1 2) (I (zlO v)) (imR d m k1 0 1 2):=by
 have hL:=zlD v.toNat ua;have hm:(if(0:Int)<v then v else 0)=(v.toNat:Int):=by split<;>omega
 have hc:IntKind.u64.wrap (v.toNat:Int)=(v.toNat:Int):=by rw[IntKind.wrap_u64];omega
 have hl:(if(0:Int)<IntKind.i64.wrap ((Lib.bitLen v.toNat:Int) - 1)then IntKind.i64.wrap ((Lib.bitLen v.toNat:Int) - 1)else 0)=zlO v:=by
  unfold zlO;by_cases J:v<1
  ·have:v.toNat=0:=by omega
   rw[this,uv J];decide
  ·rw[uu J,za0 ua ua]
   have hlt:Nat.log2 v.toNat<64:=by
    rw[Nat.log2_lt ua];omega
   rw[wrap64 ua];split<;>omega
 refine gO T Tryz.func96 λC hC=>?_
 repeat' first|refine gG ?_|exact gD|(exfalso;first|(have h0:=uj h;omega)|(have h0:=um h;omega))|refine gB ?_ ?_<;>intro h|(refine yj hC U (nm [0,1,2,3,4,1003,1004,1005]) rfl rfl (zH.refl _) rfl rfl rfl rfl rfl rfl rfl rfl ?_)|(refine v7 hC (v.toNat:Int) rfl rfl hm rfl rfl ?_)|(rw[hc];refine gC hL ?_)|(refine v7 hC (zlO v) rfl rfl hl rfl rfl ?_)
 exact gE
end Hw.Gm
namespace Hw
open Go
def zcU(ms:List Nat)(m i:Nat):Bool:=Nat.beq i m||(Nat.blt m i&&zcQ (nth ms i) m)
def v8(P:Program)(all:Array Oper)(st:St)(ms:List Nat)(m:Nat):List Law->Prop
 | []=>True
 |L::l=>v8 P all st ms m l/\(zcU ms m l.length=true\/ ∃o,all[l.length]?=some o/\xc P all o L.rs L.rt L.fr L.v L.wt/\L.d=o.dst/\okS L.rs (apps st l)/\okT L.rt (apps st l)/\dok L.d st.n=true)
def checkQ(all:Array Oper)(ms:List Nat)(l:List Law)(m:Nat)(kp:List Nat):Bool:=
 allLt (λj=>match at? l j with
  |some X=>Nat.beq j m||(Nat.blt j m&&zcQ (nth ms m) j)||(Nat.blt m j&&zcQ (nth ms j) m)|| !anyB (λi=>hasB i kp) (keysT X.wt)
  |none=>false) l.length&&
 allLt (λq=>match all[q+l.length]? with
  |some o'=>anyB (λp=>zcU ms m p) (yb o')
  |none=>true) (all.size - l.length)
theorem zfQ{p:Nat->Bool}: ∀ {l:List Nat},anyB p l=true-> ∃i∈l,p i=true
 |y::ys,h=>by
  simp only[anyB,uU]at h;rcases h with h|h
  ·exact⟨y,ue,h⟩
  ·obtain⟨p,J,h2⟩:=zfQ h;exact⟨p,uP _ J,h2⟩
variable {C:Ctx}{D:Nat->Bool}{K:Act->World->Prop}{L:Law}{M:Mem}{P:Program}{Q:Exit->Act->World->Prop}{a:Act}{all:Array Oper}{kp:RL}{m:Nat}{o:Oper}{pv:Value}{st:St}{w:World}{ρ:Nat->Value}
section
variable {l:List Law} {ms:List Nat}
theorem v8.of: ∀ {l:List Law},wW P all st l->v8 P all st ms m l
 | [],_=>trivial
 |_::_,h=>⟨v8.of h.1,.inr h.2⟩
theorem v8.at: ∀ {l:List Law} {i:Nat} {L:Law},v8 P all st ms m l->at? l i=some L->zcU ms m i=true\/
 ∃o,all[i]?=some o/\xc P all o L.rs L.rt L.fr L.v L.wt/\L.d=o.dst/\okS L.rs (apps st (sel (λj=>decide (j<i)) l))/\okT L.rt (apps st (sel (λj=>decide (j<i)) l))/\dok L.d st.n=true
 | [],_,_,_,h=>by cases h
 |X::l,i,L,hd,h=>by
  rw[yA]at h;split at h
  ·rename_i e;simp only[ui]at h;subst h;subst e
   have:sel (λj=>decide (j<l.length)) (X::l)=l:=by
    simp only[sel,uJ (Uc _)];exact zbg (uF _)
   rw[this];exact hd.2
  ·have hlt:=wi h
   have:sel (λj=>decide (j<i)) (X::l)=sel (λj=>decide (j<i)) l:=by
    simp only[sel,uJ (show ¬l.length<i by omega)]
   rw[this];exact v8.at hd.1 h
theorem zmm{i:Nat}(ho:all[i]?=some o)(hL:at? l i=some L)
 (hat: ∃o,all[i]?=some o/\xc P all o L.rs L.rt L.fr L.v L.wt/\L.d=o.dst/\okS L.rs (apps st (sel (λj=>decide (j<i)) l))/\okT L.rt (apps st (sel (λj=>decide (j<i)) l))/\dok L.d st.n=true)
 (hc:vf all ms st l=true) (hD:Down all D) (hn:D i=false) (hp: ∀p∈yb o,D p=true)
 (hC:C.low) (hH:Holds C (apps st (sel D l)) M ρ a w) 
 (hk: ∀a' w' M' ρ',Holds C (apps st (sel (zge D i) l)) M' ρ' a' w'->K a' w'):if Region.wanted o (yielded all a.tmps)then o.wp P a w K Q else K (a.put o.dst undef) w:=by
 have hi:=wi hL;obtain⟨o',L',U,hL',_,_,h3,h4⟩:=yL hc hi;rw[ho]at U;simp only[ui]at U;subst U;rw[hL]at hL';simp only[ui]at hL';subst hL';obtain⟨o',U,hstep,hdst,hS,hT,hdk⟩:=hat;rw[ho]at U;simp only[ui]at U;subst U;have ap: ∀j X,at? l j=some X->D j≠decide (j<i)->j≠i->apart X L=true/\apart L X=true:=λj X J hne hji=>zaf hc hD hi ho hn hp hL J hne hji
 have eqi: ∀j X,at? l j=some X->(apart X L=true->False)->D j=decide (j<i):=λj X J hno=>by
  by_cases hji:j=i
  ·subst hji;rw[hn];simp
  ·by_cases hne:D j=decide (j<i)
   ·exact hne
   ·exact(hno (ap j X J hne hji).1).elim
 have hS':okS L.rs (apps st (sel D l)):=jT hS λk hk=>zaz λj X J hw=>eqi j X J λh=>by have:=(vg h hw).1;rw[hk]at this;cases this
 have hT':okT L.rt (apps st (sel D l)):=vh hT λk hk=>jt λj X J hw=>eqi j X J λh=>by have:=(wj h hw).1;rw[hk]at this;cases this
 have hF':okF C L.fr (apps st (sel D l)):=by
  have one: ∀id∈L.fr,wG C id (apps st (sel D l)):=λid hid=>by
   refine xX (h4 id hid).2 (by
    cases e:tg C.tab0 id with
    |none=>rfl
    |some r=>have:=hC id r e;have:=(h4 id hid).1;omega) λX J=>?_
   obtain⟨j,hj,hX'⟩:=zag J;rcases tp j i with h|h
   ·exact(h3 j X h hX').2 id hid
   ·have hji:j≠i:=λe=>by subst e;rw[hn]at hj;cases hj
    exact zbB (ap j X hX' (by rw[hj,uJ ua];simp) hji).1 id hid
  have: ∀fr:List Nat,(∀id∈fr,wG C id (apps st (sel D l)))->okF C fr (apps st (sel D l)):=λfr=>by
   induction fr with
   |nil=>exact λ_=>trivial
   |cons x xs ih=>exact λh=>⟨h x ue,ih λid hid=>h id (uP _ hid)⟩
  exact this _ one
 refine hstep C _ M ρ a w hH hS' hT' hF' (by rw[wv,<-hdst];exact hdk) K Q λa' w' M' ρ' hH'=>hk a' w' M' ρ' (hH'.ext ?_ ?_ ?_)
 ·rw[wv];simp only[app,wv]
 ·intro k
  have e0:sg (app o.dst L.v L.wt (apps st (sel D l))).sl k=if wr L k=true then some L.v else sg (apps st (sel D l)).sl k:=by
   rw[<-hdst];exact vo st L (sel D l) k
  rw[e0];by_cases hw:wr L k=true
  ·rw[uv hw]
   exact zdV hL (yf D i) hw λj X J hij hDj=>by
    rw[zA ua]at hDj;cases hx:wr X k with
    |false=>rfl
    |true=>
     have:=(vg (ap j X J (by rw[hDj,uJ ua];simp) ua).1 hx).2;rw[hw]at this;cases this
  ·rw[uu hw]
   exact zaz λj X J hx=>zA λe=>by
    subst e;rw[hL]at J;simp only[ui]at J;subst J;exact hw hx
 ·intro k;cases hw:wrT L k with
  |true=>
   simp only[app]
   exact zbC hL (yf D i) hw λj X J hij hDj=>by
    rw[zA ua]at hDj;cases hx:wrT X k with
    |false=>rfl
    |true=>
     have:=(wj (ap j X J (by rw[hDj,uJ ua];simp) ua).1 hx).2;rw[hw]at this;cases this
  |false=>
   simp only[app];rw[y2 hw]
   exact jt λj X J hx=>zA λe=>by
    subst e;rw[hL]at J;simp only[ui]at J;subst J;rw[hw]at hx;cases hx
theorem zmn(hc:vf all ms st l=true)(hD:Down all D)(hno: ∀k,l.length<=k->D k=false)(hm:D m=false){j:Nat}(J:D j=true)(hw:zcU ms m j=true):False:=by
 simp only[zcU,uU,uo]at hw;rcases hw with hw|⟨h1,h2⟩
 ·have:=uH hw;subst this;rw[hm]at J;cases J
 ·have U:j<l.length:=by
   rcases tp j l.length with h|h
   ·exact h
   ·rw[hno j h]at J;cases J
  obtain⟨oj,_,hoj,_⟩:=yL hc U;have:=xW hc hD j U oj hoj (hD j oj hoj J) m (by simpa [tG]using h1) h2;rw[hm]at this;cases this
theorem zpk(hc:vf all ms st l=true)(hp:checkQ all ms l m kp.ids=true)(hLm:at? l m=some L)(ho:all[m]?=some o)(hL:zql P all o L.rs L.rt L.fr pv L.wt)
 (hS:okS L.rs (apps st (sel (λj=>decide (j<m)) l))) (hT:okT L.rt (apps st (sel (λj=>decide (j<m)) l))) (hK:okT kp (apps st (sel (λj=>decide (j<m)) l))) (hC:C.low) (hD:Down all D)
 (hno: ∀k,l.length<=k->D k=false) (hn:D m=false) (hpr: ∀p∈yb o,D p=true)
 (hH:Holds C (apps st (sel D l)) M ρ a w) 
 (hQ: ∀a w M ρ,Holds C ⟨st.n,[],L.wt++tb kp⟩ M ρ a w->Q (.panic (chn pv)) a w):if Region.wanted o (yielded all a.tmps)then o.wp P a w K Q else K (a.put o.dst undef) w:=by
 have hi:=wi hLm;obtain⟨o',L',ho',hL',_,_,h3,h4⟩:=yL hc hi;rw[ho]at ho';simp only[ui]at ho';subst ho';rw[hLm]at hL';simp only[ui]at hL';subst hL';have ap: ∀j X,at? l j=some X->D j≠decide (j<m)->j≠m->apart X L=true/\apart L X=true:=λj X hX hne J=>zaf hc hD hi ho hn hpr hLm hX hne J
 have eqi: ∀j X,at? l j=some X->(apart X L=true->False)->D j=decide (j<m):=λj X hX hno=>by
  by_cases J:j=m
  ·subst J;rw[hn];simp
  ·by_cases hne:D j=decide (j<m)
   ·exact hne
   ·exact(hno (ap j X hX hne J).1).elim
 have hS':okS L.rs (apps st (sel D l)):=jT hS λk hk=>zaz λj X hX hw=>eqi j X hX λh=>by have:=(vg h hw).1;rw[hk]at this;cases this
 have hT':okT L.rt (apps st (sel D l)):=vh hT λk hk=>jt λj X hX hw=>eqi j X hX λh=>by have:=(wj h hw).1;rw[hk]at this;cases this
 have hK':okT kp (apps st (sel D l)):=vh hK λk hk=>jt λj X hX hw=>by
  simp only[checkQ,uo]at hp;have:=yv hp.1 j (wi hX);simp only[hX,uU,uo,ux]at this;rcases this with((h|⟨h1,h2⟩)|⟨h1,h2⟩)|h
  ·have:=uH h;subst this;rw[hn];simp
  ·have hlt:j<m:=by simpa [tG]using h1
   rw[uT hlt];exact xW hc hD m hi o ho hpr j hlt h2
  ·have hlt:m<j:=by simpa [tG]using h1
   rw[uJ ua];cases e:D j with
   |false=>rfl
   |true=>exact(zmn hc hD hno hn e (by simp[zcU,h1,h2])).elim
  ·have:=jG h k hw;rw[hk]at this;cases this
 have hF':okF C L.fr (apps st (sel D l)):=by
  have one: ∀id∈L.fr,wG C id (apps st (sel D l)):=λid U=>by
   refine xX (h4 id U).2 (by
    cases e:tg C.tab0 id with
    |none=>rfl
    |some r=>have:=hC id r e;have:=(h4 id U).1;omega) λX hX=>?_
   obtain⟨j,hj,hX'⟩:=zag hX;rcases tp j m with h|h
   ·exact(h3 j X h hX').2 id U
   ·have J:j≠m:=λe=>by subst e;rw[hn]at hj;cases hj
    exact zbB (ap j X hX' (by rw[hj,uJ ua];simp) J).1 id U
  have: ∀fr:List Nat,(∀id∈fr,wG C id (apps st (sel D l)))->okF C fr (apps st (sel D l)):=λfr=>by
   induction fr with
   |nil=>exact λ_=>trivial
   |cons x xs ih=>exact λh=>⟨h x ue,ih λid U=>h id (uP _ U)⟩
  exact this _ one
 refine hL C _ M ρ a w hH hS' hT' hF' K Q λM' ρ' w' hH'=>hQ a w' M' ρ' (hH'.drop (by rw[wv]) (λk s e=>by cases e) λi r e=>?_)
 cases hk:hasB i (keysT L.wt)with
 |true=>
  have e:tg (L.wt++tb kp) i=some r:=e;show tg (L.wt++(apps st (sel D l)).tab) i=some r;rw[<-e];exact wM hk
 |false=>
  have e:tg (L.wt++tb kp) i=some r:=e;show tg (L.wt++(apps st (sel D l)).tab) i=some r;rw[y2 hk]at e⊢;exact xm hK' (zQ e)
theorem zjz{id:Nat}(hmx:P.follows .mixedOrders=true)(hd:v8 P all st ms m l)(hc:vf all ms st l=true)(hp:checkQ all ms l m kp.ids=true)(hLm:at? l m=some L)(ho:all[m]?=some o)(hL:zql P all o L.rs L.rt L.fr pv L.wt)
 (hS:okS L.rs (apps st (sel (λj=>decide (j<m)) l))) (hT:okT L.rt (apps st (sel (λj=>decide (j<m)) l))) (hK:okT kp (apps st (sel (λj=>decide (j<m)) l))) (hC:C.low)
 (hQ: ∀a w M ρ,Holds C ⟨st.n,[],L.wt++tb kp⟩ M ρ a w->Q (.panic (chn pv)) a w)
 (hH:Holds C st M ρ a w):(Code.region id all true).wp P Q a w:=by
 have hsz:m<all.size:=(tz.1 ho).1;have hml:=wi hLm
 have h5:allLt (λq=>match all[q+l.length]? with
  |some o'=>anyB (λp=>zcU ms m p) (yb o')
  |none=>true) (all.size - l.length)=true:=by
  simp only[checkQ,uo]at hp;exact hp.2
 have main: ∀(fuel:Nat) (listed:Array Bool) (M:Mem) (ρ:Nat->Value) (a:Act) (w:World),listed.size=all.size->left (λj=>listed.getD j false) all.size=fuel->Down all (λj=>listed.getD j false)->
  (∀k,l.length<=k->listed.getD k false=false)->listed.getD m false=false->Holds C (apps st (sel (λj=>listed.getD j false) l)) M ρ a w->wpAny P .any all Q fuel listed a w:=by
  intro fuel
  induction fuel with
  |zero=>
   intro listed M ρ a w hs hl hD hno U hH;have:=ju hl m hsz;rw[U]at this;cases this
  |succ fuel ih=>
   intro listed M ρ a w hs hl hD hno U hH;refine⟨λhr=>?_,λi hi=>?_⟩
   ·exfalso
    have fullj: ∀j,j<l.length->listed.getD j false=true:=by
     intro j
     induction j using Nat.strongRecOn with
     |_ j ih=>
      intro hj;cases e:listed.getD j false with
      |true=>rfl
      |false=>
       obtain⟨oj,_,hoj,_,hlt,_⟩:=yL hc (i:=j) hj
       have:j∈Region.ready .any all listed:=mem_ready.2 ⟨by
        have hlt:j<listed.size:=by have:=(tz.1 hoj).1;omega
        simp only[Array.getD,hlt,ou]at e ⊢; exact e,oj,hoj,λe' he hb=>ih e'.on (hlt _ (wm he hb)) (by have:=hlt _ (wm he hb);omega)⟩
       rw[hr]at this;cases this
    have:=fullj m hml;rw[U]at this;cases this
   ·obtain⟨h1,oi,J,hall⟩:=mem_ready.1 hi;have hx:i<all.size:=(tz.1 J).1;have hlt:i<listed.size:=by omega
    have hn:listed.getD i false=false:=by simp only[Array.getD,hlt,ou]at h1 ⊢; exact h1
    have hput: ∀j,(listed.setIfInBounds i true).getD j false=zge (λj=>listed.getD j false) i j:=λj=>by
     by_cases e:j=i
     ·subst e;simp[yf,hlt]
     ·rw[zA e,getD_set_ne false (λh=>e h.symm)]
    have hput':(λj=>(listed.setIfInBounds i true).getD j false)=zge (λj=>listed.getD j false) i:=funext hput
    have hpr: ∀p∈yb oi,listed.getD p false=true:=λp hp=>by
     obtain⟨e,he,hb,rfl⟩:=zbD hp;exact hall e he hb
    unfold wpOp;simp only[J]
    have key:if Region.wanted oi (yielded all a.tmps)then oi.wp P a w (wpAny P .any all Q fuel (listed.setIfInBounds i true)) Q else wpAny P .any all Q fuel (listed.setIfInBounds i true) (a.put oi.dst undef) w:=by
     by_cases him:i=m
     ·subst him;rw[ho]at J;simp only[ui]at J;subst J;exact zpk hc hp hLm ho hL hS hT hK hC hD hno U hpr hH hQ
     by_cases hil:i<l.length
     ·obtain⟨_,Li,hoi',hLi,_⟩:=yL hc hil;rcases v8.at hd hLi with hw|hat
      ·exfalso;simp only[zcU,uU,uo]at hw;rcases hw with hw|⟨h1,h2⟩
       ·exact him (uH hw)
       ·have:=xW hc hD i hil oi J hpr m (by simpa [tG]using h1) h2;rw[U]at this;cases this
      ·refine zmm J hLi hat hc hD hn hpr hC hH λa' w' M' ρ' hH'=>?_;refine ih _ M' ρ' a' w' (by simpa using hs) ?_ ?_ ?_ ?_ ?_
       ·rw[hput'];have:=zaA (D:=λj=>listed.getD j false) hn (n:=all.size);rw[uv hx]at this;omega
       ·rw[hput'];intro k ok hk hDk p hpk;by_cases e:k=i
        ·subst e;rw[J]at hk;simp only[ui]at hk;subst hk;by_cases e2:p=k
         ·subst e2;exact yf _ _
         ·rw[zA e2];exact hpr p hpk
        ·rw[zA e]at hDk;have:=hD k ok hk hDk p hpk;by_cases e2:p=i
         ·subst e2;exact yf _ _
         ·rw[zA e2];exact this
       ·intro k hk;rw[hput,zA ua];exact hno k hk
       ·rw[hput,zA ua];exact U
       ·rw[hput'];exact hH'
     ·exfalso;have:=yv h5 (i - l.length) ua;rw[show i - l.length+l.length=i by omega,J]at this;obtain⟨p,hpm,hw⟩:=zfQ this;exact zmn hc hD hno U (hpr p hpm) hw
    split
    ·rename_i hw;rw[uv hw]at key;exact .inl key
    ·rename_i hw;rw[uu hw]at key;exact key
 have h0: ∀j,(Array.replicate all.size false).getD j false=false:=λj=>by
  by_cases h:j<all.size
  ·simp[h]
  ·simp[h]
 have h0':(λj=>(Array.replicate all.size false).getD j false)=λ_=>false:=funext h0
 refine wp_region_any hmx (main _ _ M ρ a _ ue ?_ ?_ (λk _=>h0 k) (h0 m) ?_)
 ·rw[h0']
  have: ∀n,left (λ_=>false) n=n:=λn=>by
   induction n with
   |zero=>rfl
   |succ n ih=>simp only[left,ih];omega
  exact this _
 ·rw[h0'];intro i o _ h;cases h
 ·rw[h0',jH λ_ _=>rfl];exact hH.grow (λ_ _=>rfl) (uF _) rfl rfl rfl
end
def zux(o:Oper):Law:=⟨o.dst,[],[],[],.un,[]⟩
def backL{P:Program}(T:Ty P)(n:Nat)(all:Array Oper)(ms:List Nat)(m:Nat):List Oper->zf->Tab->List Law->List Law
 | [],_,_,l=>l
 |o::r,sl,tab,l=>match zcU ms m l.length with
  |true=>backL T n all ms m r (app o.dst .un [] ⟨n,sl,tab⟩).sl tab (zux o::l)
  |false=>match stepL T n true all o sl tab with
   |some L=>backL T n all ms m r (app L.d L.v L.wt ⟨n,sl,tab⟩).sl (L.wt++tab) (L::l)
   |none=>l
variable {tab:Tab}
theorem zmo{n:Nat}{sl:zf}(J: ∀k,sg sl k=sg st.sl k)(j:Nat):sg (app L.d L.v L.wt ⟨n,sl,tab⟩).sl j=sg (app L.d L.v L.wt st).sl j:=by
 obtain⟨d,rs,rt,fr,v,wt⟩:=L;cases d with
 |none=>exact J j
 |some d=>
  simp only[app];rw[yz,yz];split
  ·rfl
  ·exact J j
theorem zqD{a tab':Tab}(J: ∀i,tg tab i=tg tab' i)(i:Nat):tg (a++tab) i=tg (a++tab') i:=by
 cases hk:hasB i (keysT a)with
 |true=>exact wM hk
 |false=>rw[y2 hk,y2 hk];exact J i
theorem zeo{P:Program}(T:Ty P){n:Nat}{all:Array Oper}{ms:List Nat}{m:Nat}{st:St}(J:st.n=n): ∀ {rest:List Oper} {sl:zf} {tab:Tab} {l:List Law},v8 P all st ms m l->m<l.length->all.toList.drop l.length=rest->
 (∀k,sg sl k=sg (apps st l).sl k)->(∀i,tg tab i=tg (apps st l).tab i)->v8 P all st ms m (backL T n all ms m rest sl tab l)/\at? (backL T n all ms m rest sl tab l) m=at? l m/\sel (λj=>decide (j<m)) (backL T n all ms m rest sl tab l)=sel (λj=>decide (j<m)) l
 | [],sl,tab,l,hd,hm,hr,hs,ht=>by
   rw[backL];exact⟨hd,rfl,rfl⟩
 |o::r,sl,tab,l,hd,hm,hr,hs,ht=>by
  have U:all.toList.drop (l.length+1)=r:=by
   have:(all.toList.drop l.length).drop 1=r:=by rw[hr];rfl
   rw[tv]at this;simpa [oO]using this
  have back: ∀L:Law,at? (L::l) m=at? l m/\sel (λj=>decide (j<m)) (L::l)=sel (λj=>decide (j<m)) l:=λL=>by
   refine⟨by rw[yA,uu ua],?_⟩;simp only[sel,uJ (show ¬l.length<m by omega)]
  simp only[backL];split
  ·rename_i hw
   obtain⟨h1,h2,h3⟩:=zeo T J (l:=zux o::l) (rest:=r) (sl:=(app o.dst .un [] ⟨n,sl,tab⟩).sl) (tab:=tab) ⟨hd,.inl hw⟩ ug (by simpa using U) (λk=>by
    have:=zmo (L:=zux o) (n:=n) (tab:=tab) hs k
    simpa [apps,zux]using this) (λi=>by simp only[apps,zux,app];exact ht i)
   exact⟨h1,h2.trans (back _).1,h3.trans (back _).2⟩
  ·split
   ·rename_i L hL;obtain⟨g1,g2,g3,g4,g5,g6⟩:=xq T hL
    have ho:all[l.length]?=some o:=by
     have:(all.toList.drop l.length)[0]?=some o:=by rw[hr];rfl
     rw[uY]at this;simpa using this
    obtain⟨h1,h2,h3⟩:=zeo T J (l:=L::l) (rest:=r) (sl:=(app L.d L.v L.wt ⟨n,sl,tab⟩).sl) (tab:=L.wt++tab) ⟨hd,.inr ⟨o,ho,g1,g2,jT g3 λk _=>(hs k).symm,vh g4 λi _=>(ht i).symm,by rw[J];exact g6⟩⟩ ug (by simpa using U)
     (λk=>by simp only[apps];exact zmo hs k) (λi=>by simp only[apps,app];exact zqD ht i)
    exact⟨h1,h2.trans (back _).1,h3.trans (back _).2⟩
   ·exact⟨hd,rfl,rfl⟩
variable {af:Array Edge}{d:Option Nat}{done:List Law}{g0:Option (Nat×Bool)}{gs sl0:zf}{ps:String}{tab0:Tab}{x:Operand}
section
variable {k:List Frm} {n:Nat} {sl:zf} {Q:Exit->St->Prop} {rest:List Oper}
theorem zvQ(T:Ty P){rs:zf}{rt:RL}{fr:List Nat}{wt:Tab}(hC:C.low)(ks:List Nat)(hL:zql P all o rs rt fr pv wt)(hS:okS rs ⟨n,sl,tab⟩)(hT:okT rt ⟨n,sl,tab⟩)
 (hc:vf all (vM all.toList []) ⟨n,sl0,tab0⟩ (backL T n all (vM all.toList []) done.length rest (app o.dst .un wt ⟨n,sl,tab⟩).sl (wt++tab) (⟨o.dst,rs,rt,fr,.un,wt⟩::done))=true)
 (hp:checkQ all (vM all.toList []) (backL T n all (vM all.toList []) done.length rest (app o.dst .un wt ⟨n,sl,tab⟩).sl (wt++tab) (⟨o.dst,rs,rt,fr,.un,wt⟩::done)) done.length (pick tab ks).ids=true)
 (g:Goal P C (.fin (.panic (chn pv))) k n [] (wt++tb (pick tab ks)) Q):Goal P C (.ops all (o::rest) (some (sl0,tab0,done))) k n sl tab Q:=by
 intro hD hs J hr M ρ a w id U
 have ho:all[done.length]?=some o:=by
  have:(all.toList.drop done.length)[0]?=some o:=by rw[hr];rfl
  rw[uY]at this;simpa using this
 have hr':all.toList.drop (done.length+1)=rest:=by
  have:(all.toList.drop done.length).drop 1=rest:=by rw[hr];rfl
  rw[tv]at this;simpa [oO]using this
 obtain⟨h1,h2,h3⟩:=zeo T (all:=all) (ms:=vM all.toList []) (m:=done.length) (st:=⟨n,sl0,tab0⟩) rfl (rest:=rest) (sl:=(app o.dst .un wt ⟨n,sl,tab⟩).sl) (tab:=wt++tab) (l:=⟨o.dst,rs,rt,fr,.un,wt⟩::done) ⟨v8.of hD,.inl (by simp[zcU])⟩ ue (by simpa using hr')
  (λj=>by simp only[apps];exact zmo (L:=⟨o.dst,rs,rt,fr,.un,wt⟩) hs j) (λi=>by simp only[apps,app];exact zqD J i)
 have e3:sel (λj=>decide (j<done.length)) (backL T n all (vM all.toList []) done.length rest (app o.dst .un wt ⟨n,sl,tab⟩).sl (wt++tab) (⟨o.dst,rs,rt,fr,.un,wt⟩::done))=done:=by
  rw[h3];simp only[sel,uJ (Uc _)];exact zbg (uF _)
 have e2:at? (backL T n all (vM all.toList []) done.length rest (app o.dst .un wt ⟨n,sl,tab⟩).sl (wt++tab) (⟨o.dst,rs,rt,fr,.un,wt⟩::done)) done.length=some ⟨o.dst,rs,rt,fr,.un,wt⟩:=by rw[h2,yA,uv rfl]
 refine zjz (kp:=pick tab ks) T.mix h1 hc hp e2 ho hL (by rw[e3];exact jT hS λk _=>(hs k).symm) (by rw[e3];exact vh hT λi _=>(J i).symm) (by rw[e3];exact vh (zdW (n:=n) (sl:=sl)) λi _=>(J i).symm) hC (λa w M ρ U=>g M ρ a w U) U
theorem zep(T:Ty P){l:List Operand}{ts:Array TypeId}{ty:TypeId}(hC:C.low){f:FuncId}{args ss:List S}{first caps:List V}{Rw Rr Rw':RL}
 (h:ya P f args (Rw++Rr) pv (Rw'++Rr)) (σ:Nat->Nat) (ks:List Nat) (hx:ev sl x=some (.one (.cl f first caps))) (hl:evs sl l=some ss) (ha:zH (ones first++ss++ones caps) (Ss.ren σ args)) (hi:injB σ (RL.ids (Rw++Rr))=true) (J:injB σ (RL.ids (Rw'++Rr))=true)
 (U:x9 (RL.ids (Rw++Rr)++RL.ids (Rw'++Rr)) (Rw'++Rr)=true) (hT:rdT tab ((Rw++Rr).ren σ)=(Rw++Rr).ren σ) (hm:metL all sl g0=some gs)
 (hc:vf all (vM all.toList []) ⟨n,sl0,tab0⟩ (backL T n all (vM all.toList []) done.length rest (app d .un (tb (Rw'.ren σ)++xy (Rw.ids.map σ)) ⟨n,sl,tab⟩).sl ((tb (Rw'.ren σ)++xy (Rw.ids.map σ))++tab) (⟨d,gs++(rq x (.one (.cl f first caps))++rqs l ss),(Rw++Rr).ren σ,(yc (Rw++Rr) (Rw'++Rr)).map σ,.un,tb (Rw'.ren σ)++xy (Rw.ids.map σ)⟩::done))=true)
 (hp:checkQ all (vM all.toList []) (backL T n all (vM all.toList []) done.length rest (app d .un (tb (Rw'.ren σ)++xy (Rw.ids.map σ)) ⟨n,sl,tab⟩).sl ((tb (Rw'.ren σ)++xy (Rw.ids.map σ))++tab) (⟨d,gs++(rq x (.one (.cl f first caps))++rqs l ss),(Rw++Rr).ren σ,(yc (Rw++Rr) (Rw'++Rr)).map σ,.un,tb (Rw'.ren σ)++xy (Rw.ids.map σ)⟩::done)) done.length (pick tab ks).ids=true)
 (g:Goal P C (.fin (.panic (chn pv))) k n [] ((tb (Rw'.ren σ)++xy (Rw.ids.map σ))++tb (pick tab ks)) Q):
 Goal P C (.ops all (⟨d,.call ⟨.value x,l.toArray,ts⟩,ty,ps,af,g0⟩::rest) (some (sl0,tab0,done))) k n sl tab Q:=by
 have e1:=zB (st:=⟨n,sl,tab⟩) hx;have e2:=xO (st:=⟨n,sl,tab⟩) hl;have:=zdU hm (zpj (ty:=ty) (ps:=ps) (af:=af) (g:=g0) (d:=d) (ts:=ts) h σ e1.1 e2.1 ha hi J U) (n:=n) (tab:=tab);exact zvQ T hC ks this.1 (by rw[za,za];exact⟨this.2,e1.2,e2.2⟩) (jg hT) hc hp g
theorem zpl{K:Type}[DecidableEq K]{kt:TypeId}(κ:zd4 P kt K){t et ty:TypeId}{md:Mode}(hC:C.low){id:Nat}{l:List (K×EV)}
 (U:ev sl x=some (.one (.mp id))) (hT:tg tab id=some (.mpg (yt κ l))) (hu:P.underlying t=some (.map kt et)) (hm:metL all sl g0=some gs) (hd:dok d n=true)
 (g:Goal P C (.ops all rest (nx md ⟨d,gs++rq x (.one (.mp id)),[(id,.mpg (yt κ l))],[],.un,[(id,some (.mpg (yt κ [])))]⟩)) k n (app d .un [(id,some (.mpg (yt κ [])))] ⟨n,sl,tab⟩).sl ((id,some (.mpg (yt κ [])))::tab) Q):
 Goal P C (.ops all (⟨d,.call ⟨.builtin .clear,#[x],#[t]⟩,ty,ps,af,g0⟩::rest) md) k n sl tab Q:=by
 have J:=zB (st:=⟨n,sl,tab⟩) U;have:=zk hm (zoM (P:=P) (ty:=ty) (ps:=ps) (af:=af) (g:=g0) (d:=d) (es:=yt κ l) J.1 hu) (n:=n) (tab:=tab);exact zT (L:=⟨d,gs++rq x (.one (.mp id)),[(id,.mpg (yt κ l))],[],.un,[(id,some (.mpg (yt κ [])))]⟩) hC this.1 rfl ⟨by rw[za];exact⟨this.2,J.2⟩,⟨hT,uh⟩,rfl,hd⟩ g
end
end Hw
namespace Hw.Gm
open Go Go.Proofs Hw.M Ps
theorem zwN(v:Int):IntKind.i64.wrap (-v)=IntKind.i64.wrap (0 - v):=by rw[Int.zero_sub]
theorem zeq(n:Int)(k:Kn):(∃e,bdI n k= .flt e k)\/(∃v,bdI n k= .ok v k)\/bdI n k= .out:=by
 unfold bdI;by_cases h:n< -1099511627776\/1099511627776<n
 ·rw[uv h];exact .inl ⟨_,rfl⟩
 ·rw[uu h];exact .inr (.inl ⟨_,rfl⟩)
theorem zmp(a b:Int)(k:Kn):(∃e,zqt a b k= .flt e k)\/(∃v,zqt a b k= .ok v k)\/zqt a b k= .out:=by
 unfold zqt;by_cases h:znO a/\znO b
 ·rw[uv h];by_cases h2:a.natAbs*b.natAbs>1099511627776
  ·rw[uv h2];exact .inl ⟨_,rfl⟩
  ·rw[uu h2];exact .inr (.inl ⟨_,rfl⟩)
 ·rw[uu h];exact .inr (.inr rfl)
theorem zfR(op a b:Int)(k:Kn):(∃e,znP op a b k= .flt e k)\/(∃v,znP op a b k= .ok v k)\/znP op a b k= .out:=by
 unfold znP
 have J: ∀ {p:Prop} [Decidable p] {x y:Bn},((∃e,x= .flt e k)\/(∃v,x= .ok v k)\/x= .out)->((∃e,y= .flt e k)\/(∃v,y= .ok v k)\/y= .out)->((∃e,(if p then x else y)= .flt e k)\/(∃v,(if p then x else y)= .ok v k)\/(if p then x else y)= .out):=λ{p} _ {x y} U hy=>by
  by_cases h:p
  ·rw[uv h];exact U
  ·rw[uu h];exact hy
 have ok: ∀v,(∃e,Bn.ok v k= .flt e k)\/(∃u,Bn.ok v k= .ok u k)\/Bn.ok v k= .out:=λv=> .inr (.inl ⟨_,rfl⟩)
 exact J (zeq _ _) (J (zeq _ _) (J (zmp _ _ _) (J (ok _) (J (ok _) (J (ok _) (J (ok _) (J (ok _) (J (ok _) (J (.inl ⟨_,rfl⟩) (J (zeq _ _) (ok _)))))))))))
theorem zst{op a b:Int}{k U:Kn}{er:Int}(h:znP op a b k= .flt er U):U=k:=by
 rcases zfR op a b k with⟨e,J⟩|⟨v,J⟩|J<;>rw[J]at h<;>cases h<;>rfl
theorem zpm{op a b:Int}{k U:Kn}{w:Int}(h:znP op a b k= .ok w U):U=k:=by
 rcases zfR op a b k with⟨e,J⟩|⟨v,J⟩|J<;>rw[J]at h<;>cases h<;>rfl
variable {d:zj}{m:Hp}
set_option maxHeartbeats 2000000 in
set_option maxRecDepth 100000 in
theorem zpn(hs:xI m)(g:Nat)(hAt: ∀nd e i k,zvP d m nd e i k (atV d m g nd e i k))(hMe: ∀i nd k,zvO d m i nd k (meV d m g i nd k))(nd:Int)(e:Ex)(k:Kn):zve d m nd e k (inV d m (g+1) nd e k):=by
 rw[inV];by_cases o12:e.op=1\/e.op=2
 ·rw[uv o12];rcases o12 with o12|o12
  all_goals
   show zh _ _ _ _ _ _;refine gO T Tryz.func96 λC hC=>?_
   repeat' first|refine gG ?_|exact gD|(exfalso;first|(have h0:=uj h;omega)|(have h0:=um h;omega))|(exfalso;simp only[ux,uG,uq,ur]at h;omega)|refine gB ?_ ?_<;>intro h
   all_goals exact gE
 rw[uu o12];by_cases o3:e.op=3
 ·rw[uv o3];show zh _ _ _ _ _ _;refine gO T Tryz.func96 λC hC=>?_
  repeat' first|refine gG ?_|exact gD|(exfalso;first|(have h0:=uj h;omega)|(have h0:=um h;omega))|(exfalso;simp only[ux,uG,uq,ur]at h;omega)|refine gB ?_ ?_<;>intro h
  all_goals exact gE
 rw[uu o3];by_cases o4:e.op=4
 ·rw[uv o4];have hN:=zpe d m k e.s nd;cases hr_hN:namI d m nd e.s k with
  |out=>exact uh
  |flt er k9=>
   rw[hr_hN]at hN;have hN:ya _ _ _ _ _ _:=hN;show ya _ _ _ _ _ _;refine zX T Tryz.func96 ud rfl rfl rfl λC hC=>?_
   repeat' first|refine gG ?_|exact gD|(exfalso;first|(have h0:=uj h;omega)|(have h0:=um h;omega))|(exfalso;simp only[ux,uG,uq,ur]at h;omega)|refine gB ?_ ?_<;>intro h|(refine zr hC hN (nm [0,1,2]) rfl rfl (zH.refl _) rfl rfl rfl rfl rfl rfl ?_)
   exact gU (zi ⟨rfl,id,⟨rfl,rfl,rfl,uh⟩,rfl,rfl⟩)
  |ok v k1=>
   rw[hr_hN]at hN;have hN:zh _ _ _ _ _ _:=hN
   try simp only[Bn.bind]
   show zh _ _ _ _ _ _;refine gO T Tryz.func96 λC hC=>?_
   repeat' first|refine gG ?_|exact gD|(exfalso;first|(have h0:=uj h;omega)|(have h0:=um h;omega))|(exfalso;simp only[ux,uG,uq,ur]at h;omega)|refine gB ?_ ?_<;>intro h|refine gR hN (nm [0,1,2]) ?_
   all_goals exact gE
 rw[uu o4];by_cases o5:e.op=5
 ·rw[uv o5];have hA:FnX Tryz.prog 137 [I 0,.one (.bx 5 0),.one (.bx 6 0),.one (.bx 7 0)] (imR d m k 0 1 2++clI e nd) (aE d m e nd (atV d m g nd e 0 k)):=hAt nd e 0 k;cases hr_hA:atV d m g nd e 0 k with
  |out=>exact uh
  |flt er k9=>
   rw[hr_hA]at hA;have hA:ya _ _ _ _ _ _:=hA;show ya _ _ _ _ _ _;refine zX T Tryz.func96 ud rfl rfl rfl λC hC=>?_
   repeat' first|refine gG ?_|exact gD|(exfalso;first|(have h0:=uj h;omega)|(have h0:=um h;omega))|(exfalso;simp only[ux,uG,uq,ur]at h;omega)|refine gB ?_ ?_<;>intro h|(refine zep T hC hA (nm [0,1,2,3,4,1003,1004,1005]) [] rfl rfl (zH.refl _) rfl rfl rfl rfl rfl ud ud ?_)
   exact gU (zi ⟨rfl,id,⟨rfl,rfl,rfl,uh⟩,rfl,rfl⟩)
  |ok v k1=>
   rw[hr_hA]at hA;have hA:zh _ _ _ _ _ _:=hA
   try simp only[Bn.bind]
   have hF:=zmj (d:=d) hs k1 v e.s;cases hr_hF:fldI d m v e.s k1 with
   |out=>exact uh
   |flt er k9=>
    rw[hr_hF]at hF;have hF:ya _ _ _ _ _ _:=hF;show ya _ _ _ _ _ _;refine zX T Tryz.func96 ud rfl rfl rfl λC hC=>?_
    repeat' first|refine gG ?_|exact gD|(exfalso;first|(have h0:=uj h;omega)|(have h0:=um h;omega))|(exfalso;simp only[ux,uG,uq,ur]at h;omega)|refine gB ?_ ?_<;>intro h|(refine yj hC hA (nm [0,1,2,3,4,1003,1004,1005]) rfl rfl (zH.refl _) rfl rfl rfl rfl rfl rfl rfl rfl ?_)|(refine xE T hC hF (nm [0,1,2]) [] rfl rfl (zH.refl _) rfl rfl rfl rfl rfl ud ud ?_)
    exact gU (zi ⟨rfl,id,⟨rfl,rfl,rfl,uh⟩,rfl,rfl⟩)
   |ok u k2=>
    rw[hr_hF]at hF;have hF:zh _ _ _ _ _ _:=hF
    try simp only[Bn.bind]
    show zh _ _ _ _ _ _;refine gO T Tryz.func96 λC hC=>?_
    repeat' first|refine gG ?_|exact gD|(exfalso;first|(have h0:=uj h;omega)|(have h0:=um h;omega))|(exfalso;simp only[ux,uG,uq,ur]at h;omega)|refine gB ?_ ?_<;>intro h|(refine yj hC hA (nm [0,1,2,3,4,1003,1004,1005]) rfl rfl (zH.refl _) rfl rfl rfl rfl rfl rfl rfl rfl ?_)|refine gR hF (nm [0,1,2]) ?_
    all_goals exact gE
 rw[uu o5];by_cases o7:e.op=7
 ·rw[uv o7];have hNm:=zfO d m k e.s;cases hi:zuf d e.s with
  |none=>exact uh
  |some i=>
   rw[hi]at hNm;simp only[idxI]at hNm;have hA:FnX Tryz.prog 137 [I 0,.one (.bx 5 0),.one (.bx 6 0),.one (.bx 7 0)] (imR d m k 0 1 2++clI e nd) (aE d m e nd (atV d m g nd e 0 k)):=hAt nd e 0 k;cases hr_hA:atV d m g nd e 0 k with
   |out=>exact uh
   |flt er k9=>
    rw[hr_hA]at hA;have hA:ya _ _ _ _ _ _:=hA;show ya _ _ _ _ _ _;refine zX T Tryz.func96 ud rfl rfl rfl λC hC=>?_
    repeat' first|refine gG ?_|exact gD|(exfalso;first|(have h0:=uj h;omega)|(have h0:=um h;omega))|(exfalso;simp only[ux,uG,uq,ur]at h;omega)|refine gB ?_ ?_<;>intro h|refine gR hNm (nm [0,1,2]) ?_|(refine zep T hC hA (nm [0,1,2,3,4,1003,1004,1005]) [] rfl rfl (zH.refl _) rfl rfl rfl rfl rfl ud ud ?_)
    exact gU (zi ⟨rfl,id,⟨rfl,rfl,rfl,uh⟩,rfl,rfl⟩)
   |ok v k1=>
    rw[hr_hA]at hA;have hA:zh _ _ _ _ _ _:=hA
    try simp only[Bn.bind]
    have hM:=hMe i v k1;cases hr_hM:meV d m g i v k1 with
    |out=>exact uh
    |flt er k9=>
     rw[hr_hM]at hM;have hM:ya _ _ _ _ _ _:=hM;show ya _ _ _ _ _ _;refine zX T Tryz.func96 ud rfl rfl rfl λC hC=>?_
     repeat' first|refine gG ?_|exact gD|(exfalso;first|(have h0:=uj h;omega)|(have h0:=um h;omega))|(exfalso;simp only[ux,uG,uq,ur]at h;omega)|refine gB ?_ ?_<;>intro h|refine gR hNm (nm [0,1,2]) ?_|(refine yj hC hA (nm [0,1,2,3,4,1003,1004,1005]) rfl rfl (zH.refl _) rfl rfl rfl rfl rfl rfl rfl rfl ?_)|(refine xE T hC hM (nm [0,1,2]) [] rfl rfl (zH.refl _) rfl rfl rfl rfl rfl ud ud ?_)
     exact gU (zi ⟨rfl,id,⟨rfl,rfl,rfl,uh⟩,rfl,rfl⟩)
    |ok u k2=>
     rw[hr_hM]at hM;have hM:zh _ _ _ _ _ _:=hM
     try simp only[Bn.bind]
     show zh _ _ _ _ _ _;refine gO T Tryz.func96 λC hC=>?_
     repeat' first|refine gG ?_|exact gD|(exfalso;first|(have h0:=uj h;omega)|(have h0:=um h;omega))|(exfalso;simp only[ux,uG,uq,ur]at h;omega)|refine gB ?_ ?_<;>intro h|refine gR hNm (nm [0,1,2]) ?_|(refine yj hC hA (nm [0,1,2,3,4,1003,1004,1005]) rfl rfl (zH.refl _) rfl rfl rfl rfl rfl rfl rfl rfl ?_)|refine gR hM (nm [0,1,2]) ?_
     all_goals exact gE
 rw[uu o7];by_cases o8:e.op=8
 ·rw[uv o8];have hA:FnX Tryz.prog 137 [I 0,.one (.bx 5 0),.one (.bx 6 0),.one (.bx 7 0)] (imR d m k 0 1 2++clI e nd) (aE d m e nd (atV d m g nd e 0 k)):=hAt nd e 0 k;cases hr_hA:atV d m g nd e 0 k with
  |out=>exact uh
  |flt er k9=>
   rw[hr_hA]at hA;have hA:ya _ _ _ _ _ _:=hA;show ya _ _ _ _ _ _;refine zX T Tryz.func96 ud rfl rfl rfl λC hC=>?_
   repeat' first|refine gG ?_|exact gD|(exfalso;first|(have h0:=uj h;omega)|(have h0:=um h;omega))|(exfalso;simp only[ux,uG,uq,ur]at h;omega)|refine gB ?_ ?_<;>intro h|(refine zr hC hA (nm [0,1,2,3,4,1003,1004,1005]) rfl rfl (zH.refl _) rfl rfl rfl rfl rfl rfl ?_)
   exact gU (zi ⟨rfl,id,⟨rfl,rfl,rfl,uh⟩,rfl,rfl⟩)
  |ok v k1=>
   rw[hr_hA]at hA;have hA:zh _ _ _ _ _ _:=hA
   try simp only[Bn.bind]
   rw[zwN];have hB:=zin (IntKind.i64.wrap (0 - v)) k1;cases hr_hB:bdI (IntKind.i64.wrap (0 - v)) k1 with
   |out=>exact uh
   |flt er k9=>
    have hk:k9=k1:=by unfold bdI at hr_hB;split at hr_hB<;>simp_all
    subst hk;rw[hr_hB]at hB;have hB:ya _ _ _ _ _ _:=hB;show ya _ _ _ _ _ _;refine zX T Tryz.func96 ud rfl rfl rfl λC hC=>?_
    repeat' first|refine gG ?_|exact gD|(exfalso;first|(have h0:=uj h;omega)|(have h0:=um h;omega))|(exfalso;simp only[ux,uG,uq,ur]at h;omega)|refine gB ?_ ?_<;>intro h|(refine zdD hC rfl rfl rfl ?_)|(refine yj hC hA (nm [0,1,2,3,4,1003,1004,1005]) rfl rfl (zH.refl _) rfl rfl rfl rfl rfl rfl rfl rfl ?_)|(refine zr hC hB id rfl rfl (zH.refl _) rfl rfl rfl rfl rfl rfl ?_)
    exact gU (zi ⟨rfl,id,⟨rfl,rfl,rfl,uh⟩,rfl,rfl⟩)
   |ok u k9=>
    have hk:k9=k1:=by unfold bdI at hr_hB;split at hr_hB<;>simp_all
    subst hk;rw[hr_hB]at hB;have hB:zh _ _ _ _ _ _:=hB;show zh _ _ _ _ _ _;refine gO T Tryz.func96 λC hC=>?_
    repeat' first|refine gG ?_|exact gD|(exfalso;first|(have h0:=uj h;omega)|(have h0:=um h;omega))|(exfalso;simp only[ux,uG,uq,ur]at h;omega)|refine gB ?_ ?_<;>intro h|(refine zdD hC rfl rfl rfl ?_)|(refine yj hC hA (nm [0,1,2,3,4,1003,1004,1005]) rfl rfl (zH.refl _) rfl rfl rfl rfl rfl rfl rfl rfl ?_)|refine gC hB ?_
    all_goals exact gE
 rw[uu o8];by_cases o18:e.op=18
 ·rw[uv o18];have hA:FnX Tryz.prog 137 [I 0,.one (.bx 5 0),.one (.bx 6 0),.one (.bx 7 0)] (imR d m k 0 1 2++clI e nd) (aE d m e nd (atV d m g nd e 0 k)):=hAt nd e 0 k;cases hr_hA:atV d m g nd e 0 k with
  |out=>exact uh
  |flt er k9=>
   rw[hr_hA]at hA;have hA:ya _ _ _ _ _ _:=hA;show ya _ _ _ _ _ _;refine zX T Tryz.func96 ud rfl rfl rfl λC hC=>?_
   repeat' first|refine gG ?_|exact gD|(exfalso;first|(have h0:=uj h;omega)|(have h0:=um h;omega))|(exfalso;simp only[ux,uG,uq,ur]at h;omega)|refine gB ?_ ?_<;>intro h|(refine zr hC hA (nm [0,1,2,3,4,1003,1004,1005]) rfl rfl (zH.refl _) rfl rfl rfl rfl rfl rfl ?_)
   exact gU (zi ⟨rfl,id,⟨rfl,rfl,rfl,uh⟩,rfl,rfl⟩)
  |ok v k1=>
   rw[hr_hA]at hA;have hA:zh _ _ _ _ _ _:=hA
   try simp only[Bn.bind]
   show zh _ _ _ _ _ _;refine gO T Tryz.func96 λC hC=>?_
   repeat' first|refine gG ?_|exact gD|(exfalso;first|(have h0:=uj h;omega)|(have h0:=um h;omega))|(exfalso;simp only[ux,uG,uq,ur]at h;omega)|refine gB ?_ ?_<;>intro h|(refine yj hC hA (nm [0,1,2,3,4,1003,1004,1005]) rfl rfl (zH.refl _) rfl rfl rfl rfl rfl rfl rfl rfl ?_)
   all_goals exact gE
 rw[uu o18];by_cases o24:e.op=24
 ·rw[uv o24];have hA:FnX Tryz.prog 137 [I 0,.one (.bx 5 0),.one (.bx 6 0),.one (.bx 7 0)] (imR d m k 0 1 2++clI e nd) (aE d m e nd (atV d m g nd e 0 k)):=hAt nd e 0 k;cases hr_hA:atV d m g nd e 0 k with
  |out=>exact uh
  |flt er k9=>
   rw[hr_hA]at hA;have hA:ya _ _ _ _ _ _:=hA;show ya _ _ _ _ _ _;refine zX T Tryz.func96 ud rfl rfl rfl λC hC=>?_
   repeat' first|refine gG ?_|exact gD|(exfalso;first|(have h0:=uj h;omega)|(have h0:=um h;omega))|(exfalso;simp only[ux,uG,uq,ur]at h;omega)|refine gB ?_ ?_<;>intro h|(refine zr hC hA (nm [0,1,2,3,4,1003,1004,1005]) rfl rfl (zH.refl _) rfl rfl rfl rfl rfl rfl ?_)
   exact gU (zi ⟨rfl,id,⟨rfl,rfl,rfl,uh⟩,rfl,rfl⟩)
  |ok v k1=>
   rw[hr_hA]at hA;have hA:zh _ _ _ _ _ _:=hA
   try simp only[Bn.bind]
   by_cases hv:v<9223372036854775808
   ·rw[uv hv];exact zss o24 hv hA
   ·rw[uu hv];exact uh
 rw[uu o24];by_cases o19:e.op=19
 ·rw[uv o19];have hA:FnX Tryz.prog 137 [I 0,.one (.bx 5 0),.one (.bx 6 0),.one (.bx 7 0)] (imR d m k 0 1 2++clI e nd) (aE d m e nd (atV d m g nd e 0 k)):=hAt nd e 0 k;cases hr_hA:atV d m g nd e 0 k with
  |out=>exact uh
  |flt er k9=>
   rw[hr_hA]at hA;have hA:ya _ _ _ _ _ _:=hA;show ya _ _ _ _ _ _;refine zX T Tryz.func96 ud rfl rfl rfl λC hC=>?_
   repeat' first|refine gG ?_|exact gD|(exfalso;first|(have h0:=uj h;omega)|(have h0:=um h;omega))|(exfalso;simp only[ux,uG,uq,ur]at h;omega)|refine gB ?_ ?_<;>intro h|(refine zr hC hA (nm [0,1,2,3,4,1003,1004,1005]) rfl rfl (zH.refl _) rfl rfl rfl rfl rfl rfl ?_)
   exact gU (zi ⟨rfl,id,⟨rfl,rfl,rfl,uh⟩,rfl,rfl⟩)
  |ok v k1=>
   rw[hr_hA]at hA;have hA:zh _ _ _ _ _ _:=hA
   try simp only[Bn.bind]
   by_cases h0:v=0
   ·rw[uv h0];show zh _ _ _ _ _ _;refine gO T Tryz.func96 λC hC=>?_
    repeat' first|refine gG ?_|exact gD|(exfalso;first|(have h0:=uj h;omega)|(have h0:=um h;omega))|(exfalso;simp only[ux,uG,uq,ur]at h;omega)|refine gB ?_ ?_<;>intro h|(refine yj hC hA (nm [0,1,2,3,4,1003,1004,1005]) rfl rfl (zH.refl _) rfl rfl rfl rfl rfl rfl rfl rfl ?_)
    all_goals exact gE
   ·rw[uu h0];have hB1:FnX Tryz.prog 137 [I 1,.one (.bx 5 0),.one (.bx 6 0),.one (.bx 7 0)] (imR d m k1 0 1 2++clI e nd) (aE d m e nd (atV d m g nd e 1 k1)):=hAt nd e 1 k1;cases hr_hB1:atV d m g nd e 1 k1 with
    |out=>exact uh
    |flt er k9=>
     rw[hr_hB1]at hB1;have hB1:ya _ _ _ _ _ _:=hB1;show ya _ _ _ _ _ _;refine zX T Tryz.func96 ud rfl rfl rfl λC hC=>?_
     repeat' first|refine gG ?_|exact gD|(exfalso;first|(have h0:=uj h;omega)|(have h0:=um h;omega))|(exfalso;simp only[ux,uG,uq,ur]at h;omega)|refine gB ?_ ?_<;>intro h|(refine yj hC hA (nm [0,1,2,3,4,1003,1004,1005]) rfl rfl (zH.refl _) rfl rfl rfl rfl rfl rfl rfl rfl ?_)|(refine zr hC hB1 (nm [0,1,2,3,4,1003,1004,1005]) rfl rfl (zH.refl _) rfl rfl rfl rfl rfl rfl ?_)
     exact gU (zi ⟨rfl,id,⟨rfl,rfl,rfl,uh⟩,rfl,rfl⟩)
    |ok u k2=>
     rw[hr_hB1]at hB1;have hB1:zh _ _ _ _ _ _:=hB1
     try simp only[Bn.bind]
     show zh _ _ _ _ _ _;refine gO T Tryz.func96 λC hC=>?_
     repeat' first|refine gG ?_|exact gD|(exfalso;first|(have h0:=uj h;omega)|(have h0:=um h;omega))|(exfalso;simp only[ux,uG,uq,ur]at h;omega)|refine gB ?_ ?_<;>intro h|(refine yj hC hA (nm [0,1,2,3,4,1003,1004,1005]) rfl rfl (zH.refl _) rfl rfl rfl rfl rfl rfl rfl rfl ?_)|(refine yj hC hB1 (nm [0,1,2,3,4,1003,1004,1005]) rfl rfl (zH.refl _) rfl rfl rfl rfl rfl rfl rfl rfl ?_)
     all_goals exact gE
 rw[uu o19];by_cases o20:e.op=20
 ·rw[uv o20];have hA:FnX Tryz.prog 137 [I 0,.one (.bx 5 0),.one (.bx 6 0),.one (.bx 7 0)] (imR d m k 0 1 2++clI e nd) (aE d m e nd (atV d m g nd e 0 k)):=hAt nd e 0 k;cases hr_hA:atV d m g nd e 0 k with
  |out=>exact uh
  |flt er k9=>
   rw[hr_hA]at hA;have hA:ya _ _ _ _ _ _:=hA;show ya _ _ _ _ _ _;refine zX T Tryz.func96 ud rfl rfl rfl λC hC=>?_
   repeat' first|refine gG ?_|exact gD|(exfalso;first|(have h0:=uj h;omega)|(have h0:=um h;omega))|(exfalso;simp only[ux,uG,uq,ur]at h;omega)|refine gB ?_ ?_<;>intro h|(refine zr hC hA (nm [0,1,2,3,4,1003,1004,1005]) rfl rfl (zH.refl _) rfl rfl rfl rfl rfl rfl ?_)
   exact gU (zi ⟨rfl,id,⟨rfl,rfl,rfl,uh⟩,rfl,rfl⟩)
  |ok v k1=>
   rw[hr_hA]at hA;have hA:zh _ _ _ _ _ _:=hA
   try simp only[Bn.bind]
   by_cases h0:v=0
   ·rw[uv h0];have hB1:FnX Tryz.prog 137 [I 1,.one (.bx 5 0),.one (.bx 6 0),.one (.bx 7 0)] (imR d m k1 0 1 2++clI e nd) (aE d m e nd (atV d m g nd e 1 k1)):=hAt nd e 1 k1;cases hr_hB1:atV d m g nd e 1 k1 with
    |out=>exact uh
    |flt er k9=>
     rw[hr_hB1]at hB1;have hB1:ya _ _ _ _ _ _:=hB1;show ya _ _ _ _ _ _;refine zX T Tryz.func96 ud rfl rfl rfl λC hC=>?_
     repeat' first|refine gG ?_|exact gD|(exfalso;first|(have h0:=uj h;omega)|(have h0:=um h;omega))|(exfalso;simp only[ux,uG,uq,ur]at h;omega)|refine gB ?_ ?_<;>intro h|(refine yj hC hA (nm [0,1,2,3,4,1003,1004,1005]) rfl rfl (zH.refl _) rfl rfl rfl rfl rfl rfl rfl rfl ?_)|(refine zr hC hB1 (nm [0,1,2,3,4,1003,1004,1005]) rfl rfl (zH.refl _) rfl rfl rfl rfl rfl rfl ?_)
     exact gU (zi ⟨rfl,id,⟨rfl,rfl,rfl,uh⟩,rfl,rfl⟩)
    |ok u k2=>
     rw[hr_hB1]at hB1;have hB1:zh _ _ _ _ _ _:=hB1
     try simp only[Bn.bind]
     show zh _ _ _ _ _ _;refine gO T Tryz.func96 λC hC=>?_
     repeat' first|refine gG ?_|exact gD|(exfalso;first|(have h0:=uj h;omega)|(have h0:=um h;omega))|(exfalso;simp only[ux,uG,uq,ur]at h;omega)|refine gB ?_ ?_<;>intro h|(refine yj hC hA (nm [0,1,2,3,4,1003,1004,1005]) rfl rfl (zH.refl _) rfl rfl rfl rfl rfl rfl rfl rfl ?_)|(refine yj hC hB1 (nm [0,1,2,3,4,1003,1004,1005]) rfl rfl (zH.refl _) rfl rfl rfl rfl rfl rfl rfl rfl ?_)
     all_goals exact gE
   ·rw[uu h0];show zh _ _ _ _ _ _;refine gO T Tryz.func96 λC hC=>?_
    repeat' first|refine gG ?_|exact gD|(exfalso;first|(have h0:=uj h;omega)|(have h0:=um h;omega))|(exfalso;simp only[ux,uG,uq,ur]at h;omega)|refine gB ?_ ?_<;>intro h|(refine yj hC hA (nm [0,1,2,3,4,1003,1004,1005]) rfl rfl (zH.refl _) rfl rfl rfl rfl rfl rfl rfl rfl ?_)
    all_goals exact gE
 rw[uu o20];by_cases o21:e.op=21
 ·rw[uv o21];have hA:FnX Tryz.prog 137 [I 0,.one (.bx 5 0),.one (.bx 6 0),.one (.bx 7 0)] (imR d m k 0 1 2++clI e nd) (aE d m e nd (atV d m g nd e 0 k)):=hAt nd e 0 k;cases hr_hA:atV d m g nd e 0 k with
  |out=>exact uh
  |flt er k9=>
   rw[hr_hA]at hA;have hA:ya _ _ _ _ _ _:=hA;show ya _ _ _ _ _ _;refine zX T Tryz.func96 ud rfl rfl rfl λC hC=>?_
   repeat' first|refine gG ?_|exact gD|(exfalso;first|(have h0:=uj h;omega)|(have h0:=um h;omega))|(exfalso;simp only[ux,uG,uq,ur]at h;omega)|refine gB ?_ ?_<;>intro h|(refine zr hC hA (nm [0,1,2,3,4,1003,1004,1005]) rfl rfl (zH.refl _) rfl rfl rfl rfl rfl rfl ?_)
   exact gU (zi ⟨rfl,id,⟨rfl,rfl,rfl,uh⟩,rfl,rfl⟩)
  |ok v k1=>
   rw[hr_hA]at hA;have hA:zh _ _ _ _ _ _:=hA
   try simp only[Bn.bind]
   by_cases h0:v=0
   ·rw[uv h0];have hB2:FnX Tryz.prog 137 [I 2,.one (.bx 5 0),.one (.bx 6 0),.one (.bx 7 0)] (imR d m k1 0 1 2++clI e nd) (aE d m e nd (atV d m g nd e 2 k1)):=hAt nd e 2 k1;cases hr_hB2:atV d m g nd e 2 k1 with
    |out=>exact uh
    |flt er k9=>
     rw[hr_hB2]at hB2;have hB2:ya _ _ _ _ _ _:=hB2;show ya _ _ _ _ _ _;refine zX T Tryz.func96 ud rfl rfl rfl λC hC=>?_
     repeat' first|refine gG ?_|exact gD|(exfalso;first|(have h0:=uj h;omega)|(have h0:=um h;omega))|(exfalso;simp only[ux,uG,uq,ur]at h;omega)|refine gB ?_ ?_<;>intro h|(refine yj hC hA (nm [0,1,2,3,4,1003,1004,1005]) rfl rfl (zH.refl _) rfl rfl rfl rfl rfl rfl rfl rfl ?_)|(refine zr hC hB2 (nm [0,1,2,3,4,1003,1004,1005]) rfl rfl (zH.refl _) rfl rfl rfl rfl rfl rfl ?_)
     exact gU (zi ⟨rfl,id,⟨rfl,rfl,rfl,uh⟩,rfl,rfl⟩)
    |ok u k2=>
     rw[hr_hB2]at hB2;have hB2:zh _ _ _ _ _ _:=hB2
     try simp only[Bn.bind]
     show zh _ _ _ _ _ _;refine gO T Tryz.func96 λC hC=>?_
     repeat' first|refine gG ?_|exact gD|(exfalso;first|(have h0:=uj h;omega)|(have h0:=um h;omega))|(exfalso;simp only[ux,uG,uq,ur]at h;omega)|refine gB ?_ ?_<;>intro h|(refine yj hC hA (nm [0,1,2,3,4,1003,1004,1005]) rfl rfl (zH.refl _) rfl rfl rfl rfl rfl rfl rfl rfl ?_)|(refine yj hC hB2 (nm [0,1,2,3,4,1003,1004,1005]) rfl rfl (zH.refl _) rfl rfl rfl rfl rfl rfl rfl rfl ?_)
     all_goals exact gE
   ·rw[uu h0];have hB1:FnX Tryz.prog 137 [I 1,.one (.bx 5 0),.one (.bx 6 0),.one (.bx 7 0)] (imR d m k1 0 1 2++clI e nd) (aE d m e nd (atV d m g nd e 1 k1)):=hAt nd e 1 k1;cases hr_hB1:atV d m g nd e 1 k1 with
    |out=>exact uh
    |flt er k9=>
     rw[hr_hB1]at hB1;have hB1:ya _ _ _ _ _ _:=hB1;show ya _ _ _ _ _ _;refine zX T Tryz.func96 ud rfl rfl rfl λC hC=>?_
     repeat' first|refine gG ?_|exact gD|(exfalso;first|(have h0:=uj h;omega)|(have h0:=um h;omega))|(exfalso;simp only[ux,uG,uq,ur]at h;omega)|refine gB ?_ ?_<;>intro h|(refine yj hC hA (nm [0,1,2,3,4,1003,1004,1005]) rfl rfl (zH.refl _) rfl rfl rfl rfl rfl rfl rfl rfl ?_)|(refine zr hC hB1 (nm [0,1,2,3,4,1003,1004,1005]) rfl rfl (zH.refl _) rfl rfl rfl rfl rfl rfl ?_)
     exact gU (zi ⟨rfl,id,⟨rfl,rfl,rfl,uh⟩,rfl,rfl⟩)
    |ok u k2=>
     rw[hr_hB1]at hB1;have hB1:zh _ _ _ _ _ _:=hB1
     try simp only[Bn.bind]
     show zh _ _ _ _ _ _;refine gO T Tryz.func96 λC hC=>?_
     repeat' first|refine gG ?_|exact gD|(exfalso;first|(have h0:=uj h;omega)|(have h0:=um h;omega))|(exfalso;simp only[ux,uG,uq,ur]at h;omega)|refine gB ?_ ?_<;>intro h|(refine yj hC hA (nm [0,1,2,3,4,1003,1004,1005]) rfl rfl (zH.refl _) rfl rfl rfl rfl rfl rfl rfl rfl ?_)|(refine yj hC hB1 (nm [0,1,2,3,4,1003,1004,1005]) rfl rfl (zH.refl _) rfl rfl rfl rfl rfl rfl rfl rfl ?_)
     all_goals exact gE
 rw[uu o21];have hA:FnX Tryz.prog 137 [I 0,.one (.bx 5 0),.one (.bx 6 0),.one (.bx 7 0)] (imR d m k 0 1 2++clI e nd) (aE d m e nd (atV d m g nd e 0 k)):=hAt nd e 0 k;cases hr_hA:atV d m g nd e 0 k with
 |out=>exact uh
 |flt er k9=>
  rw[hr_hA]at hA;have hA:ya _ _ _ _ _ _:=hA;show ya _ _ _ _ _ _;refine zX T Tryz.func96 ud rfl rfl rfl λC hC=>?_
  repeat' first|refine gG ?_|exact gD|(exfalso;first|(have h0:=uj h;omega)|(have h0:=um h;omega))|(exfalso;simp only[ux,uG,uq,ur]at h;omega)|refine gB ?_ ?_<;>intro h|(refine zr hC hA (nm [0,1,2,3,4,1003,1004,1005]) rfl rfl (zH.refl _) rfl rfl rfl rfl rfl rfl ?_)
  exact gU (zi ⟨rfl,id,⟨rfl,rfl,rfl,uh⟩,rfl,rfl⟩)
 |ok v k1=>
  rw[hr_hA]at hA;have hA:zh _ _ _ _ _ _:=hA
  try simp only[Bn.bind]
  have hB1:FnX Tryz.prog 137 [I 1,.one (.bx 5 0),.one (.bx 6 0),.one (.bx 7 0)] (imR d m k1 0 1 2++clI e nd) (aE d m e nd (atV d m g nd e 1 k1)):=hAt nd e 1 k1;cases hr_hB1:atV d m g nd e 1 k1 with
  |out=>exact uh
  |flt er k9=>
   rw[hr_hB1]at hB1;have hB1:ya _ _ _ _ _ _:=hB1;show ya _ _ _ _ _ _;refine zX T Tryz.func96 ud rfl rfl rfl λC hC=>?_
   repeat' first|refine gG ?_|exact gD|(exfalso;first|(have h0:=uj h;omega)|(have h0:=um h;omega))|(exfalso;simp only[ux,uG,uq,ur]at h;omega)|refine gB ?_ ?_<;>intro h|(refine yj hC hA (nm [0,1,2,3,4,1003,1004,1005]) rfl rfl (zH.refl _) rfl rfl rfl rfl rfl rfl rfl rfl ?_)|(refine zep T hC hB1 (nm [0,1,2,3,4,1003,1004,1005]) [] rfl rfl (zH.refl _) rfl rfl rfl rfl rfl ud ud ?_)
   exact gU (zi ⟨rfl,id,⟨rfl,rfl,rfl,uh⟩,rfl,rfl⟩)
  |ok u k2=>
   rw[hr_hB1]at hB1;have hB1:zh _ _ _ _ _ _:=hB1
   try simp only[Bn.bind]
   have hT:=zrT e.op v u k2;cases hr_hT:znP e.op v u k2 with
   |out=>exact uh
   |flt er k9=>
    have hk:k9=k2:=zst hr_hT;subst hk;rw[hr_hT]at hT;have hT:ya _ _ _ _ _ _:=hT;show ya _ _ _ _ _ _;refine zX T Tryz.func96 ud rfl rfl rfl λC hC=>?_
    repeat' first|refine gG ?_|exact gD|(exfalso;first|(have h0:=uj h;omega)|(have h0:=um h;omega))|(exfalso;simp only[ux,uG,uq,ur]at h;omega)|refine gB ?_ ?_<;>intro h|(refine yj hC hA (nm [0,1,2,3,4,1003,1004,1005]) rfl rfl (zH.refl _) rfl rfl rfl rfl rfl rfl rfl rfl ?_)|(refine yj hC hB1 (nm [0,1,2,3,4,1003,1004,1005]) rfl rfl (zH.refl _) rfl rfl rfl rfl rfl rfl rfl rfl ?_)|(refine xE T hC hT id [0,1,2] rfl rfl (zH.refl _) rfl rfl rfl rfl rfl ud ud ?_)
    exact gU (zi ⟨rfl,id,⟨rfl,rfl,rfl,uh⟩,rfl,rfl⟩)
   |ok w k9=>
    have hk:k9=k2:=zpm hr_hT;subst hk;rw[hr_hT]at hT;have hT:zh _ _ _ _ _ _:=hT;show zh _ _ _ _ _ _;refine gO T Tryz.func96 λC hC=>?_
    repeat' first|refine gG ?_|exact gD|(exfalso;first|(have h0:=uj h;omega)|(have h0:=um h;omega))|(exfalso;simp only[ux,uG,uq,ur]at h;omega)|refine gB ?_ ?_<;>intro h|(refine yj hC hA (nm [0,1,2,3,4,1003,1004,1005]) rfl rfl (zH.refl _) rfl rfl rfl rfl rfl rfl rfl rfl ?_)|(refine yj hC hB1 (nm [0,1,2,3,4,1003,1004,1005]) rfl rfl (zH.refl _) rfl rfl rfl rfl rfl rfl rfl rfl ?_)|refine gC hT ?_
    all_goals exact gE
theorem zhb(d:zj)(m:Hp)(U:xI m): ∀g:Nat,(∀nd e k,zve d m nd e k (inV d m g nd e k))/\(∀nd e i k,zvP d m nd e i k (atV d m g nd e i k))/\ ∀i nd k,zvO d m i nd k (meV d m g i nd k)
 |0=>⟨λnd e k=>by rw[inV];trivial,λnd e i k=>by rw[atV];trivial,λi nd k=>by rw[meV];trivial⟩
 |g+1=>
  have J:=zhb d m U g
  ⟨λnd e k=>zpn U g J.2.1 J.2.2 nd e k,λnd e i k=>zpi g J.1 nd e i k,λi nd k=>zph g J.1 i nd k⟩
abbrev clX(e:Ex)(nd:Int):RL:=[(5,.box [.bx 0 0]),(6,.box ((ye e).map V.p)),(7,.box [.p (ki nd)])]
noncomputable def tEE(d:zj)(m:Hp)(e:Ex)(nd:Int):Bn->End
 | .ok v k=> .ok (I v) (imR d m k 0 1 2++clX e nd)
 | .flt er k=> .pn (flI er) (imR d m k 0 1 2++clX e nd)
 | .out=> .no
abbrev clK(i:Nat)(nd:Int):RL:=[(5,.box [.bx 0 0]),(6,.box (([ki (i:Int)]).map V.p)),(7,.box [.p (ki nd)])]
noncomputable def tKE(d:zj)(m:Hp)(i:Nat)(nd:Int):Bn->End
 | .ok v k=> .ok (I v) (imR d m k 0 1 2++clK i nd)
 | .flt er k=> .pn (flI er) (imR d m k 0 1 2++clK i nd)
 | .out=> .no
def unB(k:Kn):Option Int->Kn
 |none=>k
 |some _=>⟨k.kn,[]⟩
set_option maxRecDepth 100000 in
theorem zer(d:zj)(m:Hp)(k:Kn)(v:Int)(rq:Option Int):
 ztQ Tryz.prog 136 [.one (.bx 3 0),.one (.bx 4 0),.one (.bx 5 0)] (imR d m k 0 1 2++[(3,.box [.p (ki v)]),(4,.box [.p (ki 0)]),(5,.box [.bx 0 0])]) (rq.map flI)
  (imR d m (unB k rq) 0 1 2++[(3,.box [.p (ki (if rq.isSome then 0 else v))]),(4,.box [.p (ki (rq.getD 0))]),(5,.box [.bx 0 0])]):=by
 refine zrw T (rq.map flI) (Tryz.func136) ud rfl rfl rfl rfl rfl rfl rfl (by cases rq<;>rfl) λC hC=>?_;cases rq
 all_goals
  repeat' first|refine gG ?_|refine gB ?_ ?_<;>intro h|(refine zkg hC rfl ud rfl rfl ?_)|(refine zlr hC rfl ud rfl rfl ?_)|(refine zrx hC [.int .i64 _] rfl ud rfl rfl rfl ?_)|(refine zpl k2G (et:=4) hC rfl rfl ud rfl rfl ?_)|refine ze ?_
  exact zi ⟨.inr rfl,id,_,rfl,zlI,⟨rfl,rfl,rfl,rfl,rfl,rfl,uh⟩,rfl,rfl⟩
def trV:Bn->Option (Int×Int×Kn)
 | .ok v k=>some (v,0,k)
 | .flt e k=>some (0,e,⟨k.kn,[]⟩)
 | .out=>none
variable {F:FuncId}{nd:Int}{r:Bn}
theorem zsu{e:Ex}{k k1:Kn}{v J:Int}(h:FnX Tryz.prog F [.one (.bx 5 0),.one (.bx 6 0),.one (.bx 7 0)] (imR d m k 0 1 2++clX e nd) (tEE d m e nd r))(U:trV r=some (v,J,k1)):
 zh Tryz.prog 94 [.one (.bx 0 0),.one (.cl F [] [.bx 5 0,.bx 6 0,.bx 7 0])] (imR d m k 0 1 2++clX e nd) (.tup [I v,I J]) (imR d m k1 0 1 2++clX e nd):=by
 refine zib T (m:=1) (Rm:=imR d m k 0 1 2++clX e nd++[(10,.box [.bx 0 0]),(11,.box [.p (ki 0)]),(12,.box [.p (ki 0)])])
  (sl1:=[(1,.one (.cl F [] [.bx 5 0,.bx 6 0,.bx 7 0])),(2,.one (.bx 10 0)),(4,.one (.bx 11 0)),(5,.one (.bx 12 0))]) (Tryz.func94) ud rfl rfl rfl rfl rfl rfl rfl rfl rfl rfl rfl (λC hC=>?_) (λC hC=>?_)
 ·repeat' first|refine gG ?_|exact gD|refine gB ?_ ?_<;>intro h
  show Goal _ _ _ [] _ _ _ _;exact zi ⟨ms [(10,1002),(11,1004),(12,1005)],rfl,⟨rfl,rfl,rfl,rfl,uh⟩,⟨rfl,rfl,rfl,rfl,rfl,rfl,rfl,rfl,rfl,uh⟩,rfl,rfl⟩
 ·cases r with
  |out=>cases U
  |ok v1 k2=>
   cases U;have h:zh _ _ _ _ _ _:=h;have hD:=zer d m k1 v none
   repeat' first|refine gG ?_|refine gB ?_ ?_<;>intro h|refine gR h (nm [0,1,2,3,4,5,6,7]) ?_
   exact zi ⟨none,_,_,_,nm [0,1,2,11,12,10],.inl rfl,hD,zH.refl _,⟨rfl,rfl,rfl,rfl,rfl,rfl,uh⟩,rfl,rfl,rfl,rfl,⟨.inl rfl,id,_,rfl,.refl _,⟨rfl,rfl,rfl,rfl,rfl,rfl,uh⟩,rfl,rfl⟩⟩
  |flt er k2=>
   cases U;have h:ya _ _ _ _ _ _:=h;have hD:=zer d m k2 0 (some J)
   repeat' first|refine gG ?_|refine gB ?_ ?_<;>intro h|(refine zr hC h (nm [0,1,2,3,4,5,6,7]) rfl rfl (zH.refl _) rfl rfl rfl rfl rfl rfl ?_)
   exact gU (zi ⟨some (flI J),_,_,_,nm [0,1,2,11,12,10],rfl,hD,zH.refl _,⟨rfl,rfl,rfl,rfl,rfl,rfl,uh⟩,rfl,rfl,rfl,rfl,⟨.inl rfl,id,_,rfl,.refl _,⟨rfl,rfl,rfl,rfl,rfl,rfl,uh⟩,rfl,rfl⟩⟩)
variable {i:Nat}
theorem zsv{k k1:Kn}{v e:Int}(h:FnX Tryz.prog F [.one (.bx 5 0),.one (.bx 6 0),.one (.bx 7 0)] (imR d m k 0 1 2++clK i nd) (tKE d m i nd r))(J:trV r=some (v,e,k1)):
 zh Tryz.prog 94 [.one (.bx 0 0),.one (.cl F [] [.bx 5 0,.bx 6 0,.bx 7 0])] (imR d m k 0 1 2++clK i nd) (.tup [I v,I e]) (imR d m k1 0 1 2++clK i nd):=by
 refine zib T (m:=1) (Rm:=imR d m k 0 1 2++clK i nd++[(10,.box [.bx 0 0]),(11,.box [.p (ki 0)]),(12,.box [.p (ki 0)])])
  (sl1:=[(1,.one (.cl F [] [.bx 5 0,.bx 6 0,.bx 7 0])),(2,.one (.bx 10 0)),(4,.one (.bx 11 0)),(5,.one (.bx 12 0))]) (Tryz.func94) ud rfl rfl rfl rfl rfl rfl rfl rfl rfl rfl rfl (λC hC=>?_) (λC hC=>?_)
 ·repeat' first|refine gG ?_|exact gD|refine gB ?_ ?_<;>intro h
  show Goal _ _ _ [] _ _ _ _;exact zi ⟨ms [(10,1002),(11,1004),(12,1005)],rfl,⟨rfl,rfl,rfl,rfl,uh⟩,⟨rfl,rfl,rfl,rfl,rfl,rfl,rfl,rfl,rfl,uh⟩,rfl,rfl⟩
 ·cases r with
  |out=>cases J
  |ok v1 k2=>
   cases J;have h:zh _ _ _ _ _ _:=h;have U:=zer d m k1 v none
   repeat' first|refine gG ?_|refine gB ?_ ?_<;>intro h|refine gR h (nm [0,1,2,3,4,5,6,7]) ?_
   exact zi ⟨none,_,_,_,nm [0,1,2,11,12,10],.inl rfl,U,zH.refl _,⟨rfl,rfl,rfl,rfl,rfl,rfl,uh⟩,rfl,rfl,rfl,rfl,⟨.inl rfl,id,_,rfl,.refl _,⟨rfl,rfl,rfl,rfl,rfl,rfl,uh⟩,rfl,rfl⟩⟩
  |flt er k2=>
   cases J;have h:ya _ _ _ _ _ _:=h;have U:=zer d m k2 0 (some e)
   repeat' first|refine gG ?_|refine gB ?_ ?_<;>intro h|(refine zr hC h (nm [0,1,2,3,4,5,6,7]) rfl rfl (zH.refl _) rfl rfl rfl rfl rfl rfl ?_)
   exact gU (zi ⟨some (flI e),_,_,_,nm [0,1,2,11,12,10],rfl,U,zH.refl _,⟨rfl,rfl,rfl,rfl,rfl,rfl,uh⟩,rfl,rfl,rfl,rfl,⟨.inl rfl,id,_,rfl,.refl _,⟨rfl,rfl,rfl,rfl,rfl,rfl,uh⟩,rfl,rfl⟩⟩)
inductive Vn (α:Type) where
 |ok (v:α)
 |flt (e:Int)
 |out
variable {α:Type}
def Vn.bind{β:Type}:Vn α->(α->Vn β)->Vn β
 | .ok v,f=>f v
 | .flt e,_=> .flt e
 | .out,_=> .out
def Bn.vn:Bn->Vn Int
 | .ok v _=> .ok v
 | .flt e _=> .flt e
 | .out=> .out
abbrev kn0:Kn:=⟨[],[]⟩
structure Scp where
 ps:List Fld
 va:List Int
def vbV(d:zj)(m:Hp)(c:Scp)(s:Str):Vn Int:=match ixF c.ps s with
 |some i=>(match c.va[i]? with
  |some v=> .ok v
  |none=> .out)
 |none=>match ixF d.globals s with
  |some i=>(match m.g[i]? with
   |some v=> .ok v
   |none=> .out)
  |none=> .ok 0
def nbV(n:Int):Vn Int:=if n< -1099511627776\/1099511627776<n then .flt 5 else .ok n
def pdV(a b:Int):Vn Int:=if a.natAbs*b.natAbs>1099511627776 then .flt 5 else .ok (a*b)
def tw0(op a b:Int):Vn Int:=
 if op=9 then nbV (a+b)else if op=10 then nbV (a - b)else if op=11 then pdV a b
 else if op=14 then .ok (zeS (decide (a=b)))else if op=15 then .ok (zeS (!decide (a=b)))
 else if op=16 then .ok (zeS (decide (a<b)))else if op=17 then .ok (zeS (decide (a<=b)))
 else if op=22 then .ok (if a<b then b else a)else if op=23 then .ok (if b<a then b else a)
 else if b=0 then .flt 18 else if op=12 then .ok (Int.tdiv a b)else .ok (Int.tmod a b)
def twV(op a b:Int):Vn Int:=if inB a/\inB b then tw0 op a b else .out
def zvf(d:zj)(m:Hp)(g:Nat)(s:Str)(nd:Int):Option (Int×Int):=
 if isB m nd=false then some (0,2)else match zuf d s with
  |none=>some (0,9)
  |some i=>match d.measures[i]? with
   |none=>none
   |some x=>if ¬nd=0/\ ¬tyI d m nd=x.t then some (0,11)else(trV (meV d m g i nd kn0)).map λq=>(q.1,q.2.1)
def mesV(d:zj)(m:Hp)(g:Nat)(s:Str)(nd:Int):Vn Int:=match zvf d m g s nd with
 |none=> .out
 |some (v,e)=>if e=0 then .ok v else .flt e
def opsV(d:zj)(m:Hp)(g:Nat)(e:Ex)(l:List Int):Vn Int:=match l[0]? with
 |none=> .out
 |some a=>if e.op=5 then(fldI d m a e.s kn0).vn else if e.op=7 then mesV d m g e.s a
  else if e.op=8 then(if inB a then nbV (-a)else .out)else if e.op=18 then(if inB a then .ok (1 - a)else .out)
  else if e.op=24 then(if inB a then .ok (zlO a)else .out)
  else match l[1]? with
   |none=> .out
   |some b=>twV e.op a b
mutual
def vaV(d:zj)(m:Hp)(G:Nat)(c:Scp):Nat->Ex->Vn Int
 |0,_=> .out
 |g+1,e=>if e.op=1\/e.op=2\/e.op=3 then .ok e.n else if e.op=4 then vbV d m c e.s
  else if e.op=19\/e.op=20 then(vatV d m G c g e 0).bind λa=>if(decide (a=1)==decide (e.op=19))=true then vatV d m G c g e 1 else .ok a
  else if e.op=21 then(vatV d m G c g e 0).bind λa=>if inB a/\a<=2 then vatV d m G c g e (2 - a).toNat else .out
  else if e.l.length<=1000000 then(vasV d m G c g e.l).bind λl=>opsV d m G e l else .out
def vatV(d:zj)(m:Hp)(G:Nat)(c:Scp):Nat->Ex->Nat->Vn Int
 |0,_,_=> .out
 |g+1,e,i=>match e.l[i]? with
  |none=> .out
  |some x=>vaV d m G c g x
def vasV(d:zj)(m:Hp)(G:Nat)(c:Scp):Nat->List Ex->Vn (List Int)
 |0,_=> .out
 |_+1,[]=> .ok []
 |g+1,x::r=>(vaV d m G c g x).bind λv=>(vasV d m G c g r).bind λl=> .ok (v::l)
end
def evV:Vn Int->Option (Int×Int)
 | .ok v=>some (v,0)
 | .flt e=>some (0,e)
 | .out=>none
def zcI(d:zj)(m:Hp):Bool:=decide ((zcT d).2.2=0)&&yD d m
def zvR(d:zj)(m:Hp)(g:Nat)(e:Ex)(nd:Int):Option (Int×Int):=
 if zcI d m=false\/xi e=false then some (0,1)else if isB m nd=false then some (0,2)
 else if ¬(exT d (zd9 d (tyI d m nd)) false e).2=0 then some (0,(exT d (zd9 d (tyI d m nd)) false e).2)
 else(trV (inV d m g nd e kn0)).map λq=>(q.1,q.2.1)
def sumN(f:Int->Option (Int×Int)):List Int->Int->Vn Int
 | [],s=> .ok s
 |k::r,s=>match f k with
  |none=> .out
  |some (n,e)=>if ¬e=0 then .flt e else if inB n then(if bdB (s+n)=true then sumN f r (s+n)else .flt 5)else .out
def zwl(f:Pt->Int->Vn Int):List Pt->Int->Vn Int
 | [],s=> .ok s
 |p::r,s=>(f p s).bind λs=>zwl f r s
def ptN(d:zj)(m:Hp)(g:Nat)(x:Ex)(l:List Int)(s:Int):Vn Int:=sumN (zvR d m g x) l s
def ptL(d:zj)(m:Hp)(p:Pt)(l:List Int):List Int:=if p.t=(⟨#[]⟩:UH)then [0]else l.filter λk=>decide (tyN d (ndG m k).t=p.t)
def ptP(d:zj)(m:Hp)(g:Nat)(l:List Int)(ps:List Pt)(s:Int):Vn Int:=zwl (λp s=>ptN d m g p.x (ptL d m p l) s) ps s
def ptE(d:zj)(m:Hp)(g:Nat):Option (Int×Int):=if yD d m=false then some (0,1)else evV (ptP d m g (zad d m).order d.pots 0)
def plB(t:Str):Bool:=decide (t=(⟨#[105,110,116]⟩:UH))||decide (t=(⟨#[98,111,111,108]⟩:UH))
def agB(q:Int×Fld):Bool:= !bdB q.1||(decide (q.2.t=(⟨#[98,111,111,108]⟩:UH))&& !decide (q.1=0)&& !decide (q.1=1))
def chE(d:zj)(c:Cl):Int×Pr:=match zcZ d c.p with
 |none=>(9,zoK)
 |some i=>match d.procs[i]? with
  |none=>(9,zoK)
  |some p=>if(!decide (p.res=(⟨#[]⟩:UH))&& !plB p.res)||p.params.any (λf=> !plB f.t)then(12,zoK)
   else if ¬c.a.length=p.params.length then(3,zoK)else if(List.zip c.a p.params).any agB=true then(11,zoK)else(0,p)
def zwm(d:zj)(s:Str):Option Nat:=d.bounds.findIdx? λb=>decide (b.p=s)
def bnE(d:zj)(m:Hp)(g:Nat)(p:Pr)(c:Cl):Option (Int×Int):=match zwm d p.n with
 |none=>some (1099511627776,0)
 |some i=>match d.bounds[i]? with
  |none=>none
  |some b=>evV (vaV d m g ⟨p.params,c.a⟩ g b.x)
def entE(d:zj)(m:Hp)(g:Nat)(c:Cl)(fuel:Int):Option (EnT×Option Hp×Int):=
 if ¬(chE d c).1=0 then some (⟨0,0,0,0⟩,none,(chE d c).1)else match ptE d m g with
 |none=>none
 |some (be,e)=>if ¬e=0 then some (⟨0,0,0,0⟩,none,e)else match bnE d m g (chE d c).2 c with
  |none=>none
  |some (bo,e)=>if ¬e=0 then some (⟨0,0,0,0⟩,none,e)else if ¬zgg d m fuel=0 then some (⟨0,be,0,bo⟩,none,zgg d m fuel)
   else if ¬zd3 d m c=0 then some (⟨0,be,0,bo⟩,none,zd3 d m c)else match plF (rnV d fuel g (chE d c).2 c.a (mc0 m))with
   |none=>none
   |some (_,_,x)=>if 1099511627776<x.acc.length then none else match ptE d ⟨x.g,x.ns⟩ g with
    |none=>none
    |some (af,e)=>some (⟨(ndC x.acc:Nat),be,af,bo⟩,some ⟨x.g,x.ns⟩,e)
def audF(f:Hp->Cl->Option (EnT×Option Hp×Int)):List Cl->Hp->Option (List EnT×Option Hp×Int)
 | [],m=>some ([],some m,0)
 |c::r,m=>match f m c with
  |none=>none
  |some (x,some m2,e)=>if ¬e=0 then some ([],none,e)else(audF f r m2).map λq=>if q.2.2=0 then(x::q.1,q.2)else q
  |some (_,none,e)=>some ([],none,e)
def zwO(d:zj)(g:Nat)(fuel:Int)(l:List Cl)(m:Hp):Option (List EnT×Option Hp×Int):=audF (λm c=>entE d m g c fuel) l m
def zu3(d:zj)(m:Hp)(g:Nat)(l:List Cl)(fuel:Int):Option (List EnT×Option Hp×Int):=
 if zcI d m=false then some ([],none,1)else if fuel<0\/1048576<fuel then some ([],none,2)else if 2000<l.length then some ([],none,4)else zwO d g fuel l m
theorem ziB{α:Type}(p:α->Bool): ∀(l:List α),(anyR (λ(x:α) (_:Unit)=>p x) (λ_ s=>s) l ()).1=l.any p
 | []=>rfl
 |x::r=>by
  simp only[anyR,ql];cases p x with
  |true=>simp
  |false=>simp only[uy,uL,tO];exact ziB p r
theorem zfS(l:List EnT):zh Tryz.prog 34 [pS (enL l),.one (.cl 35 [] [])] [] (.bq (l.any yN)) []:=by
 have:=zrP 35 l (λx _=>yN x) (λ_ s=>s) (λ_=>True) (λx _ _ _=>⟨zoL x,λ_=>trivial⟩) () trivial;rwa [ziB]at this
variable {x:EnT}
theorem zla(J:yN x=false):zh Tryz.prog 37 [zF (enR x)] [] (.bq (j7 x)) []:=by
 have hb:=jK J;have U:IntKind.i64.wrap (x.ac+x.af)=x.ac+x.af:=wrap64 ua;have w2:IntKind.i64.wrap (x.ac+x.af - x.be)=x.ac+x.af - x.be:=wrap64 ua;unfold j7;refine gO T Tryz.func37 λC hC=>?_
 repeat' first|refine gG ?_|refine gB ?_ ?_<;>intro h|refine gQ ?_|refine gL ?_|(rw[U,w2])
 all_goals (simp_all<;>omega)
def zrb(l:List EnT):Int×Int:=if l.any yN=true then(0,1)else(idxI (l.findIdx? j7),0)
theorem zeY(l:List EnT):zh Tryz.prog 14 [pS (enL l)] [] (.tup [I (zrb l).1,I (zrb l).2]) []:=by
 have J:=zfS l;unfold zrb;cases hw:l.any yN with
 |true=>
  rw[hw]at J;refine gO T Tryz.func14 λC hC=>?_
  repeat' first|refine gG ?_|exact gD|refine gB ?_ ?_<;>intro h|refine gC J ?_
  exact gF
 |false=>
  rw[hw]at J;have U:=zlL 37 l (λx _=>j7 x) (λ_ s=>s) (λ_=>True) (λx hx _ _=>⟨zla (by have:=List.any_eq_false.1 hw x hx;simpa using this),λ_=>trivial⟩) () trivial;rw[y3]at U;refine gO T Tryz.func14 λC hC=>?_
  repeat' first|refine gG ?_|exact gD|refine gB ?_ ?_<;>intro h|refine gC J ?_|refine gC U ?_
  exact gF
def sumE(f:EnT->Int):List EnT->Int
 | []=>0
 |x::r=>f x+sumE f r
theorem zfT(f:EnT->Int)(x:EnT): ∀l,sumE f (l++[x])=sumE f l+f x
 | []=>by simp[sumE]
 |y::l=>by simp only[uN,sumE,zfT f x l];omega
theorem zaM(f:EnT->Int){l:List EnT}(h:l[i]?=some x):sumE f (l.take (i+1))=sumE f (l.take i)+f x:=by rw[yd h,zfT]
theorem zcz(f:EnT->Int): ∀l:List EnT,(∀x∈l,inB (f x))-> -(1099511627776*(l.length:Int))<=sumE f l/\sumE f l<=1099511627776*(l.length:Int)
 | [],_=>by simp[sumE]
 |x::r,h=>by
  have J:=h x ue;have h2:=zcz f r λy U=>h y (by simp[U])
  unfold inB at J;simp only[sumE,uR];omega
def zpo(l:List EnT):Bool:=l.any λx=>decide (x.bo=1099511627776)
def zE:EnT:=⟨0,0,0,0⟩
def zj5(l:List EnT)(n:Nat):EnT×Int:=
 if(!bdB (sumE (·.ac) (l.take n))|| !bdB (if zpo (l.take n)=true then 1099511627776 else sumE (·.bo) (l.take n)))=true then(zE,5)else if n=0 then(zE,0)
 else(⟨sumE (·.ac) (l.take n),((l[0]?).map (·.be)).getD 0,((l[n - 1]?).map (·.af)).getD 0,if zpo (l.take n)=true then 1099511627776 else sumE (·.bo) (l.take n)⟩,0)
def ztE(l:List EnT)(n:Int):EnT×Int:=if l.any yN=true then(zE,1)else if n<0\/(l.length:Int)<n then(zE,2)else zj5 l n.toNat
theorem zfU{l:List EnT}(h:l[i]?=some x):zpo (l.take (i+1))=(zpo (l.take i)||decide (x.bo=1099511627776)):=by
 unfold zpo;rw[yd h,oJ];simp
theorem zhc{l:List α}{f:α->List PV}{x:α}(h:l[0]?=some x):(l.map f)[(0:Int).toNat]?=some (f x):=zl (i:=0) h
abbrev boS(b:Bool):S:= .one (.p (.k (.bool b)))
theorem zre{l:List EnT}(hl:l.length<=1000000)(n:Int):zh Tryz.prog 15 [pS (enL l),I n] [] (.tup [zF (enR (ztE l n).1),I (ztE l n).2]) []:=by
 have hW:=zfS l;unfold ztE;cases hw:l.any yN with
 |true=>
  rw[hw]at hW;refine gO T Tryz.func15 λC hC=>?_
  repeat' first|refine gG ?_|exact gD|refine gB ?_ ?_<;>intro h|refine gC hW ?_
  exact gF
 |false=>
  rw[hw]at hW;rw[uu ue];have hvl: ∀x∈l,yN x=false:=λx J=>by have:=List.any_eq_false.1 hw x J;simpa using this
  clear hw;by_cases h2:n<0\/(l.length:Int)<n
  ·rw[uv h2];refine gO T Tryz.func15 λC hC=>?_
   repeat' first|refine gG ?_|exact gD|(exfalso;simp only[uW,uq,ur,uk]at *; omega)|refine gB ?_ ?_<;>intro h|refine gC hW ?_
   all_goals exact gF
  rw[uu h2];obtain⟨k,rfl⟩: ∃k:Nat,n=k:=⟨n.toNat,ua⟩;rw[tD];by_cases hk:k=0
  ·subst hk;have hz:zj5 l 0=(zE,0):=by unfold zj5;simp[sumE,zpo,bdB]
   rw[hz];refine gO T Tryz.func15 λC hC=>?_
   repeat' first|refine gG ?_|exact gD|(exfalso;simp only[uU,uq,ur,uk]at h;omega)|refine gB ?_ ?_<;>intro h|refine gC hW ?_
   all_goals exact gF
  obtain⟨x0,hx0⟩:=zd (l:=l) (i:=0) ua;obtain⟨xn,hxn⟩:=zd (l:=l) (i:=k - 1) ua;have wk:IntKind.i64.wrap ((k:Int) - 1)=((k - 1:Nat):Int):=by rw[wrap64 ua];omega
  have hkl:(l.take k).length=k:=by rw[td];omega
  have htk:(l.map enR).take ((k:Int)).toNat=(l.take k).map enR:=by rw[tD,qR]
  refine gO T Tryz.func15 λC hC=>?_
  repeat' first|refine gG ?_|exact gD|(exfalso;simp only[uU,uq,ur,uk]at h;omega)|refine gB ?_ ?_<;>intro h|refine gC hW ?_|(refine gI T (zhc hx0) ?_)|(rw[wk];refine gI T (zl hxn) ?_)|(refine zdF T hC ((l.take k).map enR) rfl rfl rfl (uE _) (by rw[uk];omega) htk rfl rfl ?_)
  rw[uk,hkl];have hvt: ∀j x,(l.take k)[j]?=some x->yN x=false:=λj x hj=>hvl x (qj (List.mem_of_getElem? hj))
  have hti: ∀i,i<=k->(l.take k).take i=l.take i:=λi hi=>by rw[List.take_take,Nat.min_eq_left hi]
  have hbd: ∀i,i<=k->(-1099511627776000000<=sumE (·.ac) (l.take i)/\sumE (·.ac) (l.take i)<=1099511627776000000)/\ -1099511627776000000<=sumE (·.bo) (l.take i)/\sumE (·.bo) (l.take i)<=1099511627776000000:=λi hi=>by
   have h1:=zcz (·.ac) (l.take i) λx J=>by
    have:=jK (hvl x (qj J));unfold inB;omega
   have h2:=zcz (·.bo) (l.take i) λx J=>by
    have:=jK (hvl x (qj J));unfold inB;omega
   rw[td]at h1 h2;omega
  refine zn (λq:Nat×Bool=>q.1<=k/\q.2=zpo (l.take q.1)) (λq=>([(4,.one (.bx 1004 0)),(6,.one (.bx 1006 0)),(7,boS q.2),(38,pS (.sl 4 ((l.take k).map enR))),(39,I k),(40,I q.1)],
   [(1004,some (.box ((enR zE).map V.p))),(1006,some (.box [.p (ki (sumE (·.ac) (l.take q.1))),.p (ki x0.be),.p (ki xn.af),.p (ki (sumE (·.bo) (l.take q.1)))]))])) (λq=>k - q.1) hC
   (0,false) ⟨uz _,rfl⟩ id gM ?_
  rintro⟨i,b⟩ ⟨hi,hb⟩;simp only at hi hb
  change Goal _ _ _ _ _ [(4,.one (.bx 1004 0)),(6,.one (.bx 1006 0)),(7,boS b),(38,pS (.sl 4 ((l.take k).map enR))),(39,I (k:Int)),(40,I (i:Int))]
   [(1004,some (.box ((enR zE).map V.p))),(1006,some (.box [.p (ki (sumE (·.ac) (l.take i))),.p (ki x0.be),.p (ki xn.af),.p (ki (sumE (·.bo) (l.take i)))]))] _
  refine zq T hC true 200 rfl ?_;refine zt rfl ?_ ?_<;>intro h
  ·have hlt:i<k:=by have:=uj h;omega
   clear h;obtain⟨x,J⟩:=zd (l:=l.take k) (i:=i) ua;have hxl:l[i]?=some x:=by rw[tT,uv hlt]at J;exact J
   have h1:=hbd i hi;have h3:=hbd (i+1) ua;have s1:=zaM (·.ac) hxl;have s2:=zaM (·.bo) hxl
   try simp only at s1 s2
   have w1:IntKind.i64.wrap (sumE (·.ac) (l.take i)+x.ac)=sumE (·.ac) (l.take (i+1)):=by rw[<-s1];exact wrap64 ua
   have w2:IntKind.i64.wrap (sumE (·.bo) (l.take i)+x.bo)=sumE (·.bo) (l.take (i+1)):=by rw[<-s2];exact wrap64 ua
   have hfr:=zfU hxl;rw[<-hb]at hfr;have w3:IntKind.i64.wrap ((i:Int)+1)=((i+1:Nat):Int):=by rw[wrap64 ua];omega
   cases b with
   |true=>
    repeat' first|refine gG ?_|exact gD|refine gB ?_ ?_<;>intro h|(refine gI T (zl J) ?_)
    rw[w1,w2,w3];exact zg (i+1,true) ⟨by simp only;omega,by simp only;rw[hfr];rfl⟩ id (by simp only;omega) gM
   |false=>
    repeat' first|refine gG ?_|exact gD|refine gB ?_ ?_<;>intro h|(refine gI T (zl J) ?_)
    refine zlF rfl 7 rfl (LeS.bq (b':=decide (x.bo=1099511627776)) rfl) ?_;rw[w1,w2,w3];exact zg (i+1,decide (x.bo=1099511627776)) ⟨by simp only;omega,by simp only;rw[hfr];rfl⟩ id (by simp only;omega) gM
  ·have hik:i=k:=by have:=um h;omega
   clear h;subst hik;have hA:=vz (sumE (·.ac) (l.take i));have U:=vz (if b=true then 1099511627776 else sumE (·.bo) (l.take i))
   have htp:zj5 l i=if(!bdB (sumE (·.ac) (l.take i))|| !bdB (if b=true then 1099511627776 else sumE (·.bo) (l.take i)))=true then(zE,5)else(⟨sumE (·.ac) (l.take i),x0.be,xn.af,if b=true then 1099511627776 else sumE (·.bo) (l.take i)⟩,0):=by
    unfold zj5;rw[<-hb,uu hk,hx0,hxn];rfl
   rw[htp];clear htp hb hbd;generalize sumE (·.ac) (l.take i)=A at hA⊢;generalize sumE (·.bo) (l.take i)=B at U⊢;cases b with
   |true=>
    replace U:zh Tryz.prog 38 [I 1099511627776] [] (.bq (bdB 1099511627776)) []:=U
    rw[show(if true=true then(1099511627776:Int)else B)=1099511627776 from rfl];cases hu:bdB A<;>rw[hu]at hA<;>cases hv:bdB 1099511627776<;>rw[hv]at U
    all_goals
     repeat' first|refine gG ?_|exact gD|refine gB ?_ ?_<;>intro h|refine ze ?_|refine gC hA ?_|refine gC U ?_
     exact gF
   |false=>
    replace U:zh Tryz.prog 38 [I B] [] (.bq (bdB B)) []:=U
    rw[show(if false=true then(1099511627776:Int)else B)=B from rfl];cases hu:bdB A<;>rw[hu]at hA<;>cases hv:bdB B<;>rw[hv]at U
    all_goals
     repeat' first|refine gG ?_|exact gD|refine gB ?_ ?_<;>intro h|refine ze ?_|refine gC hA ?_|refine gC U ?_
     exact gF
theorem xZ(n:Int):zh Tryz.prog 39 [I n] [] (.bq (bdB n)) []:=by
 unfold bdB;refine gO T Tryz.func39 λC hC=>?_
 repeat' first|refine gG ?_|refine gB ?_ ?_<;>intro h|refine gQ ?_|refine gL ?_
 all_goals (try simp only[uk]at*)
 all_goals first
  |rfl
  |(simp;done)
  |(simp_all;done)
  |(simp_all;omega)
  |(intros;simp_all<;>omega)
theorem zi4(l:List EnT):zh Tryz.prog 16 [pS (enL l)] [] (.bq (!l.any yN)) []:=by
 refine gO T Tryz.func16 λC hC=>?_;refine wJ 0 rfl λJ=>?_;rw[uk]at J
 repeat' first|refine gG ?_|refine gB ?_ ?_<;>intro h
 refine zn (λi:Nat=>i<=l.length/\(l.take i).any yN=false) (λi=>([(0,pS (enL l)),(3,I i)],[])) (λi=>l.length - i) hC
  0 ⟨uz _,ue⟩ id gM ?_
 rintro i ⟨hi,U⟩;refine zq T hC true 200 rfl ?_;refine zt rfl ?_ ?_<;>intro h
 ·have hlt:i<l.length:=by simpa using h
  clear h;obtain⟨x,hx⟩:=zd hlt;have h1:=xZ x.ac;have h2:=xZ x.be;have h3:=xZ x.af;have h4:=xZ x.bo;have hs:(l.take (i+1)).any yN=yN x:=by rw[yd hx,oJ,U];simp
  have w1:IntKind.i64.wrap ((i:Int)+1)=((i+1:Nat):Int):=by rw[wrap64 ua];omega
  cases hw:yN x with
  |true=>
   have ha:l.any yN=true:=List.any_eq_true.2 ⟨x,List.mem_of_getElem? hx,hw⟩;rw[ha];unfold yN at hw;generalize bdB x.ac=b1 at*;generalize bdB x.be=b2 at*;generalize bdB x.af=b3 at*;generalize bdB x.bo=b4 at*
   repeat' first|refine gG ?_|refine gB ?_ ?_<;>intro h|(refine gI T (zl hx) ?_)|refine gC h1 ?_|refine gC h2 ?_|refine gC h3 ?_|refine gC h4 ?_|refine zo ?_
   all_goals first
    |exact zi ⟨.inl rfl,id,_,rfl,LeS.qb rfl,trivial,rfl,rfl⟩
    |(exfalso;clear U ha hs w1;simp_all;done)
  |false=>
   rw[hw]at hs;unfold yN at hw;generalize bdB x.ac=b1 at*;generalize bdB x.be=b2 at*;generalize bdB x.af=b3 at*;generalize bdB x.bo=b4 at*
   repeat' first|refine gG ?_|refine gB ?_ ?_<;>intro h|(refine gI T (zl hx) ?_)|refine gC h1 ?_|refine gC h2 ?_|refine gC h3 ?_|refine gC h4 ?_|refine zo ?_
   all_goals first
    |(rw[w1];exact zg (i+1) ⟨ua,hs⟩ id ua gM)
    |(exfalso;clear U hs w1;simp_all;done)
 ·have hge: ¬i<l.length:=by simpa using h
  clear h;rw[u5 ua]at U;rw[U]
  repeat' first|refine gG ?_|refine gB ?_ ?_<;>intro h|refine ze ?_
  exact zi ⟨.inl rfl,id,_,rfl,LeS.qb rfl,trivial,rfl,rfl⟩
theorem zmq{l:List EnT}(h:l[i]?=some x)(U:j7 x=true)(hn: ∀j y,j<i->l[j]?=some y->j7 y=false):l.findIdx? j7=some i:=by
 rw[tN];obtain⟨J,he⟩:=uw.1 h;refine⟨J,by rw[he];exact U,λj hj=>?_⟩;rw[hn j _ hj (ta ua)];simp
theorem zpp{l:List EnT}(U: ∀j y,j<l.length->l[j]?=some y->j7 y=false):l.findIdx? j7=none:=by
 rw[qF];intro y hy;obtain⟨j,J⟩:=qU hy;exact U j y (uw.1 J).1 J
theorem zi5{l:List EnT}(hl:l.length<=1000000)(hv:l.any yN=false):zh Tryz.prog 17 [pS (enL l)] [] (I (idxI (l.findIdx? j7))) []:=by
 have hvl: ∀x∈l,yN x=false:=λx J=>by have:=List.any_eq_false.1 hv x J;simpa using this
 clear hv;refine gO T Tryz.func17 λC hC=>?_
 repeat' first|refine gG ?_|refine gB ?_ ?_<;>intro h
 refine zn (λi:Nat=>i<=l.length/\ ∀j y,j<i->l[j]?=some y->j7 y=false) (λi=>([(0,pS (enL l)),(3,I i)],[])) (λi=>l.length - i) hC
  0 ⟨uz _,λj y hj=>absurd hj (oc _)⟩ id gM ?_
 rintro i ⟨hi,U⟩;refine zq T hC true 200 rfl ?_;refine zt rfl ?_ ?_<;>intro h
 ·have hlt:i<l.length:=by simpa using h
  clear h;obtain⟨x,J⟩:=zd hlt;have hb:=jK (hvl x (List.mem_of_getElem? J));have w1:IntKind.i64.wrap (x.ac+x.af)=x.ac+x.af:=wrap64 ua;have w2:IntKind.i64.wrap (x.ac+x.af - x.be)=x.ac+x.af - x.be:=wrap64 ua;have w3:IntKind.i64.wrap ((i:Int)+1)=((i+1:Nat):Int):=by rw[wrap64 ua];omega
  cases hq:j7 x with
  |true=>
   rw[zmq J hq U];simp only[idxI];unfold j7 at hq;simp only[uo,ux,uq,ur]at hq
   repeat' first|refine gG ?_|(exfalso;rw[w1,w2]at h;have h9:=um h;omega)|(exfalso;simp[hq.1]at h;done)|refine gB ?_ ?_<;>intro h|(refine gI T (zl J) ?_)|refine zo ?_
   all_goals first
    |exact gF
    |(exfalso;clear U;simp_all;done)
    |(exfalso;clear U;simp_all;omega)
  |false=>
   have hq':=hq;unfold j7 at hq;simp only[qO,uG,uq,ur]at hq
   repeat' first|refine gG ?_|(exfalso;rw[w1,w2]at h;have h9:=uj h;omega)|refine gB ?_ ?_<;>intro h|(refine gI T (zl J) ?_)|refine zo ?_
   all_goals first
    |(rw[w3];exact zg (i+1) ⟨ua,λj y hj hy=>(q7.1 hj).elim (λh1=>U j y h1 hy) (λe=>by subst e;rw[J]at hy;cases hy;exact hq')⟩ id ua gM)
    |(exfalso;clear U;simp_all;done)
    |(exfalso;clear U;simp_all;omega)
 ·have hge: ¬i<l.length:=by simpa using h
  clear h;rw[zpp λj y hj=>U j y ua];simp only[idxI]
  repeat' first|refine gG ?_|refine gB ?_ ?_<;>intro h|refine ze ?_
  exact gF
theorem zi6{l:List EnT}(hl:l.length<=1000000)(hv:l.any yN=false){k:Nat}(hkl:k<=l.length):zh Tryz.prog 18 [pS (enL l),I k] [] (.tup [zF (enR (zj5 l k).1),I (zj5 l k).2]) []:=by
 have hvl: ∀x∈l,yN x=false:=λx J=>by have:=List.any_eq_false.1 hv x J;simpa using this
 clear hv
 have hbd: ∀i,i<=k->(-1099511627776000000<=sumE (·.ac) (l.take i)/\sumE (·.ac) (l.take i)<=1099511627776000000)/\ -1099511627776000000<=sumE (·.bo) (l.take i)/\sumE (·.bo) (l.take i)<=1099511627776000000:=λi hi=>by
  have h1:=zcz (·.ac) (l.take i) λx J=>by
   have:=jK (hvl x (qj J));unfold inB;omega
  have h2:=zcz (·.bo) (l.take i) λx J=>by
   have:=jK (hvl x (qj J));unfold inB;omega
  rw[td]at h1 h2;omega
 refine gO T Tryz.func18 λC hC=>?_
 repeat' first|refine gG ?_|refine gB ?_ ?_<;>intro h
 refine zn (λq:Nat×Bool=>q.1<=k/\q.2=zpo (l.take q.1)) (λq=>([(0,pS (enL l)),(1,I k),(4,.one (.bx 1004 0)),(6,.one (.bx 1006 0)),(7,boS q.2),(8,I q.1)],
  [(1004,some (.box ((enR zE).map V.p))),(1006,some (.box [.p (ki (sumE (·.ac) (l.take q.1))),.p (ki 0),.p (ki 0),.p (ki (sumE (·.bo) (l.take q.1)))]))])) (λq=>k - q.1) hC
  (0,false) ⟨uz _,rfl⟩ id gM ?_
 rintro⟨i,b⟩ ⟨hi,hb⟩;simp only at hi hb
 change Goal _ _ _ _ _ [(0,pS (enL l)),(1,I (k:Int)),(4,.one (.bx 1004 0)),(6,.one (.bx 1006 0)),(7,boS b),(8,I (i:Int))]
  [(1004,some (.box ((enR zE).map V.p))),(1006,some (.box [.p (ki (sumE (·.ac) (l.take i))),.p (ki 0),.p (ki 0),.p (ki (sumE (·.bo) (l.take i)))]))] _
 refine zq T hC true 200 rfl ?_;refine zt rfl ?_ ?_<;>intro h
 ·have hlt:i<k:=by have:=uj h;omega
  clear h;obtain⟨x,J⟩:=zd (l:=l) (i:=i) ua;have h1:=hbd i hi;have h3:=hbd (i+1) ua;have s1:=zaM (·.ac) J;have s2:=zaM (·.bo) J
  try simp only at s1 s2
  have w1:IntKind.i64.wrap (sumE (·.ac) (l.take i)+x.ac)=sumE (·.ac) (l.take (i+1)):=by rw[<-s1];exact wrap64 ua
  have w2:IntKind.i64.wrap (sumE (·.bo) (l.take i)+x.bo)=sumE (·.bo) (l.take (i+1)):=by rw[<-s2];exact wrap64 ua
  have hfr:=zfU J;rw[<-hb]at hfr;have w3:IntKind.i64.wrap ((i:Int)+1)=((i+1:Nat):Int):=by rw[wrap64 ua];omega
  cases b with
  |true=>
   repeat' first|refine gG ?_|exact gD|refine gB ?_ ?_<;>intro h|(refine gI T (zl J) ?_)
   rw[w1,w2,w3];exact zg (i+1,true) ⟨by simp only;omega,by simp only;rw[hfr];rfl⟩ id (by simp only;omega) gM
  |false=>
   repeat' first|refine gG ?_|exact gD|refine gB ?_ ?_<;>intro h|(refine gI T (zl J) ?_)
   refine zlF rfl 7 rfl (LeS.bq (b':=decide (x.bo=1099511627776)) rfl) ?_;rw[w1,w2,w3];exact zg (i+1,decide (x.bo=1099511627776)) ⟨by simp only;omega,by simp only;rw[hfr];rfl⟩ id (by simp only;omega) gM
 ·have hik:i=k:=by have:=um h;omega
  clear h;subst hik;by_cases hk:i=0
  ·subst hk;have hz:zj5 l 0=(zE,0):=by unfold zj5;simp[sumE,zpo,bdB]
   rw[hz];have U:=xZ 0;rw[show bdB 0=true from rfl]at U;have hbf:b=false:=hb;subst hbf
   replace U:zh Tryz.prog 39 [I 0] [] (.bq true) []:=U
   change Goal _ _ _ _ _ _ ((1004,some (.box ((enR zE).map V.p)))::(1006,some (.box [.p (ki 0),.p (ki 0),.p (ki 0),.p (ki 0)]))::[]) _
   repeat' first|refine gG ?_|exact gD|refine gB ?_ ?_<;>intro h|refine ze ?_|refine gC U ?_
   exact gF
  obtain⟨x0,hx0⟩:=zd (l:=l) (i:=0) ua;obtain⟨xn,hxn⟩:=zd (l:=l) (i:=i - 1) ua;have wk:IntKind.i64.wrap ((i:Int) - 1)=((i - 1:Nat):Int):=by rw[wrap64 ua];omega
  have U:=xZ (sumE (·.ac) (l.take i));have hB:=xZ (if b=true then 1099511627776 else sumE (·.bo) (l.take i))
  have htp:zj5 l i=if(!bdB (sumE (·.ac) (l.take i))|| !bdB (if b=true then 1099511627776 else sumE (·.bo) (l.take i)))=true then(zE,5)else(⟨sumE (·.ac) (l.take i),x0.be,xn.af,if b=true then 1099511627776 else sumE (·.bo) (l.take i)⟩,0):=by
   unfold zj5;rw[<-hb,uu hk,hx0,hxn];rfl
  rw[htp];clear htp hb hbd;generalize sumE (·.ac) (l.take i)=A at U⊢;generalize sumE (·.bo) (l.take i)=B at hB⊢;cases b with
  |true=>
   replace hB:zh Tryz.prog 39 [I 1099511627776] [] (.bq (bdB 1099511627776)) []:=hB
   rw[show(if true=true then(1099511627776:Int)else B)=1099511627776 from rfl];cases hu:bdB A<;>rw[hu]at U<;>cases hv:bdB 1099511627776<;>rw[hv]at hB
   all_goals
    repeat' first|refine gG ?_|exact gD|(exfalso;have h9:=um h;omega)|refine gB ?_ ?_<;>intro h|refine ze ?_|refine gC U ?_|refine gC hB ?_|(refine gI T (zhc hx0) ?_)|(rw[wk];refine gI T (zl hxn) ?_)
    exact gF
  |false=>
   replace hB:zh Tryz.prog 39 [I B] [] (.bq (bdB B)) []:=hB
   rw[show(if false=true then(1099511627776:Int)else B)=B from rfl];cases hu:bdB A<;>rw[hu]at U<;>cases hv:bdB B<;>rw[hv]at hB
   all_goals
    repeat' first|refine gG ?_|exact gD|(exfalso;have h9:=um h;omega)|refine gB ?_ ?_<;>intro h|refine ze ?_|refine gC U ?_|refine gC hB ?_|(refine gI T (zhc hx0) ?_)|(rw[wk];refine gI T (zl hxn) ?_)
    exact gF
def NzF(a:Ft):Prop:= ∀f,a=some f-> ¬f.2.2=0
theorem NzF.or{a b:Ft}(J:NzF a)(U:NzF b):NzF (orF a b):=by
 unfold orF;cases a with
 |none=>exact U
 |some f=>exact J
theorem NzF.first{α:Type}{g:α->Nat->Ft}(h: ∀x i,NzF (g x i)): ∀(l:List α) (i:Nat),NzF (firstF g l i)
 | [],_=>λf h=>by cases h
 |x::r,i=>by
  unfold firstF;cases hg:g x i with
  |none=>exact NzF.first h r (i+1)
  |some f=>intro f' e;cases e;exact h x i f hg
theorem zsw(d:zj):NzF (zkb d):=by
 unfold zkb zcs zfB zd8 zct zdj
 repeat' first|apply NzF.or|(apply NzF.first;intro x i)
 all_goals (intro f hf;(try dsimp only at hf);(try simp only[ftE,xt]at hf);repeat' split at hf)
 all_goals first
  |(cases hf;done)
  |(cases hf;exact(by decide: ¬(10:Int)=0))
  |(cases hf;exact(by decide: ¬(9:Int)=0))
  |(cases hf;exact(by decide: ¬(11:Int)=0))
  |(cases hf;assumption)
theorem zvg(h:(zcT d).2.2=0):yx d=true/\zkb d=none:=by
 unfold zcT at h;cases hv:yx d with
 |false=>rw[hv]at h;simp at h
 |true=>
  rw[hv]at h;simp only[ob,uL,zvK]at h;refine⟨rfl,?_⟩;cases hf:zkb d with
  |none=>rfl
  |some f=>rw[hf]at h;exact absurd h (zsw d f hf)
theorem jy(hd:yx d=true)(h:yD d m=true):xI m/\zgU d m:=by
 have hs:=zaL hd;simp only[yD,uo,uq,ux,ur]at h;obtain⟨⟨⟨⟨⟨_,hg⟩,hn⟩,U⟩,_⟩,_⟩:=h;refine⟨⟨by have:=hs.gl;omega,ua,λx hx=>?_⟩,λx hx=>?_⟩
 ·obtain⟨h0,ty,J,hle⟩:=jr (List.all_eq_true.1 U x hx);have:=hs.tyf ty (List.mem_of_getElem? J);omega
 ·obtain⟨h0,ty,J,_⟩:=jr (List.all_eq_true.1 U x hx);exact⟨h0,(uw.1 J).1⟩
theorem zpq{t:yn}(h:t∈d.types):xN d t.n=true:=by
 unfold xN ztk;rw[List.find?_isSome];exact⟨t,h,ue⟩
theorem zpr(hw:zgU d m){n:Int}(h:isB m n=true):tyI d m n=(⟨#[]⟩:UH)\/xN d (tyI d m n)=true:=by
 unfold isB at h;simp only[uo,uq]at h;unfold tyI;by_cases J:n=0
 ·rw[uv J];exact .inl rfl
 ·rw[uu J];obtain⟨x,U⟩:=zd (l:=m.n) (i:=(n - 1).toNat) ua;obtain⟨h1,h2⟩:=hw x (List.mem_of_getElem? U);obtain⟨y,hy⟩:=zd h2;rw[show tyN d (ndG m n).t=y.n by simp only[ndG,U,Option.getD_some,tyN,hy,uO]];exact .inr (zpq (List.mem_of_getElem? hy))
theorem zmr(U:xI m)(g:Nat)(nd:Int)(e:Ex)(k:Kn):
 FnX Tryz.prog 95 [.one (.bx 5 0),.one (.bx 6 0),.one (.bx 7 0)] (imR d m k 0 1 2++clX e nd) (tEE d m e nd (inV d m g nd e k)):=by
 have J:=(zhb d m U g).1 nd e k;cases hr:inV d m g nd e k with
 |out=>trivial
 |ok v k1=>
  rw[hr]at J;have J:zh _ _ _ _ _ _:=J;show zh _ _ _ _ _ _;refine gO T Tryz.func95 λC hC=>?_
  repeat' first|refine gG ?_|refine gB ?_ ?_<;>intro h|refine gR J (nm [0,1,2]) ?_
  exact gE
 |flt er k1=>
  rw[hr]at J;have J:ya _ _ _ _ _ _:=J;show ya _ _ _ _ _ _;refine zX T Tryz.func95 ud rfl rfl rfl λC hC=>?_
  repeat' first|refine gG ?_|refine gB ?_ ?_<;>intro h|(refine zr hC J (nm [0,1,2]) rfl rfl (zH.refl _) rfl rfl rfl rfl rfl rfl ?_)
  exact gU (zi ⟨rfl,id,⟨rfl,rfl,rfl,rfl,rfl,rfl,uh⟩,rfl,rfl⟩)
theorem zms(U:xI m)(g:Nat)(nd:Int)(i:Nat)(k:Kn):
 FnX Tryz.prog 258 [.one (.bx 5 0),.one (.bx 6 0),.one (.bx 7 0)] (imR d m k 0 1 2++clK i nd) (tKE d m i nd (meV d m g i nd k)):=by
 have J:=(zhb d m U g).2.2 i nd k;cases hr:meV d m g i nd k with
 |out=>trivial
 |ok v k1=>
  rw[hr]at J;have J:zh _ _ _ _ _ _:=J;show zh _ _ _ _ _ _;refine gO T Tryz.func258 λC hC=>?_
  repeat' first|refine gG ?_|refine gB ?_ ?_<;>intro h|refine gR J (nm [0,1,2]) ?_
  exact gE
 |flt er k1=>
  rw[hr]at J;have J:ya _ _ _ _ _ _:=J;show ya _ _ _ _ _ _;refine zX T Tryz.func258 ud rfl rfl rfl λC hC=>?_
  repeat' first|refine gG ?_|refine gB ?_ ?_<;>intro h|(refine zr hC J (nm [0,1,2]) rfl rfl (zH.refl _) rfl rfl rfl rfl rfl rfl ?_)
  exact gU (zi ⟨rfl,id,⟨rfl,rfl,rfl,rfl,rfl,rfl,uh⟩,rfl,rfl⟩)
theorem zsx(h:zcI d m=false):(zcT d).2.2≠0\/yD d m=false:=by
 unfold zcI at h;simp only[qO,ur]at h;exact h
theorem jD(h:zcI d m=true):(zcT d).2.2=0/\yD d m=true:=by
 unfold zcI at h;simp only[uo,uq]at h;exact h
variable {g:Nat}
theorem ziC{e:Ex}{v er:Int}(h:zvR d m g e nd=some (v,er)):zh Tryz.prog 55 [zF (zJ d),zF (xP m),zF (ye e),I nd] [] (.tup [I v,I er]) []:=by
 unfold zvR at h;cases h1:zcI d m with
 |false=>
  rw[uv (.inl h1)]at h;cases h;have U:=zpd (zsx h1);refine gO T Tryz.func55 λC hC=>?_
  repeat' first|refine gG ?_|exact gD|refine gB ?_ ?_<;>intro h|refine gC U ?_|refine ze ?_
  exact gF
 |true=>
  obtain⟨hc,hv⟩:=jD h1;obtain⟨hd,hf⟩:=zvg hc;obtain⟨hs,hw⟩:=jy hd hv;have U:=zmf hc hv;have hE:=yY e;cases h2:xi e with
  |false=>
   rw[uv (.inr h2)]at h;cases h;rw[h2]at hE;refine gO T Tryz.func55 λC hC=>?_
   repeat' first|refine gG ?_|exact gD|refine gB ?_ ?_<;>intro h|refine gR U (nm [100,101,102]) ?_|refine gC hE ?_|refine ze ?_
   exact gF
  |true=>
   rw[uu (by simp[h1,h2])]at h;rw[h2]at hE;have hI:=zqC d m kn0 nd;cases h3:isB m nd with
   |false=>
    rw[uv h3]at h;cases h;rw[h3]at hI;refine gO T Tryz.func55 λC hC=>?_
    repeat' first|refine gG ?_|exact gD|refine gB ?_ ?_<;>intro h|refine gR U (nm [100,101,102]) ?_|refine gC hE ?_|refine gR hI (nm [100,101,102]) ?_|refine ze ?_
    exact gF
   |true=>
    rw[uu (by simp[h3])]at h;rw[h3]at hI;have hT:=zmi hs hw kn0 h3;have J:=zg8 hd hf (tyI d m nd) e h2 (zpr hw h3);generalize exT d (zd9 d (tyI d m nd)) false e=q at h J;obtain⟨q1,q2⟩:=q;simp only at h J;by_cases h4:q2=0
    ·subst h4;rw[uu ue]at h;cases ht:trV (inV d m g nd e kn0)with
     |none=>rw[ht]at h;cases h
     |some w=>
      obtain⟨v1,e1,k1⟩:=w;rw[ht]at h;cases h;have hX:=zsu (zmr hs g nd e kn0) ht;refine gO T Tryz.func55 λC hC=>?_
      repeat' first|refine gG ?_|exact gD|refine gB ?_ ?_<;>intro h|refine gR U (nm [100,101,102]) ?_|refine gC hE ?_|refine gR hI (nm [100,101,102]) ?_|refine gK hT (nm [100,101,102]) ?_|refine gC J ?_|refine gR hX (nm [100,101,102,3,4,1010,1006,1007]) ?_|refine ze ?_
      exact gF
    ·rw[uv h4]at h;cases h;refine gO T Tryz.func55 λC hC=>?_
     repeat' first|refine gG ?_|(exfalso;simp[h4]at h;done)|exact gD|refine gB ?_ ?_<;>intro h|refine gR U (nm [100,101,102]) ?_|refine gC hE ?_|refine gR hI (nm [100,101,102]) ?_|refine gK hT (nm [100,101,102]) ?_|refine gC J ?_|refine ze ?_
     exact gF
theorem zps(h1:zcI d m=true){s:Str}{v er:Int}(h:zvf d m g s nd=some (v,er)):zh Tryz.prog 227 [zF (zJ d),zF (xP m),Sr s,I nd] [] (.tup [I v,I er]) []:=by
 unfold zvf at h;obtain⟨hc,hv⟩:=jD h1;obtain⟨hd,hf⟩:=zvg hc;obtain⟨hs,hw⟩:=jy hd hv;have hM:=zmf hc hv;have U:=zqC d m kn0 nd;cases h3:isB m nd with
 |false=>
  rw[uv h3]at h;cases h;rw[h3]at U;refine gO T Tryz.func227 λC hC=>?_
  repeat' first|refine gG ?_|exact gD|refine gB ?_ ?_<;>intro h|refine gR hM (nm [100,101,102]) ?_|refine gR U (nm [100,101,102]) ?_|refine ze ?_
  exact gF
 |true=>
  rw[uu (by simp[h3])]at h;rw[h3]at U;have J:=zfO d m kn0 s;have hT:=zmi hs hw kn0 h3;cases hi:zuf d s with
  |none=>
   rw[hi]at h J;cases h;simp only[idxI]at J;refine gO T Tryz.func227 λC hC=>?_
   repeat' first|refine gG ?_|exact gD|refine gB ?_ ?_<;>intro h|refine gR hM (nm [100,101,102]) ?_|refine gR U (nm [100,101,102]) ?_|refine gR J (nm [100,101,102]) ?_|refine ze ?_
   exact gF
  |some i=>
   rw[hi]at h J;simp only[idxI]at J;cases hx:d.measures[i]? with
   |none=>simp only[hx]at h;cases h
   |some x=>
    simp only[hx]at h;by_cases h4: ¬nd=0/\ ¬tyI d m nd=x.t
    ·rw[uv h4]at h;cases h;refine gO T Tryz.func227 λC hC=>?_
     repeat' first|refine gG ?_|exact gD|(exfalso;have h9:=uj h;omega)|(exfalso;simp[h4.1,h4.2]at h;done)|refine gB ?_ ?_<;>intro h|refine gR hM (nm [100,101,102]) ?_|refine gR U (nm [100,101,102]) ?_|refine gR J (nm [100,101,102]) ?_|refine gK hT (nm [100,101,102]) ?_|(refine gI T (zl hx) ?_)|refine ze ?_
     exact gF
    ·rw[uu h4]at h;cases ht:trV (meV d m g i nd kn0)with
     |none=>rw[ht]at h;cases h
     |some w=>
      obtain⟨v1,e1,k1⟩:=w;rw[ht]at h;cases h;have hX:=zsv (zms hs g nd i kn0) ht;refine gO T Tryz.func227 λC hC=>?_
      repeat' first|refine gG ?_|exact gD|(exfalso;have h9:=uj h;omega)|(exfalso;simp at h;simp_all;done)|refine gB ?_ ?_<;>intro h|refine gR hM (nm [100,101,102]) ?_|refine gR U (nm [100,101,102]) ?_|refine gR J (nm [100,101,102]) ?_|refine gK hT (nm [100,101,102]) ?_|(refine gI T (zl hx) ?_)|refine gR hX (nm [100,101,102,3,4,1010,1012,1007]) ?_|refine ze ?_
      all_goals exact gF
end Hw.Gm
namespace Hw
open Go
theorem ziD{M:Mem}{g:Nat->Option Value}{z:Value}(J:z.oneCell'=true): ∀(m o:Nat),(∀j,j<m->g (o+j)=some z)->RowsIn M g 1 (List.replicate m [PV.k z]) o
 |0,_,_=>by simp[RowsIn]
 |m+1,o,h=>by
  rw[qv];simp only[RowsIn,RowIn,RepPV,uD,Ub];refine⟨⟨⟨z,h 0 ua,rfl,J⟩,uh⟩,ziD J m (o+1) λj hj=>?_⟩;have:=h (j+1) ua;rwa [show o+1+j=o+(j+1) by omega]
variable {P:Program}{af:Array Edge}{d:Option Nat}{el:TypeId}{ps:String}{rows:List (List PV)}{x:Operand}{z:Value}
section
variable {ty:TypeId} {g:Option (Nat×Bool)} {t:TypeId}
theorem zmt{id k m:Nat}(hx:okc x (.one (.sv id (k*1) m)))(he:elemSz P t=some (el,1))(hz: ∀w,(zeroValue el).run P w= .ok z w)(hzc:z.cells= #[z])(h1:z.oneCell'=true)(hkm:k+m<=rows.length):
 Snd P ⟨d,.call ⟨.builtin .clear,#[x],#[t]⟩,ty,ps,af,g⟩ (rq x (.one (.sv id (k*1) m))) [(id,.arr 1 rows)] [] .un [(id,some (.arr 1 (rows.take k++List.replicate m [PV.k z]++rows.drop (k+m))))]:=by
 intro C st M ρ a w hH hs1 hT hF hd q Q hk;have e1:=hH.evS (zz hx hs1);simp only[RepS,RepV]at e1;obtain⟨ii,hu,hinf,hsz⟩:=zy he;obtain⟨ad,cap,h3,h4,h5,h6⟩:=hH.zP.res id _ hT.1;by_cases h0:m=0
 ·subst h0;have hrow:rows.take k++List.replicate 0 [.k z]++rows.drop (k+0)=rows:=by simp
  rw[hrow]at hk
  obtain⟨ad3,c3,hv⟩: ∃(ad3:Option Addr) (c3:Nat),a.eval x= .slice ad3 0 c3:=by
   rcases e1 with⟨_,ad,c,h⟩|⟨b,o,N,cap,c,_,h2,_,_⟩
   ·exact⟨ad,c,h⟩
   ·exact⟨_,c,h2⟩
  have U:(execOp a.eval ⟨d,.call ⟨.builtin .clear,#[x],#[t]⟩,ty,ps,af,g⟩).run P w= .ok (.value (.tuple #[])) w:=by
   cases ad3 with
   |none=>simp[execOp,resolve,invoke,builtin,Builtin.clear_,run_underlying hu,hv]
   |some b=>simp[execOp,resolve,invoke,builtin,Builtin.clear_,run_underlying hu,hv]
  unfold Oper.wp;rw[U,Oper.upon_value];exact hk _ _ M ρ (hH.turn hT.1 (λk _=>rfl) (uF _) rfl rfl rfl ⟨ad,cap,h3,h4,h5,h6⟩ (by simp only[RepS]) hd)
 ·obtain⟨b,o,N,cp,c3,hid,hv,_,_⟩:=e1.resolve_left λh=>h0 h.1
  have h3':=h3;rw[hid]at h3;simp only[Value.slice.injEq]at h3;rcases h6 with⟨h6,_⟩|⟨b',o',cs,el',fz,h6,h7,h7',h8,h9⟩
  ·rw[h6]at h3;cases h3.1
  ·rw[h6]at h3;have hbo:b=b'/\o=o':=by have:=h3.1;simp at this;exact this
   obtain⟨rfl,rfl⟩:=hbo;have hst:=z7 (P:=P) b (o+k*1) el' fz (List.replicate m z) 0 cs w h7 h7' (by simp only[tE];omega) (λv hv=>by rw[oX hv];exact h1)
   have hzl:(Builtin.zeroCells z.cells m).toList=List.replicate m z:=by
    rw[hzc];simp[Builtin.zeroCells]
    apply List.ext_getElem
    ·simp
    ·intro i h1 h2;simp[Nat.mod_one]
   have U:(execOp a.eval ⟨d,.call ⟨.builtin .clear,#[x],#[t]⟩,ty,ps,af,g⟩).run P w= .ok (.value (.tuple #[])) (w.setRow b (setAt cs.toList (o+k*1) (List.replicate m z)).toArray):=by
    rw[tY]at hst;obtain⟨m',rfl⟩: ∃m',m=m'+1:=⟨m - 1,ua⟩;simp[execOp,resolve,invoke,builtin,Builtin.clear_,run_underlying hu,hv,hz,hzl];simp only[Nat.mul_one]at hst;rw[hst];rfl
   unfold Oper.wp;rw[U,Oper.upon_value];have hcsl:o+k*1+(List.replicate m z).length<=cs.toList.length:=by simp only[tE,tV];omega
   have hnew:RowsIn M (λq=>(setAt cs.toList (o+k*1) (List.replicate m z))[q]?) 1 (rows.take k++List.replicate m [PV.k z]++rows.drop (k+m)) o:=by
    have J: ∀q:Nat,(λq:Nat=>(setAt cs.toList (o+k*1) (List.replicate m z))[q]?) q=if q<o+k*1 then cs[q]? else if q<o+k*1+m then(List.replicate m z)[q - (o+k*1)]? else cs[q]?:=λq=>by
     simp only[];rw[yQ _ _ _ _ (by simp only[tE,tV];omega)];simp
    generalize (λq:Nat=>(setAt cs.toList (o+k*1) (List.replicate m z))[q]?)=g' at J⊢;have htl:(rows.take k).length=k:=by rw[td];omega
    refine RowsIn.append (RowsIn.append (RowsIn.congr (λq hq=>?_) (h9.take k)) ?_) ?_
    ·rw[htl]at hq;rw[J,uv ua]
    ·rw[htl];refine ziD h1 m _ λj hj=>?_;rw[J,uu ua,uv ua,show o+k*1+j - (o+k*1)=j by omega,List.getElem?_replicate,uv hj]
    ·rw[uC,htl,tE];refine RowsIn.congr (λq hq=>?_) (h9.drop (k+m));rw[J,uu ua,uu ua]
   have hlen:(rows.take k++List.replicate m [PV.k z]++rows.drop (k+m)).length=rows.length:=by
    simp only[uC,td,tP,tE];omega
   have hsize:(setAt cs.toList (o+k*1) (List.replicate m z)).toArray.size=cs.size:=by rw[tQ,yC _ _ _ hcsl,tV]
   refine hk _ _ M ρ (hH.turn hT.1 (λk' hk'=>setRow_other w b k' _ (λe'=>hk' (by simp[h3',h6,Bk,blk,e']))) ue rfl rfl rfl
    ⟨ad,cap,by rw[hlen];exact h3',by rw[hlen];exact h4,h5,.inr ⟨b,o,_,el',fz,h6,setRow_heap w b _ _ el' _ h7,?_,?_,?_⟩⟩ (by simp only[RepS]) hd)
   ·rw[hsize];exact h7'
   ·rw[hsize];exact h8
   ·simpa using hnew
end
section
variable {C:Ctx} {k:List Frm} {n:Nat} {sl:zf} {tab:Tab} {Q:Exit->St->Prop} {all:Array Oper} {rest:List Oper}
theorem zmu{t ty:TypeId}{g0:Option (Nat×Bool)}{gs:zf}{md:Mode}(hC:C.low){id kk m:Nat}(rows3:List (List PV))
 (hx:ev sl x=some (.one (.sv id (kk*1) m))) (hT:tg tab id=some (.arr 1 rows)) (he:elemSz P t=some (el,1)) (hz: ∀w,(zeroValue el).run P w= .ok z w) (J:z.cells= #[z]) (h1:z.oneCell'=true) (U:kk+m<=rows.length)
 (h3:rows.take kk++List.replicate m [PV.k z]++rows.drop (kk+m)=rows3) (hm:metL all sl g0=some gs) (hd:dok d n=true)
 (g:Goal P C (.ops all rest (nx md ⟨d,gs++rq x (.one (.sv id (kk*1) m)),[(id,.arr 1 rows)],[],.un,[(id,some (.arr 1 rows3))]⟩)) k n (app d .un [(id,some (.arr 1 rows3))] ⟨n,sl,tab⟩).sl ((id,some (.arr 1 rows3))::tab) Q):
 Goal P C (.ops all (⟨d,.call ⟨.builtin .clear,#[x],#[t]⟩,ty,ps,af,g0⟩::rest) md) k n sl tab Q:=by
 subst h3;have e1:=zB (st:=⟨n,sl,tab⟩) hx;have:=zk hm (zmt (P:=P) (d:=d) (ty:=ty) (ps:=ps) (af:=af) (g:=g0) e1.1 he hz J h1 U) (n:=n) (tab:=tab);exact zT (L:=⟨d,gs++rq x (.one (.sv id (kk*1) m)),[(id,.arr 1 rows)],[],.un,[(id,some (.arr 1 (rows.take kk++List.replicate m [PV.k z]++rows.drop (kk+m))))]⟩) hC this.1 rfl ⟨by rw[za];exact⟨this.2,e1.2⟩,⟨hT,uh⟩,rfl,hd⟩ g
end
end Hw
namespace Hw.Gm
open Go Go.Proofs Hw.M Ps
abbrev ptB(d:zj)(m:Hp)(p:Pt)(a b c:Nat):RL:=[(a,.box ((zJ d).map V.p)),(b,.box ((xP m).map V.p)),(c,.box ((zc5 p).map V.p))]
def ziE(d:zj)(m:Hp)(p:Pt)(k:Int):Bool:= !decide (tyN d (ndG m k).t=p.t)
def zvh(m:Hp)(k:Int):Prop:=1<=k/\k<=m.n.length
variable {d:zj}{m:Hp}
theorem zmv(hs:xI m)(hw:zgU d m)(p:Pt){k:Int}(hk:zvh m k):zh Tryz.prog 54 [I k,.one (.bx 0 0),.one (.bx 1 0),.one (.bx 2 0)] (ptB d m p 0 1 2) (.bq (ziE d m p k)) (ptB d m p 0 1 2):=by
 have hn:=hs.n;obtain⟨k1,k2⟩:=hk;obtain⟨x,J⟩:=zd (l:=m.n) (i:=(k - 1).toNat) ua;obtain⟨h1,h2⟩:=hw x (List.mem_of_getElem? J);obtain⟨y,hy⟩:=zd h2;have U:IntKind.i64.wrap (k - 1)=k - 1:=wrap64 ua;have hof:ziE d m p k= !decide (y.n=p.t):=by simp only[ziE,ndG,J,Option.getD_some,tyN,hy,uO]
 rw[hof];refine gO T Tryz.func54 λC hC=>?_
 repeat' first|refine gG ?_|refine gB ?_ ?_<;>intro h|(rw[U];refine gI T (yZ J) ?_)|(refine xz T hC rfl rfl rfl h1 (yZ hy) rfl rfl ?_)|refine ze ?_
 exact gE
abbrev ptC:S:= .one (.cl 54 [] [.bx 5 0,.bx 6 0,.bx 7 0])
abbrev ptR(d:zj)(m:Hp)(p:Pt)(l:List Int):RL:=(0,.arr 1 (l.map yk))::ptB d m p 5 6 7
abbrev ptT(d:zj)(m:Hp)(p:Pt)(l:List Int):Tab:=[(0,some (.arr 1 (l.map yk))),(5,some (.box ((zJ d).map V.p))),(6,some (.box ((xP m).map V.p))),(7,some (.box ((zc5 p).map V.p)))]
variable {i:Nat}{q:Int->Bool}{x:Int}
theorem zhd{l:List Int}(h:l[i]?=some x)(U:q x=true)(hn: ∀j y,j<i->l[j]?=some y->q y=false):l.findIdx? q=some i:=by
 rw[tN];obtain⟨J,he⟩:=uw.1 h;refine⟨J,by rw[he];exact U,λj hj=>?_⟩;rw[hn j _ hj (ta ua)];simp
theorem zjA{l:List Int}(U: ∀j y,j<l.length->l[j]?=some y->q y=false):l.findIdx? q=none:=by
 rw[qF];intro y hy;obtain⟨j,J⟩:=qU hy;exact U j y (uw.1 J).1 J
theorem zsy(hs:xI m)(hw:zgU d m)(p:Pt){l:List Int}(hl: ∀x∈l,zvh m x):
 zh Tryz.prog 88 [.one (.ar 0),ptC] (ptR d m p l) (I (idxI (l.findIdx? (ziE d m p)))) (ptR d m p l):=by
 have J:(l.map yk).length=l.length:=uk _;refine gO T Tryz.func88 λC hC=>?_;refine zls 0 rfl rfl λU=>?_;rw[J]at U
 repeat' first|refine gG ?_|refine gB ?_ ?_<;>intro h
 refine zn (λi:Nat=>i<=l.length/\ ∀j y,j<i->l[j]?=some y->ziE d m p y=false) (λi=>([(0,.one (.ar 0)),(1,ptC),(7,I l.length),(8,I i)],ptT d m p l)) (λi=>l.length - i) hC
  0 ⟨uz _,λj y hj=>absurd hj (oc _)⟩ id ⟨rfl,⟨rfl,rfl,by rw[<-J];rfl,rfl,uh⟩,⟨rfl,rfl,rfl,rfl,uh⟩,rfl,λ_ _=>rfl⟩ ?_
 rintro i ⟨hi,hn⟩;refine zq T hC true 200 rfl ?_;refine zt rfl ?_ ?_<;>intro h
 ·have hlt:i<l.length:=by simpa using h
  clear h;obtain⟨x,hx⟩:=zd hlt;have hP:=zmv hs hw p (hl x (List.mem_of_getElem? hx));cases hq:ziE d m p x with
  |true=>
   rw[hq]at hP;rw[zhd hx hq hn];simp only[idxI]
   repeat' first|refine gG ?_|exact gD|refine gB ?_ ?_<;>intro h|(refine jV T hC (rows:=l.map yk) rfl rfl rfl rfl (uE _) (by rw[J];omega) rfl rfl ?_)|(refine jw T hC i 0 (rows:=l.map yk) (row:=yk x) rfl rfl rfl ue (by rw[uK,hx];rfl) rfl rfl rfl ?_)|refine gR hP (nm [5,6,7]) ?_|refine zo ?_
   exact gE
  |false=>
   rw[hq]at hP
   repeat' first|refine gG ?_|exact gD|refine gB ?_ ?_<;>intro h|(refine jV T hC (rows:=l.map yk) rfl rfl rfl rfl (uE _) (by rw[J];omega) rfl rfl ?_)|(refine jw T hC i 0 (rows:=l.map yk) (row:=yk x) rfl rfl rfl ue (by rw[uK,hx];rfl) rfl rfl rfl ?_)|refine gR hP (nm [5,6,7]) ?_|refine zo ?_
   rw[wrap64 ua];exact zg (i+1) ⟨ua,λj y hj hy=>(q7.1 hj).elim (λh1=>hn j y h1 hy) (λe=>by subst e;rw[hx]at hy;cases hy;exact hq)⟩ id ua gM
 ·have hge: ¬i<l.length:=by simpa using h
  clear h;rw[zjA λj y hj=>hn j y ua];simp only[idxI]
  repeat' first|refine gG ?_|refine gB ?_ ?_<;>intro h|refine ze ?_
  exact gE
theorem filter_all{l:List Int}(h: ∀x∈l,q x=false):l.filter (λx=> !q x)=l:=by
 rw[List.filter_eq_self];intro x J;rw[h x J];rfl
theorem take_set{l:List Int}(h:i<l.length):(l.set i x).take (i+1)=l.take i++[x]:=by
 apply List.ext_getElem?
 intro j;rw[tT,oY,oC,td,Nat.min_eq_left ua];by_cases J:j<i
 ·rw[uv ua,uu ua,uv J,tT,uv J]
 ·by_cases h2:j=i
  ·subst h2;rw[uv ua,uv rfl,uv h,uu J];simp
  ·rw[uu ua,uu J];rw[qe ug]
theorem drop_set{l:List Int}{j:Nat}(h:i<j):(l.set i x).drop j=l.drop j:=by
 apply List.ext_getElem?
 intro k;rw[uY,uY,oY,uu ua]
theorem zsz(hs:xI m)(hw:zgU d m)(p:Pt){l:List Int}(hl: ∀x∈l,zvh m x):
 zh Tryz.prog 53 [.one (.ar 0),ptC] (ptR d m p l) (.one (.ar 2)) ((2,.arr 1 ((l.filter λx=> !ziE d m p x).map yk))::ptB d m p 5 6 7):=by
 have hI:=zsy hs hw p hl;have hll:(l.map yk).length=l.length:=uk _;refine gO T Tryz.func53 λC hC=>?_;refine zls 0 rfl rfl λhlen=>?_;rw[hll]at hlen;cases hi:l.findIdx? (ziE d m p)with
 |none=>
  rw[hi]at hI;simp only[idxI]at hI;rw[filter_all (λx hx=>by have:=qF.1 hi x hx;simpa using this)]
  repeat' first|refine gG ?_|exact gD|refine gB ?_ ?_<;>intro h|refine gR hI (nm [0,5,6,7]) ?_
  exact gW [0,1,0]
 |some i0=>
  rw[hi]at hI;simp only[idxI]at hI;obtain⟨hi1,hi2,hi3⟩:=tN.1 hi;have hw0:IntKind.i64.wrap ((i0:Int)+1)=((i0+1:Nat):Int):=by rw[wrap64 ua];omega
  repeat' first|refine gG ?_|(exfalso;have h9:=uj h;omega)|refine gB ?_ ?_<;>intro h|refine gR hI (nm [0,5,6,7]) ?_
  rw[hw0]
  refine zn (λq:Nat×Nat×List Int=>q.1<q.2.1/\q.2.1<=l.length/\q.2.2.length=l.length/\q.2.2.take q.1=(l.take q.2.1).filter (λx=> !ziE d m p x)/\q.2.2.drop q.2.1=l.drop q.2.1)
   (λq=>([(0,.one (.ar 0)),(1,ptC),(5,I q.1),(6,I q.2.1)],ptT d m p q.2.2)) (λq=>l.length - q.2.1) hC
   (i0,i0+1,l) ⟨ue,by simp only;omega,rfl,?_,rfl⟩ id gM ?_
  ·simp only
   have ht:(l.take i0).filter (λx=> !ziE d m p x)=l.take i0:=filter_all λx hx=>by
    obtain⟨j,hj⟩:=qU hx;rw[tT]at hj;split at hj
    ·rename_i hlt;have:=hi3 j hlt;obtain⟨h5,h6⟩:=uw.1 hj;rw[h6]at this;simpa using this
    ·cases hj
   rw[yd (ta hi1),oa,ht];simp[hi2]
  rintro⟨i,j,cur⟩ ⟨hij,hj,J,htk,hdr⟩;simp only at hij hj J htk hdr;have U:(cur.map yk).length=l.length:=by rw[uk,J]
  change Goal _ _ _ _ _ [(0,.one (.ar 0)),(1,ptC),(5,I (i:Int)),(6,I (j:Int))] (ptT d m p cur) _;have hcu: ∀k,k<l.length-> ∃y,cur[k]?=some y:=λk hk=>zd ua
  refine zq T hC true 200 rfl ?_;refine zt rfl ?_ ?_<;>intro h
  ·have hlt:j<l.length:=by simp only[uk,J]at h;simpa using h
   clear h;obtain⟨x,hx⟩:=zd hlt
   have hxc:cur[j]?=some x:=by
    have:=uX (λq:List Int=>q[0]?) hdr;simp only[uY,tY]at this;rw[this];exact hx
   have hP:=zmv hs hw p (hl x (List.mem_of_getElem? hx));have hw3:IntKind.i64.wrap ((j:Int)+1)=((j+1:Nat):Int):=by rw[wrap64 ua];omega
   cases hq:ziE d m p x with
   |true=>
    rw[hq]at hP
    repeat' first|refine gG ?_|exact gD|refine gB ?_ ?_<;>intro h|(refine jV T hC (rows:=cur.map yk) rfl rfl rfl rfl (uE _) (by rw[U];omega) rfl rfl ?_)|(refine jw T hC j 0 (rows:=cur.map yk) (row:=yk x) rfl rfl rfl ue (by rw[uK,hxc];rfl) rfl rfl rfl ?_)|refine gR hP (nm [5,6,7]) ?_|refine zo ?_
    rw[hw3];refine zg (i,j+1,cur) ⟨by simp only;omega,by simp only;omega,J,?_,?_⟩ id (by simp only;omega) gM
    ·simp only;rw[yd hx,oa,<-htk];simp[hq]
    ·simp only;have:=uX (List.drop 1) hdr;rwa [tv,tv]at this
   |false=>
    rw[hq]at hP;obtain⟨y,hy⟩:=hcu i ua;have hw2:IntKind.i64.wrap ((i:Int)+1)=((i+1:Nat):Int):=by rw[wrap64 ua];omega
    have hset:(cur.map yk).set i (setAt (yk y) 0 [ki x])=(cur.set i x).map yk:=by rw[Un];rfl
    repeat' first|refine gG ?_|exact gD|refine gB ?_ ?_<;>intro h|(refine jV T hC (rows:=cur.map yk) rfl rfl rfl rfl (uE _) (by rw[U];omega) rfl rfl ?_)|(refine jw T hC j 0 (rows:=cur.map yk) (row:=yk x) rfl rfl rfl ue (by rw[uK,hxc];rfl) rfl rfl rfl ?_)|refine gR hP (nm [5,6,7]) ?_|refine zo ?_
    refine zd2 T hC i 0 (rows:=cur.map yk) (row:=yk y) (us:=[ki x]) rfl rfl rfl rfl rfl rfl ue (by rw[uK,hy];rfl) (uF 1) hset rfl ?_
    repeat' first|refine gG ?_|refine gB ?_ ?_<;>intro h|refine zo ?_
    rw[hw2,hw3];refine zg (i+1,j+1,cur.set i x) ⟨by simp only;omega,by simp only;omega,by simp only[oH];exact J,?_,?_⟩ id (by simp only;omega) gM
    ·simp only;rw[yd hx,oa,<-htk,take_set ua];simp[hq]
    ·simp only;rw[drop_set ua];have:=uX (List.drop 1) hdr;rwa [tv,tv]at this
  ·have hge: ¬j<l.length:=by simp only[uk,J]at h;simpa using h
   clear h;have hjl:j=l.length:=by omega
   rw[u5 (l:=l) (i:=j) ua]at htk;have hil:i<=cur.length:=by omega
   have h3:(cur.map yk).take i++List.replicate ((cur.map yk).length - i) [PV.k (.int .i64 0)]++(cur.map yk).drop (i+((cur.map yk).length - i))=(cur.take i).map yk++List.replicate (l.length - i) [PV.k (.int .i64 0)]:=by
    rw[U,uA (by rw[U];omega),u0,qR]
   have htr:((cur.take i).map yk++List.replicate (l.length - i) [PV.k (.int .i64 0)]).take ((i:Int)).toNat=(l.filter λx=> !ziE d m p x).map yk:=by
    rw[tD,List.take_append_of_le_length (by rw[uk,td];omega),u5 (by rw[uk,td];omega),htk]
   repeat' first|refine gG ?_|refine gB ?_ ?_<;>intro h|refine ze ?_|(refine ztW T hC (rows:=cur.map yk) rfl rfl rfl rfl (uE _) (by rw[U];omega) rfl rfl ?_)|(refine zmu hC (kk:=i) (m:=(cur.map yk).length - i) (rows:=cur.map yk) ((cur.take i).map yk++List.replicate (l.length - i) [PV.k (.int .i64 0)]) rfl rfl (T.es_ok _ _ rfl) Tryz.zeroValue3 rfl rfl (by rw[U];omega) h3 rfl rfl ?_)|(refine zlE T 120 hC (rows:=(cur.take i).map yk++List.replicate (l.length - i) [PV.k (.int .i64 0)]) rfl rfl rfl rfl (uE _) (by simp only[uC,uk,td,tE];omega) htr rfl rfl rfl ?_)
   exact gW [0,1,120]
end Hw.Gm
namespace Hw.Gm
open Go Go.Proofs Go.Shelf Hw.M Ps
abbrev flA(e:Int):Value:= .iface 230 (.agg #[.int .i64 e])
def vE:Vn Int->End
 | .ok v=> .ok (I v) []
 | .flt e=> .pn (flA e) []
 | .out=> .no
theorem zmw(n:Int):FnX Tryz.prog 183 [I n] [] (vE (nbV n)):=by
 have J:=vz n;unfold bdB at J;unfold nbV;by_cases U:n< -1099511627776\/1099511627776<n
 ·rw[uv U];rw[show(decide (-1099511627776<=n)&&decide (n<=1099511627776))=false by simp;omega]at J;show ya _ _ _ _ _ _;refine zX T Tryz.func183 ud rfl rfl rfl λC hC=>?_
  repeat' first|refine gG ?_|exact gD|refine gB ?_ ?_<;>intro h|refine gC J ?_|(refine zcm hC [.int .i64 5] rfl ud rfl rfl ?_)|(refine xF hC rfl rfl ?_)
  all_goals exact gU (zi ⟨rfl,id,trivial,rfl,rfl⟩)
 ·rw[uu U];rw[show(decide (-1099511627776<=n)&&decide (n<=1099511627776))=true by simp;omega]at J;show zh _ _ _ _ _ _;refine gO T Tryz.func183 λC hC=>?_
  repeat' first|refine gG ?_|exact gD|refine gB ?_ ?_<;>intro h|refine gC J ?_
  exact gF
theorem zaN(b:Bool):zh Tryz.prog 229 [.bq b] [] (I (zeS b)) []:=by
 cases b
 all_goals
  refine gO T Tryz.func229 λC hC=>?_
  repeat' first|refine gG ?_|exact gD|refine gB ?_ ?_<;>intro h
  all_goals exact gF
variable {a:Int}
theorem zwn(h:inB a):(if a< -a then -a else a)=(a.natAbs:Int):=by split<;>omega
theorem zvS{b:Int}(ha:inB a)(hb:inB b)(h0:b≠0):(Int.tdiv 1099511627776 (b.natAbs:Int)<(a.natAbs:Int))↔1099511627776<a.natAbs*b.natAbs:=by
 have e:Int.tdiv 1099511627776 (b.natAbs:Int)=((1099511627776 / b.natAbs:Nat):Int):=by rw[show(1099511627776:Int)=((1099511627776:Nat):Int) from rfl];exact(Int.ofNat_tdiv _ _).symm
 rw[e];have J:0<b.natAbs:=by omega
 have:=Nat.div_lt_iff_lt_mul J (x:=1099511627776) (y:=a.natAbs);omega
theorem zuy{b:Int}(ha:inB a)(hb:inB b):FnX Tryz.prog 228 [I a,I b] [] (vE (pdV a b)):=by
 have ha':=ha;have hb':=hb;unfold inB at ha' hb';have wa:IntKind.i64.wrap (0 - a)= -a:=by rw[wrap64 ua];omega
 have wb:IntKind.i64.wrap (0 - b)= -b:=by rw[wrap64 ua];omega
 have ma:=zwn ha;have mb:=zwn hb;unfold pdV;by_cases J:a=0
 ·subst J;rw[uu ue];show zh _ _ _ _ _ _;refine gO T Tryz.func228 λC hC=>?_
  repeat' first|refine gG ?_|exact gD|refine gB ?_ ?_<;>intro h
  rw[show IntKind.i64.wrap (0*b)=0*b by rw[Int.zero_mul];rfl];exact gF
 by_cases U:b=0
 ·subst U;rw[uu ue];show zh _ _ _ _ _ _;refine gO T Tryz.func228 λC hC=>?_
  repeat' first|refine gG ?_|(exfalso;simp[J]at h;done)|exact gD|refine gB ?_ ?_<;>intro h
  rw[show IntKind.i64.wrap (a*0)=a*0 by rw[Int.mul_zero];rfl];exact gF
 have hlt:=zvS ha hb U
 have hq:IntKind.i64.wrap (Int.tdiv 1099511627776 (b.natAbs:Int))=Int.tdiv 1099511627776 (b.natAbs:Int):=by
  have e:Int.tdiv 1099511627776 (b.natAbs:Int)=((1099511627776 / b.natAbs:Nat):Int):=by rw[show(1099511627776:Int)=((1099511627776:Nat):Int) from rfl];exact(Int.ofNat_tdiv _ _).symm
  have:=Nat.div_le_self 1099511627776 b.natAbs;rw[e];generalize 1099511627776 / b.natAbs=q at this;exact wrap64 ua
 by_cases h2:a.natAbs*b.natAbs>1099511627776
 ·rw[uv h2];show ya _ _ _ _ _ _;refine zX T Tryz.func228 ud rfl rfl rfl λC hC=>?_
  repeat' first|refine gG ?_|(exfalso;simp[J]at h;done)|(exfalso;simp[U]at h;done)|refine gB ?_ ?_<;>intro h|refine zdD hC rfl rfl rfl ?_|(rw[wa];refine v7 hC (a.natAbs:Int) rfl rfl ma rfl rfl ?_)|(rw[wb];refine v7 hC (b.natAbs:Int) rfl rfl mb rfl rfl ?_)|(refine zeP hC rfl rfl ua rfl rfl ?_;rw[hq])|(refine zcm hC [.int .i64 5] rfl ud rfl rfl ?_)|(refine xF hC rfl rfl ?_)
  all_goals first
   |exact gU (zi ⟨rfl,id,trivial,rfl,rfl⟩)
   |(exfalso;simp only[ux,uG,uq,ur]at *; omega)
 ·rw[uu h2];show zh _ _ _ _ _ _;refine gO T Tryz.func228 λC hC=>?_
  repeat' first|refine gG ?_|(exfalso;simp[J]at h;done)|(exfalso;simp[U]at h;done)|(exfalso;have h9:=uj h;omega)|refine gB ?_ ?_<;>intro h|refine zdD hC rfl rfl rfl ?_|(rw[wa];refine v7 hC (a.natAbs:Int) rfl rfl ma rfl rfl ?_)|(rw[wb];refine v7 hC (b.natAbs:Int) rfl rfl mb rfl rfl ?_)|(refine zeP hC rfl rfl ua rfl rfl ?_;rw[hq])
  have hp:((a.natAbs*b.natAbs:Nat):Int)=(a*b).natAbs:=by rw[Int.natAbs_mul]
  rw[wrap64 ua];exact gF
theorem zsA(U:inB a)(h: ¬a<1):zh Tryz.prog 184 [I a] [] (.tup [I (zlO a),I 0]) []:=by
 have J:=U;unfold inB at J;have hL:=zlD a.toNat ua;have hc:IntKind.u64.wrap a=(a.toNat:Int):=by rw[IntKind.wrap_u64];omega
 have hl:IntKind.i64.wrap ((Lib.bitLen a.toNat:Int) - 1)=zlO a:=by
  unfold zlO;rw[uu h,za0 ua ua]
  have hlt:Nat.log2 a.toNat<64:=by
   rw[Nat.log2_lt ua];omega
  rw[wrap64 ua];omega
 refine gO T Tryz.func184 λC hC=>?_
 repeat' first|refine gG ?_|(exfalso;have h9:=uj h;omega)|refine gB ?_ ?_<;>intro h|(rw[hc];refine gC hL ?_)
 rw[hl];exact gF
theorem zuz{op b:Int}(ha:inB a)(hb:inB b):FnX Tryz.prog 185 [I op,I a,I b] [] (vE (tw0 op a b)):=by
 have ha':=ha;have hb':=hb;unfold inB at ha' hb';have hw1:IntKind.i64.wrap (a+b)=a+b:=wrap64 ua;have hw2:IntKind.i64.wrap (a - b)=a - b:=wrap64 ua;have J:=zmw (a+b);have U:=zmw (a - b);have hMul:=zuy ha hb;have hT1:=zaN (decide (a=b));have hT2:=zaN (!decide (a=b));have hT3:=zaN (decide (a<b));have hT4:=zaN (decide (a<=b));unfold tw0;by_cases o9:op=9
 ·subst o9;simp only[Int.reduceEq,uZ,uL];cases hr:nbV (a+b)with
  |out=>trivial
  |ok v=>
   rw[hr]at J;have J:zh _ _ _ _ _ _:=J;show zh _ _ _ _ _ _;refine gO T Tryz.func185 λC hC=>?_
   repeat' first|refine gG ?_|exact gD|refine gB ?_ ?_<;>intro h|(rw[hw1];refine gC J ?_)
   exact gF
  |flt e=>
   rw[hr]at J;have J:ya _ _ _ _ _ _:=J;show ya _ _ _ _ _ _;refine zX T Tryz.func185 ud rfl rfl rfl λC hC=>?_
   repeat' first|refine gG ?_|exact gD|refine gB ?_ ?_<;>intro h|(rw[hw1];refine zr hC J id rfl rfl (zH.refl _) rfl rfl rfl rfl rfl rfl ?_)
   exact gU (zi ⟨rfl,id,trivial,rfl,rfl⟩)
 rw[uu o9];by_cases o10:op=10
 ·subst o10;simp only[Int.reduceEq,uZ,uL];cases hr:nbV (a - b)with
  |out=>trivial
  |ok v=>
   rw[hr]at U;have U:zh _ _ _ _ _ _:=U;show zh _ _ _ _ _ _;refine gO T Tryz.func185 λC hC=>?_
   repeat' first|refine gG ?_|exact gD|refine gB ?_ ?_<;>intro h|(rw[hw2];refine gC U ?_)
   exact gF
  |flt e=>
   rw[hr]at U;have U:ya _ _ _ _ _ _:=U;show ya _ _ _ _ _ _;refine zX T Tryz.func185 ud rfl rfl rfl λC hC=>?_
   repeat' first|refine gG ?_|exact gD|refine gB ?_ ?_<;>intro h|(rw[hw2];refine zr hC U id rfl rfl (zH.refl _) rfl rfl rfl rfl rfl rfl ?_)
   exact gU (zi ⟨rfl,id,trivial,rfl,rfl⟩)
 rw[uu o10];by_cases o11:op=11
 ·subst o11;simp only[Int.reduceEq,uZ,uL];cases hr:pdV a b with
  |out=>trivial
  |ok v=>
   rw[hr]at hMul;have hMul:zh _ _ _ _ _ _:=hMul;show zh _ _ _ _ _ _;refine gO T Tryz.func185 λC hC=>?_
   repeat' first|refine gG ?_|exact gD|refine gB ?_ ?_<;>intro h|refine gC hMul ?_
   exact gF
  |flt e=>
   rw[hr]at hMul;have hMul:ya _ _ _ _ _ _:=hMul;show ya _ _ _ _ _ _;refine zX T Tryz.func185 ud rfl rfl rfl λC hC=>?_
   repeat' first|refine gG ?_|exact gD|refine gB ?_ ?_<;>intro h|(refine zr hC hMul id rfl rfl (zH.refl _) rfl rfl rfl rfl rfl rfl ?_)
   exact gU (zi ⟨rfl,id,trivial,rfl,rfl⟩)
 rw[uu o11];by_cases o14:op=14
 ·subst o14;simp only[Int.reduceEq,uZ,uL];show zh _ _ _ _ _ _;refine gO T Tryz.func185 λC hC=>?_
  repeat' first|refine gG ?_|exact gD|refine gB ?_ ?_<;>intro h|refine gC hT1 ?_
  exact gF
 rw[uu o14];by_cases o15:op=15
 ·subst o15;simp only[Int.reduceEq,uZ,uL];show zh _ _ _ _ _ _;refine gO T Tryz.func185 λC hC=>?_
  repeat' first|refine gG ?_|exact gD|refine gB ?_ ?_<;>intro h|refine gC hT2 ?_
  exact gF
 rw[uu o15];by_cases o16:op=16
 ·subst o16;simp only[Int.reduceEq,uZ,uL];show zh _ _ _ _ _ _;refine gO T Tryz.func185 λC hC=>?_
  repeat' first|refine gG ?_|exact gD|refine gB ?_ ?_<;>intro h|refine gC hT3 ?_
  exact gF
 rw[uu o16];by_cases o17:op=17
 ·subst o17;simp only[Int.reduceEq,uZ,uL];show zh _ _ _ _ _ _;refine gO T Tryz.func185 λC hC=>?_
  repeat' first|refine gG ?_|exact gD|refine gB ?_ ?_<;>intro h|refine gC hT4 ?_
  exact gF
 rw[uu o17];by_cases o22:op=22
 ·subst o22;simp only[Int.reduceEq,uZ,uL];show zh _ _ _ _ _ _;refine gO T Tryz.func185 λC hC=>?_
  repeat' first|refine gG ?_|exact gD|refine gB ?_ ?_<;>intro h|(refine v7 hC (if a<b then b else a) rfl rfl rfl rfl rfl ?_)
  exact gF
 rw[uu o22];by_cases o23:op=23
 ·subst o23;simp only[Int.reduceEq,uZ,uL];show zh _ _ _ _ _ _;refine gO T Tryz.func185 λC hC=>?_
  repeat' first|refine gG ?_|exact gD|refine gB ?_ ?_<;>intro h|(refine zly hC (if b<a then b else a) rfl rfl rfl rfl rfl ?_)
  exact gF
 rw[uu o23];by_cases h0:b=0
 ·rw[uv h0];subst h0;show ya _ _ _ _ _ _;refine zX T Tryz.func185 ud rfl rfl rfl λC hC=>?_
  repeat' first|refine gG ?_|(exfalso;simp[o9,o10,o11,o14,o15,o16,o17,o22,o23]at h;done)|exact gD|refine gB ?_ ?_<;>intro h|(refine zcm hC [.int .i64 18] rfl ud rfl rfl ?_)|(refine xF hC rfl rfl ?_)
  all_goals exact gU (zi ⟨rfl,id,trivial,rfl,rfl⟩)
 rw[uu h0]
 have hq:IntKind.i64.wrap (Int.tdiv a b)=Int.tdiv a b:=by
  have:(Int.tdiv a b).natAbs<=a.natAbs:=by rw[Int.natAbs_tdiv];exact Nat.div_le_self _ _
  generalize Int.tdiv a b=q at this;exact wrap64 ua
 by_cases o12:op=12
 ·subst o12;rw[uv rfl];show zh _ _ _ _ _ _;refine gO T Tryz.func185 λC hC=>?_
  repeat' first|refine gG ?_|exact gD|(exfalso;simp[h0]at h;done)|refine gB ?_ ?_<;>intro h|(refine zeP hC rfl rfl h0 rfl rfl ?_;rw[hq])
  exact gF
 rw[uu o12];show zh _ _ _ _ _ _;refine gO T Tryz.func185 λC hC=>?_
 repeat' first|refine gG ?_|(exfalso;simp[o9,o10,o11,o14,o15,o16,o17,o22,o23]at h;done)|(exfalso;simp[h0]at h;done)|(exfalso;simp[o12]at h;done)|refine gB ?_ ?_<;>intro h|(refine zqY hC rfl rfl h0 rfl rfl ?_)
 exact gF
end Hw.Gm
namespace Hw.Gm
open Go Go.Proofs Hw.M Ps
def zpt(d:zj)(m:Hp)(c:Scp):List PV:=zJ d++(xP m++[zx c.ps,xw c.va])
variable {f:Fld}{i:Nat}
theorem zmx{l:List Fld}{s:Str}(h:l[i]?=some f)(U:f.n=s)(hn: ∀j f,j<i->l[j]?=some f-> ¬f.n=s):ixF l s=some i:=by
 unfold ixF;rw[tN];obtain⟨J,he⟩:=uw.1 h;refine⟨J,by rw[he];simpa using U,λj hj=>?_⟩;have:=hn j _ hj (ta ua);simpa using this
theorem zqE{l:List Fld}{s:Str}(U: ∀j f,j<l.length->l[j]?=some f-> ¬f.n=s):ixF l s=none:=by
 unfold ixF;rw[qF];intro f hf;obtain⟨j,J⟩:=qU hf;simpa using U j f (uw.1 J).1 J
theorem zmy{l:List Fld}{s:Str}(h:l[i]?=some f)(J: ¬f.n=s)(U: ∀j f,j<i->l[j]?=some f-> ¬f.n=s): ∀j f,j<i+1->l[j]?=some f-> ¬f.n=s:=λj f' hj hf=>by
 rcases q7.1 hj with h1|rfl
 ·exact U j f' h1 hf
 ·rw[h]at hf;cases hf;exact J
def vbT(d:zj)(c:Scp)(s:Str):Str:=match ixF c.ps s with
 |some i=>((c.ps[i]?).map (·.t)).getD (⟨#[]⟩:UH)
 |none=>match ixF d.globals s with
  |some i=>((d.globals[i]?).map (·.t)).getD (⟨#[]⟩:UH)
  |none=>(⟨#[]⟩:UH)
variable {d:zj}{m:Hp}
theorem zuA{c:Scp}{s:Str}{v:Int}(J:vbV d m c s= .ok v):zh Tryz.prog 180 [zF (zpt d m c),Sr s] [] (.tup [Sr (vbT d c s),I v]) []:=by
 refine gO T Tryz.func180 λC hC=>?_;refine jn rfl 0 10 rfl rfl λhl=>?_;refine jn rfl 0 2 rfl rfl λhg=>?_;rw[uk]at hl hg
 repeat' first|refine gG ?_|refine gB ?_ ?_<;>intro h
 rw[uk]
 refine zn (λi:Nat=>i<=c.ps.length/\ ∀j f,j<i->c.ps[j]?=some f-> ¬f.n=s) (λi=>([(2,.one (.bx 1002 0)),(1,Sr s),(11,pS (zx c.ps)),(12,I c.ps.length),(13,I i)],[(1002,some (.box ((zpt d m c).map V.p)))])) (λi=>c.ps.length - i) hC
  0 ⟨uz _,λj f hj=>absurd hj (oc _)⟩ id gM ?_
 rintro i ⟨hi,hn⟩;refine zq T hC true 200 rfl ?_;refine zt rfl ?_ ?_<;>intro h
 ·have hlt:i<c.ps.length:=by simpa using h
  clear h;obtain⟨f,hf⟩:=zd hlt;by_cases hs:f.n=s
  ·have U:=zmx hf hs hn;unfold vbV at J;rw[U]at J;cases hv:c.va[i]? with
   |none=>simp only[hv]at J;cases J
   |some u=>
    simp only[hv]at J;cases J;have ht:vbT d c s=f.t:=by unfold vbT;rw[U];simp only[hf,uO,Option.getD_some]
    rw[ht]
    repeat' first|refine gG ?_|(exfalso;simp[hs]at h;done)|refine gB ?_ ?_<;>intro h|(refine gI T (zl hf) ?_)|(refine gI T (zl hv) ?_)|refine zo ?_
    exact gF
  ·repeat' first|refine gG ?_|(exfalso;simp[hs]at h;done)|refine gB ?_ ?_<;>intro h|(refine gI T (zl hf) ?_)|refine zo ?_
   rw[wrap64 ua];exact zg (i+1) ⟨ua,zmy hf hs hn⟩ id ua gM
 ·have hge: ¬i<c.ps.length:=by simpa using h
  clear h;have hno:=zqE (l:=c.ps) (s:=s) λj f hj=>hn j f ua
  clear hn;unfold vbV at J;rw[hno]at J;simp only at J
  repeat' first|refine gG ?_|refine gB ?_ ?_<;>intro h|refine ze ?_
  rw[uk]
  refine zn (λi:Nat=>i<=d.globals.length/\ ∀j f,j<i->d.globals[j]?=some f-> ¬f.n=s) (λi=>([(2,.one (.bx 1002 0)),(1,Sr s),(32,pS (zx d.globals)),(33,I d.globals.length),(34,I i)],[(1002,some (.box ((zpt d m c).map V.p)))])) (λi=>d.globals.length - i) hC
   0 ⟨uz _,λj f hj=>absurd hj (oc _)⟩ id gM ?_
  rintro i ⟨hi,hn⟩;refine zq T hC true 200 rfl ?_;refine zt rfl ?_ ?_<;>intro h
  ·have hlt:i<d.globals.length:=by simpa using h
   clear h;obtain⟨f,hf⟩:=zd hlt;by_cases hs:f.n=s
   ·have U:=zmx hf hs hn;rw[U]at J;cases hv:m.g[i]? with
    |none=>simp only[hv]at J;cases J
    |some u=>
     simp only[hv]at J;cases J;have ht:vbT d c s=f.t:=by unfold vbT;rw[hno,U];simp only[hf,uO,Option.getD_some]
     rw[ht]
     repeat' first|refine gG ?_|(exfalso;simp[hs]at h;done)|refine gB ?_ ?_<;>intro h|(refine gI T (zl hf) ?_)|(refine gI T (zl hv) ?_)|refine zo ?_
     exact gF
   ·repeat' first|refine gG ?_|(exfalso;simp[hs]at h;done)|refine gB ?_ ?_<;>intro h|(refine gI T (zl hf) ?_)|refine zo ?_
    rw[wrap64 ua];exact zg (i+1) ⟨ua,zmy hf hs hn⟩ id ua gM
  ·have hge: ¬i<d.globals.length:=by simpa using h
   clear h;have hno2:=zqE (l:=d.globals) (s:=s) λj f hj=>hn j f ua
   rw[hno2]at J;cases J;have ht:vbT d c s=(⟨#[]⟩:UH):=by unfold vbT;rw[hno,hno2]
   rw[ht]
   repeat' first|refine gG ?_|refine gB ?_ ?_<;>intro h|refine ze ?_
   exact gF
theorem zuB(x:Fld)(s:Str):zh Tryz.prog 226 [zF (zw x),.one (.bx 0 0)] [(0,.box [.p (ks s)])] (.bq (decide (x.n=s))) [(0,.box [.p (ks s)])]:=by
 refine gO T Tryz.func226 λC hC=>?_
 repeat' first|refine gG ?_|refine gB ?_ ?_<;>intro h|refine ze ?_
 exact gE
theorem zsB(hs:xI m)(c:Scp)(v:Int)(s:Str):FnX Tryz.prog 181 [zF (zpt d m c),I v,Sr s] [] (vE (fldI d m v s kn0).vn):=by
 have hn:=hs.n;unfold fldI;by_cases h0:v=0
 ·rw[uv h0];show ya _ _ _ _ _ _;refine zX T Tryz.func181 ud rfl rfl rfl λC hC=>?_
  repeat' first|refine gG ?_|(exfalso;have h9:=um h;omega)|refine gB ?_ ?_<;>intro h|(refine zcm hC [.int .i64 17] rfl ud rfl rfl ?_)|(refine xF hC rfl rfl ?_)
  all_goals first
   |exact gU (zi ⟨rfl,id,trivial,rfl,rfl⟩)
   |exact zi ⟨rfl,id,trivial,rfl,rfl⟩
 ·rw[uu h0];by_cases hv:v<0
  ·rw[uv hv];trivial
  ·rw[uu hv];cases U:m.n[(v - 1).toNat]? with
   |none=>trivial
   |some x=>
    simp only;by_cases ht:x.t<0
    ·rw[uv ht];trivial
    ·rw[uu ht];cases hy:d.types[x.t.toNat]? with
     |none=>trivial
     |some t=>
      simp only;cases hi:ixF t.f s with
      |none=>trivial
      |some i=>
       simp only;cases hu:x.f[i]? with
       |none=>trivial
       |some u=>
        simp only;have hlt:=(uw.1 U).1;have hw1:IntKind.i64.wrap (v - 1)=v - 1:=wrap64 ua;have J:=jJ 226 t.f (λx _=>decide (x.n=s)) (λ_ s=>s) (λc=>c=s) (λx U c hc=>⟨by subst hc;exact zuB x c,λ_=>hc⟩) s rfl;rw[y3]at J;have hix:t.f.findIdx? (λx=>decide (x.n=s))=some i:=hi;rw[hix]at J;simp only[idxI]at J;show zh _ _ _ _ _ _;refine gO T Tryz.func181 λC hC=>?_
        repeat' first|refine gG ?_|(exfalso;have h9:=uj h;omega)|refine gB ?_ ?_<;>intro h|(rw[hw1];refine gI T (yZ U) ?_)|(refine gI T (yZ hy) ?_)|refine gR J (nm [1005]) ?_|(refine gI T (zl hu) ?_)|refine ze ?_
        exact gF
theorem zsC(h1:zcI d m=true)(c:Scp)(g:Nat)(s:Str)(nd:Int):FnX Tryz.prog 182 [zF (zpt d m c),Sr s,I nd] [] (vE (mesV d m g s nd)):=by
 unfold mesV;cases hr:zvf d m g s nd with
 |none=>trivial
 |some q=>
  obtain⟨v,e⟩:=q;have U:=zps h1 hr;simp only;by_cases J:e=0
  ·rw[uv J];subst J;show zh _ _ _ _ _ _;refine gO T Tryz.func182 λC hC=>?_
   repeat' first|refine gG ?_|exact gD|refine gB ?_ ?_<;>intro h|refine gC U ?_
   exact gF
  ·rw[uu J];show ya _ _ _ _ _ _;refine zX T Tryz.func182 ud rfl rfl rfl λC hC=>?_
   repeat' first|refine gG ?_|(exfalso;simp[J]at h;done)|refine gB ?_ ?_<;>intro h|refine gC U ?_|(refine zcm hC [.int .i64 e] rfl ud rfl rfl ?_)|(refine xF hC rfl rfl ?_)
   exact gU (zi ⟨rfl,id,trivial,rfl,rfl⟩)
end Hw.Gm
