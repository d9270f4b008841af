import Derived.Test.YtolghpfockkldaaGreatDoorC1
import Derived.Recover
import Derived.WideKeyMaps
import Derived.DeepKeys4
import Derived.Test.YtolghpfockkldaaGreatDoorE3
set_option linter.defProp false
set_option linter.unusedVariables false
set_option linter.unusedSimpArgs false
set_option linter.unusedSectionVars false
set_option linter.unnecessarySimpa false
namespace Hw
open Go
def modeOf:Option Value->FrameMode
 |none=> .returning
 |some v=> .panicking (chn v)
def rcV:Option Value->Value
 |none=> .nilIface
 |some v=>v
def rcS(rv:Option Value):S:= .one (.p (.k (rcV rv)))
def zud(P:Program)(f:FuncId)(args:List S)(R:RL)(rv:Option Value)(R':RL):Prop:=
 ju P f/\ ∀(M:Mem) (ρ:Nat->Value) (w:World) (xs:List Value),RepSs M ρ args xs->xJ M ρ w (tb R)->Imm M w->GOk M w->
  CallsD P f xs.toArray (modeOf rv) w λe u' w'=>(∃v,e= .returned v)/\settle u'= .returning/\ ∃M' ρ',Ret M ρ w R .un R' undef M' ρ' w'
variable {C:Ctx}{P:Program}{Q:Exit->St->Prop}{all:Array Oper}{ch:List PanicEntry}{m:Nat}{rest:List Oper}{tab:Tab}
section
variable {k:List Frm} {n:Nat} {sl:zb}
def gU(g:Goal P C (.fin (.panic ch)) [] n sl tab Q):Goal P C (.fin (.panic ch)) k n sl tab Q:=
 λM ρ a w U=>let ⟨st,M',ρ',hq,J⟩:=g M ρ a w U;⟨st,M',ρ',zbw hq,J⟩
def zcD{α:Type}{φ:α->Prop}{T:α->zb×Tab}{μ:α->Nat}(g:Goal P C (.fin (.panic ch)) k n sl tab Q):Goal P C (.fin (.panic ch)) [] n sl tab (zen φ T μ n m (unw P C k Q)):=g
end
variable {R R':RL}{res:S}{σ:Nat->Nat}
def zhu(h0:C.tab0=tb R){st:St}{M':Mem}{ρ':Nat->Value}{a:Act}{w':World}(J:Holds C st M' ρ' a w'){v:Value}(hv:RepS M' ρ' (res.ren σ) v)
 (h3:mR σ st.tab R') (h4:injB σ R'.ids=true) (h5:allB (λi=>Nat.beq (σ i) i) R.ids=true):Ret C.M0 C.ρ0 C.w0 R res R' v M' (λi=>ρ' (σ i)) w':=by
 have frb: ∀b,¬C.fr b->C.w0.heap.size<=b\/zaO (tb R) C.ρ0 b:=λb U=>by
  rcases tu b C.w0.heap.size with h|h
  ·exact .inr (tU λhn=>U ⟨h,by rw[h0];exact hn⟩)
  ·exact .inl h
 have tk: ∀i r,tg (tb R') i=some r->tg st.tab (σ i)=some (r.ren σ):=λi r h=>zcC h3 (zF h)
 have ti: ∀i r,tg (tb R') i=some r->i∈R'.ids:=λi r h=>zH (zF h)
 refine⟨(RepS.ren _ _).1 hv,⟨λi r hr=>(J.zz.res _ _ (tk i r hr)).ren,?_,?_⟩,J.run.imm,J.run.base,λb o u hu=>(J.run.newM b o u hu).imp id (frb b),?_,λb U hn=>J.run.fram b ⟨U,by rw[h0];exact hn⟩,
  J.run.size,J.run.os,J.run.tape,J.run.output,?_⟩
 ·intro i j ri rj b e1 e2 hne hb1 hb2;exact J.zz.dis _ _ _ _ b (tk i ri e1) (tk j rj e2) (yt h4 i j (ti i ri e1) (ti j rj e2) hne) hb1 hb2
 ·intro i r b e1 U;exact J.zz.own _ _ b (tk i r e1) U
 ·rintro b ⟨i,r,e1,U⟩;exact frb b (J.ownf _ _ b (tk i r e1) U)
 ·intro id hid;have e:=uA (zy h5 id hid);rw[e];obtain⟨r,hr⟩:=vS hid;exact J.keep id r (by rw[h0];exact hr)
variable {M:Mem}{args:List S}{w:World}{ρ:Nat->Value}
def vm{xs:List Value}(J:allB (λi=>Nat.blt i 100) R.ids=true)(hn:Nat.ble args.length m=true)
 (hx:RepSs M ρ args xs) (hT:xJ M ρ w (tb R)) (hI:Imm M w) (hG:GOk M w):
 ∃C:Ctx,C.low/\C.w0=w/\C.M0=M/\C.ρ0=ρ/\C.tab0=tb R/\C.df=[]/\Holds C ⟨m,enum 0 args,tb R⟩ M ρ { tmps:=xs.toArray++Array.replicate (m - xs.toArray.size) undef,defers:=[] } w:=by
 have hlen:=hx.length;have hnn:args.length<=m:=uS hn
 have U: ∀p∈G2,¬zaO (tb R) ρ p.1:=λp hp ⟨id,r,h1,h2⟩=>by
  obtain⟨v,hv⟩:=zj4 p hp;have:=hG.le _ _ _ hv;rw[hT.own id r p.1 h1 h2 0]at this;cases this
 refine⟨⟨w,M,ρ,tb R,hG,U,[]⟩,λi r h=>by
  have:=zy J i (zH (zF h));simp_all,rfl,rfl,rfl,rfl,rfl,?_⟩
 refine⟨rfl,ug,λk s hk=>?_,hT,λid r b h1 h2 h3=>h3.2 ⟨id,r,h1,h2⟩,⟨hI,λ_ _=>rfl,uM _,MLe.refl _,λ_ _ _ h=> .inl h,rfl,rfl,rfl⟩,λ_ _ _=>rfl⟩;have:=(jj (n:=m - xs.toArray.size) hx hk).2;simpa using this
variable {cs:List Frame}
theorem zfX(rv:Option Value){c0:Frame}(h:c0.mode=modeOf rv):
 (match rv with
   |none=>recoverD (c0::cs)=none
   |some v=> ∃J,settle J= .returning/\recoverD (c0::cs)=some (v,{ c0 with mode:=J }::cs)):=by
 cases rv with
 |none=>simp only[modeOf]at h;simp only[recoverD,h]
 |some v=>
  simp only[modeOf,chn]at h;exact⟨.panicking [{ v:=v,recovered:=true }],rfl,by simp only[recoverD,h]⟩
variable {af:Array Edge}{d:Option Nat}{g:Option (Nat×Bool)}{ps:String}{ts:Array TypeId}
def zbx{ρ:Operand->Value}{ty:TypeId}:
 (execOp ρ ⟨d,.call ⟨.builtin .recover,#[],ts⟩,ty,ps,af,g⟩).run P w= .ok .recover w:=by
 simp[execOp,resolve];rfl
variable {x:Operand}
def zby{ρ:Operand->Value}{ty:TypeId}:
 (execOp ρ ⟨d,.assign x,ty,ps,af,g⟩).run P w= .ok (.value (ρ x)) w:=by
 simp[execOp]
theorem zhv{P:Program}{C:Ctx}{Q:Exit->St->Prop}{e:Exit}(J:e≠ .normal): ∀ {l:List Code} {st:St},unw P C (l.map Frm.seq) Q e st->Q e st
 | [],_,h=>h
 |b::l,st,h=>zhv J (l:=l) (by
  cases e with
  |normal=>exact absurd rfl J
  |_=>exact h)
def leftCut:Code->Code×List Code
 | .seq a b=>((leftCut a).1,(leftCut a).2++[b])
 |c=>(c,[])
def chainS(P:Program)(Q:Exit->Act->List Frame->World->Prop):List Code->Act->List Frame->World->Prop
 | []=>Q .normal
 |b::l=>b.wpS P (Exit.thenS (chainS P Q l) Q)
def zaw(Q:Exit->Act->List Frame->World->Prop):Exit.thenS (Q .normal) Q=Q:=by
 funext e a cs w;cases e<;>rfl
def zcE(K K2:Act->List Frame->World->Prop)(Q:Exit->Act->List Frame->World->Prop):Exit.thenS K (Exit.thenS K2 Q)=Exit.thenS K Q:=by
 funext e a cs w;cases e<;>rfl
theorem zbz(P:Program)(Q:Exit->Act->List Frame->World->Prop)(b:Code): ∀l:List Code,chainS P Q (l++[b])=chainS P (Exit.thenS (b.wpS P Q) Q) l
 | []=>by simp only[tM,chainS,zaw];rfl
 |x::l=>by simp only[uK,chainS,zbz P Q b l,zcE]
theorem zn5: ∀(c:Code) {Q:Exit->Act->List Frame->World->Prop} {a:Act} {cs:List Frame} {w:World},(leftCut c).1.wpS P (Exit.thenS (chainS P Q (leftCut c).2) Q) a cs w->c.wpS P Q a cs w:=by
 intro c
 induction c with
 |seq x y ihx _=>
  intro Q a cs w h;simp only[leftCut,zbz]at h;refine wpS_seq (ihx ?_);rw[zcE];exact h
 |_=>
  intro Q a cs w h;simp only[leftCut,chainS,zaw]at h;exact h
theorem zhw{P:Program}{C:Ctx}{Q:Exit->St->Prop}{W:Exit->Act->List Frame->World->Prop}{cs:List Frame}(U: ∀e a w,lift C Q e a w->W e a cs w): ∀ {l:List Code} {c:Code} {st:St} {M:Mem} {ρ:Nat->Value} {a:Act} {w:World},
 Tri P C c st (unw P C (l.map Frm.seq) Q)->Holds C st M ρ a w->chainS P W (c::l) a cs w
 | [],c,st,M,ρ,a,w,h,hH=>by
   simp only[chainS,zaw];exact wpS_of_wp (wp_mono (h M ρ a w hH) λe a' w' hl=>U e a' w' hl)
 |b::l,c,st,M,ρ,a,w,h,hH=>by
  simp only[chainS];refine wpS_of_wp (wp_mono (h M ρ a w hH) λe a' w' hl=>?_);obtain⟨st',M',ρ',hq,J⟩:=hl;cases e with
  |normal=>exact zhw U (l:=l) hq J
  |_=>exact U _ a' w' ⟨st',M',ρ',zhv (l:=b::l) ue hq,J⟩
variable {c:Code}{f:FuncId}{fn:Func}
theorem zrl(T:Ty P){id:Nat}{r1:Code}{rs:List Code}(rv:Option Value){J t2:Nat}{ty ty2:TypeId}{ps2:String}{af2:Array Edge}
 (hf:P.funcs[f]?=some fn) (hname:(fn.name== "runtime.NumGoroutine")=false) (hb:fn.body=some c)
 (hc:leftCut c=(.region id #[⟨some J,.call ⟨.builtin .recover,#[],ts⟩,ty,ps,af,none⟩,⟨some t2,.assign (.tmp J),ty2,ps2,af2,none⟩] false,r1::rs))
 (hres:fn.results=([]:List ResultVar).toArray) (hlow:allB (λi=>Nat.blt i 100) R.ids=true) (hn:Nat.ble args.length fn.ntmps=true) (h7:Nat.blt J fn.ntmps=true) (h2:Nat.blt t2 fn.ntmps=true) (hp:(rcV rv).oneCell'=true)
 (body: ∀C:Ctx,C.low->Goal P C (.code r1) (rs.map Frm.seq) fn.ntmps ((t2,rcS rv)::(J,rcS rv)::enum 0 args) (tb R) (zcn T [] R .un R')):zud P f args R rv R':=by
 refine⟨⟨fn,hf,hname,by rw[hb];rfl⟩,λM ρ w xs hx hT hI hG=>?_⟩;obtain⟨C,hC,e1,e2,e3,e4,e5,hH⟩:=vm hlow hn hx hT hI hG;refine callsD_of_wpS hf hb λc0 cs hu=>?_;have h7':J<fn.ntmps:=by simpa [tH]using h7
 have h2':t2<fn.ntmps:=by simpa [tH]using h2
 generalize hA:({ tmps:=xs.toArray++Array.replicate (fn.ntmps - xs.toArray.size) undef,defers:=[] }:Act)=a at hH⊢;have rep: ∀(M:Mem) (ρ:Nat->Value),RepS M ρ (rcS rv) (rcV rv):=λM ρ=>by simp only[rcS,RepS,RepV,RepPV];exact⟨uh,hp⟩
 have key: ∀(cs':List Frame),(∃u',settle u'= .returning/\cs'={ c0 with mode:=u' }::cs)->
  chainS P (bodyPostS P fn c0 cs λe u' w'=>(∃v,e= .returned v)/\settle u'= .returning/\ ∃M' ρ',Ret M ρ w R .un R' undef M' ρ' w') (r1::rs) ((a.put (some J) (rcV rv)).put (some t2) (rcV rv)) cs' w:=by
  rintro cs' ⟨u',hu1,rfl⟩;have hH2:=(hH.put (d:=J) h7' (rep M ρ)).put (d:=t2) (s:=rcS rv) (x:=rcV rv) h2' (rep M ρ);refine zhw (C:=C) (λe a' w' ⟨st,M',ρ',hq,hH'⟩=>?_) (body C hC) hH2;obtain⟨he,σ,ss,g1,g2,g3,g4,g5⟩:=hq;obtain⟨v,hv,hrep⟩:=wz T hres hH' g1;have hret:=zhu (res:= .un) (v:=undef) e4 hH' (σ:=σ) (by simp only[S.ren,RepS]) g3 g4 g5;rw[e1,e2,e3]at hret
  have fin:a'.defers=[]/\ ∃u'',{ c0 with mode:=u' }::cs={ c0 with mode:=u'' }::cs/\ ∃v,(results fn a'.tmps).run P w'= .ok v w'/\(∃v',Ending.returned v= .returned v')/\settle u''= .returning/\ ∃M' ρ',Ret M ρ w R .un R' undef M' ρ' w':=
   ⟨by rw[<-e5];exact hH'.dfr,u',rfl,v,hv,⟨v,rfl⟩,hu1,M',_,hret⟩
  rcases he with rfl|rfl<;>exact fin
 refine zn5 c ?_;rw[hc];refine wpS_region ?_
 have U:(a.put (some J) (rcV rv)).eval (.tmp J)=rcV rv:=by
  simp only[Act.eval];exact yV (by rw[hH.sz];exact h7')
 have hr:List.range (#[(⟨some J,.call ⟨.builtin .recover,#[],ts⟩,ty,ps,af,none⟩:Oper),⟨some t2,.assign (.tmp J),ty2,ps2,af2,none⟩]).size=[0,1]:=rfl;rw[hr];have hrec:=zfX rv (c0:=c0) (cs:=cs) hu;cases rv with
 |none=>
  simp only[rcV]at key U;simp only[wpOpsS,tl,List.getElem?_cons_zero,u6,Region.wanted,uW,zbx,hrec,zby,Oper.upon,U,Exit.thenS];exact key _ ⟨c0.mode,by rw[hu];rfl,rfl⟩
 |some v=>
  obtain⟨u',h1,h2⟩:=hrec;simp only[rcV]at key U;simp only[wpOpsS,tl,List.getElem?_cons_zero,u6,Region.wanted,uW,zbx,h2,zby,Oper.upon,U,Exit.thenS]
  simp_all
def cutSeq:Nat->Code->List Code×Code
 |0,c=>([],c)
 |n+1,.seq a b=>(a::(cutSeq n b).1,(cutSeq n b).2)
 |_+1,c=>([],c)
theorem zbA: ∀(n:Nat) (c:Code),c=(cutSeq n c).1.foldr Code.seq (cutSeq n c).2
 |0,_=>rfl
 |n+1,c=>by
  cases c with
  |seq a b=>simp only[cutSeq,List.foldr_cons];rw[<-zbA n b]
  |_=>rfl
theorem zkf{P:Program}{C:Ctx}{Q:Exit->St->Prop}{r:Code}{W:Exit->Act->World->Prop}
 (hQ: ∀a w,lift C Q .normal a w->r.wp P W a w) (hE: ∀e a w,e≠ .normal->lift C Q e a w->W e a w): ∀ {l:List Code} {c:Code} {st:St} {M:Mem} {ρ:Nat->Value} {a:Act} {w:World},
 Tri P C c st (unw P C (l.map Frm.seq) Q)->Holds C st M ρ a w->(Code.seq c (l.foldr Code.seq r)).wp P W a w
 | [],c,st,M,ρ,a,w,h,hH=>wp_seq (wp_mono (h M ρ a w hH) λe U w' hl=>by
   cases e with
   |normal=>exact hQ U w' hl
   |_=>exact hE _ U w' ue hl)
 |b::l,c,st,M,ρ,a,w,h,hH=>wp_seq (wp_mono (h M ρ a w hH) λe U w' hl=>by
  obtain⟨st',M',ρ',hq,J⟩:=hl;cases e with
  |normal=>exact zkf hQ hE (l:=l) hq J
  |_=>exact hE _ U w' ue ⟨st',M',ρ',zhv (l:=b::l) ue hq,J⟩)
def dfQ(T:Ty P)(rv:List ResultVar)(R:RL)(res:S)(R':RL)(g:FuncId)(caps:List V):Exit->St->Prop:=λe st=>
 ∃(rq:Option Value) (args:List S) (R1 R1':RL) (σ:Nat->Nat),(match rq with|none=>e= .ret\/e= .normal|some v=>e= .panic (chn v))/\zud P g args R1 rq R1'/\
  yG (ones caps) (Ss.ren σ args)/\okT (R1.ren σ) st/\injB σ R1.ids=true/\injB σ R1'.ids=true/\allB (λid=>Nat.ble 100 id&&freshB id st) ((zC R1 R1').map σ)=true/\yM (R1.ids++R1'.ids) R1'=true/\
  zcn T rv R res R' .ret ⟨st.n,st.sl,(tb (R1'.ren σ)++yF (R1.ids.map σ))++st.tab⟩
def dfA(T:Ty P)(rv:List ResultVar)(R:RL)(res:S)(R':RL)(n:Nat)(sl1:zb)(Rm:RL):Exit->St->Prop
 | .normal,st=> ∃σ:Nat->Nat,st.n=n/\mS σ st sl1/\mR σ st.tab Rm/\injB σ Rm.ids=true/\allB (λi=>Nat.beq (σ i) i) R.ids=true
 |e,st=>zcn T rv R res R' e st
def Holds.up{C':Ctx}{st1 st:St}{M1:Mem}{ρ1:Nat->Value}{a1 a:Act}{w1:World}(J:Holds C st1 M1 ρ1 a1 w1)(hw:C'.w0=w1)(hM:C'.M0=M1)(U: ∀b,C.fr b->C'.fr b)(h:Holds C' st M ρ a w)
 (hk: ∀id r,tg C.tab0 id=some r->ρ id=C.ρ0 id):Holds { C with df:=C'.df } st M ρ a w where
 dfr:=h.dfr
 sz:=h.sz
 slots:=h.slots
 zz:=h.zz
 ownf:=λid r b hr hb hn=>h.ownf id r b hr hb (U b hn)
 run:=⟨h.run.imm,λb hb=>by rw[h.run.fram b (U b hb),hw];exact J.run.fram b hb,tG J.run.size (by rw[<-hw];exact h.run.size),J.run.base.trans (by rw[<-hM];exact h.run.base),
  λb o v hv=>(h.run.newM b o v hv).elim (λe=>J.run.newM b o v (by simp_all)) (λhn=> .inr λhf=>hn (U b hf)),h.run.os.trans (by rw[hw];exact J.run.os),h.run.tape.trans (by rw[hw];exact J.run.tape),h.run.output.trans (by rw[hw];exact J.run.output)⟩
 keep:=hk
variable {caps:List V}{rv:List ResultVar}{ss:List S}
def zhx(T:Ty P){c0:Code}{cs:List Code}{id:Nat}{tm:Nat}{g:FuncId}{lo:List Operand}{ty ty2:TypeId}{ps2:String}{af2:Array Edge}{cB:Code}
 {sl1:zb} {Rm:RL}
 (hf:P.funcs[f]?=some fn) (hname:(fn.name== "runtime.NumGoroutine")=false) (hb:fn.body=some c)
 (hc:cutSeq m c=(c0::cs,.seq (.region id #[⟨some tm,.makeFunc (.func g) #[] lo.toArray,ty,ps,af,none⟩,⟨none,.defer ⟨.value (.tmp tm),#[],ts⟩,ty2,ps2,af2,none⟩] false) cB))
 (hrv:fn.results=rv.toArray) (hlow:allB (λi=>Nat.blt i 100) R.ids=true) (hn:Nat.ble args.length fn.ntmps=true) (htm:Nat.blt tm fn.ntmps=true)
 (hl:evs sl1 lo=some ss) (hcp:onesOf ss=some caps) (hlm:allB (λi=>Nat.blt i 100) Rm.ids=true) (hin:allB (λi=>hasB i Rm.ids) R.ids=true) (hcc:cloVs Rm.ids caps=true)
 (hA: ∀C:Ctx,C.low->Goal P C (.code c0) (cs.map Frm.seq) fn.ntmps (enum 0 args) (tb R) (dfA T rv R res R' fn.ntmps sl1 Rm))
 (hB: ∀C:Ctx,C.low->Goal P C (.code cB) [] fn.ntmps ((tm,.one (.cl g [] caps))::sl1) (tb Rm) (dfQ T rv R res R' g caps)):zh P f args R res R':=by
 refine⟨⟨fn,hf,hname,by rw[hb];rfl⟩,λM ρ w xs hx hT hI hG=>?_⟩;obtain⟨C,hC,e1,e2,e3,e4,e5,hH⟩:=vm hlow hn hx hT hI hG;have htm':tm<fn.ntmps:=by simpa [tH]using htm
 refine calls_of_wp_defers hf hb ?_;generalize ({ tmps:=xs.toArray++Array.replicate (fn.ntmps - xs.toArray.size) undef,defers:=[] }:Act)=a at hH⊢;rw[zbA m c,hc];simp only[List.foldr_cons]
 have fin: ∀ {C':Ctx} {st:St} {M':Mem} {ρ':Nat->Value} {U:Act} {w':World},C'.tab0=tb R->C'.w0=w->C'.M0=M->C'.ρ0=ρ->Holds C' st M' ρ' U w'->zcn T rv R res R' .ret st->
  ∃v,(results fn U.tmps).run P w'= .ok v w'/\ ∃v' M' ρ',Ending.returned v= .returned v'/\Ret M ρ w R res R' v' M' ρ' w':=λ{C' st M' ρ' U w'} k1 k2 k3 k4 J hq=>by
  obtain⟨he,σ,ss,g1,g2,g3,g4,g5⟩:=hq;obtain⟨v,hv,hrep⟩:=wz T hrv J g1;have hret:=zhu k1 J (σ:=σ) (g2 _ _ _ hrep) g3 g4 g5;rw[k2,k3,k4]at hret;exact⟨v,hv,v,M',_,rfl,hret⟩
 refine zkf (C:=C) ?_ ?_ (hA C hC) hH
 ·rintro U w' ⟨st,M',ρ',⟨σ,hsn,hms,hmr,hinj,hfix⟩,J⟩;have tk: ∀i r,tg (tb Rm) i=some r->tg st.tab (σ i)=some (r.ren σ):=λi r h=>zcC hmr (zF h)
  have ti: ∀i r,tg (tb Rm) i=some r->i∈Rm.ids:=λi r h=>zH (zF h)
  -- the context of what comes behind
  have hTm:xJ M' (λi=>ρ' (σ i)) w' (tb Rm):=⟨λi r hr=>(J.zz.res _ _ (tk i r hr)).ren,λi j ri rj b h1 h2 hne hb1 hb2=>J.zz.dis _ _ _ _ b (tk i ri h1) (tk j rj h2) (yt hinj i j (ti i ri h1) (ti j rj h2) hne) hb1 hb2,
   λi r b h1 hb=>J.zz.own _ _ b (tk i r h1) hb⟩
  have hgf: ∀p∈G2,¬zaO (tb Rm) (λi=>ρ' (σ i)) p.1:=λp hp ⟨id,r,h1,h2⟩=>by
   obtain⟨v,hv⟩:=zj4 p hp;have:=J.gok.le _ _ _ hv;rw[hTm.own id r p.1 h1 h2 0]at this;cases this
  have hvs:=(show RepVs M' (λi=>ρ' (σ i)) caps (lo.map U.eval) from by
   have hsl: ∀k s,sg sl1 k=some s->RepS M' (λi=>ρ' (σ i)) s (U.tmps.getD k undef):=λk s hk=>(RepS.ren s _).1 (J.slots k _ (zeo hms (zaP hk)))
   have hX:Holds ⟨w',M',λi=>ρ' (σ i),tb Rm,J.gok,hgf,U.defers⟩ ⟨fn.ntmps,sl1,tb Rm⟩ M' (λi=>ρ' (σ i)) U w':=
    ⟨rfl,by rw[<-hsn];exact J.sz,hsl,hTm,λid r b h1 h2 h3=>h3.2 ⟨id,r,h1,h2⟩,⟨J.run.imm,λ_ _=>rfl,uM _,MLe.refl _,λ_ _ _ h=> .inl h,rfl,rfl,rfl⟩,λ_ _ _=>rfl⟩
   have he:=w7 (st:=⟨fn.ntmps,sl1,tb Rm⟩) hl
   exact xu hcp (hX.zhi (wL he.1 he.2)))
  refine wp_seq (wp_region ?_);have hr:List.range (#[(⟨some tm,.makeFunc (.func g) #[] lo.toArray,ty,ps,af,none⟩:Oper),⟨none,.defer ⟨.value (.tmp tm),#[],ts⟩,ty2,ps2,af2,none⟩]).size=[0,1]:=rfl;rw[hr];have hmk:(execOp U.eval ⟨some tm,.makeFunc (.func g) #[] lo.toArray,ty,ps,af,none⟩).run P w'= .ok (.value (.func (.func g) #[] (lo.map U.eval).toArray)) w':=by simp[execOp,Instr.makeFunc]
  generalize lo.map U.eval=ys at hvs hmk
  have htv:(U.put (some tm) (.func (.func g) #[] ys.toArray)).eval (.tmp tm)= .func (.func g) #[] ys.toArray:=by
   simp only[Act.eval];exact yV (by rw[J.sz,hsn];exact htm')
  have hdf:(execOp (U.put (some tm) (.func (.func g) #[] ys.toArray)).eval ⟨none,.defer ⟨.value (.tmp tm),#[],ts⟩,ty2,ps2,af2,none⟩).run P w'= .ok (.defer ⟨.fn (.func g) ys.toArray,#[]⟩) w':=by
   simp[execOp,resolve,Deferred.ofValue,htv]
  let C1:Ctx:=⟨w',M',λi=>ρ' (σ i),tb Rm,J.gok,hgf,[⟨.fn (.func g) ys.toArray,#[]⟩]⟩
  have hC1:C1.low:=λi r h=>by
   have:=zy hlm i (zH (zF h));simpa [tH]using this
  have hH1:Holds C1 ⟨fn.ntmps,(tm,.one (.cl g [] caps))::sl1,tb Rm⟩ M' (λi=>ρ' (σ i)) ⟨(U.put (some tm) (.func (.func g) #[] ys.toArray)).tmps,⟨.fn (.func g) ys.toArray,#[]⟩::(U.put (some tm) (.func (.func g) #[] ys.toArray)).defers⟩ w':=by
   have hsl: ∀k s,sg sl1 k=some s->RepS M' (λi=>ρ' (σ i)) s (U.tmps.getD k undef):=λk s hk=>(RepS.ren s _).1 (J.slots k _ (zeo hms (zaP hk)))
   have hd:U.defers=[]:=by rw[J.dfr,e5]
   have hX:Holds ⟨w',M',λi=>ρ' (σ i),tb Rm,J.gok,hgf,[]⟩ ⟨fn.ntmps,sl1,tb Rm⟩ M' (λi=>ρ' (σ i)) U w':=
    ⟨hd,by rw[<-hsn];exact J.sz,hsl,hTm,λid r b h1 h2 h3=>h3.2 ⟨id,r,h1,h2⟩,⟨J.run.imm,λ_ _=>rfl,uM _,MLe.refl _,λ_ _ _ h=> .inl h,rfl,rfl,rfl⟩,λ_ _ _=>rfl⟩
   have hY:=hX.put (d:=tm) (s:= .one (.cl g [] caps)) (x:= .func (.func g) #[] ys.toArray) htm' (by
    simp only[RepS,RepV];exact⟨[],ys,rfl,by simp only[RepVs],hvs⟩)
   exact⟨by show _::U.defers=_;rw[hd],hY.sz,hY.slots,hY.zz,hY.ownf,⟨hY.run.imm,hY.run.fram,hY.run.size,hY.run.base,hY.run.newM,hY.run.os,hY.run.tape,hY.run.output⟩,hY.keep⟩
  have hup: ∀ {st2:St} {M2:Mem} {ρ2:Nat->Value} {a2:Act} {w2:World},Holds C1 st2 M2 ρ2 a2 w2->Holds { C with df:=C1.df } st2 M2 ρ2 a2 w2:=λ{st2 M2 ρ2 a2 w2} h=>by
   refine Holds.up J rfl rfl (λb hb=>⟨qJ hb.1 J.run.size,λ⟨i,r,h1,h2⟩=>J.ownf _ _ b (tk i r h1) h2 hb⟩) h λi r hr=>?_;rw[e4]at hr;have hi:=zH (zF hr);obtain⟨r2,hr2⟩:=vS (zW (zy hin i hi));have k1:ρ2 i=ρ' (σ i):=h.keep i r2 hr2;rw[k1,uA (zy hfix i hi)];exact J.keep i r (by rw[e4];exact hr)
  simp only[wpOps,tl,List.getElem?_cons_zero,u6,Region.wanted,uW,hmk,hdf,Oper.upon,Oper.wp,Exit.then];refine .inl (.inl (wp_mono (hB C1 hC1 M' _ _ w' hH1) λe a2 w2 hl2=>?_));obtain⟨st2,M2,ρ2,hq,hH2⟩:=hl2;simp only[unw]at hq;obtain⟨rq,args1,R1,R1',σ1,hex,hfd,hle,hT1,hi1,hi2,hfr1,hcl,hend⟩:=hq;have hd2:a2.defers=[⟨.fn (.func g) ys.toArray,#[]⟩]:=hH2.dfr
  have hcv:RepVs M2 ρ2 caps ys:=by
   refine RepVs.agree (X:=λi=>i∉Rm.ids) (ρ:=λi=>ρ' (σ i)) (λi hi=>?_) caps ys (λi hi=>xz hi caps hcc) (RepVs.mono hH2.run.base _ _ hvs);obtain⟨r2,hr2⟩:=vS (qT.1 hi);exact hH2.keep i r2 hr2
  have e6:RepSs M2 (λi=>ρ2 (σ1 i)) args1 ys:=(RepSs.ren _ _).1 (hle _ _ _ (yr hcv));have tk1: ∀i r,tg (tb R1) i=some r->tg st2.tab (σ1 i)=some (r.ren σ1):=λi r hm=>xc hT1 (zbv (zF hm))
  have e7:xJ M2 (λi=>ρ2 (σ1 i)) w2 (tb R1):=⟨λi r hr=>(hH2.zz.res _ _ (tk1 i r hr)).ren,
   λi j ri rj b h1 h2 hne hb1 hb2=>hH2.zz.dis _ _ _ _ b (tk1 i ri h1) (tk1 j rj h2) (yt hi1 i j (zH (zF h1)) (zH (zF h2)) hne) hb1 hb2,
   λi r b h1 hb=>hH2.zz.own _ _ b (tk1 i r h1) hb⟩
  have hi3:injB σ1 (zC R1 R1')=true:=by
   have key: ∀(l:List Nat) (p:Nat->Bool),injB σ1 l=true->injB σ1 (l.filter p)=true:=by
    intro l p
    induction l with
    |nil=>exact λh=>h
    |cons y ys ih=>
     intro h;simp only[injB,um,List.all_eq_true]at h;simp only[q8];split
     ·simp only[injB,um,List.all_eq_true];exact⟨λz hz=>h.1 z (qN.1 hz).1,ih h.2⟩
     ·exact ih h.2
   exact key _ _ hi2
  have hinv:(invoke (.fn (.func g) ys.toArray) #[]).run P w2= .ok (.enter g ys.toArray) w2:=by
   obtain⟨fng,k1,k2,k3⟩:=hfd.1;have hn': ¬(fng.name= "runtime.NumGoroutine"):=by simpa using k2
   have hp:program.run P w2= .ok P w2:=rfl;have hb': ¬fng.body=none:=λe=>by rw[e]at k3;cases k3
   simp[invoke,callFunc,k1,hn',hb',hp]
  have hcall:=hfd.2 M2 _ w2 ys e6 e7 hH2.run.imm hH2.gok
  have done:Leaves P fn a2.tmps (λe w'=> ∃v' M' ρ',e=Ending.returned v'/\Ret M ρ w R res R' v' M' ρ' w') [⟨.fn (.func g) ys.toArray,#[]⟩] (modeOf rq) w2:=by
   refine leaves_cons (by cases rq<;>simp[modeOf]) hinv (hcall.mono λe u' w3 ⟨⟨v,hv⟩,hu,M3,ρ3,hret⟩=>?_);subst hv;simp only[hu];obtain⟨ρ4,h4⟩:=hH2.called (d:=none) hret hT1 hi3 hi2 (j6 hC1 hfr1) rfl hcl rfl;exact fin (C':={ C with df:=C1.df }) e4 e1 e2 e3 (hup h4) hend
  cases rq with
  |none=>
   rcases hex with rfl|rfl
   ·simp only[bodyPostD,hd2];exact done
   ·simp only[bodyPostD,hd2];exact done
  |some v=>
   have hex:e= .panic (chn v):=hex;subst hex;simp only[bodyPostD,hd2];exact done
 ·rintro e U w' hne ⟨st,M',ρ',hq,J⟩
  have hq':zcn T rv R res R' e st:=by
   cases e with
   |normal=>exact absurd rfl hne
   |_=>exact hq
  obtain⟨he,hq2⟩:=hq';have hd:U.defers=[]:=by rw[J.dfr,e5]
  have:=fin e4 e1 e2 e3 J ⟨.inl rfl,hq2⟩;rcases he with rfl|rfl
  ·simp only[bodyPostD,hd,Leaves];exact this
  simp_all
variable {g0:Option (Nat×Bool)}{gs:zb}{pv:Value}{t:TypeId}
section
variable {k:List Frm} {n:Nat} {sl:zb}
def zue{o:Oper}{rs:zb}{rt:RL}{fr:List Nat}{wt:Tab}(hC:C.low)(U:zpW P all o rs rt fr pv wt)(hS:okS rs ⟨n,sl,tab⟩)(hT:okT rt ⟨n,sl,tab⟩)(hF:allB (λid=>Nat.ble 100 id&&freshB id ⟨n,sl,tab⟩) fr=true)
 (g:Goal P C (.fin (.panic (chn pv))) k n sl (wt++tab) Q):Goal P C (.ops all (o::rest) none) k n sl tab Q:=
 λM ρ a w hH=>wpList_step λK _=>U C ⟨n,sl,tab⟩ M ρ a w hH hS hT (j6 hC hF) K _ λM' ρ' w' J=>g M' ρ' a w' J
def zn6{l:List Operand}{ty:TypeId}(hC:C.low){first:List V}
 (h:yH P f args R pv R') (σ:Nat->Nat) (hx:ev sl x=some (.one (.cl f first caps))) (hl:evs sl l=some ss) (ha:yG (ones first++ss++ones caps) (Ss.ren σ args)) (hi:injB σ R.ids=true) (J:injB σ R'.ids=true)
 (U:yM (R.ids++R'.ids) R'=true) (hT:rdT tab (R.ren σ)=R.ren σ) (hfr:allB (λid=>Nat.ble 100 id&&freshB id ⟨n,sl,tab⟩) ((zC R R').map σ)=true) (hm:metL all sl g0=some gs)
 (g:Goal P C (.fin (.panic (chn pv))) k n sl ((tb (R'.ren σ)++yF (R.ids.map σ))++tab) Q):
 Goal P C (.ops all (⟨d,.call ⟨.value x,l.toArray,ts⟩,ty,ps,af,g0⟩::rest) none) k n sl tab Q:=by
 have e1:=xV (st:=⟨n,sl,tab⟩) hx;have e2:=w7 (st:=⟨n,sl,tab⟩) hl;have:=zde hm (zfT (ty:=ty) (ps:=ps) (af:=af) (g:=g0) (d:=d) (ts:=ts) h σ e1.1 e2.1 ha hi J U) (n:=n) (tab:=tab);exact zue hC this.1 (by rw[ze,ze];simp_all) (wM hT) hfr g
def zn7{v:Value}{ty:TypeId}(hC:C.low)(J:ev sl x=some (.one (.p (.k (.iface t v)))))(U:metL all sl g0=some gs)
 (g:Goal P C (.fin (.panic (chn (.iface t v)))) k n sl tab Q):Goal P C (.ops all (⟨d,.panic x,ty,ps,af,g0⟩::rest) none) k n sl tab Q:=by
 have e1:=xV (st:=⟨n,sl,tab⟩) J;have:=zde U (zrd (P:=P) (ty:=ty) (ps:=ps) (af:=af) (g:=g0) (d:=d) e1.1) (n:=n) (tab:=tab);exact zue (wt:=[]) hC this.1 (by rw[ze];simp_all) trivial rfl g
end
variable {pe:Value}
section
variable {ty:TypeId}
theorem zkg{M:Mem}{ρ:Nat->Value}: ∀ {vs cs:List Value},RepVs M ρ (vs.map λv=>V.p (.k v)) cs->cs=vs/\ ∀v∈vs,v.oneCell'=true
 | [],[],_=>⟨rfl,λ_ h=>by cases h⟩
 | [],_::_,h=>by simp only[tI,RepVs]at h
 |_::_,[],h=>by simp only[uH,RepVs]at h
 |v::vs,c::cs,h=>by
  simp only[uH,RepVs,RepV,RepPV]at h;obtain⟨⟨rfl,h1⟩,h2⟩:=h;obtain⟨rfl,h3⟩:=zkg h2
  simp_all
theorem zcF{M:Mem}{ρ:Nat->Value}: ∀ {vs:List Value},(∀v∈vs,v.oneCell'=true)->RepVs M ρ (vs.map λv=>V.p (.k v)) vs
 | [],_=>by simp only[tI,RepVs]
 |v::vs,h=>by
  simp only[uH,RepVs,RepV,RepPV];exact⟨⟨uh,h v ue⟩,zcF λx J=>h x (by simp[J])⟩
def notIfc(P:Program)(t:TypeId):Bool:=match P.underlying t with
 |some (.interface _)=>false
 |some _=>true
 |none=>false
def zbB(h:notIfc P t=true): ∃u,P.underlying t=some u/\ ∀ms,u≠ .interface ms:=by
 unfold notIfc at h
 grind
def zwS{vs:List Value}(hx:okc x (.agg (vs.map λv=> .p (.k v))))(hu:notIfc P t=true):
 Snd P ⟨d,.makeInterface t x,ty,ps,af,g⟩ (rq x (.agg (vs.map λv=> .p (.k v)))) [] [] (.one (.p (.k (.iface t (.agg vs.toArray))))) []:=
 zi λC st M ρ a w hH h1 hT=>by
  have U:=hH.evS (zq hx h1);simp only[RepS]at U;obtain⟨cs,e2,e3⟩:=U;obtain⟨rfl,_⟩:=zkg e3;obtain⟨u,J,hu2⟩:=zbB hu
  exact⟨.iface t (.agg cs.toArray),by
   cases u with
   |interface ms=>simp_all
   |_=>simp[execOp,e2,Instr.makeInterface,run_underlying J,Result.andThen],by simp only[RepS,RepV,RepPV];exact⟨uh,rfl⟩⟩
def zwT{xT:TypeId}{vs:List Value}(hx:okc x (.one (.p (.k (.iface t (.agg vs.toArray))))))(hu:notIfc P t=true)(hv:vs.all Value.oneCell'=true):
 Snd P ⟨d,.typeAssert x xT t true,ty,ps,af,g⟩ (rq x (.one (.p (.k (.iface t (.agg vs.toArray)))))) [] [] (.tup [.agg (vs.map λv=> .p (.k v)),Bo true]) []:=
 zi λC st M ρ a w hH h1 hT=>by
  have e1:=hH.evS (zq hx h1);simp only[RepS,RepV,RepPV]at e1;obtain⟨u,J,hu2⟩:=zbB hu;refine⟨.tuple #[.agg vs.toArray,.bool true],?_,?_⟩
  ·rw[show execOp a.eval ⟨d,.typeAssert x xT t true,ty,ps,af,g⟩=Instr.typeAssert (a.eval x) xT t true >>= λv=>pure (.value v) from by simp[execOp]];rw[e1.1];cases u with
   |interface ms=>simp_all
   |_=>simp[Instr.typeAssert,run_underlying J,go_sem,Result.andThen]
  ·simp only[RepS];refine⟨[.agg vs.toArray,.bool true],rfl,?_⟩;simp only[RepSs,RepS,RepV,RepPV];exact⟨⟨vs,rfl,zcF λv U=>List.all_eq_true.1 hv v U⟩,⟨uh,rfl⟩,uh⟩
def zwU{t' te:TypeId}{neg:Bool}(hx:okc x (.one (.p (.k (.iface te pe)))))(J:isIfc P t=true):
 Snd P ⟨d,.binOp (if neg=true then .neq else .eql) t x (.const .nilIface) t',ty,ps,af,g⟩ (rq x (.one (.p (.k (.iface te pe))))) [] [] (Bo neg) []:=
 zi λC st M ρ a w hH h1 hT=>by
  obtain⟨ms,J⟩:=zau J;have U:=hH.evS (zq hx h1);simp only[RepS,RepV,RepPV]at U;have h: ∀q:Nat,(Op.equalIn (q+1) t (.iface te pe) .nilIface).run P w= .ok false w:=λq=>by simp[Op.equalIn,run_underlying J]
  have e0:a.eval (.const .nilIface)= .nilIface:=rfl;refine⟨.bool neg,?_,znS neg⟩;cases neg with
  |true=>
   simp only[execOp,uW,U.1,e0,Sem.run_bind];simp[eqGuard,binOp,Op.equal,Op.maxDepth,h 9999,Sem.run_pure]
  |false=>
   simp only[execOp,uB,uN,U.1,e0,Sem.run_bind];simp[eqGuard,binOp,Op.equal,Op.maxDepth,h 9999,Sem.run_pure]
end
variable {md:Mode}
section
variable {k:List Frm} {n:Nat} {sl:zb}
def zbC{d:Nat}{ty:TypeId}(hC:C.low)(vs:List Value)(J:ev sl x=some (.agg (vs.map λv=> .p (.k v))))(U:notIfc P t=true)(hm:metL all sl g0=some gs)(hd:Nat.blt d n=true)
 (g:Goal P C (.ops all rest (nx md ⟨some d,gs++rq x (.agg (vs.map λv=> .p (.k v))),[],[],.one (.p (.k (.iface t (.agg vs.toArray)))),[]⟩)) k n ((d,.one (.p (.k (.iface t (.agg vs.toArray)))))::sl) tab Q):
 Goal P C (.ops all (⟨some d,.makeInterface t x,ty,ps,af,g0⟩::rest) md) k n sl tab Q:=
 gDo hC hm (zwS (t:=t) (ev1 J) U) (ev2 J) trivial rfl hd g
def zrm{d:Nat}{xT ty:TypeId}(hC:C.low)(vs:List Value)(J:ev sl x=some (.one (.p (.k (.iface t (.agg vs.toArray))))))(U:notIfc P t=true)(hv:vs.all Value.oneCell'=true)(hm:metL all sl g0=some gs)(hd:Nat.blt d n=true)
 (g:Goal P C (.ops all rest (nx md ⟨some d,gs++rq x (.one (.p (.k (.iface t (.agg vs.toArray))))),[],[],.tup [.agg (vs.map λv=> .p (.k v)),Bo true],[]⟩)) k n ((d,.tup [.agg (vs.map λv=> .p (.k v)),Bo true])::sl) tab Q):
 Goal P C (.ops all (⟨some d,.typeAssert x xT t true,ty,ps,af,g0⟩::rest) md) k n sl tab Q:=
 gDo hC hm (zwT (xT:=xT) (ev1 J) U hv) (ev2 J) trivial rfl hd g
def zkh{d:Nat}{t' te ty:TypeId}(hC:C.low)(J:ev sl x=some (.one (.p (.k (.iface te pe)))))(U:isIfc P t=true)(hm:metL all sl g0=some gs)(hd:Nat.blt d n=true)
 (g:Goal P C (.ops all rest (nx md ⟨some d,gs++rq x (.one (.p (.k (.iface te pe)))),[],[],Bo true,[]⟩)) k n ((d,Bo true)::sl) tab Q):
 Goal P C (.ops all (⟨some d,.binOp .neq t x (.const .nilIface) t',ty,ps,af,g0⟩::rest) md) k n sl tab Q:=
 gDo hC hm (zwU (t':=t') (neg:=true) (ev1 J) U) (ev2 J) trivial rfl hd g
end
section
variable {k:List Frm} {n:Nat} {sl:zb} {cur:Cur}
def zrn(id:Nat){ids:List Nat}{e:Nat}{rows:List (List PC)}(U:lst cur=true)(J:tg tab id=some (.vw ids e rows))(g:rows.length<=9223372036854775807->Goal P C cur k n sl tab Q):Goal P C cur k n sl tab Q:=
 zep (λa r p e=>by subst e;cases U) (λ{M ρ a w} h=>by
  obtain⟨_,_,_,h1,h2,_⟩:=h.zz.res id _ J
  omega) g
def zki(id:Nat){e:Nat}{rows:List (List PV)}(U:lst cur=true)(J:tg tab id=some (.arr e rows))(g:rows.length<=9223372036854775807->Goal P C cur k n sl tab Q):Goal P C cur k n sl tab Q:=
 zep (λa r p e=>by subst e;cases U) (λ{M ρ a w} h=>by
  obtain⟨_,_,_,h1,h2,_⟩:=h.zz.res id _ J
  omega) g
end
def zwV(T:Ty P)(rv:List ResultVar)(R:RL):End->Exit->St->Prop
 | .ok res R'=>zcn T rv R res R'
 | .pn pv R'=>ztU pv R R'
 | .no=>λ_ _=>True
theorem zxP(T:Ty P){en:End}(hf:P.funcs[f]?=some fn)
 (J:(fn.name== "runtime.NumGoroutine")=false) (hb:fn.body=some c) (hrv:fn.results=rv.toArray) (U:allB (λi=>Nat.blt i 100) R.ids=true)
 (hn:Nat.ble args.length fn.ntmps=true) (body: ∀C:Ctx,C.low->Goal P C (.code c) [] fn.ntmps (enum 0 args) (tb R) (zwV T rv R en)):FnX P f args R en:=by
 cases en with
 |ok res R'=>exact zro T hf J hb hrv U hn body
 |pn pv R'=>exact ztV T hf J hb U hn body
 |no=>trivial
section
variable {n:Nat} {sl:zb} {T:Ty P}
def zdj{e:Exit}(h:zcn T rv R res R' e ⟨n,sl,tab⟩):Goal P C (.fin e) [] n sl tab (zwV T rv R (.ok res R')):=zK h
def zeq{e:Exit}(h:ztU pv R R' e ⟨n,sl,tab⟩):Goal P C (.fin e) [] n sl tab (zwV T rv R (.pn pv R')):=zK h
end
theorem zdk(σ:Nat->Nat): ∀ {A B:RL},(A++B).ren σ=A.ren σ++B.ren σ
 | [],_=>rfl
 |(i,r)::A,B=>by simp only[uK,RL.ren,zdk σ (A:=A)]
theorem zhy: ∀ {A B:RL},RL.ids (A++B)=A.ids++B.ids
 | [],_=>rfl
 |(i,r)::A,B=>by simp only[uK,RL.ids,zhy (A:=A)]
theorem zkj: ∀ {A B:RL},tb (A++B)=tb A++tb B
 | [],_=>rfl
 |(i,r)::A,B=>by simp only[uK,tb,zkj (A:=A)]
theorem zhz{i:Nat}: ∀ {l:List Nat} {t:Tab},i∈l->tg (yF l++t) i=none
 |x::l,t,h=>by
  simp only[yF,uK,zm];split
  ·rfl
  ·rename_i ne;rcases uF.1 h with e|h
   ·omega
   ·exact zhz h
variable {i:Nat}
theorem zhA{Rw Rr Rw':RL}(hT: ∀j s,(j,s)∈Rr.ren σ->tg tab j=some s){r:Res}(h:tg ((tb (Rw'.ren σ)++yF (Rw.ids.map σ))++tab) i=some r):
 tg ((tb ((Rw'++Rr).ren σ)++yF ((RL.ids (Rw++Rr)).map σ))++tab) i=some r:=by
 rw[zdk,zhy,zkj,u5];simp only[tE]at h⊢;cases h1:hasB i (keysT (tb (Rw'.ren σ)))with
 |true=>
  rw[wg (b':=[]) h1]at h⊢;exact h
 |false=>
  rw[yN h1]at h⊢;rcases Classical.em (i∈Rw.ids.map σ)with U|U
  ·rw[zhz U]at h;cases h
  ·rw[zbt U]at h;refine zjZ hT (λJ=>?_) h;rcases tp.1 J with J|J
   ·exact absurd J U
   ·rw[zfR];exact J
section
variable {ty:TypeId}
def zrp{Rw Rr Rw':RL}(h:zh P f args (Rw++Rr) res (Rw'++Rr))(σ:Nat->Nat){l:List Operand}{first:List V}
 (hx:okc x (.one (.cl f first caps))) (hl:zcm l ss) (J:yG (ones first++ss++ones caps) (Ss.ren σ args)) (hi:injB σ (RL.ids (Rw++Rr))=true) (U:injB σ (RL.ids (Rw'++Rr))=true)
 (hc:cloS (RL.ids (Rw++Rr)++RL.ids (Rw'++Rr)) res=true) (hcR:yM (RL.ids (Rw++Rr)++RL.ids (Rw'++Rr)) (Rw'++Rr)=true):
 Snd P ⟨d,.call ⟨.value x,l.toArray,ts⟩,ty,ps,af,g⟩ (rq x (.one (.cl f first caps))++rqs l ss) ((Rw++Rr).ren σ) ((zC (Rw++Rr) (Rw'++Rr)).map σ) (res.ren σ) (tb (Rw'.ren σ)++yF (Rw.ids.map σ)):=by
 intro C st M ρ a w hH h1 hT hF hd k Q hk;refine zhm h σ hx hl J hi U hc hcR C st M ρ a w hH h1 hT hF hd k Q λa' w' M' ρ' hH'=>hk a' w' M' ρ' ?_
 refine hH'.shift rfl rfl λi r hr=>?_;exact zhA (λj s hm=>xc hT (by rw[zdk];simp_all)) hr
end
section
variable {k:List Frm} {n:Nat} {sl:zb}
def zrq{l:List Operand}{ty:TypeId}(hC:C.low){first:List V}{Rw Rr Rw':RL}
 (h:zh P f args (Rw++Rr) res (Rw'++Rr)) (σ:Nat->Nat) (hx:ev sl x=some (.one (.cl f first caps))) (hl:evs sl l=some ss) (ha:yG (ones first++ss++ones caps) (Ss.ren σ args)) (hi:injB σ (RL.ids (Rw++Rr))=true) (J:injB σ (RL.ids (Rw'++Rr))=true)
 (hc:cloS (RL.ids (Rw++Rr)++RL.ids (Rw'++Rr)) res=true) (U:yM (RL.ids (Rw++Rr)++RL.ids (Rw'++Rr)) (Rw'++Rr)=true) (hT:rdT tab ((Rw++Rr).ren σ)=(Rw++Rr).ren σ) (hfr:allB (λid=>Nat.ble 100 id&&freshB id ⟨n,sl,tab⟩) ((zC (Rw++Rr) (Rw'++Rr)).map σ)=true) (hm:metL all sl g0=some gs) (hd:dok d n=true)
 (g:Goal P C (.ops all rest (nx md ⟨d,gs++(rq x (.one (.cl f first caps))++rqs l ss),(Rw++Rr).ren σ,(zC (Rw++Rr) (Rw'++Rr)).map σ,res.ren σ,tb (Rw'.ren σ)++yF (Rw.ids.map σ)⟩)) k n (app d (res.ren σ) (tb (Rw'.ren σ)++yF (Rw.ids.map σ)) ⟨n,sl,tab⟩).sl ((tb (Rw'.ren σ)++yF (Rw.ids.map σ))++tab) Q):
 Goal P C (.ops all (⟨d,.call ⟨.value x,l.toArray,ts⟩,ty,ps,af,g0⟩::rest) md) k n sl tab Q:=
 gDo hC hm (zrp h σ (ev1 hx) (es1 hl) ha hi J hc U) (okA (ev2 hx) (es2 hl)) (wM hT) hfr hd g
end
section
variable {ty:TypeId}
def zn8{Rw Rr Rw':RL}(h:yH P f args (Rw++Rr) pv (Rw'++Rr))(σ:Nat->Nat){l:List Operand}{first:List V}
 (hx:okc x (.one (.cl f first caps))) (hl:zcm l ss) (J:yG (ones first++ss++ones caps) (Ss.ren σ args)) (hi:injB σ (RL.ids (Rw++Rr))=true) (U:injB σ (RL.ids (Rw'++Rr))=true)
 (hcR:yM (RL.ids (Rw++Rr)++RL.ids (Rw'++Rr)) (Rw'++Rr)=true):
 PnO P ⟨d,.call ⟨.value x,l.toArray,ts⟩,ty,ps,af,g⟩ (rq x (.one (.cl f first caps))++rqs l ss) ((Rw++Rr).ren σ) ((zC (Rw++Rr) (Rw'++Rr)).map σ) pv (tb (Rw'.ren σ)++yF (Rw.ids.map σ)):=by
 intro C st M ρ a w hH h1 hT hF K Q hk;refine zfT h σ hx hl J hi U hcR C st M ρ a w hH h1 hT hF K Q λM' ρ' w' hH'=>hk M' ρ' w' ?_
 refine hH'.shift rfl rfl λi r hr=>?_;exact zhA (λj s hm=>xc hT (by rw[zdk];simp_all)) hr
end
end Hw
namespace Hw
open Go Go.MapKept
structure zdl (P:Program) (kt:TypeId) (K:Type) where
 enc:K->Value
 s:K->S
 rep: ∀ {M:Mem} {ρ:Nat->Value} {k:K} {v:Value},RepS M ρ (s k) v->v=enc k
 inj: ∀ {a b:K},enc a=enc b->a=b
 check: ∀(w:World) (em:Bool) (k:K),(Instr.checkKey em 10000 kt (enc k)).run P w= .ok () w
 find: ∀(w:World) (k:K) (es:List MapEntry),(∀e∈es,∃k',e.key=enc k')->
  ((Instr.findKey kt (enc k) es).run P w= .ok none w/\ ∀e∈es,e.key≠enc k)\/ ∃j e,(Instr.findKey kt (enc k) es).run P w= .ok (some (j,e.val)) w/\es[j]?=some e/\e.key=enc k
 stays: ∀(w:World) (k:K),(Instr.keyThatStays (enc k) (enc k)).run P w= .ok (enc k) w
variable {P:Program}{kt:TypeId}
def zyd(h:P.underlying kt=some .string):zdl P kt ByteArray where
 enc:=λs=> .string s
 s:=Sr
 rep:=λ{M ρ k v} hr=>by simp only[RepS,RepV,RepPV]at hr;exact hr.1
 inj:=λe=>by simpa using e
 check:=λw em k=>run_checkKey h (by simp[IsKey]) em _
 find:=λw k es hes=>by
  rcases findNow_spec (d:= .string) (k:= .string k) (by simp[IsKey]) es 0 (λx hx=>by obtain⟨k',e⟩:=hes x hx;rw[e];simp[IsKey])with⟨h1,h2⟩|⟨j,e,h1,h2,h3⟩
  ·exact .inl ⟨run_findKey h h1,h2⟩
  ·exact .inr ⟨j,e,by rw[tJ]at h1;exact run_findKey h h1,h2,h3⟩
 stays:=λw k=>run_keyThatStays (d:= .string) (by simp[IsKey])
def evS:EV->S
 | .o x=> .one (.p x)
 | .g row=> .agg (row.map V.p)
theorem zkk{M:Mem}{ρ:Nat->Value}: ∀ {row:List PV} {cs:List Value},RepVs M ρ (row.map V.p) cs↔RepPVl M row cs
 | [],[]=>by simp[RepVs,RepPVl]
 | [],_::_=>by simp[RepVs,RepPVl]
 |_::_,[]=>by simp[RepVs,RepPVl]
 |x::xs,c::cs=>by simp only[uH,RepVs,RepV,RepPVl,zkk (row:=xs)]
variable {M:Mem}{ρ:Nat->Value}
theorem zer{e:EV}{v:Value}:RepS M ρ (evS e) v↔RepEV M e v:=by
 cases e with
 |o x=>simp only[evS,RepS,RepV,RepEV]
 |g row=>simp only[evS,RepS,RepEV,zkk]
variable {K:Type}{κ:zdl P kt K}
section
variable [DecidableEq K]
def yn(κ:zdl P kt K)(l:List (K×EV)):List (Value×EV):=l.map λp=>(κ.enc p.1,p.2)
def getG:List (K×EV)->K->Option EV
 | [],_=>none
 |(a,b)::r,k=>if a=k then some b else getG r k
def putG:List (K×EV)->K->EV->List (K×EV)
 | [],k,v=>[(k,v)]
 |(a,b)::r,k,v=>if a=k then(k,v)::r else(a,b)::putG r k v
def zbD:List (K×EV)->K->List (K×EV)
 | [],_=>[]
 |(a,b)::r,k=>if a=k then r else(a,b)::zbD r k
theorem jk(l:List (K×EV))(k k':K)(v:EV):getG (putG l k v) k'=if k=k' then some v else getG l k':=by
 induction l with
 |nil=>simp[putG,getG]
 |cons x r ih=>
  obtain⟨a,b⟩:=x;simp only[putG];by_cases h:a=k
  ·subst h;simp only[uW,getG];split<;>rfl
  ·rw[ur h];simp only[getG,ih]
   grind
theorem zbE{κ:zdl P kt K}{M:Mem}: ∀ {l:List (K×EV)} {ms:List MapEntry},EntsG M (yn κ l) ms->ms.map (·.key)=l.map λp=>κ.enc p.1
 | [],[],_=>rfl
 | [],_::_,h=>by simp[yn,EntsG]at h
 |_::_,[],h=>by simp[yn,EntsG]at h
 |(a,b)::l,m::ms,h=>by
  have J:m.key=κ.enc a/\RepEV M b m.val/\EntsG M (yn κ l) ms:=by simpa only[yn,uH,EntsG]using h
  simp only[uH,J.1,zbE J.2.2]
def zdm{l:List (K×EV)}{ms:List MapEntry}(h:EntsG M (yn κ l) ms): ∀e∈ms,∃k',e.key=κ.enc k':=λe J=>by
 have:e.key∈ms.map (·.key):=tO.2 ⟨e,J,rfl⟩;rw[zbE h]at this
 grind
theorem j7{κ:zdl P kt K}{M:Mem}{k:K}: ∀ {l:List (K×EV)} {ms:List MapEntry},EntsG M (yn κ l) ms->(∀e∈ms,e.key≠κ.enc k)->getG l k=none/\(∀v,putG l k v=l++[(k,v)])/\zbD l k=l
 | [],_,_,_=>⟨rfl,λ_=>rfl,rfl⟩
 |_::_,[],h,_=>by simp[yn,EntsG]at h
 |(a,b)::l,m::ms,h,hn=>by
  have J:m.key=κ.enc a/\RepEV M b m.val/\EntsG M (yn κ l) ms:=by simpa only[yn,uH,EntsG]using h
  have e: ¬a=k:=λe=>hn m ue (by rw[J.1,e])
  obtain⟨U,h2,h3⟩:=j7 J.2.2 λe he=>hn e (u3 _ he)
  exact⟨by simp only[getG,ur e,U],λv=>by simp only[putG,ur e,h2 v,uK],by simp only[zbD,ur e,h3]⟩
theorem zdn{κ:zdl P kt K}{M:Mem}{k:K}{e:MapEntry}: ∀ {l:List (K×EV)} {ms:List MapEntry} {j:Nat},EntsG M (yn κ l) ms->((yn κ l).map (·.1)).Nodup->ms[j]?=some e->e.key=κ.enc k->
 (∃x,getG l k=some x/\RepEV M x e.val)/\(∀v c,RepEV M v c->EntsG M (yn κ (putG l k v)) (ms.modify j λe=>{ e with key:=κ.enc k,val:=c })/\((yn κ (putG l k v)).map (·.1))=(yn κ l).map (·.1))/\EntsG M (yn κ (zbD l k)) (ms.eraseIdx j)/\((yn κ (zbD l k)).map (·.1)).Sublist ((yn κ l).map (·.1))
 | [],[],_,_,_,hj,_=>by simp at hj
 | [],_::_,_,h,_,_,_=>by simp[yn,EntsG]at h
 |_::_,[],_,h,_,_,_=>by simp_all
 |(a,b)::l,m::ms,j,h,hnd,hj,hk=>by
  have h':m.key=κ.enc a/\RepEV M b m.val/\EntsG M (yn κ l) ms:=by simpa only[yn,uH,EntsG]using h
  have J:κ.enc a∉(yn κ l).map (·.1)/\((yn κ l).map (·.1)).Nodup:=by simpa only[yn,uH,qm]using hnd
  cases j with
  |zero=>
   simp only[List.getElem?_cons_zero,ui]at hj;subst hj;have e:a=k:=κ.inj (h'.1.symm.trans hk);subst e;refine⟨⟨b,by simp only[getG,uW],h'.2.1⟩,λv c hc=>⟨?_,?_⟩,?_,?_⟩
   ·simp only[putG,uW,yn,uH,EntsG,Ug];exact⟨uh,hc,by simpa only[yn]using h'.2.2⟩
   ·simp only[putG,uW,yn,uH]
   ·simp only[zbD,uW,List.eraseIdx_zero,List.tail_cons];exact h'.2.2
   ·simp only[zbD,uW,yn,uH];simp_all
  |succ j=>
   simp only[u6]at hj
   have ne: ¬a=k:=λe=>by
    subst e;have U:e.key∈ms.map (·.key):=tO.2 ⟨e,uv hj,rfl⟩;rw[zbE h'.2.2]at U
    apply J.1
    rw[<-hk];simpa only[yn,qM,Function.comp_def]using U
   obtain⟨⟨x,h1,h2⟩,h3,h4,h5⟩:=zdn h'.2.2 J.2 hj hk;refine⟨⟨x,by simp only[getG,ur ne,h1],h2⟩,λv c hc=>⟨?_,?_⟩,?_,?_⟩
   ·have:=(h3 v c hc).1;simp only[putG,ur ne,yn,uH,EntsG,Uh]at this⊢
    simp_all
   ·have:=(h3 v c hc).2;simp only[putG,ur ne,yn,uH]at this⊢;rw[this]
   ·simp only[zbD,ur ne,List.eraseIdx_cons_succ,yn,uH,EntsG]at h4⊢
    simp_all
   ·simp only[zbD,ur ne,yn,uH]at h5⊢
    simp_all
theorem EntsG.append{M:Mem}: ∀ {a b:List (Value×EV)} {x y:List MapEntry},EntsG M a x->EntsG M b y->EntsG M (a++b) (x++y)
 | [],_,[],_,_,h=>by simpa using h
 | [],_,_::_,_,h,_=>by simp only[EntsG]at h
 |_::_,_,[],_,h,_=>by simp only[EntsG]at h
 |(p,q)::a,_,x::xs,_,h,h'=>by
  simp only[EntsG,uK]at h⊢;exact⟨h.1,h.2.1,h.2.2.append h'⟩
end
variable {af:Array Edge}{d:Option Nat}{k0:K}{ps:String}
section
variable [DecidableEq K] {ty:TypeId} {g:Option (Nat×Bool)} {x y u:Operand} {t et:TypeId}
def ziS{id:Nat}:Snd P ⟨d,.makeMap t none,ty,ps,af,g⟩ [] [] [id] (.one (.mp id)) [(id,some (.mpg []))]:=by
 intro C st M ρ a w hH h1 hT hF hd k Q hk
 have J:(execOp a.eval ⟨d,.makeMap t none,ty,ps,af,g⟩).run P w= .ok (.value (.map (some w.heap.size))) (w.alloc (.map #[] 0)):=by
  simp[execOp,Instr.makeMap]
 unfold Oper.wp;rw[J,Oper.upon_value]
 refine hk _ _ M _ (hH.alloc (val:= .map (some w.heap.size)) (λb U=>by simp only[Bk,blk,ui]at U;exact U.symm) hF.1
  ⟨w.heap.size,#[],0,zo _ _ _,zJ w _,by simp[EntsG],ue,ue,ue⟩ (by simp only[RepS,RepV];exact⟨(zo _ _ _).symm,rfl⟩) hd)
def zes{id:Nat}{l:List (K×EV)}{ok:Bool}{c0:Value}{z:EV}(hx:okc x (.one (.mp id)))(hy:okc y (κ.s k0))(hu:P.underlying t=some (.map kt et))(J:(P.info? et).bind (·.zero)=some c0)(h0: ∀M,RepEV M z c0):
 Snd P ⟨d,.lookup t x y ok,ty,ps,af,g⟩ (rq x (.one (.mp id))++rq y (κ.s k0)) [(id,.mpg (yn κ l))] []
  (if ok then .tup [evS ((getG l k0).getD z),.bq (getG l k0).isSome]else evS ((getG l k0).getD z)) []:=
 zi λC st M ρ a w hH h1 ht=>by
  rw[ze]at h1;have e1:=hH.evS (zq hx h1.1);have e2:=κ.rep (hH.evS (zq hy h1.2));simp only[RepS,RepV]at e1;obtain⟨r,ms,cl,h2,h3,h4,h5,h6,h7⟩:=hH.zz.res id _ ht.1;have U:a.eval x= .map (some r):=e1.1.trans h2
  have hz1:(zeroValue et).run P w= .ok c0 w:=by
   cases hi:P.info? et with
   |none=>rw[hi]at J;cases J
   |some i=>rw[hi]at J;simp only[qf]at J;simp[zeroValue,typeInfo,hi,J]
  rcases κ.find w k0 ms.toList (zdm h4)with⟨g1,g2⟩|⟨j,e,g1,g2,g3⟩
  ·obtain⟨g4,_,_⟩:=j7 h4 g2;refine⟨if ok then .tuple #[c0,.bool false]else c0,?_,?_⟩
   ·simp[execOp,U,e2,Instr.lookup,run_underlying hu,run_getObj_map h3,κ.check,g1,hz1,Result.andThen]
   ·cases ok
    ·simp only[uB,uN,g4,oC];exact zer.2 (h0 M)
    ·simp only[uW,g4,oC,Option.isSome_none,RepS];exact⟨[c0,.bool false],rfl,by simp only[RepSs,RepS];exact⟨zer.2 (h0 M),trivial,uh⟩⟩
  ·obtain⟨⟨x,g4,g5⟩,_⟩:=zdn h4 h7 g2 g3;refine⟨if ok then .tuple #[e.val,.bool true]else e.val,?_,?_⟩
   ·simp[execOp,U,e2,Instr.lookup,run_underlying hu,run_getObj_map h3,κ.check,g1,Result.andThen]
   ·cases ok
    ·simp only[uB,uN,g4,Option.getD_some];exact zer.2 g5
    ·simp only[uW,g4,Option.getD_some,Option.isSome_some,RepS];exact⟨[e.val,.bool true],rfl,by simp only[RepSs,RepS];exact⟨zer.2 g5,trivial,uh⟩⟩
theorem ziT{l:List (K×EV)}{v:EV}(h:((yn κ l).map (·.1)).Nodup):((yn κ (putG l k0 v)).map (·.1)).Nodup:=by
 have key: ∀(l:List (K×EV)),∀q,q∈(yn κ (putG l k0 v)).map (·.1)->q=κ.enc k0\/q∈(yn κ l).map (·.1):=λl=>by
  induction l with
  |nil=>intro q J;simp only[putG,yn,uH,tI,tv]at J;exact .inl J
  |cons p l U=>
   obtain⟨a,b⟩:=p;intro q J;simp only[putG]at J;by_cases e:a=k0
   ·subst e;rw[uw rfl]at J;simp only[yn,uH,uF]at J⊢;rcases J with h|h
    ·exact .inl h
    ·exact .inr (.inr h)
   ·rw[ur e]at J;simp only[yn,uH,uF]at J⊢;rcases J with h|h
    ·exact .inr (.inl h)
    ·rcases U q (by simpa only[yn]using h)with h|h
     ·exact .inl h
     ·exact .inr (.inr (by simpa only[yn]using h))
 induction l with
 |nil=>simp[putG,yn]
 |cons p l U=>
  obtain⟨a,b⟩:=p;have h':κ.enc a∉(yn κ l).map (·.1)/\((yn κ l).map (·.1)).Nodup:=by simpa only[yn,uH,qm]using h
  simp only[putG];by_cases e:a=k0
  ·subst e;rw[uw rfl];simpa only[yn,uH,qm]using h
  ·rw[ur e]
   have hn:κ.enc a∉(yn κ (putG l k0 v)).map (·.1):=λhm=>by
    rcases key l _ hm with h|h
    ·exact e (κ.inj h)
    ·exact h'.1 h
   have:=U h'.2;simp only[yn,uH,qm]at hn this⊢
   grind
def zaQ{id:Nat}{l:List (K×EV)}{v:EV}(hx:okc x (.one (.mp id)))(hy:okc y (κ.s k0))(hv:okc u (evS v))(hu:P.underlying t=some (.map kt et)):
 Snd P ⟨d,.mapUpdate t x y u,ty,ps,af,g⟩ (rq x (.one (.mp id))++rq y (κ.s k0)++rq u (evS v)) [(id,.mpg (yn κ l))] [] .un [(id,some (.mpg (yn κ (putG l k0 v))))]:=by
 intro C st M ρ a w hH h1 hT hF hd k Q hk;rw[ze,ze]at h1;have e1:=hH.evS (zq hx h1.1.1);have e2:=κ.rep (hH.evS (zq hy h1.1.2));have e3:=zer.1 (hH.evS (zq hv h1.2));simp only[RepS,RepV]at e1;obtain⟨r,ms,cl,h2,h3,h4,h5,hnd,hnk⟩:=hH.zz.res id _ hT.1;have hex:a.eval x= .map (some r):=e1.1.trans h2
 have fin: ∀(ms':Array MapEntry) (cl':Nat),(execOp a.eval ⟨d,.mapUpdate t x y u,ty,ps,af,g⟩).run P w= .ok .skip { w with heap:=w.heap.setIfInBounds r (.map ms' cl') }->
  EntsG M (yn κ (putG l k0 v)) ms'.toList->(∀m∈ms',m.born<cl')->(ms'.toList.map (·.born)).Nodup->Oper.wp P ⟨d,.mapUpdate t x y u,ty,ps,af,g⟩ a w k Q:=λms' cl' hrun g1 U g3=>by
  unfold Oper.wp;rw[hrun,Oper.upon_skip];have J:=heap_set (o':= .map ms' cl') h3;refine hk _ _ M ρ (hH.turn (id:=id) hT.1 (λb hb=>J.2 b λe=>hb (by rw[h2,e];rfl)) ue rfl rfl rfl ⟨r,ms',cl',h2,J.1,g1,U,g3,ziT hnk⟩ (by simp only[RepS]) hd)
 rcases κ.find w k0 ms.toList (zdm h4)with⟨g1,U⟩|⟨j,m',g1,U,g3⟩
 ·obtain⟨_,g5,_⟩:=j7 h4 U;refine fin (ms.push { key:=κ.enc k0,val:=a.eval u,born:=cl }) (cl+1) ?_ ?_ ?_ ?_
  ·simp[execOp,hex,e2,Instr.mapUpdate,run_underlying hu,run_getObj_map h3,κ.check,g1,run_setObj_map _ h3,Result.andThen]
  ·rw[g5 v];simp only[yn,u5,Array.toList_push];refine EntsG.append (by simpa only[yn]using h4) ?_;simp only[uH,tI,EntsG]
   simp_all
  ·grind
  grind
 ·have g4':ms[j]?=some m':=by simpa using U
  refine fin (ms.modify j λe=>{ e with key:=κ.enc k0,val:=a.eval u }) cl ?_ ?_ ?_ ?_
  ·simp[execOp,hex,e2,Instr.mapUpdate,run_underlying hu,run_getObj_map h3,κ.check,g1,run_setObj_map _ h3,Result.andThen,g4',g3,κ.stays]
  ·have:=((zdn h4 hnk U g3).2.1 v (a.eval u) e3).1;simpa using this
  ·intro m hm;obtain⟨i,hi,rfl⟩:=Ui.1 hm
   grind
  ·have e:((ms.modify j λe=>{ e with key:=κ.enc k0,val:=a.eval u }).toList.map (·.born))=ms.toList.map (·.born):=by
    rw[Array.toList_modify]
    apply List.ext_getElem?
    intro i;rw[uO,Ut,uO];cases ms.toList[i]? with
    |none=>rfl
    |some m=>simp only[uG];by_cases h:j=i<;>simp[h]
   rw[e];exact hnd
def zkl{id:Nat}{l:List (K×EV)}{t2:TypeId}(hx:okc x (.one (.mp id)))(hy:okc y (κ.s k0))(hu:P.underlying t=some (.map kt et)):
 Snd P ⟨d,.call ⟨.builtin .delete,#[x,y],#[t,t2]⟩,ty,ps,af,g⟩ (rq x (.one (.mp id))++rq y (κ.s k0)) [(id,.mpg (yn κ l))] [] .un [(id,some (.mpg (yn κ (zbD l k0))))]:=by
 intro C st M ρ a w hH h1 hT hF hd k Q hk;rw[ze]at h1;have e1:=hH.evS (zq hx h1.1);have e2:=κ.rep (hH.evS (zq hy h1.2));simp only[RepS,RepV]at e1;obtain⟨r,ms,cl,h2,h3,h4,h5,hnd,U⟩:=hH.zz.res id _ hT.1;have hex:a.eval x= .map (some r):=e1.1.trans h2
 have fin: ∀(ms':Array MapEntry),(execOp a.eval ⟨d,.call ⟨.builtin .delete,#[x,y],#[t,t2]⟩,ty,ps,af,g⟩).run P w= .ok (.value (.tuple #[])) { w with heap:=w.heap.setIfInBounds r (.map ms' cl) }->
  EntsG M (yn κ (zbD l k0)) ms'.toList->ms'.toList.Sublist ms.toList->((yn κ (zbD l k0)).map (·.1)).Nodup->Oper.wp P ⟨d,.call ⟨.builtin .delete,#[x,y],#[t,t2]⟩,ty,ps,af,g⟩ a w k Q:=λms' hrun g1 g2 g3=>by
  unfold Oper.wp;rw[hrun,Oper.upon_value];have J:=heap_set (o':= .map ms' cl) h3;refine hk _ _ M ρ (hH.turn (id:=id) hT.1 (λb hb=>J.2 b λe=>hb (by rw[h2,e];rfl)) ue rfl rfl rfl ⟨r,ms',cl,h2,J.1,g1,λm hm=>h5 m (by simpa using g2.subset (by simpa using hm)),(g2.map _).nodup hnd,g3⟩ (by simp only[RepS]) hd)
 rcases κ.find w k0 ms.toList (zdm h4)with⟨g1,g2⟩|⟨j,m',g1,g2,g3⟩
 ·obtain⟨_,_,g6⟩:=j7 h4 g2;refine fin ms ?_ (by rw[g6];exact h4) (List.Sublist.refl _) (by rw[g6];exact U);simp[execOp,resolve,invoke,builtin,Builtin.delete_,hex,e2,run_underlying hu,run_getObj_map h3,κ.check,g1,run_setObj_map _ h3,Result.andThen]
 ·have hj:j<ms.size:=by
   have:=(uy.1 g2).1;simpa using this
  obtain⟨_,_,g4,g5⟩:=zdn h4 U g2 g3
  have el:(ms.eraseIdxIfInBounds j).toList=ms.toList.eraseIdx j:=by
   unfold Array.eraseIdxIfInBounds;rw[oJ hj,Array.toList_eraseIdx]
  refine fin (ms.eraseIdxIfInBounds j) ?_ (by rw[el];exact g4) (by grind) (g5.nodup U);simp[execOp,resolve,invoke,builtin,Builtin.delete_,hex,e2,run_underlying hu,run_getObj_map h3,κ.check,g1,run_setObj_map _ h3,Result.andThen]
def zn9{id:Nat}{es:List (Value×EV)}(hx:okc x (.one (.mp id)))(hu:P.underlying t=some (.map kt et)):
 Snd P ⟨d,.call ⟨.builtin .clear,#[x],#[t]⟩,ty,ps,af,g⟩ (rq x (.one (.mp id))) [(id,.mpg es)] [] .un [(id,some (.mpg []))]:=by
 intro C st M ρ a w hH h1 hT hF hd k Q hk;have e1:=hH.evS (zq hx h1);simp only[RepS,RepV]at e1;obtain⟨r,ms,cl,h2,h3,h4,h5,hnd,hnk⟩:=hH.zz.res id _ hT.1;have hex:a.eval x= .map (some r):=e1.1.trans h2
 have U:(execOp a.eval ⟨d,.call ⟨.builtin .clear,#[x],#[t]⟩,ty,ps,af,g⟩).run P w= .ok (.value (.tuple #[])) { w with heap:=w.heap.setIfInBounds r (.map #[] cl) }:=by
  simp[execOp,resolve,invoke,builtin,Builtin.clear_,hex,run_underlying hu,run_getObj_map h3,run_setObj_map _ h3,Result.andThen]
 unfold Oper.wp;rw[U,Oper.upon_value];have J:=heap_set (o':= .map #[] cl) h3;refine hk _ _ M ρ (hH.turn (id:=id) hT.1 (λb hb=>J.2 b λe=>hb (by rw[h2,e];rfl)) ue rfl rfl rfl ⟨r,#[],cl,h2,J.1,by simp[EntsG],ue,ue,ue⟩ (by simp only[RepS]) hd)
end
variable {g0:Option (Nat×Bool)}{gs:zb}{md:Mode}{pv:EV}
section
variable {C:Ctx} {k:List Frm} {n:Nat} {sl:zb} {tab:Tab} {Q:Exit->St->Prop} {all:Array Oper} {rest:List Oper} [DecidableEq K]
def zdo(κ:zdl P kt K){d:Nat}{t ty:TypeId}(hC:C.low)
 (J:metL all sl g0=some gs) (U:Nat.blt d n=true) (hf:freshB (1000+d) ⟨n,sl,tab⟩=true)
 (g:Goal P C (.ops all rest (nx md ⟨some d,gs,[],[1000+d],.one (.mp (1000+d)),[(1000+d,some (.mpg (yn κ [])))]⟩)) k n ((d,.one (.mp (1000+d)))::sl) ((1000+d,some (.mpg (yn κ [])))::tab) Q):
 Goal P C (.ops all (⟨some d,.makeMap t none,ty,ps,af,g0⟩::rest) md) k n sl tab Q:=by
 have:=w8 J (ziS (P:=P) (ty:=ty) (ps:=ps) (af:=af) (g:=g0) (d:=some d) (t:=t) (id:=1000+d)) (n:=n) (tab:=tab);simp only[uV]at this;refine zbF (L:=⟨some d,gs,[],[1000+d],.one (.mp (1000+d)),[(1000+d,some (.mpg (yn κ [])))]⟩) hC this.1 rfl ⟨this.2,trivial,?_,U⟩ g;simp only[allB,hf,qj];rw[Nat.ble_eq];omega
def yq(κ:zdl P kt K){d:Nat}{x y:Operand}{t et ty:TypeId}(hC:C.low){id:Nat}{l:List (K×EV)}{c0:Value}(z:EV){b:Bool}
 (J:ev sl x=some (.one (.mp id))) (U:ev sl y=some (κ.s k0)) (hT:tg tab id=some (.mpg (yn κ l))) (hu:P.underlying t=some (.map kt et)) (hz:(P.info? et).bind (·.zero)=some c0) (h0: ∀M,RepEV M z c0)
 (hv:(getG l k0).getD z=pv) (hs:(getG l k0).isSome=b) (hm:metL all sl g0=some gs) (hd:Nat.blt d n=true)
 (g:Goal P C (.ops all rest (nx md ⟨some d,gs++(rq x (.one (.mp id))++rq y (κ.s k0)),[(id,.mpg (yn κ l))],[],.tup [evS pv,.bq b],[]⟩)) k n ((d,.tup [evS pv,.bq b])::sl) tab Q):
 Goal P C (.ops all (⟨some d,.lookup t x y true,ty,ps,af,g0⟩::rest) md) k n sl tab Q:=by
 subst hv;subst hs;exact gDo hC hm (zes (ok:=true) (l:=l) (ev1 J) (ev1 U) hu hz h0) (okA (ev2 J) (ev2 U)) ⟨hT,uh⟩ rfl hd g
def vo(κ:zdl P kt K){d:Nat}{x y:Operand}{t et ty:TypeId}(hC:C.low){id:Nat}{l:List (K×EV)}{c0:Value}(z:EV)
 (J:ev sl x=some (.one (.mp id))) (U:ev sl y=some (κ.s k0)) (hT:tg tab id=some (.mpg (yn κ l))) (hu:P.underlying t=some (.map kt et)) (hz:(P.info? et).bind (·.zero)=some c0) (h0: ∀M,RepEV M z c0)
 (hv:(getG l k0).getD z=pv) (hm:metL all sl g0=some gs) (hd:Nat.blt d n=true)
 (g:Goal P C (.ops all rest (nx md ⟨some d,gs++(rq x (.one (.mp id))++rq y (κ.s k0)),[(id,.mpg (yn κ l))],[],evS pv,[]⟩)) k n ((d,evS pv)::sl) tab Q):
 Goal P C (.ops all (⟨some d,.lookup t x y false,ty,ps,af,g0⟩::rest) md) k n sl tab Q:=by
 subst hv;exact gDo hC hm (zes (ok:=false) (l:=l) (ev1 J) (ev1 U) hu hz h0) (okA (ev2 J) (ev2 U)) ⟨hT,uh⟩ rfl hd g
def zcG(κ:zdl P kt K){x y u:Operand}{t et ty:TypeId}(hC:C.low){id:Nat}{l l':List (K×EV)}
 (J:ev sl x=some (.one (.mp id))) (U:ev sl y=some (κ.s k0)) (hw:ev sl u=some (evS pv)) (hT:tg tab id=some (.mpg (yn κ l))) (hu:P.underlying t=some (.map kt et))
 (hv:putG l k0 pv=l') (hm:metL all sl g0=some gs)
 (g:Goal P C (.ops all rest (nx md ⟨none,gs++(rq x (.one (.mp id))++rq y (κ.s k0)++rq u (evS pv)),[(id,.mpg (yn κ l))],[],.un,[(id,some (.mpg (yn κ l')))]⟩)) k n sl ((id,some (.mpg (yn κ l')))::tab) Q):
 Goal P C (.ops all (⟨none,.mapUpdate t x y u,ty,ps,af,g0⟩::rest) md) k n sl tab Q:=by
 subst hv;exact gDo hC hm (zaQ (l:=l) (ev1 J) (ev1 U) (ev1 hw) hu) (okA (okA (ev2 J) (ev2 U)) (ev2 hw)) ⟨hT,uh⟩ rfl rfl g
def zuf(κ:zdl P kt K){x y:Operand}{t t2 et ty:TypeId}(hC:C.low){id:Nat}{l l':List (K×EV)}
 (J:ev sl x=some (.one (.mp id))) (U:ev sl y=some (κ.s k0)) (hT:tg tab id=some (.mpg (yn κ l))) (hu:P.underlying t=some (.map kt et))
 (hv:zbD l k0=l') (hm:metL all sl g0=some gs) (hd:dok d n=true)
 (g:Goal P C (.ops all rest (nx md ⟨d,gs++(rq x (.one (.mp id))++rq y (κ.s k0)),[(id,.mpg (yn κ l))],[],.un,[(id,some (.mpg (yn κ l')))]⟩)) k n (app d .un [(id,some (.mpg (yn κ l')))] ⟨n,sl,tab⟩).sl ((id,some (.mpg (yn κ l')))::tab) Q):
 Goal P C (.ops all (⟨d,.call ⟨.builtin .delete,#[x,y],#[t,t2]⟩,ty,ps,af,g0⟩::rest) md) k n sl tab Q:=by
 subst hv;exact gDo hC hm (zkl (t2:=t2) (l:=l) (ev1 J) (ev1 U) hu) (okA (ev2 J) (ev2 U)) ⟨hT,uh⟩ rfl hd g
end
end Hw
namespace Hw
open Go
def zcp(ms:List Nat)(m i:Nat):Bool:=Nat.beq i m||(Nat.blt m i&&za4 (nth ms i) m)
def vH(P:Program)(all:Array Oper)(st:St)(ms:List Nat)(m:Nat):List Law->Prop
 | []=>True
 |L::l=>vH P all st ms m l/\(zcp ms m l.length=true\/ ∃o,all[l.length]?=some o/\yC P all o L.rs L.rt L.fr L.v L.wt/\L.d=o.dst/\okS L.rs (apps st l)/\okT L.rt (apps st l)/\dok L.d st.n=true)
def checkQ(all:Array Oper)(ms:List Nat)(l:List Law)(m:Nat)(kp:List Nat):Bool:=
 allLt (λj=>match at? l j with
  |some X=>Nat.beq j m||(Nat.blt j m&&za4 (nth ms m) j)||(Nat.blt m j&&za4 (nth ms j) m)|| !anyB (λi=>hasB i kp) (keysT X.wt)
  |none=>false) l.length&&
 allLt (λq=>match all[q+l.length]? with
  |some o'=>anyB (λp=>zcp ms m p) (zM o')
  |none=>true) (all.size - l.length)
theorem zet{p:Nat->Bool}: ∀ {l:List Nat},anyB p l=true-> ∃i∈l,p i=true
 |y::ys,h=>by
  simp only[anyB,uJ]at h;rcases h with h|h
  ·simp_all
  ·obtain⟨p,h1,h2⟩:=zet h;grind
variable {C:Ctx}{D:Nat->Bool}{K:Act->World->Prop}{L:Law}{M:Mem}{P:Program}{a:Act}{all:Array Oper}{j m:Nat}{kp:RL}{o:Oper}{pv:Value}{st:St}{w:World}{ρ:Nat->Value}
section
variable {l:List Law} {ms:List Nat}
theorem vH.of: ∀ {l:List Law},wv P all st l->vH P all st ms m l
 | [],_=>trivial
 |_::_,h=>⟨vH.of h.1,.inr h.2⟩
theorem vH.at: ∀ {l:List Law} {i:Nat} {L:Law},vH P all st ms m l->at? l i=some L->zcp ms m i=true\/
 ∃o,all[i]?=some o/\yC P all o L.rs L.rt L.fr L.v L.wt/\L.d=o.dst/\okS L.rs (apps st (sel (λj=>decide (j<i)) l))/\okT L.rt (apps st (sel (λj=>decide (j<i)) l))/\dok L.d st.n=true
 | [],_,_,_,h=>by cases h
 |X::l,i,L,hd,h=>by
  rw[z7]at h;split at h
  ·rename_i e;simp only[ui]at h;subst h;subst e
   have:sel (λj=>decide (j<l.length)) (X::l)=l:=by
    simp only[sel,uI (Ua _)];exact zaN (uM _)
   rw[this];exact hd.2
  ·have hlt:=xK h
   have:sel (λj=>decide (j<i)) (X::l)=sel (λj=>decide (j<i)) l:=by
    simp only[sel,uI (show ¬l.length<i by omega)]
   rw[this];exact vH.at hd.1 h
def zkm{i:Nat}(ho:all[i]?=some o)(hL:at? l i=some L)
 (hat: ∃o,all[i]?=some o/\yC P all o L.rs L.rt L.fr L.v L.wt/\L.d=o.dst/\okS L.rs (apps st (sel (λj=>decide (j<i)) l))/\okT L.rt (apps st (sel (λj=>decide (j<i)) l))/\dok L.d st.n=true)
 (hc:xX all ms st l=true) (hD:Down all D) (hn:D i=false) (hp: ∀p∈zM o,D p=true)
 (hC:C.low) (hH:Holds C (apps st (sel D l)) M ρ a w) {Q:Exit->Act->World->Prop}
 (hk: ∀a' w' M' ρ',Holds C (apps st (sel (zfO D i) l)) M' ρ' a' w'->K a' w'):if Region.wanted o (yielded all a.tmps)then o.wp P a w K Q else K (a.put o.dst undef) w:=by
 have hi:=xK hL;obtain⟨o',L',J,hL',_,_,h3,h4⟩:=yu hc hi;rw[ho]at J;simp only[ui]at J;subst J;rw[hL]at hL';simp only[ui]at hL';subst hL';obtain⟨o',J,hstep,hdst,hS,hT,hdk⟩:=hat;rw[ho]at J;simp only[ui]at J;subst J;have ap: ∀j X,at? l j=some X->D j≠decide (j<i)->j≠i->apart X L=true/\apart L X=true:=λj X U hne hji=>jG hc hD hi ho hn hp hL U hne hji
 have eqi: ∀j X,at? l j=some X->(apart X L=true->False)->D j=decide (j<i):=λj X U hno=>by
  by_cases hji:j=i
  ·subst hji;rw[hn];simp
  ·by_cases hne:D j=decide (j<i)
   ·exact hne
   ·exact(hno (ap j X U hne hji).1).elim
 have hS':okS L.rs (apps st (sel D l)):=vP hS λk hk=>j4 λj X U hw=>eqi j X U λh=>by have:=(wN h hw).1;rw[hk]at this;cases this
 have hT':okT L.rt (apps st (sel D l)):=wO hT λk hk=>vQ λj X U hw=>eqi j X U λh=>by have:=(xL h hw).1;rw[hk]at this;cases this
 have hF':okF C L.fr (apps st (sel D l)):=by
  have one: ∀id∈L.fr,we C id (apps st (sel D l)):=λid hid=>by
   refine xx (h4 id hid).2 (by
    cases e:tg C.tab0 id with
    |none=>rfl
    |some r=>have:=hC id r e;have:=(h4 id hid).1;omega) λX U=>?_
   obtain⟨j,hj,hX'⟩:=jH U;rcases tu j i with h|h
   ·exact(h3 j X h hX').2 id hid
   ·have hji:j≠i:=λe=>by subst e;rw[hn]at hj;cases hj
    exact zba (ap j X hX' (by rw[hj,uI ua];simp) hji).1 id hid
  have: ∀fr:List Nat,(∀id∈fr,we C id (apps st (sel D l)))->okF C fr (apps st (sel D l)):=λfr=>by
   induction fr with
   |nil=>exact λ_=>trivial
   |cons x xs ih=>exact λh=>⟨h x ue,ih λid hid=>h id (u3 _ hid)⟩
  exact this _ one
 refine hstep C _ M ρ a w hH hS' hT' hF' (by rw[xY,<-hdst];exact hdk) K Q λa' w' M' ρ' hH'=>hk a' w' M' ρ' (hH'.ext ?_ ?_ ?_)
 ·rw[xY];simp only[app,xY]
 ·intro k
  have e0:sg (app o.dst L.v L.wt (apps st (sel D l))).sl k=if wr L k=true then some L.v else sg (apps st (sel D l)).sl k:=by
   rw[<-hdst];exact wX st L (sel D l) k
  rw[e0];by_cases hw:wr L k=true
  ·rw[uw hw]
   exact zdf hL (zU D i) hw λj X U hij hDj=>by
    rw[zt ua]at hDj;cases hx:wr X k with
    |false=>rfl
    |true=>
     have:=(wN (ap j X U (by rw[hDj,uI ua];simp) ua).1 hx).2
     simp_all
  ·rw[ur hw]
   exact j4 λj X U hx=>zt λe=>by
    simp_all
 ·intro k;cases hw:wrT L k with
  |true=>
   simp only[app]
   exact zbb hL (zU D i) hw λj X U hij hDj=>by
    rw[zt ua]at hDj;cases hx:wrT X k with
    |false=>rfl
    |true=>
     have:=(xL (ap j X U (by rw[hDj,uI ua];simp) ua).1 hx).2
     simp_all
  |false=>
   simp only[app];rw[yN hw]
   exact vQ λj X U hx=>zt λe=>by
    simp_all
def zkn(hc:xX all ms st l=true)(hD:Down all D)(hno: ∀k,l.length<=k->D k=false)(hm:D m=false)(hj:D j=true)(hw:zcp ms m j=true):False:=by
 simp only[zcp,uJ,um]at hw;rcases hw with hw|⟨h1,h2⟩
 ·simp_all
 ·have J:j<l.length:=by
   rcases tu j l.length with h|h
   ·exact h
   ·rw[hno j h]at hj;cases hj
  obtain⟨oj,_,U,_⟩:=yu hc J;have:=xw hc hD j J oj U (hD j oj U hj) m (by simpa [tH]using h1) h2
  simp_all
theorem zoa(hc:xX all ms st l=true)(hp:checkQ all ms l m kp.ids=true)(hLm:at? l m=some L)(ho:all[m]?=some o)(hL:zpW P all o L.rs L.rt L.fr pv L.wt)
 (hS:okS L.rs (apps st (sel (λj=>decide (j<m)) l))) (hT:okT L.rt (apps st (sel (λj=>decide (j<m)) l))) (hK:okT kp (apps st (sel (λj=>decide (j<m)) l))) (hC:C.low) (hD:Down all D)
 (hno: ∀k,l.length<=k->D k=false) (hn:D m=false) (hpr: ∀p∈zM o,D p=true)
 (hH:Holds C (apps st (sel D l)) M ρ a w) {Q:Exit->Act->World->Prop}
 (hQ: ∀a w M ρ,Holds C ⟨st.n,[],L.wt++tb kp⟩ M ρ a w->Q (.panic (chn pv)) a w):if Region.wanted o (yielded all a.tmps)then o.wp P a w K Q else K (a.put o.dst undef) w:=by
 have hi:=xK hLm;obtain⟨o',L',ho',hL',_,_,h3,h4⟩:=yu hc hi;rw[ho]at ho';simp only[ui]at ho';subst ho';rw[hLm]at hL';simp only[ui]at hL';subst hL';have ap: ∀j X,at? l j=some X->D j≠decide (j<m)->j≠m->apart X L=true/\apart L X=true:=λj X hX hne J=>jG hc hD hi ho hn hpr hLm hX hne J
 have eqi: ∀j X,at? l j=some X->(apart X L=true->False)->D j=decide (j<m):=λj X hX hno=>by
  by_cases J:j=m
  ·subst J;rw[hn];simp
  ·by_cases hne:D j=decide (j<m)
   ·exact hne
   ·exact(hno (ap j X hX hne J).1).elim
 have hS':okS L.rs (apps st (sel D l)):=vP hS λk hk=>j4 λj X hX hw=>eqi j X hX λh=>by have:=(wN h hw).1;rw[hk]at this;cases this
 have hT':okT L.rt (apps st (sel D l)):=wO hT λk hk=>vQ λj X hX hw=>eqi j X hX λh=>by have:=(xL h hw).1;rw[hk]at this;cases this
 have hK':okT kp (apps st (sel D l)):=wO hK λk hk=>vQ λj X hX hw=>by
  simp only[checkQ,um]at hp;have:=yc hp.1 j (xK hX);simp only[hX,uJ,um,ux]at this;rcases this with((h|⟨h1,h2⟩)|⟨h1,h2⟩)|h
  ·have:=uA h;subst this;rw[hn];simp
  ·have hlt:j<m:=by simpa [tH]using h1
   rw[uZ hlt];exact xw hc hD m hi o ho hpr j hlt h2
  ·have hlt:m<j:=by simpa [tH]using h1
   rw[uI ua];cases e:D j with
   |false=>rfl
   |true=>exact(zkn hc hD hno hn e (by simp[zcp,h1,h2])).elim
  ·have:=jh h k hw;rw[hk]at this;cases this
 have hF':okF C L.fr (apps st (sel D l)):=by
  have one: ∀id∈L.fr,we C id (apps st (sel D l)):=λid U=>by
   refine xx (h4 id U).2 (by
    cases e:tg C.tab0 id with
    |none=>rfl
    |some r=>have:=hC id r e;have:=(h4 id U).1;omega) λX hX=>?_
   obtain⟨j,hj,hX'⟩:=jH hX;rcases tu j m with h|h
   ·exact(h3 j X h hX').2 id U
   ·have J:j≠m:=λe=>by subst e;rw[hn]at hj;cases hj
    exact zba (ap j X hX' (by rw[hj,uI ua];simp) J).1 id U
  have: ∀fr:List Nat,(∀id∈fr,we C id (apps st (sel D l)))->okF C fr (apps st (sel D l)):=λfr=>by
   induction fr with
   |nil=>exact λ_=>trivial
   |cons x xs ih=>exact λh=>⟨h x ue,ih λid U=>h id (u3 _ U)⟩
  exact this _ one
 refine hL C _ M ρ a w hH hS' hT' hF' K Q λM' ρ' w' hH'=>hQ a w' M' ρ' (hH'.drop (by rw[xY]) (λk s e=>by cases e) λi r e=>?_)
 cases hk:hasB i (keysT L.wt)with
 |true=>
  have e:tg (L.wt++tb kp) i=some r:=e;show tg (L.wt++(apps st (sel D l)).tab) i=some r;rw[<-e];exact wg hk
 |false=>
  have e:tg (L.wt++tb kp) i=some r:=e;show tg (L.wt++(apps st (sel D l)).tab) i=some r;rw[yN hk]at e⊢;exact xc hK' (zF e)
def ziU{id:Nat}(hmx:P.follows .mixedOrders=true)(hd:vH P all st ms m l)(hc:xX all ms st l=true)(hp:checkQ all ms l m kp.ids=true)(hLm:at? l m=some L)(ho:all[m]?=some o)(hL:zpW P all o L.rs L.rt L.fr pv L.wt)
 (hS:okS L.rs (apps st (sel (λj=>decide (j<m)) l))) (hT:okT L.rt (apps st (sel (λj=>decide (j<m)) l))) (hK:okT kp (apps st (sel (λj=>decide (j<m)) l))) (hC:C.low)
 {Q:Exit->Act->World->Prop} (hQ: ∀a w M ρ,Holds C ⟨st.n,[],L.wt++tb kp⟩ M ρ a w->Q (.panic (chn pv)) a w)
 (hH:Holds C st M ρ a w):(Code.region id all true).wp P Q a w:=by
 have hsz:m<all.size:=(tA.1 ho).1;have hml:=xK hLm
 have h5:allLt (λq=>match all[q+l.length]? with
  |some o'=>anyB (λp=>zcp ms m p) (zM o')
  |none=>true) (all.size - l.length)=true:=by
  simp only[checkQ,um]at hp;exact hp.2
 have main: ∀(fuel:Nat) (listed:Array Bool) (M:Mem) (ρ:Nat->Value) (a:Act) (w:World),listed.size=all.size->left (λj=>listed.getD j false) all.size=fuel->Down all (λj=>listed.getD j false)->
  (∀k,l.length<=k->listed.getD k false=false)->listed.getD m false=false->Holds C (apps st (sel (λj=>listed.getD j false) l)) M ρ a w->wpAny P .any all Q fuel listed a w:=by
  intro fuel
  induction fuel with
  |zero=>
   intro listed M ρ a w hs hl hD hno U hH;have:=vR hl m hsz;rw[U]at this;cases this
  |succ fuel ih=>
   intro listed M ρ a w hs hl hD hno U hH;refine⟨λhr=>?_,λi hi=>?_⟩
   ·exfalso
    have fullj: ∀j,j<l.length->listed.getD j false=true:=by
     intro j
     induction j using Nat.strongRecOn with
     |_ j ih=>
      intro hj;cases e:listed.getD j false with
      |true=>rfl
      |false=>
       obtain⟨oj,_,hoj,_,hlt,_⟩:=yu hc (i:=j) hj
       have:j∈Region.ready .any all listed:=mem_ready.2 ⟨by
        have hlt:j<listed.size:=by have:=(tA.1 hoj).1;omega
        simp only[Array.getD,hlt,oJ]at e ⊢; exact e,oj,hoj,λe' he hb=>ih e'.on (hlt _ (xM he hb)) (by have:=hlt _ (xM he hb);omega)⟩
       rw[hr]at this;cases this
    have:=fullj m hml;rw[U]at this;cases this
   ·obtain⟨h1,oi,J,hall⟩:=mem_ready.1 hi;have hx:i<all.size:=(tA.1 J).1;have hlt:i<listed.size:=by omega
    have hn:listed.getD i false=false:=by simp only[Array.getD,hlt,oJ]at h1 ⊢; exact h1
    have hput: ∀j,(listed.setIfInBounds i true).getD j false=zfO (λj=>listed.getD j false) i j:=λj=>by
     by_cases e:j=i
     ·subst e;simp[zU,hlt]
     ·rw[zt e,getD_set_ne false (λh=>e h.symm)]
    have hput':(λj=>(listed.setIfInBounds i true).getD j false)=zfO (λj=>listed.getD j false) i:=funext hput
    have hpr: ∀p∈zM oi,listed.getD p false=true:=λp hp=>by
     obtain⟨e,he,hb,rfl⟩:=zbc hp;exact hall e he hb
    unfold wpOp;simp only[J]
    have key:if Region.wanted oi (yielded all a.tmps)then oi.wp P a w (wpAny P .any all Q fuel (listed.setIfInBounds i true)) Q else wpAny P .any all Q fuel (listed.setIfInBounds i true) (a.put oi.dst undef) w:=by
     by_cases him:i=m
     ·subst him;rw[ho]at J;simp only[ui]at J;subst J;exact zoa hc hp hLm ho hL hS hT hK hC hD hno U hpr hH hQ
     by_cases hil:i<l.length
     ·obtain⟨_,Li,hoi',hLi,_⟩:=yu hc hil;rcases vH.at hd hLi with hw|hat
      ·exfalso;simp only[zcp,uJ,um]at hw;rcases hw with hw|⟨h1,h2⟩
       ·exact him (uA hw)
       ·have:=xw hc hD i hil oi J hpr m (by simpa [tH]using h1) h2;rw[U]at this;cases this
      ·refine zkm J hLi hat hc hD hn hpr hC hH λa' w' M' ρ' hH'=>?_;refine ih _ M' ρ' a' w' (by simpa using hs) ?_ ?_ ?_ ?_ ?_
       ·rw[hput'];have:=j5 (D:=λj=>listed.getD j false) hn (n:=all.size);rw[uw hx]at this;omega
       ·rw[hput'];intro k ok hk hDk p hpk;by_cases e:k=i
        ·subst e;rw[J]at hk;simp only[ui]at hk;subst hk;by_cases e2:p=k
         ·subst e2;exact zU _ _
         ·rw[zt e2];exact hpr p hpk
        ·rw[zt e]at hDk;have:=hD k ok hk hDk p hpk;by_cases e2:p=i
         ·subst e2;exact zU _ _
         ·rw[zt e2];exact this
       ·intro k hk;rw[hput,zt ua];exact hno k hk
       ·rw[hput,zt ua];exact U
       ·rw[hput'];exact hH'
     ·exfalso;have:=yc h5 (i - l.length) ua;rw[show i - l.length+l.length=i by omega,J]at this;obtain⟨p,hpm,hw⟩:=zet this;exact zkn hc hD hno U (hpr p hpm) hw
    split
    ·rename_i hw;rw[uw hw]at key;exact .inl key
    ·rename_i hw;rw[ur hw]at key;exact key
 have h0: ∀j,(Array.replicate all.size false).getD j false=false:=λj=>by
  by_cases h:j<all.size
  ·simp[h]
  ·simp[h]
 have h0':(λj=>(Array.replicate all.size false).getD j false)=λ_=>false:=funext h0
 refine wp_region_any hmx (main _ _ M ρ a _ ue ?_ ?_ (λk _=>h0 k) (h0 m) ?_)
 ·rw[h0']
  have: ∀n,left (λ_=>false) n=n:=λn=>by
   induction n with
   |zero=>rfl
   |succ n ih=>simp only[left,ih];omega
  exact this _
 ·rw[h0'];intro i o _ h;cases h
 ·rw[h0',ji λ_ _=>rfl];exact hH.grow (λ_ _=>rfl) (uM _) rfl rfl rfl
end
def zug(o:Oper):Law:=⟨o.dst,[],[],[],.un,[]⟩
def backL{P:Program}(T:Ty P)(n:Nat)(all:Array Oper)(ms:List Nat)(m:Nat):List Oper->zb->Tab->List Law->List Law
 | [],_,_,l=>l
 |o::r,sl,tab,l=>match zcp ms m l.length with
  |true=>backL T n all ms m r (app o.dst .un [] ⟨n,sl,tab⟩).sl tab (zug o::l)
  |false=>match stepL T n true all o sl tab with
   |some L=>backL T n all ms m r (app L.d L.v L.wt ⟨n,sl,tab⟩).sl (L.wt++tab) (L::l)
   |none=>l
variable {tab:Tab}
theorem zko{n:Nat}{sl:zb}(J: ∀k,sg sl k=sg st.sl k)(j:Nat):sg (app L.d L.v L.wt ⟨n,sl,tab⟩).sl j=sg (app L.d L.v L.wt st).sl j:=by
 obtain⟨d,rs,rt,fr,v,wt⟩:=L;cases d with
 |none=>exact J j
 |some d=>
  simp only[app];rw[yk,yk]
  simp_all
theorem zp1{a tab':Tab}(J: ∀i,tg tab i=tg tab' i)(i:Nat):tg (a++tab) i=tg (a++tab') i:=by
 cases hk:hasB i (keysT a)with
 |true=>exact wg hk
 |false=>rw[yN hk,yN hk];exact J i
theorem zdp{P:Program}(T:Ty P){n:Nat}{all:Array Oper}{ms:List Nat}{m:Nat}{st:St}(J:st.n=n): ∀ {rest:List Oper} {sl:zb} {tab:Tab} {l:List Law},vH P all st ms m l->m<l.length->all.toList.drop l.length=rest->
 (∀k,sg sl k=sg (apps st l).sl k)->(∀i,tg tab i=tg (apps st l).tab i)->vH P all st ms m (backL T n all ms m rest sl tab l)/\at? (backL T n all ms m rest sl tab l) m=at? l m/\sel (λj=>decide (j<m)) (backL T n all ms m rest sl tab l)=sel (λj=>decide (j<m)) l
 | [],sl,tab,l,hd,hm,hr,hs,ht=>by
   rw[backL];simp_all
 |o::r,sl,tab,l,hd,hm,hr,hs,ht=>by
  have U:all.toList.drop (l.length+1)=r:=by
   have:(all.toList.drop l.length).drop 1=r:=by rw[hr];rfl
   rw[tC]at this;simpa [oz]using this
  have back: ∀L:Law,at? (L::l) m=at? l m/\sel (λj=>decide (j<m)) (L::l)=sel (λj=>decide (j<m)) l:=λL=>by
   refine⟨by rw[z7,ur ua],?_⟩;simp only[sel,uI (show ¬l.length<m by omega)]
  simp only[backL];split
  ·rename_i hw
   obtain⟨h1,h2,h3⟩:=zdp T J (l:=zug o::l) (rest:=r) (sl:=(app o.dst .un [] ⟨n,sl,tab⟩).sl) (tab:=tab) ⟨hd,.inl hw⟩ ug (by simpa using U) (λk=>by
    have:=zko (L:=zug o) (n:=n) (tab:=tab) hs k
    simpa [apps,zug]using this) (λi=>by simp only[apps,zug,app];exact ht i)
   simp_all
  ·split
   ·rename_i L hL;obtain⟨g1,g2,g3,g4,g5,g6⟩:=xd T hL
    have ho:all[l.length]?=some o:=by
     have:(all.toList.drop l.length)[0]?=some o:=by rw[hr];rfl
     rw[tc]at this;simpa using this
    obtain⟨h1,h2,h3⟩:=zdp T J (l:=L::l) (rest:=r) (sl:=(app L.d L.v L.wt ⟨n,sl,tab⟩).sl) (tab:=L.wt++tab) ⟨hd,.inr ⟨o,ho,g1,g2,vP g3 λk _=>(hs k).symm,wO g4 λi _=>(ht i).symm,by rw[J];exact g6⟩⟩ ug (by simpa using U)
     (λk=>by simp only[apps];exact zko hs k) (λi=>by simp only[apps,app];exact zp1 ht i)
    simp_all
   simp_all
variable {Q:Exit->St->Prop}{af:Array Edge}{args ss:List S}{d:Option Nat}{done:List Law}{f:FuncId}{g0:Option (Nat×Bool)}{gs sl0:zb}{md:Mode}{ps:String}{rest:List Oper}{t:TypeId}{tab0:Tab}{ts:Array TypeId}{x:Operand}
section
variable {k:List Frm} {n:Nat} {sl:zb}
def zwW(T:Ty P){rs:zb}{rt:RL}{fr:List Nat}{wt:Tab}(hC:C.low)(ks:List Nat)(hL:zpW P all o rs rt fr pv wt)(hS:okS rs ⟨n,sl,tab⟩)(hT:okT rt ⟨n,sl,tab⟩)
 (hc:xX all (xy all.toList []) ⟨n,sl0,tab0⟩ (backL T n all (xy all.toList []) done.length rest (app o.dst .un wt ⟨n,sl,tab⟩).sl (wt++tab) (⟨o.dst,rs,rt,fr,.un,wt⟩::done))=true)
 (hp:checkQ all (xy all.toList []) (backL T n all (xy all.toList []) done.length rest (app o.dst .un wt ⟨n,sl,tab⟩).sl (wt++tab) (⟨o.dst,rs,rt,fr,.un,wt⟩::done)) done.length (pick tab ks).ids=true)
 (g:Goal P C (.fin (.panic (chn pv))) k n [] (wt++tb (pick tab ks)) Q):Goal P C (.ops all (o::rest) (some (sl0,tab0,done))) k n sl tab Q:=by
 intro hD hs J hr M ρ a w id U
 have ho:all[done.length]?=some o:=by
  have:(all.toList.drop done.length)[0]?=some o:=by rw[hr];rfl
  rw[tc]at this;simpa using this
 have hr':all.toList.drop (done.length+1)=rest:=by
  have:(all.toList.drop done.length).drop 1=rest:=by rw[hr];rfl
  rw[tC]at this;simpa [oz]using this
 obtain⟨h1,h2,h3⟩:=zdp T (all:=all) (ms:=xy all.toList []) (m:=done.length) (st:=⟨n,sl0,tab0⟩) rfl (rest:=rest) (sl:=(app o.dst .un wt ⟨n,sl,tab⟩).sl) (tab:=wt++tab) (l:=⟨o.dst,rs,rt,fr,.un,wt⟩::done) ⟨vH.of hD,.inl (by simp[zcp])⟩ ue (by simpa using hr')
  (λj=>by simp only[apps];exact zko (L:=⟨o.dst,rs,rt,fr,.un,wt⟩) hs j) (λi=>by simp only[apps,app];exact zp1 J i)
 have e3:sel (λj=>decide (j<done.length)) (backL T n all (xy all.toList []) done.length rest (app o.dst .un wt ⟨n,sl,tab⟩).sl (wt++tab) (⟨o.dst,rs,rt,fr,.un,wt⟩::done))=done:=by
  rw[h3];simp only[sel,uI (Ua _)];exact zaN (uM _)
 have e2:at? (backL T n all (xy all.toList []) done.length rest (app o.dst .un wt ⟨n,sl,tab⟩).sl (wt++tab) (⟨o.dst,rs,rt,fr,.un,wt⟩::done)) done.length=some ⟨o.dst,rs,rt,fr,.un,wt⟩:=by rw[h2,z7,uw rfl]
 refine ziU (kp:=pick tab ks) T.mix h1 hc hp e2 ho hL (by rw[e3];exact vP hS λk _=>(hs k).symm) (by rw[e3];exact wO hT λi _=>(J i).symm) (by rw[e3];exact wO (zdg (n:=n) (sl:=sl)) λi _=>(J i).symm) hC (λa w M ρ U=>g M ρ a w U) U
def zob(T:Ty P){l:List Operand}{ty:TypeId}(hC:C.low){first caps:List V}{Rw Rr Rw':RL}
 (h:yH P f args (Rw++Rr) pv (Rw'++Rr)) (σ:Nat->Nat) (ks:List Nat) (hx:ev sl x=some (.one (.cl f first caps))) (hl:evs sl l=some ss) (ha:yG (ones first++ss++ones caps) (Ss.ren σ args)) (hi:injB σ (RL.ids (Rw++Rr))=true) (J:injB σ (RL.ids (Rw'++Rr))=true)
 (U:yM (RL.ids (Rw++Rr)++RL.ids (Rw'++Rr)) (Rw'++Rr)=true) (hT:rdT tab ((Rw++Rr).ren σ)=(Rw++Rr).ren σ) (hm:metL all sl g0=some gs)
 (hc:xX all (xy all.toList []) ⟨n,sl0,tab0⟩ (backL T n all (xy all.toList []) done.length rest (app d .un (tb (Rw'.ren σ)++yF (Rw.ids.map σ)) ⟨n,sl,tab⟩).sl ((tb (Rw'.ren σ)++yF (Rw.ids.map σ))++tab) (⟨d,gs++(rq x (.one (.cl f first caps))++rqs l ss),(Rw++Rr).ren σ,(zC (Rw++Rr) (Rw'++Rr)).map σ,.un,tb (Rw'.ren σ)++yF (Rw.ids.map σ)⟩::done))=true)
 (hp:checkQ all (xy all.toList []) (backL T n all (xy all.toList []) done.length rest (app d .un (tb (Rw'.ren σ)++yF (Rw.ids.map σ)) ⟨n,sl,tab⟩).sl ((tb (Rw'.ren σ)++yF (Rw.ids.map σ))++tab) (⟨d,gs++(rq x (.one (.cl f first caps))++rqs l ss),(Rw++Rr).ren σ,(zC (Rw++Rr) (Rw'++Rr)).map σ,.un,tb (Rw'.ren σ)++yF (Rw.ids.map σ)⟩::done)) done.length (pick tab ks).ids=true)
 (g:Goal P C (.fin (.panic (chn pv))) k n [] ((tb (Rw'.ren σ)++yF (Rw.ids.map σ))++tb (pick tab ks)) Q):
 Goal P C (.ops all (⟨d,.call ⟨.value x,l.toArray,ts⟩,ty,ps,af,g0⟩::rest) (some (sl0,tab0,done))) k n sl tab Q:=by
 have e1:=xV (st:=⟨n,sl,tab⟩) hx;have e2:=w7 (st:=⟨n,sl,tab⟩) hl;have:=zde hm (zn8 (ty:=ty) (ps:=ps) (af:=af) (g:=g0) (d:=d) (ts:=ts) h σ e1.1 e2.1 ha hi J U) (n:=n) (tab:=tab);exact zwW T hC ks this.1 (by rw[ze,ze];simp_all) (wM hT) hc hp g
def zoc{K:Type}[DecidableEq K]{kt:TypeId}(κ:zdl P kt K){et ty:TypeId}(hC:C.low){id:Nat}{l:List (K×EV)}
 (J:ev sl x=some (.one (.mp id))) (hT:tg tab id=some (.mpg (yn κ l))) (U:P.underlying t=some (.map kt et)) (hm:metL all sl g0=some gs) (hd:dok d n=true)
 (g:Goal P C (.ops all rest (nx md ⟨d,gs++rq x (.one (.mp id)),[(id,.mpg (yn κ l))],[],.un,[(id,some (.mpg (yn κ [])))]⟩)) k n (app d .un [(id,some (.mpg (yn κ [])))] ⟨n,sl,tab⟩).sl ((id,some (.mpg (yn κ [])))::tab) Q):
 Goal P C (.ops all (⟨d,.call ⟨.builtin .clear,#[x],#[t]⟩,ty,ps,af,g0⟩::rest) md) k n sl tab Q:=
 gDo hC hm (zn9 (es:=yn κ l) (ev1 J) U) (ev2 J) ⟨hT,uh⟩ rfl hd g
end
theorem vT{M:Mem}{ρ:Nat->Value}{z:V}{v:Value}(h:RepV M ρ z v): ∀n:Nat,RepVs M ρ (List.replicate n z) (List.replicate n v)
 |0=>by simp only[List.replicate,RepVs]
 |n+1=>by simp only[List.replicate,RepVs];exact⟨h,vT h n⟩
variable {el:TypeId}{fs:List V}{g:Option (Nat×Bool)}{i:Int}{k0:IntKind}{vparts:List (Nat×List V)}{z0:V}
section
variable {ty:TypeId} {y:Operand}
def zrr{id len:Nat}{l:List (Nat×Operand)}{vs:List V}(hx:zcm (l.map (·.2)) ss)(he:elemSz P t=some (el,1))(hz:zeroV P el=some [z0])
 (hv:zipParts (l.map (·.1)) ss=some vparts) (hf:fillV (λi=>some (i*1,1)) (List.replicate len z0) vparts=some vs) (h0:Nat.blt 0 len=true) (hb:Nat.ble len 16777216=true) (hm:mentVs id vs=false):
 Snd P ⟨d,.buildSlice t len l.toArray,ty,ps,af,g⟩ (rqs (l.map (·.2)) ss) [] [id] (.one (.bs id 0 len)) [(id,some (.box vs))]:=by
 intro C st M ρ a w hH h1 hT hF hd k Q hk;have e':=hH.zhi (wL hx h1);obtain⟨h2,h3⟩:=wc hv e';obtain⟨ii,hu,U,hsz⟩:=zp he;obtain⟨zv,hz1,J,_⟩:=xt hz M ρ w;have hlen:0<len:=by simpa [tH]using h0
 have hb':len<=16777216:=uS hb;have hzl:zv.cells.toList.length=1:=by have:=J.length;simpa using this
 obtain⟨zc,hzc⟩: ∃zc,zv.cells.toList=[zc]:=by
  match hq:zv.cells.toList,hzl with
  | [zc],_=>exact⟨zc,rfl⟩
 rw[hzc]at J;simp only[RepVs]at J;have hzs:zv.cells.size=1:=by rw[<-qh];exact hzl
 have hcur:((Array.range (len*1)).map λx=>zv.cells[x % zv.cells.size]!).toList=List.replicate len zc:=by
  have: ∀x:Nat,zv.cells[x % zv.cells.size]! =zc:=λx=>by
   rw[hzs,Nat.mod_one]
   have h:zv.cells= #[zc]:=by
    apply Array.toList_inj.1;rw[hzc]
   rw[h];rfl
  simp only[this];simp[List.map_const']
 have hzip:(l.toArray.map λp=>(p.1,a.eval p.2)).toList=(l.map (·.1)).zip ((l.map (·.2)).map a.eval):=by
  rw[qM];simp[oZ]
 obtain⟨out,h4,h5⟩:=jX _ vparts (List.replicate len z0) vs ((Array.range (len*1)).map λx=>zv.cells[x % zv.cells.size]!) (by rw[hcur];exact vT J.1 len) h2 h3 hf
 have hrun:(execOp a.eval ⟨d,.buildSlice t len l.toArray,ty,ps,af,g⟩).run P w= .ok (.value (.slice (some ⟨w.heap.size,0,none⟩) len len)) (w.alloc (.cells out el)):=by
  have hn: ¬16777216<len:=by omega
  have hl0: ¬len=0:=by omega
  rw[<-hzip]at h4;simp[execOp,Instr.buildSlice,run_underlying hu,run_sizeOf U,hsz,hn,hl0,newRow,hz1]at h4⊢;simp[h4]
 unfold Oper.wp;rw[hrun,Oper.upon_value]
 refine hk _ _ M _ (hH.alloc (val:= .pointer (some ⟨w.heap.size,0,none⟩)) (λb hb=>by simp only[Bk,blk,ui]at hb;exact hb.symm) hF.1
  ⟨w.heap.size,out.toList,el,zo _ _ _,by simpa using zJ w _,RepVs.agree (yD ρ id _) _ _ (λi hi=>by subst hi;exact hm) h5⟩
  (by simp only[RepS,RepV];exact⟨w.heap.size,len,zo _ _ _,rfl,uM _⟩) hd)
def zfY{l:List Operand}(J:zcm l ss)(U:onesOf ss=some fs):
 Snd P ⟨d,.makeFunc (.func f) l.toArray #[],ty,ps,af,g⟩ (rqs l ss) [] [] (.one (.cl f fs [])) []:=
 zi λC st M ρ a w hH h1 _=>by
  have e:=hH.zhi (wL J h1);have e':=xu U e;exact⟨.func (.func f) (l.map a.eval).toArray #[],by simp[execOp,Instr.makeFunc],by simp only[RepS,RepV];exact⟨l.map a.eval,[],rfl,e',by simp only[RepVs]⟩⟩
def zod{id k n:Nat}{aZ:Array TypeId}(U:okc x (.one (.bs id k n)))(ha:aZ[0]?=some t)(h:elemSz P t=some (el,m)):
 Snd P ⟨d,.call ⟨.builtin .len,#[x],aZ⟩,ty,ps,af,g⟩ (rq x (.one (.bs id k n))) [] [] (I n) []:=
 zi λC st M ρ a w hH h1 _=>by
  have J:=hH.evS (zq U h1);simp only[RepS,RepV]at J;obtain⟨b,c,_,h3,_⟩:=J;obtain⟨ii,hu,hinf,hsz⟩:=zp h;exact⟨.int .i64 n,by simp[execOp,resolve,invoke,builtin,Builtin.len_,ha,h3,run_underlying hu,goInt],zjP _ _⟩
def ziV{id k n:Nat}(hx:okc x (.one (.bs id k n)))(hy:okc y (Kk k0 i))(h:elemSz P t=some (el,1))(h0:0<=i)(hi:i<n):
 Snd P ⟨d,.indexAddr t x y,ty,ps,af,g⟩ (rq x (.one (.bs id k n))++rq y (Kk k0 i)) [] [] (.one (.bx id (k+i.toNat))) []:=
 zi λC st M ρ a w hH U _=>by
  rw[ze]at U;have e':=hH.evS (zq hx U.1);have e2:=hH.k (zq hy U.2);simp only[RepS,RepV]at e';obtain⟨b,c,h2,h3,h4⟩:=e';obtain⟨ii,hu,J,hsz⟩:=zp h;refine⟨.pointer (some ⟨b,k+i.toNat*1,none⟩),?_,by simp only[RepS,RepV];simp_all⟩;simp only[execOp,h3,e2,Instr.indexAt,asIntOf,Sem.run_bind,Sem.run_pure,Result.andThen_ok,run_underlying hu];rw[uw ⟨h0,ua⟩];simp only[Sem.run_bind,Sem.run_pure,Result.andThen_ok,run_sizeOf J,zT,hsz]
end
section
variable {k:List Frm} {n:Nat} {sl:zb}
def zrs(T:Ty P)(hC:C.low){d:Nat}{len:Nat}{l:List (Nat×Operand)}{ty:TypeId}{vs:List V}
 (hl:evs sl (l.map (·.2))=some ss) (he:T.es t=some (el,1)) (hz:T.zs el=some [z0]) (hv:zipParts (l.map (·.1)) ss=some vparts) (J:fillV (λi=>some (i*1,1)) (List.replicate len z0) vparts=some vs)
 (h0:Nat.blt 0 len=true) (hb:Nat.ble len 16777216=true) (U:mentVs (1000+d) vs=false) (hm:metL all sl g0=some gs) (hd:Nat.blt d n=true) (hf:(Nat.ble 100 (1000+d)&&freshB (1000+d) ⟨n,sl,tab⟩)=true)
 (g:Goal P C (.ops all rest (nx md ⟨some d,gs++rqs (l.map (·.2)) ss,[],[1000+d],.one (.bs (1000+d) 0 len),[(1000+d,some (.box vs))]⟩)) k n ((d,.one (.bs (1000+d) 0 len))::sl) ((1000+d,some (.box vs))::tab) Q):
 Goal P C (.ops all (⟨some d,.buildSlice t len l.toArray,ty,ps,af,g0⟩::rest) md) k n sl tab Q:=
 gDo hC hm (zrr (id:=1000+d) (es1 hl) (T.es_ok _ _ he) (T.zs_ok _ _ hz) hv J h0 hb U) (es2 hl) trivial (vU hf) hd g
def zfZ{d:Nat}{l:List Operand}{ty:TypeId}(hC:C.low)
 (J:evs sl l=some ss) (U:onesOf ss=some fs) (hm:metL all sl g0=some gs) (hd:Nat.blt d n=true)
 (g:Goal P C (.ops all rest (nx md ⟨some d,gs++rqs l ss,[],[],.one (.cl f fs []),[]⟩)) k n ((d,.one (.cl f fs []))::sl) tab Q):
 Goal P C (.ops all (⟨some d,.makeFunc (.func f) l.toArray #[],ty,ps,af,g0⟩::rest) md) k n sl tab Q:=
 gDo hC hm (zfY (f:=f) (es1 J) U) (es2 J) trivial rfl hd g
def zrt(T:Ty P){d:Nat}{ty:TypeId}(hC:C.low){id k1 J:Nat}(U:ev sl x=some (.one (.bs id k1 J)))(he:T.es t=some (el,m))(hm:metL all sl g0=some gs)(hd:Nat.blt d n=true)
 (g:Goal P C (.ops all rest (nx md ⟨some d,gs++rq x (.one (.bs id k1 J)),[],[],I J,[]⟩)) k n ((d,I J)::sl) tab Q):
 Goal P C (.ops all (⟨some d,.call ⟨.builtin .len,#[x],#[t]⟩,ty,ps,af,g0⟩::rest) md) k n sl tab Q:=
 gDo hC hm (zod (aZ:= #[t]) (ev1 U) rfl (T.es_ok _ _ he)) (ev2 U) trivial rfl hd g
def zru(T:Ty P){d:Nat}{y:Operand}{ty:TypeId}(hC:C.low){id k1 J:Nat}
 (U:ev sl x=some (.one (.bs id k1 J))) (hy:ev sl y=some (Kk k0 i)) (he:T.es t=some (el,1)) (h0:0<=i) (hi:i<J) (hm:metL all sl g0=some gs) (hd:Nat.blt d n=true)
 (g:Goal P C (.ops all rest (nx md ⟨some d,gs++(rq x (.one (.bs id k1 J))++rq y (Kk k0 i)),[],[],.one (.bx id (k1+i.toNat)),[]⟩)) k n ((d,.one (.bx id (k1+i.toNat)))::sl) tab Q):
 Goal P C (.ops all (⟨some d,.indexAddr t x y,ty,ps,af,g0⟩::rest) md) k n sl tab Q:=
 gDo hC hm (ziV (ev1 U) (ev1 hy) (T.es_ok _ _ he) h0 hi) (okA (ev2 U) (ev2 hy)) trivial rfl hd g
end
variable {ad:Option Addr}{cap:Nat}{rows:List (List PV)}{rt2:RL}{sy:S}{z:List V}
section
variable {ty:TypeId} {y:Operand}
theorem RepVs.plain{M:Mem}{ρ ρ':Nat->Value}: ∀ {l:List PV} {cs:List Value},RepVs M ρ (l.map V.p) cs->RepVs M ρ' (l.map V.p) cs
 | [],[],_=>by simp only[tI,RepVs]
 | [],_::_,h=>by simp only[tI,RepVs]at h
 |_::_,[],h=>by simp only[uH,RepVs]at h
 |p::l,c::cs,h=>by
  simp only[uH,RepVs,RepV]at h⊢;exact⟨h.1,RepVs.plain h.2⟩
def ziW{id id' e:Nat}{rows2:List (List PV)}{tx:TypeId}(hx:okc x (.one (.ar id)))(hy:okc y sy)(hs:zat P e tx sy rt2 rows2)
 (he:elemSz P t=some (el,e)) (h0:0<rows2.length) (hge:rows.length+rows2.length<=cap):
 Snd P ⟨d,.call ⟨.builtin .append,#[x,y],#[t,tx]⟩,ty,ps,af,g⟩ (rq x (.one (.ar id))++rq y sy) ((id,.arc e rows ad cap)::rt2) [id'] (.one (.ar id')) [(id',some (.arc e (rows++rows2) ad cap)),(id,none)]:=by
 intro C st M ρ a w hH h1 hT hF hd k Q hk;rw[ze]at h1;have e1:=hH.evS (zq hx h1.1);have e2:=hH.evS (zq hy h1.2);obtain⟨h2,a0,cap0,q1,q3,q4,h5⟩:=hH.zz.res id _ hT.1;have hq:=h2.symm.trans q1;simp only[Value.slice.injEq]at hq;obtain⟨rfl,_,rfl⟩:=hq;simp only[RepS,RepV]at e1;obtain⟨ii,hu,hinf,hsz⟩:=zp he;obtain⟨news,J,hnews,hlen2⟩:=hs C st M ρ a w _ hH e2 hT.2;have hnl:news.length=rows2.length*e:=J.newsLen
 have hcall:execOp a.eval ⟨d,.call ⟨.builtin .append,#[x,y],#[t,tx]⟩,ty,ps,af,g⟩=(do pure (.value (<-Builtin.append_ #[t,tx] ty #[a.eval x,a.eval y]))):=by
  simp[execOp,resolve,invoke,builtin]
 have hex:a.eval x= .slice ad rows.length cap:=e1.1.trans h2;rcases h5 with⟨rfl,hc⟩|⟨b',o,cs,el',fz,rfl,h6,h6',h7,h8⟩
 ·omega
 have U:o+rows.length*e+0+news.length<=cs.size:=by
  rw[hnl];have:(rows.length+rows2.length)*e<=cap*e:=tz _ hge;rw[tS]at this;omega
 have hst:=zG (P:=P) b' (o+rows.length*e) el' fz news 0 cs w h6 h6' U J.one
 have hrun:(Builtin.append_ #[t,tx] ty #[a.eval x,a.eval y]).run P w= .ok (.slice (some ⟨b',o,none⟩) (rows.length+rows2.length) cap) (w.setRow b' (setAt cs.toList (o+rows.length*e+0) news).toArray):=by
  rw[hex];have hl:=J.len w;have hc:=J.cells;rcases J.kind with⟨e',hk'⟩|hk'<;>simp[Builtin.append_,run_underlying hu,run_underlying hk',Go.sizeOf,typeInfo,hinf,hl,hsz,hc,hge,zT,hst]
 have hob:Bk (ρ id) b':=by rw[h2];rfl
 have hsl:(setAt cs.toList (o+rows.length*e+0) news).length=cs.size:=by rw[z8 _ _ _ (by simpa using U)];simp
 unfold Oper.wp;rw[hcall];simp only[Sem.run_bind,hrun,Result.andThen_ok,Sem.run_pure,Oper.upon_value]
 refine hk _ _ _ _ (hH.step (some id) (λb2 hb2 hne=>yW w b' _ b2 λe=>hne id _ rfl hT.1 (e ▸ hob)) (by simp[World.setRow]) rfl rfl rfl
  (λb2 hb2=> .inr ⟨id,_,rfl,hT.1,by simp only[Bk,blk,ui]at hb2;simp_all⟩) hF.1 (val:= .slice (some ⟨b',o,none⟩) (rows.length+rows2.length) cap) ?_ (by simp only[RepS,RepV];exact⟨(zo _ _ _).symm,rfl⟩) hd)
 refine⟨by rw[zo];simp,some ⟨b',o,none⟩,cap,by rw[zo];simp,by simpa using hge,q4,.inr ⟨b',o,_,el',fz,rfl,setRow_heap w b' cs _ el' fz h6,?_,?_,?_⟩⟩
 ·simp_all
 ·simp_all
 ·refine RowsIn.append (RowsIn.congr (λj hj=>?_) h8) (RowsIn.yb (ρ:=ρ) hlen2 hnews λj c hj=>?_)
  ·simp only[tl];rw[yh _ _ _ _ ug,uw ua];simp
  ·have hjl:j<news.length:=(uy.1 hj).1;simp only[tl];rw[yh _ _ _ _ ug,ur ua,uw ua]
   simp_all
def ziX{id id' e bytes:Nat}{rows2:List (List PV)}{tx:TypeId}(hx:okc x (.one (.ar id)))(hy:okc y sy)(hs:zat P e tx sy rt2 rows2)
 (he:elemSz P t=some (el,e)) (hz:zeroV P el=some z) (hzl:z.length=e) (hby:(P.info? el).map (·.bytes)=some bytes) (hb:(rows.length+rows2.length)*bytes<=140737488355328) (hlen:rows.length+rows2.length<=9223372036854775807) (hlt:cap<rows.length+rows2.length):
 Snd P ⟨d,.call ⟨.builtin .append,#[x,y],#[t,tx]⟩,ty,ps,af,g⟩ (rq x (.one (.ar id))++rq y sy) ((id,.arc e rows ad cap)::rt2) [id'] (.one (.ar id')) [(id',some (.arr e (rows++rows2)))]:=by
 intro C st M ρ a w hH h1 hT hF hd k Q hk;rw[ze]at h1;have e1:=hH.evS (zq hx h1.1);have e2:=hH.evS (zq hy h1.2);obtain⟨h2,a0,cap0,q1,q3,q4,h5⟩:=hH.zz.res id _ hT.1;have hq:=h2.symm.trans q1;simp only[Value.slice.injEq]at hq;obtain⟨rfl,_,rfl⟩:=hq;simp only[RepS,RepV]at e1;obtain⟨ii,hu,J,hsz⟩:=zp he;obtain⟨news,U,hnews,hlen2⟩:=hs C st M ρ a w _ hH e2 hT.2;obtain⟨i',zv,hi',hzv,hzs⟩:=y5 hz;rw[J]at hi';simp only[ui]at hi';subst hi';rw[J]at hby;simp only[uG,ui]at hby;have hnl:news.length=rows2.length*e:=U.newsLen
 have hcall:execOp a.eval ⟨d,.call ⟨.builtin .append,#[x,y],#[t,tx]⟩,ty,ps,af,g⟩=(do pure (.value (<-Builtin.append_ #[t,tx] ty #[a.eval x,a.eval y]))):=by
  simp[execOp,resolve,invoke,builtin]
 have hex:a.eval x= .slice ad rows.length cap:=e1.1.trans h2
 have hold: ∃olds:List Value,(Builtin.firstCells ii.size rows.length (.slice ad rows.length cap)).run P w.drew= .ok olds.toArray w.drew/\RepVs M ρ (rows.flatten.map V.p) olds/\olds.length=rows.length*e/\ ∀r∈rows,r.length=e:=by
  rcases h5 with⟨rfl,hc⟩|⟨b',o,cs,el',fz,rfl,h6,_,_,h8⟩
  ·have:rows=[]:=uY.1 ua;subst this;exact⟨[],run_firstCells_none w.drew _ _ _ _,by simp[RepVs],ue,ue⟩
  ·obtain⟨us,h9,h10,h11⟩:=h8.cells (ρ:=ρ);refine⟨us,?_,h9,h10,h8.len⟩;rw[hsz]
   exact run_firstCells_some w.drew e rows.length ⟨b',o,none⟩ _ cap us h10 (λj u hj=>by
    rw[zT];have:=h11 j u hj;have h6':w.drew.heap[b']?=some (.cells cs el' fz):=h6
    simp[World.cell?,h6',this])
 obtain⟨olds,ho1,ho2,ho3,ho4⟩:=hold;have hrun:=run_append_grow_src (P:=P) w t tx ty el ii zv hu J hzv ad rows.length cap olds ho1 (a.eval y) rows2.length news (by rw[hsz];exact U) hlt ua (growslice_fits hlt (by rw[hby];exact hb));rw[<-hex]at hrun;have hcap:=grownCap_ge w (rows.length+rows2.length) cap el;unfold Oper.wp;rw[hcall];simp only[Sem.run_bind,hrun,Result.andThen_ok,Sem.run_pure,Oper.upon_value];refine hk _ _ _ _ (hH.step none (λb' hb' _=>z1 w.drew _ b' hb') ue rfl rfl rfl (λb' hb'=> .inl ?_) hF.1 (val:= .slice (some ⟨w.heap.size,0,none⟩) (rows.length+rows2.length) (grownCap w (rows.length+rows2.length) cap el)) ?_ (by simp only[RepS,RepV];exact⟨(zo _ _ _).symm,rfl⟩) hd)
 ·simp only[Bk,blk,ui]at hb';omega
 refine⟨some ⟨w.heap.size,0,none⟩,grownCap w (rows.length+rows2.length) cap el,by rw[zo];simp,by simpa using hcap,(by have:=grownCap_le_maxLen w (rows.length+rows2.length) cap el (by unfold maxLen;omega);unfold maxLen at this;omega),.inr
  ⟨w.heap.size,0,_,el,(0,0),rfl,zJ w.drew _,λi _=>by simp,?_,?_⟩⟩
 ·simp only[qU,qg,uQ,size_zeroCells,hzs,hzl,ho3,hnl,<-tS,tJ]
  simp_all
 ·refine RowsIn.yb (ρ:=ρ) (cs:=olds++news) (λr hr=>(tp.1 hr).elim (ho4 r) (hlen2 r)) (by simpa [qi]using ho2.append hnews) λj c hj=>?_
  grind
end
def Holds.zuh{n:Nat}{sl:zb}(U:Holds C ⟨n,sl,tab⟩ M ρ a w){id:Nat}{r r':Res}(hid:tg tab id=some r)(h:zA M ρ w id r'):Holds C ⟨n,sl,(id,some r')::tab⟩ M ρ a w:=by
 have htab: ∀i s,tg ((id,some r')::tab) i=some s->(i=id/\s=r')\/(i≠id/\tg tab i=some s):=λi s J=>by
  rw[zm]at J;split at J
  ·rename_i e;exact .inl ⟨e.symm,(uU J).symm⟩
  ·rename_i e;exact .inr ⟨λh=>e h.symm,J⟩
 have old: ∀i s,tg ((id,some r')::tab) i=some s-> ∃s0,tg tab i=some s0:=λi s J=>by
  rcases htab i s J with⟨rfl,_⟩|⟨_,h2⟩
  ·exact⟨r,hid⟩
  ·exact⟨s,h2⟩
 refine⟨U.dfr,U.sz,U.slots,⟨λi s J=>?_,λi j ri rj b J hj hne hbi hbj=>?_,λi s b J hb=>?_⟩,λi s b J hb=>?_,U.run,U.keep⟩
 ·rcases htab i s J with⟨rfl,rfl⟩|⟨_,h2⟩
  ·exact h
  ·exact U.zz.res _ _ h2
 ·obtain⟨si,h1⟩:=old i ri J;obtain⟨sj,h2⟩:=old j rj hj;exact U.zz.dis i j si sj b h1 h2 hne hbi hbj
 ·obtain⟨si,h1⟩:=old i s J;exact U.zz.own i si b h1 hb
 ·obtain⟨si,h1⟩:=old i s J;exact U.ownf i si b h1 hb
variable {cur:Cur}{q:Nat}{r0:Res}
section
variable {k:List Frm} {n:Nat} {sl:zb}
def zwX(hc:lst cur=true){id e:Nat}(J:tg tab id=some (.arr e rows))(h0:tg C.tab0 id=some r0)
 (g: ∀ad cap,C.ρ0 id= .slice ad rows.length cap->rows.length<=cap->cap<=9223372036854775807->Goal P C cur k n sl ((id,some (.arc e rows ad cap))::tab) Q):Goal P C cur k n sl tab Q:=by
 refine zep (p:= ∃ad cap,C.ρ0 id= .slice ad rows.length cap/\rows.length<=cap/\cap<=9223372036854775807) (λa r p e=>by subst e;cases hc) (λ{M ρ a w} U=>?_) λ⟨ad,cap,h1,h2,h3⟩=>
  jv hc (λ{M ρ a w} U=>⟨M,ρ,U.zuh J ?_⟩) (g ad cap h1 h2 h3)
 ·obtain⟨ad,cap,h1,h2,h3,_⟩:=U.zz.res id _ J;exact⟨ad,cap,by rw[<-U.keep id r0 h0];exact h1,h2,h3⟩
 ·have h4:=U.zz.res id _ J;exact⟨by rw[U.keep id r0 h0];exact h1,_,_,h4.choose_spec.choose_spec.1,h4.choose_spec.choose_spec.2⟩
def zui(hc:lst cur=true){id e:Nat}{r2:List (List PV)}(hq:tg tab q=some (.arc e (rows++r2) ad cap))(hid:tg tab id=none)(h0:tg C.tab0 id=some r0)
 (hρ:C.ρ0 id= .slice ad rows.length cap) (g:Goal P C cur k n sl ((id,some (.arc e rows ad cap))::(q,none)::tab) Q):Goal P C cur k n sl tab Q:=by
 refine jv hc (λ{M ρ a w} U=>⟨M,ρ,?_⟩) g;obtain⟨h1,ad0,cap0,h2,h3,h4,h5⟩:=U.zz.res q _ hq;have he:=h1.symm.trans h2;simp only[Value.slice.injEq]at he;obtain⟨rfl,_,rfl⟩:=he;have hi:ρ id= .slice ad rows.length cap:=(U.keep id r0 h0).trans hρ
 have hbk: ∀b,Bk (ρ id) b->Bk (ρ q) b:=λb hb=>by
  rw[hi]at hb;rw[h1];cases ad with
  |none=>cases hb
  |some x=>exact hb
 have J: ∀i s,tg ((id,some (.arc e rows ad cap))::(q,none)::tab) i=some s->(i=id/\s= .arc e rows ad cap)\/(i≠id/\i≠q/\tg tab i=some s):=λi s h=>by
  rw[zm]at h;split at h
  ·rename_i e;exact .inl ⟨e.symm,(uU h).symm⟩
  ·rename_i e;rw[zm]at h;split at h
   ·cases h
   ·rename_i e2;exact .inr ⟨λh=>e h.symm,λh=>e2 h.symm,h⟩
 refine⟨U.dfr,U.sz,U.slots,⟨λi s h=>?_,λi j ri rj b hi hj hne hbi hbj=>?_,λi s b h hb=>?_⟩,λi s b h hb=>?_,U.run,U.keep⟩
 ·rcases J i s h with⟨rfl,rfl⟩|⟨_,_,h6⟩
  ·refine⟨hi,ad,cap,hi,by rw[uQ]at h3;omega,h4,?_⟩;rcases h5 with h5|⟨b,o,cs,el,fz,h5,h6,h7,h8,h9⟩
   ·exact .inl h5
   ·exact .inr ⟨b,o,cs,el,fz,h5,h6,h7,h8,by have:=h9.take rows.length;rwa [List.take_left' rfl]at this⟩
  ·exact U.zz.res _ _ h6
 ·rcases J i ri hi with⟨rfl,_⟩|⟨h1,h2,h3⟩<;>rcases J j rj hj with⟨rfl,_⟩|⟨h4,h5,h6⟩
  ·exact hne rfl
  ·exact U.zz.dis q j _ _ b hq h6 (λe=>h5 e.symm) (hbk b hbi) hbj
  ·exact U.zz.dis i q _ _ b h3 hq h2 hbi (hbk b hbj)
  ·exact U.zz.dis i j _ _ b h3 h6 hne hbi hbj
 ·rcases J i s h with⟨rfl,_⟩|⟨_,_,h3⟩
  ·exact U.zz.own q _ b hq (hbk b hb)
  ·exact U.zz.own i _ b h3 hb
 ·rcases J i s h with⟨rfl,_⟩|⟨_,_,h3⟩
  ·exact U.ownf q _ b hq (hbk b hb)
  ·exact U.ownf i _ b h3 hb
end
theorem zkp{i j:Nat}(h: ¬j=i)(s:Option Res)(b:Tab): ∀a:Tab,tg (a++(j,s)::b) i=tg (a++b) i
 | []=>by simp only[tM,zm,ur h]
 |(k,r)::a=>by simp only[uK,zm,zkp h s b a]
theorem zhB{n:Nat}{sl:zb}{tab:Tab}{q:Nat}{s:Option Res}: ∀ {R:RL},hasB q R.ids=false->okT R ⟨n,sl,tab⟩->okT R ⟨n,sl,(q,s)::tab⟩
 | [],_,_=>trivial
 |(i,r)::R,h,ht=>by
  simp only[RL.ids,hasB,uT]at h;refine⟨?_,zhB h.2 ht.2⟩;rw[zm,ur]
  ·exact ht.1
  ·intro e;subst e;rw[vq]at h;cases h.1
theorem zkq{C:Ctx}{n:Nat}{sl:zb}{tab:Tab}{q e:Nat}{rows:List (List PV)}{r:Res}(U:tg tab q=some r): ∀ {fr:List Nat},okF C fr ⟨n,sl,tab⟩->okF C fr ⟨n,sl,(q,some (.arr e rows))::tab⟩
 | [],_=>trivial
 |i::fr,h=>by
  refine⟨⟨h.1.1,λj s J=>?_,h.1.2.2⟩,zkq U h.2⟩;rw[zm]at J;split at J
  ·rename_i e;subst e;simp only[ui]at J;subst J;exact⟨(h.1.2.1 _ _ U).1,rfl⟩
  ·exact h.1.2.1 j s J
variable {res:S}
section
variable {ty:TypeId}
def zrv{U J:RL}{e:Nat}(h:zh P f args ((j,.arr e rows)::U) res ((j,.arr e rows)::J))(σ:Nat->Nat){l:List Operand}{first caps:List V}
 (hx:okc x (.one (.cl f first caps))) (hl:zcm l ss) (hle:yG (ones first++ss++ones caps) (Ss.ren σ args)) (hi:injB σ (RL.ids ((j,.arr e rows)::U))=true) (hi2:injB σ (RL.ids ((j,.arr e rows)::J))=true)
 (hc:cloS (RL.ids ((j,.arr e rows)::U)++RL.ids ((j,.arr e rows)::J)) res=true) (hcR:yM (RL.ids ((j,.arr e rows)::U)++RL.ids ((j,.arr e rows)::J)) ((j,.arr e rows)::J)=true) (hn:hasB (σ j) (U.ren σ).ids=false):
 Snd P ⟨d,.call ⟨.value x,l.toArray,ts⟩,ty,ps,af,g⟩ (rq x (.one (.cl f first caps))++rqs l ss) ((σ j,.arc e rows ad cap)::U.ren σ) ((zC ((j,.arr e rows)::U) ((j,.arr e rows)::J)).map σ) (res.ren σ)
  ((σ j,some (.arc e rows ad cap))::(tb (J.ren σ)++yF (RL.ids ((j,.arr e rows)::U) |>.map σ))):=by
 rintro C ⟨n,sl,tab⟩ M ρ a w hH h1 hT hF hd k Q hk;have harc:=hH.zz.res (σ j) _ hT.1;have hH2:=hH.zuh hT.1 (r':= .arr e rows) harc.2;refine zeu h σ hx hl hle hi hi2 hc hcR hH2 (vP h1 λ_ _=>rfl) ⟨zax _ _ _,zhB hn hT.2⟩ (zkq hT.1 hF) hd k Q λa' w' M' ρ' h3 h4=>hk a' w' M' ρ' ?_
 have hρ:ρ' (σ j)= .slice ad rows.length cap:=(h4 (σ j) _ (zax _ _ _)).trans harc.1;have h5:zA M' ρ' w' (σ j) (.arr e rows):=h3.zz.res (σ j) _ (by simp only[app,RL.ren,tb,uK,zax];rfl);have h6:=Holds.zuh (n:=n) h3 (id:=σ j) (r:= .arr e rows) (r':= .arc e rows ad cap) (by simp only[app,RL.ren,tb,uK,zax];rfl) ⟨hρ,h5⟩;refine h6.ext rfl (λ_=>rfl) λi=>?_;simp only[app,RL.ren,tb,uK,zm];by_cases e:σ j=i
 ·rw[uw e,uw e]
 ·rw[ur e,ur e,ur e,zkp e]
end
section
variable {k:List Frm} {n:Nat} {sl:zb}
def ziY(T:Ty P)(id':Nat){d:Nat}{y:Operand}{tx ty:TypeId}(hC:C.low){id e:Nat}{rows2 rows3:List (List PV)}
 (hx:ev sl x=some (.one (.ar id))) (hy:ev sl y=some sy) (hT:tg tab id=some (.arc e rows ad cap)) (J:rdT tab rt2=rt2) (hs:zat P e tx sy rt2 rows2) (hr:rows++rows2=rows3) (he:T.es t=some (el,e)) (h0:0<rows2.length) (U:rows.length+rows2.length<=cap)
 (hm:metL all sl g0=some gs) (hd:Nat.blt d n=true) (hf:(Nat.ble 100 id'&&freshB id' ⟨n,sl,tab⟩)=true)
 (g:Goal P C (.ops all rest (nx md ⟨some d,gs++(rq x (.one (.ar id))++rq y sy),(id,.arc e rows ad cap)::rt2,[id'],.one (.ar id'),[(id',some (.arc e rows3 ad cap)),(id,none)]⟩)) k n ((d,.one (.ar id'))::sl) ([(id',some (.arc e rows3 ad cap)),(id,none)]++tab) Q):
 Goal P C (.ops all (⟨some d,.call ⟨.builtin .append,#[x,y],#[t,tx]⟩,ty,ps,af,g0⟩::rest) md) k n sl tab Q:=by
 subst hr;exact gDo hC hm (ziW (id':=id') (ev1 hx) (ev1 hy) hs (T.es_ok _ _ he) h0 U) (okA (ev2 hx) (ev2 hy)) ⟨hT,wM J⟩ (vU hf) hd g
def ziZ(T:Ty P)(id':Nat){d:Nat}{y:Operand}{tx ty:TypeId}(hC:C.low){id e bytes:Nat}{rows2 rows3:List (List PV)}
 (hx:ev sl x=some (.one (.ar id))) (hy:ev sl y=some sy) (hT:tg tab id=some (.arc e rows ad cap)) (U:rdT tab rt2=rt2) (hs:zat P e tx sy rt2 rows2) (hr:rows++rows2=rows3) (he:T.es t=some (el,e)) (hz:T.zs el=some z) (hzl:Nat.beq z.length e=true)
 (hby:(P.info? el).map (·.bytes)=some bytes) (hb:(rows.length+rows2.length)*bytes<=140737488355328) (J:rows.length+rows2.length<=9223372036854775807) (hlt:cap<rows.length+rows2.length)
 (hm:metL all sl g0=some gs) (hd:Nat.blt d n=true) (hf:(Nat.ble 100 id'&&freshB id' ⟨n,sl,tab⟩)=true)
 (g:Goal P C (.ops all rest (nx md ⟨some d,gs++(rq x (.one (.ar id))++rq y sy),(id,.arc e rows ad cap)::rt2,[id'],.one (.ar id'),[(id',some (.arr e rows3))]⟩)) k n ((d,.one (.ar id'))::sl) ([(id',some (.arr e rows3))]++tab) Q):
 Goal P C (.ops all (⟨some d,.call ⟨.builtin .append,#[x,y],#[t,tx]⟩,ty,ps,af,g0⟩::rest) md) k n sl tab Q:=by
 subst hr;exact gDo hC hm (ziX (id':=id') (ev1 hx) (ev1 hy) hs (T.es_ok _ _ he) (T.zs_ok _ _ hz) (uA hzl) hby hb J hlt) (okA (ev2 hx) (ev2 hy)) ⟨hT,wM U⟩ (vU hf) hd g
def zrw{d:Nat}{l:List Operand}{ty:TypeId}(hC:C.low){first caps:List V}{U J:RL}{e:Nat}
 (h:zh P f args ((j,.arr e rows)::U) res ((j,.arr e rows)::J)) (σ:Nat->Nat) (hx:ev sl x=some (.one (.cl f first caps))) (hl:evs sl l=some ss) (ha:yG (ones first++ss++ones caps) (Ss.ren σ args))
 (hi:injB σ (RL.ids ((j,.arr e rows)::U))=true) (hi2:injB σ (RL.ids ((j,.arr e rows)::J))=true) (hc:cloS (RL.ids ((j,.arr e rows)::U)++RL.ids ((j,.arr e rows)::J)) res=true)
 (hcR:yM (RL.ids ((j,.arr e rows)::U)++RL.ids ((j,.arr e rows)::J)) ((j,.arr e rows)::J)=true) (hn:hasB (σ j) (U.ren σ).ids=false) (hT:tg tab (σ j)=some (.arc e rows ad cap)) (hT1:rdT tab (U.ren σ)=U.ren σ)
 (hfr:allB (λid=>Nat.ble 100 id&&freshB id ⟨n,sl,tab⟩) ((zC ((j,.arr e rows)::U) ((j,.arr e rows)::J)).map σ)=true) (hm:metL all sl g0=some gs) (hd:Nat.blt d n=true)
 (g:Goal P C (.ops all rest (nx md ⟨some d,gs++(rq x (.one (.cl f first caps))++rqs l ss),(σ j,.arc e rows ad cap)::U.ren σ,(zC ((j,.arr e rows)::U) ((j,.arr e rows)::J)).map σ,res.ren σ,
    (σ j,some (.arc e rows ad cap))::(tb (J.ren σ)++yF ((RL.ids ((j,.arr e rows)::U)).map σ))⟩)) k n ((d,res.ren σ)::sl) (((σ j,some (.arc e rows ad cap))::(tb (J.ren σ)++yF ((RL.ids ((j,.arr e rows)::U)).map σ)))++tab) Q):
 Goal P C (.ops all (⟨some d,.call ⟨.value x,l.toArray,ts⟩,ty,ps,af,g0⟩::rest) md) k n sl tab Q:=
 gDo hC hm (zrv h σ (ev1 hx) (es1 hl) ha hi hi2 hc hcR hn) (okA (ev2 hx) (es2 hl)) ⟨hT,wM hT1⟩ hfr hd g
end
section
variable {ty:TypeId} {t' et:TypeId}
def zev{v:Value}{n:Nat}(J:P.underlying t=some (.slice et))(h:a.eval x=v)(hv:v= .slice ad n cap):
 (execOp a.eval ⟨d,.binOp .eql t x (.const (.slice none 0 0)) t',ty,ps,af,g⟩).run P w= .ok (.value (.bool ad.isNone)) w:=by
 subst hv;have U:a.eval (.const (.slice none 0 0))= .slice none 0 0:=rfl
 have hr:(binOp .eql t (.slice ad n cap) (.slice none 0 0)).run P w= .ok (.bool ad.isNone) w:=by
  have:binOp .eql t (.slice ad n cap) (.slice none 0 0)=(do pure (.bool (<-Op.equal t (.slice ad n cap) (.slice none 0 0)))):=rfl;rw[this];simp[run_equal_slice_nil w t et ad n cap J]
 have hg:(eqGuard .eql t x (.const (.slice none 0 0)) (.slice ad n cap) (.slice none 0 0)).run P w= .ok () w:=rfl;simp only[execOp,h,U,Sem.run_bind,hg,hr,Result.andThen_ok,Sem.run_pure]
def zuj{e:Nat}(U:okc x (.one (.p (.sl e rows))))(hu:P.underlying t=some (.slice et))(hr:rows≠ []):
 Snd P ⟨d,.binOp .eql t x (.const (.slice none 0 0)) t',ty,ps,af,g⟩ (rq x (.one (.p (.sl e rows)))) [] [] (Bo false) []:=
 zi λC st M ρ a w hH h1 _=>by
  have J:=hH.evS (zq U h1);simp only[RepS,RepV,RepPV]at J;obtain⟨ad,cap,h2,_,_,h3⟩:=J;rcases h3 with h3|⟨b,o,rfl,_⟩
  ·exact absurd h3 hr
  ·exact⟨_,zev hu rfl h2,znS _⟩
def zuk{id e:Nat}(hx:okc x (.one (.ar id)))(hu:P.underlying t=some (.slice et))(hr:rows≠ []):
 Snd P ⟨d,.binOp .eql t x (.const (.slice none 0 0)) t',ty,ps,af,g⟩ (rq x (.one (.ar id))) [(id,.arr e rows)] [] (Bo false) []:=
 zi λC st M ρ a w J h1 hT=>by
  have U:=J.evS (zq hx h1);obtain⟨ad,cap,h2,h3,h4,h5⟩:=J.zz.res id _ hT.1;simp only[RepS,RepV]at U;rcases h5 with⟨rfl,hc⟩|⟨b,o,cs,el,fz,rfl,_⟩
  ·exact absurd (uY.1 ua) hr
  ·exact⟨_,zev hu rfl (U.1.trans h2),znS _⟩
end
section
variable {k:List Frm} {n:Nat} {sl:zb}
def zp2{d:Nat}{t' et ty:TypeId}(hC:C.low){e:Nat}(hr:rows≠ [])(J:ev sl x=some (.one (.p (.sl e rows))))(U:P.underlying t=some (.slice et))
 (hm:metL all sl g0=some gs) (hd:Nat.blt d n=true) (g:Goal P C (.ops all rest (nx md ⟨some d,gs++rq x (.one (.p (.sl e rows))),[],[],Bo false,[]⟩)) k n ((d,Bo false)::sl) tab Q):
 Goal P C (.ops all (⟨some d,.binOp .eql t x (.const (.slice none 0 0)) t',ty,ps,af,g0⟩::rest) md) k n sl tab Q:=gDo hC hm (zuj (ev1 J) U hr) (ev2 J) trivial rfl hd g
def zul{d:Nat}{t' et ty:TypeId}(hC:C.low){id e:Nat}(hr:rows≠ [])(J:ev sl x=some (.one (.ar id)))(hT:tg tab id=some (.arr e rows))(U:P.underlying t=some (.slice et))
 (hm:metL all sl g0=some gs) (hd:Nat.blt d n=true) (g:Goal P C (.ops all rest (nx md ⟨some d,gs++rq x (.one (.ar id)),[(id,.arr e rows)],[],Bo false,[]⟩)) k n ((d,Bo false)::sl) tab Q):
 Goal P C (.ops all (⟨some d,.binOp .eql t x (.const (.slice none 0 0)) t',ty,ps,af,g0⟩::rest) md) k n sl tab Q:=gDo hC hm (zuk (ev1 J) U hr) (ev2 J) ⟨hT,uh⟩ rfl hd g
def zrx(hc:lst cur=true){id e:Nat}(J:tg tab id=some (.arc e rows ad cap))(g:Goal P C cur k n sl ((id,some (.arr e rows))::tab) Q):Goal P C cur k n sl tab Q:=
 jv hc (λ{M ρ a w} U=>⟨M,ρ,U.zuh (r':= .arr e rows) J (U.zz.res id _ J).2⟩) g
end
def zwJ{k:List Frm}{n:Nat}{sl:zb}(hc:lst cur=true){id:Nat}{vs vs':List V}(J:tg tab id=some (.box vs))(hl:znD vs vs')(g:Goal P C cur k n sl ((id,some (.box vs'))::tab) Q):Goal P C cur k n sl tab Q:=
 jv hc (λ{M ρ a w} U=>⟨M,ρ,U.zuh (r':= .box vs') J (by
  obtain⟨b,cs,el,h1,h2,h3⟩:=U.zz.res id _ J
  exact⟨b,cs,el,h1,h2,hl _ _ _ h3⟩)⟩) g
theorem zh.zye{a0 a1:S}{R:RL}{R':RL}{r':Res}{e:Nat}(h:zh P f (a0::a1:: .one (.ar j)::args) ((j,.arr e [])::R) res ((j,r')::R'))(hm:mentSs j (a0::a1::args)=false)(hr: ∀id r,tg (tb R) id=some r->id≠j/\mentR j r=false)(hn:j∉R.ids)(hn2: ∀id r,tg (tb R') id=some r->id≠j):zh P f (a0::a1:: .one (.p (.k (.slice none 0 0)))::args) R res R':=by
 refine⟨h.1,λM ρ w xs hx ht hI hM=>?_⟩
 match xs,hx with
 | [],hx=>simp[RepSs]at hx
 | [_],hx=>simp[RepSs]at hx
 | [_,_],hx=>simp[RepSs]at hx
 |x0::x1::x::xs,hx=>
  simp only[mentSs,uT]at hm;simp only[RepSs]at hx;obtain⟨hx0,hx1,hx2,hxs⟩:=hx;simp only[RepS,RepV,RepPV]at hx2;have hρ:upd ρ j (.slice none 0 0) j= .slice none 0 0:=zo _ _ _;have agr:=yD ρ j (.slice none 0 0)
  have one: ∀id r,tg (tb ((j,.arr e [])::R)) id=some r->(id=j/\r= .arr e [])\/(tg (tb R) id=some r/\id≠j/\mentR j r=false/\upd ρ j (.slice none 0 0) id=ρ id):=λid r J=>by
   simp only[tb,zm]at J;split at J
   ·rename_i e';exact .inl ⟨e'.symm,(uU J).symm⟩
   ·have h2:=hr id r J;exact .inr ⟨J,h2.1,h2.2,zP h2.1⟩
  have nb: ∀b,¬Bk (upd ρ j (.slice none 0 0) j) b:=λb hb=>by rw[hρ]at hb;simp[Bk,blk]at hb
  have own: ∀b,zaO (tb ((j,.arr e [])::R)) (upd ρ j (.slice none 0 0)) b↔zaO (tb R) ρ b:=λb=>by
   constructor
   ·rintro⟨id,r,J,h2⟩;rcases one id r J with⟨rfl,_⟩|⟨h3,_,_,h4⟩
    ·exact(nb b h2).elim
    ·exact⟨id,r,h3,by rwa [h4]at h2⟩
   ·rintro⟨id,r,J,h2⟩;have h3:=(hr id r J).1;exact⟨id,r,by simp only[tb,zm,ur (Ne.symm h3)];exact J,by rwa [zP h3]⟩
  refine(h.2 M (upd ρ j (.slice none 0 0)) w (x0::x1::x::xs) ?_ ⟨λid r J=>?_,λi k ri rk b J h2 hne hb1 hb2=>?_,λid r b J h2=>?_⟩ hI hM).mono λex w' ⟨v,M',ρ',he,U⟩=>⟨v,M',ρ',he,?_⟩
  ·simp only[RepSs];exact⟨RepS.agree agr _ _ (λi hi=>by subst hi;exact hm.1) hx0,RepS.agree agr _ _ (λi hi=>by subst hi;exact hm.2.1) hx1,by simp only[RepS,RepV];exact⟨by rw[hρ];exact hx2.1,by rw[hx2.1];exact hx2.2⟩,RepSs.agree agr _ _ (λi hi=>by subst hi;exact hm.2.2) hxs⟩
  ·rcases one id r J with⟨rfl,rfl⟩|⟨h3,h4,h5,_⟩
   ·exact⟨none,0,hρ,uM _,ue,.inl ⟨rfl,rfl⟩⟩
   ·exact zA.agree agr h4 (λi hi=>by subst hi;exact h5) (ht.res _ _ h3)
  ·rcases one i ri J with⟨rfl,_⟩|⟨h3,_,_,h4⟩
   ·exact nb b hb1
   ·rcases one k rk h2 with⟨rfl,_⟩|⟨h5,_,_,h6⟩
    ·exact nb b hb2
    ·rw[h4]at hb1;rw[h6]at hb2;exact ht.dis i k _ _ b h3 h5 hne hb1 hb2
  ·rcases one id r J with⟨rfl,_⟩|⟨h3,_,_,h4⟩
   ·exact(nb b h2).elim
   ·rw[h4]at h2;exact ht.own _ _ b h3 h2
  ·have sub: ∀id r,tg (tb R') id=some r->tg (tb ((j,r')::R')) id=some r:=λid r J=>by simp only[tb,zm,ur (Ne.symm (hn2 id r J))];exact J
   exact⟨U.rep,⟨λid r J=>U.zz.res _ _ (sub id r J),λi k ri rk b J h2=>U.zz.dis i k ri rk b (sub _ _ J) (sub _ _ h2),λid r b J=>U.zz.own id r b (sub _ _ J)⟩,U.imm,U.mle,λb o u hu=>(U.newM b o u hu).imp id λh3=>h3.imp id (own b).1,λb ⟨id,r,J,h2⟩=>(U.own b ⟨id,r,sub id r J,h2⟩).imp (λh=>h) (own b).1,λb hb h3=>U.fram b hb λh4=>h3 ((own b).1 h4),U.size,U.os,U.tape,U.output,λid hid=>by
    have h5:id∈R.ids:=hid;have h6:=U.keep id (u3 _ hid);by_cases h7:id=j
    ·subst h7;exact(hn h5).elim
    ·rw[h6,zP h7]⟩
end Hw
namespace Hw.Gm
open Go Go.Proofs Hw.M Tryz
def gLc{G A B:Prop}{b:Bool}(J:b=true->A)(U:b=false->B)(h:(b=true->A)->(b=false->B)->G:=by exact λJ U=>w9 T hC true 200 rfl (zpU rfl J U)):G:=h J U
def gLb{G G':Prop}(g:G')(h:G'->G:=by exact λg=>zru T hC rfl rfl rfl ub ub rfl rfl g):G:=h g
def gPa{G G':Prop}(g:G')(h:G'->G:=by exact λg=>zn7 hC rfl rfl g):G:=h g
def gPt{G G':Prop}(g:G')(h:G'->G:=by exact λg=>zum hC (te:=171) rfl rfl ud rfl rfl g):G:=h g
variable {R R':RL}{af:Array Edge}{args ss:List S}{c:Code}{d:Option Nat}{done:List Law}{f:FuncId}{fn:Func}{g0:Option (Nat×Bool)}{gs sl0:zb}{i:Int}{k0:IntKind}{md:Mode}{ps:String}{pv:Value}{res:S}{rv:List ResultVar}{t:TypeId}{tab0:Tab}{ts:Array TypeId}{x:Operand}
section
variable {C:Ctx} {k:List Frm} {n:Nat} {sl:zb} {tab:Tab} {Q:Exit->St->Prop} {all:Array Oper} {rest:List Oper}
def gFp(hf:prog.funcs[f]?=some fn)(body: ∀C:Ctx,C.low->Goal prog C (.code c) [] fn.ntmps (enum 0 args) (tb R) (ztU pv R R'))(J:(fn.name== "runtime.NumGoroutine")=false:=by kernel_rfl)(hb:fn.body=some c:=by exact rfl)(U:allB (λi=>Nat.blt i 100) R.ids=true:=by exact rfl)(hn:Nat.ble args.length fn.ntmps=true:=by exact rfl):yH prog f args R pv R':=ztV T hf J hb U hn body
def gCN{l:List Operand}{ty:TypeId}{first caps:List V}(h:yH prog f args R pv R')(σ:Nat->Nat)(g:Goal prog C (.fin (.panic (chn pv))) k n sl ((tb (R'.ren σ)++yF (R.ids.map σ))++tab) Q)(hC:C.low:=by assumption)(hx:ev sl x=some (.one (.cl f first caps)):=by exact rfl)(hl:evs sl l=some ss:=by exact rfl)(ha:yG (ones first++ss++ones caps) (Ss.ren σ args):=by exact yG.refl _)(hi:injB σ R.ids=true:=by exact rfl)(J:injB σ R'.ids=true:=by exact rfl)(U:yM (R.ids++R'.ids) R'=true:=by exact rfl)(hT:rdT tab (R.ren σ)=R.ren σ:=by exact rfl)(hfr:allB (λid=>Nat.ble 100 id&&freshB id ⟨n,sl,tab⟩) ((zC R R').map σ)=true:=by exact rfl)(hm:metL all sl g0=some gs:=by exact rfl):Goal prog C (.ops all (⟨d,.call ⟨.value x,l.toArray,ts⟩,ty,ps,af,g0⟩::rest) none) k n sl tab Q:=zn6 hC h σ hx hl ha hi J U hT hfr hm g
def gCD{l:List Operand}{ty:TypeId}{first caps:List V}(h:yH prog f args R pv R')(σ:Nat->Nat)(ks:List Nat)(g:Goal prog C (.fin (.panic (chn pv))) k n [] ((tb (R'.ren σ)++yF (R.ids.map σ))++tb (pick tab ks)) Q)(hC:C.low:=by assumption)(hx:ev sl x=some (.one (.cl f first caps)):=by exact rfl)(hl:evs sl l=some ss:=by exact rfl)(ha:yG (ones first++ss++ones caps) (Ss.ren σ args):=by exact yG.refl _)(hi:injB σ R.ids=true:=by exact rfl)(J:injB σ R'.ids=true:=by exact rfl)(U:yM (R.ids++R'.ids) R'=true:=by exact rfl)(hT:rdT tab (R.ren σ)=R.ren σ:=by exact rfl)(hm:metL all sl g0=some gs:=by exact rfl)(hc:xX all (xy all.toList []) ⟨n,sl0,tab0⟩ done=true:=by kernel_rfl)(hp:checkP all (xy all.toList []) ⟨n,sl0,tab0⟩ done ⟨none,gs++(rq x (.one (.cl f first caps))++rqs l ss),R.ren σ,(zC R R').map σ,.un,tb (R'.ren σ)++yF (R.ids.map σ)⟩ (pick tab ks).ids=true:=by kernel_rfl):Goal prog C (.ops all (⟨d,.call ⟨.value x,l.toArray,ts⟩,ty,ps,af,g0⟩::rest) (some (sl0,tab0,done))) k n sl tab Q:=znT T hC h σ ks hx hl ha hi J U hT hm hc hp g
def gCQ{l:List Operand}{ty:TypeId}{first caps:List V}{Rw Rr Rw':RL}(h:yH prog f args (Rw++Rr) pv (Rw'++Rr))(σ:Nat->Nat)(ks:List Nat)(g:Goal prog C (.fin (.panic (chn pv))) k n [] ((tb (Rw'.ren σ)++yF (Rw.ids.map σ))++tb (pick tab ks)) Q)(hC:C.low:=by assumption)(hx:ev sl x=some (.one (.cl f first caps)):=by exact rfl)(hl:evs sl l=some ss:=by exact rfl)(ha:yG (ones first++ss++ones caps) (Ss.ren σ args):=by exact yG.refl _)(hi:injB σ (RL.ids (Rw++Rr))=true:=by exact rfl)(J:injB σ (RL.ids (Rw'++Rr))=true:=by exact rfl)(U:yM (RL.ids (Rw++Rr)++RL.ids (Rw'++Rr)) (Rw'++Rr)=true:=by exact rfl)(hT:rdT tab ((Rw++Rr).ren σ)=(Rw++Rr).ren σ:=by exact rfl)(hm:metL all sl g0=some gs:=by exact rfl)(hc:xX all (xy all.toList []) ⟨n,sl0,tab0⟩ (backL T n all (xy all.toList []) done.length rest (app d .un (tb (Rw'.ren σ)++yF (Rw.ids.map σ)) ⟨n,sl,tab⟩).sl ((tb (Rw'.ren σ)++yF (Rw.ids.map σ))++tab) (⟨d,gs++(rq x (.one (.cl f first caps))++rqs l ss),(Rw++Rr).ren σ,(zC (Rw++Rr) (Rw'++Rr)).map σ,.un,tb (Rw'.ren σ)++yF (Rw.ids.map σ)⟩::done))=true:=by kernel_rfl)(hp:checkQ all (xy all.toList []) (backL T n all (xy all.toList []) done.length rest (app d .un (tb (Rw'.ren σ)++yF (Rw.ids.map σ)) ⟨n,sl,tab⟩).sl ((tb (Rw'.ren σ)++yF (Rw.ids.map σ))++tab) (⟨d,gs++(rq x (.one (.cl f first caps))++rqs l ss),(Rw++Rr).ren σ,(zC (Rw++Rr) (Rw'++Rr)).map σ,.un,tb (Rw'.ren σ)++yF (Rw.ids.map σ)⟩::done)) done.length (pick tab ks).ids=true:=by kernel_rfl):Goal prog C (.ops all (⟨d,.call ⟨.value x,l.toArray,ts⟩,ty,ps,af,g0⟩::rest) (some (sl0,tab0,done))) k n sl tab Q:=zob T hC h σ ks hx hl ha hi J U hT hm hc hp g
def gCW{l:List Operand}{ty:TypeId}{first caps:List V}{Rw Rr Rw':RL}(h:zh prog f args (Rw++Rr) res (Rw'++Rr))(σ:Nat->Nat)(g:Goal prog C (.ops all rest (nx md ⟨d,gs++(rq x (.one (.cl f first caps))++rqs l ss),(Rw++Rr).ren σ,(zC (Rw++Rr) (Rw'++Rr)).map σ,res.ren σ,tb (Rw'.ren σ)++yF (Rw.ids.map σ)⟩)) k n (app d (res.ren σ) (tb (Rw'.ren σ)++yF (Rw.ids.map σ)) ⟨n,sl,tab⟩).sl ((tb (Rw'.ren σ)++yF (Rw.ids.map σ))++tab) Q)(hC:C.low:=by assumption)(hx:ev sl x=some (.one (.cl f first caps)):=by exact rfl)(hl:evs sl l=some ss:=by exact rfl)(ha:yG (ones first++ss++ones caps) (Ss.ren σ args):=by exact yG.refl _)(hi:injB σ (RL.ids (Rw++Rr))=true:=by exact rfl)(J:injB σ (RL.ids (Rw'++Rr))=true:=by exact rfl)(hc:cloS (RL.ids (Rw++Rr)++RL.ids (Rw'++Rr)) res=true:=by exact rfl)(U:yM (RL.ids (Rw++Rr)++RL.ids (Rw'++Rr)) (Rw'++Rr)=true:=by exact rfl)(hT:rdT tab ((Rw++Rr).ren σ)=(Rw++Rr).ren σ:=by exact rfl)(hfr:allB (λid=>Nat.ble 100 id&&freshB id ⟨n,sl,tab⟩) ((zC (Rw++Rr) (Rw'++Rr)).map σ)=true:=by exact rfl)(hm:metL all sl g0=some gs:=by exact rfl)(hd:dok d n=true:=by exact rfl):Goal prog C (.ops all (⟨d,.call ⟨.value x,l.toArray,ts⟩,ty,ps,af,g0⟩::rest) md) k n sl tab Q:=zrq hC h σ hx hl ha hi J hc U hT hfr hm hd g
def gIx{d:Nat}{y:Operand}{ty:TypeId}{s:ByteArray}{c:UInt8}(J:s[i.toNat]?=some c)(g:Goal prog C (.ops all rest (nx md ⟨some d,gs++(rq x (Sr s)++rq y (Kk k0 i)),[],[],Kk .u8 c.toNat,[]⟩)) k n ((d,Kk .u8 c.toNat)::sl) tab Q)(hC:C.low:=by assumption)(U:ev sl x=some (Sr s):=by exact rfl)(hy:ev sl y=some (Kk k0 i):=by exact rfl)(he:T.str t=true:=by exact rfl)(h0:0<=i:=by first|exact uL _|decide|omega)(hm:metL all sl g0=some gs:=by exact rfl)(hd:Nat.blt d n=true:=by exact rfl):Goal prog C (.ops all (⟨some d,.index t x y,ty,ps,af,g0⟩::rest) md) k n sl tab Q:=zpV T hC U hy he h0 J hm hd g
def gUn(σ:Nat->Nat)(h3:mR σ tab R':=by(repeat' first|exact uh|exact rfl|refine⟨?_,?_⟩)<;>fail)(h4:injB σ R'.ids=true:=by exact rfl)(J:allB (λi=>Nat.beq (σ i) i) R.ids=true:=by exact rfl):Goal prog C (.fin (.panic (chn pv))) k n sl tab (ztU pv R R'):=gU (zK ⟨rfl,σ,h3,h4,J⟩)
def gFl(σ:Nat->Nat){e:Exit}(J:rvsOf T ⟨n,sl,tab⟩ rv=some ss)(h2:LeS (tupOf ss) (res.ren σ))(U:e= .ret\/e= .normal:=by exact .inl rfl)(h3:mR σ tab R':=by(repeat' first|exact uh|exact rfl|refine⟨?_,?_⟩)<;>fail)(h4:injB σ R'.ids=true:=by exact rfl)(h5:allB (λi=>Nat.beq (σ i) i) R.ids=true:=by exact rfl):Goal prog C (.fin e) [] n sl tab (zcn T rv R res R'):=zK ⟨U,σ,ss,J,h2,h3,h4,h5⟩
def gFo(hf:(prog).funcs[f]?=some fn)(body: ∀C:Ctx,C.low->Goal prog C (.code c) [] fn.ntmps (enum 0 args) (tb R) (zcn T rv R res R'))(J:(fn.name== "runtime.NumGoroutine")=false:=by kernel_rfl)(hb:fn.body=some c:=by exact rfl)(hrv:fn.results=rv.toArray:=by exact rfl)(U:allB (λi=>Nat.blt i 100) R.ids=true:=by exact rfl)(hn:Nat.ble args.length fn.ntmps=true:=by exact rfl):zh prog f args R res R':=zro T hf J hb hrv U hn body
def gIt{d:Nat}{y:Operand}{ty:TypeId}{e:Nat}{rows:List (List PV)}{row:List PV}{el:TypeId}(J:rows[i.toNat]?=some row)(g:Goal prog C (.ops all rest (nx md ⟨some d,gs++(rq x (.one (.p (.sl e rows)))++rq y (Kk k0 i)),[],[],.one (.pi row 0),[]⟩)) k n ((d,.one (.pi row 0))::sl) tab Q)(hC:C.low:=by assumption)(U:ev sl x=some (.one (.p (.sl e rows))):=by exact rfl)(hy:ev sl y=some (Kk k0 i):=by exact rfl)(he:T.es t=some (el,e):=by exact rfl)(h0:0<=i:=by first|exact uL _|decide|omega)(hm:metL all sl g0=some gs:=by exact rfl)(hd:Nat.blt d n=true:=by exact rfl):Goal prog C (.ops all (⟨some d,.indexAddr t x y,ty,ps,af,g0⟩::rest) md) k n sl tab Q:=jE T hC U hy he h0 J hm hd g
end
structure Mc where
 g:List Int
 ns:List Nd
 ticks:Int
 calls:Int
 comps:Int
 acc:List (Int×Int×Int)
inductive An (α:Type) where
 |ok (v:α) (m:Mc)
 |flt (e:Int) (m:Mc)
 |out
variable {α β:Type}
def An.bind:An α->(α->Mc->An β)->An β
 | .ok v m,f=>f v m
 | .flt e m,_=> .flt e m
 | .out,_=> .out
def ixF(l:List Fld)(s:Str):Option Nat:=l.findIdx? λf=>decide (f.n=s)
def zry(d:zf)(s:Str):Option Nat:=d.types.findIdx? λt=>decide (t.n=s)
def zbG(d:zf)(s:Str):Option Nat:=d.procs.findIdx? λp=>decide (p.n=s)
def atA(l:List α)(i:Nat)(f:α->An β):An β:=match l[i]? with
 |some x=>f x
 |none=> .out
def opA(o:Option α)(f:α->An β):An β:=match o with
 |some x=>f x
 |none=> .out
def ifA(p:Prop)[Decidable p](x:An β):An β:=if p then x else .out
def inB(n:Int):Prop:= -1099511627776<=n/\n<=1099511627776
instance (n:Int):Decidable (inB n):=by unfold inB;infer_instance
def zcq(m:Mc)(k n f:Int)(c:Mc->An β):An β:=ifA (m.acc.length<1099511627776) (c { m with acc:=m.acc++[(k,n,f)] })
def tyO(d:zf)(vs:List Fld):Ex->Option Str
 | .mk op _ s l=>if op=4 then(match ixF vs s with
    |some i=>(vs[i]?).map (·.t)
    |none=>(ixF d.globals s).bind λi=>(d.globals[i]?).map (·.t))
   else if op=5 then(match l with
    |x::_=>(tyO d vs x).bind λt=>(zry d t).bind λi=>(d.types[i]?).bind λy=>(ixF y.f s).bind λj=>(y.f[j]?).map (·.t)
    | []=>none)
   else if op=6 then some s
   else if op=7 then(zbG d s).bind λi=>(d.procs[i]?).map (·.res)
   else if op=21 then(match l with
    |_::y::z::_=>(tyO d vs y).bind λt=>if t=(⟨#[110,105,108]⟩:UI)then tyO d vs z else some t
    |_=>none)
   else if op=3 then some (⟨#[110,105,108]⟩:UI)
   else if op=2\/op=18\/op=19\/op=20\/op=14\/op=15\/op=16\/op=17 then some (⟨#[98,111,111,108]⟩:UI)
   else some (⟨#[105,110,116]⟩:UI)
def vI(m:Mc)(n:Int):An Int:=if n>1099511627776\/n< -1099511627776 then .flt 5 m else .ok n m
def wP(n:Int):Int:=if n<0 then -n else n
def znE(m:Mc)(op a b:Int):An Int:=
 if op=9 then vI m (a+b)else if op=10 then vI m (a - b)
 else if op=11 then(if ¬a=0/\wP b>Int.tdiv 1099511627776 (wP a)then .flt 5 m else .ok (a*b) m)
 else if op=12 then(if b=0 then .flt 18 m else .ok (Int.tdiv a b) m)
 else if op=13 then(if b=0 then .flt 18 m else .ok (Int.tmod a b) m)
 else if op=22 then .ok (if a<b then b else a) m else .ok (if b<a then b else a) m
def zun(m:Mc)(op a b:Int):An Int:=ifA (inB a/\inB b) (znE m op a b)
def zcH(b:Bool):Int:=if b then 1 else 0
def ztB(n:Int):Int:=Nat.log2 (if n<1 then 1 else n.toNat)
structure Fr where
 vs:List Fld
 va:List Int
def nmV(d:zf)(fr:Fr)(s:Str)(m:Mc):An Int:=match ixF fr.vs s with
 |some i=>atA fr.va i λv=> .ok v m
 |none=>opA (ixF d.globals s) λi=>atA m.g i λv=>zcq m 1 0 i λm=> .ok v m
def fdA(d:zf)(v:Int)(s:Str)(m:Mc)(c:Nd->Nat->An β):An β:=
 ifA (0<v/\v<=1000000) (atA m.ns (v - 1).toNat λx=>ifA (0<=x.t) (atA d.types x.t.toNat λy=>opA (ixF y.f s) λi=>c x i))
def fdV(d:zf)(v:Int)(s:Str)(m:Mc):An Int:=if v=0 then .flt 17 m else fdA d v s m λx i=>atA x.f i λu=>zcq m 1 v i λm=> .ok u m
def nwV(d:zf)(s:Str)(m:Mc):An Int:=if(m.ns.length:Int)≥4096 then .flt 21 m else opA (zry d s) λt=>atA d.types t λy=>ifA (y.f.length<=1000000)
 (zcq { m with ns:=m.ns++[⟨(t:Nat),List.replicate y.f.length 0⟩] } 3 (m.ns.length+1:Nat) (t:Nat) λm1=> .ok (m.ns.length+1:Nat) m1)
def znF(m:Mc)(b:Bool):An Int:=ifA (0<=m.comps/\m.comps<1099511627776) (.ok (zcH b) { m with comps:=m.comps+1 })
def ztC(d:zf)(fr:Fr)(x:Ex)(op a b:Int)(m:Mc):An Int:=
 if op=14\/op=15 then opA (tyO d fr.vs x) λt=>if t=(⟨#[105,110,116]⟩:UI)then znF m (decide (decide (a=b)=decide (op=14)))else .ok (zcH (decide (decide (a=b)=decide (op=14)))) m
 else if op=16 then znF m (decide (a<b))else if op=17 then znF m (decide (a<=b))else zun m op a b
def zbH(fuel:Int)(m:Mc)(c:Mc->An β):An β:=if m.ticks≥fuel then .flt 20 m else ifA (0<=m.ticks/\m.ticks<1099511627776) (c { m with ticks:=m.ticks+1 })
def stV(d:zf)(fr:Fr)(s:Str)(v:Int)(m:Mc):An (Option Int×Fr):=match ixF fr.vs s with
 |some i=>ifA (i<fr.va.length) (.ok (none,{ fr with va:=fr.va.set i v }) m)
 |none=>opA (ixF d.globals s) λi=>ifA (i<m.g.length) (zcq m 2 0 i λm=> .ok (none,fr) { m with g:=m.g.set i v })
def ptV(d:zf)(fr:Fr)(s:Str)(n v:Int)(m:Mc):An (Option Int×Fr):=if n=0 then .flt 17 m else fdA d n s m λx i=>
 ifA (i<x.f.length) (zcq m 2 n i λm=> .ok (none,fr) { m with ns:=m.ns.set (n - 1).toNat ⟨x.t,x.f.set i v⟩ })
mutual
def exV(d:zf)(fuel:Int)(fr:Fr):Nat->Ex->Mc->An Int
 |0,_,_=> .out
 |k+1,e,m=>
  if e.op=1\/e.op=2 then .ok e.n m else if e.op=3 then .ok 0 m
  else if e.op=4 then nmV d fr e.s m
  else if e.op=5 then(atA e.l 0 λx=>exV d fuel fr k x m).bind λv m=>fdV d v e.s m
  else if e.op=6 then nwV d e.s m
  else if e.op=7 then clV d fuel fr k e m
  else if e.op=8 then(atA e.l 0 λx=>exV d fuel fr k x m).bind λv m=>ifA (inB v) (vI m (-v))
  else if e.op=24 then(atA e.l 0 λx=>exV d fuel fr k x m).bind λv m=>ifA (inB v) (.ok (ztB v) m)
  else if e.op=18 then(atA e.l 0 λx=>exV d fuel fr k x m).bind λv m=>ifA (inB v) (.ok (1 - v) m)
  else if e.op=19 then(atA e.l 0 λx=>exV d fuel fr k x m).bind λv m=>if v=0 then .ok 0 m else atA e.l 1 λy=>exV d fuel fr k y m
  else if e.op=20 then(atA e.l 0 λx=>exV d fuel fr k x m).bind λv m=>if v=1 then .ok 1 m else atA e.l 1 λy=>exV d fuel fr k y m
  else if e.op=21 then(atA e.l 0 λx=>exV d fuel fr k x m).bind λv m=>if v=1 then atA e.l 1 λy=>exV d fuel fr k y m else atA e.l 2 λy=>exV d fuel fr k y m
  else atA e.l 0 λx=>(exV d fuel fr k x m).bind λa m=>(atA e.l 1 λy=>exV d fuel fr k y m).bind λb m=>ztC d fr x e.op a b m
def exsV(d:zf)(fuel:Int)(fr:Fr):Nat->List Ex->Mc->An (List Int)
 |0,_,_=> .out
 |_+1,[],m=> .ok [] m
 |k+1,x::r,m=>(exV d fuel fr k x m).bind λv m=>(exsV d fuel fr k r m).bind λl m=> .ok (v::l) m
def clV(d:zf)(fuel:Int)(fr:Fr):Nat->Ex->Mc->An Int
 |0,_,_=> .out
 |k+1,e,m=>ifA (e.l.length<=1000000) ((exsV d fuel fr k e.l m).bind λa m=>opA (zbG d e.s) λi=>atA d.procs i λp=>rnV d fuel k p a m)
def rnV(d:zf)(fuel:Int):Nat->Pr->List Int->Mc->An Int
 |0,_,_,_=> .out
 |k+1,p,a,m=>if m.calls≥200 then .flt 19 m else ifA (0<=m.calls/\a.length<=1000000/\p.params.length<=100000/\p.locs.length<=100000)
   ((ssV d fuel k ⟨p.params++p.locs,a++List.replicate p.locs.length 0⟩ p.body { m with calls:=m.calls+1 }).bind λq m=>ifA (0<m.calls/\m.calls<=1000) (.ok (q.1.getD 0) { m with calls:=m.calls - 1 }))
def ssV(d:zf)(fuel:Int):Nat->Fr->List Sm->Mc->An (Option Int×Fr)
 |0,_,_,_=> .out
 |_+1,fr,[],m=> .ok (none,fr) m
 |k+1,fr,x::r,m=>(sV d fuel k fr x m).bind λq m=>match q.1 with
  |some v=> .ok (some v,q.2) m
  |none=>ssV d fuel k q.2 r m
def sV(d:zf)(fuel:Int):Nat->Fr->Sm->Mc->An (Option Int×Fr)
 |0,_,_,_=> .out
 |k+1,fr,x,m=>zbH fuel m λm=>
  if x.op=1 then(atA x.e 0 λy=>exV d fuel fr k y m).bind λv m=>stV d fr x.s v m
  else if x.op=2 then(atA x.e 0 λy=>exV d fuel fr k y m).bind λn m=>(atA x.e 1 λy=>exV d fuel fr k y m).bind λv m=>ptV d fr x.s n v m
  else if x.op=3 then(atA x.e 0 λy=>exV d fuel fr k y m).bind λv m=>if v=1 then ssV d fuel k fr x.l m else ssV d fuel k fr x.els m
  else if x.op=4 then atA x.e 0 λy=>whV d fuel k fr y x.l m
  else if x.op=5 then(if x.e.length=0 then .ok (some 0,fr) m else(atA x.e 0 λy=>exV d fuel fr k y m).bind λv m=> .ok (some v,fr) m)
  else if x.op=6 then(atA x.e 0 λy=>clV d fuel fr k y m).bind λ_ m=> .ok (none,fr) m
  else .ok (none,fr) m
def whV(d:zf)(fuel:Int):Nat->Fr->Ex->List Sm->Mc->An (Option Int×Fr)
 |0,_,_,_,_=> .out
 |k+1,fr,c,l,m=>(exV d fuel fr k c m).bind λv m=>if v=1 then((ssV d fuel k fr l m).bind λq m=>match q.1 with
   |some r=> .ok (some r,q.2) m
   |none=>zbH fuel m λm=>whV d fuel k q.2 c l m)else .ok (none,fr) m
end
def look(l:List Fld)(s:Str):Option Str:=(l.find? λf=>decide (f.n=s)).map (·.t)
def zf0(d:zf)(s:Str):Option zX:=d.types.find? λt=>decide (t.n=s)
def zew(d:zf)(s:Str):Option Pr:=d.procs.find? λp=>decide (p.n=s)
def yE(d:zf)(s:Str):Bool:=(zf0 d s).isSome
def yL(d:zf)(s:Str):Bool:=decide (s=(⟨#[105,110,116]⟩:UI))||decide (s=(⟨#[98,111,111,108]⟩:UI))||yE d s
def yo(d:zf)(a b:Str):Bool:=decide (a=b)||decide (a=(⟨#[110,105,108]⟩:UI))&&yE d b
def fieldT(d:zf)(t s:Str):Str×Int:=match zf0 d t with
 |none=>((⟨#[]⟩:UI),11)
 |some x=>match look x.f s with
  |some u=>(u,0)
  |none=>((⟨#[]⟩:UI),9)
def lsA(l:List Str)(i:Nat):Str:=(l[i]?).getD (⟨#[]⟩:UI)
def zhC(l:List Str)(t r:Str):Str×Int:=if l.any (λu=> !decide (u=t))=true then((⟨#[]⟩:UI),11)else(r,0)
def zu(d:zf)(vs:List Fld)(body:Bool)(op:Int)(s:Str)(l:List Str):Str×Int:=
 if op=1 then((⟨#[105,110,116]⟩:UI),0)else if op=2 then((⟨#[98,111,111,108]⟩:UI),0)else if op=3 then((⟨#[110,105,108]⟩:UI),0)
 else if op=4 then(match look vs s with|some t=>(t,0)|none=>((⟨#[]⟩:UI),9))
 else if op=5 then fieldT d (lsA l 0) s
 else if op=6 then(if body=false then((⟨#[]⟩:UI),13)else if yE d s=false then((⟨#[]⟩:UI),9)else(s,0))
 else if op=14\/op=15 then(if yo d (lsA l 0) (lsA l 1)=false/\yo d (lsA l 1) (lsA l 0)=false then((⟨#[]⟩:UI),11)else((⟨#[98,111,111,108]⟩:UI),0))
 else if op=16\/op=17 then zhC l (⟨#[105,110,116]⟩:UI) (⟨#[98,111,111,108]⟩:UI)
 else if op=18\/op=19\/op=20 then zhC l (⟨#[98,111,111,108]⟩:UI) (⟨#[98,111,111,108]⟩:UI)
 else if op=21 then(if lsA l 0=(⟨#[98,111,111,108]⟩:UI)then(if yo d (lsA l 1) (lsA l 2)=true then(lsA l 2,0)else if yo d (lsA l 2) (lsA l 1)=true then(lsA l 1,0)else((⟨#[]⟩:UI),11))else((⟨#[]⟩:UI),11))
 else zhC l (⟨#[105,110,116]⟩:UI) (⟨#[105,110,116]⟩:UI)
def ztD(d:zf)(s:Str):Option Ms:=d.measures.find? λm=>decide (m.n=s)
def zay(d:zf)(s:Str)(l:List Str):Str×Int:=match ztD d s with
 |none=>((⟨#[]⟩:UI),9)
 |some m=>if ¬l.length=1 then((⟨#[]⟩:UI),3)else if yo d (lsA l 0) m.t=false then((⟨#[]⟩:UI),11)else((⟨#[105,110,116]⟩:UI),0)
def vb(d:zf)(body:Bool)(s:Str)(l:List Str):Str×Int:=if body=false then zay d s l else match zew d s with
 |none=>((⟨#[]⟩:UI),9)
 |some p=>if ¬l.length=p.params.length then((⟨#[]⟩:UI),3)else if(List.zip l p.params).any (λq=> !yo d q.1 q.2.t)=true then((⟨#[]⟩:UI),11)else(p.res,0)
mutual
def exT(d:zf)(vs:List Fld)(body:Bool):Ex->Str×Int
 | .mk op _ s l=>match exsT d vs body l with
   |(ts,e)=>if e=0 then(if op=7 then(if(vb d body s ts).2=0/\(vb d body s ts).1=(⟨#[]⟩:UI)then((⟨#[]⟩:UI),11)else vb d body s ts)else zu d vs body op s ts)else((⟨#[]⟩:UI),e)
def exsT(d:zf)(vs:List Fld)(body:Bool):List Ex->List Str×Int
 | []=>([],0)
 |x::r=>match exT d vs body x with
  |(t,e)=>if e=0 then(match exsT d vs body r with|(ts,f)=>(t::ts,f))else([],e)
end
def caT(d:zf)(vs:List Fld)(body:Bool)(x:Ex):Str×Int:=match exsT d vs body x.l with
 |(ts,e)=>if e=0 then vb d body x.s ts else((⟨#[]⟩:UI),e)
def exA(l:List Ex)(i:Nat):Ex:=(l[i]?).getD (.mk 0 0 (⟨#[]⟩:UI) [])
def stmT(d:zf)(vs:List Fld)(res:Str)(x:Sm):Int:=
 if x.op=6 then(caT d vs true (exA x.e 0)).2 else match exsT d vs true x.e with
  |(l,e)=>if e=0 then
     (if x.op=1 then(match look vs x.s with|none=>9|some t=>if yo d (lsA l 0) t=true then 0 else 11)
     else if x.op=2 then(if(fieldT d (lsA l 0) x.s).2=0 then(if yo d (lsA l 1) (fieldT d (lsA l 0) x.s).1=true then 0 else 11)else(fieldT d (lsA l 0) x.s).2)
     else if x.op=3\/x.op=4 then(if lsA l 0=(⟨#[98,111,111,108]⟩:UI)then 0 else 11)
     else if x.op=5 then(if l.length=0 then(if res=(⟨#[]⟩:UI)then 0 else 11)else if ¬res=(⟨#[]⟩:UI)/\yo d (lsA l 0) res=true then 0 else 11)
     else 0)else e
mutual
def smsT(d:zf)(vs:List Fld)(res:Str):List Sm->Int->(Int×Int)×Int
 | [],n=>((0,0),n)
 |x::r,n=>match smOne d vs res x n with
  |(q,m)=>if q.2=0 then smsT d vs res r m else(q,m)
def smOne(d:zf)(vs:List Fld)(res:Str):Sm->Int->(Int×Int)×Int
 | .mk op s e l els,n=>if stmT d vs res (.mk op s e l els)=0 then(match smsT d vs res l (n+1)with
    |(q,m)=>if q.2=0 then smsT d vs res els m else(q,m))else((n,stmT d vs res (.mk op s e l els)),n+1)
end
def twB(l:List Str)(i:Nat):Bool:=(l.take i).any λs=>decide (s=lsA l i)
def fieldsE(d:zf)(all:List Str):List Fld->Nat->Int
 | [],_=>0
 |f::r,i=>if twB all i=true then 10 else if yL d f.t=false then 9 else fieldsE d all r (i+1)
def zaz(d:zf)(l:List Fld):Int:=fieldsE d (l.map (·.n)) l 0
abbrev Ft:Type:=Option (Str×Int×Int)
def firstF{α:Type}(g:α->Nat->Ft):List α->Nat->Ft
 | [],_=>none
 |x::r,i=>match g x i with
  |some f=>some f
  |none=>firstF g r (i+1)
def ftE(s:Str)(e:Int):Ft:=if e=0 then none else some (s, -1,e)
def orF(a b:Ft):Ft:=match a with
 |some f=>some f
 |none=>b
def jJ(d:zf):Ft:=orF (firstF (λ(t:zX) i=>if twB (d.types.map (·.n)) i=true then some (t.n, -1,10)else none) d.types 0)
 (orF (firstF (λ(t:zX) _=>ftE t.n (zaz d t.f)) d.types 0)
   (firstF (λ(f:Fld) i=>if twB (d.globals.map (·.n)) i=true then some (f.n, -1,10)else if yL d f.t=false then some (f.n, -1,9)else none) d.globals 0))
def zbI(d:zf):Ft:=firstF (λ(p:Pr) i=>if twB (d.procs.map (·.n)) i=true then some (p.n, -1,10)else if zaz d (p.params++p.locs)=0 then(if ¬p.res=(⟨#[]⟩:UI)/\yL d p.res=false then some (p.n, -1,9)else none)else some (p.n, -1,zaz d (p.params++p.locs))) d.procs 0
def zcr(d:zf):Ft:=orF (firstF (λ(m:Ms) i=>if twB (d.measures.map (·.n)) i=true then some (m.n, -1,10)else if yE d m.t=false then some (m.n, -1,9)else none) d.measures 0)
 (orF (firstF (λ(m:Iv) i=>if twB (d.invs.map (·.n)) i=true then some (m.n, -1,10)else if ¬m.t=(⟨#[]⟩:UI)/\yE d m.t=false then some (m.n, -1,9)else none) d.invs 0)
   (orF (firstF (λ(m:Pt) _=>if ¬m.t=(⟨#[]⟩:UI)/\yE d m.t=false then some ((⟨#[112,111,116,101,110,116,105,97,108]⟩:UI), -1,9)else none) d.pots 0)
     (firstF (λ(b:Bd) i=>if(zew d b.p).isSome=false then some (b.p, -1,9)else if twB (d.bounds.map (·.p)) i=true then some (b.p, -1,10)else none) d.bounds 0)))
def zjQ(d:zf)(p:Pr):List Fld:=p.params++p.locs++d.globals
def zbe(d:zf)(t:Str):List Fld:=if t=(⟨#[]⟩:UI)then d.globals else⟨(⟨#[116,104,105,115]⟩:UI),t⟩::d.globals
def ztE(d:zf)(s:Str):List Fld:=((zew d s).map (·.params)).getD []++d.globals
def jK(d:zf):Ft:=firstF (λ(p:Pr) _=>if(smsT d (zjQ d p) p.res p.body 0).1.2=0 then none else some (p.n,(smsT d (zjQ d p) p.res p.body 0).1.1,(smsT d (zjQ d p) p.res p.body 0).1.2)) d.procs 0
def yZ(d:zf)(vs:List Fld)(s:Str)(x:Ex)(want:Str):Ft:=if(exT d vs false x).2=0 then(if(exT d vs false x).1=want then none else some (s, -1,11))else some (s, -1,(exT d vs false x).2)
def zaR(d:zf):Ft:=orF (firstF (λ(m:Ms) _=>yZ d (zbe d m.t) m.n m.x (⟨#[105,110,116]⟩:UI)) d.measures 0)
 (orF (firstF (λ(m:Iv) _=>yZ d (zbe d m.t) m.n m.x (⟨#[98,111,111,108]⟩:UI)) d.invs 0)
   (orF (firstF (λ(m:Pt) _=>yZ d (zbe d m.t) (⟨#[112,111,116,101,110,116,105,97,108]⟩:UI) m.x (⟨#[105,110,116]⟩:UI)) d.pots 0)
     (firstF (λ(b:Bd) _=>yZ d (ztE d b.p) b.p b.x (⟨#[105,110,116]⟩:UI)) d.bounds 0)))
def zdq(d:zf):Ft:=orF (jJ d) (orF (zbI d) (orF (zcr d) (orF (jK d) (zaR d))))
def zwj(d:zf):Str×Int×Int:=(zdq d).getD ((⟨#[]⟩:UI),0,0)
end Hw.Gm
namespace Hw.Gm.Ps
open Go Go.Proofs Hw.M Tryz
abbrev uc(c:Int):S:= .one (.p (.k (.int .u8 c)))
def xB(c:Int):Bool:=(decide (97<=c)&&decide (c<=122))||(decide (65<=c)&&decide (c<=90))
def isDigit(c:Int):Bool:=decide (48<=c)&&decide (c<=57)
def isWord(c:Int):Bool:=(xB c||isDigit c)||decide (c=95)
def zdr:List Str:=[(⟨#[116,121,112,101]⟩:UI),(⟨#[118,97,114]⟩:UI),(⟨#[112,114,111,99]⟩:UI),(⟨#[108,111,99,97,108]⟩:UI),(⟨#[109,101,97,115,117,114,101]⟩:UI),(⟨#[105,110,118,97,114,105,97,110,116]⟩:UI),(⟨#[112,111,116,101,110,116,105,97,108]⟩:UI),(⟨#[98,111,117,110,100]⟩:UI),(⟨#[105,102]⟩:UI),(⟨#[101,108,115,101]⟩:UI),(⟨#[119,104,105,108,101]⟩:UI),(⟨#[114,101,116,117,114,110]⟩:UI),(⟨#[110,101,119]⟩:UI),(⟨#[110,105,108]⟩:UI),(⟨#[116,114,117,101]⟩:UI),(⟨#[102,97,108,115,101]⟩:UI),(⟨#[97,110,100]⟩:UI),(⟨#[111,114]⟩:UI),(⟨#[110,111,116]⟩:UI),(⟨#[109,97,120]⟩:UI),(⟨#[109,105,110]⟩:UI),(⟨#[108,111,103]⟩:UI),(⟨#[105,110,116]⟩:UI),(⟨#[98,111,111,108]⟩:UI),(⟨#[116,104,105,115]⟩:UI),(⟨#[115,111,114,116]⟩:UI),(⟨#[111,112]⟩:UI),(⟨#[114,117,108,101]⟩:UI),(⟨#[115,112,101,99]⟩:UI),(⟨#[100,101,115,99]⟩:UI),(⟨#[115,99,114,105,112,116]⟩:UI)]
def wC(s:Str):Bool:=zdr.any λx=>decide (x=s)
def bytes(s:Str):List Int:=s.data.toList.map λb=>(b.toNat:Int)
variable {i:Nat}
def zhD{s:Str}{c:Int}(h:(bytes s)[i]?=some c): ∃b:UInt8,s[((i:Nat):Int).toNat]?=some b/\c=(b.toNat:Int):=by
 simp only[bytes,uO,uR]at h;obtain⟨b,hb,rfl⟩:=h;refine⟨b,?_,rfl⟩
 have J:i<s.data.size:=by
  have:=(uy.1 hb).1;simpa using this
 have:s.data[i]=b:=by rw[qu,tT J]at hb;exact uU hb
 have U:i<s.size:=J;simp only[tj];rw[getElem?_pos s i U];exact u7 some this
def zkr(s:Str):(bytes s).length=s.size:=by simp only[bytes,uj,qh];rfl
def isName(s:Str):Bool:= !decide (s.size=0)&& !decide (40<s.size)&&(match bytes s with| []=>false|c::_=>xB c)&&(bytes s).all isWord&& !wC s
def isType(s:Str):Bool:=decide (s=(⟨#[105,110,116]⟩:UI))||decide (s=(⟨#[98,111,111,108]⟩:UI))||isName s
def zhE(s:Str):Bool:=decide (s=(⟨#[]⟩:UI))||isName s
def zds(f:Fld):Bool:=isName f.n&&isType f.t
def xb(l:List Fld)(most:Int):Bool:=decide ((l.length:Int)<=most)&&l.all zds
def wY(d:zf)(s:Str):Int:=idxOf (λt=>decide (t.n=s)) d.types
def jL(s:Str):Bool:=decide (s=(⟨#[105,110,116]⟩:UI))||decide (s=(⟨#[98,111,111,108]⟩:UI))
def known(d:zf)(f:Fld):Bool:=jL f.t|| !decide (wY d f.t<0)
def zcI(d:zf)(m:Hp)(t:Str)(v:Int):Bool:=
 if t=(⟨#[105,110,116]⟩:UI)then decide (-1099511627776<=v)&&decide (v<=1099511627776)
 else if t=(⟨#[98,111,111,108]⟩:UI)then decide (v=0)||decide (v=1)
 else decide (v=0)||(decide (1<=v)&&decide (v<=m.n.length)&&decide ((m.n[(v - 1).toNat]?).map (·.t)=some (wY d t)))
def zf1(m:Hp):Bool:=decide (60<(m.g.length:Int))||decide (60<(m.n.length:Int))||m.n.any λx=>decide (60<(x.f.length:Int))
def zrz(m:Hp):zh prog 25 [zn (yp m)] [] (.bq (zf1 m)) []:=by
 refine gFo func25 λC hC=>?_
 repeat' first|refine gG ?_|refine gB ?_ ?_<;>intro h|refine gL ?_
 ·rw[uj]at h;simp only[zf1,h,qQ]
 ·rename_i J;rw[uj]at h J;simp only[zf1,h,J,qQ,qO]
 ·rename_i J;rw[uj]at h J;have hlen:m.n.length<=60:=by have:=uo h;omega
  have hm:zf1 m=m.n.any λx=>decide (60<(x.f.length:Int)):=by simp only[zf1,h,J,tw]
  rw[hm]
  refine zj (λi:Nat=>i<=m.n.length/\(m.n.take i).any (λx=>decide (60<(x.f.length:Int)))=false) (λi=>([(1,.one (.bx 1001 0)),(3,I i)],[(1001,some (.box ((yp m).map V.p)))])) (λi=>m.n.length - i) hC
   0 ⟨uD _,ue⟩ id gM ?_
  rintro i ⟨hi,hn⟩;refine gLc ?_ ?_<;>intro h
  ·have U:i<m.n.length:=by simpa using h
   obtain⟨x,hx⟩:=za U
   repeat' first|refine gG ?_|refine gB ?_ ?_<;>intro h|refine gX ?_|refine zk ?_|refine gL ?_
   ·rw[uj]at h;exact(zf2 hx h).symm
   ·rw[uj]at h;rw[wrap64 ua];refine zg (i+1) ⟨ua,?_⟩ id ua gM;rw[zdt hx,hn,h];rfl
  ·have hge: ¬i<m.n.length:=by simpa using h
   repeat' first|refine gG ?_|refine gB ?_ ?_<;>intro h|refine zd ?_|refine gL ?_
   exact(zrA ua hn).symm
def znY(d:zf):Hp:=⟨List.replicate d.globals.length 0,[]⟩
def newRow(n:Nat):List.replicate n [PV.k (.int .i64 0)]=(List.replicate n (0:Int)).map zN:=by rw[oS];rfl
def zS(op:Int):Int:=
 if(decide (1<=op)&&decide (op<=4))||decide (op=6)then 0
 else if((decide (op=5)||decide (op=8))||decide (op=18))||decide (op=24)then 1
 else if op=7 then -1
 else if op=21 then 3
 else if decide (9<=op)&&decide (op<=23)then 2
 else -2
def zaS(e:Ex):Bool:=
 if e.op=4 then decide (e.s=(⟨#[116,104,105,115]⟩:UI))||isName e.s
 else if e.op=5\/e.op=6\/e.op=7 then isName e.s
 else decide (e.s=(⟨#[]⟩:UI))
def vM(e:Ex):Bool:=
 !decide (zS e.op= -2)&& !(decide (0<=zS e.op)&& !decide ((e.l.length:Int)=zS e.op))&& !(decide (zS e.op= -1)&&decide (6<(e.l.length:Int)))&&zaS e&&
 (if e.op=1 then decide (0<=e.n)&&decide (e.n<=1099511627776)else if e.op=2 then decide (e.n=0)||decide (e.n=1)else decide (e.n=0))
mutual
def countS:Ex->Int->Int
 | .mk op n s l,d=>if decide (60<d)|| !vM (.mk op n s l)then 1001 else countL l d 1
def countL:List Ex->Int->Int->Int
 | [],_,n=>n
 |e::es,d,n=>if 1000<n+countS e (d+1)then n+countS e (d+1)else countL es d (n+countS e (d+1))
end
mutual
theorem xP: ∀(e:Ex) (d:Int),1<=countS e d/\countS e d<=1001+1000*(if d<=60 then 61 - d else 0)
 | .mk op n s l,d=>by
   simp only[countS];split
   ·split<;>omega
   ·rename_i h;simp only[uJ,uq,ux,oW]at h;have:=vV l d 1 ua ua ua;rw[uw ua];omega
theorem vV: ∀(l:List Ex) (d n:Int),1<=n->n<=1000->d<=60->1<=countL l d n/\countL l d n<=1001+1000*(61 - d)
 | [],d,n,h1,h2,h3=>by simp only[countL];omega
 |e::es,d,n,h1,h2,h3=>by
  simp only[countL];have hb:=xP e (d+1);split at hb
  ·split
   ·omega
   ·exact vV es d _ ua ua h3
  ·split
   ·omega
   ·exact vV es d _ ua ua h3
end
variable {α:Type}{x:α}
def drop_at{l:List α}(h:l[i]?=some x):l.drop i=x::l.drop (i+1):=by
 obtain⟨J,rfl⟩:=uy.1 h;exact qk J
def y2(e:Ex):Bool:=decide (countS e 1<=1000)
def wD(s:Sm)(lo hi:Int):Bool:= !decide ((s.e.length:Int)<lo)&& !decide (hi<(s.e.length:Int))&&s.e.all y2
def zx{l:List Ex}{x:Ex}(h:l[0]?=some x):(l.map xk)[(0:Int).toNat]?=some (yg x):=xU (i:=0) h
def zks(s:Sm):Bool:=decide ((s.l.length:Int)=0)&&decide ((s.els.length:Int)=0)
def zhF(s:Sm)(b:Bool):Bool:=
 if s.op=1 then isName s.s&&wD s 1 1&&b
 else if s.op=2 then isName s.s&&wD s 2 2&&b
 else if s.op=3 then decide (s.s=(⟨#[]⟩:UI))&&wD s 1 1
 else if s.op=4 then decide (s.s=(⟨#[]⟩:UI))&&wD s 1 1&&decide ((s.els.length:Int)=0)
 else if s.op=5 then decide (s.s=(⟨#[]⟩:UI))&&wD s 0 1&&b
 else if s.op=6 then decide (s.s=(⟨#[]⟩:UI))&&wD s 1 1&&decide ((s.e[0]?).map Ex.op=some 7)&&b
 else false
def vJ(s:Sm):Bool:=zhF s (zks s)
def zex(n k:Int):Int:=if n<=200 then n+k else n
mutual
def stN:Sm->Int->Int->Int
 | .mk op s e l els,d,n=>if decide (60<d)|| !vJ (.mk op s e l els)then 201 else zex (zex (n+1) (stL l (d+1) 0)) (stL els (d+1) 0)
def stL:List Sm->Int->Int->Int
 | [],_,n=>n
 |s::r,d,n=>if 200<stN s d n then stN s d n else stL r d (stN s d n)
end
def zhG(s:Sm)(d n:Int):stN s d n=if decide (60<d)|| !vJ s then 201 else zex (zex (n+1) (stL s.l (d+1) 0)) (stL s.els (d+1) 0):=by
 cases s;simp only[stN,Sm.l,Sm.els]
def zoe(d:Int):Int:=201+400*(if d<=60 then 61 - d else 0)
def zcJ{n k K:Int}(hn:0<=n)(hk:0<=k/\k<=K)(h:n<=200+K):0<=zex n k/\zex n k<=200+K:=by
 unfold zex;split<;>omega
mutual
theorem zey: ∀(s:Sm) (d n:Int),0<=n->n<=200->0<=stN s d n/\stN s d n<=zoe d
 | .mk op s e l els,d,n,h0,h1=>by
   simp only[stN];split
   ·unfold zoe;split<;>omega
   ·rename_i h;simp only[uJ,uq,ux,oW]at h;have b1:=y6 l (d+1) 0 ua ua;have b2:=y6 els (d+1) 0 ua ua;have b0:1<=zoe (d+1):=by unfold zoe;split<;>omega
    have c1:=zcJ (n:=n+1) ua b1 ua;have c2:=zcJ c1.1 b2 c1.2;have:200+zoe (d+1)<=zoe d:=by unfold zoe;rw[uw (c:=d<=60) ua];split<;>omega
    omega
theorem y6: ∀(l:List Sm) (d n:Int),0<=n->n<=200->0<=stL l d n/\stL l d n<=zoe d
 | [],d,n,h0,h1=>by
   simp only[stL];refine⟨h0,?_⟩;unfold zoe;split<;>omega
 |s::r,d,n,h0,h1=>by
  simp only[stL];have b:=zey s d n h0 h1;split
  ·exact b
  ·exact y6 r d _ b.1 ua
end
def zhH(s:Sm):sizeOf s.l<sizeOf s/\sizeOf s.els<sizeOf s:=by
 cases s;simp only[Sm.l,Sm.els,Sm.mk.sizeOf_spec];omega
def zf3[SizeOf α]{l:List α}(h:l[i]?=some x):sizeOf x<sizeOf l:=qw (uv h)
def j8(p:Pr):Bool:=isName p.n&&xb p.params 6&&xb p.locs 12&&(decide (p.res=(⟨#[]⟩:UI))||isType p.res)&&decide (stL p.body 1 0<=200)
def vW(m:Ms):Bool:=isName m.n&&isName m.t&& !decide (m.z< -1099511627776)&& !decide (1099511627776<m.z)&&y2 m.x
def zbJ(m:Iv):Bool:=isName m.n&&zhE m.t&&y2 m.x
def zbK(m:Pt):Bool:=zhE m.t&&y2 m.x
def zbL(m:Bd):Bool:=isName m.p&&y2 m.x
def yv(d:zf):Bool:=d.measures.all vW&&d.invs.all zbJ&&d.pots.all zbK&&d.bounds.all zbL
def zaT(t:zX):Bool:=isName t.n&&xb t.f 12
def jl(d:zf):Bool:=isName d.n&& !decide (12<(d.types.length:Int))&&xb d.globals 8&& !decide (40<(d.procs.length:Int))&&
 !decide (12<(d.measures.length:Int))&& !decide (12<(d.invs.length:Int))&& !decide (12<(d.pots.length:Int))&& !decide (12<(d.bounds.length:Int))
def ye(d:zf):Bool:=jl d&&d.types.all zaT&&d.procs.all j8&&yv d
end Hw.Gm.Ps
