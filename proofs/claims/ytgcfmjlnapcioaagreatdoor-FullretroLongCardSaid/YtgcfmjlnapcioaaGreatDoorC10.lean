import Derived.Test.YtgcfmjlnapcioaaGreatDoorC9
import Derived.Test.YtgcfmjlnapcioaaGreatDoorC8
import Derived.Test.YtgcfmjlnapcioaaGreatDoorC4
import Derived.Test.YtgcfmjlnapcioaaGreatDoorC1
import Derived.Test.YtgcfmjlnapcioaaGreatDoorC5
import Derived.Test.YtgcfmjlnapcioaaGreatDoorE3
import Derived.Lib.LaidTab
set_option linter.unusedVariables false
set_option linter.unusedSimpArgs false
namespace Hw.Fr
open Go Go.Proofs Go.Shelf Hw.M Md
def opP:OpT:=⟨1,[1,10]⟩
def opD:OpT:=⟨3,[1]⟩
def opG:OpT:=⟨2,[1]⟩
variable {o:OpT}
theorem zea{u:Bool}(ho:okOp 1 o=true)(hu:zqw 1 o.code=u)(hw:zbL 1 o∈[(⟨#[112,117,116]⟩:UW),(⟨#[114,101,109,111,118,101]⟩:UW),(⟨#[103,101,116]⟩:UW)]):za8 (⟨#[108,105,115,116]⟩:UW) 1 o u=0:=by
 unfold za8
 rw[uv ho,uv hu,zlw ho hw]
theorem ztu:zbL 1 opP=(⟨#[112,117,116]⟩:UW):=by kernel_rfl
theorem ztv:zbL 1 opD=(⟨#[114,101,109,111,118,101]⟩:UW):=by kernel_rfl
theorem ztw:zbL 1 opG=(⟨#[103,101,116]⟩:UW):=by kernel_rfl
theorem zvG:za8 (⟨#[108,105,115,116]⟩:UW) 1 opP true=0:=zea ub ub (by rw[ztu];exact .head _)
theorem zvH:za8 (⟨#[108,105,115,116]⟩:UW) 1 opD true=0:=zea ub ub (by rw[ztv];exact .tail _ (.head _))
theorem ztx:za8 (⟨#[108,105,115,116]⟩:UW) 1 opG false=0:=zea ub ub (by rw[ztw];exact .tail _ (.tail _ (.head _)))
def aw1:List Mt:=[(5,opP)]
def aw2:List Mt:=[(5,opP),(9,opD)]
theorem za9{k:Int}(hk:1<=k/\k<=KM):TLk k []:=⟨hk,ub,.nil,λ_ h=>(by cases h),λ_ h=>(by cases h)⟩
theorem xA:zk Tryz.prog 10 [] [] (.bq true) []:=by
 have h1:=zif
 obtain⟨x,hx,hx1⟩: ∃x,zcp (⟨#[108,105,115,116]⟩:UW)=some x/\x.2.2=1:=by
  cases hx:zcp (⟨#[108,105,115,116]⟩:UW)with
  |none=>rw[hx]at h1;cases h1
  |some x=>
   rw[hx]at h1
   simp only[oe,tr,Option.getD_some,ux]at h1
   exact⟨x,rfl,h1⟩
 have hN:=zbW hx
 rw[hx1]at hN
 have e1:zbz (⟨#[108,105,115,116]⟩:UW) 1 [] 5 opP=0:=by unfold zbz;rw[uv zvG,uv ub,ur ub,ur ub]
 have hA1:=zaI (⟨#[108,105,115,116]⟩:UW) 0 5 opP (za9 (k:=1) ub) e1
 have hk1:TLk 1 aw1:=zba (za9 (k:=1) ub) e1
 have hA1':zag [] 5 opP=aw1:=rfl
 rw[hA1']at hA1
 have e2:zbz (⟨#[108,105,115,116]⟩:UW) 1 aw1 9 opD=0:=by unfold zbz;rw[uv zvH,uv ub,ur ub,ur ub]
 have hA2:=λr=>zaI (⟨#[108,105,115,116]⟩:UW) r 9 opD hk1 e2
 have hk2:TLk 1 aw2:=zba hk1 e2
 have hA2':zag aw1 9 opD=aw2:=rfl
 simp only[hA2']at hA2
 have q1:zeb (⟨#[108,105,115,116]⟩:UW) 1 7 opG=0:=by unfold zeb;rw[uv ztx,uv ub]
 have q2:zeb (⟨#[108,105,115,116]⟩:UW) 1 9 opG=0:=by unfold zeb;rw[uv ztx,uv ub]
 have hQ1:=λr=>zbX (⟨#[108,105,115,116]⟩:UW) r 7 opG hk2 q1
 have hQ2:=λr=>zbX (⟨#[108,105,115,116]⟩:UW) r 9 opG hk2 q2
 have v1:(wq 1 (stA 1 aw2 7) opG).2=⟨0,10⟩:=by decide
 have v2:(wq 1 (stA 1 aw2 9) opG).2=⟨12,0⟩:=by decide
 simp only[v1]at hQ1
 simp only[v2]at hQ2
 have hL:=λr=>wD (⟨#[108,105,115,116]⟩:UW) 1 r aw2
 have hF:=λr=>zig (⟨#[108,105,115,116]⟩:UW) 1 r aw2 ub
 have v3:failL aw2 (flO 1 [] aw2)=[]:=by decide
 simp only[v3]at hF
 refine gO T Tryz.func10 λC hC=>?_
 repeat' first|refine gG ?_|exact gD|(exfalso;revert h;decide)|refine gB ?_ ?_<;>intro h|refine gPE ?_|refine gT ?_|refine gR hN (nm [120,121,122]) ?_|refine gR hA1 (nm [120,121,122,123,124]) ?_|refine gR (hA2 _) (nm [120,123,124,125,126]) ?_|refine gR (hQ1 _) (nm [120,125,126]) ?_|refine gR (hQ2 _) (nm [120,125,126]) ?_|refine gR (hL _) (nm [120,125,126]) ?_|refine gR (hF _) (nm [120,125,126]) ?_
 exact zt ⟨.inl rfl,id,_,rfl,.qq ub,trivial,rfl,rfl⟩
theorem zlx(sn:Str)(k r:Int)(ms:List Mt)(t:Int)(hn:xE t=false):
 zk Tryz.prog 20 [.one (.bx 0 0),I t] (tlC sn k r ms) (.tup [zm (stR 0 []),I 2]) (tlC sn k r ms):=by
 have hTm:=vh t
 rw[hn]at hTm
 refine gO T Tryz.func20 λC hC=>?_
 repeat' first|refine gG ?_|exact gD|refine gB ?_ ?_<;>intro h|refine gPE ?_|refine gC hTm ?_
 exact zt ⟨.inl rfl,id,_,rfl,LeS.tup (.cons (LeS.emp 0) (.cons (.refl _) .nil)),⟨rfl,rfl,rfl,uh⟩,rfl,rfl⟩
variable {ms:List Mt}
theorem zec(sn:Str){k:Int}(r:Int)(t:Int)(hk:TLk k ms)(ht:xE t=true):
 zk Tryz.prog 20 [.one (.bx 0 0),I t] (tlC sn k r ms) (.tup [zm (stR k (stA k ms t)),I 0]) (tlC sn k (zdh (zah ms t) (zah ms t) (ptO k ms).length) ms):=by
 have hTm:=vh t
 rw[ht]at hTm
 have hAt:=zqx sn r hk ht
 have hv:zJ k (stA k ms t)=true:=wu hk.kind.2 (wX hk.k6) λx hx=>hk.ok x (u6 hx)
 obtain⟨hR,hw⟩:=zbb hv
 generalize stA k ms t=R at hAt hR hw⊢
 generalize zdh (zah ms t) (zah ms t) (ptO k ms).length=r' at hAt⊢
 refine gO T Tryz.func20 λC hC=>?_
 repeat' first|refine gG ?_|exact gD|refine gB ?_ ?_<;>intro h|refine gPE ?_|refine gC hTm ?_|refine gR hAt (nm [0,1,2]) ?_
 rw[uj]
 refine gA 113 1 [] [(1007,[.p (ki k),.ar 113])] ?_
 refine zn (λj:Nat=>j<=R.length) (λj=>([(4,.one (.bx 1004 0)),(7,.one (.bx 1007 0)),(24,pS (.sl 1 (R.map z8))),(25,I R.length),(26,I j)],[(0,some (Res.box [.p (ks sn),.p (ki k),.ar 1,.ar 2,.p (ki r')])),(1,some (.arr 4 (yB ms (flO k [] ms)))),(2,some (.arr 1 (zas k (ptO k ms)))),(1004,some (Res.box (zV [ZK.int .i64,ZK.slice]))),(1007,some (Res.box [.p (ki k),.ar 103])),(103,some (.arr 1 ((R.take j).map z8)))])) (λj=>R.length - j) hC
  0 (uA _) (mvU 103 113) ⟨rfl,⟨rfl,rfl,rfl,rfl,rfl,uh⟩,⟨rfl,rfl,rfl,rfl,rfl,rfl,uh⟩,rfl,λi hi=>zS ua hi⟩ ?_
 intro j hj
 refine zr T hC true 200 rfl ?_
 refine zu rfl ?_ ?_<;>intro h
 ·have hlt:j<R.length:=by have:=uo h;omega
  clear h
  obtain⟨x,hx⟩:=ze hlt
  have hCl:=zcq x (by have:=hw x (List.mem_of_getElem? hx);omega)
  have hnx:(R.take j).map z8++[z8 x]=(R.take (j+1)).map z8:=by rw[tG,hx,uY];rfl
  have hrl:((R.take j).map z8).length<=500:=by rw[uj,uz];omega
  repeat' first|refine gG ?_|refine gB ?_ ?_<;>intro h|refine gX ?_|refine gC hCl ?_|refine gT ?_|refine gY T 123 ((R.take (j+1)).map z8) 24 ?_
  rw[yO ua]
  exact zf (j+1) ua (mvU 103 123) ua ⟨rfl,⟨rfl,rfl,rfl,rfl,rfl,uh⟩,⟨rfl,rfl,rfl,rfl,rfl,rfl,uh⟩,rfl,λi hi=>zS ua hi⟩
 ·have hge:j=R.length:=by have:=uq h;omega
  subst hge
  rw[tW]
  repeat' first|refine gG ?_|refine gB ?_ ?_<;>intro h|refine zj ?_
  refine gZ 103 [] [(1004,[.p (ki k),.p (yp R)])] ?_
  exact gE
abbrev tlU(a b c:Nat)(sn:Str)(k r:Int)(ms:List Mt)(L:List (Nat×Option Res)):List (Nat×Option Res):=(a,some (.box [.p (ks sn),.p (ki k),.ar b,.ar c,.p (ki r)]))::(b,some (.arr 4 (yB ms (flO k [] ms))))::(c,some (.arr 1 (zas k (ptO k ms))))::L
variable {t:Int}
theorem zoJ(ha:ms.Pairwise λa b=>a.1<b.1):ms.take (zah ms t)=ms.filter λm=>decide (m.1<=t):=by
 obtain⟨h1,h2⟩:=zaJ (t:=t) ha
 have hf: ∀l:List Mt,(∀m∈l,t<m.1)->l.filter (λm=>decide (m.1<=t))=[]:=λl h=>oN.2 λm hm=>by
  have:=h m hm;simp;omega
 have hl:(ms.take (xr ms t)).filter (λm=>decide (m.1<=t))=ms.take (xr ms t):=Ue.2 λm hm=>by
  have:=h1 m hm;simp;omega
 have e:ms.filter (λm=>decide (m.1<=t))=ms.take (xr ms t)++(ms.drop (xr ms t)).filter λm=>decide (m.1<=t):=by
  conv=>lhs;rw[<-tv (xr ms t) ms,oL,hl]
 unfold zah
 cases hh:hasT ms t with
 |false=>
  rw[ur ub,e,hf _ (zly ha hh),qo]
 |true=>
  rw[uv rfl,e]
  have hlt:=zgL hh
  have hm:ms[xr ms t]?=some ms[xr ms t]:=uM hlt
  unfold hasT at hh
  rw[hm]at hh
  have ht:=uo hh
  rw[tG,hm,qR,tS hlt,List.filter_cons_of_pos ug,hf]
  intro m hx
  have hp:(ms.drop (xr ms t)).Pairwise λa b=>a.1<b.1:=ha.sublist (oO ..)
  rw[tS hlt]at hp
  have:=(tU.1 hp).1 m hx
  omega
variable {sn:Str}
theorem zcr(h:rkF sn≠0): ∃x,zcp sn=some x/\x.2.2=rkF sn/\1<=x.2.2/\x.2.2<=KM:=by
 have h1:=zgM sn
 rw[ur h]at h1
 cases hx:zcp sn with
 |none=>rw[hx]at h1;cases h1
 |some x=>
  rw[hx]at h1
  exact⟨x,rfl,uy h1,(zbc hx).2.1⟩
theorem zty{a b:Str}(h:a=b):LeS (Sr a) (Sr b):=h ▸ .refl _
noncomputable abbrev txF(s:Str):Str:=((zcp s).getD noS).2.1
theorem zjJ{s:Str}(h0:rkF s≠0):zk Tryz.prog 141 [Sr s] [] (Sr (txF s)) []:=by
 refine gO T Tryz.func141 λC hC=>?_
 repeat' first|refine gG ?_|refine gB ?_ ?_<;>intro h
 all_goals first
  |(have e:=uo h;subst e;exact zt ⟨.inl rfl,id,_,rfl,zty ud,trivial,rfl,rfl⟩)
  |exact absurd (by unfold rkF;simp only[*,cond_false]) h0
theorem zoK{k:Int}(ho:okOp k o=true)(hm:k<=KM):zk Tryz.prog 111 [I k,I o.code] [] (Sr (zbM k o.code)) []:=by
 obtain⟨hk,hc,⟨w,hw⟩,_,_⟩:=wJ ho
 have hW:=ze7 hk
 have hn:nameS k o.code=w.1:=by unfold nameS;rw[hw]
 have hnw:(zih k)[(o.code - 1).toNat]?=some w.1:=by unfold zih;rw[uE,hw];rfl
 have hw1:IntKind.i64.wrap (o.code - 1)=o.code - 1:=by
  have:=(ui.1 hw).1
  have h8:(yf k).length<=8:=by
   rcases(by omega:k=1\/k=2\/k=3\/k=4\/k=5\/k=6)with rfl|rfl|rfl|rfl|rfl|rfl<;>decide
  exact wrap64 ua
 unfold zbM
 rw[hn]
 by_cases h2:k=2/\o.code=2
 ·obtain⟨rfl,h2⟩:=h2
  rw[h2]at hw
  cases hw
  rw[uv rfl,h2]
  refine gO T Tryz.func111 λC hC=>?_
  repeat' first|refine gG ?_|exact gD|refine gB ?_ ?_<;>intro h|refine gC hW ?_
  exact gF
 ·have hne: ¬w.1=(⟨#[109,105,110]⟩:UW):=λe=>by
   have hb: ∀k:Int,k=1\/k=3\/k=4->((yf k).all λw=>decide (w.1≠(⟨#[109,105,110]⟩:UW)))=true:=by rintro k (rfl|rfl|rfl)<;>decide
   rcases(by have:k<=4:=hm;omega:k=2\/(k=1\/k=3\/k=4))with rfl|h
   ·have h4:o.code=1\/o.code=3\/o.code=4:=by
     have:=(ui.1 hw).1
     have h8:(yf 2).length=4:=rfl
     omega
    rcases h4 with h4|h4|h4<;>rw[h4]at hw<;>cases hw<;>exact absurd e ub
   ·exact absurd e (uo (List.all_eq_true.1 (hb k h) w (List.mem_of_getElem? hw)))
  rw[ur hne]
  refine gO T Tryz.func111 λC hC=>?_
  repeat' first|refine gG ?_|(exfalso;simp_all;done)|refine gB ?_ ?_<;>intro h|refine gC hW ?_|(rw[hw1];refine yM T hC rfl rfl rfl ua (yg (i:=o.code - 1) hnw) rfl rfl ?_)
  all_goals exact gF
noncomputable def zaK(s:Str):Bool:=decide ((Ps.zO s).2.2=0)&&Ps.yX (Ps.zO s).1
theorem zoL{s:Str}(h0:rkF s≠0)(hg:zaK (txF s)=true):zk Tryz.prog 110 [Sr s] [] (zm (vz (Ps.zO (txF s)).1)) []:=by
 have hS:=zjJ h0
 obtain⟨y,hy,_,_⟩:=zcr h0
 have hz:(txF s).size<=1000000:=by
  unfold txF
  rw[hy]
  have:=(zbc hy).2.2
  exact qn this ub
 unfold zaK at hg
 rw[uu]at hg
 have hP:=Ps.zgN hz (uo hg.1) hg.2
 generalize (Ps.zO (txF s)).1=d at*
 generalize txF s=t at*
 refine gO T Tryz.func110 λC hC=>?_
 repeat' first|refine gG ?_|refine gB ?_ ?_<;>intro h|refine gC hS ?_|refine gC hP ?_
 exact gF
theorem zlz{α:Type}{p:α->Bool}: ∀ {l:List α},l.any p=true->0<=idxOf p l
 |x::xs,h=>by
  unfold idxOf
  by_cases hx:p x=true
  ·rw[uv hx];decide
  ·rw[ur hx]
   have:=zlz (p:=p) (l:=xs) (by simpa [hx]using h)
   cases e:idxOf p xs with
   |ofNat n=>exact uw _
   |negSucc n=>rw[e]at this;omega
theorem zoM(d:xo)(w:Str):decide (0<=Ps.zii d w)=(Ps.zaL d w).isSome:=by
 unfold Ps.zii Ps.zaL
 generalize d.procs=l
 cases hf:l.find? λp=>decide (p.n=w)with
 |none=>
  have h:=Uh.1 hf
  rw[zed (List.any_eq_false.2 λx hx=>h x hx)];rfl
 |some p=>
  have hp:=q7 hf
  have hm:=qI hf
  rw[uK (zlz (oB.2 ⟨p,hm,hp⟩))];rfl
theorem zrp{s:Str}(h0:rkF s≠0)(hg:zaK (txF s)=true)(ho:okOp (rkF s) o=true):zk Tryz.prog 74 [Sr s,I o.code] [] (.bq (Ps.zaL (Ps.zO (txF s)).1 (zbM (rkF s) o.code)).isSome) []:=by
 have hL:=zoL h0 hg
 have hK:=wL s
 obtain⟨y,hy,hyk,_,hyb⟩:=zcr h0
 have hW:=zoK ho (hyk ▸ hyb)
 have hP:=Ps.zee (Ps.zO (txF s)).1 (zbM (rkF s) o.code)
 rw[<-zoM]
 generalize Ps.zii (Ps.zO (txF s)).1 (zbM (rkF s) o.code)=q at*
 generalize (Ps.zO (txF s)).1=d at*
 generalize zbM (rkF s) o.code=w at*
 generalize rkF s=k at*
 refine gO T Tryz.func74 λC hC=>?_
 repeat' first|refine gG ?_|refine gB ?_ ?_<;>intro h|refine gC hL ?_|refine gC hK ?_|refine gC hW ?_|refine gC hP ?_
 exact gF
theorem ze8{s:Str}(h0:rkF s≠0)(hg:zaK (txF s)=true)(o:OpT)(u:Bool):zk Tryz.prog 45 [Sr s,zm (opR o),Bo u] [] (I (za8 s (rkF s) o u)) []:=by
 have hK:=wL s
 obtain⟨y,hy,hyk,_,hyb⟩:=zcr h0
 have hV:=zgO (rkF s) o
 unfold za8
 by_cases ho:okOp (rkF s) o=true
 rotate_left
 ·rw[ur ho]
  rw[qf]at ho
  rw[ho]at hV
  refine gO T Tryz.func45 λC hC=>?_
  repeat' first|refine gG ?_|exact gD|refine gB ?_ ?_<;>intro h|refine gC hK ?_|refine gC hV ?_
  exact gF
 rw[uv ho]
 have hH:=zrp h0 hg ho
 have hb:ze9 s o=if(Ps.zaL (Ps.zO (txF s)).1 (zbM (rkF s) o.code)).isSome=true then 0 else 12:=by
  unfold zaK txF at hg
  rw[hy,uu]at hg
  unfold ze9 txF
  rw[hy]
  simp only[Option.getD_some]at hg⊢
  rw[hyk,uv ho,uv (uo hg.1),zij ho]
  simp only[hg.2,UL]
 rw[hb]
 generalize (Ps.zaL (Ps.zO (txF s)).1 (zbM (rkF s) o.code)).isSome=q at*
 rw[ho]at hV
 obtain⟨hk,hc,⟨w,hw⟩,_,_⟩:=wJ ho
 have hU:=zfa hk hc hw
 have hu:zqw (rkF s) o.code=w.2.2:=by unfold zqw;rw[hw]
 rw[hu]
 generalize rkF s=k at*
 refine gO T Tryz.func45 λC hC=>?_
 repeat' first|refine gG ?_|exact gD|refine gB ?_ ?_<;>intro h|refine gC hK ?_|refine gC hV ?_|refine gC hU ?_|refine gC hH ?_|(refine zcs rfl 18 rfl (LeS.qb (b':=u) rfl) ?_;refine zlA hC rfl rfl ud rfl rfl ?_)
 ·have hn: ¬w.2.2=u:=by simpa using h
  rw[ur hn]
  exact gF
 all_goals
  have hn:w.2.2=u:=by first|simpa using h|(rename_i h2;simpa using h2)
  rw[uv hn]
  cases q<;>first
   |(exfalso;revert h;decide)
   |exact gF
theorem zef{s:Str}(h0:rkF s≠0)(hg:zaK (txF s)=true)(hk:TLk (rkF s) ms)(t:Int)(o:OpT):
 zk Tryz.prog 16 [Sr s,pS (xd ms),zm (zai (t,o))] [] (.tup [pS (xd (if zbz s (rkF s) ms t o=0 then zag ms t o else ms)),I (zbz s (rkF s) ms t o)]) []:=by
 have hH:=ze8 h0 hg o true
 have hT:=zbY t
 have hlen:=hk.len
 have hA:=zqy ms t ua hk.asc
 have hP:=zrq ms t o ua hk.asc
 have hlm:(ms.map zai).length=ms.length:=uj _
 unfold zbz
 generalize za8 s (rkF s) o true=e at*
 unfold atE at hA
 by_cases he:e=0
 ·subst he
  cases hb:xE t<;>cases hh:hasT ms t<;>by_cases h3:140<=ms.length
  all_goals
   rw[hb]at hT
   rw[hh]at hA
   simp only[qx,tO,h3,uU,reduceCtorEq,Int.reduceEq]at hA⊢
   refine gO T Tryz.func16 λC hC=>?_
   repeat' first|refine gG ?_|exact gD|(exfalso;exact he (by simpa using h))|(exfalso;rw[hlm]at h;have h4:=uo h;omega)|(exfalso;rw[hlm]at h;have h4:=uq h;omega)|(exfalso;have h4:=uo h;omega)|(exfalso;have h4:=uq h;omega)|refine gB ?_ ?_<;>intro h|refine gC hH ?_|refine gC hT ?_|refine gC hA ?_|refine gC hP ?_
   exact gF
 ·simp only[ur he]
  refine gO T Tryz.func16 λC hC=>?_
  repeat' first|refine gG ?_|exact gD|(exfalso;exact he (by simpa using h))|(exfalso;rw[hlm]at h;have h4:=uo h;omega)|(exfalso;rw[hlm]at h;have h4:=uq h;omega)|(exfalso;have h4:=uo h;omega)|(exfalso;have h4:=uq h;omega)|refine gB ?_ ?_<;>intro h|refine gC hH ?_|refine gC hT ?_|refine gC hA ?_|refine gC hP ?_
  exact gF
theorem zgP{k:Int}(hk:TLk k ms)(t:Int):
 zk Tryz.prog 30 [pS (xd ms),I t] [] (.tup [pS (xd (if zgQ ms t=0 then zdi ms t else ms)),I (zgQ ms t)]) []:=by
 have hT:=zbY t
 have hlen:=hk.len
 have hA:=zqy ms t ua hk.asc
 unfold zgQ atE at*
 cases hb:xE t<;>cases hh:hasT ms t
 all_goals
  rw[hb]at hT
  rw[hh]at hA
  simp only[qx,tO,uU,reduceCtorEq,Int.reduceEq]at hA⊢
 case' true.true=>have hC':=zrr ms (xr ms t) ua (zgL hh)
 all_goals
  refine gO T Tryz.func30 λC hC=>?_
  repeat' first|refine gG ?_|exact gD|(exfalso;have h4:=uo h;omega)|(exfalso;have h4:=uq h;omega)|refine gB ?_ ?_<;>intro h|refine gC hT ?_|refine gC hA ?_|refine gC hC' ?_
  exact gF
theorem zrs(sn:Str){k:Int}(r:Int)(hk:TLk k ms):
 zk Tryz.prog 32 [.one (.bx 0 0)] (tlC sn k r ms) (.tup [pS (zA (ms.map (·.1))),pS (zvI (ms.map (·.2)))]) (tlC sn k r ms):=by
 have hFl:=yT k ms []
 have hml:=xB hFl
 have hlen:=hk.len
 refine gO T Tryz.func32 λC hC=>?_
 repeat' first|refine gG ?_|refine gB ?_ ?_<;>intro h|refine gPE ?_
 rw[hml]
 refine gA 113 1 [(4,.one (.ar 113))] [] ?_
 refine gA 114 2 [(5,.one (.ar 114))] [] ?_
 refine zn (λj:Nat=>j<=ms.length) (λj=>([(13,.one (.ar 1)),(14,I ms.length),(15,I j),(4,.one (.ar 103)),(5,.one (.ar 104))],[(0,some (Res.box [.p (ks sn),.p (ki k),.ar 1,.ar 2,.p (ki r)])),(1,some (.arr 4 (yB ms (flO k [] ms)))),(2,some (.arr 1 (zas k (ptO k ms)))),(103,some (.arr 1 (((ms.take j).map (·.1)).map zR))),(104,some (.arr 2 (((ms.take j).map (·.2)).map opR)))])) (λj=>ms.length - j) hC
  0 (uA _) (λi=>mvU 103 113 (mvU 104 114 i)) ⟨rfl,⟨rfl,rfl,rfl,rfl,rfl,uh⟩,⟨rfl,rfl,rfl,rfl,rfl,uh⟩,rfl,λi hi=>(uR (mvU _ _) (zS ua hi)).trans (zS ua hi)⟩ ?_
 intro j hj
 refine zr T hC true 200 rfl ?_
 refine zu rfl ?_ ?_<;>intro h
 ·have hlt:j<ms.length:=by have:=uo h;omega
  clear h
  obtain⟨m,hm⟩:=ze hlt
  obtain⟨f,hf,hrow⟩:=zat hFl hm
  have hoa:m.2.args.length<=64:=(wJ (hk.ok m (List.mem_of_getElem? hm))).2.2.2.1
  have hCl:=zcq m.2.args ua
  have h1:((ms.take j).map (·.1)).map zR++[zR m.1]=((ms.take (j+1)).map (·.1)).map zR:=by rw[tG,hm,uY,uY];rfl
  have h2:((ms.take j).map (·.2)).map opR++[opR m.2]=((ms.take (j+1)).map (·.2)).map opR:=by rw[tG,hm,uY,uY];rfl
  have l1:(((ms.take j).map (·.1)).map zR).length<=140:=by rw[uj,uj,uz];omega
  have l2:(((ms.take j).map (·.2)).map opR).length<=140:=by rw[uj,uj,uz];omega
  repeat' first|refine gG ?_|refine gB ?_ ?_<;>intro h|refine jA T hC (rows:=yB ms (flO k [] ms)) rfl rfl rfl rfl (uw _) (by rw[hml];omega) rfl rfl ?_|refine wE T hC j 0 (rows:=yB ms (flO k [] ms)) (row:=zik m f) rfl rfl rfl ue hrow rfl rfl rfl ?_|refine gC hCl ?_|refine gT ?_|refine gY T 123 (((ms.take (j+1)).map (·.1)).map zR) 8 ?_|refine gY T 124 (((ms.take (j+1)).map (·.2)).map opR) 32 ?_
  rw[yO ua]
  exact zf (j+1) ua (λi=>mvU 103 123 (mvU 104 124 i)) ua ⟨rfl,⟨rfl,rfl,rfl,rfl,rfl,uh⟩,⟨rfl,rfl,rfl,rfl,rfl,uh⟩,rfl,λi hi=>(uR (mvU _ _) (zS ua hi)).trans (zS ua hi)⟩
 ·have hge:j=ms.length:=by have:=uq h;omega
  subst hge
  rw[tW]
  repeat' first|refine gG ?_|refine gB ?_ ?_<;>intro h|refine zj ?_
  refine gZ 103 [(2,pS (zA (ms.map (·.1))))] [] ?_
  refine gZ 104 [(3,pS (zvI (ms.map (·.2))))] [] ?_
  exact gE
theorem zqz{n:Nat}(ha:ms.Pairwise λa b=>a.1<b.1)(hn:n<=ms.length)(h1: ∀m∈ms.take n,m.1<=t)(h2: ∀m,ms[n]?=some m->t<m.1):n=zah ms t:=by
 have h3:=zoJ (t:=t) ha
 have hd: ∀m∈ms.drop n,t<m.1:=by
  intro m hm
  rcases Nat.lt_or_ge n ms.length with h|h
  ·have e:=tS h
   have h4:=h2 _ (uM h)
   have hp:(ms.drop n).Pairwise λa b=>a.1<b.1:=ha.sublist (oO ..)
   rw[e]at hm hp
   rcases uV.1 hm with rfl|hm
   ·exact h4
   ·have:=(tU.1 hp).1 m hm;omega
  ·rw[tf h]at hm;cases hm
 have e:ms.filter (λm=>decide (m.1<=t))=ms.take n:=by
  conv=>lhs;rw[<-tv n ms,oL]
  rw[Ue.2 λm hm=>by have:=h1 m hm;simpa using this,oN.2 λm hm=>by have:=hd m hm;simp;omega,qo]
 rw[e]at h3
 have h5:=uR List.length h3
 have h6:=zct ms t
 rw[uz,uz]at h5
 omega
theorem zcu{s:Str}(hk:TLk (rkF s) ms)(t:Int):zk Tryz.prog 22 [Sr s,pS (xd ms),I t] [] (zm (stR (rkF s) (stA (rkF s) ms t))) []:=by
 have hK:=wL s
 generalize rkF s=k at*
 have hlm:(ms.map zai).length=ms.length:=uj _
 have hlen:=hk.len
 refine gO T Tryz.func22 λC hC=>?_
 repeat' first|refine gG ?_|refine gB ?_ ?_<;>intro h|refine gC hK ?_
 refine gA 113 1 [] [(1007,[.p (ki k),.ar 113])] ?_
 refine gZ 113 [] [(1007,[.p (ki k),.p (yp [])])] ?_
 refine zn (λi:Nat=>i<=ms.length/\ ∀m∈ms.take i,m.1<=t) (λi=>([(1,pS (xd ms)),(2,I t),(6,.one (.bx 1006 0)),(7,.one (.bx 1007 0)),(8,I i)],[(1006,some (Res.box (zV [ZK.int .i64,ZK.slice]))),(1007,some (Res.box ((stR k (stO k [] (ms.take i))).map V.p)))])) (λi=>ms.length - i) hC
  0 ⟨uA _,λm hm=>by cases hm⟩ id gM ?_
 rintro j ⟨hj,hle⟩
 have hex:(j<ms.length/\ ∃m,ms[j]?=some m/\m.1<=t)\/(j=zah ms t/\((∃m,ms[j]?=some m/\j<ms.length/\ ¬m.1<=t)\/ms.length<=j)):=by
  by_cases hlt:j<ms.length
  ·obtain⟨m,hm⟩:=ze hlt
   by_cases hq:m.1<=t
   ·exact .inl ⟨hlt,m,hm,hq⟩
   ·exact .inr ⟨zqz hk.asc hj hle λm' h'=>by rw[hm]at h';cases h';omega,.inl ⟨m,hm,hlt,hq⟩⟩
  ·exact .inr ⟨zqz hk.asc hj hle λm' h'=>absurd (ui.1 h').1 hlt,.inr ua⟩
 rcases hex with⟨hlt,m,hm,hq⟩|⟨hcnt,⟨m,hm,hlt,hq⟩|hge⟩
 ·have hv:zJ k (stO k [] (ms.take j))=true:=wu hk.kind.2 (wX hk.k6) λx hx=>hk.ok x (u6 hx)
  have hSt:=zeg k (stO k [] (ms.take j)) m.2 hk.kind.2 hv (hk.ok m (List.mem_of_getElem? hm))
  have hnx:=zbZ (k:=k) hm
  repeat' first|refine gG ?_|exact gD|(exfalso;have h2:=uq h;rw[hlm]at h2;omega)|(exfalso;exact absurd hq (uq h))|refine gB ?_ ?_<;>intro h|refine gI T (zg hm) ?_|refine gC hSt ?_
  rw[yO ua]
  refine zf (j+1) ⟨hlt,λm' h'=>?_⟩ id ua ?_
  ·rw[tG,hm,u7]at h'
   rcases h' with h'|h'
   ·exact hle m' h'
   ·cases tP.1 h';exact hq
  ·simp only[hnx]
   exact gM
 all_goals
  have hA:stA k ms t=stO k [] (ms.take j):=by unfold stA;rw[hcnt]
  rw[hA]
  repeat' first|refine gG ?_|exact gD|(exfalso;have h2:=uq h;rw[hlm]at h2;omega)|(exfalso;have h2:=uo h;rw[hlm]at h2;omega)|(exfalso;exact absurd (uo h) hq)|refine gB ?_ ?_<;>intro h|refine gI T (zg hm) ?_|refine zj ?_
  exact gF
theorem zoN{s:Str}(hk:TLk (rkF s) ms):zk Tryz.prog 43 [Sr s,pS (xd ms)] [] (pS (zA (failL ms (flO (rkF s) [] ms)))) []:=by
 have hK:=wL s
 generalize rkF s=k at*
 have hlm:(ms.map zai).length=ms.length:=uj _
 have hlen:=hk.len
 have hFl:=yT k ms []
 refine gO T Tryz.func43 λC hC=>?_
 repeat' first|refine gG ?_|refine gB ?_ ?_<;>intro h|refine gC hK ?_
 refine gA 113 1 [] [(1006,[.p (ki k),.ar 113])] ?_
 refine gZ 113 [] [(1006,[.p (ki k),.p (yp [])])] ?_
 refine gA 114 1 [(5,.one (.ar 114))] [] ?_
 refine zn (λj:Nat=>j<=ms.length) (λj=>([(1,pS (xd ms)),(5,.one (.ar 103)),(6,.one (.bx 1006 0)),(7,I j)],[(1006,some (Res.box ((stR k (stO k [] (ms.take j))).map V.p))),(103,some (.arr 1 ((failL (ms.take j) ((flO k [] ms).take j)).map zR)))])) (λj=>ms.length - j) hC
  0 (uA _) (mvU 103 114) ⟨rfl,⟨rfl,rfl,rfl,rfl,uh⟩,⟨rfl,rfl,uh⟩,rfl,λi hi=>zS ua hi⟩ ?_
 intro j hj
 refine zr T hC true 200 rfl ?_
 refine zu rfl ?_ ?_<;>intro h
 ·have hlt:j<ms.length:=by have:=uo h;rw[hlm]at this;omega
  clear h
  obtain⟨m,hm⟩:=ze hlt
  have hv:zJ k (stO k [] (ms.take j))=true:=wu hk.kind.2 (wX hk.k6) λx hx=>hk.ok x (u6 hx)
  have hSt:=zeg k (stO k [] (ms.take j)) m.2 hk.kind.2 hv (hk.ok m (List.mem_of_getElem? hm))
  have hnS:=zbZ (k:=k) hm
  have hf:=zqA (k:=k) hm
  have hnx:=zbd hm hf
  have hfl:=zcv (ms.take j) ((flO k [] ms).take j)
  rw[uz]at hfl
  have hrl:((failL (ms.take j) ((flO k [] ms).take j)).map zR).length=(failL (ms.take j) ((flO k [] ms).take j)).length:=uj _
  generalize wq k (stO k [] (ms.take j)) m.2=z at hSt hnS hnx hf
  obtain⟨Rn,x⟩:=z
  simp only at hSt hnS hnx hf
  by_cases he:x.e=0
  ·rw[uK he,ot,ur ub,qo]at hnx
   repeat' first|refine gG ?_|exact gD|(exfalso;have h2:=uq h;exact h2 he)|(exfalso;simp[he]at h;done)|refine gB ?_ ?_<;>intro h|refine gI T (zg hm) ?_|refine gC hSt ?_
   rw[yO ua]
   refine zf (j+1) ua id ua ?_
   simp only[hnx,hnS]
   exact gM
  ·rw[uJ he,oA,uv rfl]at hnx
   repeat' first|refine gG ?_|exact gD|(exfalso;simp[he]at h;done)|refine gB ?_ ?_<;>intro h|refine gI T (zg hm) ?_|refine gC hSt ?_|refine gT ?_|refine xa T 123 hC (rows:=(failL (ms.take j) ((flO k [] ms).take j)).map zR) (rows2:=[zR m.1]) (rows3:=(failL (ms.take (j+1)) ((flO k [] ms).take (j+1))).map zR) (bytes:=8) rfl rfl rfl rfl (zae.sl (T.es_ok _ _ rfl)) (by rw[hnx,uY];rfl) rfl rfl rfl ud (by simp only[uC];omega) (by simp only[uC];omega) rfl rfl rfl ?_
   rw[yO ua]
   refine zf (j+1) ua (mvU 103 123) ua ?_
   simp only[hnS]
   exact⟨rfl,⟨rfl,rfl,rfl,rfl,uh⟩,⟨rfl,rfl,uh⟩,rfl,λi hi=>zS ua hi⟩
 ·have hge:j=ms.length:=by have:=uq h;rw[hlm]at this;omega
  subst hge
  rw[tW,<-hFl,tW]
  repeat' first|refine gG ?_|refine gB ?_ ?_<;>intro h|refine zj ?_
  refine gZ 103 [(4,pS (zA (failL ms (flO k [] ms))))] [] ?_
  exact gF
theorem zrt{s:Str}(h0:rkF s≠0)(hg:zaK (txF s)=true)(hk:TLk (rkF s) ms)(t:Int)(o:OpT):
 zk Tryz.prog 40 [Sr s,pS (xd ms),I t,zm (opR o)] [] (.tup [zm (rsR (if zeb s (rkF s) t o=0 then(wq (rkF s) (stA (rkF s) ms t) o).2 else⟨0,0⟩)),I (zeb s (rkF s) t o)]) []:=by
 have hH:=ze8 h0 hg o false
 have hT:=zbY t
 have hS:=zcu hk t
 have hv:zJ (rkF s) (stA (rkF s) ms t)=true:=wu hk.kind.2 (wX hk.k6) λx hx=>hk.ok x (u6 hx)
 have hSt:=λho=>zeg (rkF s) (stA (rkF s) ms t) o hk.kind.2 hv ho
 have hck:=λh=>zil (sn:=s) (k:=rkF s) (o:=o) (u:=false) h
 unfold zeb
 generalize za8 s (rkF s) o false=e at*
 by_cases he:e=0
 ·subst he
  have hSt:=hSt (hck rfl)
  clear hck
  cases hb:xE t
  all_goals
   rw[hb]at hT
   simp only[qx,tO,uU,reduceCtorEq,Int.reduceEq]
   refine gO T Tryz.func40 λC hC=>?_
   repeat' first|refine gG ?_|exact gD|refine gB ?_ ?_<;>intro h|refine gC hH ?_|refine gC hT ?_|refine gC hS ?_|refine gC hSt ?_
   exact gF
 ·simp only[ur he]
  refine gO T Tryz.func40 λC hC=>?_
  repeat' first|refine gG ?_|exact gD|(exfalso;exact he (by simpa using h))|refine gB ?_ ?_<;>intro h|refine gC hH ?_|refine gC hT ?_|refine gC hS ?_
  exact gF
noncomputable def doM(sn:Str)(k:Int)(ms:List Mt)(s:StT):List Mt:=
 if s.kind=0 then(if zbz sn k ms s.time s.o=0 then zag ms s.time s.o else ms)else if s.kind=1 then(if zgQ ms s.time=0 then zdi ms s.time else ms)else ms
def zvq(sn:Str)(k:Int)(ms:List Mt)(s:StT):Prop:=(s.kind=0/\zbz sn k ms s.time s.o=0)\/(s.kind=1/\zgQ ms s.time=0)
theorem ztz(h0:rkF sn≠0)(hg:zaK (txF sn)=true)(hk:TLk (rkF sn) ms)(r:Int)(s:StT)(hc:zvq sn (rkF sn) ms s):
 ∃r2,zk Tryz.prog 14 [.one (.bx 0 0),Sr sn,pS (xd ms),zm (zeh s)] (tlC sn (rkF sn) r ms) (.tup [pS (xd (doM sn (rkF sn) ms s)),.bq true]) (tlX 3 4 sn (rkF sn) r2 (doM sn (rkF sn) ms s) (flO (rkF sn) [] (doM sn (rkF sn) ms s)) (ptO (rkF sn) (doM sn (rkF sn) ms s))):=by
 obtain⟨sk,st,so⟩:=s
 unfold doM
 rcases hc with⟨rfl,ha⟩|⟨rfl,ha⟩
 ·have hA:=zaI sn r st so hk ha
  have hR:=zef h0 hg hk st so
  simp only at ha
  simp only[qx,ha]at hR⊢
  refine⟨zdh (zag ms st so).length (xr ms st) (ptO (rkF sn) ms).length,?_⟩
  refine gO T Tryz.func14 λC hC=>?_
  repeat' first|refine gG ?_|exact gD|(exfalso;revert h;decide)|refine gB ?_ ?_<;>intro h|refine gC hR ?_|refine gR hA (nm [0,1,2,103,104]) ?_
  exact zt ⟨.inl rfl,nm [0,1,2,103,104],_,rfl,.tup (.cons (.refl _) (.cons (.qq ub) .nil)),⟨rfl,rfl,rfl,uh⟩,rfl,rfl⟩
 ·have hA:=zim sn r st hk ha
  have hR:=zgP hk st
  simp only at ha
  simp only[qx,ha,Int.reduceEq,tO]at hR⊢
  refine⟨zdh (zdi ms st).length (xr ms st) (ptO (rkF sn) ms).length,?_⟩
  refine gO T Tryz.func14 λC hC=>?_
  repeat' first|refine gG ?_|exact gD|(exfalso;revert h;decide)|refine gB ?_ ?_<;>intro h|refine gC hR ?_|refine gR hA (nm [0,1,2,103,104]) ?_
  exact zt ⟨.inl rfl,nm [0,1,2,103,104],_,rfl,.tup (.cons (.refl _) (.cons (.qq ub) .nil)),⟨rfl,rfl,rfl,uh⟩,rfl,rfl⟩
theorem zru(h0:rkF sn≠0)(hg:zaK (txF sn)=true)(hk:TLk (rkF sn) ms)(r:Int)(s:StT)(hc: ¬zvq sn (rkF sn) ms s):
 ∃r2,zk Tryz.prog 14 [.one (.bx 0 0),Sr sn,pS (xd ms),zm (zeh s)] (tlC sn (rkF sn) r ms) (.tup [pS (xd ms),.bq true]) (tlC sn (rkF sn) r2 ms):=by
 obtain⟨sk,st,so⟩:=s
 unfold zvq at hc
 simp only at hc
 by_cases h1:sk=0
 ·subst h1
  have ha: ¬zbz sn (rkF sn) ms st so=0:=λe=>hc (.inl ⟨rfl,e⟩)
  have hA:=zgR sn r st so hk ha
  have hR:=zef h0 hg hk st so
  rw[ur ha]at hR
  generalize zbz sn (rkF sn) ms st so=e at*
  refine⟨r,?_⟩
  refine gO T Tryz.func14 λC hC=>?_
  repeat' first|refine gG ?_|exact gD|(exfalso;revert h;decide)|refine gB ?_ ?_<;>intro h|refine gC hR ?_|refine gR hA (nm [0,1,2]) ?_
  exact zt ⟨.inl rfl,id,_,rfl,.tup (.cons (.refl _) (.cons (.qq ue) .nil)),⟨rfl,rfl,rfl,uh⟩,rfl,rfl⟩
 by_cases h2:sk=1
 ·subst h2
  have ha: ¬zgQ ms st=0:=λe=>hc (.inr ⟨rfl,e⟩)
  have hA:=zlB sn r st hk ha
  have hR:=zgP hk st
  rw[ur ha]at hR
  generalize zgQ ms st=e at*
  refine⟨r,?_⟩
  refine gO T Tryz.func14 λC hC=>?_
  repeat' first|refine gG ?_|exact gD|(exfalso;revert h;decide)|refine gB ?_ ?_<;>intro h|refine gC hR ?_|refine gR hA (nm [0,1,2]) ?_
  exact zt ⟨.inl rfl,id,_,rfl,.tup (.cons (.refl _) (.cons (.qq ue) .nil)),⟨rfl,rfl,rfl,uh⟩,rfl,rfl⟩
 by_cases h3:sk=2
 ·subst h3
  have hR:=zrt h0 hg hk st so
  obtain⟨x,r2,hA,hx⟩: ∃x r2,zk Tryz.prog 31 [.one (.bx 0 0),I st,zm (opR so)] (tlC sn (rkF sn) r ms) (.tup [zm (rsR x),I (zeb sn (rkF sn) st so)]) (tlC sn (rkF sn) r2 ms)/\x=(if zeb sn (rkF sn) st so=0 then(wq (rkF sn) (stA (rkF sn) ms st) so).2 else⟨0,0⟩):=by
   by_cases hq:zeb sn (rkF sn) st so=0
   ·exact⟨_,_,by rw[hq];exact zbX sn r st so hk hq,(uv hq).symm⟩
   ·exact⟨_,_,zlC sn r (ms:=ms) st so hq,(ur hq).symm⟩
  rw[<-hx]at hR
  have hS:=zjK x x
  rw[uK rfl]at hS
  generalize zeb sn (rkF sn) st so=e at*
  refine⟨r2,?_⟩
  refine gO T Tryz.func14 λC hC=>?_
  repeat' first|refine gG ?_|exact gD|(exfalso;revert h;decide)|refine gB ?_ ?_<;>intro h|refine gC hR ?_|refine gR hA (nm [0,1,2]) ?_|refine gC hS ?_
  exact zt ⟨.inl rfl,id,_,rfl,.tup (.cons (.refl _) (.cons (.qq ue) .nil)),⟨rfl,rfl,rfl,uh⟩,rfl,rfl⟩
 ·have hT:=zbY st
  cases hb:xE st
  ·have hA:=zlx sn (rkF sn) r ms st hb
   have hS:=zei 0 0 [] []
   rw[show(decide ((0:Int)=0)&&decide (([]:Rws)=[]))=true by decide]at hS
   rw[hb]at hT
   refine⟨r,?_⟩
   refine gO T Tryz.func14 λC hC=>?_
   repeat' first|refine gG ?_|exact gD|(exfalso;have h5:=uo h;contradiction)|refine gB ?_ ?_<;>intro h|refine gC hT ?_|refine gR hA (nm [0,1,2]) ?_|refine jk hC hS rfl rfl (yr.cons (.refl _) (.cons (LeS.emp 0) .nil)) rfl rfl rfl ?_
   exact zt ⟨.inl rfl,id,_,rfl,.tup (.cons (.refl _) (.cons (.qq ue) .nil)),⟨rfl,rfl,rfl,uh⟩,rfl,rfl⟩
  ·have hA:=zec sn r st hk hb
   have hR:=zcu hk st
   have hS:=zei (rkF sn) (rkF sn) (stA (rkF sn) ms st) (stA (rkF sn) ms st)
   rw[show(decide (rkF sn=rkF sn)&&decide (stA (rkF sn) ms st=stA (rkF sn) ms st))=true by simp]at hS
   rw[hb]at hT
   generalize zdh (zah ms st) (zah ms st) (ptO (rkF sn) ms).length=r2 at hA
   refine⟨r2,?_⟩
   refine gO T Tryz.func14 λC hC=>?_
   repeat' first|refine gG ?_|exact gD|(exfalso;have h5:=uo h;contradiction)|refine gB ?_ ?_<;>intro h|refine gC hT ?_|refine gC hR ?_|refine gR hA (nm [0,1,2]) ?_|refine gC hS ?_
   exact zt ⟨.inl rfl,id,_,rfl,.tup (.cons (.refl _) (.cons (.qq ue) .nil)),⟨rfl,rfl,rfl,uh⟩,rfl,rfl⟩
theorem wY(sn:Str)(k r:Int)(ms:List Mt):zk Tryz.prog 18 [.one (.bx 0 0)] (tlC sn k r ms) (I r) (tlC sn k r ms):=by
 refine gO T Tryz.func18 λC hC=>?_
 repeat' first|refine gG ?_|refine gB ?_ ?_<;>intro h|refine gPE ?_
 exact gE
def zbA(ms:List Mt)(n:Nat):List Int:=(List.range n).map λj=>((ms[16*(j+1) - 1]?).getD (0,⟨0,[]⟩)).1
variable {m:Mt}
theorem zlD(ms:List Mt)(j:Nat)(h:ms[16*(j+1) - 1]?=some m):zbA ms (j+1)=zbA ms j++[m.1]:=by
 unfold zbA
 rw[UE,uY,List.map_singleton,h];rfl
theorem zrv(ms:List Mt){n j:Nat}(h:j<n)(hm:ms[16*(j+1) - 1]?=some m):(zbA ms n)[j]?=some m.1:=by
 unfold zbA
 rw[uE,qg h,qh,hm];rfl
theorem zin(ms:List Mt)(n:Nat):(zbA ms n).length=n:=by unfold zbA;rw[uj,tV]
theorem vn(sn:Str){k:Int}(r:Int)(hk:TLk k ms):zk Tryz.prog 24 [.one (.bx 0 0)] (tlC sn k r ms) (pS (zA (zbA ms (ms.length / 16)))) (tlC sn k r ms):=by
 have hFl:=yT k ms []
 have hml:=xB hFl
 have hpl:(zas k (ptO k ms)).length=ms.length / 16:=by unfold zas;rw[uj,vo]
 have hlen:=hk.len
 refine gO T Tryz.func24 λC hC=>?_
 repeat' first|refine gG ?_|refine gB ?_ ?_<;>intro h|refine gPE ?_
 rw[hpl]
 refine gA 113 1 [(3,.one (.ar 113))] [] ?_
 refine zn (λj:Nat=>j<=ms.length / 16) (λj=>([(0,.one (.bx 0 0)),(3,.one (.ar 103)),(11,I (ms.length / 16:Nat)),(12,I j)],tlU 0 1 2 sn k r ms [(103,some (.arr 1 ((zbA ms j).map zR)))])) (λj=>ms.length / 16 - j) hC
  0 (uA _) (mvU 103 113) ⟨rfl,⟨rfl,rfl,rfl,rfl,uh⟩,⟨rfl,rfl,rfl,rfl,uh⟩,rfl,λi hi=>zS ua hi⟩ ?_
 intro j hj
 refine zr T hC true 200 rfl ?_
 refine zu rfl ?_ ?_<;>intro h
 ·have hlt:j<ms.length / 16:=by have:=uo h;omega
  clear h
  obtain⟨m,hm⟩:=ze (l:=ms) (i:=16*(j+1) - 1) ua
  obtain⟨f,_,hrow⟩:=zat hFl hm
  have hnx:=zlD ms j hm
  have hcl:((zbA ms j).map zR).length=j:=by rw[uj,zin]
  have hw:IntKind.i64.wrap (IntKind.i64.wrap (IntKind.i64.wrap ((j:Int)+1)*16) - 1)=((16*(j+1) - 1:Nat):Int):=by
   rw[yO ua,wrap64 (n:=((j+1:Nat):Int)*16) ua,wrap64 ua];omega
  repeat' first|refine gG ?_|exact gD|refine gB ?_ ?_<;>intro h|(rw[hw])|refine jA T hC (rows:=yB ms (flO k [] ms)) rfl rfl rfl rfl (uw _) (by rw[hml];omega) rfl rfl ?_|refine wE T hC (16*(j+1) - 1) 0 (rows:=yB ms (flO k [] ms)) (row:=zik m f) rfl rfl rfl ue hrow rfl rfl rfl ?_|refine gT ?_|refine xa T 123 hC (rows:=(zbA ms j).map zR) (rows2:=[zR m.1]) (rows3:=(zbA ms (j+1)).map zR) (bytes:=8) rfl rfl rfl rfl (zae.sl (T.es_ok _ _ rfl)) (by rw[hnx,uY];rfl) rfl rfl rfl ud (by simp only[uC];omega) (by simp only[uC];omega) rfl rfl rfl ?_
  rw[yO ua]
  exact zf (j+1) ua (mvU 103 123) ua ⟨rfl,⟨rfl,rfl,rfl,rfl,uh⟩,⟨rfl,rfl,rfl,rfl,uh⟩,rfl,λi hi=>zS ua hi⟩
 ·have hge:j=ms.length / 16:=by have:=uq h;omega
  subst hge
  repeat' first|refine gG ?_|refine gB ?_ ?_<;>intro h|refine zj ?_
  refine gZ 103 [(2,pS (zA (zbA ms (ms.length / 16))))] [] ?_
  exact gE
theorem wM{k:Int}(hk:TLk k ms):zk Tryz.prog 23 [pS (xd ms),pS (zA (zbA ms (ms.length / 16)))] [] (.bq true) []:=by
 have hl3:(ms.map zai).length=ms.length:=uj _
 have hcl:((zbA ms (ms.length / 16)).map zR).length=ms.length / 16:=by rw[uj,zin]
 have hlen:=hk.len
 have hlt2: ∀ {i j:Nat} {a b:Mt},i<j->ms[i]?=some a->ms[j]?=some b->a.1<b.1:=λhij ha hb=>by
  obtain⟨hi,rfl⟩:=ui.1 ha
  obtain⟨hj,rfl⟩:=ui.1 hb
  exact tu.1 hk.asc _ _ hi hj hij
 have hC1: ∀j,j<ms.length / 16-> ∃m,ms[16*(j+1) - 1]?=some m/\(zbA ms (ms.length / 16))[j]?=some m.1:=λj hj=>by
  obtain⟨m,hm⟩:=ze (l:=ms) (i:=16*(j+1) - 1) ua
  exact⟨m,hm,zrv ms hj hm⟩
 generalize zbA ms (ms.length / 16)=C1 at*
 refine gO T Tryz.func23 λC hC=>?_
 repeat' first|refine gG ?_|refine gB ?_ ?_<;>intro h
 refine zn (λj:Nat=>j<=ms.length) (λj=>([(0,pS (xd ms)),(1,pS (zA C1)),(5,I (j+1:Nat))],[])) (λj=>ms.length - j) hC
  0 (uA _) id gM ?_
 intro j hj
 refine zr T hC true 200 rfl ?_
 refine zu rfl ?_ ?_<;>intro h
 ·have hlt:j+1<ms.length / 16:=by have:=uo h;omega
  clear h
  obtain⟨a,ha,ha2⟩:=hC1 j ua
  obtain⟨b,hb,hb2⟩:=hC1 (j+1) hlt
  have hab:=hlt2 ua ha hb
  have hw:IntKind.i64.wrap (((j+1:Nat):Int) - 1)=(j:Int):=by rw[wrap64 ua];omega
  repeat' first|refine gG ?_|exact gD|(exfalso;have h2:=uo h;omega)|refine gB ?_ ?_<;>intro h|(rw[hw];refine gI T (zg ha2) ?_)|refine gI T (zg hb2) ?_
  rw[yO (i:=j+1) ua]
  exact zf (j+1) ua id ua gM
 ·clear h hj
  repeat' first|refine gG ?_|refine gB ?_ ?_<;>intro h|refine zj ?_
  refine zn (λi:Nat=>i<=ms.length) (λi=>([(0,pS (xd ms)),(1,pS (zA C1)),(6,I (i / 16:Nat)),(7,I (i % 16:Nat)),(8,I i)],[])) (λi=>ms.length - i) hC
   0 (uA _) id gM ?_
  intro i hi
  refine zr T hC true 200 rfl ?_
  refine zu rfl ?_ ?_<;>intro h
  ·have hlt:i<ms.length:=by have:=uo h;omega
   clear h
   obtain⟨m,hm⟩:=ze hlt
   have hr:IntKind.i64.wrap (((i % 16:Nat):Int)+1)=((i % 16+1:Nat):Int):=yO ua
   by_cases h15:i % 16=15
   ·obtain⟨m2,h1,h2⟩:=hC1 (i / 16) ua
    rw[show 16*(i / 16+1) - 1=i by omega,hm]at h1
    cases h1
    repeat' first|refine gG ?_|exact gD|(exfalso;have h4:=uq h;omega)|(exfalso;exact absurd rfl (uq h))|refine gB ?_ ?_<;>intro h|refine gI T (zg h2) ?_|refine gI T (zg hm) ?_
    rw[yO (i:=i) ua,yO (i:=i / 16) ua]
    exact zf (i+1) ua id ua (by simp only[show(i+1) / 16=i / 16+1 by omega,show(i+1) % 16=0 by omega];exact gM)
   ·by_cases hg:i / 16<ms.length / 16
    ·obtain⟨m2,h1,h2⟩:=hC1 (i / 16) hg
     have hne: ¬m2.1=m.1:=λe=>by
      rcases Nat.lt_or_ge i (16*(i / 16+1) - 1)with h|h
      ·have:=hlt2 h hm h1;omega
      ·have:=hlt2 ua h1 hm;omega
     repeat' first|refine gG ?_|exact gD|(exfalso;have h4:=uq h;omega)|(exfalso;exact hne (uo h))|(exfalso;rw[hr]at h;have h4:=uo h;omega)|refine gB ?_ ?_<;>intro h|refine gI T (zg h2) ?_|refine gI T (zg hm) ?_
     rw[yO (i:=i) ua,hr]
     exact zf (i+1) ua id ua (by simp only[show(i+1) / 16=i / 16 by omega,show(i+1) % 16=i % 16+1 by omega];exact gM)
    ·repeat' first|refine gG ?_|exact gD|(exfalso;have h4:=uo h;omega)|(exfalso;rw[hr]at h;have h4:=uo h;omega)|refine gB ?_ ?_<;>intro h
     rw[yO (i:=i) ua,hr]
     exact zf (i+1) ua id ua (by simp only[show(i+1) / 16=i / 16 by omega,show(i+1) % 16=i % 16+1 by omega];exact gM)
  ·have hge:i=ms.length:=by have:=uq h;omega
   subst hge
   repeat' first|refine gG ?_|refine gB ?_ ?_<;>intro h|refine zj ?_
   exact zt ⟨.inl rfl,id,_,rfl,.qq (uK (by rw[hcl])),trivial,rfl,rfl⟩
theorem zjL(a b:OpT):zk Tryz.prog 44 [zm (opR a),zm (opR b)] [] (.bq (decide (a.code=b.code)&&decide (a.args=b.args))) []:=by
 have hL:=zcw a.args b.args
 generalize decide (a.args=b.args)=q at hL⊢
 refine gO T Tryz.func44 λC hC=>?_
 repeat' first|refine gG ?_|refine gB ?_ ?_<;>intro h|refine gC hL ?_|refine gQ ?_|refine gL ?_
 all_goals clear hL
 all_goals first
  |rfl
  |(simp;done)
  |(simp_all;done)
theorem zio(hk:TLk (rkF sn) ms)(r:Int):
 zk Tryz.prog 15 [.one (.bx 0 0),Sr sn,pS (xd ms)] (tlC sn (rkF sn) r ms) (.bq true) (tlC sn (rkF sn) r ms):=by
 have hO:=zrs sn r hk
 have hL:=wD sn (rkF sn) r ms
 have hF:=zig sn (rkF sn) r ms hk.len
 have hR:=zoN hk
 have hE:=zjM (failL ms (flO (rkF sn) [] ms)) (failL ms (flO (rkF sn) [] ms))
 rw[uK rfl]at hE
 have hlen:=hk.len
 have l1:((ms.map (·.1)).map zR).length=ms.length:=by rw[uj,uj]
 have l2:((ms.map (·.2)).map opR).length=ms.length:=by rw[uj,uj]
 have l3:(ms.map zai).length=ms.length:=uj _
 generalize rkF sn=k at*
 generalize failL ms (flO k [] ms)=F at*
 refine gO T Tryz.func15 λC hC=>?_
 repeat' first|refine gG ?_|exact gD|(exfalso;simp[l1,l2,l3]at h;done)|refine gB ?_ ?_<;>intro h|refine gR hO (nm [0,1,2]) ?_|refine gR hL (nm [0,1,2]) ?_|refine gR hF (nm [0,1,2]) ?_|refine gC hR ?_|refine gC hE ?_
 rw[l3]
 clear hO hL hF hR hE
 refine zn (λj:Nat=>j<=ms.length) (λj=>([(7,pS (zA (ms.map (·.1)))),(8,pS (zvI (ms.map (·.2)))),(44,pS (xd ms)),(45,I ms.length),(46,I j)],tlU 0 1 2 sn k r ms [])) (λj=>ms.length - j) hC
  0 (uA _) id gM ?_
 intro j hj
 refine zr T hC true 200 rfl ?_
 refine zu rfl ?_ ?_<;>intro h
 ·have hlt:j<ms.length:=by have:=uo h;omega
  clear h
  obtain⟨m,hm⟩:=ze hlt
  have hS:=zjL m.2 m.2
  rw[show(decide (m.2.code=m.2.code)&&decide (m.2.args=m.2.args))=true by simp]at hS
  repeat' first|refine gG ?_|exact gD|(exfalso;simp[zai]at h;done)|refine gB ?_ ?_<;>intro h|refine gI T (zg hm) ?_|refine yM T hC rfl rfl rfl (uw _) (zg (l:=ms.map (·.1)) (by rw[uE,hm];rfl)) rfl rfl ?_|refine yM T hC rfl rfl rfl (uw _) (zg (l:=ms.map (·.2)) (by rw[uE,hm];rfl)) rfl rfl ?_|refine gC hS ?_
  rw[yO ua]
  exact zf (j+1) ua id ua gM
 ·repeat' first|refine gG ?_|refine gB ?_ ?_<;>intro h|refine zj ?_
  exact zt ⟨.inl rfl,id,_,rfl,LeS.qb rfl,⟨rfl,rfl,rfl,uh⟩,rfl,rfl⟩
theorem ztA{k:Int}(hk:TLk k ms)(s:StT):TLk k (doM sn k ms s):=by
 unfold doM
 split
 ·split
  ·rename_i h;exact zba hk h
  ·exact hk
 ·split
  ·split
   ·exact zgS hk _
   ·exact hk
  ·exact hk
theorem zoO(hg: ∀s,rkF s≠0->zaK (txF s)=true)(sn:Str)(l:List StT):zk Tryz.prog 3 [Sr sn,pS (.sl 4 (l.map zeh))] [] (.bq true) []:=by
 have hF:=zlE l
 have hK:=wL sn
 by_cases hf:zop l=true/\sn.size<=100
 rotate_left
 ·by_cases hf1:zop l=true
  ·have hs:100<sn.size:=Nat.lt_of_not_le λh=>hf ⟨hf1,h⟩
   refine gO T Tryz.func3 λC hC=>?_
   repeat' first|refine gG ?_|exact gD|(exfalso;have h2:=uq h;omega)|refine gB ?_ ?_<;>intro h|refine gC xA ?_|refine gC hF ?_
   all_goals exact gF
  ·rw[qf]at hf1
   rw[hf1]at hF
   refine gO T Tryz.func3 λC hC=>?_
   repeat' first|refine gG ?_|exact gD|refine gB ?_ ?_<;>intro h|refine gC xA ?_|refine gC hF ?_
   all_goals exact gF
 obtain⟨hf,hs⟩:=hf
 rw[hf]at hF
 by_cases h0:rkF sn=0
 ·have hl:=zgM sn
  rw[uv h0]at hl
  have hN:=zrw (Option.map_eq_none_iff.1 hl)
  rw[h0]at hK
  refine gO T Tryz.func3 λC hC=>?_
  repeat' first|refine gG ?_|exact gD|(exfalso;have h2:=uo h;omega)|refine gB ?_ ?_<;>intro h|refine gC xA ?_|refine gC hF ?_|refine gC hN ?_|refine gC hK ?_|refine gPE ?_
  exact zt ⟨.inl rfl,id,_,rfl,.qq ub,trivial,rfl,rfl⟩
 ·obtain⟨y,hy,hyk,hyb⟩:=zcr h0
  have hg:=hg sn h0
  have hN:=zbW hy
  rw[hyk]at hN hyb
  replace hN:zk Tryz.prog 12 [Sr sn] [] (.tup [.one (.bx 0 0),I 0]) (tlC sn (rkF sn) 0 []):=hN
  have hD1:=λ{ms} (hk:TLk (rkF sn) ms) r s hc=>ztz h0 hg hk r s hc
  have hD2:=λ{ms} (hk:TLk (rkF sn) ms) r s hc=>zru h0 hg hk r s hc
  have hAg:=λ{ms} (hk:TLk (rkF sn) ms) r=>zio hk r
  refine gO T Tryz.func3 λC hC=>?_
  repeat' first|refine gG ?_|exact gD|(exfalso;have h2:=uo h;omega)|(exfalso;exact h0 (by simpa using h))|refine gB ?_ ?_<;>intro h|refine gC xA ?_|refine gC hF ?_|refine gC hK ?_|refine gPE ?_|refine gR hN (nm [120,121,122]) ?_
  rw[uj]
  refine zcs rfl 7 rfl (LeS.one (.nil 3):LeS _ (pS (xd []))) ?_
  clear hN hF hK
  refine zn (λq:Nat×List Mt×Int=>q.1<=l.length/\TLk (rkF sn) q.2.1) (λq=>([(0,Sr sn),(5,.one (.bx 120 0)),(7,pS (xd q.2.1)),(44,pS (.sl 4 (l.map zeh))),(45,I l.length),(46,I q.1)],tlU 120 121 122 sn (rkF sn) q.2.2 q.2.1 [])) (λq=>l.length - q.1) hC
   (0,[],0) ⟨uA _,za9 hyb⟩ id gM ?_
  rintro⟨j,ms,r⟩ ⟨hj,hk⟩
  simp only at hj hk
  have hll:=ziq hf
  refine zr T hC true 200 rfl ?_
  refine zu rfl ?_ ?_<;>intro h
  ·have hlt:j<l.length:=by have:=uo h;(try dsimp only at this);omega
   clear h
   obtain⟨s,hs⟩:=ze hlt
   by_cases hc:zvq sn (rkF sn) ms s
   ·obtain⟨r2,hD⟩:=hD1 hk r s hc
    repeat' first|refine gG ?_|exact gD|refine gB ?_ ?_<;>intro h|refine gI T (zg hs) ?_|refine gR hD (nm [120,121,122,123,124]) ?_
    rw[yO ua]
    exact zf (j+1,doM sn (rkF sn) ms s,r2) ⟨hlt,ztA hk s⟩ (λi=>mvU 121 123 (mvU 122 124 i)) (by simp only;omega) ⟨rfl,⟨rfl,rfl,rfl,rfl,rfl,rfl,uh⟩,⟨rfl,rfl,rfl,uh⟩,rfl,λi hi=>(uR (mvU _ _) (zS ua hi)).trans (zS ua hi)⟩
   ·obtain⟨r2,hD⟩:=hD2 hk r s hc
    repeat' first|refine gG ?_|exact gD|refine gB ?_ ?_<;>intro h|refine gI T (zg hs) ?_|refine gR hD (nm [120,121,122]) ?_
    rw[yO ua]
    exact zf (j+1,ms,r2) ⟨hlt,hk⟩ id (by simp only;omega) gM
  ·clear hD1 hD2
   have hA:=hAg hk r
   repeat' first|refine gG ?_|exact gD|refine gB ?_ ?_<;>intro h|refine zj ?_|refine gR hA (nm [120,121,122]) ?_
   exact gF
theorem zgT(n i p:Nat):0<=zdh n i p/\zdh n i p<=(n:Int):=by unfold zdh;omega
theorem zlF{c n p:Nat}(h:c<=n)(hp:p=n / 16):0<=zdh c c p/\zdh c c p<=16:=by unfold zdh;omega
theorem zcx(sn:Str)(l:List StT)(hb:zop l=false\/100<sn.size\/rkF sn=0):
 zk Tryz.prog 6 [Sr sn,pS (.sl 4 (l.map zeh))] [] (.bq true) []:=by
 have hF:=zlE l
 have hK:=wL sn
 rcases hb with hb|hb|hb
 ·rw[hb]at hF
  refine gO T Tryz.func6 λC hC=>?_
  repeat' first|refine gG ?_|exact gD|refine gB ?_ ?_<;>intro h|refine gC xA ?_|refine gC hF ?_|refine gC hK ?_
  exact gF
 ·refine gO T Tryz.func6 λC hC=>?_
  repeat' first|refine gG ?_|exact gD|(exfalso;have h2:=uq h;omega)|refine gB ?_ ?_<;>intro h|refine gC xA ?_|refine gC hF ?_|refine gC hK ?_
  all_goals exact gF
 ·rw[hb]at hK
  refine gO T Tryz.func6 λC hC=>?_
  repeat' first|refine gG ?_|exact gD|refine gB ?_ ?_<;>intro h|refine gC xA ?_|refine gC hF ?_|refine gC hK ?_
  all_goals exact gF
set_option maxHeartbeats 2000000 in
theorem zlG(hg: ∀s,rkF s≠0->zaK (txF s)=true)(l:List StT)(hf:zop l=true)(hs:sn.size<=100)(h0:rkF sn≠0):
 zk Tryz.prog 6 [Sr sn,pS (.sl 4 (l.map zeh))] [] (.bq true) []:=by
 have hF:=zlE l
 have hK:=wL sn
 rw[hf]at hF
 obtain⟨y,hy,hyk,hyb⟩:=zcr h0
 have hg:=hg sn h0
 have hN:=zbW hy
 rw[hyk]at hN hyb
 replace hN:zk Tryz.prog 12 [Sr sn] [] (.tup [.one (.bx 0 0),I 0]) (tlC sn (rkF sn) 0 []):=hN
 have hRp:=wY sn (rkF sn) 0 []
 have hCk:zk Tryz.prog 24 [.one (.bx 0 0)] (tlC sn (rkF sn) 0 []) (pS (zA [])) (tlC sn (rkF sn) 0 []):=vn sn 0 (za9 hyb)
 refine gO T Tryz.func6 λC hC=>?_
 repeat' first|refine gG ?_|exact gD|(exfalso;have h2:=uo h;omega)|(exfalso;exact h0 (by simpa using h))|refine gB ?_ ?_<;>intro h|refine gC xA ?_|refine gC hF ?_|refine gC hK ?_|refine gPE ?_|refine gR hN (nm [120,121,122]) ?_|refine gR hRp (nm [120,121,122]) ?_|refine gR hCk (nm [120,121,122]) ?_
 rw[uj]
 refine zcs rfl 7 rfl (LeS.one (.nil 3):LeS _ (pS (xd []))) ?_
 clear hN hF hK hRp hCk
 refine zn (λq:Nat×List Mt×Int=>q.1<=l.length/\TLk (rkF sn) q.2.1/\0<=q.2.2) (λq=>([(0,Sr sn),(5,.one (.bx 120 0)),(7,pS (xd q.2.1)),(53,pS (.sl 4 (l.map zeh))),(54,I l.length),(55,I q.1)],tlU 120 121 122 sn (rkF sn) q.2.2 q.2.1 [])) (λq=>l.length - q.1) hC
  (0,[],0) ⟨uA _,za9 hyb,qB _⟩ id gM ?_
 rintro⟨j,ms,r⟩ ⟨hj,hk,hr0⟩
 simp only at hj hk hr0
 have hll:=ziq hf
 have hlen:=hk.len
 refine zr T hC true 200 rfl ?_
 refine zu rfl ?_ ?_<;>intro h
 rotate_left
 ·clear h
  repeat' first|refine gG ?_|exact gD|refine gB ?_ ?_<;>intro h|refine zj ?_
  exact zt ⟨.inl rfl,id,_,rfl,LeS.qb rfl,trivial,rfl,rfl⟩
 have hlt:j<l.length:=by have:=uo h;(try dsimp only at this);omega
 clear h
 obtain⟨⟨sk,st,so⟩,hs⟩:=ze hlt
 by_cases h1:sk=0
 ·subst h1
  have hR:=zef h0 hg hk st so
  by_cases ha:zbz sn (rkF sn) ms st so=0
  ·have hA:=zaI sn r st so hk ha
   rw[uv ha,ha]at hR
   have hk2:=zba hk ha
   have hlen2:=hk2.len
   have hL:=λr=>wD sn (rkF sn) r (zag ms st so)
   have hRp:=λr=>wY sn (rkF sn) r (zag ms st so)
   have hCk:=λr=>vn sn r hk2
   have hDn:=wM hk2
   have hw:IntKind.i64.wrap (16+((zag ms st so).length:Int))=16+((zag ms st so).length:Int):=wrap64 ua
   have hb:=zgT (zag ms st so).length (xr ms st) (ptO (rkF sn) ms).length
   generalize zdh (zag ms st so).length (xr ms st) (ptO (rkF sn) ms).length=r2 at*
   generalize zag ms st so=ms2 at*
   generalize zbA ms2 (ms2.length / 16)=C1 at*
   repeat' first|refine gG ?_|exact gD|(exfalso;revert h;decide)|(exfalso;exact he (uo h))|(exfalso;have h4:=uo h;omega)|(exfalso;rw[hw]at h;have h4:=uo h;omega)|refine gB ?_ ?_<;>intro h|refine gI T (zg hs) ?_|refine gC hR ?_|refine gR hA (nm [120,121,122,123,124]) ?_|refine gR (hL _) (nm [120,123,124]) ?_|refine gR (hRp _) (nm [120,123,124]) ?_|refine gR (hCk _) (nm [120,123,124]) ?_|refine gC hDn ?_
   rw[yO (i:=j) ua]
   exact zf (j+1,ms2,r2) ⟨hlt,hk2,hb.1⟩ (λi=>mvU 121 123 (mvU 122 124 i)) (by simp only;omega) ⟨rfl,⟨rfl,rfl,rfl,rfl,rfl,rfl,uh⟩,⟨rfl,rfl,rfl,uh⟩,rfl,λi hi=>(uR (mvU _ _) (zS ua hi)).trans (zS ua hi)⟩
  ·have hA:=zgR sn r st so hk ha
   rw[ur ha]at hR
   have he:=ha
   generalize zbz sn (rkF sn) ms st so=e at*
   have hL:=λr=>wD sn (rkF sn) r ms
   have hRp:=λr=>wY sn (rkF sn) r ms
   have hCk:=λr=>vn sn r hk
   have hDn:=wM hk
   have hw:IntKind.i64.wrap (16+(ms.length:Int))=16+(ms.length:Int):=wrap64 ua
   generalize zbA ms (ms.length / 16)=C1 at*
   repeat' first|refine gG ?_|exact gD|(exfalso;revert h;decide)|(exfalso;exact he (uo h))|(exfalso;have h4:=uo h;omega)|(exfalso;rw[hw]at h;have h4:=uo h;omega)|refine gB ?_ ?_<;>intro h|refine gI T (zg hs) ?_|refine gC hR ?_|refine gR hA (nm [120,121,122]) ?_|refine gR (hL _) (nm [120,121,122]) ?_|refine gR (hRp _) (nm [120,121,122]) ?_|refine gR (hCk _) (nm [120,121,122]) ?_|refine gC hDn ?_
   all_goals
    rw[yO (i:=j) ua]
    exact zf (j+1,ms,r) ⟨hlt,hk,by simp only;omega⟩ id (by simp only;omega) gM
 by_cases h2:sk=1
 ·subst h2
  have hR:=zgP hk st
  by_cases ha:zgQ ms st=0
  ·have hA:=zim sn r st hk ha
   rw[uv ha,ha]at hR
   have hk2:=zgS hk st
   have hlen2:=hk2.len
   have hL:=λr=>wD sn (rkF sn) r (zdi ms st)
   have hRp:=λr=>wY sn (rkF sn) r (zdi ms st)
   have hCk:=λr=>vn sn r hk2
   have hDn:=wM hk2
   have hw:IntKind.i64.wrap (16+((zdi ms st).length:Int))=16+((zdi ms st).length:Int):=wrap64 ua
   have hb:=zgT (zdi ms st).length (xr ms st) (ptO (rkF sn) ms).length
   generalize zdh (zdi ms st).length (xr ms st) (ptO (rkF sn) ms).length=r2 at*
   generalize zdi ms st=ms2 at*
   generalize zbA ms2 (ms2.length / 16)=C1 at*
   repeat' first|refine gG ?_|exact gD|(exfalso;revert h;decide)|(exfalso;exact he (uo h))|(exfalso;have h4:=uo h;omega)|(exfalso;rw[hw]at h;have h4:=uo h;omega)|refine gB ?_ ?_<;>intro h|refine gI T (zg hs) ?_|refine gC hR ?_|refine gR hA (nm [120,121,122,123,124]) ?_|refine gR (hL _) (nm [120,123,124]) ?_|refine gR (hRp _) (nm [120,123,124]) ?_|refine gR (hCk _) (nm [120,123,124]) ?_|refine gC hDn ?_
   rw[yO (i:=j) ua]
   exact zf (j+1,ms2,r2) ⟨hlt,hk2,hb.1⟩ (λi=>mvU 121 123 (mvU 122 124 i)) (by simp only;omega) ⟨rfl,⟨rfl,rfl,rfl,rfl,rfl,rfl,uh⟩,⟨rfl,rfl,rfl,uh⟩,rfl,λi hi=>(uR (mvU _ _) (zS ua hi)).trans (zS ua hi)⟩
  ·have hA:=zlB sn r st hk ha
   rw[ur ha]at hR
   have he:=ha
   generalize zgQ ms st=e at*
   have hL:=λr=>wD sn (rkF sn) r ms
   have hRp:=λr=>wY sn (rkF sn) r ms
   have hCk:=λr=>vn sn r hk
   have hDn:=wM hk
   have hw:IntKind.i64.wrap (16+(ms.length:Int))=16+(ms.length:Int):=wrap64 ua
   generalize zbA ms (ms.length / 16)=C1 at*
   repeat' first|refine gG ?_|exact gD|(exfalso;revert h;decide)|(exfalso;exact he (uo h))|(exfalso;have h4:=uo h;omega)|(exfalso;rw[hw]at h;have h4:=uo h;omega)|refine gB ?_ ?_<;>intro h|refine gI T (zg hs) ?_|refine gC hR ?_|refine gR hA (nm [120,121,122]) ?_|refine gR (hL _) (nm [120,121,122]) ?_|refine gR (hRp _) (nm [120,121,122]) ?_|refine gR (hCk _) (nm [120,121,122]) ?_|refine gC hDn ?_
   all_goals
    rw[yO (i:=j) ua]
    exact zf (j+1,ms,r) ⟨hlt,hk,by simp only;omega⟩ id (by simp only;omega) gM
 have hn1: ∀ {p:Prop},decide (sk=0)=true->p:=λh=>absurd (uo h) h1
 have hn2: ∀ {p:Prop},decide (sk=1)=true->p:=λh=>absurd (uo h) h2
 by_cases h3:sk=2
 ·subst h3
  by_cases hq:zeb sn (rkF sn) st so=0
  ·have hA:=zbX sn r st so hk hq
   have hb:=zlF (zct ms st) (vo (rkF sn) ms)
   generalize zdh (zah ms st) (zah ms st) (ptO (rkF sn) ms).length=r2 at*
   have hL:=λr=>wD sn (rkF sn) r ms
   have hRp:=λr=>wY sn (rkF sn) r ms
   have hCk:=λr=>vn sn r hk
   have hDn:=wM hk
   have hw:IntKind.i64.wrap (16+(ms.length:Int))=16+(ms.length:Int):=wrap64 ua
   generalize zbA ms (ms.length / 16)=C1 at*
   repeat' first|refine gG ?_|exact gD|(exfalso;revert h;decide)|(exfalso;exact he (uo h))|(exfalso;have h4:=uo h;omega)|(exfalso;rw[hw]at h;have h4:=uo h;omega)|refine gB ?_ ?_<;>intro h|refine gI T (zg hs) ?_|refine gR hA (nm [120,121,122]) ?_|refine gR (hL _) (nm [120,121,122]) ?_|refine gR (hRp _) (nm [120,121,122]) ?_|refine gR (hCk _) (nm [120,121,122]) ?_|refine gC hDn ?_
   all_goals
    rw[yO (i:=j) ua]
    exact zf (j+1,ms,r2) ⟨hlt,hk,by simp only;omega⟩ id (by simp only;omega) gM
  ·have hA:=zlC sn r (ms:=ms) st so hq
   have he:=hq
   generalize zeb sn (rkF sn) st so=e at*
   have hL:=λr=>wD sn (rkF sn) r ms
   have hRp:=λr=>wY sn (rkF sn) r ms
   have hCk:=λr=>vn sn r hk
   have hDn:=wM hk
   have hw:IntKind.i64.wrap (16+(ms.length:Int))=16+(ms.length:Int):=wrap64 ua
   generalize zbA ms (ms.length / 16)=C1 at*
   repeat' first|refine gG ?_|exact gD|(exfalso;revert h;decide)|(exfalso;exact he (uo h))|(exfalso;have h4:=uo h;omega)|(exfalso;rw[hw]at h;have h4:=uo h;omega)|refine gB ?_ ?_<;>intro h|refine gI T (zg hs) ?_|refine gR hA (nm [120,121,122]) ?_|refine gR (hL _) (nm [120,121,122]) ?_|refine gR (hRp _) (nm [120,121,122]) ?_|refine gR (hCk _) (nm [120,121,122]) ?_|refine gC hDn ?_
   all_goals
    rw[yO (i:=j) ua]
    exact zf (j+1,ms,r) ⟨hlt,hk,by simp only;omega⟩ id (by simp only;omega) gM
 ·cases hb:xE st
  ·have hA:=zlx sn (rkF sn) r ms st hb
   have hL:=λr=>wD sn (rkF sn) r ms
   have hRp:=λr=>wY sn (rkF sn) r ms
   have hCk:=λr=>vn sn r hk
   have hDn:=wM hk
   have hw:IntKind.i64.wrap (16+(ms.length:Int))=16+(ms.length:Int):=wrap64 ua
   generalize zbA ms (ms.length / 16)=C1 at*
   repeat' first|refine gG ?_|exact gD|(exfalso;have h5:=uo h;contradiction)|(exfalso;revert h;decide)|(exfalso;exact he (uo h))|(exfalso;have h4:=uo h;omega)|(exfalso;rw[hw]at h;have h4:=uo h;omega)|refine gB ?_ ?_<;>intro h|refine gI T (zg hs) ?_|refine gR hA (nm [120,121,122]) ?_|refine gR (hL _) (nm [120,121,122]) ?_|refine gR (hRp _) (nm [120,121,122]) ?_|refine gR (hCk _) (nm [120,121,122]) ?_|refine gC hDn ?_
   all_goals
    rw[yO (i:=j) ua]
    exact zf (j+1,ms,r) ⟨hlt,hk,by simp only;omega⟩ id (by simp only;omega) gM
  ·have hA:=zec sn r st hk hb
   have hb:=zlF (zct ms st) (vo (rkF sn) ms)
   generalize zdh (zah ms st) (zah ms st) (ptO (rkF sn) ms).length=r2 at*
   have hL:=λr=>wD sn (rkF sn) r ms
   have hRp:=λr=>wY sn (rkF sn) r ms
   have hCk:=λr=>vn sn r hk
   have hDn:=wM hk
   have hw:IntKind.i64.wrap (16+(ms.length:Int))=16+(ms.length:Int):=wrap64 ua
   generalize zbA ms (ms.length / 16)=C1 at*
   repeat' first|refine gG ?_|exact gD|(exfalso;have h5:=uo h;contradiction)|(exfalso;revert h;decide)|(exfalso;exact he (uo h))|(exfalso;have h4:=uo h;omega)|(exfalso;rw[hw]at h;have h4:=uo h;omega)|refine gB ?_ ?_<;>intro h|refine gI T (zg hs) ?_|refine gR hA (nm [120,121,122]) ?_|refine gR (hL _) (nm [120,121,122]) ?_|refine gR (hRp _) (nm [120,121,122]) ?_|refine gR (hCk _) (nm [120,121,122]) ?_|refine gC hDn ?_
   all_goals
    rw[yO (i:=j) ua]
    exact zf (j+1,ms,r2) ⟨hlt,hk,by simp only;omega⟩ id (by simp only;omega) gM
theorem zb0{s:Str}(h:rkF s≠0):zaK (txF s)=true:=by
 have h1:=Ps.zgU (zlH h)
 unfold zaK
 rw[uu]
 exact⟨uK h1.1,h1.2.1⟩
theorem zlI{s:Str}(h:rkF s≠0):(Ps.zaL (Ps.zO (txF s)).1 (zbM (rkF s) 1)).isSome=true:=(Ps.zgU (zlH h)).2.2
theorem zjN(sn:Str)(l:List StT):zk Tryz.prog 3 [Sr sn,pS (.sl 4 (l.map zeh))] [] (.bq true) []:=zoO (λ_ h=>zb0 h) sn l
theorem zjO(sn:Str)(l:List StT):zk Tryz.prog 6 [Sr sn,pS (.sl 4 (l.map zeh))] [] (.bq true) []:=by
 by_cases hf:zop l=true
 rotate_left
 ·exact zcx sn l (.inl (by simpa using hf))
 by_cases hs:sn.size<=100
 rotate_left
 ·exact zcx sn l (.inr (.inl ua))
 by_cases hk:rkF sn=0
 ·exact zcx sn l (.inr (.inr hk))
 exact zlG (λ_ h=>zb0 h) l hf hs hk
def opL(k:Int)(i:Nat):OpT:=⟨1,if k=1 then [((i*7 % 30:Nat):Int),(i:Int)]else if k=2 then [((i*7 % 30:Nat):Int)]else if k=3 then [0,(i:Int)]else []⟩
def tmL(s:Int)(i:Nat):Int:=((i:Int)*50+s) % 143
variable {i:Nat}
theorem ztB{k:Int}(hk:k=1\/k=2\/k=3\/k=4)(hi:i<=140):okOp k (opL k i)=true:=by
 have h1:wH ((i:Int)*7 % 30)=true:=by unfold wH;simp;omega
 have h2:wH (i:Int)=true:=by unfold wH;simp;omega
 have h3:wH 0=true:=by decide
 rcases hk with rfl|rfl|rfl|rfl
 all_goals simp[opL,okOp,yf,h1,h2,h3]
structure LI (sn:Str) (k s:Int) (i:Nat) (ms:List Mt):Prop where
 tk:TLk k ms
 len:ms.length=min i 140
 tm: ∀m∈ms,∃j,j<i/\j<140/\m.1=tmL s j
theorem zvJ{s:Int}{j:Nat}(h:j<i)(hi:i<=140):tmL s j≠tmL s i:=by
 unfold tmL
 omega
theorem ztC{k s:Int}(h:LI sn k s i ms)(hi:i<=140):hasT ms (tmL s i)=false:=zir λm hm e=>by
 obtain⟨j,h1,_,h3⟩:=h.tm m hm
 exact zvJ h1 hi (h3.symm.trans e)
theorem zvK{s:Int}(hs:0<=s)(i:Nat):xE (tmL s i)=true:=wv.2 (by unfold tmL;omega)
theorem ztD(h0:rkF sn≠0){s:Int}(hs:0<=s)(h:LI sn (rkF sn) s i ms)(hi:i<=140):
 (i<140->zbz sn (rkF sn) ms (tmL s i) (opL (rkF sn) i)=0/\LI sn (rkF sn) s (i+1) (zag ms (tmL s i) (opL (rkF sn) i)))/\(i=140->zbz sn (rkF sn) ms (tmL s i) (opL (rkF sn) i)=4/\LI sn (rkF sn) s (i+1) ms):=by
 have hk:rkF sn=1\/rkF sn=2\/rkF sn=3\/rkF sn=4:=by
  have h1:=h.tk.kind.1
  have h2:rkF sn<=4:=h.tk.kind.2
  omega
 have ho:=ztB hk hi
 have hc:za8 sn (rkF sn) (opL (rkF sn) i) true=0:=by
  obtain⟨y,hy,hyk,_⟩:=zcr h0
  have hg:=zb0 h0
  have hf:=zlI h0
  unfold zaK txF at hg
  unfold txF at hf
  rw[hy,uu]at hg
  rw[hy]at hf
  simp only[Option.getD_some]at hg hf
  have hu:zqw (rkF sn) (opL (rkF sn) i).code=true:=by
   show zqw (rkF sn) 1=true
   rcases hk with h|h|h|h<;>rw[h]<;>decide
  unfold za8 ze9
  rw[uv ho,uv hu,hy]
  simp only
  rw[hyk,uv ho,uv (uo hg.1),zij ho,uv ⟨hg.2,hf⟩]
 have hh:=ztC h hi
 have ht:=zvK hs i
 have hlen:=h.len
 refine⟨λhlt=>?_,λhe=>?_⟩
 ·have ha:zbz sn (rkF sn) ms (tmL s i) (opL (rkF sn) i)=0:=by
   unfold zbz
   rw[uv hc,uv ht,hh,ur ub,ur ua]
  refine⟨ha,zba h.tk ha,?_,λm hm=>?_⟩
  ·unfold zag
   rw[zaM (zcy _ _)];omega
  ·simp only[zag,zbB,u7,uV]at hm
   rcases hm with h2|rfl|h2
   ·obtain⟨j,h3,h4,h5⟩:=h.tm m (u6 h2);exact⟨j,ua,h4,h5⟩
   ·exact⟨i,ua,hlt,rfl⟩
   ·obtain⟨j,h3,h4,h5⟩:=h.tm m (tE h2);exact⟨j,ua,h4,h5⟩
 ·subst he
  refine⟨?_,h.tk,ua,λm hm=>?_⟩
  ·unfold zbz
   rw[uv hc,uv ht,hh,ur ub,uv ua]
  ·obtain⟨j,h3,h4,h5⟩:=h.tm m hm;exact⟨j,ua,h4,h5⟩
theorem ztE(sn:Str){k:Int}(r:Int)(_:TLk k ms):zk Tryz.prog 19 [.one (.bx 0 0)] (tlC sn k r ms) (I ms.length) (tlC sn k r ms):=wD sn k r ms
theorem ztF(sn:Str){k:Int}(r:Int)(_:TLk k ms):zk Tryz.prog 18 [.one (.bx 0 0)] (tlC sn k r ms) (I r) (tlC sn k r ms):=wY sn k r ms
theorem ztG(sn:Str){k:Int}(r:Int)(t:Int)(o:OpT)(hk:TLk k ms)(hn:zbz sn k ms t o=0): ∃r2:Int,(0<=r2/\r2<=((zag ms t o).length:Int))/\
 zk Tryz.prog 17 [.one (.bx 0 0),I t,zm (opR o)] (tlC sn k r ms) (I 0) (tlX 3 4 sn k r2 (zag ms t o) (flO k [] (zag ms t o)) (ptO k (zag ms t o))):=⟨_,zgT _ _ _,zaI sn r t o hk hn⟩
set_option maxHeartbeats 2000000 in
theorem zoP{seed:Int}(hs0:0<=seed/\seed<=65535)(q:List Int)(hqb: ∀x∈q,0<=x/\x<=255)(hq:q.length<=6)(hs:sn.size<=100)(h0:rkF sn≠0):
 zk Tryz.prog 4 [Sr sn,Kk .u16 seed,pS (.sl 1 (q.map λx=>[PV.k (.int .u8 x)]))] [] (.bq true) []:=by
 have hK:=wL sn
 have hql:(q.map λx=>[PV.k (.int .u8 x)]).length=q.length:=uj _
 obtain⟨y,hy,hyk,hyb⟩:=zcr h0
 have hN:=zbW hy
 rw[hyk]at hN hyb
 replace hN:zk Tryz.prog 12 [Sr sn] [] (.tup [.one (.bx 0 0),I 0]) (tlC sn (rkF sn) 0 []):=hN
 refine gO T Tryz.func4 λC hC=>?_
 repeat' first|refine gG ?_|exact gD|(exfalso;have h2:=uo h;omega)|(exfalso;exact h0 (by simpa using h))|refine gB ?_ ?_<;>intro h|refine gC xA ?_|refine gC hK ?_|refine gPE ?_|refine gR hN (nm [120,121,122]) ?_
 refine zcs rfl 10 rfl (LeS.one (.nil 3):LeS _ (pS (xd []))) ?_
 clear hN hK
 refine zn (λq:Nat×List Mt×Int=>q.1<=141/\LI sn (rkF sn) seed q.1 q.2.1) (λz=>([(0,Sr sn),(1,Kk .u16 seed),(2,pS (.sl 1 (q.map λx=>[PV.k (.int .u8 x)]))),(7,.one (.bx 120 0)),(9,I (rkF sn)),(10,pS (xd z.2.1)),(51,I z.1)],tlU 120 121 122 sn (rkF sn) z.2.2 z.2.1 [])) (λq=>141 - q.1) hC
  (0,[],0) ⟨uA _,za9 hyb,rfl,λ_ h=>by cases h⟩ id gM ?_
 rintro⟨i,ms,r⟩ ⟨hi,hL⟩
 simp only at hi hL
 refine zr T hC true 200 rfl ?_
 refine zu rfl ?_ ?_<;>intro h
 ·have hlt:i<=140:=by have:=uo h;(try dsimp only at this);omega
  clear h
  have hw1:IntKind.i64.wrap ((i:Int)*50)=(i:Int)*50:=wrap64 ua
  have hw2:IntKind.i64.wrap seed=seed:=wrap64 ua
  have hw3:IntKind.i64.wrap ((i:Int)*50+seed)=(i:Int)*50+seed:=wrap64 ua
  have hw4:IntKind.i64.wrap ((i:Int)*7)=(i:Int)*7:=wrap64 ua
  have hr1:((i:Int)*7).tmod 30=((i*7 % 30:Nat):Int):=by rw[oy ua];omega
  have hr2:((i:Int)*50+seed).tmod 143=tmL seed i:=by rw[oy ua];rfl
  have hg:=zb0 h0
  have hR:=zef h0 hg hL.tk (tmL seed i) (opL (rkF sn) i)
  obtain⟨hA1,hA2⟩:=ztD h0 hs0.1 hL hlt
  have hk4:rkF sn=1\/rkF sn=2\/rkF sn=3\/rkF sn=4:=by
   have h1:=hL.tk.kind.1
   have h2:rkF sn<=4:=hL.tk.kind.2
   omega
  rcases hk4 with hk|hk|hk|hk
  case' inl=>
   have ho:opL 1 i=⟨1,[((i*7 % 30:Nat):Int),(i:Int)]⟩:=by unfold opL;rw[uv rfl]
   rw[hk]
   rw[hk]at hL hA1 hA2 hR
   rw[ho]at hA1 hA2 hR
   repeat' first|refine gG ?_|exact gD|refine gB ?_ ?_<;>intro h|(rw[hw1,hw2,hw3])|(refine zlg hC rfl rfl ub rfl rfl ?_)|(rw[hw4])
   rw[hr1,hr2]
   refine zqB T hC rfl rfl rfl rfl rfl rfl rfl rfl rfl rfl ?_
   repeat' first|refine gG ?_|exact gD|refine gB ?_ ?_<;>intro h|refine gT ?_
   refine gY T 101 [zR ((i*7 % 30:Nat):Int),zR (i:Int)] 8 ?_
   repeat' first|refine gG ?_|exact gD|refine gB ?_ ?_<;>intro h
   refine gZ 101 [(90,zm (zai (tmL seed i,⟨1,[((i*7 % 30:Nat):Int),(i:Int)]⟩)))] [(1013,[.p (ki 1),.p (zA [((i*7 % 30:Nat):Int),(i:Int)])])] ?_
  case' inr.inl=>
   have ho:opL 2 i=⟨1,[((i*7 % 30:Nat):Int)]⟩:=by unfold opL;rw[ur ub,uv rfl]
   rw[hk]
   rw[hk]at hL hA1 hA2 hR
   rw[ho]at hA1 hA2 hR
   repeat' first|refine gG ?_|exact gD|refine gB ?_ ?_<;>intro h|(rw[hw1,hw2,hw3])|(refine zlg hC rfl rfl ub rfl rfl ?_)|(rw[hw4])|refine gT ?_
   rw[hr1,hr2]
  case' inr.inr.inl=>
   have ho:opL 3 i=⟨1,[0,(i:Int)]⟩:=by unfold opL;rw[ur ub,ur ub,uv rfl]
   rw[hk]
   rw[hk]at hL hA1 hA2 hR
   rw[ho]at hA1 hA2 hR
   repeat' first|refine gG ?_|exact gD|refine gB ?_ ?_<;>intro h|(rw[hw1,hw2,hw3])|(refine zlg hC rfl rfl ub rfl rfl ?_)|(rw[hw4])
   rw[hr1,hr2]
   refine zqB T hC rfl rfl rfl rfl rfl rfl rfl rfl rfl rfl ?_
   repeat' first|refine gG ?_|exact gD|refine gB ?_ ?_<;>intro h|refine gT ?_
   refine gY T 101 [zR ((i*7 % 30:Nat):Int),zR (i:Int)] 8 ?_
   repeat' first|refine gG ?_|exact gD|refine gB ?_ ?_<;>intro h|refine jA T hC (rows:=[zR ((i*7 % 30:Nat):Int),zR (i:Int)]) rfl rfl rfl rfl ub ue rfl rfl ?_
   refine jN T hC 0 0 (rows:=[zR ((i*7 % 30:Nat):Int),zR (i:Int)]) (row:=zR ((i*7 % 30:Nat):Int)) (us:=[ki 0]) (rows':=[zR 0,zR (i:Int)]) rfl rfl rfl rfl rfl rfl ue rfl ub rfl rfl ?_
   repeat' first|refine gG ?_|exact gD|refine gB ?_ ?_<;>intro h
   refine gZ 101 [(90,zm (zai (tmL seed i,⟨1,[0,(i:Int)]⟩)))] [(1013,[.p (ki 1),.p (zA [0,(i:Int)])])] ?_
  case' inr.inr.inr=>
   have ho:opL 4 i=⟨1,[]⟩:=by unfold opL;rw[ur ub,ur ub,ur ub]
   rw[hk]
   rw[hk]at hL hA1 hA2 hR
   rw[ho]at hA1 hA2 hR
   repeat' first|refine gG ?_|exact gD|refine gB ?_ ?_<;>intro h|(rw[hw1,hw2,hw3])|(refine zlg hC rfl rfl ub rfl rfl ?_)|(rw[hw4])|refine gT ?_
   rw[hr2]
  all_goals
   rcases Nat.lt_or_eq_of_le hlt with hl|hl
   ·obtain⟨ha,hL2⟩:=hA1 hl
    obtain⟨r2,hb,hA⟩:=ztG sn r _ _ hL.tk ha
    rw[uv ha,ha]at hR
    have hlen2:=hL2.tk.len
    have hLn:=λr=>ztE sn r hL2.tk
    have hRp:=λr=>ztF sn r hL2.tk
    have hw: ∀x:Int,0<=x->x<=140->IntKind.i64.wrap (x+16)=x+16:=λx h1 h2=>wrap64 ua
    repeat' first|refine gG ?_|exact gD|(exfalso;revert h;decide)|(exfalso;rw[hw]at h;have h4:=uo h;omega;omega;omega)|refine gB ?_ ?_<;>intro h|refine gC hR ?_|refine gR hA (nm [120,121,122,123,124]) ?_|refine gR (hLn _) (nm [120,123,124]) ?_|refine gR (hRp _) (nm [120,123,124]) ?_|refine jk hC hR rfl rfl (yr.cons (LeS.refl _) (yr.cons (LeS.refl _) (yr.cons (LeS.agg (zdf.cons (LeV.refl _) (zdf.cons (LeV.refl _) (zdf.cons (LeV.nil 1) zdf.nil)))) yr.nil))) rfl rfl rfl ?_|refine zy hC hA (nm [120,121,122,123,124]) rfl rfl (yr.cons (LeS.refl _) (yr.cons (LeS.refl _) (yr.cons (LeS.agg (zdf.cons (LeV.refl _) (zdf.cons (LeV.nil 1) zdf.nil))) yr.nil))) rfl rfl rfl rfl rfl rfl rfl rfl ?_
    rw[yO (i:=i) ua]
    exact zf (i+1,zag ms (tmL seed i) _,r2) ⟨by simp only;omega,hL2⟩ (λi=>mvU 121 123 (mvU 122 124 i)) (by simp only;omega) ⟨rfl,⟨rfl,rfl,rfl,rfl,rfl,rfl,rfl,uh⟩,⟨rfl,rfl,rfl,uh⟩,rfl,λi hi=>(uR (mvU _ _) (zS ua hi)).trans (zS ua hi)⟩
   ·obtain⟨ha,hL2⟩:=hA2 hl
    have hA:=zgR sn r _ _ hL.tk (by rw[ha];decide)
    rw[ur (by rw[ha];decide),ha]at hR
    rw[ha]at hA
    repeat' first|refine gG ?_|exact gD|(exfalso;revert h;decide)|refine gB ?_ ?_<;>intro h|refine gC hR ?_|refine gR hA (nm [120,121,122]) ?_|refine jk hC hR rfl rfl (yr.cons (LeS.refl _) (yr.cons (LeS.refl _) (yr.cons (LeS.agg (zdf.cons (LeV.refl _) (zdf.cons (LeV.refl _) (zdf.cons (LeV.nil 1) zdf.nil)))) yr.nil))) rfl rfl rfl ?_|refine zy hC hA (nm [120,121,122]) rfl rfl (yr.cons (LeS.refl _) (yr.cons (LeS.refl _) (yr.cons (LeS.agg (zdf.cons (LeV.refl _) (zdf.cons (LeV.nil 1) zdf.nil))) yr.nil))) rfl rfl rfl rfl rfl rfl rfl rfl ?_
    rw[yO (i:=i) ua]
    exact zf (i+1,ms,r) ⟨by simp only;omega,hL2⟩ id (by simp only;omega) gM
 ·have hge:i=141:=by have:=uq h;(try dsimp only at this);omega
  clear h
  subst hge
  have hlen:ms.length=140:=by rw[hL.len];rfl
  have hCk:=λr=>vn sn r hL.tk
  have hDn:=wM hL.tk
  have hAg:=λr=>zio hL.tk r
  have hLn:=λr=>wD sn (rkF sn) r ms
  generalize zbA ms (ms.length / 16)=C1 at*
  repeat' first|refine gG ?_|exact gD|refine gB ?_ ?_<;>intro h|refine zj ?_
  refine zn (λp:Nat×Int=>p.1<=q.length) (λz=>([(0,Sr sn),(7,.one (.bx 120 0)),(9,I (rkF sn)),(10,pS (xd ms)),(114,pS (.sl 1 (q.map λx=>[PV.k (.int .u8 x)]))),(115,I q.length),(116,I z.1)],tlU 120 121 122 sn (rkF sn) z.2 ms [])) (λp=>q.length - p.1) hC
   (0,r) (uA _) id ⟨rfl,⟨rfl,rfl,rfl,rfl,rfl,by rw[<-hql];rfl,rfl,uh⟩,⟨rfl,rfl,rfl,uh⟩,rfl,λ_ _=>rfl⟩ ?_
  rintro⟨j,r⟩ hj
  simp only at hj
  refine zr T hC true 200 rfl ?_
  refine zu rfl ?_ ?_<;>intro h
  ·have hlt:j<q.length:=by have:=uo h;(try dsimp only at this);omega
   clear h
   obtain⟨v,hv⟩:=ze hlt
   have hvb:=hqb v (List.mem_of_getElem? hv)
   have ht:xE v=true:=wv.2 ua
   have hA:=zec sn r v hL.tk ht
   have hRs:=zcu hL.tk v
   have hSm:=zei (rkF sn) (rkF sn) (stA (rkF sn) ms v) (stA (rkF sn) ms v)
   simp only[oC,UN]at hSm
   have hb:=zlF (zct ms v) (vo (rkF sn) ms)
   generalize zdh (zah ms v) (zah ms v) (ptO (rkF sn) ms).length=r2 at*
   have hRp:=λr=>wY sn (rkF sn) r ms
   have hw:IntKind.i64.wrap v=v:=wrap64 ua
   repeat' first|refine gG ?_|exact gD|(exfalso;revert h;decide)|(exfalso;have h4:=uo h;omega)|refine gB ?_ ?_<;>intro h|refine gI T (zg hv) ?_|(rw[hw])|refine gR hA (nm [120,121,122]) ?_|refine gR (hRp _) (nm [120,121,122]) ?_|refine gC hRs ?_|refine gC hSm ?_
   rw[yO (i:=j) ua]
   exact zf (j+1,r2) hlt id (by simp only;omega) gM
  ·clear h
   have hne: ∀ {p:Prop},decide ((ms.length:Int)=140)=false->p:=λh=>absurd (uq h) ua
   repeat' first|refine gG ?_|exact gD|(exact hne h)|refine gB ?_ ?_<;>intro h|refine zj ?_|refine gR (hLn _) (nm [120,121,122]) ?_|refine gR (hCk _) (nm [120,121,122]) ?_|refine gC hDn ?_|refine gR (hAg _) (nm [120,121,122]) ?_
   exact gF
theorem zej(sn:Str)(seed:Int)(q:List Int)(hb:6<q.length\/100<sn.size\/rkF sn=0):
 zk Tryz.prog 4 [Sr sn,Kk .u16 seed,pS (.sl 1 (q.map λx=>[PV.k (.int .u8 x)]))] [] (.bq true) []:=by
 have hK:=wL sn
 have hql:(q.map λx=>[PV.k (.int .u8 x)]).length=q.length:=uj _
 refine gO T Tryz.func4 λC hC=>?_
 rcases hb with hb|hb|hb
 ·repeat' first|refine gG ?_|exact gD|(exfalso;have h2:=uq h;rw[hql]at h2;omega)|refine gB ?_ ?_<;>intro h|refine gC xA ?_|refine gC hK ?_
  all_goals exact gF
 ·repeat' first|refine gG ?_|exact gD|(exfalso;have h2:=uq h;omega)|refine gB ?_ ?_<;>intro h|refine gC xA ?_|refine gC hK ?_
  all_goals exact gF
 ·rw[hb]at hK
  repeat' first|refine gG ?_|exact gD|refine gB ?_ ?_<;>intro h|refine gC xA ?_|refine gC hK ?_
  all_goals exact gF
theorem zbN(sn:Str)(seed:Int)(q:List Int)(hs0:0<=seed/\seed<=65535)(hqb: ∀x∈q,0<=x/\x<=255):
 zk Tryz.prog 4 [Sr sn,Kk .u16 seed,pS (.sl 1 (q.map λx=>[PV.k (.int .u8 x)]))] [] (.bq true) []:=by
 by_cases hq:q.length<=6
 rotate_left
 ·exact zej sn seed q (.inl ua)
 by_cases hs:sn.size<=100
 rotate_left
 ·exact zej sn seed q (.inr (.inl ua))
 by_cases hk:rkF sn=0
 ·exact zej sn seed q (.inr (.inr hk))
 exact zoP hs0 q hqb hq hs hk
abbrev U16:Type:={n:Int // 0<=n/\n<=65535}
theorem zwv{b:Int}(hw:(Lit.int .u16 b).wf=true):0<=b/\b<=65535:=by
 simp[Lit.wf,IntKind.min,IntKind.max,IntKind.bits,IntKind.signed]at hw
 omega
def byR(c:UInt8):List PV:=[.k (.int .u8 c.toNat)]
theorem zjP(sn:Str)(seed:U16)(q:List UInt8):zk Tryz.prog 4 [Sr sn,.one (.p (.k (.int .u16 seed.1))),pS (.sl 1 (q.map byR))] [] (.bq true) []:=by
 have:=zbN sn seed.1 (q.map λc=>(c.toNat:Int)) seed.2 λx hx=>by
  obtain⟨c,_,rfl⟩:=ql.1 hx
  have:=c.toNat_lt
  omega
 rw[oi]at this
 exact this
end Hw.Fr
namespace Hw.Fr.Md
open Go Go.Proofs Hw.M
section
variable {H:Type} {enc:TypeId×Value->H} {w:World} {base:Nat} {spare:Nat->Bool} {held:Bool}
theorem zrx(n:Nat):Rd enc Tryz.prog w base spare held n 31 (λl:List Int=>[zA l]):=
 zoQ (e:=3) (c:=1) (R:=zR) ud ud ub λm _=>zis ud
theorem zvL(n:Nat):Rd enc Tryz.prog w base spare held n 33 opR:=by
 intro cs x h
 obtain⟨m,rfl,c0,r0,x0,rfl,h0,c1,r1,x1,rfl,h1,rfl⟩:=zcz (l:=[(3,1),(31,1)]) ud h
 obtain⟨a0,k0⟩:=zis ud c0 x0 h0
 obtain⟨a1,k1⟩:=zrx m c1 x1 h1
 refine⟨⟨a0,a1⟩,?_⟩
 exact(k0.app (k1.app (show CellsM (jB w) [] [] from trivial)))
end
end Hw.Fr.Md
namespace Hw.Fr
open Go Go.Proofs Hw.M Md
section
variable {H:Type} {enc:TypeId×Value->H} {w:World} {base:Nat} {spare:Nat->Bool} {held:Bool}
theorem zww(n:Nat):Rd enc Tryz.prog w base spare held n 35 zeh:=by
 intro cs x h
 obtain⟨m,rfl,c0,r0,x0,rfl,h0,c1,r1,x1,rfl,h1,c2,r2,x2,rfl,h2,rfl⟩:=zcz (l:=[(3,1),(3,1),(33,2)]) ud h
 obtain⟨a0,k0⟩:=zis ud c0 x0 h0
 obtain⟨a1,k1⟩:=zis ud c1 x1 h1
 obtain⟨a2,k2⟩:=Md.zvL m c2 x2 h2
 refine⟨⟨a0,a1,a2⟩,?_⟩
 exact(k0.app (k1.app (k2.app (show CellsM (jB w) [] [] from trivial))))
end
end Hw.Fr
namespace Hw
open Go Go.Proofs
theorem zte{P:Program}{W:World}{name nm:String}{d:DataW Unit}{rest:List (String×DataW Unit)}{g:Nat}{t:TypeId}{ms:Array (String×TypeId)}
 (hg:P.globalNamed name=some g) (hty:(P.globals[g]?).map (·.type)=some t) (ht:P.underlying t=some (.interface ms)) (h:laidMet P ((name,.iface nm d)::rest) W): ∃u v,jB W g 0=some (.iface u v):=by
 obtain⟨ps,⟨g',t',cs,fuel,p,q,hg',ht',hvar,hd,_,_⟩,_⟩:=h
 obtain rfl:=uy (hg.symm.trans hg')
 obtain rfl:=uy (hty.symm.trans ht')
 have hc:=World.var?_cell hg hvar 0
 unfold jB
 rw[hc]
 cases fuel with
 |zero=>simp[DataW.trod]at hd
 |succ fuel=>
  rw[<-om]
  generalize cs.toList=l at hd
  match l,hd with
  | [],hd=>simp[DataW.trod,ht]at hd
  |v::w::r,hd=>simp[DataW.trod,ht]at hd
  | [v],hd=>
    cases v with
    |iface u x=>exact⟨u,x,rfl⟩
    |_=>simp[DataW.trod,ht]at hd
end Hw
