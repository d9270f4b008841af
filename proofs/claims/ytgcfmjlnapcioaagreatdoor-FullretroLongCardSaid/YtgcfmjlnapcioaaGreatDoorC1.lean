import Derived.Test.YtgcfmjlnapcioaaGreatDoorE3
import Derived.Laws.IdiomCopy
import Derived.Laws.IdiomStrings
import Derived.Laws.Slices
import Derived.Below
import Derived.Laws.StructEq
import Derived.Laws.Strings3
import Derived.Laws.DeepStrings4
import Derived.KernelRfl
import Derived.Test.YtgcfmjlnapcioaaGreatDoorProg
import Derived.Test.YtgcfmjlnapcioaaGreatDoorE2
import Derived.Shelf.Strings.Fields
set_option linter.unusedVariables false
set_option linter.unusedSimpArgs false
namespace Hw
open Go
theorem ye(b:Nat)(t:TypeId)(fz:Nat×Nat): ∀(vs:List Value) (o:Nat) (cur:Array Value) (w:World),w.heap[b]?=some (.cells cur t fz)->o+vs.length<=cur.size->w.setCells b o vs=w.setRow b (setAt cur.toList o vs).toArray
 | [],o,cur,w,hg,_=>by
   simp only[setAt,World.setCells,qo,qt,uN,tv,oz]
   exact(setRow_self w b cur t fz hg).symm
 |v::rest,o,cur,w,hg,hl=>by
  simp only[uI]at hl
  have ih:=ye b t fz rest (o+1) (cur.setIfInBounds o v) (w.setRow b (cur.setIfInBounds o v)) (setRow_heap w b cur _ t _ hg) ug
  rw[World.setCells,setCell_eq_setRow w b o cur t fz v hg,ih,setRow_setRow]
  congr 2
  have e:=list_seg_step cur.toList o v rest ug
  simpa [setAt,ow,th]using e
variable {M:Mem}
theorem zle{g:Nat->Option Value}{l:List (List PV)}{vs:List Value}{o:Nat}(hl: ∀r∈l,r.length=1)(hr:RepVs M (λ_=>undef) (l.flatten.map V.p) vs)(h: ∀j c,vs[j]?=some c->g (o+j)=some c):RowsIn M g 1 l o:=
 RowsIn.yx (ρ:=λ_=>undef) hl hr h
variable {R:RL}{el:TypeId}{rows:List (List PV)}{w:World}{ρ:Nat->Value}
theorem zlf{w':World}{r0:Res}{e:Nat}{B o cap:Nat}{cs:Array Value}{fz:Nat×Nat}(hR:tg (tb R) 0=some r0)(hT:ji M ρ w (tb R))(hI:Imm M w)(hid:2∉R.ids)
 (hB:w'.heap[B]?=some (.cells cs el fz)) (hU:xy fz cs.size) (hc:o+cap*e<=cs.size) (hn:rows.length<=cap) (hm:cap<=9223372036854775807) (hrows:RowsIn M (λi=>cs[i]?) e rows o)
 (hown:w.heap.size<=B\/Bk (ρ 0) B) (hold: ∀k,k<w.heap.size-> ¬Bk (ρ 0) k->w'.heap[k]?=w.heap[k]?) (hs:w.heap.size<=w'.heap.size) (h1:w'.os=w.os) (h2:w'.tape=w.tape) (h3:w'.output=w.output):
 Ret M ρ w R (.one (.ar 2)) [(2,.arr e rows)] (.slice (some ⟨B,o,none⟩) rows.length cap) M (upd ρ 2 (.slice (some ⟨B,o,none⟩) rows.length cap)) w':=by
 have hMB: ∀q,M B q=none:=λq=>by
  rcases hown with h|h
  ·cases hm':M B q with
   |none=>rfl
   |some u=>have:=xN (hI B q u hm');omega
  ·exact hT.own 0 _ B hR h q
 have only: ∀i r,tg (tb [(2,Res.arr e rows)]) i=some r->i=2/\r= .arr e rows:=λi r hi=>by
  simp only[tb,zX]at hi
  split at hi
  ·rename_i e';exact⟨e'.symm,(uy hi).symm⟩
  ·cases hi
 refine⟨by simp only[RepS,RepV];exact⟨(zw _ _ _).symm,rfl⟩,⟨λi r hi=>?_,λi j ri rj b hi hj hne _ _=>?_,λi r b hi hb q=>?_⟩,λb q v hv=>?_,MLe.refl M,λb q u hu=> .inl hu,λb hb=>?_,λb hb hn=>?_,hs,h1,h2,h3,λid hid'=>?_⟩
 ·obtain⟨rfl,rfl⟩:=only i r hi
  exact⟨some ⟨B,o,none⟩,cap,zw _ _ _,hn,hm,.inr ⟨B,o,cs,el,fz,rfl,hB,hU,hc,hrows⟩⟩
 ·obtain⟨rfl,_⟩:=only i ri hi
  obtain⟨rfl,_⟩:=only j rj hj
  exact hne rfl
 ·obtain⟨rfl,_⟩:=only i r hi
  rw[zw]at hb
  simp only[Bk,blk,um]at hb;subst hb;exact hMB q
 ·have hbl:=xN (hI b q v hv)
  have hne: ¬Bk (ρ 0) b:=λh=>by rw[hT.own 0 _ b hR h q]at hv;cases hv
  rw[cell_of_heap (hold b hbl hne)];exact hI b q v hv
 ·obtain⟨i,r,hi,hb⟩:=hb
  obtain⟨rfl,_⟩:=only i r hi
  rw[zw]at hb
  simp only[Bk,blk,um]at hb;subst hb
  exact hown.imp id λh=>⟨0,r0,hR,h⟩
 ·exact hold b hb λh=>hn ⟨0,r0,hR,h⟩
 ·exact zL λh=>hid (h ▸ hid')
variable {P:Program}{af:Array Edge}{d:Option Nat}{g:Option (Nat×Bool)}{id:Nat}{ps:String}{t t':TypeId}{us z:List V}{x y:Operand}
section
variable {ty:TypeId}
theorem zti{k:IntKind}{n m:Int}(h0:m≠0)(hx:okc x (Kk k n))(hy:okc y (Kk k m)):
 Snd P ⟨d,.binOp .rem t x y t',ty,ps,af,g⟩ (rq x (Kk k n)++rq y (Kk k m)) [] [] (Kk k (n.tmod m)) []:=
 zgB hx hy rfl λw=>⟨rfl,by rw[binOp_rem];simp[Op.intDiv,h0]⟩
theorem ztj{k:IntKind}{n m:Int}(h0:m≠0)(hx:okc x (Kk k n))(hy:okc y (Kk k m)):
 Snd P ⟨d,.binOp .quo t x y t',ty,ps,af,g⟩ (rq x (Kk k n)++rq y (Kk k m)) [] [] (Kk k (k.wrap (n.tdiv m))) []:=
 zgB hx hy rfl λw=>⟨rfl,by rw[binOp_quo];simp[Op.intDiv,h0]⟩
theorem zov{e:Nat}{s:S}(hx:okc x s)(hc:cellsOf s=some us)(hrl:us.length=e)(hm:mentVs id us=false)
 (he:elemSz P t=some (el,e)) (hz:zeroV P el=some z) (he0:0<e) (heb:e<=16777216):
 Snd P ⟨d,.buildSlice t 1 #[(0,x)],ty,ps,af,g⟩ (rq x s) [] [id] (.one (.bs id 0 1)) [(id,some (.box us))]:=by
 intro C st M ρ a w hH h1 hT hF hd k Q hk
 have e':=yE hc (hH.evS (zI hx h1))
 obtain⟨ii,hu,hinf,hsz⟩:=zB he
 obtain⟨i',zv,hi',hzv,hzs⟩:=wm hz
 rw[hinf]at hi';simp only[um]at hi';subst hi'
 have hcl:(a.eval x).cells.size=e:=by have:=e'.length;simp at this;omega
 have hfill: ∀cur:Array Value,cur.size=e->Instr.fill (λi=>some (i*e,e)) cur [(0,a.eval x)]=some (a.eval x).cells:=λcur hcur=>by
  simp only[Instr.fill]
  have hcond: ¬((a.eval x).cells.size≠e||0*e+(a.eval x).cells.size>cur.size)=true:=by
   simp only[ne_eq,tM,ux];omega
  have hfold:=wW cur (0*e) (a.eval x).cells.toList 0 cur ug
  have hfold':(a.eval x).cells.zipIdx.foldl (λcs (p:Value×Nat)=>cs.setIfInBounds (0*e+p.2) p.1) cur=(setAt cur.toList (0*e) (a.eval x).cells.toList).toArray:=by
   rw[<-oF]
   simpa using hfold
  rw[ur hcond,hfold']
  congr 1
  unfold setAt
  have:cur.toList.drop (0*e+(a.eval x).cells.toList.length)=[]:=by apply tf;simp;omega
  rw[this];simp
 have hrun:(execOp a.eval ⟨d,.buildSlice t 1 #[(0,x)],ty,ps,af,g⟩).run P w= .ok (.value (.slice (some ⟨w.heap.size,0,none⟩) 1 1)) (w.alloc (.cells (a.eval x).cells el)):=by
  have hn: ¬16777216<e:=by omega
  have h0: ¬e=0:=by omega
  have hf:=hfill ((Array.range (1*e)).map λx=>zv.cells[x % zv.cells.size]!) ue
  have hzrun:(zeroValue el).run P w= .ok zv w:=by simp[zeroValue,typeInfo,hinf,hzv]
  simp[execOp,Instr.buildSlice,run_underlying hu,run_sizeOf hinf,hsz,hn,h0,newRow,hzrun]at hf⊢
  simp[hf]
 unfold Oper.wp
 rw[hrun,Oper.upon_value]
 refine hk _ _ M _ (hH.alloc (val:= .pointer (some ⟨w.heap.size,0,none⟩)) (λb hb=>by simp only[Bk,blk,um]at hb;exact hb.symm) hF.1
  ⟨w.heap.size,(a.eval x).cells.toList,el,zw _ _ _,by simpa using zP w _,RepVs.agree (yZ ρ id _) _ _ (λi hi=>by subst hi;exact hm) e'⟩
  (by simp only[RepS,RepV];exact⟨w.heap.size,1,zw _ _ _,rfl,uG 1⟩) hd)
end
variable {C:Ctx}{Q:Exit->St->Prop}{cur:Cur}{g0:Option (Nat×Bool)}{gs:zl}{k0:IntKind}{md:Mode}{rest:List Oper}{tab:Tab}
section
variable {k:List Frm} {n:Nat} {sl:zl} {all:Array Oper}
theorem zlg{d:Nat}{ty:TypeId}(hC:C.low){a m:Int}
 (hx:ev sl x=some (Kk k0 a)) (hy:ev sl y=some (Kk k0 m)) (h0:m≠0) (hm:metL all sl g0=some gs) (hd:Nat.blt d n=true)
 (g:Goal P C (.ops all rest (nx md ⟨some d,gs++(rq x (Kk k0 a)++rq y (Kk k0 m)),[],[],Kk k0 (a.tmod m),[]⟩)) k n ((d,Kk k0 (a.tmod m))::sl) tab Q):
 Goal P C (.ops all (⟨some d,.binOp .rem t x y t',ty,ps,af,g0⟩::rest) md) k n sl tab Q:=by
 have e1:=zQ (st:=⟨n,sl,tab⟩) hx
 have e2:=zQ (st:=⟨n,sl,tab⟩) hy
 have:=zp hm (zti (P:=P) (ty:=ty) (ps:=ps) (af:=af) (g:=g0) (d:=some d) (t:=t) (t':=t') h0 e1.1 e2.1) (n:=n) (tab:=tab)
 exact yk (L:=⟨some d,gs++(rq x (Kk k0 a)++rq y (Kk k0 m)),[],[],Kk k0 (a.tmod m),[]⟩) hC this.1 rfl ⟨by rw[zd,zd];exact⟨this.2,e1.2,e2.2⟩,trivial,rfl,hd⟩ g
theorem zlh{d:Nat}{ty:TypeId}(hC:C.low){a m:Int}
 (hx:ev sl x=some (Kk k0 a)) (hy:ev sl y=some (Kk k0 m)) (h0:m≠0) (hm:metL all sl g0=some gs) (hd:Nat.blt d n=true)
 (g:Goal P C (.ops all rest (nx md ⟨some d,gs++(rq x (Kk k0 a)++rq y (Kk k0 m)),[],[],Kk k0 (k0.wrap (a.tdiv m)),[]⟩)) k n ((d,Kk k0 (k0.wrap (a.tdiv m)))::sl) tab Q):
 Goal P C (.ops all (⟨some d,.binOp .quo t x y t',ty,ps,af,g0⟩::rest) md) k n sl tab Q:=by
 have e1:=zQ (st:=⟨n,sl,tab⟩) hx
 have e2:=zQ (st:=⟨n,sl,tab⟩) hy
 have:=zp hm (ztj (P:=P) (ty:=ty) (ps:=ps) (af:=af) (g:=g0) (d:=some d) (t:=t) (t':=t') h0 e1.1 e2.1) (n:=n) (tab:=tab)
 exact yk (L:=⟨some d,gs++(rq x (Kk k0 a)++rq y (Kk k0 m)),[],[],Kk k0 (k0.wrap (a.tdiv m)),[]⟩) hC this.1 rfl ⟨by rw[zd,zd];exact⟨this.2,e1.2,e2.2⟩,trivial,rfl,hd⟩ g
theorem zh8(T:Ty P){d:Nat}{ty:TypeId}(hC:C.low){e:Nat}{s:S}
 (hx:ev sl x=some s) (hc:cellsOf s=some us) (hrl:us.length=e) (hmu:mentVs (1000+d) us=false) (he:T.es t=some (el,e)) (hz:T.zs el=some z) (he0:Nat.blt 0 e=true) (heb:Nat.ble e 16777216=true)
 (hm:metL all sl g0=some gs) (hd:Nat.blt d n=true) (hf:(Nat.ble 100 (1000+d)&&freshB (1000+d) ⟨n,sl,tab⟩)=true)
 (g:Goal P C (.ops all rest (nx md ⟨some d,gs++rq x s,[],[1000+d],.one (.bs (1000+d) 0 1),[(1000+d,some (.box us))]⟩)) k n ((d,.one (.bs (1000+d) 0 1))::sl) ((1000+d,some (.box us))::tab) Q):
 Goal P C (.ops all (⟨some d,.buildSlice t 1 #[(0,x)],ty,ps,af,g0⟩::rest) md) k n sl tab Q:=by
 have e1:=zQ (st:=⟨n,sl,tab⟩) hx
 have:=zp hm (zov (P:=P) (ty:=ty) (ps:=ps) (af:=af) (g:=g0) (d:=some d) (id:=1000+d) e1.1 hc hrl hmu (T.es_ok _ _ he) (T.zs_ok _ _ hz) (by simpa [o8]using he0) (tz heb)) (n:=n) (tab:=tab)
 exact yk (L:=⟨some d,gs++rq x s,[],[1000+d],.one (.bs (1000+d) 0 1),[(1000+d,some (.box us))]⟩) hC this.1 rfl ⟨by rw[zd];exact⟨this.2,e1.2⟩,trivial,zcf hf,hd⟩ g
end
theorem jL(a b:ByteArray):(a++b).size=a.size+b.size:=ByteArray.size_append
variable {f:FuncId}
theorem zvp{a v:Value}(hc:zad P f)(h: ∀w:World,Calls P f #[a] w λe w'=>e= .returned v/\w'=w)(h1:v.oneCell'=true):zk P f [.one (.p (.k a))] [] (.one (.p (.k v))) []:=by
 refine⟨hc,λM ρ w xs hx _ hI _=>?_⟩
 match xs,hx with
 | [x],hx=>
   simp only[RepSs,RepS,RepV,RepPV]at hx
   obtain⟨⟨rfl,_⟩,_⟩:=hx
   refine(h w).mono λe w' ⟨he,hw⟩=>?_
   subst hw
   refine⟨v,M,ρ,he,by simp only[RepS,RepV,RepPV];exact⟨uh,h1⟩,⟨λ_ _ h=>(by cases h),λ_ _ _ _ _ h=>(by cases h),λ_ _ _ h=>(by cases h)⟩,hI,MLe.refl M,λb o u hu=> .inl hu,λb hb=>?_,λb _ _=>rfl,uG _,rfl,rfl,rfl,λid hid=>rfl⟩
   obtain⟨i,r,h,_⟩:=hb;cases h
 | [],hx=>simp[RepSs]at hx
 |_::_::_,hx=>simp[RepSs]at hx
def GOw(w:World):Prop:=GOn w/\(∀b∈G1,∃m:Int,w.cell? ⟨b,0,none⟩=some (.int .i64 m))/\ ∀p∈G2,∃el fz,w.heap[p.1]?=some (.cells p.2 el fz)
theorem zeZ(hI:Imm M w)(hG:GOk M w):GOw w:=⟨λb o u hu=>hI b o u (hG.le b o u hu),λb hb=>let ⟨m,hm⟩:=hG.op b hb;⟨m,hI _ _ _ hm⟩,hG.gb⟩
theorem zcg{M:Mem}{ρ:Nat->Value}: ∀ {av xs:List Value},RepSs M ρ (av.map λa=> .one (.p (.k a))) xs->xs=av
 | [],[],_=>rfl
 | [],_::_,h=>by simp[RepSs]at h
 |_::_,[],h=>by simp[RepSs]at h
 |a::r,x::xs,h=>by
  simp only[tK,RepSs,RepS,RepV,RepPV]at h
  rw[h.1.1,zcg h.2]
variable {av:List Value}
theorem zh9{v:Value}(hc:zad P f)(h: ∀w:World,GOw w->Calls P f av.toArray w λe w'=>e= .returned v/\w'=w)(h1:v.oneCell'=true):
 zk P f (av.map λa=> .one (.p (.k a))) [] (.one (.p (.k v))) []:=by
 refine⟨hc,λM ρ w xs hx _ hI hG=>?_⟩
 obtain rfl:=zcg hx
 refine(h w (zeZ hI hG)).mono λe w' ⟨he,hw⟩=>?_
 subst hw
 refine⟨v,M,ρ,he,by simp only[RepS,RepV,RepPV];exact⟨uh,h1⟩,⟨λ_ _ h=>(by cases h),λ_ _ _ _ _ h=>(by cases h),λ_ _ _ h=>(by cases h)⟩,hI,MLe.refl M,λb o u hu=> .inl hu,λb hb=>?_,λb _ _=>rfl,uG _,rfl,rfl,rfl,λid hid=>rfl⟩
 obtain⟨i,r,h,_⟩:=hb;cases h
variable {res:S}
theorem zch{w':World}{v:Value}(hI:Imm M w)(hb:RowKit.Below w.heap.size w w')(hr:RepS M ρ res v):Ret M ρ w [] res [] v M ρ w':=
 ⟨hr,⟨λ_ _ h=>(by cases h),λ_ _ _ _ _ h=>(by cases h),λ_ _ _ h=>(by cases h)⟩,λb o u hu=>by rw[cell_of_heap (hb.block b (xN (hI b o u hu)))];exact hI b o u hu,MLe.refl M,λb o u hu=> .inl hu,
   λb ⟨_,_,h,_⟩=>(by cases h),λb h _=>hb.block b h,hb.size,hb.os,hb.tape,hb.output,λ_ _=>rfl⟩
theorem zli{v:Value}(hc:zad P f)(h: ∀w:World,GOw w->Calls P f av.toArray w λe w'=>e= .returned v/\RowKit.Below w.heap.size w w')(h1:v.oneCell'=true):
 zk P f (av.map λa=> .one (.p (.k a))) [] (.one (.p (.k v))) []:=by
 refine⟨hc,λM ρ w xs hx _ hI hG=>?_⟩
 obtain rfl:=zcg hx
 refine(h w (zeZ hI hG)).mono λe w' ⟨he,hw⟩=>?_
 exact⟨v,M,ρ,he,zch hI hw (by simp only[RepS,RepV,RepPV];exact⟨uh,h1⟩)⟩
variable {a:ByteArray}
section
variable {ty:TypeId}
theorem ztk{b:ByteArray}(hs:a.size+b.size<=9223372036854775807)(hx:okc x (Sr a))(hy:okc y (Sr b)):
 Snd P ⟨d,.binOp .add t x y t',ty,ps,af,g⟩ (rq x (Sr a)++rq y (Sr b)) [] [] (Sr (a++b)) []:=
 zgB hx hy rfl λw=>⟨rfl,by
  have hn: ¬(((a.size+b.size:Nat):Int)>IntKind.i64.max):=by
   have:IntKind.i64.max=9223372036854775807:=rfl
   rw[this];omega
  have e:binOp .add t (.string a) (.string b)=Op.stringOp .add a b:=rfl
  rw[e]
  simp only[Op.stringOp,ur hn,Sem.run_pure]⟩
theorem zae.bs{e id n:Nat}{tx el:TypeId}{rows:List (List PV)}{vs:List V}(h:elemSz P tx=some (el,e))(hv:vs.take (n*e)=rows.flatten.map V.p)(hl: ∀r∈rows,r.length=e)(hn:rows.length=n):zae P e tx (.one (.bs id 0 n)) [(id,.box vs)] rows:=by
 intro C st M ρ a w v hH hr hT
 obtain⟨_,hu,_,_⟩:=zB h
 simp only[RepS,RepV]at hr
 obtain⟨b,c,f1,rfl,_⟩:=hr
 obtain⟨b',cs,el',g1,g2,g3⟩:=hH.yh.res id _ hT.1
 rw[f1]at g1
 simp only[Value.pointer.injEq,um,Addr.mk.injEq]at g1
 obtain⟨rfl,_⟩:=g1
 have g4:=g3.take (n*e)
 rw[hv]at g4
 subst hn
 refine⟨cs.take (rows.length*e),Src.ofSlice w hu ⟨b,0,none⟩ rows.length c _ ?_ (λj u hj=>?_) g4.one,g4,hl⟩
 ·rw[g4.length,uj,List.length_flatten]
  have:(rows.map List.length)=List.replicate rows.length e:=by
   rw[List.eq_replicate_iff]
   exact⟨by rw[uj],λq hq=>by obtain⟨r,hr,rfl⟩:=ql.1 hq;exact hl r hr⟩
  rw[this,List.sum_replicate_nat]
 ·rw[yq,tI]
  rw[uZ]at hj
  split at hj
  ·simp[World.cell?,g2,hj]
  ·cases hj
end
section
variable {k:List Frm} {n:Nat} {sl:zl} {all:Array Oper}
theorem zvz{d:Nat}{ty:TypeId}(hC:C.low){b:ByteArray}
 (hx:ev sl x=some (Sr a)) (hy:ev sl y=some (Sr b)) (hs:a.size+b.size<=9223372036854775807) (hm:metL all sl g0=some gs) (hd:Nat.blt d n=true)
 (g:Goal P C (.ops all rest (nx md ⟨some d,gs++(rq x (Sr a)++rq y (Sr b)),[],[],Sr (a++b),[]⟩)) k n ((d,Sr (a++b))::sl) tab Q):
 Goal P C (.ops all (⟨some d,.binOp .add t x y t',ty,ps,af,g0⟩::rest) md) k n sl tab Q:=by
 have e1:=zQ (st:=⟨n,sl,tab⟩) hx
 have e2:=zQ (st:=⟨n,sl,tab⟩) hy
 have:=zp hm (ztk (P:=P) (ty:=ty) (ps:=ps) (af:=af) (g:=g0) (d:=some d) (t:=t) (t':=t') hs e1.1 e2.1) (n:=n) (tab:=tab)
 exact yk (L:=⟨some d,gs++(rq x (Sr a)++rq y (Sr b)),[],[],Sr (a++b),[]⟩) hC this.1 rfl ⟨by rw[zd,zd];exact⟨this.2,e1.2,e2.2⟩,trivial,rfl,hd⟩ g
end
variable {ss:List S}{vparts:List (Nat×List V)}{vs:List V}
section
variable {ty:TypeId}
theorem zow{l:List (Nat×Operand)}{zs:List V}{len e:Nat}
 (hx:zjH (l.map (·.2)) ss) (ht:P.underlying t=some (.array len el)) (he:(P.info? el).map (·.size)=some e) (hz:zeroV P t=some zs) (hv:zipParts (l.map (·.1)) ss=some vparts) (hf:fillV (λi=>some (i*e,e)) zs vparts=some vs):
 Snd P ⟨d,.build t l.toArray,ty,ps,af,g⟩ (rqs (l.map (·.2)) ss) [] [] (.agg vs) []:=
 zo λC st M ρ a w hH h1 _=>by
  have e:=hH.zlj (jv hx h1)
  obtain⟨h2,h3⟩:=vQ hv e
  obtain⟨zv,hz1,hz2,_⟩:=jM hz M ρ w
  have hzip:l.map (λp=>(p.1,a.eval p.2))=(l.map (·.1)).zip ((l.map (·.2)).map a.eval):=by
   rw[oi];simp[Up]
  obtain⟨out,h4,h5⟩:=zci _ vparts zs vs zv.cells hz2 h2 h3 hf
  obtain⟨ii,hinf,hsz⟩:=uH.1 he
  refine⟨.agg out,?_,by simp only[RepS];exact⟨out.toList,ue,h5⟩⟩
  simp only[execOp,Instr.build,Sem.run_bind,hz1,Result.andThen_ok,run_underlying ht,run_sizeOf hinf,hsz]
  have hl:(l.toArray.map λp=>(p.1,a.eval p.2)).toList=(l.map (·.1)).zip ((l.map (·.2)).map a.eval):=by simpa using hzip
  rw[hl,h4]
  rfl
end
section
variable {k:List Frm} {n:Nat} {sl:zl} {all:Array Oper}
theorem zox{d:Nat}{l:List (Nat×Operand)}{ty:TypeId}(hC:C.low){zs:List V}{len e:Nat}
 (hl:evs sl (l.map (·.2))=some ss) (ht:P.underlying t=some (.array len el)) (he:(P.info? el).map (·.size)=some e) (hz:zeroV P t=some zs) (hv:zipParts (l.map (·.1)) ss=some vparts) (hf:fillV (λi=>some (i*e,e)) zs vparts=some vs) (hm:metL all sl g0=some gs) (hd:Nat.blt d n=true)
 (g:Goal P C (.ops all rest (nx md ⟨some d,gs++rqs (l.map (·.2)) ss,[],[],.agg vs,[]⟩)) k n ((d,.agg vs)::sl) tab Q):
 Goal P C (.ops all (⟨some d,.build t l.toArray,ty,ps,af,g0⟩::rest) md) k n sl tab Q:=by
 have e2:=jw (st:=⟨n,sl,tab⟩) hl
 have:=zp hm (zow (ty:=ty) (ps:=ps) (af:=af) (g:=g0) (d:=some d) e2.1 ht he hz hv hf) (n:=n) (tab:=tab)
 exact yk (L:=⟨some d,gs++rqs (l.map (·.2)) ss,[],[],.agg vs,[]⟩) hC this.1 rfl ⟨by rw[zd];exact⟨this.2,e2.2⟩,trivial,rfl,hd⟩ g
end
section
variable {K:Type} [DecidableEq K] {ty:TypeId} {u:Operand} {kt et:TypeId}
end
section
variable {k:List Frm} {n:Nat} {sl:zl} {all:Array Oper}
end
section
variable {ty:TypeId}
end
section
variable {k:List Frm} {n:Nat} {sl:zl} {all:Array Oper}
end
mutual
inductive LP:PV->PV->Prop
 |refl (p:PV):LP p p
 |nil (e:Nat):LP (.k (.slice none 0 0)) (.sl e [])
 |sl {e:Nat} {rows rows':List (List PV)} (h:LRs rows rows'):LP (.sl e rows) (.sl e rows')
inductive LRs:List (List PV)->List (List PV)->Prop
 |nil:LRs [] []
 |cons {r r':List PV} {rs rs':List (List PV)} (h:LR r r') (hs:LRs rs rs'):LRs (r::rs) (r'::rs')
inductive LR:List PV->List PV->Prop
 |nil:LR [] []
 |cons {p p':PV} {ps ps':List PV} (h:LP p p') (hs:LR ps ps'):LR (p::ps) (p'::ps')
end
theorem LR.len{r r':List PV}:LR r r'->r'.length=r.length
 | .nil=>rfl
 | .cons _ hs=>by rw[uI,uI,LR.len hs]
theorem LRs.len{r r':List (List PV)}:LRs r r'->r'.length=r.length
 | .nil=>rfl
 | .cons _ hs=>by rw[uI,uI,LRs.len hs]
mutual
theorem LP.rep{M:Mem}{p q:PV}{v:Value}:LP p q->RepPV M p v->RepPV M q v
 | .refl _,h=>h
 | .nil e,h=>by
   simp only[RepPV]at h⊢
   exact⟨none,0,h.1,uG _,uA _,.inl trivial⟩
 | .sl hr,h=>by
   simp only[RepPV]at h⊢
   obtain⟨a,cap,h1,h2,h3,h4⟩:=h
   rw[hr.len]
   refine⟨a,cap,h1,h2,h3,?_⟩
   rcases h4 with h4|⟨b,o,h4,h5⟩
   ·left
    have:=hr.len
    rw[h4]at this
    exact uS.1 this
   ·exact .inr ⟨b,o,h4,LRs.rep hr h5⟩
theorem LRs.rep{M:Mem}{g:Nat->Option Value}{e o:Nat}{rows rows':List (List PV)}:LRs rows rows'->RowsIn M g e rows o->RowsIn M g e rows' o
 | .nil,h=>h
 | .cons hr hs,h=>by
   simp only[RowsIn]at h⊢
   exact⟨hr.len.trans h.1,LR.rep hr h.2.1,LRs.rep hs h.2.2⟩
theorem LR.rep{M:Mem}{g:Nat->Option Value}{o:Nat}{r r':List PV}:LR r r'->RowIn M g r o->RowIn M g r' o
 | .nil,h=>h
 | .cons hp hs,h=>by
   simp only[RowIn]at h⊢
   obtain⟨⟨c,c1,c2⟩,h2⟩:=h
   exact⟨⟨c,c1,LP.rep hp c2⟩,LR.rep hs h2⟩
end
section
variable {ty:TypeId}
end
section
variable {k:List Frm} {n:Nat} {sl:zl} {all:Array Oper}
end
inductive Sc where
 |i (k:IntKind) (n:Int)
 |s (b:ByteArray)
 deriving DecidableEq
def Sc.v:Sc->Value
 | .i k n=> .int k n
 | .s b=> .string b
inductive SK where
 |i (k:IntKind)
 |s
section
variable {ty:TypeId}
end
section
variable {k:List Frm} {n:Nat} {sl:zl} {all:Array Oper}
end
variable {j:Int}
section
section
variable {ty:TypeId}
theorem ztl{k:IntKind}(hx:okc x (Sr a))(hy:okc y (Kk k j))(ht:P.underlying t=some .string)(h0:0<=j)(h1:j<=a.size):
 Snd P ⟨d,.slice t x none (some y) none,ty,ps,af,g⟩ (rq x (Sr a)++rq y (Kk k j)) [] [] (Sr (a.extract 0 j.toNat)) []:=
 zo λC st M ρ b w hH hs _=>by
  rw[zd]at hs
  have e1:=hH.k (zI hx hs.1)
  have e2:=hH.k (zI hy hs.2)
  refine⟨.string (a.extract 0 j.toNat),?_,by simp only[RepS,RepV,RepPV];exact⟨uh,rfl⟩⟩
  simp only[execOp,e1,e2,qP,qh,Sem.run_bind,run_sliceAt_string w t _ _ _ _ ht,run_slice_string_to_if w t a k j ht,uv (⟨h0,h1⟩:0<=j/\j<=(a.size:Int)),Result.andThen_ok,Sem.run_pure]
theorem zoy{k:IntKind}(hx:okc x (Sr a))(hy:okc y (Kk k j))(ht:P.underlying t=some .string)(h0:0<=j)(h1:j<=a.size):
 Snd P ⟨d,.slice t x (some y) none none,ty,ps,af,g⟩ (rq x (Sr a)++rq y (Kk k j)) [] [] (Sr (a.extract j.toNat a.size)) []:=
 zo λC st M ρ b w hH hs _=>by
  rw[zd]at hs
  have e1:=hH.k (zI hx hs.1)
  have e2:=hH.k (zI hy hs.2)
  refine⟨.string (a.extract j.toNat a.size),?_,by simp only[RepS,RepV,RepPV];exact⟨uh,rfl⟩⟩
  simp only[execOp,e1,e2,qP,qh,Sem.run_bind,run_sliceAt_string w t _ _ _ _ ht,run_slice_string_from_if w t a k j ht,uv (⟨h0,h1⟩:0<=j/\j<=(a.size:Int)),Result.andThen_ok,Sem.run_pure]
end
variable {k:List Frm} {n:Nat} {sl:zl} {all:Array Oper}
theorem zlk{d:Nat}{ty:TypeId}(hC:C.low)
 (hx:ev sl x=some (Sr a)) (hy:ev sl y=some (Kk k0 j)) (ht:P.underlying t=some .string) (h0:0<=j) (h1:j<=a.size) (hm:metL all sl g0=some gs) (hd:Nat.blt d n=true)
 (g:Goal P C (.ops all rest (nx md ⟨some d,gs++(rq x (Sr a)++rq y (Kk k0 j)),[],[],Sr (a.extract 0 j.toNat),[]⟩)) k n ((d,Sr (a.extract 0 j.toNat))::sl) tab Q):
 Goal P C (.ops all (⟨some d,.slice t x none (some y) none,ty,ps,af,g0⟩::rest) md) k n sl tab Q:=by
 have e1:=zQ (st:=⟨n,sl,tab⟩) hx
 have e2:=zQ (st:=⟨n,sl,tab⟩) hy
 have:=zp hm (ztl (P:=P) (ty:=ty) (ps:=ps) (af:=af) (g:=g0) (d:=some d) (t:=t) e1.1 e2.1 ht h0 h1) (n:=n) (tab:=tab)
 exact yk (L:=⟨some d,gs++(rq x (Sr a)++rq y (Kk k0 j)),[],[],Sr (a.extract 0 j.toNat),[]⟩) hC this.1 rfl ⟨by rw[zd,zd];exact⟨this.2,e1.2,e2.2⟩,trivial,rfl,hd⟩ g
theorem zbR{d:Nat}{ty:TypeId}(hC:C.low)
 (hx:ev sl x=some (Sr a)) (hy:ev sl y=some (Kk k0 j)) (ht:P.underlying t=some .string) (h0:0<=j) (h1:j<=a.size) (hm:metL all sl g0=some gs) (hd:Nat.blt d n=true)
 (g:Goal P C (.ops all rest (nx md ⟨some d,gs++(rq x (Sr a)++rq y (Kk k0 j)),[],[],Sr (a.extract j.toNat a.size),[]⟩)) k n ((d,Sr (a.extract j.toNat a.size))::sl) tab Q):
 Goal P C (.ops all (⟨some d,.slice t x (some y) none none,ty,ps,af,g0⟩::rest) md) k n sl tab Q:=by
 have e1:=zQ (st:=⟨n,sl,tab⟩) hx
 have e2:=zQ (st:=⟨n,sl,tab⟩) hy
 have:=zp hm (zoy (P:=P) (ty:=ty) (ps:=ps) (af:=af) (g:=g0) (d:=some d) (t:=t) e1.1 e2.1 ht h0 h1) (n:=n) (tab:=tab)
 exact yk (L:=⟨some d,gs++(rq x (Sr a)++rq y (Kk k0 j)),[],[],Sr (a.extract j.toNat a.size),[]⟩) hC this.1 rfl ⟨by rw[zd,zd];exact⟨this.2,e1.2,e2.2⟩,trivial,rfl,hd⟩ g
end
section
section
variable {ty:TypeId}
end
variable {k:List Frm} {n:Nat} {sl:zl} {all:Array Oper}
end
variable {i:Int}{neg:Bool}
section
variable {ty:TypeId} {z:Operand}
theorem zri{k k':IntKind}(hx:okc x (Sr a))(hy:okc y (Kk k i))(hz:okc z (Kk k' j))(ht:P.underlying t=some .string)(h0:0<=i)(h1:i<=j)(h2:j<=a.size):
 Snd P ⟨d,.slice t x (some y) (some z) none,ty,ps,af,g⟩ (rq x (Sr a)++rq y (Kk k i)++rq z (Kk k' j)) [] [] (Sr (a.extract i.toNat j.toNat)) []:=
 zo λC st M ρ b w hH hs _=>by
  rw[zd,zd]at hs
  have e1:=hH.k (zI hx hs.1.1)
  have e2:=hH.k (zI hy hs.1.2)
  have e3:=hH.k (zI hz hs.2)
  refine⟨.string (a.extract i.toNat j.toNat),?_,by simp only[RepS,RepV,RepPV];exact⟨uh,rfl⟩⟩
  simp only[execOp,e1,e2,e3,qP,qh,Sem.run_bind,run_sliceAt_string w t _ _ _ _ ht,run_slice_string_if w t a k k' i j ht,uv (⟨ua,h2⟩:0<=j/\j<=(a.size:Int)),uv (⟨h0,h1⟩:0<=i/\i<=j),Result.andThen_ok,Sem.run_pure]
theorem zia{e:Nat}{a:Option Addr}{cap l h:Nat}(hr:RepV M ρ (.p (.sl e rows)) (.slice a rows.length cap))(h1:l<=h)(h2:h<=rows.length):RepV M ρ (.p (.sl e ((rows.take h).drop l))) (sliced a l h cap e):=by
 simp only[RepV,RepPV]at hr⊢
 obtain⟨a',cap',e1,e2,e3,e4⟩:=hr
 simp only[Value.slice.injEq]at e1
 obtain⟨rfl,_,rfl⟩:=e1
 have hl:((rows.take h).drop l).length=h - l:=by rw[uQ,uz];omega
 refine⟨if cap=l then a else a.map (·.add (l*e)),cap - l,by rw[hl];rfl,ua,ua,?_⟩
 rcases e4 with rfl|⟨b,o,rfl,e4⟩
 ·left
  simp at h2;subst h2
  simp
 ·by_cases hc:cap=l
  ·left
   exact uS.1 ua
  ·right
   rw[ur hc]
   exact⟨b,o+l*e,by simp[Addr.add],(e4.take h).drop l⟩
theorem zcj{e:Nat}(h:elemSz P t=some (el,e)):P.underlying t=some (.slice (P.elem t))/\ ∀w:World,(Go.sizeOf (P.elem t)).run P w= .ok e w:=by
 obtain⟨ii,hu,hinf,hsz⟩:=zB h
 have he:P.elem t=el:=by simp[Program.elem,hu]
 rw[he]
 exact⟨hu,λw=>by rw[run_sizeOf hinf,hsz]⟩
theorem zrj{e:Nat}{k':IntKind}(hx:okc x (.one (.p (.sl e rows))))(hz:okc z (Kk k' j))(he:elemSz P t=some (el,e))(h0:0<=j)(h2:j<=rows.length):
 Snd P ⟨d,.slice t x none (some z) none,ty,ps,af,g⟩ (rq x (.one (.p (.sl e rows)))++rq z (Kk k' j)) [] [] (.one (.p (.sl e (rows.take j.toNat)))) []:=
 zo λC st M ρ b w hH hs _=>by
  rw[zd]at hs
  have e1:=hH.evS (zI hx hs.1)
  have e3:=hH.k (zI hz hs.2)
  simp only[RepS]at e1
  have e1':=e1
  simp only[RepV,RepPV]at e1'
  obtain⟨a,cap,f1,f2,f3,_⟩:=e1'
  rw[f1]at e1
  obtain⟨hu,hsz⟩:=zcj he
  refine⟨sliced a 0 j.toNat cap e,?_,by simp only[RepS];have:=zia e1 (uA j.toNat) ua;simpa only[Uj]using this⟩
  simp only[execOp,f1,e3,qP,qh,Sem.run_bind,run_sliceAt_slice w t _ _ _ _ hu,run_slice_h w t a rows.length cap hu k' j h0 ua,hsz,Result.andThen_ok,Sem.run_pure]
theorem zrk{e:Nat}{k:IntKind}(hx:okc x (.one (.p (.sl e rows))))(hy:okc y (Kk k i))(he:elemSz P t=some (el,e))(h0:0<=i)(h2:i<=rows.length):
 Snd P ⟨d,.slice t x (some y) none none,ty,ps,af,g⟩ (rq x (.one (.p (.sl e rows)))++rq y (Kk k i)) [] [] (.one (.p (.sl e (rows.drop i.toNat)))) []:=
 zo λC st M ρ b w hH hs _=>by
  rw[zd]at hs
  have e1:=hH.evS (zI hx hs.1)
  have e2:=hH.k (zI hy hs.2)
  simp only[RepS]at e1
  have e1':=e1
  simp only[RepV,RepPV]at e1'
  obtain⟨a,cap,f1,f2,f3,_⟩:=e1'
  rw[f1]at e1
  obtain⟨hu,hsz⟩:=zcj he
  refine⟨sliced a i.toNat rows.length cap e,?_,by simp only[RepS];have:=zia e1 (l:=i.toNat) (h:=rows.length) ua (uG _);rwa [tW]at this⟩
  simp only[execOp,f1,e2,qP,qh,Sem.run_bind,run_sliceAt_slice w t _ _ _ _ hu,run_slice_l w t a rows.length cap hu k i h0 ua,hsz,Result.andThen_ok,Sem.run_pure]
theorem zoz{len:Nat}{k:IntKind}{v:V}(hx:okc x (.agg vs))(hy:okc y (Kk k i))(ht:P.underlying t=some (.array len el))(he:(P.info? el).map (·.size)=some 1)(hs:shp P el=some none)(h0:0<=i)(hi:i<len)(hv:vs[i.toNat]?=some v):
 Snd P ⟨d,.index t x y,ty,ps,af,g⟩ (rq x (.agg vs)++rq y (Kk k i)) [] [] (.one v) []:=
 zo λC st M ρ a w hH h1 _=>by
  rw[zd]at h1
  have e1:=hH.evS (zI hx h1.1)
  have e2:=hH.k (zI hy h1.2)
  simp only[RepS]at e1
  obtain⟨cs,e1,e3⟩:=e1
  obtain⟨ii,hinf,hsz⟩:=uH.1 he
  obtain⟨c,c1,c2⟩:=xz e3 hv
  refine⟨c,?_,by simp only[RepS];exact c2⟩
  simp only[execOp,e1,e2,Instr.index,asIntOf,Sem.run_bind,Sem.run_pure,Result.andThen_ok,run_underlying ht]
  rw[uv ⟨h0,hi⟩]
  simp[part,zaF hs,run_sizeOf hinf,hsz,c1]
def isIfc(P:Program)(t:TypeId):Bool:=match P.underlying t with
 |some (.interface _)=>true
 |_=>false
theorem zdr(h:isIfc P t=true): ∃ms,P.underlying t=some (.interface ms):=by
 unfold isIfc at h
 split at h
 ·rename_i ms e;exact⟨ms,e⟩
 ·cases h
theorem zvA(hx:okc x (.one (.ar id)))(ht:isIfc P t=true):
 Snd P ⟨d,.binOp (if neg=true then .neq else .eql) t x (.const .nilIface) t',ty,ps,af,g⟩ (rq x (.one (.ar id))) [(id,.ifc)] [] (Bo neg) []:=
 zo λC st M ρ a w hH h1 hT=>by
  obtain⟨ms,ht⟩:=zdr ht
  have e1:=hH.evS (zI hx h1)
  simp only[RepS,RepV]at e1
  obtain⟨te,pe,hv⟩:=hH.yh.res id _ hT.1
  rw[hv]at e1
  have h: ∀q:Nat,(Op.equalIn (q+1) t (.iface te pe) .nilIface).run P w= .ok false w:=λq=>by simp[Op.equalIn,run_underlying ht]
  have e0:a.eval (.const .nilIface)= .nilIface:=rfl
  refine⟨.bool neg,?_,zvB neg⟩
  cases neg with
  |true=>
   simp only[execOp,qx,e1.1,e0,Sem.run_bind]
   simp[eqGuard,binOp,Op.equal,Op.maxDepth,h 9999,Sem.run_pure]
  |false=>
   simp only[execOp,uU,tO,e1.1,e0,Sem.run_bind]
   simp[eqGuard,binOp,Op.equal,Op.maxDepth,h 9999,Sem.run_pure]
theorem zvC(hx:okc x (.one (.p (.k .nilIface))))(ht:isIfc P t=true):
 Snd P ⟨d,.binOp (if neg=true then .neq else .eql) t x (.const .nilIface) t',ty,ps,af,g⟩ (rq x (.one (.p (.k .nilIface)))) [] [] (Bo (!neg)) []:=
 zo λC st M ρ a w hH h1 hT=>by
  obtain⟨ms,ht⟩:=zdr ht
  have e1:=hH.evS (zI hx h1)
  simp only[RepS,RepV,RepPV]at e1
  have h: ∀q:Nat,(Op.equalIn (q+1) t .nilIface .nilIface).run P w= .ok true w:=λq=>by simp[Op.equalIn,run_underlying ht]
  have e0:a.eval (.const .nilIface)= .nilIface:=rfl
  refine⟨.bool (!neg),?_,zvB (!neg)⟩
  cases neg with
  |true=>
   simp only[execOp,qx,e1.1,e0,Sem.run_bind]
   simp[eqGuard,binOp,Op.equal,Op.maxDepth,h 9999,Sem.run_pure]
  |false=>
   simp only[execOp,uU,tO,e1.1,e0,Sem.run_bind]
   simp[eqGuard,binOp,Op.equal,Op.maxDepth,h 9999,Sem.run_pure]
end
section
variable {k:List Frm} {n:Nat} {sl:zl} {all:Array Oper}
theorem za6{d:Nat}{z:Operand}{ty:TypeId}(hC:C.low){k1:IntKind}
 (hx:ev sl x=some (Sr a)) (hy:ev sl y=some (Kk k0 i)) (hz:ev sl z=some (Kk k1 j)) (ht:P.underlying t=some .string) (h0:0<=i) (h1:i<=j) (h2:j<=a.size) (hm:metL all sl g0=some gs) (hd:Nat.blt d n=true)
 (g:Goal P C (.ops all rest (nx md ⟨some d,gs++(rq x (Sr a)++rq y (Kk k0 i)++rq z (Kk k1 j)),[],[],Sr (a.extract i.toNat j.toNat),[]⟩)) k n ((d,Sr (a.extract i.toNat j.toNat))::sl) tab Q):
 Goal P C (.ops all (⟨some d,.slice t x (some y) (some z) none,ty,ps,af,g0⟩::rest) md) k n sl tab Q:=by
 have e1:=zQ (st:=⟨n,sl,tab⟩) hx
 have e2:=zQ (st:=⟨n,sl,tab⟩) hy
 have e3:=zQ (st:=⟨n,sl,tab⟩) hz
 have:=zp hm (zri (P:=P) (ty:=ty) (ps:=ps) (af:=af) (g:=g0) (d:=some d) (t:=t) e1.1 e2.1 e3.1 ht h0 h1 h2) (n:=n) (tab:=tab)
 exact yk (L:=⟨some d,gs++(rq x (Sr a)++rq y (Kk k0 i)++rq z (Kk k1 j)),[],[],Sr (a.extract i.toNat j.toNat),[]⟩) hC this.1 rfl ⟨by rw[zd,zd,zd];exact⟨this.2,⟨e1.2,e2.2⟩,e3.2⟩,trivial,rfl,hd⟩ g
theorem zib{d:Nat}{ty:TypeId}(hC:C.low){len:Nat}{v:V}
 (hx:ev sl x=some (.agg vs)) (hy:ev sl y=some (Kk k0 i)) (ht:P.underlying t=some (.array len el)) (he:(P.info? el).map (·.size)=some 1) (hs:shp P el=some none) (h0:0<=i) (hi:i<len) (hv:vs[i.toNat]?=some v) (hm:metL all sl g0=some gs) (hd:Nat.blt d n=true)
 (g:Goal P C (.ops all rest (nx md ⟨some d,gs++(rq x (.agg vs)++rq y (Kk k0 i)),[],[],.one v,[]⟩)) k n ((d,.one v)::sl) tab Q):
 Goal P C (.ops all (⟨some d,.index t x y,ty,ps,af,g0⟩::rest) md) k n sl tab Q:=by
 have e1:=zQ (st:=⟨n,sl,tab⟩) hx
 have e2:=zQ (st:=⟨n,sl,tab⟩) hy
 have:=zp hm (zoz (P:=P) (ty:=ty) (ps:=ps) (af:=af) (g:=g0) (d:=some d) (t:=t) e1.1 e2.1 ht he hs h0 hi hv) (n:=n) (tab:=tab)
 exact yk (L:=⟨some d,gs++(rq x (.agg vs)++rq y (Kk k0 i)),[],[],.one v,[]⟩) hC this.1 rfl ⟨by rw[zd,zd];exact⟨this.2,e1.2,e2.2⟩,trivial,rfl,hd⟩ g
theorem jx(T:Ty P){d:Nat}{z:Operand}{ty:TypeId}(hC:C.low){e:Nat}(rows':List (List PV)){k1:IntKind}
 (hx:ev sl x=some (.one (.p (.sl e rows)))) (hz:ev sl z=some (Kk k1 j)) (he:T.es t=some (el,e)) (h0:0<=j) (h2:j<=rows.length) (hr:rows.take j.toNat=rows') (hm:metL all sl g0=some gs) (hd:Nat.blt d n=true)
 (g:Goal P C (.ops all rest (nx md ⟨some d,gs++(rq x (.one (.p (.sl e rows)))++rq z (Kk k1 j)),[],[],.one (.p (.sl e rows')),[]⟩)) k n ((d,.one (.p (.sl e rows')))::sl) tab Q):
 Goal P C (.ops all (⟨some d,.slice t x none (some z) none,ty,ps,af,g0⟩::rest) md) k n sl tab Q:=by
 subst hr
 have e1:=zQ (st:=⟨n,sl,tab⟩) hx
 have e3:=zQ (st:=⟨n,sl,tab⟩) hz
 have:=zp hm (zrj (P:=P) (ty:=ty) (ps:=ps) (af:=af) (g:=g0) (d:=some d) (t:=t) e1.1 e3.1 (T.es_ok _ _ he) h0 h2) (n:=n) (tab:=tab)
 exact yk (L:=⟨some d,gs++(rq x (.one (.p (.sl e rows)))++rq z (Kk k1 j)),[],[],.one (.p (.sl e (rows.take j.toNat))),[]⟩) hC this.1 rfl ⟨by rw[zd,zd];exact⟨this.2,e1.2,e3.2⟩,trivial,rfl,hd⟩ g
theorem zd4(T:Ty P){d:Nat}{ty:TypeId}(hC:C.low){e:Nat}(rows':List (List PV))
 (hx:ev sl x=some (.one (.p (.sl e rows)))) (hy:ev sl y=some (Kk k0 i)) (he:T.es t=some (el,e)) (h0:0<=i) (h2:i<=rows.length) (hr:rows.drop i.toNat=rows') (hm:metL all sl g0=some gs) (hd:Nat.blt d n=true)
 (g:Goal P C (.ops all rest (nx md ⟨some d,gs++(rq x (.one (.p (.sl e rows)))++rq y (Kk k0 i)),[],[],.one (.p (.sl e rows')),[]⟩)) k n ((d,.one (.p (.sl e rows')))::sl) tab Q):
 Goal P C (.ops all (⟨some d,.slice t x (some y) none none,ty,ps,af,g0⟩::rest) md) k n sl tab Q:=by
 subst hr
 have e1:=zQ (st:=⟨n,sl,tab⟩) hx
 have e2:=zQ (st:=⟨n,sl,tab⟩) hy
 have:=zp hm (zrk (P:=P) (ty:=ty) (ps:=ps) (af:=af) (g:=g0) (d:=some d) (t:=t) e1.1 e2.1 (T.es_ok _ _ he) h0 h2) (n:=n) (tab:=tab)
 exact yk (L:=⟨some d,gs++(rq x (.one (.p (.sl e rows)))++rq y (Kk k0 i)),[],[],.one (.p (.sl e (rows.drop i.toNat))),[]⟩) hC this.1 rfl ⟨by rw[zd,zd];exact⟨this.2,e1.2,e2.2⟩,trivial,rfl,hd⟩ g
theorem ztm{d:Nat}{ty:TypeId}(hC:C.low)
 (hx:ev sl x=some (.one (.ar id))) (hT:tg tab id=some .ifc) (ht:isIfc P t=true) (hm:metL all sl g0=some gs) (hd:Nat.blt d n=true)
 (g:Goal P C (.ops all rest (nx md ⟨some d,gs++rq x (.one (.ar id)),[(id,.ifc)],[],Bo false,[]⟩)) k n ((d,Bo false)::sl) tab Q):
 Goal P C (.ops all (⟨some d,.binOp .eql t x (.const .nilIface) t',ty,ps,af,g0⟩::rest) md) k n sl tab Q:=by
 have e1:=zQ (st:=⟨n,sl,tab⟩) hx
 have:=zp hm (zvA (P:=P) (neg:=false) (ty:=ty) (ps:=ps) (af:=af) (g:=g0) (d:=some d) (t':=t') e1.1 ht) (n:=n) (tab:=tab)
 exact yk (L:=⟨some d,gs++rq x (.one (.ar id)),[(id,.ifc)],[],Bo false,[]⟩) hC this.1 rfl ⟨by rw[zd];exact⟨this.2,e1.2⟩,⟨hT,uh⟩,rfl,hd⟩ g
theorem ztn{d:Nat}{ty:TypeId}(hC:C.low)
 (hx:ev sl x=some (.one (.p (.k .nilIface)))) (ht:isIfc P t=true) (hm:metL all sl g0=some gs) (hd:Nat.blt d n=true)
 (g:Goal P C (.ops all rest (nx md ⟨some d,gs++rq x (.one (.p (.k .nilIface))),[],[],Bo true,[]⟩)) k n ((d,Bo true)::sl) tab Q):
 Goal P C (.ops all (⟨some d,.binOp .eql t x (.const .nilIface) t',ty,ps,af,g0⟩::rest) md) k n sl tab Q:=by
 have e1:=zQ (st:=⟨n,sl,tab⟩) hx
 have:=zp hm (zvC (P:=P) (neg:=false) (ty:=ty) (ps:=ps) (af:=af) (g:=g0) (d:=some d) (t':=t') e1.1 ht) (n:=n) (tab:=tab)
 exact yk (L:=⟨some d,gs++rq x (.one (.p (.k .nilIface))),[],[],Bo true,[]⟩) hC this.1 rfl ⟨by rw[zd];exact⟨this.2,e1.2⟩,trivial,rfl,hd⟩ g
end
section
variable {ty:TypeId}
theorem zgC{fs l:List Operand}{ssf:List S}{first caps:List V}(hf:zjH fs ssf)(hcf:onesOf ssf=some first)(hx:zjH l ss)(hc:onesOf ss=some caps):
 Snd P ⟨d,.makeFunc (.func f) fs.toArray l.toArray,ty,ps,af,g⟩ (rqs fs ssf++rqs l ss) [] [] (.one (.cl f first caps)) []:=
 zo λC st M ρ a w hH h1 _=>by
  rw[zd]at h1
  have e:=hH.zlj (jv hx h1.2)
  have e':=vR hc e
  have e2:=hH.zlj (jv hf h1.1)
  have e2':=vR hcf e2
  exact⟨.func (.func f) (fs.map a.eval).toArray (l.map a.eval).toArray,by simp[execOp,Instr.makeFunc],by simp only[RepS,RepV];exact⟨fs.map a.eval,l.map a.eval,rfl,e2',e'⟩⟩
end
section
variable {k:List Frm} {n:Nat} {sl:zl} {all:Array Oper}
theorem zoA{d:Nat}{fs l:List Operand}{ty:TypeId}(hC:C.low){ssf:List S}{first caps:List V}
 (hf:evs sl fs=some ssf) (hcf:onesOf ssf=some first) (hx:evs sl l=some ss) (hc:onesOf ss=some caps) (hm:metL all sl g0=some gs) (hd:Nat.blt d n=true)
 (g:Goal P C (.ops all rest (nx md ⟨some d,gs++(rqs fs ssf++rqs l ss),[],[],.one (.cl f first caps),[]⟩)) k n ((d,.one (.cl f first caps))::sl) tab Q):
 Goal P C (.ops all (⟨some d,.makeFunc (.func f) fs.toArray l.toArray,ty,ps,af,g0⟩::rest) md) k n sl tab Q:=by
 have e1:=jw (st:=⟨n,sl,tab⟩) hf
 have e2:=jw (st:=⟨n,sl,tab⟩) hx
 have:=zp hm (zgC (P:=P) (ty:=ty) (ps:=ps) (af:=af) (g:=g0) (d:=some d) (f:=f) e1.1 hcf e2.1 hc) (n:=n) (tab:=tab)
 exact yk (L:=⟨some d,gs++(rqs fs ssf++rqs l ss),[],[],.one (.cl f first caps),[]⟩) hC this.1 rfl ⟨by rw[zd,zd];exact⟨this.2,e1.2,e2.2⟩,trivial,rfl,hd⟩ g
end
section
variable {ty:TypeId}
end
section
variable {k:List Frm} {n:Nat} {sl:zl} {all:Array Oper}
end
variable {G G':Prop}
theorem gG(g:G')(h:G'->G:=by first|exact λg=>ztc T hC true 400 rfl rfl g|exact λg=>zoB T hC ud g):G:=h g
theorem gB{A B:Prop}{b:Bool}(g1:b=true->A)(g2:b=false->B)
 (h:(b=true->A)->(b=false->B)->G:=by first|exact λg1 g2=>zu rfl g1 g2|exact λg1 g2=>zbS g1 g2|exact λg1 g2=>zbT rfl rfl rfl g1 g2|exact λg1 g2=>zbU rfl rfl g1 g2):G:=h g1 g2
theorem gX(g:G')(h:G'->G:=by exact λg=>yM T hC rfl rfl rfl (uw _) (zg uf) rfl rfl g):G:=h g
theorem gXE(g:G')(h:G'->G:=by exact λg=>yM T hC rfl rfl rfl (uw _) (jy uf) rfl rfl g):G:=h g
theorem gXT(g:G')(h:G'->G:=by exact λg=>yM T hC rfl rfl rfl (uw _) (zll uf) rfl rfl g):G:=h g
theorem gXS(g:G')(h:G'->G:=by exact λg=>yy T hC rfl rfl rfl (uw _) uf rfl rfl g):G:=h g
theorem gQ(g:G')(h:G'->G:=by exact λg=>zlm T (.inl rfl) rfl g):G:=h g
theorem gL(g:G')(h:G'->G:=by exact λg=>zln T (.inl rfl) rfl g):G:=h g
theorem gN(g:G')(h:G'->G:=by exact λg=>zto T (.inl rfl) rfl g):G:=h g
theorem gF(h:G:=by exact zt ⟨.inl rfl,id,_,rfl,.refl _,trivial,rfl,rfl⟩):G:=h
theorem gE(h:G:=by first|exact zt ⟨.inl rfl,id,_,rfl,.refl _,⟨rfl,uh⟩,rfl,rfl⟩|exact zt ⟨.inl rfl,id,_,rfl,.refl _,by repeat' first|exact uh|exact rfl|refine⟨?_,?_⟩,rfl,rfl⟩):G:=h
theorem gP{P:Prop}(h:P:=by exfalso;first|(simp only[ux,uX,uj,tH,Bool.not_eq_false']at *; omega)|(simp at h<;>fail)):P:=h
theorem gD{P:Prop}(h:P:=by exfalso;simp at h<;>fail):P:=h
theorem gT(g:G')(h:G'->G:=by exact λg=>ztp T hC rfl rfl rfl rfl rfl rfl rfl rfl rfl g):G:=h g
theorem gJ(g:G')(h:G'->G:=by exact λg=>ztq T hC rfl rfl rfl rfl rfl rfl g):G:=h g
theorem gV(g:G')(h:G'->G:=by exact λg=>yM T hC rfl rfl rfl ub rfl rfl rfl g):G:=h g
theorem gM{σ:Nat->Nat}{a b:St}(h:Matches σ a b:=by first
 |exact⟨rfl,⟨rfl,rfl,uh⟩,trivial,rfl,λ_ _=>rfl⟩
 |exact⟨rfl,by repeat' first|exact uh|exact rfl|refine⟨?_,?_⟩,by repeat' first|exact uh|exact rfl|refine⟨?_,?_⟩,rfl,λ_ _=>rfl⟩):Matches σ a b:=h
variable {args:List S}{rv:List ResultVar}{ts:Array TypeId}
section
variable {k:List Frm} {n:Nat} {sl:zl} {all:Array Oper}
theorem gC{d:Nat}{l:List Operand}{ty:TypeId}{first caps:List V}(h:zk P f args [] res [])(g:Goal P C (.ops all rest (nx md ⟨some d,gs++(rq x (.one (.cl f first caps))++rqs l ss),[],[],res,[]⟩)) k n ((d,res)::sl) tab Q)(hC:C.low:=by assumption)(hx:ev sl x=some (.one (.cl f first caps)):=by exact rfl)(hl:evs sl l=some ss:=by exact rfl)(ha:yr (ones first++ss++ones caps) args:=by exact yr.refl _)(hc:cloS [] res=true:=by exact rfl)(hm:metL all sl g0=some gs:=by exact rfl)(hd:Nat.blt d n=true:=by exact rfl):
 Goal P C (.ops all (⟨some d,.call ⟨.value x,l.toArray,ts⟩,ty,ps,af,g0⟩::rest) md) k n sl tab Q:=jk hC h hx hl ha hc hm hd g
theorem gR{l:List Operand}{ty:TypeId}{first caps:List V}{R':RL}(h:zk P f args R res R')(σ:Nat->Nat)(g:Goal P C (.ops all rest (nx md ⟨d,gs++(rq x (.one (.cl f first caps))++rqs l ss),R.ren σ,(xZ R R').map σ,res.ren σ,tb (R'.ren σ)++ze0 (R.ids.map σ)⟩)) k n (app d (res.ren σ) (tb (R'.ren σ)++ze0 (R.ids.map σ)) ⟨n,sl,tab⟩).sl ((tb (R'.ren σ)++ze0 (R.ids.map σ))++tab) Q)(hC:C.low:=by assumption)(hx:ev sl x=some (.one (.cl f first caps)):=by exact rfl)(hl:evs sl l=some ss:=by exact rfl)(ha:yr (ones first++ss++ones caps) (Ss.ren σ args):=by exact yr.refl _)(hi:injB σ R.ids=true:=by exact rfl)(hi2:injB σ R'.ids=true:=by exact rfl)(hc:cloS (R.ids++R'.ids) res=true:=by exact rfl)(hcR:zgD (R.ids++R'.ids) R'=true:=by exact rfl)(hT:rdT tab (R.ren σ)=R.ren σ:=by exact rfl)(hfr:allB (λid=>Nat.ble 100 id&&freshB id ⟨n,sl,tab⟩) ((xZ R R').map σ)=true:=by exact rfl)(hm:metL all sl g0=some gs:=by exact rfl)(hd:dok d n=true:=by exact rfl):
 Goal P C (.ops all (⟨d,.call ⟨.value x,l.toArray,ts⟩,ty,ps,af,g0⟩::rest) md) k n sl tab Q:=zy hC h σ hx hl ha hi hi2 hc hcR hT hfr hm hd g
theorem gI{d:Nat}{ty:TypeId}{e:Nat}{row:List PV}(T:Ty P)(hi:rows[i.toNat]?=some row)(g:Goal P C (.ops all rest (nx md ⟨some d,gs++(rq x (.one (.p (.sl e rows)))++rq y (Kk k0 i)),[],[],.one (.pi row 0),[]⟩)) k n ((d,.one (.pi row 0))::sl) tab Q)(hC:C.low:=by assumption)(hx:ev sl x=some (.one (.p (.sl e rows))):=by exact rfl)(hy:ev sl y=some (Kk k0 i):=by exact rfl)(he:T.es t=some (el,e):=by exact rfl)(h0:0<=i:=by first|exact uw _|decide|omega)(hm:metL all sl g0=some gs:=by exact rfl)(hd:Nat.blt d n=true:=by exact rfl):
 Goal P C (.ops all (⟨some d,.indexAddr t x y,ty,ps,af,g0⟩::rest) md) k n sl tab Q:=yM T hC hx hy he h0 hi hm hd g
theorem gZ(id:Nat){e:Nat}(ups:zl)(bs:List (Nat×List V))(g:Goal P C cur k n (ups++sl) (zgE bs++((id,none)::tab)) Q)(hc:lst cur=true:=by exact rfl)(hid:tg tab id=some (.arr e rows):=by exact rfl)
 (hS:upS (FrS id e rows) sl ups:=by repeat' first|exact uh|exact⟨⟨_,rfl,FrS.ar⟩,uh⟩|refine⟨⟨_,rfl,FrS.agg ?_⟩,?_⟩|exact ze1.nil|refine ze1.cons FrV.ar ?_|refine ze1.cons (FrV.refl _) ?_) (hB:upB (ze1 id e rows) id tab bs:=by repeat' first|exact uh|refine⟨⟨_,rfl,ub,?_⟩,?_⟩|exact ze1.nil|refine ze1.cons FrV.ar ?_|refine ze1.cons (FrV.refl _) ?_):Goal P C cur k n sl tab Q:=zoC hc hid ups hS bs hB g
theorem gA(id e:Nat)(ups:zl)(bs:List (Nat×List V))(g:Goal P C cur k n (ups++sl) (zgE bs++((id,some (.arr e []))::tab)) Q)(hC:C.low:=by assumption)(hc:lst cur=true:=by exact rfl)(hf:(Nat.ble 100 id&&freshB id ⟨n,sl,tab⟩)=true:=by exact rfl)
 (hS:upS (AdS id) sl ups:=by repeat' first|exact uh|exact⟨⟨_,rfl,AdS.nil⟩,uh⟩|refine⟨⟨_,rfl,AdS.agg ?_⟩,?_⟩|exact zds.nil|refine zds.cons AdV.nil ?_|refine zds.cons (AdV.refl _) ?_) (hB:upB (zds id) id tab bs:=by repeat' first|exact uh|refine⟨⟨_,rfl,ub,?_⟩,?_⟩|exact zds.nil|refine zds.cons AdV.nil ?_|refine zds.cons (AdV.refl _) ?_):Goal P C cur k n sl tab Q:=zlo hC hc id e hf ups hS bs hB g
theorem gY(T:Ty P)(id':Nat){d:Nat}{tx ty:TypeId}{e:Nat}{rows2:List (List PV)}(rows3:List (List PV))(bytes:Nat){sy:S}{rt2:RL}
 (g:Goal P C (.ops all rest (nx md ⟨some d,gs++(rq x (.one (.ar id))++rq y sy),(id,.arr e rows)::rt2,[id'],.one (.ar id'),[(id',some (.arr e rows3)),(id,none)]⟩)) k n ((d,.one (.ar id'))::sl) ([(id',some (.arr e rows3)),(id,none)]++tab) Q)
 (hC:C.low:=by assumption) (hx:ev sl x=some (.one (.ar id)):=by exact rfl) (hy:ev sl y=some sy:=by exact rfl) (hT:tg tab id=some (.arr e rows):=by exact rfl) (hs:zae P e tx sy rt2 rows2:=by exact zae.sl (T.es_ok _ _ rfl)) (hT2:rdT tab rt2=rt2:=by exact rfl)
 (hr:rows++rows2=rows3:=by first|exact rfl|assumption|(rw[uY];rfl)) (he:T.es t=some (el,e):=by exact rfl) (hz:T.zs el=some z:=by exact rfl) (hzl:Nat.beq z.length e=true:=by exact rfl) (hby:(P.info? el).map (·.bytes)=some bytes:=by kernel_rfl)
 (hb:(rows.length+rows2.length)*bytes<=140737488355328:=by first|(simp only[uj,uC,uI,qt];omega)|(simp only[uj,uC,uI,qt]at *; omega)|(simp<;>fail))
 (hlen:rows.length+rows2.length<=9223372036854775807:=by first|(simp only[uj,uC,uI,qt];omega)|(simp only[uj,uC,uI,qt]at *; omega)|(simp<;>fail)) (hm:metL all sl g0=some gs:=by exact rfl) (hd:Nat.blt d n=true:=by exact rfl) (hf:(Nat.ble 100 id'&&freshB id' ⟨n,sl,tab⟩)=true:=by exact rfl):
 Goal P C (.ops all (⟨some d,.call ⟨.builtin .append,#[x,y],#[t,tx]⟩,ty,ps,af,g0⟩::rest) md) k n sl tab Q:=xa T id' hC hx hy hT hT2 hs hr he hz hzl hby hb hlen hm hd hf g
theorem gH(T:Ty P){d:Nat}{len:Nat}{l:List (Nat×Operand)}{ty:TypeId}(rows:List (List PV)){e:Nat}
 (g:Goal P C (.ops all rest (nx md ⟨some d,gs++rqs (l.map (·.2)) ss,[],[],.one (.p (.sl e rows)),[]⟩)) k n ((d,.one (.p (.sl e rows)))::sl) tab Q) (hC:C.low:=by assumption) (hl:evs sl (l.map (·.2))=some ss:=by exact rfl) (he:T.es t=some (el,e):=by exact rfl) (hz:T.zs el=some z:=by exact rfl)
 (hr:partsR e 0 (l.map (·.1)) ss=some rows:=by first|exact rfl|(simp only[zd5];rfl)|(simp only[zd6];rfl)) (hl1:Nat.beq l.length len=true:=by exact rfl) (hl2:Nat.ble (len*e) 16777216=true:=by exact rfl) (hl3:Nat.ble len 16777216=true:=by exact rfl) (hm:metL all sl g0=some gs:=by exact rfl) (hd:Nat.blt d n=true:=by exact rfl):
 Goal P C (.ops all (⟨some d,.buildSlice t len l.toArray,ty,ps,af,g0⟩::rest) md) k n sl tab Q:=ztp T hC hl he hz hr hl1 hl2 hl3 hm hd g
theorem gW(l:List Nat){T:Ty P}{R':RL}{e:Exit}(he:e= .ret\/e= .normal:=by exact .inl rfl)(h1:rvsOf T ⟨n,sl,tab⟩ rv=some ss:=by exact rfl)(h2:LeS (tupOf ss) (res.ren (nm l)):=by exact .refl _)(h3:mR (nm l) tab R':=by repeat' first|exact uh|exact rfl|refine⟨?_,?_⟩)(h4:injB (nm l) R'.ids=true:=by exact rfl)(h5:allB (λi=>Nat.beq (nm l i) i) R.ids=true:=by exact rfl):
 Goal P C (.fin e) [] n sl tab (ztd T rv R res R'):=zt ⟨he,nm l,ss,h1,h2,h3,h4,h5⟩
theorem gO{fn:Func}{c:Code}{R':RL}(T:Ty P)(hf:P.funcs[f]?=some fn)(body: ∀C:Ctx,C.low->Goal P C (.code c) [] fn.ntmps (enum 0 args) (tb R) (ztd T rv R res R'))
 (hname:(fn.name== "runtime.NumGoroutine")=false:=by kernel_rfl) (hb:fn.body=some c:=by exact rfl) (hrv:fn.results=rv.toArray:=by exact rfl) (hlow:allB (λi=>Nat.blt i 100) R.ids=true:=by exact rfl)
 (hn:Nat.ble args.length fn.ntmps=true:=by exact rfl):zk P f args R res R':=zvD T hf hname hb hrv hlow hn body
end
end Hw
namespace Hw.Fr
open Go Go.Proofs
def yh:Tabs:=
{ sh:=(.nd (.nd (.nd (.nd (.nd (.nd (.nd .lf 2 none .lf) 3 none (.nd .lf 4 none .lf)) 5 none (.nd (.nd .lf 9 none .lf) 20 none (.nd .lf 21 none .lf))) 22 none (.nd (.nd (.nd .lf 25 none .lf) 26 none (.nd .lf 30 none .lf)) 31 none (.nd (.nd .lf 33 (some 2) .lf) 35 (some 4) .lf))) 40 none (.nd (.nd (.nd (.nd .lf 41 none .lf) 45 (some 3) (.nd .lf 48 none .lf)) 50 (some 2) (.nd (.nd .lf 53 none .lf) 59 none .lf)) 60 none (.nd (.nd (.nd .lf 67 (some 3) .lf) 70 none (.nd .lf 75 none .lf)) 81 none (.nd (.nd .lf 84 none .lf) 85 none .lf)))) 87 (some 5) (.nd (.nd (.nd (.nd (.nd .lf 90 none .lf) 91 none (.nd .lf 102 (some 4) .lf)) 114 none (.nd (.nd .lf 118 none .lf) 124 (some 3) (.nd .lf 132 (some 2) .lf))) 136 none (.nd (.nd (.nd .lf 141 none .lf) 144 (some 3) (.nd .lf 149 none .lf)) 151 none (.nd (.nd .lf 154 none .lf) 155 none .lf))) 156 none (.nd (.nd (.nd (.nd .lf 157 none .lf) 158 none (.nd .lf 159 none .lf)) 160 none (.nd (.nd .lf 162 (some 8) .lf) 170 (some 2) .lf)) 173 none (.nd (.nd (.nd .lf 175 (some 5) .lf) 178 none (.nd .lf 190 none .lf)) 204 none (.nd (.nd .lf 206 (some 2) .lf) 208 none .lf))))) 213 none (.nd (.nd (.nd (.nd (.nd (.nd .lf 216 none .lf) 218 (some 3) (.nd .lf 221 none .lf)) 234 none (.nd (.nd .lf 240 (some 5) .lf) 243 none (.nd .lf 250 (some 2) .lf))) 253 (some 2) (.nd (.nd (.nd .lf 254 none .lf) 256 none (.nd .lf 258 (some 4) .lf)) 260 (some 7) (.nd (.nd .lf 263 (some 6) .lf) 264 none .lf))) 266 (some 5) (.nd (.nd (.nd (.nd .lf 268 (some 5) .lf) 271 none (.nd .lf 273 none .lf)) 277 none (.nd (.nd .lf 284 none .lf) 286 none .lf)) 296 none (.nd (.nd (.nd .lf 302 (some 4) .lf) 306 none (.nd .lf 307 none .lf)) 309 none (.nd (.nd .lf 313 none .lf) 315 (some 1) .lf)))) 317 (some 5) (.nd (.nd (.nd (.nd (.nd .lf 319 none .lf) 323 none (.nd .lf 338 (some 24) .lf)) 352 none (.nd (.nd .lf 359 (some 20) .lf) 360 (some 65) (.nd .lf 363 none .lf))) 364 none (.nd (.nd (.nd .lf 368 (some 2) .lf) 369 none (.nd .lf 375 (some 256) .lf)) 377 none (.nd (.nd .lf 381 none .lf) 385 (some 32) .lf))) 386 (some 64) (.nd (.nd (.nd (.nd .lf 387 none .lf) 389 (some 2) (.nd .lf 391 none .lf)) 395 (some 3) (.nd (.nd .lf 402 none .lf) 403 none .lf)) 405 (some 3) (.nd (.nd (.nd .lf 407 (some 3) .lf) 410 (some 3) (.nd .lf 413 none .lf)) 415 (some 1) (.nd (.nd .lf 416 none .lf) 417 none .lf))))))
  fo:=(.nd (.nd (.nd (.nd (.nd (.nd .lf 33 (.nd (.nd .lf 0 0 .lf) 1 1 .lf) .lf) 35 (.nd (.nd .lf 0 0 .lf) 1 1 (.nd .lf 2 2 .lf)) .lf) 45 (.nd (.nd .lf 0 0 .lf) 1 1 .lf) (.nd .lf 50 (.nd (.nd .lf 0 0 .lf) 1 1 .lf) .lf)) 67 (.nd (.nd .lf 0 0 .lf) 1 1 (.nd .lf 2 2 .lf)) (.nd (.nd .lf 87 (.nd (.nd (.nd .lf 0 0 .lf) 1 1 .lf) 2 2 (.nd (.nd .lf 3 3 .lf) 4 4 .lf)) .lf) 102 (.nd (.nd .lf 0 0 .lf) 1 1 (.nd .lf 2 3 .lf)) (.nd .lf 124 (.nd (.nd .lf 0 0 .lf) 1 1 (.nd .lf 2 2 .lf)) .lf))) 132 (.nd (.nd .lf 0 0 .lf) 1 1 .lf) (.nd (.nd (.nd .lf 144 (.nd (.nd .lf 0 0 .lf) 1 1 (.nd .lf 2 2 .lf)) .lf) 162 (.nd (.nd (.nd (.nd .lf 0 0 .lf) 1 1 .lf) 2 2 (.nd .lf 3 3 .lf)) 4 4 (.nd (.nd .lf 5 5 .lf) 6 6 (.nd .lf 7 7 .lf))) (.nd .lf 170 (.nd (.nd .lf 0 0 .lf) 1 1 .lf) .lf)) 175 (.nd (.nd (.nd .lf 0 0 .lf) 1 1 .lf) 2 2 (.nd (.nd .lf 3 3 .lf) 4 4 .lf)) (.nd (.nd .lf 206 (.nd (.nd .lf 0 0 .lf) 1 1 .lf) .lf) 218 (.nd (.nd .lf 0 0 .lf) 1 1 (.nd .lf 2 2 .lf)) (.nd .lf 240 (.nd (.nd (.nd .lf 0 0 .lf) 1 1 .lf) 2 2 (.nd .lf 3 3 .lf)) .lf)))) 250 (.nd (.nd .lf 0 0 .lf) 1 1 .lf) (.nd (.nd (.nd (.nd .lf 253 (.nd (.nd .lf 0 0 .lf) 1 1 .lf) .lf) 258 (.nd (.nd (.nd .lf 0 0 .lf) 1 1 .lf) 2 2 (.nd .lf 3 3 .lf)) (.nd .lf 260 (.nd (.nd (.nd .lf 0 0 .lf) 1 1 .lf) 2 2 (.nd .lf 3 3 .lf)) .lf)) 263 (.nd (.nd .lf 0 0 .lf) 1 1 (.nd .lf 2 2 .lf)) (.nd (.nd .lf 266 (.nd (.nd .lf 0 0 .lf) 1 1 .lf) .lf) 268 (.nd (.nd .lf 0 0 .lf) 1 1 .lf) (.nd .lf 315 (.nd .lf 0 0 .lf) .lf))) 317 (.nd (.nd (.nd .lf 0 0 .lf) 1 1 .lf) 2 2 (.nd (.nd .lf 3 3 .lf) 4 4 .lf)) (.nd (.nd (.nd .lf 368 (.nd (.nd .lf 0 0 .lf) 1 1 .lf) .lf) 389 (.nd (.nd .lf 0 0 .lf) 1 1 .lf) (.nd .lf 395 (.nd (.nd .lf 0 0 .lf) 1 1 (.nd .lf 2 2 .lf)) .lf)) 405 (.nd (.nd .lf 0 0 .lf) 1 1 (.nd .lf 2 2 .lf)) (.nd (.nd .lf 407 (.nd (.nd .lf 0 0 .lf) 1 1 (.nd .lf 2 2 .lf)) .lf) 410 (.nd (.nd .lf 0 0 .lf) 1 1 (.nd .lf 2 2 .lf)) (.nd .lf 415 (.nd .lf 0 0 .lf) .lf)))))
  es:=(.nd (.nd (.nd (.nd (.nd .lf 22 (35,4) .lf) 30 (45,3) (.nd .lf 31 (3,1) .lf)) 41 (5,1) (.nd (.nd .lf 48 (31,1) .lf) 59 (50,2) (.nd .lf 70 (33,2) .lf))) 75 (67,3) (.nd (.nd (.nd .lf 84 (102,4) .lf) 85 (141,1) (.nd .lf 114 (144,3) .lf)) 149 (124,3) (.nd (.nd .lf 151 (9,1) .lf) 154 (250,2) .lf))) 155 (253,2) (.nd (.nd (.nd (.nd .lf 156 (175,5) .lf) 157 (260,7) (.nd .lf 158 (263,6) .lf)) 159 (266,5) (.nd (.nd .lf 160 (268,5) .lf) 173 (317,5) .lf)) 213 (240,5) (.nd (.nd (.nd .lf 256 (258,4) .lf) 363 (368,2) (.nd .lf 364 (363,1) .lf)) 387 (389,2) (.nd (.nd .lf 402 (407,3) .lf) 403 (410,3) .lf))))
  zs:=(.nd (.nd (.nd (.nd (.nd (.nd (.nd .lf 2 [(.int .i64)] .lf) 3 [(.int .i64)] (.nd .lf 4 [.bool] .lf)) 5 [(.int .u8)] (.nd (.nd .lf 9 [.str] .lf) 20 [.nif] .lf)) 21 [(.int .i32)] (.nd (.nd (.nd .lf 22 [.slice] .lf) 25 [.ptr] (.nd .lf 26 [(.int .i64)] .lf)) 30 [.slice] (.nd (.nd .lf 31 [.slice] .lf) 33 [(.int .i64),.slice] .lf))) 35 [(.int .i64),(.int .i64),(.int .i64),.slice] (.nd (.nd (.nd (.nd .lf 40 [(.int .u16)] .lf) 41 [.slice] (.nd .lf 45 [(.int .i64),(.int .i64),.slice] .lf)) 48 [.slice] (.nd (.nd .lf 50 [(.int .i64),.slice] .lf) 53 [.nfunc] .lf)) 59 [.slice] (.nd (.nd (.nd .lf 60 [.nfunc] .lf) 67 [(.int .i64),(.int .i64),.slice] (.nd .lf 70 [.slice] .lf)) 75 [.slice] (.nd (.nd .lf 81 [.nfunc] .lf) 84 [.slice] .lf)))) 85 [.slice] (.nd (.nd (.nd (.nd (.nd .lf 87 [.str,(.int .i64),.slice,.slice,(.int .i64)] .lf) 90 [.nfunc] (.nd .lf 91 [.nfunc] .lf)) 102 [(.int .i64),(.int .i64),.slice,.bool] (.nd (.nd .lf 114 [.slice] .lf) 118 [.nfunc] .lf)) 124 [.str,.str,(.int .i64)] (.nd (.nd (.nd .lf 132 [.str,.slice] .lf) 136 [.nfunc] (.nd .lf 141 [.ptr] .lf)) 144 [.str,(.int .i64),.bool] (.nd (.nd .lf 149 [.slice] .lf) 151 [.slice] .lf))) 154 [.slice] (.nd (.nd (.nd (.nd .lf 155 [.slice] .lf) 156 [.slice] (.nd .lf 157 [.slice] .lf)) 158 [.slice] (.nd (.nd .lf 159 [.slice] .lf) 160 [.slice] .lf)) 162 [.str,.slice,.slice,.slice,.slice,.slice,.slice,.slice] (.nd (.nd (.nd .lf 170 [(.int .i64),(.int .i64)] .lf) 173 [.slice] (.nd .lf 175 [.str,.slice,.str,.slice,.slice] .lf)) 178 [(.int .u64)] (.nd (.nd .lf 190 [.nfunc] .lf) 204 [.ptr] .lf))))) 208 [.nif] (.nd (.nd (.nd (.nd (.nd (.nd .lf 213 [.slice] .lf) 216 [.ptr] (.nd .lf 218 [.slice,(.int .i64),.bool] .lf)) 221 [.ptr] (.nd (.nd .lf 234 [.nfunc] .lf) 240 [(.int .i64),.str,(.int .i64),(.int .i64),(.int .i64)] .lf)) 243 [.ptr] (.nd (.nd (.nd .lf 250 [.str,.slice] .lf) 253 [.str,.str] (.nd .lf 254 [.nfunc] .lf)) 256 [.slice] (.nd (.nd .lf 258 [(.int .i64),(.int .i64),.str,.slice] .lf) 260 [.str,.str,(.int .i64),(.int .i64),(.int .i64),.str,.slice] .lf))) 263 [.str,.str,(.int .i64),(.int .i64),.str,.slice] (.nd (.nd (.nd (.nd .lf 264 [.nfunc] .lf) 266 [.str,(.int .i64),(.int .i64),.str,.slice] (.nd .lf 268 [.str,(.int .i64),(.int .i64),.str,.slice] .lf)) 271 [.nfunc] (.nd (.nd .lf 273 [.nfunc] .lf) 277 [(.int .i64)] .lf)) 284 [(.int .u32)] (.nd (.nd (.nd .lf 286 [(.int .u64)] .lf) 296 [.ptr] (.nd .lf 302 [.str,.str,.str,.str] .lf)) 306 [.nfunc] (.nd (.nd .lf 307 [.nfunc] .lf) 309 [.nfunc] .lf)))) 313 [.ptr] (.nd (.nd (.nd (.nd (.nd .lf 315 [(.int .i64)] .lf) 317 [(.int .i64),.str,.slice,.slice,.slice] (.nd .lf 319 [(.int .u64)] .lf)) 323 [.ptr] (.nd (.nd .lf 338 [(.int .u8),(.int .u8),(.int .u8),(.int .u8),(.int .u8),(.int .u8),(.int .u8),(.int .u8),(.int .u8),(.int .u8),(.int .u8),(.int .u8),(.int .u8),(.int .u8),(.int .u8),(.int .u8),(.int .u8),(.int .u8),(.int .u8),(.int .u8),(.int .u8),(.int .u8),(.int .u8),(.int .u8)] .lf) 352 [.ptr] .lf)) 359 [(.int .u64),(.int .u64),(.int .u64),(.int .u64),(.int .u64),(.int .u64),(.int .u64),(.int .u64),(.int .u64),(.int .u64),(.int .u64),(.int .u64),(.int .u64),(.int .u64),(.int .u64),(.int .u64),(.int .u64),(.int .u64),(.int .u64),(.int .u64)] (.nd (.nd (.nd .lf 363 [.slice] .lf) 364 [.slice] (.nd .lf 368 [.str,(.int .i64)] .lf)) 369 [.nfunc] (.nd (.nd .lf 377 [.nfunc] .lf) 381 [.ptr] .lf))) 385 [(.int .u8),(.int .u8),(.int .u8),(.int .u8),(.int .u8),(.int .u8),(.int .u8),(.int .u8),(.int .u8),(.int .u8),(.int .u8),(.int .u8),(.int .u8),(.int .u8),(.int .u8),(.int .u8),(.int .u8),(.int .u8),(.int .u8),(.int .u8),(.int .u8),(.int .u8),(.int .u8),(.int .u8),(.int .u8),(.int .u8),(.int .u8),(.int .u8),(.int .u8),(.int .u8),(.int .u8),(.int .u8)] (.nd (.nd (.nd (.nd .lf 387 [.slice] .lf) 389 [(.int .i64),(.int .i64)] (.nd .lf 391 [.ptr] .lf)) 395 [.str,.str,.nif] (.nd (.nd .lf 402 [.slice] .lf) 403 [.slice] .lf)) 405 [.slice,.slice,(.int .i64)] (.nd (.nd (.nd .lf 407 [(.int .u16),(.int .u16),(.int .u16)] .lf) 410 [(.int .u32),(.int .u32),(.int .u32)] (.nd .lf 413 [.ptr] .lf)) 415 [.str] (.nd (.nd .lf 416 [.ptr] .lf) 417 [.ptr] .lf))))))
  pl:=(.nd (.nd (.nd (.nd (.nd (.nd .lf 33 [(0,1),(1,1)] .lf) 35 [(0,1),(1,1),(2,2)] .lf) 45 [(0,1),(1,2)] (.nd .lf 50 [(0,1),(1,1)] .lf)) 67 [(0,1),(1,1),(2,1)] (.nd (.nd .lf 87 [(0,1),(1,1),(2,1),(3,1),(4,1)] .lf) 102 [(0,1),(1,2),(3,1)] (.nd .lf 124 [(0,1),(1,1),(2,1)] .lf))) 132 [(0,1),(1,1)] (.nd (.nd (.nd .lf 144 [(0,1),(1,1),(2,1)] .lf) 162 [(0,1),(1,1),(2,1),(3,1),(4,1),(5,1),(6,1),(7,1)] (.nd .lf 170 [(0,1),(1,1)] .lf)) 175 [(0,1),(1,1),(2,1),(3,1),(4,1)] (.nd (.nd .lf 206 [(0,1),(1,1)] .lf) 218 [(0,1),(1,1),(2,1)] (.nd .lf 240 [(0,1),(1,1),(2,1),(3,2)] .lf)))) 250 [(0,1),(1,1)] (.nd (.nd (.nd (.nd .lf 253 [(0,1),(1,1)] .lf) 258 [(0,1),(1,1),(2,1),(3,1)] (.nd .lf 260 [(0,1),(1,1),(2,1),(3,4)] .lf)) 263 [(0,1),(1,1),(2,4)] (.nd (.nd .lf 266 [(0,1),(1,4)] .lf) 268 [(0,1),(1,4)] (.nd .lf 315 [(0,1)] .lf))) 317 [(0,1),(1,1),(2,1),(3,1),(4,1)] (.nd (.nd (.nd .lf 368 [(0,1),(1,1)] .lf) 389 [(0,1),(1,1)] (.nd .lf 395 [(0,1),(1,1),(2,1)] .lf)) 405 [(0,1),(1,1),(2,1)] (.nd (.nd .lf 407 [(0,1),(1,1),(2,1)] .lf) 410 [(0,1),(1,1),(2,1)] (.nd .lf 415 [(0,1)] .lf)))))
  str:=(.nd .lf 9 () .lf)
  ik:=(.nd (.nd (.nd (.nd .lf 2 .i64 .lf) 3 .i64 .lf) 5 .u8 (.nd (.nd .lf 21 .i32 .lf) 26 .i64 .lf)) 40 .u16 (.nd (.nd (.nd .lf 178 .u64 .lf) 277 .i64 .lf) 284 .u32 (.nd (.nd .lf 286 .u64 .lf) 319 .u64 .lf))) }
theorem zrl:yh.check Tryz.prog=true:=by kernel_rfl
theorem mixed:Tryz.prog.follows .mixedOrders=true:=by kernel_rfl
noncomputable def T:Ty Tryz.prog:=yh.ty zrl mixed
end Hw.Fr
namespace Hw.Fr.Ps
open Go Go.Proofs Hw.M
abbrev uc(c:Int):S:= .one (.p (.k (.int .u8 c)))
def yW(c:Int):Bool:=(decide (97<=c)&&decide (c<=122))||(decide (65<=c)&&decide (c<=90))
def isDigit(c:Int):Bool:=decide (48<=c)&&decide (c<=57)
def isWord(c:Int):Bool:=(yW c||isDigit c)||decide (c=95)
theorem ze2(c:Int):zk Tryz.prog 245 [uc c] [] (.bq (yW c)) []:=by
 refine gO T Tryz.func245 λC hC=>?_
 repeat' first|refine gG ?_|refine gB ?_ ?_<;>intro h|refine gQ ?_|refine gL ?_
 all_goals (simp_all[yW]<;>omega)
theorem zd7(c:Int):zk Tryz.prog 246 [uc c] [] (.bq (isDigit c)) []:=by
 refine gO T Tryz.func246 λC hC=>?_
 repeat' first|refine gG ?_|refine gB ?_ ?_<;>intro h|refine gQ ?_|refine gL ?_
 all_goals (simp_all[isDigit]<;>omega)
theorem zck(c:Int):zk Tryz.prog 204 [uc c] [] (.bq (isWord c)) []:=by
 refine gO T Tryz.func204 λC hC=>?_
 repeat' first|refine gG ?_|refine gB ?_ ?_<;>intro h|refine gQ ?_|refine gL ?_|refine gC (ze2 _) ?_|refine gC (zd7 _) ?_
 all_goals simp_all[isWord]
theorem ztr(l:List Str)(s:Str):zk Tryz.prog 280 [pS (zdg l),Sr s] [] (.bq (l.any λx=>decide (x=s))) []:=by
 refine gO T Tryz.func280 λC hC=>?_
 refine jq 0 rfl λhlen=>?_
 rw[uj]at hlen
 repeat' first|refine gG ?_|refine gB ?_ ?_<;>intro h
 refine zn (λi:Nat=>i<=l.length/\(l.take i).any (λx=>decide (x=s))=false) (λi=>([(0,pS (zdg l)),(1,Sr s),(5,I i)],[])) (λi=>l.length - i) hC
  0 ⟨uA _,ue⟩ id gM ?_
 rintro i ⟨hi,hn⟩
 refine zr T hC true 200 rfl ?_
 refine zu rfl ?_ ?_<;>intro h
 ·have hlt:i<l.length:=by simpa using h
  obtain⟨x,hx⟩:=ze hlt
  repeat' first|refine gG ?_|refine gB ?_ ?_<;>intro h|refine gX ?_|refine zx ?_|refine zj ?_|refine gQ ?_|refine gL ?_
  ·exact(zlp hx h).symm
  ·rw[wrap64 ua]
   refine zf (i+1) ⟨ua,?_⟩ id ua gM
   rw[zd8 hx,hn,h];rfl
 ·have hge: ¬i<l.length:=by simpa using h
  repeat' first|refine gG ?_|refine gB ?_ ?_<;>intro h|refine zj ?_|refine gL ?_
  exact(zgF ua hn).symm
def zbV:List Str:=[(⟨#[116,121,112,101]⟩:UW),(⟨#[118,97,114]⟩:UW),(⟨#[112,114,111,99]⟩:UW),(⟨#[108,111,99,97,108]⟩:UW),(⟨#[109,101,97,115,117,114,101]⟩:UW),(⟨#[105,110,118,97,114,105,97,110,116]⟩:UW),(⟨#[112,111,116,101,110,116,105,97,108]⟩:UW),(⟨#[98,111,117,110,100]⟩:UW),(⟨#[105,102]⟩:UW),(⟨#[101,108,115,101]⟩:UW),(⟨#[119,104,105,108,101]⟩:UW),(⟨#[114,101,116,117,114,110]⟩:UW),(⟨#[110,101,119]⟩:UW),(⟨#[110,105,108]⟩:UW),(⟨#[116,114,117,101]⟩:UW),(⟨#[102,97,108,115,101]⟩:UW),(⟨#[97,110,100]⟩:UW),(⟨#[111,114]⟩:UW),(⟨#[110,111,116]⟩:UW),(⟨#[109,97,120]⟩:UW),(⟨#[109,105,110]⟩:UW),(⟨#[108,111,103]⟩:UW),(⟨#[105,110,116]⟩:UW),(⟨#[98,111,111,108]⟩:UW),(⟨#[116,104,105,115]⟩:UW),(⟨#[115,111,114,116]⟩:UW),(⟨#[111,112]⟩:UW),(⟨#[114,117,108,101]⟩:UW),(⟨#[115,112,101,99]⟩:UW),(⟨#[100,101,115,99]⟩:UW),(⟨#[115,99,114,105,112,116]⟩:UW)]
def y3(s:Str):Bool:=zbV.any λx=>decide (x=s)
theorem zgG:zk Tryz.prog 281 [] [] (pS (zdg zbV)) []:=by
 refine gO T Tryz.func281 λC hC=>?_
 repeat' first|refine gG ?_|refine gB ?_ ?_<;>intro h|refine gT ?_
 exact gF
theorem zby(s:Str):zk Tryz.prog 247 [Sr s] [] (.bq (y3 s)) []:=by
 refine gO T Tryz.func247 λC hC=>?_
 repeat' first|refine gG ?_|refine gB ?_ ?_<;>intro h|refine gC zgG ?_|refine gC (ztr _ _) ?_|refine gQ ?_|refine gL ?_
 rfl
def bytes(s:Str):List Int:=s.data.toList.map λb=>(b.toNat:Int)
variable {i:Nat}
theorem bytes_at{s:Str}{c:Int}(h:(bytes s)[i]?=some c): ∃b:UInt8,s[((i:Nat):Int).toNat]?=some b/\c=(b.toNat:Int):=by
 simp only[bytes,uE,uH]at h
 obtain⟨b,hb,rfl⟩:=h
 refine⟨b,?_,rfl⟩
 have hlt:i<s.data.size:=by
  have:=(ui.1 hb).1
  simpa using this
 have:s.data[i]=b:=by rw[om,qj hlt]at hb;exact uy hb
 have hlt':i<s.size:=hlt
 simp only[uF]
 rw[getElem?_pos s i hlt']
 exact uR some this
theorem ze3(s:Str):(bytes s).length=s.size:=by simp only[bytes,uj,qd];rfl
def isName(s:Str):Bool:= !decide (s.size=0)&& !decide (40<s.size)&&(match bytes s with| []=>false|c::_=>yW c)&&(bytes s).all isWord&& !y3 s
theorem yR(s:Str):zk Tryz.prog 211 [Sr s] [] (.bq (isName s)) []:=by
 refine gO T Tryz.func211 λC hC=>?_
 have hbl:=ze3 s
 repeat' first|refine gG ?_|refine gB ?_ ?_<;>intro h
 ·repeat' first|refine gG ?_|refine gB ?_ ?_<;>intro h|refine gL ?_
  simp_all[isName]
 ·repeat' first|refine gG ?_|refine gB ?_ ?_<;>intro h|refine gL ?_
  have h1:40<s.size:=by have:=uo h;omega
  simp[isName,h1]
 ·rename_i h0
  have hs:0<(bytes s).length:=by have:=uq h0;omega
  obtain⟨c,hc⟩:=ze hs
  obtain⟨b,hb,rfl⟩:=bytes_at hc
  refine yy T hC rfl rfl rfl (qB _) hb rfl rfl ?_
  repeat' first|refine gG ?_|refine gB ?_ ?_<;>intro h|refine gC (ze2 _) ?_|refine gL ?_
  ·have hb0:bytes s≠ []:=λe=>by rw[e]at hs;simp at hs
   cases hbs:bytes s with
   |nil=>exact absurd hbs hb0
   |cons c cs=>
    rw[hbs]at hc;simp only[List.getElem?_cons_zero,um]at hc
    have hl:yW c=false:=by rw[hc];simpa using h
    simp[isName,hbs,hl]
  ·have hnm:isName s=((bytes s).all isWord&& !y3 s):=by
    cases hbs:bytes s with
    |nil=>rw[hbs]at hs;simp at hs
    |cons c cs=>
     have hc':=hc
     rw[hbs]at hc';simp only[List.getElem?_cons_zero,um]at hc'
     have hl:yW c=true:=by rw[hc'];simpa using h
     have e1: ¬s.size=0:=by rw[hbl]at hs;omega
     have e2: ¬40<s.size:=by rename_i h2;have:=uq h2;omega
     simp only[isName,hbs,hl,e1,e2,q9,oA,tr]
   have hlen:s.size<=40:=by rename_i h2;have:=uq h2;omega
   refine zn (λi:Nat=>i<=s.size/\((bytes s).take i).all isWord=true) (λi=>([(0,Sr s),(3,I i)],[])) (λi=>s.size - i) hC
    0 ⟨uA _,ue⟩ id gM ?_
   rintro i ⟨hi,hn⟩
   refine zr T hC true 200 rfl ?_
   refine zu rfl ?_ ?_<;>intro h
   ·have hlt:i<(bytes s).length:=by rw[hbl];have:=uo h;omega
    obtain⟨c,hx⟩:=ze hlt
    obtain⟨b,hb,rfl⟩:=bytes_at hx
    repeat' first|refine gG ?_|refine gB ?_ ?_<;>intro h|refine gXS ?_|refine gC (zck _) ?_|refine zx ?_|refine gL ?_
    ·have hw:isWord (b.toNat:Int)=false:=by simpa using h
     rw[hnm,xJ hx hw];rfl
    ·have hw:isWord (b.toNat:Int)=true:=by simpa using h
     rw[wrap64 ua]
     refine zf (i+1) ⟨ua,?_⟩ id ua gM
     rw[ya hx,hn,hw];rfl
   ·have hge:s.size<=i:=by have:=uq h;omega
    repeat' first|refine gG ?_|refine gB ?_ ?_<;>intro h|refine zj ?_|refine gC (zby _) ?_|refine gQ ?_
    rw[hnm,xm (by rw[hbl];exact hge) hn];rfl
def isType(s:Str):Bool:=decide (s=(⟨#[105,110,116]⟩:UW))||decide (s=(⟨#[98,111,111,108]⟩:UW))||isName s
def zdt(s:Str):Bool:=decide (s=(⟨#[]⟩:UW))||isName s
def wC(f:Fld):Bool:=isName f.n&&isType f.t
def xb(l:List Fld)(most:Int):Bool:=decide ((l.length:Int)<=most)&&l.all wC
theorem zlq(s:Str):zk Tryz.prog 256 [Sr s] [] (.bq (isType s)) []:=by
 refine gO T Tryz.func256 λC hC=>?_
 repeat' first|refine gG ?_|refine gB ?_ ?_<;>intro h|refine gC (yR _) ?_|refine gQ ?_|refine gL ?_
 all_goals simp_all[isType]
theorem open_ok(s:Str):zk Tryz.prog 259 [Sr s] [] (.bq (zdt s)) []:=by
 refine gO T Tryz.func259 λC hC=>?_
 repeat' first|refine gG ?_|refine gB ?_ ?_<;>intro h|refine gC (yR _) ?_|refine gQ ?_|refine gL ?_
 all_goals simp_all[zdt]
theorem zcl(l:List Fld)(m:Int):zk Tryz.prog 212 [pS (yb l),I m] [] (.bq (xb l m)) []:=by
 refine gO T Tryz.func212 λC hC=>?_
 refine jq 0 rfl λhlen=>?_
 rw[uj]at hlen
 repeat' first|refine gG ?_|refine gB ?_ ?_<;>intro h|refine gL ?_
 ·have:=uo h
  rw[uj]at this
  have e:decide ((l.length:Int)<=m)=false:=uJ ua
  simp[xb,e]
 ·have hm:=uq h
  rw[uj]at hm
  have hfo:xb l m=l.all wC:=by
   have e:decide ((l.length:Int)<=m)=true:=uK ua
   simp[xb,e]
  rw[hfo]
  refine zn (λi:Nat=>i<=l.length/\(l.take i).all wC=true) (λi=>([(0,pS (yb l)),(1,I m),(5,I i)],[])) (λi=>l.length - i) hC
   0 ⟨uA _,ue⟩ id gM ?_
  rintro i ⟨hi,hn⟩
  refine zr T hC true 200 rfl ?_
  refine zu rfl ?_ ?_<;>intro h
  ·have hlt:i<l.length:=by simpa using h
   obtain⟨x,hx⟩:=ze hlt
   repeat' first|refine gG ?_|refine gB ?_ ?_<;>intro h|refine gX ?_|refine gC (yR _) ?_|refine gC (zlq _) ?_|refine zx ?_|refine gL ?_
   ·have hp:wC x=false:=by simp_all[wC]
    exact(xJ hx hp).symm
   ·have hp:wC x=false:=by simp_all[wC]
    exact(xJ hx hp).symm
   ·have hp:wC x=true:=by simp_all[wC]
    rw[wrap64 ua]
    refine zf (i+1) ⟨ua,?_⟩ id ua gM
    rw[ya hx,hn,hp];rfl
  ·have hge: ¬i<l.length:=by simpa using h
   repeat' first|refine gG ?_|refine gB ?_ ?_<;>intro h|refine zj ?_|refine gL ?_
   exact(xm ua hn).symm
def zvE(d:xo)(s:Str):Int:=idxOf (λt=>decide (t.n=s)) d.types
def zrm(s:Str):Bool:=decide (s=(⟨#[105,110,116]⟩:UW))||decide (s=(⟨#[98,111,111,108]⟩:UW))
def known(d:xo)(f:Fld):Bool:=zrm f.t|| !decide (zvE d f.t<0)
theorem newRow(n:Nat):List.replicate n [PV.k (.int .i64 0)]=(List.replicate n (0:Int)).map zR:=by rw[List.map_replicate];rfl
def yn(op:Int):Int:=
 if(decide (1<=op)&&decide (op<=4))||decide (op=6)then 0
 else if((decide (op=5)||decide (op=8))||decide (op=18))||decide (op=24)then 1
 else if op=7 then -1
 else if op=21 then 3
 else if decide (9<=op)&&decide (op<=23)then 2
 else -2
theorem zoD(op:Int):zk Tryz.prog 326 [I op] [] (I (yn op)) []:=by
 refine gO T Tryz.func326 λC hC=>?_
 repeat' first|refine gG ?_|refine gB ?_ ?_<;>intro h|refine gN ?_
 all_goals (simp only[yn];simp_all<;>omega)
def jl(e:Ex):Bool:=
 if e.op=4 then decide (e.s=(⟨#[116,104,105,115]⟩:UW))||isName e.s
 else if e.op=5\/e.op=6\/e.op=7 then isName e.s
 else decide (e.s=(⟨#[]⟩:UW))
theorem zoE(e:Ex):zk Tryz.prog 327 [zm (yG e)] [] (.bq (jl e)) []:=by
 refine gO T Tryz.func327 λC hC=>?_
 repeat' first|refine gG ?_|refine gB ?_ ?_<;>intro h|refine gC (yR _) ?_|refine gL ?_|refine gQ ?_
 all_goals simp_all[jl]
def zap(e:Ex):Bool:=
 !decide (yn e.op= -2)&& !(decide (0<=yn e.op)&& !decide ((e.l.length:Int)=yn e.op))&& !(decide (yn e.op= -1)&&decide (6<(e.l.length:Int)))&&jl e&&
 (if e.op=1 then decide (0<=e.n)&&decide (e.n<=1099511627776)else if e.op=2 then decide (e.n=0)||decide (e.n=1)else decide (e.n=0))
theorem zrn(e:Ex):zk Tryz.prog 309 [zm (yG e)] [] (.bq (zap e)) []:=by
 refine gO T Tryz.func309 λC hC=>?_
 repeat' first|refine gG ?_|refine gB ?_ ?_<;>intro h|refine gC (zoD _) ?_|refine gC (zoE _) ?_|refine gL ?_|refine gQ ?_
 all_goals (try simp only[uj]at*)
 all_goals (simp_all[zap]<;>omega)
mutual
def countS:Ex->Int->Int
 | .mk op n s l,d=>if decide (60<d)|| !zap (.mk op n s l)then 1001 else countL l d 1
def countL:List Ex->Int->Int->Int
 | [],_,n=>n
 |e::es,d,n=>if 1000<n+countS e (d+1)then n+countS e (d+1)else countL es d (n+countS e (d+1))
end
mutual
theorem xK: ∀(e:Ex) (d:Int),1<=countS e d/\countS e d<=1001+1000*(if d<=60 then 61 - d else 0)
 | .mk op n s l,d=>by
   simp only[countS]
   split
   ·split<;>omega
   ·rename_i h
    simp only[tM,ux,tH,UU]at h
    have:=jz l d 1 ua ua ua
    rw[uv ua];omega
theorem jz: ∀(l:List Ex) (d n:Int),1<=n->n<=1000->d<=60->1<=countL l d n/\countL l d n<=1001+1000*(61 - d)
 | [],d,n,h1,h2,h3=>by simp only[countL];omega
 |e::es,d,n,h1,h2,h3=>by
  simp only[countL]
  have hb:=xK e (d+1)
  split at hb
  ·split
   ·omega
   ·exact jz es d _ ua ua h3
  ·split
   ·omega
   ·exact jz es d _ ua ua h3
end
theorem zcm(e:Ex)(d:Int):countS e d=if decide (60<d)|| !zap e then 1001 else countL e.l d 1:=by
 cases e;simp only[countS,Ex.l]
theorem zlr{e x:Ex}(h:e.l[i]?=some x):sizeOf x<sizeOf e:=by
 obtain⟨op,n,s,l⟩:=e
 have:=qX (List.mem_of_getElem? h)
 simp only[Ex.l]at this
 simp only[Ex.mk.sizeOf_spec];omega
variable {α:Type}{x:α}
theorem drop_at{l:List α}(h:l[i]?=some x):l.drop i=x::l.drop (i+1):=by
 obtain⟨hlt,rfl⟩:=ui.1 h
 exact tS hlt
theorem zoF: ∀(N:Nat) (e:Ex) (d:Int),sizeOf e<N-> -1000<=d->d<=1000->zk Tryz.prog 286 [zm (yG e),I d] [] (I (countS e d)) []:=by
 intro N
 induction N with
 |zero=>intro e d h;omega
 |succ N ih=>
  intro e d hN hd1 hd2
  refine gO T Tryz.func286 λC hC=>?_
  refine jm rfl 0 3 rfl rfl λhlen=>?_
  rw[uj]at hlen
  repeat' first|refine gG ?_|refine gB ?_ ?_<;>intro h|refine gC (zrn _) ?_|refine gN ?_
  ·rw[zcm,h];rfl
  ·rename_i h0
   rw[zcm,h0,h];rfl
  ·rename_i h0
   have hd:d<=60:=by have:=uq h0;omega
   have hc:countS e d=countL e.l d 1:=by rw[zcm,h0,h];rfl
   rw[hc]
   refine zn (λp:Nat×Int=>p.1<=e.l.length/\1<=p.2/\p.2<=1000/\countL (e.l.drop p.1) d p.2=countL e.l d 1) (λp=>([(1,I d),(2,.one (.bx 1002 0)),(5,I p.2),(6,I p.1)],[(1002,some (.box ((yG e).map V.p)))])) (λp=>e.l.length - p.1) hC
    (0,1) ⟨uA _,ua,ua,rfl⟩ id gM ?_
   rintro⟨i,n⟩ ⟨hi,hn1,hn2,hn⟩
   simp only at hi hn1 hn2 hn
   refine zr T hC true 200 rfl ?_
   refine zu rfl ?_ ?_<;>intro h
   ·have hlt:i<e.l.length:=by simpa using h
    obtain⟨x,hx⟩:=ze hlt
    have hb:1<=countS x (d+1)/\countS x (d+1)<=2000000:=by
     have hb:=xK x (d+1)
     split at hb<;>omega
    have hw:IntKind.i64.wrap (n+countS x (d+1))=n+countS x (d+1):=wrap64 ua
    rw[drop_at hx]at hn
    simp only[countL]at hn
    repeat' first|refine gG ?_|refine gB ?_ ?_<;>intro h|refine gXE ?_
    rw[wrap64 ua]
    refine jk hC (ih x (d+1) (by have:=zlr hx;omega) ua ua) rfl rfl (yr.refl _) rfl rfl rfl ?_
    repeat' first|refine gG ?_|refine gB ?_ ?_<;>intro h|refine zx ?_|refine gN ?_
    ·simp only[hw]at h⊢
     rw[uv (uo h)]at hn
     exact hn
    ·simp only[hw]at h
     have hle:=uq h
     rw[ur hle]at hn
     have hw2:IntKind.i64.wrap ((i:Int)+1)=((i+1:Nat):Int):=by rw[wrap64 ua];omega
     simp only[hw,hw2]
     exact zf (i+1,n+countS x (d+1)) ⟨by simp only;omega,by simp only;omega,by simp only;omega,hn⟩ id (by simp only;omega) gM
   ·have hge: ¬i<e.l.length:=by simpa using h
    rw[tf ua]at hn
    simp only[countL]at hn
    repeat' first|refine gG ?_|refine gB ?_ ?_<;>intro h|refine zj ?_|refine gN ?_
    exact hn
def xq(e:Ex):Bool:=decide (countS e 1<=1000)
theorem zcn(e:Ex):zk Tryz.prog 258 [zm (yG e)] [] (.bq (xq e)) []:=by
 refine gO T Tryz.func258 λC hC=>?_
 repeat' first|refine gG ?_|refine gB ?_ ?_<;>intro h|refine jk hC (zoF (sizeOf e+1) e 1 ua ua ua) rfl rfl (yr.refl _) rfl rfl rfl ?_|refine gQ ?_
 rfl
def xO(s:Sm)(lo hi:Int):Bool:= !decide ((s.e.length:Int)<lo)&& !decide (hi<(s.e.length:Int))&&s.e.all xq
theorem zoG(s:Sm)(lo hi:Int):zk Tryz.prog 308 [zm (za7 s),I lo,I hi] [] (.bq (xO s lo hi)) []:=by
 refine gO T Tryz.func308 λC hC=>?_
 refine jm rfl 0 2 rfl rfl λhlen=>?_
 rw[uj]at hlen
 repeat' first|refine gG ?_|refine gB ?_ ?_<;>intro h|refine gL ?_
 ·rw[uj]at h
  simp only[xO,h,ot,qu]
 ·rename_i h0
  rw[uj]at h h0
  simp only[xO,h,h0,ot,oA,qu,qz]
 ·rename_i h0
  rw[uj]at h h0
  have hm:xO s lo hi=s.e.all xq:=by simp only[xO,h,h0,oA,tr]
  rw[hm]
  refine zn (λi:Nat=>i<=s.e.length/\(s.e.take i).all xq=true) (λi=>([(3,.one (.bx 1003 0)),(7,I i)],[(1003,some (.box ((za7 s).map V.p)))])) (λi=>s.e.length - i) hC
   0 ⟨uA _,ue⟩ id gM ?_
  rintro i ⟨hi,hn⟩
  refine zr T hC true 200 rfl ?_
  refine zu rfl ?_ ?_<;>intro h
  ·have hlt:i<s.e.length:=by simpa using h
   obtain⟨x,hx⟩:=ze hlt
   repeat' first|refine gG ?_|refine gB ?_ ?_<;>intro h|refine gXE ?_|refine gC (zcn x) ?_|refine zx ?_|refine gL ?_
   ·exact(xJ hx (by simpa using h)).symm
   ·have hp:xq x=true:=by simpa using h
    rw[wrap64 ua]
    refine zf (i+1) ⟨ua,?_⟩ id ua gM
    rw[ya hx,hn,hp];rfl
  ·have hge: ¬i<s.e.length:=by simpa using h
   repeat' first|refine gG ?_|refine gB ?_ ?_<;>intro h|refine zj ?_|refine gL ?_
   exact(xm ua hn).symm
theorem zic{l:List Ex}{x:Ex}(h:l[0]?=some x):(l.map zG)[(0:Int).toNat]?=some (yG x):=jy (i:=0) h
def zaq(s:Sm):Bool:=decide ((s.l.length:Int)=0)&&decide ((s.els.length:Int)=0)
def zid(s:Sm)(b:Bool):Bool:=
 if s.op=1 then isName s.s&&xO s 1 1&&b
 else if s.op=2 then isName s.s&&xO s 2 2&&b
 else if s.op=3 then decide (s.s=(⟨#[]⟩:UW))&&xO s 1 1
 else if s.op=4 then decide (s.s=(⟨#[]⟩:UW))&&xO s 1 1&&decide ((s.els.length:Int)=0)
 else if s.op=5 then decide (s.s=(⟨#[]⟩:UW))&&xO s 0 1&&b
 else if s.op=6 then decide (s.s=(⟨#[]⟩:UW))&&xO s 1 1&&decide ((s.e[0]?).map Ex.op=some 7)&&b
 else false
def zaG(s:Sm):Bool:=zid s (zaq s)
theorem zgH{s:Sm}(h:xO s 1 1=true): ∃x,s.e[0]?=some x:=by
 refine ze ?_
 simp only[xO,uu,tH,uX]at h
 have:=h.1.1;omega
theorem zoH(s:Sm):zk Tryz.prog 285 [zm (za7 s)] [] (.bq (zaG s)) []:=by
 refine gO T Tryz.func285 λC hC=>?_
 refine zr T hC true 7 rfl ?_
 refine zvF (λb:Bool=>b=zaq s) (λb=>([(1,.one (.bx 1001 0)),(3,.bq b)],[(1001,some (.box ((za7 s).map V.p)))])) hC ?_ ?_
 ·repeat' first|refine gG ?_|refine gB ?_ ?_<;>intro h
  all_goals
   simp only[uj]at h⊢
   first
    |refine zaf 3 rfl (LeS.qq (b':=zaq s) (by simp only[zaq,h,tr,qu])) ?_
    |refine zaf 3 rfl (LeS.qb (b':=zaq s) (by simp only[zaq,h,tr,qu])) ?_
   exact zts _ rfl id gM
 ·rintro b hb
  have hs:zaG s=zid s b:=by rw[hb];rfl
  rw[hs]
  clear hs hb
  repeat' first|refine gG ?_|refine gB ?_ ?_<;>intro h|refine gC (yR _) ?_|refine gC (zoG _ _ _) ?_|refine gL ?_|refine gQ ?_|(obtain⟨x,hx⟩:=zgH uf;refine yM T hC rfl rfl rfl (qB _) (zic hx) rfl rfl ?_)
  all_goals (try simp only[uj])
  all_goals simp_all[zid]
def zgy(n k:Int):Int:=if n<=200 then n+k else n
mutual
def stN:Sm->Int->Int->Int
 | .mk op s e l els,d,n=>if decide (60<d)|| !zaG (.mk op s e l els)then 201 else zgy (zgy (n+1) (stL l (d+1) 0)) (stL els (d+1) 0)
def stL:List Sm->Int->Int->Int
 | [],_,n=>n
 |s::r,d,n=>if 200<stN s d n then stN s d n else stL r d (stN s d n)
end
theorem ze4(s:Sm)(d n:Int):stN s d n=if decide (60<d)|| !zaG s then 201 else zgy (zgy (n+1) (stL s.l (d+1) 0)) (stL s.els (d+1) 0):=by
 cases s;simp only[stN,Sm.l,Sm.els]
def zoo(d:Int):Int:=201+400*(if d<=60 then 61 - d else 0)
theorem zdu{n k K:Int}(hn:0<=n)(hk:0<=k/\k<=K)(h:n<=200+K):0<=zgy n k/\zgy n k<=200+K:=by
 unfold zgy;split<;>omega
mutual
theorem zls: ∀(s:Sm) (d n:Int),0<=n->n<=200->0<=stN s d n/\stN s d n<=zoo d
 | .mk op s e l els,d,n,h0,h1=>by
   simp only[stN]
   split
   ·unfold zoo;split<;>omega
   ·rename_i h
    simp only[tM,ux,tH,UU]at h
    have b1:=wo l (d+1) 0 ua ua
    have b2:=wo els (d+1) 0 ua ua
    have b0:1<=zoo (d+1):=by unfold zoo;split<;>omega
    have c1:=zdu (n:=n+1) ua b1 ua
    have c2:=zdu c1.1 b2 c1.2
    have:200+zoo (d+1)<=zoo d:=by unfold zoo;rw[uv (c:=d<=60) ua];split<;>omega
    omega
theorem wo: ∀(l:List Sm) (d n:Int),0<=n->n<=200->0<=stL l d n/\stL l d n<=zoo d
 | [],d,n,h0,h1=>by
   simp only[stL];refine⟨h0,?_⟩;unfold zoo;split<;>omega
 |s::r,d,n,h0,h1=>by
  simp only[stL]
  have b:=zls s d n h0 h1
  split
  ·exact b
  ·exact wo r d _ b.1 ua
end
theorem zie(s:Sm):sizeOf s.l<sizeOf s/\sizeOf s.els<sizeOf s:=by
 cases s;simp only[Sm.l,Sm.els,Sm.mk.sizeOf_spec];omega
theorem zlt[SizeOf α]{l:List α}(h:l[i]?=some x):sizeOf x<sizeOf l:=qX (List.mem_of_getElem? h)
theorem zoI: ∀(N:Nat) (l:List Sm) (d:Int),sizeOf l<N->0<=d->d<=61->zk Tryz.prog 257 [pS (yF l),I d] [] (I (stL l d 0)) []:=by
 intro N
 induction N with
 |zero=>intro l d h;omega
 |succ N ih=>
  intro l d hN hd1 hd2
  refine gO T Tryz.func257 λC hC=>?_
  refine jq 0 rfl λhlen=>?_
  rw[uj]at hlen
  repeat' first|refine gG ?_|refine gB ?_ ?_<;>intro h
  refine zn (λp:Nat×Int=>p.1<=l.length/\0<=p.2/\p.2<=200/\stL (l.drop p.1) d p.2=stL l d 0) (λp=>([(0,pS (yF l)),(1,I d),(5,I p.2),(6,I p.1)],[])) (λp=>l.length - p.1) hC
   (0,0) ⟨uA _,ua,ua,rfl⟩ id gM ?_
  rintro⟨i,n⟩ ⟨hi,hn1,hn2,hn⟩
  simp only at hi hn1 hn2 hn
  refine zr T hC true 200 rfl ?_
  refine zu rfl ?_ ?_<;>intro h
  ·have hlt:i<l.length:=by simpa using h
   clear h
   obtain⟨x,hx⟩:=ze hlt
   have hsz:=zlt hx
   have hss:=zie x
   rw[drop_at hx]at hn
   simp only[stL]at hn
   have hcap: ∀k:List Sm,0<=stL k (d+1) 0/\stL k (d+1) 0<=100000:=λk=>by
    have:=wo k (d+1) 0 ua ua
    unfold zoo at this;split at this<;>omega
   have c1:=hcap x.l
   have c2:=hcap x.els
   clear hcap
   have k1:=λhd:d<=60=>ih x.l (d+1) ua ua ua
   have k2:=λhd:d<=60=>ih x.els (d+1) ua ua ua
   have w1:IntKind.i64.wrap (d+1)=d+1:=wrap64 ua
   have w2:IntKind.i64.wrap (n+1)=n+1:=wrap64 ua
   have w3:((i:Int)+1)=((i+1:Nat):Int):=by omega
   have w4:IntKind.i64.wrap ((i:Int)+1)=((i+1:Nat):Int):=by rw[w3];exact wrap64 ua
   generalize hy1:stL x.l (d+1) 0=y1 at*
   generalize hy2:stL x.els (d+1) 0=y2 at*
   have w5:IntKind.i64.wrap (n+1+y1)=n+1+y1:=wrap64 ua
   have w6:IntKind.i64.wrap (n+1+y2)=n+1+y2:=wrap64 ua
   have w7:IntKind.i64.wrap (n+1+y1+y2)=n+1+y1+y2:=wrap64 ua
   rw[ze4,hy1,hy2]at hn
   repeat' first|refine gG ?_|refine gB ?_ ?_<;>intro h|refine gXT ?_|refine gC (zoH _) ?_|refine zx ?_|refine gN ?_|rw[w1]|rw[w2]|rw[w4]|rw[w7]|rw[w5]|rw[w6]|refine jk hC (k1 (Int.not_lt.1 (uq uf))) rfl rfl (yr.refl _) rfl rfl rfl ?_|refine jk hC (k2 (Int.not_lt.1 (uq uf))) rfl rfl (yr.refl _) rfl rfl rfl ?_
   all_goals
    clear ih k1 k2 hx hsz hss hN hlen w1 w3 w4 hy1 hy2
    simp only[w2,w5,w6,w7,ux,uX]at*
    try simp only[*,oC,q9,ot,oA,US,Bool.or_false,Bool.true_or,oG,qx,tO,zgy,uU]at hn
    first
     |omega
     |(refine zf (i+1,n+1+y1+y2) ⟨by simp only;omega,by simp only;omega,by simp only;omega,?_⟩ id (by simp only;omega) gM
       exact hn)
  ·have hge: ¬i<l.length:=by simpa using h
   rw[tf ua]at hn
   simp only[stL]at hn
   repeat' first|refine gG ?_|refine gB ?_ ?_<;>intro h|refine zj ?_|refine gN ?_
   exact hn
def x5(p:Pr):Bool:=isName p.n&&xb p.params 6&&xb p.locs 12&&(decide (p.res=(⟨#[]⟩:UW))||isType p.res)&&decide (stL p.body 1 0<=200)
theorem ze5(p:Pr):zk Tryz.prog 213 [zm (xc p)] [] (.bq (x5 p)) []:=by
 refine gO T Tryz.func213 λC hC=>?_
 repeat' first|refine gG ?_|refine gB ?_ ?_<;>intro h|refine gC (yR _) ?_|refine gC (zcl _ _) ?_|refine gC (zlq _) ?_|refine jk hC (zoI (sizeOf p.body+1) p.body 1 ua ua ua) rfl rfl (yr.refl _) rfl rfl rfl ?_|refine gL ?_|refine gQ ?_
 all_goals simp_all[x5]
def xP(m:Ms):Bool:=isName m.n&&isName m.t&& !decide (m.z< -1099511627776)&& !decide (1099511627776<m.z)&&xq m.x
def vS(m:Iv):Bool:=isName m.n&&zdt m.t&&xq m.x
def vT(m:Pt):Bool:=zdt m.t&&xq m.x
def x9(m:Bd):Bool:=isName m.p&&xq m.x
def yd(d:xo):Bool:=d.measures.all xP&&d.invs.all vS&&d.pots.all vT&&d.bounds.all x9
theorem zgI(d:xo):zk Tryz.prog 214 [zm (vz d)] [] (.bq (yd d)) []:=by
 refine gO T Tryz.func214 λC hC=>?_
 refine jm rfl 0 4 rfl rfl λhl1=>jm rfl 0 5 rfl rfl λhl2=>jm rfl 0 6 rfl rfl λhl3=>jm rfl 0 7 rfl rfl λhl4=>?_
 rw[uj]at hl1 hl2 hl3 hl4
 repeat' first|refine gG ?_|refine gB ?_ ?_<;>intro h
 refine zn (λi:Nat=>i<=(d.measures).length/\((d.measures).take i).all (xP)=true) (λi=>([(1,.one (.bx 1001 0)),(3,I i)],[(1001,some (.box ((vz d).map V.p)))])) (λi=>(d.measures).length - i) hC
  0 ⟨uA _,ue⟩ id gM ?_
 rintro i ⟨hi,hn⟩
 refine zr T hC true 200 rfl ?_
 refine zu rfl ?_ ?_<;>intro h
 ·have hlt:i<(d.measures).length:=by first|simpa using h|(have h':=uo h;simp only[uj,tC]at h' ⊢; omega)
  clear h
  obtain⟨x,hx⟩:=ze hlt
  repeat' first|refine gG ?_|refine gB ?_ ?_<;>intro h|refine gX ?_|refine gC (yR _) ?_|refine gC (zcn x.x) ?_|refine zx ?_|refine gL ?_
  all_goals first
   |(have hp:(xP) x=true:=by clear hn hx hlt hi;simp_all[xP, -List.all_eq_true, -List.all_eq_false]<;>omega
     have hlt':=hlt
     try simp only[tC,qG]at hlt'
     rw[wrap64 ua]
     refine zf (i+1) ⟨ua,?_⟩ id ua gM
     rw[ya (p:=xP) hx,hn,tr];exact hp)
   |(have hp:(xP) x=false:=by clear hn hx hlt hi;simp_all[xP, -List.all_eq_true, -List.all_eq_false]<;>omega
     have hno:=xJ (p:=xP) hx hp
     simp only[yd,hno,qu])
 have hge: ¬i<(d.measures).length:=by first|simpa using h|(have h':=uq h;simp only[uj,tC]at h' ⊢; omega)
 have hall:(d.measures).all (xP)=true:=xm (p:=xP) ua hn
 clear h hge hn hi
 repeat' first|refine gG ?_|refine gB ?_ ?_<;>intro h|refine zj ?_
 refine zn (λi:Nat=>i<=(d.invs).length/\((d.invs).take i).all (vS)=true) (λi=>([(1,.one (.bx 1001 0)),(5,I i)],[(1001,some (.box ((vz d).map V.p)))])) (λi=>(d.invs).length - i) hC
  0 ⟨uA _,ue⟩ id gM ?_
 rintro i ⟨hi,hn⟩
 refine zr T hC true 200 rfl ?_
 refine zu rfl ?_ ?_<;>intro h
 ·have hlt:i<(d.invs).length:=by first|simpa using h|(have h':=uo h;simp only[uj,tC]at h' ⊢; omega)
  clear h
  obtain⟨x,hx⟩:=ze hlt
  repeat' first|refine gG ?_|refine gB ?_ ?_<;>intro h|refine gX ?_|refine gC (yR _) ?_|refine gC (open_ok _) ?_|refine gC (zcn x.x) ?_|refine zx ?_|refine gL ?_
  all_goals first
   |(have hp:(vS) x=true:=by clear hn hx hlt hi;simp_all[vS, -List.all_eq_true, -List.all_eq_false]<;>omega
     have hlt':=hlt
     try simp only[tC,qG]at hlt'
     rw[wrap64 ua]
     refine zf (i+1) ⟨ua,?_⟩ id ua gM
     rw[ya (p:=vS) hx,hn,tr];exact hp)
   |(have hp:(vS) x=false:=by clear hn hx hlt hi;simp_all[vS, -List.all_eq_true, -List.all_eq_false]<;>omega
     have hno:=xJ (p:=vS) hx hp
     simp only[yd,hno,qu,qz])
 have hge: ¬i<(d.invs).length:=by first|simpa using h|(have h':=uq h;simp only[uj,tC]at h' ⊢; omega)
 have hall:(d.invs).all (vS)=true:=xm (p:=vS) ua hn
 clear h hge hn hi
 rename_i hall1
 repeat' first|refine gG ?_|refine gB ?_ ?_<;>intro h|refine zj ?_
 refine zn (λi:Nat=>i<=(d.pots).length/\((d.pots).take i).all (vT)=true) (λi=>([(1,.one (.bx 1001 0)),(6,I i)],[(1001,some (.box ((vz d).map V.p)))])) (λi=>(d.pots).length - i) hC
  0 ⟨uA _,ue⟩ id gM ?_
 rintro i ⟨hi,hn⟩
 refine zr T hC true 200 rfl ?_
 refine zu rfl ?_ ?_<;>intro h
 ·have hlt:i<(d.pots).length:=by first|simpa using h|(have h':=uo h;simp only[uj,tC]at h' ⊢; omega)
  clear h
  obtain⟨x,hx⟩:=ze hlt
  repeat' first|refine gG ?_|refine gB ?_ ?_<;>intro h|refine gX ?_|refine gC (open_ok _) ?_|refine gC (zcn x.x) ?_|refine zx ?_|refine gL ?_
  all_goals first
   |(have hp:(vT) x=true:=by clear hn hx hlt hi;simp_all[vT, -List.all_eq_true, -List.all_eq_false]<;>omega
     have hlt':=hlt
     try simp only[tC,qG]at hlt'
     rw[wrap64 ua]
     refine zf (i+1) ⟨ua,?_⟩ id ua gM
     rw[ya (p:=vT) hx,hn,tr];exact hp)
   |(have hp:(vT) x=false:=by clear hn hx hlt hi;simp_all[vT, -List.all_eq_true, -List.all_eq_false]<;>omega
     have hno:=xJ (p:=vT) hx hp
     simp only[yd,hno,qu,qz])
 have hge: ¬i<(d.pots).length:=by first|simpa using h|(have h':=uq h;simp only[uj,tC]at h' ⊢; omega)
 have hall:(d.pots).all (vT)=true:=xm (p:=vT) ua hn
 clear h hge hn hi
 rename_i hall2
 repeat' first|refine gG ?_|refine gB ?_ ?_<;>intro h|refine zj ?_
 refine zn (λi:Nat=>i<=(d.bounds).length/\((d.bounds).take i).all (x9)=true) (λi=>([(1,.one (.bx 1001 0)),(7,I i)],[(1001,some (.box ((vz d).map V.p)))])) (λi=>(d.bounds).length - i) hC
  0 ⟨uA _,ue⟩ id gM ?_
 rintro i ⟨hi,hn⟩
 refine zr T hC true 200 rfl ?_
 refine zu rfl ?_ ?_<;>intro h
 ·have hlt:i<(d.bounds).length:=by first|simpa using h|(have h':=uo h;simp only[uj,tC]at h' ⊢; omega)
  clear h
  obtain⟨x,hx⟩:=ze hlt
  repeat' first|refine gG ?_|refine gB ?_ ?_<;>intro h|refine gX ?_|refine gC (yR _) ?_|refine gC (zcn x.x) ?_|refine zx ?_|refine gL ?_
  all_goals first
   |(have hp:(x9) x=true:=by clear hn hx hlt hi;simp_all[x9, -List.all_eq_true, -List.all_eq_false]<;>omega
     have hlt':=hlt
     try simp only[tC,qG]at hlt'
     rw[wrap64 ua]
     refine zf (i+1) ⟨ua,?_⟩ id ua gM
     rw[ya (p:=x9) hx,hn,tr];exact hp)
   |(have hp:(x9) x=false:=by clear hn hx hlt hi;simp_all[x9, -List.all_eq_true, -List.all_eq_false]<;>omega
     have hno:=xJ (p:=x9) hx hp
     simp only[yd,hno,qu,qz])
 have hge: ¬i<(d.bounds).length:=by first|simpa using h|(have h':=uq h;simp only[uj,tC]at h' ⊢; omega)
 have hall:(d.bounds).all (x9)=true:=xm (p:=x9) ua hn
 clear h hge hn hi
 rename_i hall3
 repeat' first|refine gG ?_|refine gB ?_ ?_<;>intro h|refine zj ?_|refine gL ?_
 simp only[yd,hall,hall1,hall2,hall3,tr,qJ]
def wG(t:zaa):Bool:=isName t.n&&xb t.f 12
def zaH(d:xo):Bool:=isName d.n&& !decide (12<(d.types.length:Int))&&xb d.globals 8&& !decide (40<(d.procs.length:Int))&&
 !decide (12<(d.measures.length:Int))&& !decide (12<(d.invs.length:Int))&& !decide (12<(d.pots.length:Int))&& !decide (12<(d.bounds.length:Int))
def yX(d:xo):Bool:=zaH d&&d.types.all wG&&d.procs.all x5&&yd d
theorem zjI(d:xo):zk Tryz.prog 166 [zm (vz d)] [] (.bq (yX d)) []:=by
 refine gO T Tryz.func166 λC hC=>?_
 refine jm rfl 0 1 rfl rfl λhl1=>jm rfl 0 3 rfl rfl λhl2=>?_
 rw[uj]at hl1 hl2
 repeat' first|refine gG ?_|refine gB ?_ ?_<;>intro h|refine gC (yR _) ?_|refine gC (zcl _ _) ?_|refine gL ?_
 all_goals (try simp only[uj]at*)
 rotate_right
 ·rename_i h1 h2 h3 h4 h5 h6 h7
  have hpre:zaH d=true:=by simp_all[zaH]
  clear h h1 h2 h3 h4 h5 h6 h7
  have hv:yX d=(d.types.all wG&&d.procs.all x5&&yd d):=by simp only[yX,hpre,tr]
  rw[hv]
  repeat' first|refine gG ?_|refine gB ?_ ?_<;>intro h
  refine zn (λi:Nat=>i<=(d.types).length/\((d.types).take i).all (wG)=true) (λi=>([(1,.one (.bx 1001 0)),(3,I i)],[(1001,some (.box ((vz d).map V.p)))])) (λi=>(d.types).length - i) hC
   0 ⟨uA _,ue⟩ id gM ?_
  rintro i ⟨hi,hn⟩
  refine zr T hC true 200 rfl ?_
  refine zu rfl ?_ ?_<;>intro h
  ·have hlt:i<(d.types).length:=by first|simpa using h|(have h':=uo h;simp only[uj,tC]at h' ⊢; omega)
   clear h
   obtain⟨x,hx⟩:=ze hlt
   repeat' first|refine gG ?_|refine gB ?_ ?_<;>intro h|refine gX ?_|refine gC (yR _) ?_|refine gC (zcl _ _) ?_|refine zx ?_|refine gL ?_
   all_goals first
    |(have hp:(wG) x=true:=by clear hn hx hlt hi;simp_all[wG, -List.all_eq_true, -List.all_eq_false]<;>omega
      have hlt':=hlt
      try simp only[tC,qG]at hlt'
      rw[wrap64 ua]
      refine zf (i+1) ⟨ua,?_⟩ id ua gM
      rw[ya (p:=wG) hx,hn,tr];exact hp)
    |(have hp:(wG) x=false:=by clear hn hx hlt hi;simp_all[wG, -List.all_eq_true, -List.all_eq_false]<;>omega
      have hno:=xJ (p:=wG) hx hp
      simp only[hno,qu])
  have hge: ¬i<(d.types).length:=by first|simpa using h|(have h':=uq h;simp only[uj,tC]at h' ⊢; omega)
  have hall:(d.types).all (wG)=true:=xm (p:=wG) ua hn
  clear h hge hn hi
  repeat' first|refine gG ?_|refine gB ?_ ?_<;>intro h|refine zj ?_
  refine zn (λi:Nat=>i<=(d.procs).length/\((d.procs).take i).all (x5)=true) (λi=>([(1,.one (.bx 1001 0)),(4,I i)],[(1001,some (.box ((vz d).map V.p)))])) (λi=>(d.procs).length - i) hC
   0 ⟨uA _,ue⟩ id gM ?_
  rintro i ⟨hi,hn⟩
  refine zr T hC true 200 rfl ?_
  refine zu rfl ?_ ?_<;>intro h
  ·have hlt:i<(d.procs).length:=by first|simpa using h|(have h':=uo h;simp only[uj,tC]at h' ⊢; omega)
   clear h
   obtain⟨x,hx⟩:=ze hlt
   repeat' first|refine gG ?_|refine gB ?_ ?_<;>intro h|refine gX ?_|refine gC (ze5 x) ?_|refine zx ?_|refine gL ?_
   all_goals first
    |(have hp:(x5) x=true:=by clear hn hx hlt hi;simp_all[-List.all_eq_true, -List.all_eq_false]<;>omega
      have hlt':=hlt
      try simp only[tC,qG]at hlt'
      rw[wrap64 ua]
      refine zf (i+1) ⟨ua,?_⟩ id ua gM
      rw[ya (p:=x5) hx,hn,tr];exact hp)
    |(have hp:(x5) x=false:=by clear hn hx hlt hi;simp_all[-List.all_eq_true, -List.all_eq_false]<;>omega
      have hno:=xJ (p:=x5) hx hp
      simp only[hno,qu,qz])
  have hge: ¬i<(d.procs).length:=by first|simpa using h|(have h':=uq h;simp only[uj,tC]at h' ⊢; omega)
  have hall:(d.procs).all (x5)=true:=xm (p:=x5) ua hn
  clear h hge hn hi
  rename_i hall1
  repeat' first|refine gG ?_|refine gB ?_ ?_<;>intro h|refine zj ?_|refine gC (zgI _) ?_|refine gQ ?_
  simp only[hall,hall1,tr]
 all_goals (simp_all[yX,zaH])
mutual
def leftS:Ex->Int->Int->Int
 | .mk _ _ s l,d,n=>if decide (n<=0)||decide (d=0)||decide (100<(s.size:Int))then -1 else leftL l (d - 1) (n - 1)
def leftL:List Ex->Int->Int->Int
 | [],_,n=>n
 |e::es,d,n=>if 0<=n then leftL es d (leftS e d n)else n
end
mutual
theorem zgJ: ∀(e:Ex) (d n:Int), -1<=n-> -1<=leftS e d n/\leftS e d n<=n
 | .mk a b s l,d,n,h=>by
   simp only[leftS]
   split
   ·omega
   ·rename_i h'
    simp only[tM,ux,UU]at h'
    have:=zar l (d - 1) (n - 1) ua;omega
theorem zar: ∀(l:List Ex) (d n:Int), -1<=n-> -1<=leftL l d n/\leftL l d n<=n
 | [],d,n,h=>by simp only[leftL];omega
 |e::es,d,n,h=>by
  simp only[leftL]
  split
  ·have h1:=zgJ e d n h
   have h2:=zar es d _ h1.1
   omega
  ·omega
end
theorem zlu(e:Ex):sizeOf e.l<sizeOf e:=by
 cases e;simp only[Ex.l,Ex.mk.sizeOf_spec];omega
mutual
def laN:Sm->Int->Int->Int
 | .mk _ s e l els,d,n=>if 100<(s.size:Int)then -1 else
    if 0<=(if 0<=leftL e 65 (n - 1)then(if d - 1=0 then -1 else laL l (d - 1) (leftL e 65 (n - 1)))else leftL e 65 (n - 1))then
     (if d - 1=0 then -1 else laL els (d - 1) (if 0<=leftL e 65 (n - 1)then(if d - 1=0 then -1 else laL l (d - 1) (leftL e 65 (n - 1)))else leftL e 65 (n - 1)))
    else(if 0<=leftL e 65 (n - 1)then(if d - 1=0 then -1 else laL l (d - 1) (leftL e 65 (n - 1)))else leftL e 65 (n - 1))
def laL:List Sm->Int->Int->Int
 | [],_,n=>n
 |s::r,d,n=>if 0<=n then laL r d (laN s d n)else n
end
def laS(l:List Sm)(d n:Int):Int:=if d=0 then -1 else laL l d n
def laT(l:List Sm)(d n:Int):Int:=if 0<=n then laS l d n else n
theorem ztt(s:Sm)(d n:Int):laN s d n=if 100<(s.s.size:Int)then -1 else laT s.els (d - 1) (laT s.l (d - 1) (leftL s.e 65 (n - 1))):=by
 cases s;rfl
theorem ze6{l:List Sm}{d n:Int}(h: -1<=n)(ih:0<=n-> -1<=laL l d n/\laL l d n<=n): -1<=laT l d n/\laT l d n<=n:=by
 unfold laT laS
 split
 ·split
  ·omega
  ·exact ih ua
 ·omega
mutual
theorem zlv: ∀(s:Sm) (d n:Int),0<=n-> -1<=laN s d n/\laN s d n<=n
 | .mk op s e l els,d,n,h=>by
   rw[ztt]
   by_cases hh:100<((Sm.mk op s e l els).s.size:Int)
   ·rw[uv hh];omega
   ·rw[ur hh]
    simp only[Sm.els,Sm.l,Sm.e]
    have h1:=zar e 65 (n - 1) ua
    have h2:=ze6 (l:=l) (d:=d - 1) h1.1 (λh0=>zco l (d - 1) _ ua)
    have h3:=ze6 (l:=els) (d:=d - 1) h2.1 (λh0=>zco els (d - 1) _ ua)
    omega
theorem zco: ∀(l:List Sm) (d n:Int), -1<=n-> -1<=laL l d n/\laL l d n<=n
 | [],d,n,h=>by simp only[laL];omega
 |s::r,d,n,h=>by
  simp only[laL]
  split
  ·rename_i h0
   have h1:=zlv s d n h0
   have h2:=zco r d _ h1.1
   omega
  ·omega
end
theorem zd9(i:Nat):((i:Int)+1)=((i+1:Nat):Int):=by omega
theorem zC(h:i<9223372036854775807):IntKind.i64.wrap ((i:Int)+1)=((i+1:Nat):Int):=by rw[zd9];exact wrap64 ua
end Hw.Fr.Ps
namespace Hw.Fr
open Go Go.Proofs Go.Shelf
def zgK:Go.Shelf.Ren:=⟨λ|157=>293|229=>313|199=>314|261=>328|311=>336|312=>337|n=>n,λ|9=>9|31=>151|3=>3|5=>5|4=>4|119=>375|0=>0|40=>377|152=>387|21=>21|154=>389|51=>284|141=>391|196=>405|193=>402|198=>407|49=>40|194=>403|201=>410|226=>416|46=>178|227=>417|n=>n,λ|0=>2|6=>5|n=>n⟩
theorem zro:Go.Proofs.Lays.n157 Tryz.prog zgK where
 mixed:=by kernel_rfl
 f157:=Tryz.func293.trans (uR some ud)
 f199:=Tryz.func314.trans (uR some ud)
 f229:=Tryz.func313.trans (uR some ud)
 f261:=Tryz.func328.trans (uR some ud)
 f311:=Tryz.func336.trans (uR some ud)
 f312:=Tryz.func337.trans (uR some ud)
 t0:=Tryz.underlying0
 a0:=Tryz.isAgg0
 z0:=Tryz.sizeOf0
 v0:=Tryz.zeroValue0
 t3:=Tryz.underlying3
 a3:=Tryz.isAgg3
 z3:=Tryz.sizeOf3
 v3:=Tryz.zeroValue3
 t4:=Tryz.underlying4
 a4:=Tryz.isAgg4
 z4:=Tryz.sizeOf4
 v4:=Tryz.zeroValue4
 t5:=Tryz.underlying5
 a5:=Tryz.isAgg5
 z5:=Tryz.sizeOf5
 v5:=Tryz.zeroValue5
 t9:=Tryz.underlying9
 a9:=Tryz.isAgg9
 z9:=Tryz.sizeOf9
 v9:=Tryz.zeroValue9
 t21:=Tryz.underlying21
 a21:=Tryz.isAgg21
 z21:=Tryz.sizeOf21
 v21:=Tryz.zeroValue21
 t31:=Tryz.underlying151
 a31:=Tryz.isAgg151
 z31:=Tryz.sizeOf151
 v31:=Tryz.zeroValue151
 t40:=Tryz.underlying377
 a40:=Tryz.isAgg377
 z40:=Tryz.sizeOf377
 v40:=Tryz.zeroValue377
 t46:=Tryz.underlying178
 a46:=Tryz.isAgg178
 z46:=Tryz.sizeOf178
 v46:=Tryz.zeroValue178
 t49:=Tryz.underlying40
 a49:=Tryz.isAgg40
 z49:=Tryz.sizeOf40
 v49:=Tryz.zeroValue40
 t51:=Tryz.underlying284
 a51:=Tryz.isAgg284
 z51:=Tryz.sizeOf284
 v51:=Tryz.zeroValue284
 t119:=Tryz.underlying375
 a119:=Tryz.isAgg375
 z119:=Tryz.sizeOf375
 t141:=Tryz.underlying391
 a141:=Tryz.isAgg391
 z141:=Tryz.sizeOf391
 v141:=Tryz.zeroValue391
 t152:=Tryz.underlying387
 a152:=Tryz.isAgg387
 z152:=Tryz.sizeOf387
 v152:=Tryz.zeroValue387
 t154:=Tryz.underlying389
 a154:=Tryz.isAgg389
 z154:=Tryz.sizeOf389
 v154:=Tryz.zeroValue389
 t193:=Tryz.underlying402
 a193:=Tryz.isAgg402
 z193:=Tryz.sizeOf402
 v193:=Tryz.zeroValue402
 t194:=Tryz.underlying403
 a194:=Tryz.isAgg403
 z194:=Tryz.sizeOf403
 v194:=Tryz.zeroValue403
 t196:=Tryz.underlying405
 a196:=Tryz.isAgg405
 z196:=Tryz.sizeOf405
 v196:=Tryz.zeroValue405
 t198:=Tryz.underlying407
 a198:=Tryz.isAgg407
 z198:=Tryz.sizeOf407
 v198:=Tryz.zeroValue407
 t201:=Tryz.underlying410
 a201:=Tryz.isAgg410
 z201:=Tryz.sizeOf410
 v201:=Tryz.zeroValue410
 t226:=Tryz.underlying416
 a226:=Tryz.isAgg416
 z226:=Tryz.sizeOf416
 v226:=Tryz.zeroValue416
 t227:=Tryz.underlying417
 a227:=Tryz.isAgg417
 z227:=Tryz.sizeOf417
 v227:=Tryz.zeroValue417
 g0:=by kernel_rfl
 g6:=by kernel_rfl
end Hw.Fr
