/- The engine, part AW: a literal of one part in a box; rows of integers as cells; what a call of the library's leaves in an array of the run's own. -/
import Derived.Test.YtgcfmjlnapcioaaGreatDoorE3
import Derived.Laws.IdiomCopy
import Derived.Laws.IdiomStrings
import Derived.Laws.Slices
import Derived.Below
import Derived.Laws.StructEq
import Derived.Laws.Strings3
import Derived.Laws.DeepStrings4
import Derived.KernelRfl
import Derived.Test.YtgcfmjlnapcioaaGreatDoorProg
import Derived.Test.YtgcfmjlnapcioaaGreatDoorE2
import Derived.Shelf.Strings.Fields
set_option linter.unusedVariables false
set_option linter.unusedSimpArgs false
namespace Hw
open Go
theorem yl(b:Nat)(t:TypeId)(fz:Nat×Nat): ∀(vs:List Value) (o:Nat) (cur:Array Value) (w:World),w.heap[b]?=some (.cells cur t fz)→o+vs.length≤cur.size→w.setCells b o vs=w.setRow b (setAt cur.toList o vs).toArray
 | [],o,cur,w,hg,_=>by
   simp only[setAt,World.setCells,List.append_nil,List.length_nil,Nat.add_zero,List.take_append_drop,Array.toArray_toList]
   exact(setRow_self w b cur t fz hg).symm
 |v::rest,o,cur,w,hg,hl=>by
  simp only[List.length_cons]at hl
  have ih:=yl b t fz rest (o+1) (cur.setIfInBounds o v) (w.setRow b (cur.setIfInBounds o v)) (setRow_heap w b cur _ t _ hg) (by simp;omega)
  rw[World.setCells,setCell_eq_setRow w b o cur t fz v hg,ih,setRow_setRow]
  congr 2
  have e:=list_seg_step cur.toList o v rest (by simp;omega)
  simpa [setAt,Array.toList_setIfInBounds,Nat.add_assoc]using e
theorem ziS{M:Mem}{g:Nat→Option Value}{l:List (List PV)}{vs:List Value}{o:Nat}(hl: ∀r∈l,r.length=1)(hr:RepVs M (fun _=>undef) (l.flatten.map V.p) vs)(h: ∀j c,vs[j]?=some c→g (o+j)=some c):RowsIn M g 1 l o:=
 RowsIn.yA (ρ:=fun _=>undef) hl hr h
theorem ziT{M:Mem}{ρ:Nat→Value}{w w':World}{R:RL}{r0:Res}{e:Nat}{rows:List (List PV)}{B o cap:Nat}{cs:Array Value}{el:TypeId}{fz:Nat×Nat}(hR:tg (tb R) 0=some r0)(hT:vx M ρ w (tb R))(hI:Imm M w)(hid:2∉R.ids)
 (hB:w'.heap[B]?=some (.cells cs el fz)) (hU:xa fz cs.size) (hc:o+cap*e≤cs.size) (hn:rows.length≤cap) (hm:cap≤9223372036854775807) (hrows:RowsIn M (fun i=>cs[i]?) e rows o)
 (hown:w.heap.size≤B∨Bk (ρ 0) B) (hold: ∀k,k<w.heap.size→ ¬Bk (ρ 0) k→w'.heap[k]?=w.heap[k]?) (hs:w.heap.size≤w'.heap.size) (h1:w'.os=w.os) (h2:w'.tape=w.tape) (h3:w'.output=w.output):
 Ret M ρ w R (.one (.ar 2)) [(2,.arr e rows)] (.slice (some ⟨B,o,none⟩) rows.length cap) M (upd ρ 2 (.slice (some ⟨B,o,none⟩) rows.length cap)) w':=by
 have hMB: ∀q,M B q=none:=fun q=>by
  rcases hown with h|h
  ·cases hm':M B q with
   |none=>rfl
   |some u=>have:=xp (hI B q u hm');omega
  ·exact hT.own 0 _ B hR h q
 have only: ∀i r,tg (tb [(2,Res.arr e rows)]) i=some r→i=2∧r= .arr e rows:=fun i r hi=>by
  simp only[tb,yc]at hi
  split at hi
  ·rename_i e';exact⟨e'.symm,(Option.some.inj hi).symm⟩
  ·cases hi
 refine⟨by simp only[RepS,RepV];exact⟨(zt _ _ _).symm,rfl⟩,⟨fun i r hi=>?_,fun i j ri rj b hi hj hne _ _=>?_,fun i r b hi hb q=>?_⟩,fun b q v hv=>?_,MLe.refl M,fun b q u hu=> .inl hu,fun b hb=>?_,fun b hb hn=>?_,hs,h1,h2,h3,fun id hid'=>?_⟩
 ·obtain⟨rfl,rfl⟩:=only i r hi
  exact⟨some ⟨B,o,none⟩,cap,zt _ _ _,hn,hm,.inr ⟨B,o,cs,el,fz,rfl,hB,hU,hc,hrows⟩⟩
 ·obtain⟨rfl,_⟩:=only i ri hi
  obtain⟨rfl,_⟩:=only j rj hj
  exact hne rfl
 ·obtain⟨rfl,_⟩:=only i r hi
  rw[zt]at hb
  simp only[Bk,blk,Option.some.injEq]at hb;subst hb;exact hMB q
 ·have hbl:=xp (hI b q v hv)
  have hne: ¬Bk (ρ 0) b:=fun h=>by rw[hT.own 0 _ b hR h q]at hv;cases hv
  rw[cell_of_heap (hold b hbl hne)];exact hI b q v hv
 ·obtain⟨i,r,hi,hb⟩:=hb
  obtain⟨rfl,_⟩:=only i r hi
  rw[zt]at hb
  simp only[Bk,blk,Option.some.injEq]at hb;subst hb
  exact hown.imp id fun h=>⟨0,r0,hR,h⟩
 ·exact hold b hb fun h=>hn ⟨0,r0,hR,h⟩
 ·exact zN fun h=>hid (h ▸ hid')
section
variable {P:Program} {d:Option Nat} {ty:TypeId} {ps:String} {af:Array Edge} {g:Option (Nat×Bool)} {x y:Operand} {t:TypeId}
theorem zqW{t':TypeId}{k:IntKind}{n m:Int}(h0:m≠0)(hx:okc x (Kk k n))(hy:okc y (Kk k m)):
 Snd P ⟨d,.binOp .rem t x y t',ty,ps,af,g⟩ (rq x (Kk k n)++rq y (Kk k m)) [] [] (Kk k (n.tmod m)) []:=
 ze4 hx hy rfl fun w=>⟨rfl,by rw[binOp_rem];simp[Op.intDiv,h0]⟩
theorem zqX{t':TypeId}{k:IntKind}{n m:Int}(h0:m≠0)(hx:okc x (Kk k n))(hy:okc y (Kk k m)):
 Snd P ⟨d,.binOp .quo t x y t',ty,ps,af,g⟩ (rq x (Kk k n)++rq y (Kk k m)) [] [] (Kk k (k.wrap (n.tdiv m))) []:=
 ze4 hx hy rfl fun w=>⟨rfl,by rw[binOp_quo];simp[Op.intDiv,h0]⟩
theorem zl2{id e:Nat}{s:S}{us:List V}{el:TypeId}{z:List V}(hx:okc x s)(hc:cellsOf s=some us)(hrl:us.length=e)(hm:mentVs id us=false)
 (he:elemSz P t=some (el,e)) (hz:zeroV P el=some z) (he0:0<e) (heb:e≤16777216):
 Snd P ⟨d,.buildSlice t 1 #[(0,x)],ty,ps,af,g⟩ (rq x s) [] [id] (.one (.bs id 0 1)) [(id,some (.box us))]:=by
 intro C st M ρ a w hH h1 hT hF hd k Q hk
 have e':=yB hc (hH.evS (zM hx h1))
 obtain⟨ii,hu,hinf,hsz⟩:=zF he
 obtain⟨i',zv,hi',hzv,hzs⟩:=wj hz
 rw[hinf]at hi';simp only[Option.some.injEq]at hi';subst hi'
 have hcl:(a.eval x).cells.size=e:=by have:=e'.length;simp at this;omega
 have hfill: ∀cur:Array Value,cur.size=e→Instr.fill (fun i=>some (i*e,e)) cur [(0,a.eval x)]=some (a.eval x).cells:=fun cur hcur=>by
  simp only[Instr.fill]
  have hcond: ¬((a.eval x).cells.size≠e||0*e+(a.eval x).cells.size>cur.size)=true:=by
   simp only[ne_eq,Bool.or_eq_true,decide_eq_true_eq];omega
  have hfold:=wk cur (0*e) (a.eval x).cells.toList 0 cur (by simp;omega)
  have hfold':(a.eval x).cells.zipIdx.foldl (fun cs (p:Value×Nat)=>cs.setIfInBounds (0*e+p.2) p.1) cur=(setAt cur.toList (0*e) (a.eval x).cells.toList).toArray:=by
   rw[←Array.foldl_toList]
   simpa using hfold
  rw[if_neg hcond,hfold']
  congr 1
  unfold setAt
  have:cur.toList.drop (0*e+(a.eval x).cells.toList.length)=[]:=by apply List.drop_eq_nil_of_le;simp;omega
  rw[this];simp
 have hrun:(execOp a.eval ⟨d,.buildSlice t 1 #[(0,x)],ty,ps,af,g⟩).run P w= .ok (.value (.slice (some ⟨w.heap.size,0,none⟩) 1 1)) (w.alloc (.cells (a.eval x).cells el)):=by
  have hn: ¬16777216<e:=by omega
  have h0: ¬e=0:=by omega
  have hf:=hfill ((Array.range (1*e)).map fun x=>zv.cells[x % zv.cells.size]!) (by simp)
  have hzrun:(zeroValue el).run P w= .ok zv w:=by simp[zeroValue,typeInfo,hinf,hzv]
  simp[execOp,Instr.buildSlice,run_underlying hu,run_sizeOf hinf,hsz,hn,h0,newRow,hzrun]at hf⊢
  simp[hf]
 unfold Oper.wp
 rw[hrun,Oper.upon_value]
 refine hk _ _ M _ (hH.alloc (val:= .pointer (some ⟨w.heap.size,0,none⟩)) (fun b hb=>by simp only[Bk,blk,Option.some.injEq]at hb;exact hb.symm) hF.1
  ⟨w.heap.size,(a.eval x).cells.toList,el,zt _ _ _,by simpa using zW w _,RepVs.agree (yO ρ id _) _ _ (fun i hi=>by subst hi;exact hm) e'⟩
  (by simp only[RepS,RepV];exact⟨w.heap.size,1,zt _ _ _,rfl,Nat.le_refl 1⟩) hd)
end
section
variable {P:Program} {C:Ctx} {k:List Frm} {n:Nat} {sl:zi} {tab:Tab} {Q:Exit→St→Prop} {all:Array Oper} {rest:List Oper} {cur:Cur}
theorem zsV{d:Nat}{x y:Operand}{t t' ty:TypeId}{ps:String}{af:Array Edge}{g0:Option (Nat×Bool)}{gs:zi}{md:Mode}(hC:C.low){k0:IntKind}{a m:Int}
 (hx:ev sl x=some (Kk k0 a)) (hy:ev sl y=some (Kk k0 m)) (h0:m≠0) (hm:metL all sl g0=some gs) (hd:Nat.blt d n=true)
 (g:Goal P C (.ops all rest (nx md ⟨some d,gs++(rq x (Kk k0 a)++rq y (Kk k0 m)),[],[],Kk k0 (a.tmod m),[]⟩)) k n ((d,Kk k0 (a.tmod m))::sl) tab Q):
 Goal P C (.ops all (⟨some d,.binOp .rem t x y t',ty,ps,af,g0⟩::rest) md) k n sl tab Q:=by
 have e1:=zX (st:=⟨n,sl,tab⟩) hx
 have e2:=zX (st:=⟨n,sl,tab⟩) hy
 have:=zq hm (zqW (P:=P) (ty:=ty) (ps:=ps) (af:=af) (g:=g0) (d:=some d) (t:=t) (t':=t') h0 e1.1 e2.1) (n:=n) (tab:=tab)
 exact yr (L:=⟨some d,gs++(rq x (Kk k0 a)++rq y (Kk k0 m)),[],[],Kk k0 (a.tmod m),[]⟩) hC this.1 rfl ⟨by rw[zd,zd];exact⟨this.2,e1.2,e2.2⟩,trivial,rfl,hd⟩ g
theorem zoP{d:Nat}{x y:Operand}{t t' ty:TypeId}{ps:String}{af:Array Edge}{g0:Option (Nat×Bool)}{gs:zi}{md:Mode}(hC:C.low){k0:IntKind}{a m:Int}
 (hx:ev sl x=some (Kk k0 a)) (hy:ev sl y=some (Kk k0 m)) (h0:m≠0) (hm:metL all sl g0=some gs) (hd:Nat.blt d n=true)
 (g:Goal P C (.ops all rest (nx md ⟨some d,gs++(rq x (Kk k0 a)++rq y (Kk k0 m)),[],[],Kk k0 (k0.wrap (a.tdiv m)),[]⟩)) k n ((d,Kk k0 (k0.wrap (a.tdiv m)))::sl) tab Q):
 Goal P C (.ops all (⟨some d,.binOp .quo t x y t',ty,ps,af,g0⟩::rest) md) k n sl tab Q:=by
 have e1:=zX (st:=⟨n,sl,tab⟩) hx
 have e2:=zX (st:=⟨n,sl,tab⟩) hy
 have:=zq hm (zqX (P:=P) (ty:=ty) (ps:=ps) (af:=af) (g:=g0) (d:=some d) (t:=t) (t':=t') h0 e1.1 e2.1) (n:=n) (tab:=tab)
 exact yr (L:=⟨some d,gs++(rq x (Kk k0 a)++rq y (Kk k0 m)),[],[],Kk k0 (k0.wrap (a.tdiv m)),[]⟩) hC this.1 rfl ⟨by rw[zd,zd];exact⟨this.2,e1.2,e2.2⟩,trivial,rfl,hd⟩ g
theorem zgi(T:Ty P){d:Nat}{x:Operand}{t ty:TypeId}{ps:String}{af:Array Edge}{g0:Option (Nat×Bool)}{gs:zi}{md:Mode}(hC:C.low){e:Nat}{s:S}{us:List V}{el:TypeId}{z:List V}
 (hx:ev sl x=some s) (hc:cellsOf s=some us) (hrl:us.length=e) (hmu:mentVs (1000+d) us=false) (he:T.es t=some (el,e)) (hz:T.zs el=some z) (he0:Nat.blt 0 e=true) (heb:Nat.ble e 16777216=true)
 (hm:metL all sl g0=some gs) (hd:Nat.blt d n=true) (hf:(Nat.ble 100 (1000+d)&&freshB (1000+d) ⟨n,sl,tab⟩)=true)
 (g:Goal P C (.ops all rest (nx md ⟨some d,gs++rq x s,[],[1000+d],.one (.bs (1000+d) 0 1),[(1000+d,some (.box us))]⟩)) k n ((d,.one (.bs (1000+d) 0 1))::sl) ((1000+d,some (.box us))::tab) Q):
 Goal P C (.ops all (⟨some d,.buildSlice t 1 #[(0,x)],ty,ps,af,g0⟩::rest) md) k n sl tab Q:=by
 have e1:=zX (st:=⟨n,sl,tab⟩) hx
 have:=zq hm (zl2 (P:=P) (ty:=ty) (ps:=ps) (af:=af) (g:=g0) (d:=some d) (id:=1000+d) e1.1 hc hrl hmu (T.es_ok _ _ he) (T.zs_ok _ _ hz) (by simpa [Nat.blt_eq]using he0) (Nat.le_of_ble_eq_true heb)) (n:=n) (tab:=tab)
 exact yr (L:=⟨some d,gs++rq x s,[],[1000+d],.one (.bs (1000+d) 0 1),[(1000+d,some (.box us))]⟩) hC this.1 rfl ⟨by rw[zd];exact⟨this.2,e1.2⟩,trivial,zcc hf,hd⟩ g
end
end Hw
/- The engine, part AX: bytes and strings: sums, conversions, slices of an array in a box, cells of a global array, calls of plain library functions. -/
namespace Hw
open Go
theorem vS(a b:ByteArray):(a++b).size=a.size+b.size:=ByteArray.size_append
theorem zsI{P:Program}{f:FuncId}{a v:Value}(hc:ji P f)(h: ∀w:World,Calls P f #[a] w fun e w'=>e= .returned v∧w'=w)(h1:v.oneCell'=true):zj P f [.one (.p (.k a))] [] (.one (.p (.k v))) []:=by
 refine⟨hc,fun M ρ w xs hx _ hI _=>?_⟩
 match xs,hx with
 | [x],hx=>
   simp only[RepSs,RepS,RepV,RepPV]at hx
   obtain⟨⟨rfl,_⟩,_⟩:=hx
   refine(h w).mono fun e w' ⟨he,hw⟩=>?_
   subst hw
   refine⟨v,M,ρ,he,by simp only[RepS,RepV,RepPV];exact⟨trivial,h1⟩,⟨fun _ _ h=>(by cases h),fun _ _ _ _ _ h=>(by cases h),fun _ _ _ h=>(by cases h)⟩,hI,MLe.refl M,fun b o u hu=> .inl hu,fun b hb=>?_,fun b _ _=>rfl,Nat.le_refl _,rfl,rfl,rfl,fun id hid=>rfl⟩
   obtain⟨i,r,h,_⟩:=hb;cases h
 | [],hx=>simp[RepSs]at hx
 |_::_::_,hx=>simp[RepSs]at hx
def GOw(w:World):Prop:=GOn w∧(∀b∈G1,∃m:Int,w.cell? ⟨b,0,none⟩=some (.int .i64 m))∧ ∀p∈G2,∃el fz,w.heap[p.1]?=some (.cells p.2 el fz)
theorem zdF{M:Mem}{w:World}(hI:Imm M w)(hG:GOk M w):GOw w:=⟨fun b o u hu=>hI b o u (hG.le b o u hu),fun b hb=>let ⟨m,hm⟩:=hG.op b hb;⟨m,hI _ _ _ hm⟩,hG.gb⟩
theorem zbl{M:Mem}{ρ:Nat→Value}: ∀ {av xs:List Value},RepSs M ρ (av.map fun a=> .one (.p (.k a))) xs→xs=av
 | [],[],_=>rfl
 | [],_::_,h=>by simp[RepSs]at h
 |_::_,[],h=>by simp[RepSs]at h
 |a::r,x::xs,h=>by
  simp only[List.map_cons,RepSs,RepS,RepV,RepPV]at h
  rw[h.1.1,zbl h.2]
theorem zgj{P:Program}{f:FuncId}{av:List Value}{v:Value}(hc:ji P f)(h: ∀w:World,GOw w→Calls P f av.toArray w fun e w'=>e= .returned v∧w'=w)(h1:v.oneCell'=true):
 zj P f (av.map fun a=> .one (.p (.k a))) [] (.one (.p (.k v))) []:=by
 refine⟨hc,fun M ρ w xs hx _ hI hG=>?_⟩
 obtain rfl:=zbl hx
 refine(h w (zdF hI hG)).mono fun e w' ⟨he,hw⟩=>?_
 subst hw
 refine⟨v,M,ρ,he,by simp only[RepS,RepV,RepPV];exact⟨trivial,h1⟩,⟨fun _ _ h=>(by cases h),fun _ _ _ _ _ h=>(by cases h),fun _ _ _ h=>(by cases h)⟩,hI,MLe.refl M,fun b o u hu=> .inl hu,fun b hb=>?_,fun b _ _=>rfl,Nat.le_refl _,rfl,rfl,rfl,fun id hid=>rfl⟩
 obtain⟨i,r,h,_⟩:=hb;cases h
theorem zbm{M:Mem}{ρ:Nat→Value}{w w':World}{res:S}{v:Value}(hI:Imm M w)(hb:RowKit.Below w.heap.size w w')(hr:RepS M ρ res v):Ret M ρ w [] res [] v M ρ w':=
 ⟨hr,⟨fun _ _ h=>(by cases h),fun _ _ _ _ _ h=>(by cases h),fun _ _ _ h=>(by cases h)⟩,fun b o u hu=>by rw[cell_of_heap (hb.block b (xp (hI b o u hu)))];exact hI b o u hu,MLe.refl M,fun b o u hu=> .inl hu,
   fun b ⟨_,_,h,_⟩=>(by cases h),fun b h _=>hb.block b h,hb.size,hb.os,hb.tape,hb.output,fun _ _=>rfl⟩
theorem ziU{P:Program}{f:FuncId}{av:List Value}{v:Value}(hc:ji P f)(h: ∀w:World,GOw w→Calls P f av.toArray w fun e w'=>e= .returned v∧RowKit.Below w.heap.size w w')(h1:v.oneCell'=true):
 zj P f (av.map fun a=> .one (.p (.k a))) [] (.one (.p (.k v))) []:=by
 refine⟨hc,fun M ρ w xs hx _ hI hG=>?_⟩
 obtain rfl:=zbl hx
 refine(h w (zdF hI hG)).mono fun e w' ⟨he,hw⟩=>?_
 exact⟨v,M,ρ,he,zbm hI hw (by simp only[RepS,RepV,RepPV];exact⟨trivial,h1⟩)⟩
section
variable {P:Program} {d:Option Nat} {ty:TypeId} {ps:String} {af:Array Edge} {g:Option (Nat×Bool)} {x y:Operand} {t:TypeId}
theorem zqY{t':TypeId}{a b:ByteArray}(hs:a.size+b.size≤9223372036854775807)(hx:okc x (Sr a))(hy:okc y (Sr b)):
 Snd P ⟨d,.binOp .add t x y t',ty,ps,af,g⟩ (rq x (Sr a)++rq y (Sr b)) [] [] (Sr (a++b)) []:=
 ze4 hx hy rfl fun w=>⟨rfl,by
  have hn: ¬(((a.size+b.size:Nat):Int)>IntKind.i64.max):=by
   have:IntKind.i64.max=9223372036854775807:=rfl
   rw[this];omega
  have e:binOp .add t (.string a) (.string b)=Op.stringOp .add a b:=rfl
  rw[e]
  simp only[Op.stringOp,if_neg hn,Sem.run_pure]⟩
theorem xj.bs{e id n:Nat}{tx el:TypeId}{rows:List (List PV)}{vs:List V}(h:elemSz P tx=some (el,e))(hv:vs.take (n*e)=rows.flatten.map V.p)(hl: ∀r∈rows,r.length=e)(hn:rows.length=n):xj P e tx (.one (.bs id 0 n)) [(id,.box vs)] rows:=by
 intro C st M ρ a w v hH hr hT
 obtain⟨_,hu,_,_⟩:=zF h
 simp only[RepS,RepV]at hr
 obtain⟨b,c,f1,rfl,_⟩:=hr
 obtain⟨b',cs,el',g1,g2,g3⟩:=hH.yn.res id _ hT.1
 rw[f1]at g1
 simp only[Value.pointer.injEq,Option.some.injEq,Addr.mk.injEq]at g1
 obtain⟨rfl,_⟩:=g1
 have g4:=g3.take (n*e)
 rw[hv]at g4
 subst hn
 refine⟨cs.take (rows.length*e),Src.ofSlice w hu ⟨b,0,none⟩ rows.length c _ ?_ (fun j u hj=>?_) g4.one,g4,hl⟩
 ·rw[g4.length,List.length_map,List.length_flatten]
  have:(rows.map List.length)=List.replicate rows.length e:=by
   rw[List.eq_replicate_iff]
   exact⟨by rw[List.length_map],fun q hq=>by obtain⟨r,hr,rfl⟩:=List.mem_map.1 hq;exact hl r hr⟩
  rw[this,List.sum_replicate_nat]
 ·rw[yt,Nat.zero_add]
  rw[List.getElem?_take]at hj
  split at hj
  ·simp[World.cell?,g2,hj]
  ·cases hj
end
section
variable {P:Program} {C:Ctx} {k:List Frm} {n:Nat} {sl:zi} {tab:Tab} {Q:Exit→St→Prop} {all:Array Oper} {rest:List Oper} {cur:Cur}
theorem zsW{d:Nat}{x y:Operand}{t t' ty:TypeId}{ps:String}{af:Array Edge}{g0:Option (Nat×Bool)}{gs:zi}{md:Mode}(hC:C.low){a b:ByteArray}
 (hx:ev sl x=some (Sr a)) (hy:ev sl y=some (Sr b)) (hs:a.size+b.size≤9223372036854775807) (hm:metL all sl g0=some gs) (hd:Nat.blt d n=true)
 (g:Goal P C (.ops all rest (nx md ⟨some d,gs++(rq x (Sr a)++rq y (Sr b)),[],[],Sr (a++b),[]⟩)) k n ((d,Sr (a++b))::sl) tab Q):
 Goal P C (.ops all (⟨some d,.binOp .add t x y t',ty,ps,af,g0⟩::rest) md) k n sl tab Q:=by
 have e1:=zX (st:=⟨n,sl,tab⟩) hx
 have e2:=zX (st:=⟨n,sl,tab⟩) hy
 have:=zq hm (zqY (P:=P) (ty:=ty) (ps:=ps) (af:=af) (g:=g0) (d:=some d) (t:=t) (t':=t') hs e1.1 e2.1) (n:=n) (tab:=tab)
 exact yr (L:=⟨some d,gs++(rq x (Sr a)++rq y (Sr b)),[],[],Sr (a++b),[]⟩) hC this.1 rfl ⟨by rw[zd,zd];exact⟨this.2,e1.2,e2.2⟩,trivial,rfl,hd⟩ g
end
end Hw
/- The engine, part AY: arrays as values: literals, elements by a number. -/
namespace Hw
open Go
section
variable {P:Program} {d:Option Nat} {ty:TypeId} {ps:String} {af:Array Edge} {g:Option (Nat×Bool)} {x y:Operand} {t:TypeId}
theorem zl3{l:List (Nat×Operand)}{ss:List S}{vparts:List (Nat×List V)}{zs vs:List V}{len e:Nat}{el:TypeId}
 (hx:ziN (l.map (·.2)) ss) (ht:P.underlying t=some (.array len el)) (he:(P.info? el).map (·.size)=some e) (hz:zeroV P t=some zs) (hv:zipParts (l.map (·.1)) ss=some vparts) (hf:fillV (fun i=>some (i*e,e)) zs vparts=some vs):
 Snd P ⟨d,.build t l.toArray,ty,ps,af,g⟩ (rqs (l.map (·.2)) ss) [] [] (.agg vs) []:=
 zo fun C st M ρ a w hH h1 _=>by
  have e:=hH.zlV (jk hx h1)
  obtain⟨h2,h3⟩:=w7 hv e
  obtain⟨zv,hz1,hz2,_⟩:=vT hz M ρ w
  have hzip:l.map (fun p=>(p.1,a.eval p.2))=(l.map (·.1)).zip ((l.map (·.2)).map a.eval):=by
   rw[List.map_map];simp[List.zip_map']
  obtain⟨out,h4,h5⟩:=zbn _ vparts zs vs zv.cells hz2 h2 h3 hf
  obtain⟨ii,hinf,hsz⟩:=Option.map_eq_some_iff.1 he
  refine⟨.agg out,?_,by simp only[RepS];exact⟨out.toList,by simp,h5⟩⟩
  simp only[execOp,Instr.build,Sem.run_bind,hz1,Result.andThen_ok,run_underlying ht,run_sizeOf hinf,hsz]
  have hl:(l.toArray.map fun p=>(p.1,a.eval p.2)).toList=(l.map (·.1)).zip ((l.map (·.2)).map a.eval):=by simpa using hzip
  rw[hl,h4]
  rfl
end
section
variable {P:Program} {C:Ctx} {k:List Frm} {n:Nat} {sl:zi} {tab:Tab} {Q:Exit→St→Prop} {all:Array Oper} {rest:List Oper}
theorem zl4{d:Nat}{t:TypeId}{l:List (Nat×Operand)}{ty:TypeId}{ps:String}{af:Array Edge}{g0:Option (Nat×Bool)}{gs:zi}{md:Mode}(hC:C.low){ss:List S}{vparts:List (Nat×List V)}{zs vs:List V}{len e:Nat}{el:TypeId}
 (hl:evs sl (l.map (·.2))=some ss) (ht:P.underlying t=some (.array len el)) (he:(P.info? el).map (·.size)=some e) (hz:zeroV P t=some zs) (hv:zipParts (l.map (·.1)) ss=some vparts) (hf:fillV (fun i=>some (i*e,e)) zs vparts=some vs) (hm:metL all sl g0=some gs) (hd:Nat.blt d n=true)
 (g:Goal P C (.ops all rest (nx md ⟨some d,gs++rqs (l.map (·.2)) ss,[],[],.agg vs,[]⟩)) k n ((d,.agg vs)::sl) tab Q):
 Goal P C (.ops all (⟨some d,.build t l.toArray,ty,ps,af,g0⟩::rest) md) k n sl tab Q:=by
 have e2:=jl (st:=⟨n,sl,tab⟩) hl
 have:=zq hm (zl3 (ty:=ty) (ps:=ps) (af:=af) (g:=g0) (d:=some d) e2.1 ht he hz hv hf) (n:=n) (tab:=tab)
 exact yr (L:=⟨some d,gs++rqs (l.map (·.2)) ss,[],[],.agg vs,[]⟩) hC this.1 rfl ⟨by rw[zd];exact⟨this.2,e2.2⟩,trivial,rfl,hd⟩ g
end
section
variable {K:Type} [DecidableEq K] {P:Program} {d:Option Nat} {ty:TypeId} {ps:String} {af:Array Edge} {g:Option (Nat×Bool)} {x y u:Operand} {t kt et:TypeId}
end
section
variable {P:Program} {C:Ctx} {k:List Frm} {n:Nat} {sl:zi} {tab:Tab} {Q:Exit→St→Prop} {all:Array Oper} {rest:List Oper}
end
section
variable {P:Program} {d:Option Nat} {ty:TypeId} {ps:String} {af:Array Edge} {g:Option (Nat×Bool)} {x y:Operand} {t:TypeId}
end
section
variable {P:Program} {C:Ctx} {k:List Frm} {n:Nat} {sl:zi} {tab:Tab} {Q:Exit→St→Prop} {all:Array Oper} {rest:List Oper}
end
end Hw
/- The engine, part AZ: nil slices within rows. -/
namespace Hw
open Go
mutual
inductive LP:PV→PV→Prop
 |refl (p:PV):LP p p
 |nil (e:Nat):LP (.k (.slice none 0 0)) (.sl e [])
 |sl {e:Nat} {rows rows':List (List PV)} (h:LRs rows rows'):LP (.sl e rows) (.sl e rows')
inductive LRs:List (List PV)→List (List PV)→Prop
 |nil:LRs [] []
 |cons {r r':List PV} {rs rs':List (List PV)} (h:LR r r') (hs:LRs rs rs'):LRs (r::rs) (r'::rs')
inductive LR:List PV→List PV→Prop
 |nil:LR [] []
 |cons {p p':PV} {ps ps':List PV} (h:LP p p') (hs:LR ps ps'):LR (p::ps) (p'::ps')
end
theorem LR.len{r r':List PV}:LR r r'→r'.length=r.length
 | .nil=>rfl
 | .cons _ hs=>by rw[List.length_cons,List.length_cons,LR.len hs]
theorem LRs.len{r r':List (List PV)}:LRs r r'→r'.length=r.length
 | .nil=>rfl
 | .cons _ hs=>by rw[List.length_cons,List.length_cons,LRs.len hs]
mutual
theorem LP.rep{M:Mem}{p q:PV}{v:Value}:LP p q→RepPV M p v→RepPV M q v
 | .refl _,h=>h
 | .nil e,h=>by
   simp only[RepPV]at h⊢
   exact⟨none,0,h.1,Nat.le_refl _,Nat.zero_le _,.inl trivial⟩
 | .sl hr,h=>by
   simp only[RepPV]at h⊢
   obtain⟨a,cap,h1,h2,h3,h4⟩:=h
   rw[hr.len]
   refine⟨a,cap,h1,h2,h3,?_⟩
   rcases h4 with h4|⟨b,o,h4,h5⟩
   ·left
    have:=hr.len
    rw[h4]at this
    exact List.length_eq_zero_iff.1 this
   ·exact .inr ⟨b,o,h4,LRs.rep hr h5⟩
theorem LRs.rep{M:Mem}{g:Nat→Option Value}{e o:Nat}{rows rows':List (List PV)}:LRs rows rows'→RowsIn M g e rows o→RowsIn M g e rows' o
 | .nil,h=>h
 | .cons hr hs,h=>by
   simp only[RowsIn]at h⊢
   exact⟨hr.len.trans h.1,LR.rep hr h.2.1,LRs.rep hs h.2.2⟩
theorem LR.rep{M:Mem}{g:Nat→Option Value}{o:Nat}{r r':List PV}:LR r r'→RowIn M g r o→RowIn M g r' o
 | .nil,h=>h
 | .cons hp hs,h=>by
   simp only[RowIn]at h⊢
   obtain⟨⟨c,c1,c2⟩,h2⟩:=h
   exact⟨⟨c,c1,LP.rep hp c2⟩,LR.rep hs h2⟩
end
end Hw
/- The engine, part BA: structs of two strings, compared. -/
namespace Hw
open Go
section
variable {P:Program} {d:Option Nat} {ty:TypeId} {ps:String} {af:Array Edge} {g:Option (Nat×Bool)} {x y:Operand} {t:TypeId}
end
section
variable {P:Program} {C:Ctx} {k:List Frm} {n:Nat} {sl:zi} {tab:Tab} {Q:Exit→St→Prop} {all:Array Oper} {rest:List Oper}
end
end Hw
/- The engine, part BI: structs of numbers and strings, compared; interfaces held against nil. -/
namespace Hw
open Go
inductive Sc where
 |i (k:IntKind) (n:Int)
 |s (b:ByteArray)
 deriving DecidableEq
def Sc.v:Sc→Value
 | .i k n=> .int k n
 | .s b=> .string b
inductive SK where
 |i (k:IntKind)
 |s
section
variable {P:Program} {d:Option Nat} {ty:TypeId} {ps:String} {af:Array Edge} {g:Option (Nat×Bool)} {x y:Operand} {t:TypeId}
end
section
variable {P:Program} {C:Ctx} {k:List Frm} {n:Nat} {sl:zi} {tab:Tab} {Q:Exit→St→Prop} {all:Array Oper} {rest:List Oper}
end
end Hw
/- The engine, part BB: slices of strings. -/
namespace Hw
open Go
section
variable {P:Program} {d:Option Nat} {ty:TypeId} {ps:String} {af:Array Edge} {g:Option (Nat×Bool)} {x y:Operand} {t:TypeId}
theorem zqZ{a:ByteArray}{j:Int}{k:IntKind}(hx:okc x (Sr a))(hy:okc y (Kk k j))(ht:P.underlying t=some .string)(h0:0≤j)(h1:j≤a.size):
 Snd P ⟨d,.slice t x none (some y) none,ty,ps,af,g⟩ (rq x (Sr a)++rq y (Kk k j)) [] [] (Sr (a.extract 0 j.toNat)) []:=
 zo fun C st M ρ b w hH hs _=>by
  rw[zd]at hs
  have e1:=hH.k (zM hx hs.1)
  have e2:=hH.k (zM hy hs.2)
  refine⟨.string (a.extract 0 j.toNat),?_,by simp only[RepS,RepV,RepPV];exact⟨trivial,rfl⟩⟩
  simp only[execOp,e1,e2,Option.map_none,Option.map_some,Sem.run_bind,run_sliceAt_string w t _ _ _ _ ht,run_slice_string_to_if w t a k j ht,if_pos (⟨h0,h1⟩:0≤j∧j≤(a.size:Int)),Result.andThen_ok,Sem.run_pure]
theorem zl5{a:ByteArray}{j:Int}{k:IntKind}(hx:okc x (Sr a))(hy:okc y (Kk k j))(ht:P.underlying t=some .string)(h0:0≤j)(h1:j≤a.size):
 Snd P ⟨d,.slice t x (some y) none none,ty,ps,af,g⟩ (rq x (Sr a)++rq y (Kk k j)) [] [] (Sr (a.extract j.toNat a.size)) []:=
 zo fun C st M ρ b w hH hs _=>by
  rw[zd]at hs
  have e1:=hH.k (zM hx hs.1)
  have e2:=hH.k (zM hy hs.2)
  refine⟨.string (a.extract j.toNat a.size),?_,by simp only[RepS,RepV,RepPV];exact⟨trivial,rfl⟩⟩
  simp only[execOp,e1,e2,Option.map_none,Option.map_some,Sem.run_bind,run_sliceAt_string w t _ _ _ _ ht,run_slice_string_from_if w t a k j ht,if_pos (⟨h0,h1⟩:0≤j∧j≤(a.size:Int)),Result.andThen_ok,Sem.run_pure]
end
variable {P:Program} {C:Ctx} {k:List Frm} {n:Nat} {sl:zi} {tab:Tab} {Q:Exit→St→Prop} {all:Array Oper} {rest:List Oper}
theorem zq0{d:Nat}{x y:Operand}{t ty:TypeId}{ps:String}{af:Array Edge}{g0:Option (Nat×Bool)}{gs:zi}{md:Mode}(hC:C.low){a:ByteArray}{j:Int}{k0:IntKind}
 (hx:ev sl x=some (Sr a)) (hy:ev sl y=some (Kk k0 j)) (ht:P.underlying t=some .string) (h0:0≤j) (h1:j≤a.size) (hm:metL all sl g0=some gs) (hd:Nat.blt d n=true)
 (g:Goal P C (.ops all rest (nx md ⟨some d,gs++(rq x (Sr a)++rq y (Kk k0 j)),[],[],Sr (a.extract 0 j.toNat),[]⟩)) k n ((d,Sr (a.extract 0 j.toNat))::sl) tab Q):
 Goal P C (.ops all (⟨some d,.slice t x none (some y) none,ty,ps,af,g0⟩::rest) md) k n sl tab Q:=by
 have e1:=zX (st:=⟨n,sl,tab⟩) hx
 have e2:=zX (st:=⟨n,sl,tab⟩) hy
 have:=zq hm (zqZ (P:=P) (ty:=ty) (ps:=ps) (af:=af) (g:=g0) (d:=some d) (t:=t) e1.1 e2.1 ht h0 h1) (n:=n) (tab:=tab)
 exact yr (L:=⟨some d,gs++(rq x (Sr a)++rq y (Kk k0 j)),[],[],Sr (a.extract 0 j.toNat),[]⟩) hC this.1 rfl ⟨by rw[zd,zd];exact⟨this.2,e1.2,e2.2⟩,trivial,rfl,hd⟩ g
theorem zgk{d:Nat}{x y:Operand}{t ty:TypeId}{ps:String}{af:Array Edge}{g0:Option (Nat×Bool)}{gs:zi}{md:Mode}(hC:C.low){a:ByteArray}{j:Int}{k0:IntKind}
 (hx:ev sl x=some (Sr a)) (hy:ev sl y=some (Kk k0 j)) (ht:P.underlying t=some .string) (h0:0≤j) (h1:j≤a.size) (hm:metL all sl g0=some gs) (hd:Nat.blt d n=true)
 (g:Goal P C (.ops all rest (nx md ⟨some d,gs++(rq x (Sr a)++rq y (Kk k0 j)),[],[],Sr (a.extract j.toNat a.size),[]⟩)) k n ((d,Sr (a.extract j.toNat a.size))::sl) tab Q):
 Goal P C (.ops all (⟨some d,.slice t x (some y) none none,ty,ps,af,g0⟩::rest) md) k n sl tab Q:=by
 have e1:=zX (st:=⟨n,sl,tab⟩) hx
 have e2:=zX (st:=⟨n,sl,tab⟩) hy
 have:=zq hm (zl5 (P:=P) (ty:=ty) (ps:=ps) (af:=af) (g:=g0) (d:=some d) (t:=t) e1.1 e2.1 ht h0 h1) (n:=n) (tab:=tab)
 exact yr (L:=⟨some d,gs++(rq x (Sr a)++rq y (Kk k0 j)),[],[],Sr (a.extract j.toNat a.size),[]⟩) hC this.1 rfl ⟨by rw[zd,zd];exact⟨this.2,e1.2,e2.2⟩,trivial,rfl,hd⟩ g
end Hw
/- The engine, part BC: a string's bytes as an array of the run's own. -/
namespace Hw
open Go
section
variable {P:Program} {d:Option Nat} {ty:TypeId} {ps:String} {af:Array Edge} {g:Option (Nat×Bool)} {x y:Operand} {t:TypeId}
end
variable {P:Program} {C:Ctx} {k:List Frm} {n:Nat} {sl:zi} {tab:Tab} {Q:Exit→St→Prop} {all:Array Oper} {rest:List Oper}
end Hw
/- The engine, part BJ: parts of strings and of slices; interfaces held against nil. -/
namespace Hw
open Go
section
variable {P:Program} {d:Option Nat} {ty:TypeId} {ps:String} {af:Array Edge} {g:Option (Nat×Bool)} {x y z:Operand} {t:TypeId}
theorem zoQ{a:ByteArray}{i j:Int}{k k':IntKind}(hx:okc x (Sr a))(hy:okc y (Kk k i))(hz:okc z (Kk k' j))(ht:P.underlying t=some .string)(h0:0≤i)(h1:i≤j)(h2:j≤a.size):
 Snd P ⟨d,.slice t x (some y) (some z) none,ty,ps,af,g⟩ (rq x (Sr a)++rq y (Kk k i)++rq z (Kk k' j)) [] [] (Sr (a.extract i.toNat j.toNat)) []:=
 zo fun C st M ρ b w hH hs _=>by
  rw[zd,zd]at hs
  have e1:=hH.k (zM hx hs.1.1)
  have e2:=hH.k (zM hy hs.1.2)
  have e3:=hH.k (zM hz hs.2)
  refine⟨.string (a.extract i.toNat j.toNat),?_,by simp only[RepS,RepV,RepPV];exact⟨trivial,rfl⟩⟩
  simp only[execOp,e1,e2,e3,Option.map_none,Option.map_some,Sem.run_bind,run_sliceAt_string w t _ _ _ _ ht,run_slice_string_if w t a k k' i j ht,if_pos (⟨by omega,h2⟩:0≤j∧j≤(a.size:Int)),if_pos (⟨h0,h1⟩:0≤i∧i≤j),Result.andThen_ok,Sem.run_pure]
theorem zl6{M:Mem}{ρ:Nat→Value}{e:Nat}{rows:List (List PV)}{a:Option Addr}{cap l h:Nat}(hr:RepV M ρ (.p (.sl e rows)) (.slice a rows.length cap))(h1:l≤h)(h2:h≤rows.length):RepV M ρ (.p (.sl e ((rows.take h).drop l))) (sliced a l h cap e):=by
 simp only[RepV,RepPV]at hr⊢
 obtain⟨a',cap',e1,e2,e3,e4⟩:=hr
 simp only[Value.slice.injEq]at e1
 obtain⟨rfl,_,rfl⟩:=e1
 have hl:((rows.take h).drop l).length=h - l:=by rw[List.length_drop,List.length_take];omega
 refine⟨if cap=l then a else a.map (·.add (l*e)),cap - l,by rw[hl];rfl,by omega,by omega,?_⟩
 rcases e4 with rfl|⟨b,o,rfl,e4⟩
 ·left
  simp at h2;subst h2
  simp
 ·by_cases hc:cap=l
  ·left
   exact List.length_eq_zero_iff.1 (by omega)
  ·right
   rw[if_neg hc]
   exact⟨b,o+l*e,by simp[Addr.add],(e4.take h).drop l⟩
theorem zcN{el:TypeId}{e:Nat}(h:elemSz P t=some (el,e)):P.underlying t=some (.slice (P.elem t))∧ ∀w:World,(Go.sizeOf (P.elem t)).run P w= .ok e w:=by
 obtain⟨ii,hu,hinf,hsz⟩:=zF h
 have he:P.elem t=el:=by simp[Program.elem,hu]
 rw[he]
 exact⟨hu,fun w=>by rw[run_sizeOf hinf,hsz]⟩
theorem zoR{e:Nat}{rows:List (List PV)}{j:Int}{k':IntKind}{el:TypeId}(hx:okc x (.one (.p (.sl e rows))))(hz:okc z (Kk k' j))(he:elemSz P t=some (el,e))(h0:0≤j)(h2:j≤rows.length):
 Snd P ⟨d,.slice t x none (some z) none,ty,ps,af,g⟩ (rq x (.one (.p (.sl e rows)))++rq z (Kk k' j)) [] [] (.one (.p (.sl e (rows.take j.toNat)))) []:=
 zo fun C st M ρ b w hH hs _=>by
  rw[zd]at hs
  have e1:=hH.evS (zM hx hs.1)
  have e3:=hH.k (zM hz hs.2)
  simp only[RepS]at e1
  have e1':=e1
  simp only[RepV,RepPV]at e1'
  obtain⟨a,cap,f1,f2,f3,_⟩:=e1'
  rw[f1]at e1
  obtain⟨hu,hsz⟩:=zcN he
  refine⟨sliced a 0 j.toNat cap e,?_,by simp only[RepS];have:=zl6 e1 (Nat.zero_le j.toNat) (by omega);simpa only[List.drop_zero]using this⟩
  simp only[execOp,f1,e3,Option.map_none,Option.map_some,Sem.run_bind,run_sliceAt_slice w t _ _ _ _ hu,run_slice_h w t a rows.length cap hu k' j h0 (by omega),hsz,Result.andThen_ok,Sem.run_pure]
theorem zl7{vs:List V}{len:Nat}{el:TypeId}{i:Int}{k:IntKind}{v:V}(hx:okc x (.agg vs))(hy:okc y (Kk k i))(ht:P.underlying t=some (.array len el))(he:(P.info? el).map (·.size)=some 1)(hs:shp P el=some none)(h0:0≤i)(hi:i<len)(hv:vs[i.toNat]?=some v):
 Snd P ⟨d,.index t x y,ty,ps,af,g⟩ (rq x (.agg vs)++rq y (Kk k i)) [] [] (.one v) []:=
 zo fun C st M ρ a w hH h1 _=>by
  rw[zd]at h1
  have e1:=hH.evS (zM hx h1.1)
  have e2:=hH.k (zM hy h1.2)
  simp only[RepS]at e1
  obtain⟨cs,e1,e3⟩:=e1
  obtain⟨ii,hinf,hsz⟩:=Option.map_eq_some_iff.1 he
  obtain⟨c,c1,c2⟩:=xb e3 hv
  refine⟨c,?_,by simp only[RepS];exact c2⟩
  simp only[execOp,e1,e2,Instr.index,asIntOf,Sem.run_bind,Sem.run_pure,Result.andThen_ok,run_underlying ht]
  rw[if_pos ⟨h0,hi⟩]
  simp[part,jO hs,run_sizeOf hinf,hsz,c1]
def isIfc(P:Program)(t:TypeId):Bool:=match P.underlying t with
 |some (.interface _)=>true
 |_=>false
theorem zcd{P:Program}{t:TypeId}(h:isIfc P t=true): ∃ms,P.underlying t=some (.interface ms):=by
 unfold isIfc at h
 split at h
 ·rename_i ms e;exact⟨ms,e⟩
 ·cases h
theorem zsX{t':TypeId}{id:Nat}{neg:Bool}(hx:okc x (.one (.ar id)))(ht:isIfc P t=true):
 Snd P ⟨d,.binOp (if neg=true then .neq else .eql) t x (.const .nilIface) t',ty,ps,af,g⟩ (rq x (.one (.ar id))) [(id,.ifc)] [] (Bo neg) []:=
 zo fun C st M ρ a w hH h1 hT=>by
  obtain⟨ms,ht⟩:=zcd ht
  have e1:=hH.evS (zM hx h1)
  simp only[RepS,RepV]at e1
  obtain⟨te,pe,hv⟩:=hH.yn.res id _ hT.1
  rw[hv]at e1
  have h: ∀q:Nat,(Op.equalIn (q+1) t (.iface te pe) .nilIface).run P w= .ok false w:=fun q=>by simp[Op.equalIn,run_underlying ht]
  have e0:a.eval (.const .nilIface)= .nilIface:=rfl
  refine⟨.bool neg,?_,zsY neg⟩
  cases neg with
  |true=>
   simp only[execOp,if_true,e1.1,e0,Sem.run_bind]
   simp[eqGuard,binOp,Op.equal,Op.maxDepth,h 9999,Sem.run_pure]
  |false=>
   simp only[execOp,Bool.false_eq_true,if_false,e1.1,e0,Sem.run_bind]
   simp[eqGuard,binOp,Op.equal,Op.maxDepth,h 9999,Sem.run_pure]
theorem zsZ{t':TypeId}{neg:Bool}(hx:okc x (.one (.p (.k .nilIface))))(ht:isIfc P t=true):
 Snd P ⟨d,.binOp (if neg=true then .neq else .eql) t x (.const .nilIface) t',ty,ps,af,g⟩ (rq x (.one (.p (.k .nilIface)))) [] [] (Bo (!neg)) []:=
 zo fun C st M ρ a w hH h1 hT=>by
  obtain⟨ms,ht⟩:=zcd ht
  have e1:=hH.evS (zM hx h1)
  simp only[RepS,RepV,RepPV]at e1
  have h: ∀q:Nat,(Op.equalIn (q+1) t .nilIface .nilIface).run P w= .ok true w:=fun q=>by simp[Op.equalIn,run_underlying ht]
  have e0:a.eval (.const .nilIface)= .nilIface:=rfl
  refine⟨.bool (!neg),?_,zsY (!neg)⟩
  cases neg with
  |true=>
   simp only[execOp,if_true,e1.1,e0,Sem.run_bind]
   simp[eqGuard,binOp,Op.equal,Op.maxDepth,h 9999,Sem.run_pure]
  |false=>
   simp only[execOp,Bool.false_eq_true,if_false,e1.1,e0,Sem.run_bind]
   simp[eqGuard,binOp,Op.equal,Op.maxDepth,h 9999,Sem.run_pure]
end
section
variable {P:Program} {C:Ctx} {k:List Frm} {n:Nat} {sl:zi} {tab:Tab} {Q:Exit→St→Prop} {all:Array Oper} {rest:List Oper}
theorem zcO{d:Nat}{x y z:Operand}{t ty:TypeId}{ps:String}{af:Array Edge}{g0:Option (Nat×Bool)}{gs:zi}{md:Mode}(hC:C.low){a:ByteArray}{i j:Int}{k0 k1:IntKind}
 (hx:ev sl x=some (Sr a)) (hy:ev sl y=some (Kk k0 i)) (hz:ev sl z=some (Kk k1 j)) (ht:P.underlying t=some .string) (h0:0≤i) (h1:i≤j) (h2:j≤a.size) (hm:metL all sl g0=some gs) (hd:Nat.blt d n=true)
 (g:Goal P C (.ops all rest (nx md ⟨some d,gs++(rq x (Sr a)++rq y (Kk k0 i)++rq z (Kk k1 j)),[],[],Sr (a.extract i.toNat j.toNat),[]⟩)) k n ((d,Sr (a.extract i.toNat j.toNat))::sl) tab Q):
 Goal P C (.ops all (⟨some d,.slice t x (some y) (some z) none,ty,ps,af,g0⟩::rest) md) k n sl tab Q:=by
 have e1:=zX (st:=⟨n,sl,tab⟩) hx
 have e2:=zX (st:=⟨n,sl,tab⟩) hy
 have e3:=zX (st:=⟨n,sl,tab⟩) hz
 have:=zq hm (zoQ (P:=P) (ty:=ty) (ps:=ps) (af:=af) (g:=g0) (d:=some d) (t:=t) e1.1 e2.1 e3.1 ht h0 h1 h2) (n:=n) (tab:=tab)
 exact yr (L:=⟨some d,gs++(rq x (Sr a)++rq y (Kk k0 i)++rq z (Kk k1 j)),[],[],Sr (a.extract i.toNat j.toNat),[]⟩) hC this.1 rfl ⟨by rw[zd,zd,zd];exact⟨this.2,⟨e1.2,e2.2⟩,e3.2⟩,trivial,rfl,hd⟩ g
theorem zgl{d:Nat}{x y:Operand}{t ty:TypeId}{ps:String}{af:Array Edge}{g0:Option (Nat×Bool)}{gs:zi}{md:Mode}(hC:C.low){vs:List V}{len:Nat}{el:TypeId}{k0:IntKind}{i:Int}{v:V}
 (hx:ev sl x=some (.agg vs)) (hy:ev sl y=some (Kk k0 i)) (ht:P.underlying t=some (.array len el)) (he:(P.info? el).map (·.size)=some 1) (hs:shp P el=some none) (h0:0≤i) (hi:i<len) (hv:vs[i.toNat]?=some v) (hm:metL all sl g0=some gs) (hd:Nat.blt d n=true)
 (g:Goal P C (.ops all rest (nx md ⟨some d,gs++(rq x (.agg vs)++rq y (Kk k0 i)),[],[],.one v,[]⟩)) k n ((d,.one v)::sl) tab Q):
 Goal P C (.ops all (⟨some d,.index t x y,ty,ps,af,g0⟩::rest) md) k n sl tab Q:=by
 have e1:=zX (st:=⟨n,sl,tab⟩) hx
 have e2:=zX (st:=⟨n,sl,tab⟩) hy
 have:=zq hm (zl7 (P:=P) (ty:=ty) (ps:=ps) (af:=af) (g:=g0) (d:=some d) (t:=t) e1.1 e2.1 ht he hs h0 hi hv) (n:=n) (tab:=tab)
 exact yr (L:=⟨some d,gs++(rq x (.agg vs)++rq y (Kk k0 i)),[],[],.one v,[]⟩) hC this.1 rfl ⟨by rw[zd,zd];exact⟨this.2,e1.2,e2.2⟩,trivial,rfl,hd⟩ g
theorem yP(T:Ty P){d:Nat}{x z:Operand}{t ty:TypeId}{ps:String}{af:Array Edge}{g0:Option (Nat×Bool)}{gs:zi}{md:Mode}(hC:C.low){e:Nat}{rows:List (List PV)}(rows':List (List PV)){j:Int}{k1:IntKind}{el:TypeId}
 (hx:ev sl x=some (.one (.p (.sl e rows)))) (hz:ev sl z=some (Kk k1 j)) (he:T.es t=some (el,e)) (h0:0≤j) (h2:j≤rows.length) (hr:rows.take j.toNat=rows') (hm:metL all sl g0=some gs) (hd:Nat.blt d n=true)
 (g:Goal P C (.ops all rest (nx md ⟨some d,gs++(rq x (.one (.p (.sl e rows)))++rq z (Kk k1 j)),[],[],.one (.p (.sl e rows')),[]⟩)) k n ((d,.one (.p (.sl e rows')))::sl) tab Q):
 Goal P C (.ops all (⟨some d,.slice t x none (some z) none,ty,ps,af,g0⟩::rest) md) k n sl tab Q:=by
 subst hr
 have e1:=zX (st:=⟨n,sl,tab⟩) hx
 have e3:=zX (st:=⟨n,sl,tab⟩) hz
 have:=zq hm (zoR (P:=P) (ty:=ty) (ps:=ps) (af:=af) (g:=g0) (d:=some d) (t:=t) e1.1 e3.1 (T.es_ok _ _ he) h0 h2) (n:=n) (tab:=tab)
 exact yr (L:=⟨some d,gs++(rq x (.one (.p (.sl e rows)))++rq z (Kk k1 j)),[],[],.one (.p (.sl e (rows.take j.toNat))),[]⟩) hC this.1 rfl ⟨by rw[zd,zd];exact⟨this.2,e1.2,e3.2⟩,trivial,rfl,hd⟩ g
theorem zq1{d:Nat}{x:Operand}{t t' ty:TypeId}{ps:String}{af:Array Edge}{g0:Option (Nat×Bool)}{gs:zi}{md:Mode}(hC:C.low){id:Nat}
 (hx:ev sl x=some (.one (.ar id))) (hT:tg tab id=some .ifc) (ht:isIfc P t=true) (hm:metL all sl g0=some gs) (hd:Nat.blt d n=true)
 (g:Goal P C (.ops all rest (nx md ⟨some d,gs++rq x (.one (.ar id)),[(id,.ifc)],[],Bo false,[]⟩)) k n ((d,Bo false)::sl) tab Q):
 Goal P C (.ops all (⟨some d,.binOp .eql t x (.const .nilIface) t',ty,ps,af,g0⟩::rest) md) k n sl tab Q:=by
 have e1:=zX (st:=⟨n,sl,tab⟩) hx
 have:=zq hm (zsX (P:=P) (neg:=false) (ty:=ty) (ps:=ps) (af:=af) (g:=g0) (d:=some d) (t':=t') e1.1 ht) (n:=n) (tab:=tab)
 exact yr (L:=⟨some d,gs++rq x (.one (.ar id)),[(id,.ifc)],[],Bo false,[]⟩) hC this.1 rfl ⟨by rw[zd];exact⟨this.2,e1.2⟩,⟨hT,trivial⟩,rfl,hd⟩ g
theorem zq2{d:Nat}{x:Operand}{t t' ty:TypeId}{ps:String}{af:Array Edge}{g0:Option (Nat×Bool)}{gs:zi}{md:Mode}(hC:C.low)
 (hx:ev sl x=some (.one (.p (.k .nilIface)))) (ht:isIfc P t=true) (hm:metL all sl g0=some gs) (hd:Nat.blt d n=true)
 (g:Goal P C (.ops all rest (nx md ⟨some d,gs++rq x (.one (.p (.k .nilIface))),[],[],Bo true,[]⟩)) k n ((d,Bo true)::sl) tab Q):
 Goal P C (.ops all (⟨some d,.binOp .eql t x (.const .nilIface) t',ty,ps,af,g0⟩::rest) md) k n sl tab Q:=by
 have e1:=zX (st:=⟨n,sl,tab⟩) hx
 have:=zq hm (zsZ (P:=P) (neg:=false) (ty:=ty) (ps:=ps) (af:=af) (g:=g0) (d:=some d) (t':=t') e1.1 ht) (n:=n) (tab:=tab)
 exact yr (L:=⟨some d,gs++rq x (.one (.p (.k .nilIface))),[],[],Bo true,[]⟩) hC this.1 rfl ⟨by rw[zd];exact⟨this.2,e1.2⟩,trivial,rfl,hd⟩ g
end
end Hw
/- The engine, part BV: a function with first arguments bound (a method's value). -/
namespace Hw
open Go
section
variable {P:Program} {d:Option Nat} {ty:TypeId} {ps:String} {af:Array Edge} {g:Option (Nat×Bool)}
theorem ze5{f:FuncId}{fs l:List Operand}{ssf ss:List S}{first caps:List V}(hf:ziN fs ssf)(hcf:onesOf ssf=some first)(hx:ziN l ss)(hc:onesOf ss=some caps):
 Snd P ⟨d,.makeFunc (.func f) fs.toArray l.toArray,ty,ps,af,g⟩ (rqs fs ssf++rqs l ss) [] [] (.one (.cl f first caps)) []:=
 zo fun C st M ρ a w hH h1 _=>by
  rw[zd]at h1
  have e:=hH.zlV (jk hx h1.2)
  have e':=w8 hc e
  have e2:=hH.zlV (jk hf h1.1)
  have e2':=w8 hcf e2
  exact⟨.func (.func f) (fs.map a.eval).toArray (l.map a.eval).toArray,by simp[execOp,Instr.makeFunc],by simp only[RepS,RepV];exact⟨fs.map a.eval,l.map a.eval,rfl,e2',e'⟩⟩
end
section
variable {P:Program} {C:Ctx} {k:List Frm} {n:Nat} {sl:zi} {tab:Tab} {Q:Exit→St→Prop} {all:Array Oper} {rest:List Oper}
theorem zl8{d:Nat}{f:FuncId}{fs l:List Operand}{ty:TypeId}{ps:String}{af:Array Edge}{g0:Option (Nat×Bool)}{gs:zi}{md:Mode}(hC:C.low){ssf ss:List S}{first caps:List V}
 (hf:evs sl fs=some ssf) (hcf:onesOf ssf=some first) (hx:evs sl l=some ss) (hc:onesOf ss=some caps) (hm:metL all sl g0=some gs) (hd:Nat.blt d n=true)
 (g:Goal P C (.ops all rest (nx md ⟨some d,gs++(rqs fs ssf++rqs l ss),[],[],.one (.cl f first caps),[]⟩)) k n ((d,.one (.cl f first caps))::sl) tab Q):
 Goal P C (.ops all (⟨some d,.makeFunc (.func f) fs.toArray l.toArray,ty,ps,af,g0⟩::rest) md) k n sl tab Q:=by
 have e1:=jl (st:=⟨n,sl,tab⟩) hf
 have e2:=jl (st:=⟨n,sl,tab⟩) hx
 have:=zq hm (ze5 (P:=P) (ty:=ty) (ps:=ps) (af:=af) (g:=g0) (d:=some d) (f:=f) e1.1 hcf e2.1 hc) (n:=n) (tab:=tab)
 exact yr (L:=⟨some d,gs++(rqs fs ssf++rqs l ss),[],[],.one (.cl f first caps),[]⟩) hC this.1 rfl ⟨by rw[zd,zd];exact⟨this.2,e1.2,e2.2⟩,trivial,rfl,hd⟩ g
end
end Hw
/- The engine, part BW: a call that gives every lent resource back as it was: nothing counts as written. -/
namespace Hw
open Go
section
variable {P:Program} {d:Option Nat} {ty:TypeId} {ps:String} {af:Array Edge} {g:Option (Nat×Bool)}
end
section
variable {P:Program} {C:Ctx} {k:List Frm} {n:Nat} {sl:zi} {tab:Tab} {Q:Exit→St→Prop} {all:Array Oper} {rest:List Oper}
end
end Hw
/- The engine, part Co: rules in short (what they want besides is found by the tactics that stand as their defaults). -/
namespace Hw
open Go
theorem gG{G G':Prop}(g:G')(h:G'→G:=by first|exact fun g=>zsJ T hC true 400 rfl rfl g|exact fun g=>zl9 T hC (by kernel_rfl) g):G:=h g
theorem gB{G A B:Prop}{b:Bool}(g1:b=true→A)(g2:b=false→B)
 (h:(b=true→A)→(b=false→B)→G:=by first|exact fun g1 g2=>zP rfl g1 g2|exact fun g1 g2=>zaZ g1 g2|exact fun g1 g2=>za0 rfl rfl rfl g1 g2|exact fun g1 g2=>za1 rfl rfl g1 g2):G:=h g1 g2
theorem gX{G G':Prop}(g:G')(h:G'→G:=by exact fun g=>yh T hC rfl rfl rfl (Int.natCast_nonneg _) (zu (by assumption)) rfl rfl g):G:=h g
theorem gXT{G G':Prop}(g:G')(h:G'→G:=by exact fun g=>yh T hC rfl rfl rfl (Int.natCast_nonneg _) (ziV (by assumption)) rfl rfl g):G:=h g
theorem gXS{G G':Prop}(g:G')(h:G'→G:=by exact fun g=>wm T hC rfl rfl rfl (Int.natCast_nonneg _) (by assumption) rfl rfl g):G:=h g
theorem gQ{G G':Prop}(g:G')(h:G'→G:=by exact fun g=>ziW T (.inl rfl) rfl g):G:=h g
theorem gL{G G':Prop}(g:G')(h:G'→G:=by exact fun g=>ziX T (.inl rfl) rfl g):G:=h g
theorem gN{G G':Prop}(g:G')(h:G'→G:=by exact fun g=>zq3 T (.inl rfl) rfl g):G:=h g
theorem gF{G:Prop}(h:G:=by exact zg ⟨.inl rfl,id,_,rfl,.refl _,trivial,rfl,rfl⟩):G:=h
theorem gE{G:Prop}(h:G:=by exact zg ⟨.inl rfl,id,_,rfl,.refl _,⟨rfl,trivial⟩,rfl,rfl⟩):G:=h
theorem gM{σ:Nat→Nat}{a b:St}(h:Matches σ a b:=by first
 |exact⟨rfl,⟨rfl,rfl,trivial⟩,trivial,rfl,fun _ _=>rfl⟩
 |exact⟨rfl,by repeat' first|exact trivial|exact rfl|refine⟨?_,?_⟩,by repeat' first|exact trivial|exact rfl|refine⟨?_,?_⟩,rfl,fun _ _=>rfl⟩):Matches σ a b:=h
section
variable {P:Program} {C:Ctx} {k:List Frm} {n:Nat} {sl:zi} {tab:Tab} {Q:Exit→St→Prop} {all:Array Oper} {rest:List Oper}
theorem gC{d:Nat}{x:Operand}{l:List Operand}{ts:Array TypeId}{ty:TypeId}{ps:String}{af:Array Edge}{g0:Option (Nat×Bool)}{gs:zi}{md:Mode}{f:FuncId}{args ss:List S}{first caps:List V}{res:S}(h:zj P f args [] res [])(g:Goal P C (.ops all rest (nx md ⟨some d,gs++(rq x (.one (.cl f first caps))++rqs l ss),[],[],res,[]⟩)) k n ((d,res)::sl) tab Q)(hC:C.low:=by assumption)(hx:ev sl x=some (.one (.cl f first caps)):=by exact rfl)(hl:evs sl l=some ss:=by exact rfl)(ha:yJ (ones first++ss++ones caps) args:=by exact yJ.refl _)(hc:cloS [] res=true:=by exact rfl)(hm:metL all sl g0=some gs:=by exact rfl)(hd:Nat.blt d n=true:=by exact rfl):
 Goal P C (.ops all (⟨some d,.call ⟨.value x,l.toArray,ts⟩,ty,ps,af,g0⟩::rest) md) k n sl tab Q:=ziY hC h hx hl ha hc hm hd g
theorem gR{d:Option Nat}{x:Operand}{l:List Operand}{ts:Array TypeId}{ty:TypeId}{ps:String}{af:Array Edge}{g0:Option (Nat×Bool)}{gs:zi}{md:Mode}{f:FuncId}{args ss:List S}{first caps:List V}{res:S}{R R':RL}(h:zj P f args R res R')(σ:Nat→Nat)(g:Goal P C (.ops all rest (nx md ⟨d,gs++(rq x (.one (.cl f first caps))++rqs l ss),R.ren σ,(xH R R').map σ,res.ren σ,tb (R'.ren σ)++zdG (R.ids.map σ)⟩)) k n (app d (res.ren σ) (tb (R'.ren σ)++zdG (R.ids.map σ)) ⟨n,sl,tab⟩).sl ((tb (R'.ren σ)++zdG (R.ids.map σ))++tab) Q)(hC:C.low:=by assumption)(hx:ev sl x=some (.one (.cl f first caps)):=by exact rfl)(hl:evs sl l=some ss:=by exact rfl)(ha:yJ (ones first++ss++ones caps) (Ss.ren σ args):=by exact yJ.refl _)(hi:injB σ R.ids=true:=by exact rfl)(hi2:injB σ R'.ids=true:=by exact rfl)(hc:cloS (R.ids++R'.ids) res=true:=by exact rfl)(hcR:ze6 (R.ids++R'.ids) R'=true:=by exact rfl)(hT:rdT tab (R.ren σ)=R.ren σ:=by exact rfl)(hfr:allB (fun id=>Nat.ble 100 id&&freshB id ⟨n,sl,tab⟩) ((xH R R').map σ)=true:=by exact rfl)(hm:metL all sl g0=some gs:=by exact rfl)(hd:dok d n=true:=by exact rfl):
 Goal P C (.ops all (⟨d,.call ⟨.value x,l.toArray,ts⟩,ty,ps,af,g0⟩::rest) md) k n sl tab Q:=zr hC h σ hx hl ha hi hi2 hc hcR hT hfr hm hd g
theorem gI{d:Nat}{x y:Operand}{t:TypeId}{ty:TypeId}{ps:String}{af:Array Edge}{g0:Option (Nat×Bool)}{gs:zi}{md:Mode}{e:Nat}{rows:List (List PV)}{k0:IntKind}{i:Int}{row:List PV}{el:TypeId}(T:Ty P)(hi:rows[i.toNat]?=some row)(g:Goal P C (.ops all rest (nx md ⟨some d,gs++(rq x (.one (.p (.sl e rows)))++rq y (Kk k0 i)),[],[],.one (.pi row 0),[]⟩)) k n ((d,.one (.pi row 0))::sl) tab Q)(hC:C.low:=by assumption)(hx:ev sl x=some (.one (.p (.sl e rows))):=by exact rfl)(hy:ev sl y=some (Kk k0 i):=by exact rfl)(he:T.es t=some (el,e):=by exact rfl)(h0:0≤i:=by exact Int.natCast_nonneg _)(hm:metL all sl g0=some gs:=by exact rfl)(hd:Nat.blt d n=true:=by exact rfl):
 Goal P C (.ops all (⟨some d,.indexAddr t x y,ty,ps,af,g0⟩::rest) md) k n sl tab Q:=yh T hC hx hy he h0 hi hm hd g
theorem gO{f:FuncId}{fn:Func}{c:Code}{args:List S}{R R':RL}{res:S}{rv:List ResultVar}(T:Ty P)(hf:P.funcs[f]?=some fn)(body: ∀C:Ctx,C.low→Goal P C (.code c) [] fn.ntmps (enum 0 args) (tb R) (zq4 T rv R res R'))
 (hname:(fn.name== "runtime.NumGoroutine")=false:=by kernel_rfl) (hb:fn.body=some c:=by exact rfl) (hrv:fn.results=rv.toArray:=by exact rfl) (hlow:allB (fun i=>Nat.blt i 100) R.ids=true:=by exact rfl)
 (hn:Nat.ble args.length fn.ntmps=true:=by exact rfl):zj P f args R res R':=zs0 T hf hname hb hrv hlow hn body
end
end Hw
/- The seat's tables of types. -/
namespace Hw.Fr
open Go Go.Proofs
def yn:Tabs:=
{ sh:=(.nd (.nd (.nd (.nd (.nd (.nd (.nd .lf 2 none .lf) 3 none (.nd .lf 4 none .lf)) 5 none (.nd (.nd .lf 9 none .lf) 20 none (.nd .lf 21 none .lf))) 22 none (.nd (.nd (.nd .lf 25 none .lf) 26 none (.nd .lf 30 none .lf)) 31 none (.nd (.nd .lf 33 (some 2) .lf) 35 (some 4) .lf))) 40 none (.nd (.nd (.nd (.nd .lf 41 none .lf) 45 (some 3) (.nd .lf 48 none .lf)) 50 (some 2) (.nd (.nd .lf 53 none .lf) 59 none .lf)) 60 none (.nd (.nd (.nd .lf 67 (some 3) .lf) 70 none (.nd .lf 75 none .lf)) 81 none (.nd (.nd .lf 84 none .lf) 85 none .lf)))) 87 (some 5) (.nd (.nd (.nd (.nd (.nd .lf 90 none .lf) 91 none (.nd .lf 102 (some 4) .lf)) 114 none (.nd (.nd .lf 118 none .lf) 124 (some 3) (.nd .lf 132 (some 2) .lf))) 136 none (.nd (.nd (.nd .lf 141 none .lf) 144 (some 3) (.nd .lf 149 none .lf)) 151 none (.nd (.nd .lf 154 none .lf) 155 none .lf))) 156 none (.nd (.nd (.nd (.nd .lf 157 none .lf) 158 none (.nd .lf 159 none .lf)) 160 none (.nd (.nd .lf 162 (some 8) .lf) 170 (some 2) .lf)) 173 none (.nd (.nd (.nd .lf 175 (some 5) .lf) 178 none (.nd .lf 190 none .lf)) 204 none (.nd (.nd .lf 206 (some 2) .lf) 208 none .lf))))) 213 none (.nd (.nd (.nd (.nd (.nd (.nd .lf 216 none .lf) 218 (some 3) (.nd .lf 221 none .lf)) 234 none (.nd (.nd .lf 240 (some 5) .lf) 243 none (.nd .lf 250 (some 2) .lf))) 253 (some 2) (.nd (.nd (.nd .lf 254 none .lf) 256 none (.nd .lf 258 (some 4) .lf)) 260 (some 7) (.nd (.nd .lf 263 (some 6) .lf) 264 none .lf))) 266 (some 5) (.nd (.nd (.nd (.nd .lf 268 (some 5) .lf) 271 none (.nd .lf 273 none .lf)) 277 none (.nd (.nd .lf 284 none .lf) 286 none .lf)) 296 none (.nd (.nd (.nd .lf 302 (some 4) .lf) 306 none (.nd .lf 307 none .lf)) 309 none (.nd (.nd .lf 313 none .lf) 315 (some 1) .lf)))) 317 (some 5) (.nd (.nd (.nd (.nd (.nd .lf 319 none .lf) 323 none (.nd .lf 338 (some 24) .lf)) 352 none (.nd (.nd .lf 359 (some 20) .lf) 360 (some 65) (.nd .lf 363 none .lf))) 364 none (.nd (.nd (.nd .lf 368 (some 2) .lf) 369 none (.nd .lf 375 (some 256) .lf)) 377 none (.nd (.nd .lf 381 none .lf) 385 (some 32) .lf))) 386 (some 64) (.nd (.nd (.nd (.nd .lf 387 none .lf) 389 (some 2) (.nd .lf 391 none .lf)) 395 (some 3) (.nd (.nd .lf 402 none .lf) 403 none .lf)) 405 (some 3) (.nd (.nd (.nd .lf 407 (some 3) .lf) 410 (some 3) (.nd .lf 413 none .lf)) 415 (some 1) (.nd (.nd .lf 416 none .lf) 417 none .lf))))))
  fo:=(.nd (.nd (.nd (.nd (.nd (.nd .lf 33 (.nd (.nd .lf 0 0 .lf) 1 1 .lf) .lf) 35 (.nd (.nd .lf 0 0 .lf) 1 1 (.nd .lf 2 2 .lf)) .lf) 45 (.nd (.nd .lf 0 0 .lf) 1 1 .lf) (.nd .lf 50 (.nd (.nd .lf 0 0 .lf) 1 1 .lf) .lf)) 67 (.nd (.nd .lf 0 0 .lf) 1 1 (.nd .lf 2 2 .lf)) (.nd (.nd .lf 87 (.nd (.nd (.nd .lf 0 0 .lf) 1 1 .lf) 2 2 (.nd (.nd .lf 3 3 .lf) 4 4 .lf)) .lf) 102 (.nd (.nd .lf 0 0 .lf) 1 1 (.nd .lf 2 3 .lf)) (.nd .lf 124 (.nd (.nd .lf 0 0 .lf) 1 1 (.nd .lf 2 2 .lf)) .lf))) 132 (.nd (.nd .lf 0 0 .lf) 1 1 .lf) (.nd (.nd (.nd .lf 144 (.nd (.nd .lf 0 0 .lf) 1 1 (.nd .lf 2 2 .lf)) .lf) 162 (.nd (.nd (.nd (.nd .lf 0 0 .lf) 1 1 .lf) 2 2 (.nd .lf 3 3 .lf)) 4 4 (.nd (.nd .lf 5 5 .lf) 6 6 (.nd .lf 7 7 .lf))) (.nd .lf 170 (.nd (.nd .lf 0 0 .lf) 1 1 .lf) .lf)) 175 (.nd (.nd (.nd .lf 0 0 .lf) 1 1 .lf) 2 2 (.nd (.nd .lf 3 3 .lf) 4 4 .lf)) (.nd (.nd .lf 206 (.nd (.nd .lf 0 0 .lf) 1 1 .lf) .lf) 218 (.nd (.nd .lf 0 0 .lf) 1 1 (.nd .lf 2 2 .lf)) (.nd .lf 240 (.nd (.nd (.nd .lf 0 0 .lf) 1 1 .lf) 2 2 (.nd .lf 3 3 .lf)) .lf)))) 250 (.nd (.nd .lf 0 0 .lf) 1 1 .lf) (.nd (.nd (.nd (.nd .lf 253 (.nd (.nd .lf 0 0 .lf) 1 1 .lf) .lf) 258 (.nd (.nd (.nd .lf 0 0 .lf) 1 1 .lf) 2 2 (.nd .lf 3 3 .lf)) (.nd .lf 260 (.nd (.nd (.nd .lf 0 0 .lf) 1 1 .lf) 2 2 (.nd .lf 3 3 .lf)) .lf)) 263 (.nd (.nd .lf 0 0 .lf) 1 1 (.nd .lf 2 2 .lf)) (.nd (.nd .lf 266 (.nd (.nd .lf 0 0 .lf) 1 1 .lf) .lf) 268 (.nd (.nd .lf 0 0 .lf) 1 1 .lf) (.nd .lf 315 (.nd .lf 0 0 .lf) .lf))) 317 (.nd (.nd (.nd .lf 0 0 .lf) 1 1 .lf) 2 2 (.nd (.nd .lf 3 3 .lf) 4 4 .lf)) (.nd (.nd (.nd .lf 368 (.nd (.nd .lf 0 0 .lf) 1 1 .lf) .lf) 389 (.nd (.nd .lf 0 0 .lf) 1 1 .lf) (.nd .lf 395 (.nd (.nd .lf 0 0 .lf) 1 1 (.nd .lf 2 2 .lf)) .lf)) 405 (.nd (.nd .lf 0 0 .lf) 1 1 (.nd .lf 2 2 .lf)) (.nd (.nd .lf 407 (.nd (.nd .lf 0 0 .lf) 1 1 (.nd .lf 2 2 .lf)) .lf) 410 (.nd (.nd .lf 0 0 .lf) 1 1 (.nd .lf 2 2 .lf)) (.nd .lf 415 (.nd .lf 0 0 .lf) .lf)))))
  es:=(.nd (.nd (.nd (.nd (.nd .lf 22 (35,4) .lf) 30 (45,3) (.nd .lf 31 (3,1) .lf)) 41 (5,1) (.nd (.nd .lf 48 (31,1) .lf) 59 (50,2) (.nd .lf 70 (33,2) .lf))) 75 (67,3) (.nd (.nd (.nd .lf 84 (102,4) .lf) 85 (141,1) (.nd .lf 114 (144,3) .lf)) 149 (124,3) (.nd (.nd .lf 151 (9,1) .lf) 154 (250,2) .lf))) 155 (253,2) (.nd (.nd (.nd (.nd .lf 156 (175,5) .lf) 157 (260,7) (.nd .lf 158 (263,6) .lf)) 159 (266,5) (.nd (.nd .lf 160 (268,5) .lf) 173 (317,5) .lf)) 213 (240,5) (.nd (.nd (.nd .lf 256 (258,4) .lf) 363 (368,2) (.nd .lf 364 (363,1) .lf)) 387 (389,2) (.nd (.nd .lf 402 (407,3) .lf) 403 (410,3) .lf))))
  zs:=(.nd (.nd (.nd (.nd (.nd (.nd (.nd .lf 2 [(.int .i64)] .lf) 3 [(.int .i64)] (.nd .lf 4 [.bool] .lf)) 5 [(.int .u8)] (.nd (.nd .lf 9 [.str] .lf) 20 [.nif] .lf)) 21 [(.int .i32)] (.nd (.nd (.nd .lf 22 [.slice] .lf) 25 [.ptr] (.nd .lf 26 [(.int .i64)] .lf)) 30 [.slice] (.nd (.nd .lf 31 [.slice] .lf) 33 [(.int .i64),.slice] .lf))) 35 [(.int .i64),(.int .i64),(.int .i64),.slice] (.nd (.nd (.nd (.nd .lf 40 [(.int .u16)] .lf) 41 [.slice] (.nd .lf 45 [(.int .i64),(.int .i64),.slice] .lf)) 48 [.slice] (.nd (.nd .lf 50 [(.int .i64),.slice] .lf) 53 [.nfunc] .lf)) 59 [.slice] (.nd (.nd (.nd .lf 60 [.nfunc] .lf) 67 [(.int .i64),(.int .i64),.slice] (.nd .lf 70 [.slice] .lf)) 75 [.slice] (.nd (.nd .lf 81 [.nfunc] .lf) 84 [.slice] .lf)))) 85 [.slice] (.nd (.nd (.nd (.nd (.nd .lf 87 [.str,(.int .i64),.slice,.slice,(.int .i64)] .lf) 90 [.nfunc] (.nd .lf 91 [.nfunc] .lf)) 102 [(.int .i64),(.int .i64),.slice,.bool] (.nd (.nd .lf 114 [.slice] .lf) 118 [.nfunc] .lf)) 124 [.str,.str,(.int .i64)] (.nd (.nd (.nd .lf 132 [.str,.slice] .lf) 136 [.nfunc] (.nd .lf 141 [.ptr] .lf)) 144 [.str,(.int .i64),.bool] (.nd (.nd .lf 149 [.slice] .lf) 151 [.slice] .lf))) 154 [.slice] (.nd (.nd (.nd (.nd .lf 155 [.slice] .lf) 156 [.slice] (.nd .lf 157 [.slice] .lf)) 158 [.slice] (.nd (.nd .lf 159 [.slice] .lf) 160 [.slice] .lf)) 162 [.str,.slice,.slice,.slice,.slice,.slice,.slice,.slice] (.nd (.nd (.nd .lf 170 [(.int .i64),(.int .i64)] .lf) 173 [.slice] (.nd .lf 175 [.str,.slice,.str,.slice,.slice] .lf)) 178 [(.int .u64)] (.nd (.nd .lf 190 [.nfunc] .lf) 204 [.ptr] .lf))))) 208 [.nif] (.nd (.nd (.nd (.nd (.nd (.nd .lf 213 [.slice] .lf) 216 [.ptr] (.nd .lf 218 [.slice,(.int .i64),.bool] .lf)) 221 [.ptr] (.nd (.nd .lf 234 [.nfunc] .lf) 240 [(.int .i64),.str,(.int .i64),(.int .i64),(.int .i64)] .lf)) 243 [.ptr] (.nd (.nd (.nd .lf 250 [.str,.slice] .lf) 253 [.str,.str] (.nd .lf 254 [.nfunc] .lf)) 256 [.slice] (.nd (.nd .lf 258 [(.int .i64),(.int .i64),.str,.slice] .lf) 260 [.str,.str,(.int .i64),(.int .i64),(.int .i64),.str,.slice] .lf))) 263 [.str,.str,(.int .i64),(.int .i64),.str,.slice] (.nd (.nd (.nd (.nd .lf 264 [.nfunc] .lf) 266 [.str,(.int .i64),(.int .i64),.str,.slice] (.nd .lf 268 [.str,(.int .i64),(.int .i64),.str,.slice] .lf)) 271 [.nfunc] (.nd (.nd .lf 273 [.nfunc] .lf) 277 [(.int .i64)] .lf)) 284 [(.int .u32)] (.nd (.nd (.nd .lf 286 [(.int .u64)] .lf) 296 [.ptr] (.nd .lf 302 [.str,.str,.str,.str] .lf)) 306 [.nfunc] (.nd (.nd .lf 307 [.nfunc] .lf) 309 [.nfunc] .lf)))) 313 [.ptr] (.nd (.nd (.nd (.nd (.nd .lf 315 [(.int .i64)] .lf) 317 [(.int .i64),.str,.slice,.slice,.slice] (.nd .lf 319 [(.int .u64)] .lf)) 323 [.ptr] (.nd (.nd .lf 338 [(.int .u8),(.int .u8),(.int .u8),(.int .u8),(.int .u8),(.int .u8),(.int .u8),(.int .u8),(.int .u8),(.int .u8),(.int .u8),(.int .u8),(.int .u8),(.int .u8),(.int .u8),(.int .u8),(.int .u8),(.int .u8),(.int .u8),(.int .u8),(.int .u8),(.int .u8),(.int .u8),(.int .u8)] .lf) 352 [.ptr] .lf)) 359 [(.int .u64),(.int .u64),(.int .u64),(.int .u64),(.int .u64),(.int .u64),(.int .u64),(.int .u64),(.int .u64),(.int .u64),(.int .u64),(.int .u64),(.int .u64),(.int .u64),(.int .u64),(.int .u64),(.int .u64),(.int .u64),(.int .u64),(.int .u64)] (.nd (.nd (.nd .lf 363 [.slice] .lf) 364 [.slice] (.nd .lf 368 [.str,(.int .i64)] .lf)) 369 [.nfunc] (.nd (.nd .lf 377 [.nfunc] .lf) 381 [.ptr] .lf))) 385 [(.int .u8),(.int .u8),(.int .u8),(.int .u8),(.int .u8),(.int .u8),(.int .u8),(.int .u8),(.int .u8),(.int .u8),(.int .u8),(.int .u8),(.int .u8),(.int .u8),(.int .u8),(.int .u8),(.int .u8),(.int .u8),(.int .u8),(.int .u8),(.int .u8),(.int .u8),(.int .u8),(.int .u8),(.int .u8),(.int .u8),(.int .u8),(.int .u8),(.int .u8),(.int .u8),(.int .u8),(.int .u8)] (.nd (.nd (.nd (.nd .lf 387 [.slice] .lf) 389 [(.int .i64),(.int .i64)] (.nd .lf 391 [.ptr] .lf)) 395 [.str,.str,.nif] (.nd (.nd .lf 402 [.slice] .lf) 403 [.slice] .lf)) 405 [.slice,.slice,(.int .i64)] (.nd (.nd (.nd .lf 407 [(.int .u16),(.int .u16),(.int .u16)] .lf) 410 [(.int .u32),(.int .u32),(.int .u32)] (.nd .lf 413 [.ptr] .lf)) 415 [.str] (.nd (.nd .lf 416 [.ptr] .lf) 417 [.ptr] .lf))))))
  pl:=(.nd (.nd (.nd (.nd (.nd (.nd .lf 33 [(0,1),(1,1)] .lf) 35 [(0,1),(1,1),(2,2)] .lf) 45 [(0,1),(1,2)] (.nd .lf 50 [(0,1),(1,1)] .lf)) 67 [(0,1),(1,1),(2,1)] (.nd (.nd .lf 87 [(0,1),(1,1),(2,1),(3,1),(4,1)] .lf) 102 [(0,1),(1,2),(3,1)] (.nd .lf 124 [(0,1),(1,1),(2,1)] .lf))) 132 [(0,1),(1,1)] (.nd (.nd (.nd .lf 144 [(0,1),(1,1),(2,1)] .lf) 162 [(0,1),(1,1),(2,1),(3,1),(4,1),(5,1),(6,1),(7,1)] (.nd .lf 170 [(0,1),(1,1)] .lf)) 175 [(0,1),(1,1),(2,1),(3,1),(4,1)] (.nd (.nd .lf 206 [(0,1),(1,1)] .lf) 218 [(0,1),(1,1),(2,1)] (.nd .lf 240 [(0,1),(1,1),(2,1),(3,2)] .lf)))) 250 [(0,1),(1,1)] (.nd (.nd (.nd (.nd .lf 253 [(0,1),(1,1)] .lf) 258 [(0,1),(1,1),(2,1),(3,1)] (.nd .lf 260 [(0,1),(1,1),(2,1),(3,4)] .lf)) 263 [(0,1),(1,1),(2,4)] (.nd (.nd .lf 266 [(0,1),(1,4)] .lf) 268 [(0,1),(1,4)] (.nd .lf 315 [(0,1)] .lf))) 317 [(0,1),(1,1),(2,1),(3,1),(4,1)] (.nd (.nd (.nd .lf 368 [(0,1),(1,1)] .lf) 389 [(0,1),(1,1)] (.nd .lf 395 [(0,1),(1,1),(2,1)] .lf)) 405 [(0,1),(1,1),(2,1)] (.nd (.nd .lf 407 [(0,1),(1,1),(2,1)] .lf) 410 [(0,1),(1,1),(2,1)] (.nd .lf 415 [(0,1)] .lf)))))
  str:=(.nd .lf 9 () .lf)
  ik:=(.nd (.nd (.nd (.nd .lf 2 .i64 .lf) 3 .i64 .lf) 5 .u8 (.nd (.nd .lf 21 .i32 .lf) 26 .i64 .lf)) 40 .u16 (.nd (.nd (.nd .lf 178 .u64 .lf) 277 .i64 .lf) 284 .u32 (.nd (.nd .lf 286 .u64 .lf) 319 .u64 .lf))) }
theorem zoS:yn.check Tryz.prog=true:=by kernel_rfl
theorem mixed:Tryz.prog.follows .mixedOrders=true:=by kernel_rfl
noncomputable def T:Ty Tryz.prog:=yn.ty zoS mixed
end Hw.Fr
namespace Hw.Fr.Ps
open Go Go.Proofs Hw.M
abbrev uc(c:Int):S:= .one (.p (.k (.int .u8 c)))
def yN(c:Int):Bool:=(decide (97≤c)&&decide (c≤122))||(decide (65≤c)&&decide (c≤90))
def isDigit(c:Int):Bool:=decide (48≤c)&&decide (c≤57)
def isWord(c:Int):Bool:=(yN c||isDigit c)||decide (c=95)
theorem zdH(c:Int):zj Tryz.prog 245 [uc c] [] (.bq (yN c)) []:=by
 refine gO T Tryz.func245 fun C hC=>?_
 repeat' first|refine gG ?_|refine gB (fun h=>?_) (fun h=>?_)|refine gQ ?_|refine gL ?_
 all_goals (simp_all[yN]<;>omega)
theorem zma(c:Int):zj Tryz.prog 246 [uc c] [] (.bq (isDigit c)) []:=by
 refine gO T Tryz.func246 fun C hC=>?_
 repeat' first|refine gG ?_|refine gB (fun h=>?_) (fun h=>?_)|refine gQ ?_|refine gL ?_
 all_goals (simp_all[isDigit]<;>omega)
theorem zoT(c:Int):zj Tryz.prog 204 [uc c] [] (.bq (isWord c)) []:=by
 refine gO T Tryz.func204 fun C hC=>?_
 repeat' first|refine gG ?_|refine gB (fun h=>?_) (fun h=>?_)|refine gQ ?_|refine gL ?_|refine gC (zdH _) ?_|refine gC (zma _) ?_
 all_goals simp_all[isWord]
theorem zq5(l:List Str)(s:Str):zj Tryz.prog 280 [pS (ze7 l),Sr s] [] (.bq (l.any fun x=>decide (x=s))) []:=by
 refine gO T Tryz.func280 fun C hC=>?_
 refine w9 0 rfl fun hlen=>?_
 rw[List.length_map]at hlen
 repeat' first|refine gG ?_|refine gB (fun h=>?_) (fun h=>?_)
 refine zy (fun i:Nat=>i≤l.length∧(l.take i).any (fun x=>decide (x=s))=false) (fun i=>([(0,pS (ze7 l)),(1,Sr s),(5,I i)],[])) (fun i=>l.length - i) hC
  0 ⟨Nat.zero_le _,by simp⟩ id gM ?_
 rintro i ⟨hi,hn⟩
 refine zI T hC true 200 rfl ?_
 refine zP rfl (fun h=>?_) (fun h=>?_)
 ·have hlt:i<l.length:=by simpa using h
  obtain⟨x,hx⟩:=zf hlt
  repeat' first|refine gG ?_|refine gB (fun h=>?_) (fun h=>?_)|refine gX ?_|refine zT ?_|refine zp ?_|refine gQ ?_|refine gL ?_
  ·exact(ziZ hx h).symm
  ·rw[wrap64 (by omega)]
   refine zh (i+1) ⟨by omega,?_⟩ id (by omega) gM
   rw[zgm hx,hn,h];rfl
 ·have hge: ¬i<l.length:=by simpa using h
  repeat' first|refine gG ?_|refine gB (fun h=>?_) (fun h=>?_)|refine zp ?_|refine gL ?_
  exact(zi0 (by omega) hn).symm
def za2:List Str:=[(⟨#[116,121,112,101]⟩:ByteArray),(⟨#[118,97,114]⟩:ByteArray),(⟨#[112,114,111,99]⟩:ByteArray),(⟨#[108,111,99,97,108]⟩:ByteArray),(⟨#[109,101,97,115,117,114,101]⟩:ByteArray),(⟨#[105,110,118,97,114,105,97,110,116]⟩:ByteArray),(⟨#[112,111,116,101,110,116,105,97,108]⟩:ByteArray),(⟨#[98,111,117,110,100]⟩:ByteArray),(⟨#[105,102]⟩:ByteArray),(⟨#[101,108,115,101]⟩:ByteArray),(⟨#[119,104,105,108,101]⟩:ByteArray),(⟨#[114,101,116,117,114,110]⟩:ByteArray),(⟨#[110,101,119]⟩:ByteArray),(⟨#[110,105,108]⟩:ByteArray),(⟨#[116,114,117,101]⟩:ByteArray),(⟨#[102,97,108,115,101]⟩:ByteArray),(⟨#[97,110,100]⟩:ByteArray),(⟨#[111,114]⟩:ByteArray),(⟨#[110,111,116]⟩:ByteArray),(⟨#[109,97,120]⟩:ByteArray),(⟨#[109,105,110]⟩:ByteArray),(⟨#[108,111,103]⟩:ByteArray),(⟨#[105,110,116]⟩:ByteArray),(⟨#[98,111,111,108]⟩:ByteArray),(⟨#[116,104,105,115]⟩:ByteArray),(⟨#[115,111,114,116]⟩:ByteArray),(⟨#[111,112]⟩:ByteArray),(⟨#[114,117,108,101]⟩:ByteArray),(⟨#[115,112,101,99]⟩:ByteArray),(⟨#[100,101,115,99]⟩:ByteArray),(⟨#[115,99,114,105,112,116]⟩:ByteArray)]
def y6(s:Str):Bool:=za2.any fun x=>decide (x=s)
theorem ze8:zj Tryz.prog 281 [] [] (pS (ze7 za2)) []:=by
 refine gO T Tryz.func281 fun C hC=>?_
 repeat' first|refine gG ?_|refine gB (fun h=>?_) (fun h=>?_)|refine ya T hC rfl rfl rfl rfl rfl rfl rfl rfl rfl ?_
 exact gF
theorem zdI(s:Str):zj Tryz.prog 247 [Sr s] [] (.bq (y6 s)) []:=by
 refine gO T Tryz.func247 fun C hC=>?_
 repeat' first|refine gG ?_|refine gB (fun h=>?_) (fun h=>?_)|refine gC ze8 ?_|refine gC (zq5 _ _) ?_|refine gQ ?_|refine gL ?_
 rfl
def bytes(s:Str):List Int:=s.data.toList.map fun b=>(b.toNat:Int)
theorem bytes_at{s:Str}{i:Nat}{c:Int}(h:(bytes s)[i]?=some c): ∃b:UInt8,s[((i:Nat):Int).toNat]?=some b∧c=(b.toNat:Int):=by
 simp only[bytes,List.getElem?_map,Option.map_eq_some_iff]at h
 obtain⟨b,hb,rfl⟩:=h
 refine⟨b,?_,rfl⟩
 have hlt:i<s.data.size:=by
  have:=(List.getElem?_eq_some_iff.1 hb).1
  simpa using this
 have:s.data[i]=b:=by rw[Array.getElem?_toList,Array.getElem?_eq_getElem hlt]at hb;exact Option.some.inj hb
 have hlt':i<s.size:=hlt
 simp only[Int.toNat_natCast]
 rw[getElem?_pos s i hlt']
 exact congrArg some this
theorem zdJ(s:Str):(bytes s).length=s.size:=by simp only[bytes,List.length_map,Array.length_toList];rfl
def isName(s:Str):Bool:= !decide (s.size=0)&& !decide (40<s.size)&&(match bytes s with| []=>false|c::_=>yN c)&&(bytes s).all isWord&& !y6 s
theorem zi1(s:Str):zj Tryz.prog 211 [Sr s] [] (.bq (isName s)) []:=by
 refine gO T Tryz.func211 fun C hC=>?_
 have hbl:=zdJ s
 repeat' first|refine gG ?_|refine gB (fun h=>?_) (fun h=>?_)
 ·repeat' first|refine gG ?_|refine gB (fun h=>?_) (fun h=>?_)|refine gL ?_
  simp_all[isName]
 ·repeat' first|refine gG ?_|refine gB (fun h=>?_) (fun h=>?_)|refine gL ?_
  have h1:40<s.size:=by have:=of_decide_eq_true h;omega
  simp[isName,h1]
 ·rename_i h0
  have hs:0<(bytes s).length:=by have:=of_decide_eq_false h0;omega
  obtain⟨c,hc⟩:=zf hs
  obtain⟨b,hb,rfl⟩:=bytes_at hc
  refine wm T hC rfl rfl rfl (Int.le_refl _) hb rfl rfl ?_
  repeat' first|refine gG ?_|refine gB (fun h=>?_) (fun h=>?_)|refine gC (zdH _) ?_|refine gL ?_
  ·have hb0:bytes s≠ []:=fun e=>by rw[e]at hs;simp at hs
   cases hbs:bytes s with
   |nil=>exact absurd hbs hb0
   |cons c cs=>
    rw[hbs]at hc;simp only[List.getElem?_cons_zero,Option.some.injEq]at hc
    have hl:yN c=false:=by rw[hc];simpa using h
    simp[isName,hbs,hl]
  ·have hnm:isName s=((bytes s).all isWord&& !y6 s):=by
    cases hbs:bytes s with
    |nil=>rw[hbs]at hs;simp at hs
    |cons c cs=>
     have hc':=hc
     rw[hbs]at hc';simp only[List.getElem?_cons_zero,Option.some.injEq]at hc'
     have hl:yN c=true:=by rw[hc'];simpa using h
     have e1: ¬s.size=0:=by rw[hbl]at hs;omega
     have e2: ¬40<s.size:=by rename_i h2;have:=of_decide_eq_false h2;omega
     simp only[isName,hbs,hl,e1,e2,decide_false,Bool.not_false,Bool.true_and]
   have hlen:s.size≤40:=by rename_i h2;have:=of_decide_eq_false h2;omega
   refine zy (fun i:Nat=>i≤s.size∧((bytes s).take i).all isWord=true) (fun i=>([(0,Sr s),(3,I i)],[])) (fun i=>s.size - i) hC
    0 ⟨Nat.zero_le _,by simp⟩ id gM ?_
   rintro i ⟨hi,hn⟩
   refine zI T hC true 200 rfl ?_
   refine zP rfl (fun h=>?_) (fun h=>?_)
   ·have hlt:i<(bytes s).length:=by rw[hbl];have:=of_decide_eq_true h;omega
    obtain⟨c,hx⟩:=zf hlt
    obtain⟨b,hb,rfl⟩:=bytes_at hx
    repeat' first|refine gG ?_|refine gB (fun h=>?_) (fun h=>?_)|refine gXS ?_|refine gC (zoT _) ?_|refine zT ?_|refine gL ?_
    ·have hw:isWord (b.toNat:Int)=false:=by simpa using h
     rw[hnm,jP hx hw];rfl
    ·have hw:isWord (b.toNat:Int)=true:=by simpa using h
     rw[wrap64 (by omega)]
     refine zh (i+1) ⟨by omega,?_⟩ id (by omega) gM
     rw[xq hx,hn,hw];rfl
   ·have hge:s.size≤i:=by have:=of_decide_eq_false h;omega
    repeat' first|refine gG ?_|refine gB (fun h=>?_) (fun h=>?_)|refine zp ?_|refine gC (zdI _) ?_|refine gQ ?_
    rw[hnm,zai (by rw[hbl];exact hge) hn];rfl
end Hw.Fr.Ps
namespace Hw.Fr.Ps
open Go Go.Proofs Hw.M
def isType(s:Str):Bool:=decide (s=(⟨#[105,110,116]⟩:ByteArray))||decide (s=(⟨#[98,111,111,108]⟩:ByteArray))||isName s
def zce(s:Str):Bool:=decide (s=(⟨#[]⟩:ByteArray))||isName s
def zcP(f:Fld):Bool:=isName f.n&&isType f.t
def xZ(l:List Fld)(most:Int):Bool:=decide ((l.length:Int)≤most)&&l.all zcP
theorem open_ok(s:Str):zj Tryz.prog 259 [Sr s] [] (.bq (zce s)) []:=by
 refine gO T Tryz.func259 fun C hC=>?_
 repeat' first|refine gG ?_|refine gB (fun h=>?_) (fun h=>?_)|refine gC (zi1 _) ?_|refine gQ ?_|refine gL ?_
 all_goals simp_all[zce]
end Hw.Fr.Ps
namespace Hw.Fr.Ps
open Go Go.Proofs Hw.M
def zs1(d:xk)(s:Str):Int:=idxOf (fun t=>decide (t.n=s)) d.types
def zoU(s:Str):Bool:=decide (s=(⟨#[105,110,116]⟩:ByteArray))||decide (s=(⟨#[98,111,111,108]⟩:ByteArray))
def known(d:xk)(f:Fld):Bool:=zoU f.t|| !decide (zs1 d f.t<0)
end Hw.Fr.Ps
namespace Hw.Fr.Ps
open Go Go.Proofs Hw.M
theorem newRow(n:Nat):List.replicate n [PV.k (.int .i64 0)]=(List.replicate n (0:Int)).map zS:=by rw[List.map_replicate];rfl
end Hw.Fr.Ps
namespace Hw.Fr.Ps
open Go Go.Proofs Hw.M
def yu(op:Int):Int:=
 if(decide (1≤op)&&decide (op≤4))||decide (op=6)then 0
 else if((decide (op=5)||decide (op=8))||decide (op=18))||decide (op=24)then 1
 else if op=7 then -1
 else if op=21 then 3
 else if decide (9≤op)&&decide (op≤23)then 2
 else -2
def jm(e:Ex):Bool:=
 if e.op=4 then decide (e.s=(⟨#[116,104,105,115]⟩:ByteArray))||isName e.s
 else if e.op=5∨e.op=6∨e.op=7 then isName e.s
 else decide (e.s=(⟨#[]⟩:ByteArray))
def zaT(e:Ex):Bool:=
 !decide (yu e.op= -2)&& !(decide (0≤yu e.op)&& !decide ((e.l.length:Int)=yu e.op))&& !(decide (yu e.op= -1)&&decide (6<(e.l.length:Int)))&&jm e&&
 (if e.op=1 then decide (0≤e.n)&&decide (e.n≤1099511627776)else if e.op=2 then decide (e.n=0)||decide (e.n=1)else decide (e.n=0))
mutual
def countS:Ex→Int→Int
 | .mk op n s l,d=>if decide (60<d)|| !zaT (.mk op n s l)then 1001 else countL l d 1
def countL:List Ex→Int→Int→Int
 | [],_,n=>n
 |e::es,d,n=>if 1000<n+countS e (d+1)then n+countS e (d+1)else countL es d (n+countS e (d+1))
end
mutual
theorem xP: ∀(e:Ex) (d:Int),1≤countS e d∧countS e d≤1001+1000*(if d≤60 then 61 - d else 0)
 | .mk op n s l,d=>by
   simp only[countS]
   split
   ·split<;>omega
   ·rename_i h
    simp only[Bool.or_eq_true,decide_eq_true_eq,Bool.not_eq_true',not_or]at h
    have:=vD l d 1 (by omega) (by omega) (by omega)
    rw[if_pos (by omega)];omega
theorem vD: ∀(l:List Ex) (d n:Int),1≤n→n≤1000→d≤60→1≤countL l d n∧countL l d n≤1001+1000*(61 - d)
 | [],d,n,h1,h2,h3=>by simp only[countL];omega
 |e::es,d,n,h1,h2,h3=>by
  simp only[countL]
  have hb:=xP e (d+1)
  split at hb
  ·split
   ·omega
   ·exact vD es d _ (by omega) (by omega) h3
  ·split
   ·omega
   ·exact vD es d _ (by omega) (by omega) h3
end
end Hw.Fr.Ps
namespace Hw.Fr.Ps
open Go Go.Proofs Hw.M
theorem drop_at{α:Type}{l:List α}{i:Nat}{x:α}(h:l[i]?=some x):l.drop i=x::l.drop (i+1):=by
 obtain⟨hlt,rfl⟩:=List.getElem?_eq_some_iff.1 h
 exact List.drop_eq_getElem_cons hlt
end Hw.Fr.Ps
namespace Hw.Fr.Ps
open Go Go.Proofs Hw.M
def xQ(e:Ex):Bool:=decide (countS e 1≤1000)
def jw(s:Sm)(lo hi:Int):Bool:= !decide ((s.e.length:Int)<lo)&& !decide (hi<(s.e.length:Int))&&s.e.all xQ
end Hw.Fr.Ps
namespace Hw.Fr.Ps
open Go Go.Proofs Hw.M
theorem zmb{l:List Ex}{x:Ex}(h:l[0]?=some x):(l.map zO)[(0:Int).toNat]?=some (yQ x):=zaj (i:=0) h
def zi2(s:Sm):Bool:=decide ((s.l.length:Int)=0)&&decide ((s.els.length:Int)=0)
def zn4(s:Sm)(b:Bool):Bool:=
 if s.op=1 then isName s.s&&jw s 1 1&&b
 else if s.op=2 then isName s.s&&jw s 2 2&&b
 else if s.op=3 then decide (s.s=(⟨#[]⟩:ByteArray))&&jw s 1 1
 else if s.op=4 then decide (s.s=(⟨#[]⟩:ByteArray))&&jw s 1 1&&decide ((s.els.length:Int)=0)
 else if s.op=5 then decide (s.s=(⟨#[]⟩:ByteArray))&&jw s 0 1&&b
 else if s.op=6 then decide (s.s=(⟨#[]⟩:ByteArray))&&jw s 1 1&&decide ((s.e[0]?).map Ex.op=some 7)&&b
 else false
def zbo(s:Sm):Bool:=zn4 s (zi2 s)
end Hw.Fr.Ps
namespace Hw.Fr.Ps
open Go Go.Proofs Hw.M
def bump(n k:Int):Int:=if n≤200 then n+k else n
mutual
def stN:Sm→Int→Int→Int
 | .mk op s e l els,d,n=>if decide (60<d)|| !zbo (.mk op s e l els)then 201 else bump (bump (n+1) (stL l (d+1) 0)) (stL els (d+1) 0)
def stL:List Sm→Int→Int→Int
 | [],_,n=>n
 |s::r,d,n=>if 200<stN s d n then stN s d n else stL r d (stN s d n)
end
theorem zgn(s:Sm)(d n:Int):stN s d n=if decide (60<d)|| !zbo s then 201 else bump (bump (n+1) (stL s.l (d+1) 0)) (stL s.els (d+1) 0):=by
 cases s;simp only[stN,Sm.l,Sm.els]
def zmc(d:Int):Int:=201+400*(if d≤60 then 61 - d else 0)
theorem zcf{n k K:Int}(hn:0≤n)(hk:0≤k∧k≤K)(h:n≤200+K):0≤bump n k∧bump n k≤200+K:=by
 unfold bump;split<;>omega
mutual
theorem zi3: ∀(s:Sm) (d n:Int),0≤n→n≤200→0≤stN s d n∧stN s d n≤zmc d
 | .mk op s e l els,d,n,h0,h1=>by
   simp only[stN]
   split
   ·unfold zmc;split<;>omega
   ·rename_i h
    simp only[Bool.or_eq_true,decide_eq_true_eq,Bool.not_eq_true',not_or]at h
    have b1:=wo l (d+1) 0 (by omega) (by omega)
    have b2:=wo els (d+1) 0 (by omega) (by omega)
    have b0:1≤zmc (d+1):=by unfold zmc;split<;>omega
    have c1:=zcf (n:=n+1) (by omega) b1 (by omega)
    have c2:=zcf c1.1 b2 c1.2
    have:200+zmc (d+1)≤zmc d:=by unfold zmc;rw[if_pos (c:=d≤60) (by omega)];split<;>omega
    omega
theorem wo: ∀(l:List Sm) (d n:Int),0≤n→n≤200→0≤stL l d n∧stL l d n≤zmc d
 | [],d,n,h0,h1=>by
   simp only[stL];refine⟨h0,?_⟩;unfold zmc;split<;>omega
 |s::r,d,n,h0,h1=>by
  simp only[stL]
  have b:=zi3 s d n h0 h1
  split
  ·exact b
  ·exact wo r d _ b.1 (by omega)
end
theorem zmd(s:Sm):sizeOf s.l<sizeOf s∧sizeOf s.els<sizeOf s:=by
 cases s;simp only[Sm.l,Sm.els,Sm.mk.sizeOf_spec];omega
theorem zoV{α:Type}[SizeOf α]{l:List α}{i:Nat}{x:α}(h:l[i]?=some x):sizeOf x<sizeOf l:=List.sizeOf_lt_of_mem (List.mem_of_getElem? h)
end Hw.Fr.Ps
namespace Hw.Fr.Ps
open Go Go.Proofs Hw.M
def zaK(p:Pr):Bool:=isName p.n&&xZ p.params 6&&xZ p.locs 12&&(decide (p.res=(⟨#[]⟩:ByteArray))||isType p.res)&&decide (stL p.body 1 0≤200)
def jn(m:Ms):Bool:=isName m.n&&isName m.t&& !decide (m.z< -1099511627776)&& !decide (1099511627776<m.z)&&xQ m.x
def zb4(m:Iv):Bool:=isName m.n&&zce m.t&&xQ m.x
def zb5(m:Pt):Bool:=zce m.t&&xQ m.x
def zcQ(m:Bd):Bool:=isName m.p&&xQ m.x
def yW(d:xk):Bool:=d.measures.all jn&&d.invs.all zb4&&d.pots.all zb5&&d.bounds.all zcQ
def zcg(t:jx):Bool:=isName t.n&&xZ t.f 12
def zgo(d:xk):Bool:=isName d.n&& !decide (12<(d.types.length:Int))&&xZ d.globals 8&& !decide (40<(d.procs.length:Int))&&
 !decide (12<(d.measures.length:Int))&& !decide (12<(d.invs.length:Int))&& !decide (12<(d.pots.length:Int))&& !decide (12<(d.bounds.length:Int))
def xV(d:xk):Bool:=zgo d&&d.types.all zcg&&d.procs.all zaK&&yW d
end Hw.Fr.Ps
namespace Hw.Fr.Ps
open Go Go.Proofs Hw.M
mutual
def leftS:Ex→Int→Int→Int
 | .mk _ _ s l,d,n=>if decide (n≤0)||decide (d=0)||decide (100<(s.size:Int))then -1 else leftL l (d - 1) (n - 1)
def leftL:List Ex→Int→Int→Int
 | [],_,n=>n
 |e::es,d,n=>if 0≤n then leftL es d (leftS e d n)else n
end
mutual
theorem ze9: ∀(e:Ex) (d n:Int), -1≤n→ -1≤leftS e d n∧leftS e d n≤n
 | .mk a b s l,d,n,h=>by
   simp only[leftS]
   split
   ·omega
   ·rename_i h'
    simp only[Bool.or_eq_true,decide_eq_true_eq,not_or]at h'
    have:=jy l (d - 1) (n - 1) (by omega);omega
theorem jy: ∀(l:List Ex) (d n:Int), -1≤n→ -1≤leftL l d n∧leftL l d n≤n
 | [],d,n,h=>by simp only[leftL];omega
 |e::es,d,n,h=>by
  simp only[leftL]
  split
  ·have h1:=ze9 e d n h
   have h2:=jy es d _ h1.1
   omega
  ·omega
end
theorem zi4(e:Ex):sizeOf e.l<sizeOf e:=by
 cases e;simp only[Ex.l,Ex.mk.sizeOf_spec];omega
mutual
def laN:Sm→Int→Int→Int
 | .mk _ s e l els,d,n=>if 100<(s.size:Int)then -1 else
    if 0≤(if 0≤leftL e 65 (n - 1)then(if d - 1=0 then -1 else laL l (d - 1) (leftL e 65 (n - 1)))else leftL e 65 (n - 1))then
     (if d - 1=0 then -1 else laL els (d - 1) (if 0≤leftL e 65 (n - 1)then(if d - 1=0 then -1 else laL l (d - 1) (leftL e 65 (n - 1)))else leftL e 65 (n - 1)))
    else(if 0≤leftL e 65 (n - 1)then(if d - 1=0 then -1 else laL l (d - 1) (leftL e 65 (n - 1)))else leftL e 65 (n - 1))
def laL:List Sm→Int→Int→Int
 | [],_,n=>n
 |s::r,d,n=>if 0≤n then laL r d (laN s d n)else n
end
def laS(l:List Sm)(d n:Int):Int:=if d=0 then -1 else laL l d n
def laT(l:List Sm)(d n:Int):Int:=if 0≤n then laS l d n else n
theorem zq6(s:Sm)(d n:Int):laN s d n=if 100<(s.s.size:Int)then -1 else laT s.els (d - 1) (laT s.l (d - 1) (leftL s.e 65 (n - 1))):=by
 cases s;rfl
theorem zdK{l:List Sm}{d n:Int}(h: -1≤n)(ih:0≤n→ -1≤laL l d n∧laL l d n≤n): -1≤laT l d n∧laT l d n≤n:=by
 unfold laT laS
 split
 ·split
  ·omega
  ·exact ih (by omega)
 ·omega
mutual
theorem zi5: ∀(s:Sm) (d n:Int),0≤n→ -1≤laN s d n∧laN s d n≤n
 | .mk op s e l els,d,n,h=>by
   rw[zq6]
   by_cases hh:100<((Sm.mk op s e l els).s.size:Int)
   ·rw[if_pos hh];omega
   ·rw[if_neg hh]
    simp only[Sm.els,Sm.l,Sm.e]
    have h1:=jy e 65 (n - 1) (by omega)
    have h2:=zdK (l:=l) (d:=d - 1) h1.1 (fun h0=>zbp l (d - 1) _ (by omega))
    have h3:=zdK (l:=els) (d:=d - 1) h2.1 (fun h0=>zbp els (d - 1) _ (by omega))
    omega
theorem zbp: ∀(l:List Sm) (d n:Int), -1≤n→ -1≤laL l d n∧laL l d n≤n
 | [],d,n,h=>by simp only[laL];omega
 |s::r,d,n,h=>by
  simp only[laL]
  split
  ·rename_i h0
   have h1:=zi5 s d n h0
   have h2:=zbp r d _ h1.1
   omega
  ·omega
end
end Hw.Fr.Ps
namespace Hw.Fr.Ps
open Go Go.Proofs Hw.M
theorem zcR(i:Nat):((i:Int)+1)=((i+1:Nat):Int):=by omega
theorem yq{i:Nat}(h:i<9223372036854775807):IntKind.i64.wrap ((i:Int)+1)=((i+1:Nat):Int):=by rw[zcR];exact wrap64 (by omega)
end Hw.Fr.Ps
/- The library's functions at this program: their numbers. -/
namespace Hw.Fr
open Go Go.Proofs Go.Shelf
def zfa:Go.Shelf.Ren:=⟨fun|157=>293|229=>313|199=>314|261=>328|311=>336|312=>337|n=>n,fun|9=>9|31=>151|3=>3|5=>5|4=>4|119=>375|0=>0|40=>377|152=>387|21=>21|154=>389|51=>284|141=>391|196=>405|193=>402|198=>407|49=>40|194=>403|201=>410|226=>416|46=>178|227=>417|n=>n,fun|0=>2|6=>5|n=>n⟩
theorem zoW:Go.Proofs.Lays.n157 Tryz.prog zfa where
 mixed:=by kernel_rfl
 f157:=Tryz.func293.trans (congrArg some (by kernel_rfl))
 f199:=Tryz.func314.trans (congrArg some (by kernel_rfl))
 f229:=Tryz.func313.trans (congrArg some (by kernel_rfl))
 f261:=Tryz.func328.trans (congrArg some (by kernel_rfl))
 f311:=Tryz.func336.trans (congrArg some (by kernel_rfl))
 f312:=Tryz.func337.trans (congrArg some (by kernel_rfl))
 t0:=Tryz.underlying0
 a0:=Tryz.isAgg0
 z0:=Tryz.sizeOf0
 v0:=Tryz.zeroValue0
 t3:=Tryz.underlying3
 a3:=Tryz.isAgg3
 z3:=Tryz.sizeOf3
 v3:=Tryz.zeroValue3
 t4:=Tryz.underlying4
 a4:=Tryz.isAgg4
 z4:=Tryz.sizeOf4
 v4:=Tryz.zeroValue4
 t5:=Tryz.underlying5
 a5:=Tryz.isAgg5
 z5:=Tryz.sizeOf5
 v5:=Tryz.zeroValue5
 t9:=Tryz.underlying9
 a9:=Tryz.isAgg9
 z9:=Tryz.sizeOf9
 v9:=Tryz.zeroValue9
 t21:=Tryz.underlying21
 a21:=Tryz.isAgg21
 z21:=Tryz.sizeOf21
 v21:=Tryz.zeroValue21
 t31:=Tryz.underlying151
 a31:=Tryz.isAgg151
 z31:=Tryz.sizeOf151
 v31:=Tryz.zeroValue151
 t40:=Tryz.underlying377
 a40:=Tryz.isAgg377
 z40:=Tryz.sizeOf377
 v40:=Tryz.zeroValue377
 t46:=Tryz.underlying178
 a46:=Tryz.isAgg178
 z46:=Tryz.sizeOf178
 v46:=Tryz.zeroValue178
 t49:=Tryz.underlying40
 a49:=Tryz.isAgg40
 z49:=Tryz.sizeOf40
 v49:=Tryz.zeroValue40
 t51:=Tryz.underlying284
 a51:=Tryz.isAgg284
 z51:=Tryz.sizeOf284
 v51:=Tryz.zeroValue284
 t119:=Tryz.underlying375
 a119:=Tryz.isAgg375
 z119:=Tryz.sizeOf375
 t141:=Tryz.underlying391
 a141:=Tryz.isAgg391
 z141:=Tryz.sizeOf391
 v141:=Tryz.zeroValue391
 t152:=Tryz.underlying387
 a152:=Tryz.isAgg387
 z152:=Tryz.sizeOf387
 v152:=Tryz.zeroValue387
 t154:=Tryz.underlying389
 a154:=Tryz.isAgg389
 z154:=Tryz.sizeOf389
 v154:=Tryz.zeroValue389
 t193:=Tryz.underlying402
 a193:=Tryz.isAgg402
 z193:=Tryz.sizeOf402
 v193:=Tryz.zeroValue402
 t194:=Tryz.underlying403
 a194:=Tryz.isAgg403
 z194:=Tryz.sizeOf403
 v194:=Tryz.zeroValue403
 t196:=Tryz.underlying405
 a196:=Tryz.isAgg405
 z196:=Tryz.sizeOf405
 v196:=Tryz.zeroValue405
 t198:=Tryz.underlying407
 a198:=Tryz.isAgg407
 z198:=Tryz.sizeOf407
 v198:=Tryz.zeroValue407
 t201:=Tryz.underlying410
 a201:=Tryz.isAgg410
 z201:=Tryz.sizeOf410
 v201:=Tryz.zeroValue410
 t226:=Tryz.underlying416
 a226:=Tryz.isAgg416
 z226:=Tryz.sizeOf416
 v226:=Tryz.zeroValue416
 t227:=Tryz.underlying417
 a227:=Tryz.isAgg417
 z227:=Tryz.sizeOf417
 v227:=Tryz.zeroValue417
 g0:=by kernel_rfl
 g6:=by kernel_rfl
end Hw.Fr
namespace Hw.Fr.Ps
open Go Go.Proofs Hw.M
def xl(c:Int):Int:=if c=32 then 1 else if c=9 then 1 else if c=13 then 1 else if c=10 then 1 else
 if decide (97≤c)&&decide (c≤122)then 2 else if decide (65≤c)&&decide (c≤90)then 2 else if decide (48≤c)&&decide (c≤57)then 3 else if c=95 then 4 else 0
set_option maxHeartbeats 1000000 in
theorem xr(c:Int):zj Tryz.prog 170 [uc c] [] (I (xl c)) []:=by
 refine gO T Tryz.func170 fun C hC=>?_
 repeat' first|refine gG ?_|refine gB (fun h=>?_) (fun h=>?_)|refine gN ?_
 all_goals (simp_all[xl]<;>omega)
theorem zbq(c:Int):(xl c=2∧yN c=true∧isWord c=true)∨((xl c=3∨xl c=4)∧yN c=false∧isWord c=true)∨((xl c=0∨xl c=1)∧yN c=false∧isWord c=false):=by
 by_cases h1:c=32∨c=9∨c=13∨c=10
 ·refine .inr (.inr ?_)
  rcases h1 with rfl|rfl|rfl|rfl<;>exact⟨.inr rfl,rfl,rfl⟩
 ·have e1:c≠32:=by omega
  have e2:c≠9:=by omega
  have e3:c≠13:=by omega
  have e4:c≠10:=by omega
  have ec:xl c=if decide (97≤c)&&decide (c≤122)then 2 else if decide (65≤c)&&decide (c≤90)then 2 else if decide (48≤c)&&decide (c≤57)then 3 else if c=95 then 4 else 0:=by
   simp only[xl,e1,e2,e3,e4,if_false]
  rw[ec]
  unfold isWord yN isDigit
  cases(decide (97≤c)&&decide (c≤122))with
  |true=>exact .inl ⟨rfl,rfl,rfl⟩
  |false=>cases(decide (65≤c)&&decide (c≤90))with
   |true=>exact .inl ⟨rfl,rfl,rfl⟩
   |false=>cases(decide (48≤c)&&decide (c≤57))with
    |true=>exact .inr (.inl ⟨.inl rfl,rfl,rfl⟩)
    |false=>
     by_cases h5:c=95
     ·rw[if_pos h5];exact .inr (.inl ⟨.inr rfl,rfl,by simp[h5]⟩)
     ·rw[if_neg h5];exact .inr (.inr ⟨.inl rfl,rfl,by simp[h5]⟩)
theorem zaL(c:Int):decide (xl c=2)=yN c:=by
 rcases zbq c with⟨h,h1,_⟩|⟨h,h1,_⟩|⟨h,h1,_⟩
 ·rw[h,h1];rfl
 ·rw[h1];exact decide_eq_false (by omega)
 ·rw[h1];exact decide_eq_false (by omega)
theorem zak(c:Int):decide (xl c<2)= !isWord c:=by
 rcases zbq c with⟨h,_,h1⟩|⟨h,_,h1⟩|⟨h,_,h1⟩
 ·rw[h,h1];rfl
 ·rw[h1];exact decide_eq_false (by omega)
 ·rw[h1];exact decide_eq_true (by omega)
theorem zi6(s:Str):zj Tryz.prog 312 [Sr s] [] (Bo false) []:=by
 refine gO T Tryz.func312 fun C hC=>?_
 repeat' first|refine gG ?_|refine gB (fun h=>?_) (fun h=>?_)
 exact zg ⟨.inl rfl,id,_,rfl,LeS.bq (by simp),trivial,rfl,rfl⟩
theorem zme(s:Str):zj Tryz.prog 292 [Sr s] [] (Bo false) []:=by
 refine gO T Tryz.func292 fun C hC=>?_
 repeat' first|refine gG ?_|refine gB (fun h=>?_) (fun h=>?_)
 exact zg ⟨.inl rfl,id,_,rfl,LeS.bq (by simp),trivial,rfl,rfl⟩
def zmf(a b:Str):Bool:=Op.bytesLess a.toList b.toList
theorem zoX(a b:Str):zj Tryz.prog 291 [Sr a,Sr b] [] (.bq (zmf a b)) []:=by
 refine gO T Tryz.func291 fun C hC=>?_
 repeat' first|refine gG ?_|refine gB (fun h=>?_) (fun h=>?_)|refine gC (zi6 _) ?_|refine gQ ?_|refine gL ?_
 all_goals first|rfl|simp_all[zmf]
def zn5(l:List Str):Prop:= ∀(h k:Nat) (x y:Str),l[h]?=some x→l[k]?=some y→zmf x y=decide (h<k)
theorem zhC(l:List Str)(s:Str)(hs:zn5 l)(hl:l.length≤1000):zj Tryz.prog 266 [pS (ze7 l),Sr s] [] (.tup [.un,.bq (l.any fun x=>decide (x=s))]) []:=by
 refine gO T Tryz.func266 fun C hC=>?_
 repeat' first|refine gG ?_|refine gB (fun h=>?_) (fun h=>?_)
 rw[List.length_map]
 refine zy (fun p:Nat×Nat=>p.1≤p.2∧p.2≤l.length∧ ∀k,l[k]?=some s→p.1≤k∧k≤p.2) (fun p=>([(0,pS (ze7 l)),(1,Sr s),(6,I l.length),(7,I p.1),(8,I p.2)],[])) (fun p=>p.2 - p.1) hC
  (0,l.length) ⟨Nat.zero_le _,Nat.le_refl _,fun k hk=>⟨Nat.zero_le _,Nat.le_of_lt (List.getElem?_eq_some_iff.1 hk).1⟩⟩ id gM ?_
 rintro⟨i,j⟩ ⟨hij,hj,hk⟩
 simp only at hij hj hk
 refine zI T hC true 200 rfl ?_
 refine zP rfl (fun h=>?_) (fun h=>?_)
 ·have hlt:i<j:=by simpa using h
  repeat' first|refine gG ?_|refine gB (fun h=>?_) (fun h=>?_)|refine zoY hC rfl rfl (by decide) (by decide) rfl rfl ?_
  have hm:IntKind.i64.wrap (IntKind.u64.wrap (IntKind.i64.wrap ((i:Int)+(j:Int))) / 2 ^ (1:Int).toNat)=(((i+j) / 2:Nat):Int):=by
   have e1:IntKind.i64.wrap ((i:Int)+(j:Int))=(i:Int)+(j:Int):=wrap64 (by omega)
   rw[e1]
   have:IntKind.u64.wrap ((i:Int)+(j:Int))=((i+j:Nat):Int):=by
    unfold IntKind.wrap
    simp[IntKind.bits,IntKind.signed]
    omega
   rw[this]
   rw[show((i+j:Nat):Int) / 2 ^ (1:Int).toNat=(((i+j) / 2:Nat):Int) by
    rw[show(2:Int) ^ (1:Int).toNat=2 by decide];omega]
   exact wrap64 (by omega)
  simp only
  rw[hm]
  obtain⟨x,hx⟩:=zf (l:=l) (i:=(i+j) / 2) (by omega)
  generalize hme:(i+j) / 2=m at*
  repeat' first|refine gG ?_|refine gB (fun h=>?_) (fun h=>?_)|refine gX ?_|refine gC (zoX _ _) ?_
  ·rw[yq (by omega)]
   refine zh (m+1,j) ⟨by simp only;omega,hj,fun k hk'=>?_⟩ id (by simp only;omega) gM
   have:=hs m k x s hx hk'
   rw[h]at this
   have:=of_decide_eq_true this.symm
   have:=hk k hk'
   simp only;omega
  ·refine zh (i,m) ⟨by simp only;omega,by simp only;omega,fun k hk'=>?_⟩ id (by simp only;omega) gM
   have:=hs m k x s hx hk'
   rw[h]at this
   have:=of_decide_eq_false this.symm
   have:=hk k hk'
   simp only;omega
 ·have hge:i=j:=by have:=of_decide_eq_false h;simp only at this;omega
  subst hge
  clear h
  have found: ∀(b:Bool),(b=true→ ∃x,l[i]?=some x∧x=s)→(b=false→ ∀x,l[i]?=some x→x≠s)→b=l.any fun x=>decide (x=s):=fun b h1 h2=>by
   cases b with
   |true=>obtain⟨x,hx,rfl⟩:=h1 rfl;exact(ziZ hx (decide_eq_true rfl)).symm
   |false=>
    symm
    rw[List.any_eq_false]
    intro x hx
    obtain⟨k,hk1⟩:=List.mem_iff_getElem?.1 hx
    simp only[decide_eq_true_eq]
    rintro rfl
    have:=hk k hk1
    obtain rfl:k=i:=by omega
    exact h2 rfl x hk1 rfl
  repeat' first|refine gG ?_|refine gB (fun h=>?_) (fun h=>?_)|refine zp ?_|refine gC (zme _) ?_|refine gX ?_|(obtain⟨x,hx⟩:=zf (l:=l) (i:=i) (by have:=of_decide_eq_true h;simp only at this;omega);refine gI T (zu hx) ?_)
  ·exact zg ⟨.inl rfl,id,_,rfl,LeS.tup (.cons (LeS.un _) (.cons (LeS.qb (found true (fun _=>⟨x,hx,of_decide_eq_true h⟩) (fun e=>by cases e))) .nil)),trivial,rfl,rfl⟩
  ·exact zg ⟨.inl rfl,id,_,rfl,LeS.tup (.cons (LeS.un _) (.cons (LeS.qb (found false (fun e=>by cases e) (fun _ y hy=>by rw[hx]at hy;simp only[Option.some.injEq]at hy;subst hy;exact of_decide_eq_false h))) .nil)),trivial,rfl,rfl⟩
  ·have h':=of_decide_eq_false h
   simp only at h'
   exact zg ⟨.inl rfl,id,_,rfl,LeS.tup (.cons (LeS.un _) (.cons (LeS.qb (found false (fun e=>by cases e) (fun _ y hy=>by have:=(List.getElem?_eq_some_iff.1 hy).1;omega))) .nil)),trivial,rfl,rfl⟩
def yX:List Str:=[(⟨#[97,110,100]⟩:ByteArray),(⟨#[98,111,111,108]⟩:ByteArray),(⟨#[98,111,117,110,100]⟩:ByteArray),(⟨#[100,101,115,99]⟩:ByteArray),(⟨#[101,108,115,101]⟩:ByteArray),(⟨#[102,97,108,115,101]⟩:ByteArray),(⟨#[105,102]⟩:ByteArray),(⟨#[105,110,116]⟩:ByteArray),(⟨#[105,110,118,97,114,105,97,110,116]⟩:ByteArray),(⟨#[108,111,99,97,108]⟩:ByteArray),(⟨#[108,111,103]⟩:ByteArray),(⟨#[109,97,120]⟩:ByteArray),(⟨#[109,101,97,115,117,114,101]⟩:ByteArray),(⟨#[109,105,110]⟩:ByteArray),(⟨#[110,101,119]⟩:ByteArray),(⟨#[110,105,108]⟩:ByteArray),(⟨#[110,111,116]⟩:ByteArray),(⟨#[111,112]⟩:ByteArray),(⟨#[111,114]⟩:ByteArray),(⟨#[112,111,116,101,110,116,105,97,108]⟩:ByteArray),(⟨#[112,114,111,99]⟩:ByteArray),(⟨#[114,101,116,117,114,110]⟩:ByteArray),(⟨#[114,117,108,101]⟩:ByteArray),(⟨#[115,99,114,105,112,116]⟩:ByteArray),(⟨#[115,111,114,116]⟩:ByteArray),(⟨#[115,112,101,99]⟩:ByteArray),(⟨#[116,104,105,115]⟩:ByteArray),(⟨#[116,114,117,101]⟩:ByteArray),(⟨#[116,121,112,101]⟩:ByteArray),(⟨#[118,97,114]⟩:ByteArray),(⟨#[119,104,105,108,101]⟩:ByteArray)]
def sortedB(l:List Str):Bool:=(List.range l.length).all fun h=>(List.range l.length).all fun k=>match l[h]?,l[k]? with
 |some x,some y=>zmf x y==decide (h<k)
 |_,_=>true
theorem zi7{l:List Str}(h:sortedB l=true):zn5 l:=fun a b x y ha hb=>by
 simp only[sortedB,List.all_eq_true,List.mem_range]at h
 have:=h a (List.getElem?_eq_some_iff.1 ha).1 b (List.getElem?_eq_some_iff.1 hb).1
 rw[ha,hb]at this
 simpa using this
theorem zmg:sortedB yX=true:=by kernel_rfl
theorem zq7(s:Str):(yX.any fun x=>decide (x=s))=y6 s:=by
 have h1:(yX.all fun x=>za2.any fun y=>decide (y=x))=true:=by kernel_rfl
 have h2:(za2.all fun x=>yX.any fun y=>decide (y=x))=true:=by kernel_rfl
 rw[Bool.eq_iff_iff]
 simp only[y6,List.any_eq_true,List.all_eq_true,decide_eq_true_eq]at h1 h2⊢
 constructor
 ·rintro⟨x,hx,rfl⟩;obtain⟨y,hy,rfl⟩:=h1 x hx;exact⟨y,hy,rfl⟩
 ·rintro⟨x,hx,rfl⟩;obtain⟨y,hy,rfl⟩:=h2 x hx;exact⟨y,hy,rfl⟩
def zbr:Str:=(⟨#[97,110,100,32,98,111,111,108,32,98,111,117,110,100,32,100,101,115,99,32,101,108,115,101,32,102,97,108,115,101,32,105,102,32,105,110,116,32,105,110,118,97,114,105,97,110,116,32,108,111,99,97,108,32,108,111,103,32,109,97,120,32,109,101,97,115,117,114,101,32,109,105,110,32,110,101,119,32,110,105,108,32,110,111,116,32,111,112,32,111,114,32,112,111,116,101,110,116,105,97,108,32,112,114,111,99,32,114,101,116,117,114,110,32,114,117,108,101,32,115,99,114,105,112,116,32,115,111,114,116,32,115,112,101,99,32,116,104,105,115,32,116,114,117,101,32,116,121,112,101,32,118,97,114,32,119,104,105,108,101]⟩:ByteArray)
theorem zgp:(Lib.fields zbr.data.toList).map (fun l=>(⟨l.toArray⟩:ByteArray))=yX:=by kernel_rfl
theorem zoZ:(zbr.data.toList.all fun b=>decide (b.toNat<128))=true:=by kernel_rfl
theorem zfb(w:World)(hw:GOn w):Calls Tryz.prog 293 #[.string zbr] w fun e w'=>e= .returned (.slice (some ⟨w.heap.size,0,none⟩) yX.length yX.length)∧w'=w.alloc (.cells (yX.map Value.string).toArray 9):=by
 have h:=Any.strings_Fields_core zoW (by kernel_rfl) zbr w (of_decide_eq_true (by kernel_rfl)) (fun j b hb=>by
  have:=List.all_eq_true.1 zoZ b (List.mem_of_getElem? hb)
  exact of_decide_eq_true this) (fun c hc=>hw _ _ _ (by
  show G0 2 c=_
  simp[G0,hc]))
 refine h.mono fun e w' ⟨he,hw'⟩=>?_
 have hl:(Lib.fields zbr.data.toList).length=yX.length:=by rw[←zgp,List.length_map]
 have hc:((Lib.fields zbr.data.toList).map fun l=>Value.string ⟨l.toArray⟩)=yX.map Value.string:=by rw[←zgp,List.map_map];rfl
 rw[hl]at he
 rw[hc]at hw'
 exact⟨he,hw'⟩
theorem zhD:zj Tryz.prog 293 [Sr zbr] [] (pS (ze7 yX)) []:=
 zo0 ⟨_,Tryz.func293,by kernel_rfl,by kernel_rfl⟩ (by decide) zfb
theorem zs2:zj Tryz.prog 267 [] [] (pS (ze7 yX)) []:=by
 refine gO T Tryz.func267 fun C hC=>?_
 repeat' first|refine gG ?_|refine gB (fun h=>?_) (fun h=>?_)|refine gC zhD ?_
 exact gF
theorem jQ(s:Str):zj Tryz.prog 221 [Sr s] [] (.bq (y6 s)) []:=by
 refine gO T Tryz.func221 fun C hC=>?_
 repeat' first|refine gG ?_|refine gB (fun h=>?_) (fun h=>?_)|refine gC zs2 ?_|refine ziY hC (zhC yX s (zi7 zmg) (by decide)) rfl rfl (yJ.refl _) rfl rfl rfl ?_|refine gQ ?_|refine gL ?_
 exact zq7 s
theorem yz(s:Str):zj Tryz.prog 180 [Sr s] [] (.bq (isName s)) []:=by
 refine gO T Tryz.func180 fun C hC=>?_
 have hbl:=zdJ s
 have e0:decide (s=(⟨#[]⟩:ByteArray))=decide (s.size=0):=by
  obtain⟨⟨l⟩⟩:=s
  cases l with
  |nil=>rfl
  |cons a l=>exact(decide_eq_false (by intro h;cases h)).trans (decide_eq_false (by simp[ByteArray.size])).symm
 repeat' first|refine gG ?_|refine gB (fun h=>?_) (fun h=>?_)
 ·repeat' first|refine gG ?_|refine gB (fun h=>?_) (fun h=>?_)|refine gL ?_
  rw[e0]at h
  simp only[isName,h,Bool.not_true,Bool.false_and]
 ·repeat' first|refine gG ?_|refine gB (fun h=>?_) (fun h=>?_)|refine gL ?_
  have h1:40<s.size:=by have:=of_decide_eq_true h;omega
  simp[isName,h1]
 ·rename_i h0
  rw[e0]at h0
  have hs:0<(bytes s).length:=by have:=of_decide_eq_false h0;omega
  obtain⟨c,hc⟩:=zf hs
  obtain⟨b,hb,rfl⟩:=bytes_at hc
  have hlen:s.size≤40:=by have:=of_decide_eq_false h;omega
  have hnm:isName s=(yN (b.toNat:Int)&&((bytes s).all isWord&& !y6 s)):=by
   cases hbs:bytes s with
   |nil=>rw[hbs]at hs;simp at hs
   |cons c cs=>
    have hc':=hc
    rw[hbs]at hc';simp only[List.getElem?_cons_zero,Option.some.injEq]at hc'
    have e1: ¬s.size=0:=by rw[hbl]at hs;omega
    have e2: ¬40<s.size:=by omega
    simp only[isName,hbs,hc',e1,e2,decide_false,Bool.not_false,Bool.true_and,Bool.and_assoc]
  clear h h0
  refine wm T hC rfl rfl rfl (Int.le_refl _) hb rfl rfl ?_
  repeat' first|refine gG ?_|refine gB (fun h=>?_) (fun h=>?_)|refine gC (xr _) ?_|refine gC (jQ _) ?_|refine gL ?_
  ·rw[zaL]at h
   have hl:yN (b.toNat:Int)=false:=by simpa using h
   rw[hnm,hl];rfl
  ·rw[hnm,h];simp
  ·rename_i h1
   rw[zaL]at h1
   have hl:yN (b.toNat:Int)=true:=by simpa using h1
   have hnm2:isName s=(bytes s).all isWord:=by rw[hnm,hl,h];simp
   refine zy (fun i:Nat=>i≤s.size∧((bytes s).take i).all isWord=true) (fun i=>([(0,Sr s),(22,I s.size),(23,I i)],[])) (fun i=>s.size - i) hC
    0 ⟨Nat.zero_le _,by simp⟩ id gM ?_
   rintro i ⟨hi,hn⟩
   refine zI T hC true 200 rfl ?_
   refine zP rfl (fun h=>?_) (fun h=>?_)
   ·have hlt:i<(bytes s).length:=by rw[hbl];have:=of_decide_eq_true h;omega
    obtain⟨c,hx⟩:=zf hlt
    obtain⟨b,hb,rfl⟩:=bytes_at hx
    repeat' first|refine gG ?_|refine gB (fun h=>?_) (fun h=>?_)|refine gXS ?_|refine gC (xr _) ?_|refine zT ?_|refine gL ?_
    ·rw[zak]at h
     have hw:isWord (b.toNat:Int)=false:=by simpa using h
     rw[hnm2,jP hx hw]
    ·rw[zak]at h
     have hw:isWord (b.toNat:Int)=true:=by simpa using h
     rw[yq (by omega)]
     refine zh (i+1) ⟨by omega,?_⟩ id (by omega) gM
     rw[xq hx,hn,hw];rfl
   ·have hge:s.size≤i:=by have:=of_decide_eq_false h;omega
    repeat' first|refine gG ?_|refine gB (fun h=>?_) (fun h=>?_)|refine zp ?_|refine gL ?_
    rw[hnm2,zai (by rw[hbl];exact hge) hn]
end Hw.Fr.Ps