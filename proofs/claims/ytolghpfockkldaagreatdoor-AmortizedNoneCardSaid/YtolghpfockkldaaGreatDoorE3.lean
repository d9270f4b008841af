import Derived.Test.YtolghpfockkldaaGreatDoorE2
import Derived.Deep.AppendSrc
import Derived.Laws.MakeOwn
import Derived.MapKept
import Derived.Laws.Cover3
import Derived.ChangeArms
import Derived.Deep.Slices
import Derived.Carry
import Derived.ChangeOld
import Derived.ChangeShapes
import Derived.OpenShut
import Derived.MakeChecks
import Derived.Lib.LaidTab
import Derived.Handed
import Derived.Shelf.Vars
set_option linter.defProp false
set_option linter.unusedVariables false
set_option linter.unusedSimpArgs false
set_option linter.unusedSectionVars false
set_option linter.unnecessarySimpa false
namespace Hw
open Go
variable {M:Mem}{el t tx:TypeId}{row:List PV}{rows:List (List PV)}{w:World}{z:List V}{ρ:Nat->Value}
section
variable {P:Program} {d:Option Nat} {ty:TypeId} {ps:String} {af:Array Edge} {g:Option (Nat×Bool)} {x y:Operand}
def zat(P:Program)(e:Nat)(tx:TypeId)(s:S)(rt:RL)(rows:List (List PV)):Prop:=
 ∀(C:Ctx) (st:St) (M:Mem) (ρ:Nat->Value) (a:Act) (w:World) (v:Value),Holds C st M ρ a w->RepS M ρ s v->okT rt st->
  ∃news,Src P e tx v rows.length news w/\RepVs M ρ (rows.flatten.map V.p) news/\ ∀r∈rows,r.length=e
theorem zat.sl{e:Nat}{tx el:TypeId}{rows:List (List PV)}(h:elemSz P tx=some (el,e)):zat P e tx (.one (.p (.sl e rows))) [] rows:=by
 intro C st M ρ a w v hH hr _;obtain⟨_,J,_,_⟩:=zp h;simp only[RepS,RepV,RepPV]at hr;obtain⟨b,cap,rfl,h2,h3,h4⟩:=hr;rcases h4 with rfl|⟨b,o,rfl,U⟩
 ·cases b with
  |none=>exact⟨[],Src.ofNil w J cap,by simp[RepVs],ue⟩
  |some b=>exact⟨[],Src.ofSlice w J b 0 cap [] ue ue ue,by simp[RepVs],ue⟩
 ·obtain⟨cs,h6,h7,h8⟩:=U.cells (ρ:=ρ);exact⟨cs,Src.ofSlice w J _ _ cap cs h7 (λj u hj=>by rw[zT];exact hH.run.imm _ _ _ (h8 j u hj)) h6.one,h6,U.len⟩
def zat.nil{e:Nat}{n:Nat}(h:elemSz P tx=some (el,n)):zat P e tx (.one (.p (.k (.slice none 0 0)))) [] []:=by
 intro C st M ρ a w v hH hr _;obtain⟨_,J,_,_⟩:=zp h;simp only[RepS,RepV,RepPV]at hr;rw[hr.1];exact⟨[],Src.ofNil w J 0,by simp[RepVs],ue⟩
theorem zat.ar{e:Nat}{tx el:TypeId}{id:Nat}{rows:List (List PV)}(h:elemSz P tx=some (el,e)):zat P e tx (.one (.ar id)) [(id,.arr e rows)] rows:=by
 intro C st M ρ a w v hH hr ht;obtain⟨_,hu,_,_⟩:=zp h;obtain⟨b,cap,h1,h2,h3,h4⟩:=hH.zz.res id _ ht.1;simp only[RepS,RepV]at hr;rw[h1]at hr;rw[hr.1];rcases h4 with⟨rfl,hc⟩|⟨b',o,cs,el',fz,rfl,h6,_,_,h8⟩
 ·have:rows=[]:=uY.1 ua;subst this;exact⟨[],Src.ofNil w hu cap,by simp[RepVs],ue⟩
 ·obtain⟨us,h9,J,U⟩:=h8.cells (ρ:=ρ);exact⟨us,Src.ofSlice w hu _ _ cap us J (λj u hj=>by rw[zT];have:=U j u hj;simp[World.cell?,h6,this]) h9.one,h9,h8.len⟩
def ziI(s:ByteArray):List (List PV):=s.data.toList.map λb=>[.k (.int .u8 b.toNat)]
def zat.str{s:ByteArray}(h:P.underlying tx=some .string):zat P 1 tx (.one (.p (.k (.string s)))) [] (ziI s):=by
 intro C st M ρ a w v hH hr _;simp only[RepS,RepV,RepPV]at hr;rw[hr.1];have J:(ziI s).length=s.size:=by simp only[ziI,uj,qh];rfl
 refine⟨byteCells s,by rw[J];exact Src.ofString w h s,?_,λr hr=>?_⟩
 ·unfold ziI byteCells;generalize s.data.toList=l
  induction l with
  |nil=>simp[RepVs]
  |cons b bs ih=>simp only[uH,tR,uK,tM,RepVs,RepV,RepPV];exact⟨⟨uh,rfl⟩,ih⟩
 ·obtain⟨b,_,rfl⟩:=tO.1 hr;rfl
def y5{vs:List V}(h:zeroV P t=some vs): ∃i z,P.info? t=some i/\i.zero=some z/\z.cells.size=vs.length:=by
 unfold zeroV at h
 grind
def zit{id id' e bytes:Nat}{rows2:List (List PV)}{sy:S}{rt2:RL}(hx:okc x (.one (.ar id)))(hy:okc y sy)(hs:zat P e tx sy rt2 rows2)
 (he:elemSz P t=some (el,e)) (hz:zeroV P el=some z) (hzl:z.length=e) (hby:(P.info? el).map (·.bytes)=some bytes) (hb:(rows.length+rows2.length)*bytes<=140737488355328) (hlen:rows.length+rows2.length<=9223372036854775807):
 Snd P ⟨d,.call ⟨.builtin .append,#[x,y],#[t,tx]⟩,ty,ps,af,g⟩ (rq x (.one (.ar id))++rq y sy) ((id,.arr e rows)::rt2) [id'] (.one (.ar id')) [(id',some (.arr e (rows++rows2))),(id,none)]:=by
 intro C st M ρ a w hH h1 hT hF hd k Q hk;rw[ze]at h1;have e1:=hH.evS (zq hx h1.1);have e2:=hH.evS (zq hy h1.2);obtain⟨b,cap,h2,h3,h4,h5⟩:=hH.zz.res id _ hT.1;simp only[RepS,RepV]at e1;obtain⟨ii,hu,hinf,hsz⟩:=zp he;obtain⟨news,J,hnews,hlen2⟩:=hs C st M ρ a w _ hH e2 hT.2;obtain⟨i',zv,hi',hzv,hzs⟩:=y5 hz;rw[hinf]at hi';simp only[ui]at hi';subst hi';rw[hinf]at hby;simp only[uG,ui]at hby;have hnl:news.length=rows2.length*e:=J.newsLen
 have hagree: ∀val:Value,RepVs M (upd ρ id' val) (rows2.flatten.map V.p) news:=λval=>RepVs.agree (yD ρ id' val) _ _ (λi _=>by
  have: ∀l:List PV,mentVs i (l.map V.p)=false:=λl=>by
   induction l with
   |nil=>rfl
   |cons q qs ih=>simp[mentVs,mentV,ih]
  exact this _) hnews
 have hcall:execOp a.eval ⟨d,.call ⟨.builtin .append,#[x,y],#[t,tx]⟩,ty,ps,af,g⟩=(do pure (.value (<-Builtin.append_ #[t,tx] ty #[a.eval x,a.eval y]))):=by
  simp[execOp,resolve,invoke,builtin]
 have fin: ∀ {val:Value} {w':World},(Builtin.append_ #[t,tx] ty #[a.eval x,a.eval y]).run P w= .ok val w'->
  (∀b',b'<w.heap.size->(∀i r,(some id)=some i->tg st.tab i=some r-> ¬Bk (ρ i) b')->w'.heap[b']?=w.heap[b']?)->w.heap.size<=w'.heap.size->w'.os=w.os->w'.tape=w.tape->w'.output=w.output->
  (∀b',Bk val b'->w.heap.size<=b'\/ ∃i r,(some id)=some i/\tg st.tab i=some r/\Bk (ρ i) b')->zA M (upd ρ id' val) w' id' (.arr e (rows++rows2))->val.oneCell'=true->
  Oper.wp P ⟨d,.call ⟨.builtin .append,#[x,y],#[t,tx]⟩,ty,ps,af,g⟩ a w k Q:=λ{val w'} U g1 g2 g3 g4 g5 g6 g7 g8=>by
  unfold Oper.wp;rw[hcall];simp only[Sem.run_bind,U,Result.andThen_ok,Sem.run_pure,Oper.upon_value];exact hk _ _ _ _ (hH.step (some id) g1 g2 g3 g4 g5 g6 hF.1 g7 (by simp only[RepS,RepV];exact⟨(zo _ _ _).symm,g8⟩) hd)
 have hex:a.eval x= .slice b rows.length cap:=e1.1.trans h2;rcases tu cap (rows.length+rows2.length)with hlt|hge
 · -- a new row
   have hold: ∃olds:List Value,(Builtin.firstCells ii.size rows.length (.slice b rows.length cap)).run P w.drew= .ok olds.toArray w.drew/\RepVs M ρ (rows.flatten.map V.p) olds/\olds.length=rows.length*e/\ ∀r∈rows,r.length=e:=by
    rcases h5 with⟨rfl,hc⟩|⟨b',o,cs,el',fz,rfl,h6,_,_,h8⟩
    ·have:rows=[]:=uY.1 ua;subst this;exact⟨[],run_firstCells_none w.drew _ _ _ _,by simp[RepVs],ue,ue⟩
    ·obtain⟨us,h9,h10,h11⟩:=h8.cells (ρ:=ρ);refine⟨us,?_,h9,h10,h8.len⟩;rw[hsz]
     exact run_firstCells_some w.drew e rows.length ⟨b',o,none⟩ _ cap us h10 (λj u hj=>by
      rw[zT];have:=h11 j u hj;have h6':w.drew.heap[b']?=some (.cells cs el' fz):=h6
      simp[World.cell?,h6',this])
   obtain⟨olds,ho1,ho2,ho3,ho4⟩:=hold;have U:=run_append_grow_src (P:=P) w t tx ty el ii zv hu hinf hzv b rows.length cap olds ho1 (a.eval y) rows2.length news (by rw[hsz];exact J) hlt ua (growslice_fits hlt (by rw[hby];exact hb));rw[<-hex]at U;have hcap:=grownCap_ge w (rows.length+rows2.length) cap el
   refine fin U (λb' hb' _=>z1 w.drew _ b' hb') ue rfl rfl rfl (λb' hb'=> .inl ?_) ⟨some ⟨w.heap.size,0,none⟩,grownCap w (rows.length+rows2.length) cap el,by rw[zo];simp,by simpa using hcap,(by have:=grownCap_le_maxLen w (rows.length+rows2.length) cap el (by unfold maxLen;omega);unfold maxLen at this;omega),.inr
    ⟨w.heap.size,0,_,el,(0,0),rfl,zJ w.drew _,λi _=>by simp,?_,?_⟩⟩ rfl
   ·simp only[Bk,blk,ui]at hb';omega
   ·simp only[qU,qg,uQ,size_zeroCells,hzs,hzl,ho3,hnl,<-tS,tJ]
    simp_all
   ·refine RowsIn.yb (ρ:=ρ) (cs:=olds++news) (λr hr=>(tp.1 hr).elim (ho4 r) (hlen2 r)) (by simpa [qi]using ho2.append hnews) λj c hj=>?_
    grind
 · -- room
   rcases h5 with⟨rfl,hc⟩|⟨b',o,cs,el',fz,rfl,h6,h6',h7,h8⟩
   ·have e3:rows2=[]:=uY.1 ua;have e4:rows=[]:=uY.1 ua;subst e3;subst e4;subst hc;have hn0:news=[]:=tr (by simpa using hnl);subst hn0
    have U:(Builtin.append_ #[t,tx] ty #[a.eval x,a.eval y]).run P w= .ok (.slice none 0 0) w:=by
     rw[hex];have hl:(Builtin.lenOf (a.eval y)).run P w= .ok 0 w:=J.len w;have hc:(Builtin.firstCells e 0 (a.eval y)).run P w= .ok #[] w:=J.cells;rcases J.kind with⟨e',hk'⟩|hk'<;>simp[Builtin.append_,run_underlying hu,run_underlying hk',Go.sizeOf,typeInfo,hinf,hl,hsz,hc]
    exact fin U (λ_ _ _=>rfl) (uM _) rfl rfl rfl (λb' hb'=>by simp[Bk,blk]at hb') ⟨none,0,by rw[zo];rfl,ue,ue,.inl ⟨rfl,rfl⟩⟩ rfl
   ·have hfit:o+rows.length*e+0+news.length<=cs.size:=by
     rw[hnl];have:(rows.length+rows2.length)*e<=cap*e:=tz _ hge;rw[tS]at this;omega
    have hst:=zG (P:=P) b' (o+rows.length*e) el' fz news 0 cs w h6 h6' hfit J.one
    have U:(Builtin.append_ #[t,tx] ty #[a.eval x,a.eval y]).run P w= .ok (.slice (some ⟨b',o,none⟩) (rows.length+rows2.length) cap) (w.setRow b' (setAt cs.toList (o+rows.length*e+0) news).toArray):=by
     rw[hex];have hl:=J.len w;have hc:=J.cells;rcases J.kind with⟨e',hk'⟩|hk'<;>simp[Builtin.append_,run_underlying hu,run_underlying hk',Go.sizeOf,typeInfo,hinf,hl,hsz,hc,hge,zT,hst]
    have hob:Bk (ρ id) b':=by rw[h2];rfl
    have hsl:(setAt cs.toList (o+rows.length*e+0) news).length=cs.size:=by rw[z8 _ _ _ (by simpa using hfit)];simp
    refine fin U (λb2 hb2 hne=>yW w b' _ b2 λe=>hne id _ rfl hT.1 (e ▸ hob)) (by simp[World.setRow]) rfl rfl rfl
     (λb2 hb2=> .inr ⟨id,_,rfl,hT.1,by simp only[Bk,blk,ui]at hb2;simp_all⟩)
     ⟨some ⟨b',o,none⟩,cap,by rw[zo];simp,by simpa using hge,h4,.inr ⟨b',o,_,el',fz,rfl,setRow_heap w b' cs _ el' fz h6,?_,?_,?_⟩⟩ rfl
    ·simp_all
    ·simp_all
    ·refine RowsIn.append (RowsIn.congr (λj hj=>?_) h8) (RowsIn.yb (ρ:=ρ) hlen2 hnews λj c hj=>?_)
     ·simp only[tl];rw[yh _ _ _ _ ug,uw ua];simp
     ·have hjl:j<news.length:=(uy.1 hj).1;simp only[tl];rw[yh _ _ _ _ ug,ur ua,uw ua]
      simp_all
def zjV(M:Mem)(b:Nat)(cs:List Value):Mem:=λb' o=>if b'=b then cs[o]? else M b' o
def Holds.zq5{C:Ctx}{st:St}{a:Act}(h:Holds C st M ρ a w)(cs:List Value)(el:TypeId):
 Holds C st (zjV M w.heap.size cs) ρ a (w.alloc (.cells cs.toArray el)):=by
 have mlt: ∀b o u,M b o=some u->b<w.heap.size:=λb o u U=>jC (h.run.imm b o u U)
 refine h.more (λb J=>z1 w _ b J) ue rfl rfl rfl (λb o v hv=>?_) (λb o v hv=>?_) (λb o v hv=>?_)
 ·simp only[zjV];grind
 ·simp only[zjV]at hv;split at hv
  ·simp_all
  ·rw[cell_of_heap (z1 w _ b (mlt b o v hv))];exact h.run.imm b o v hv
 ·simp only[zjV]at hv;split at hv
  ·rename_i e;subst e;refine .inr ⟨λhf=>?_,λi r hi J=>?_⟩
   ·have:=hf.1;have:=h.run.size;omega
   ·have:=(h.zz.res i r hi).lt J;omega
  ·exact .inl hv
def zhf{cs:List Value}(h:Imm M w):MLe M (zjV M w.heap.size cs):=λb o v hv=>by
 simp only[zjV];rw[ur (by have:=jC (h b o v hv);omega)];exact hv
def pvsOf:List V->Option (List PV)
 | []=>some []
 | .p x::r=>match pvsOf r with
   |some xs=>some (x::xs)
   |none=>none
 |_::_=>none
theorem wu: ∀ {vs:List V} {xs:List PV},pvsOf vs=some xs->vs=xs.map V.p
 | [],xs,h=>by simp[pvsOf]at h;subst h;rfl
 |v::r,xs,h=>by
  cases v<;>simp only[pvsOf]at h<;>first|(cases h;done)|skip
  split at h
  ·rename_i ys J;simp only[ui]at h;subst h;rw[wu J];rfl
  ·cases h
def partsR(e:Nat):Nat->List Nat->List S->Option (List (List PV))
 |_,[],[]=>some []
 |k,i::is,s::ss=>match Nat.beq i k with
  |true=>match cellsOf s with
   |some vs=>match pvsOf vs with
    |some xs=>match Nat.beq xs.length e with
     |true=>match partsR e (k+1) is ss with
      |some r=>some (xs::r)
      |none=>none
     |false=>none
    |none=>none
   |none=>none
  |false=>none
 |_,_,_=>none
theorem zcj{M:Mem}{ρ:Nat->Value}{e:Nat}: ∀ {k:Nat} {is:List Nat} {ss:List S} {rows:List (List PV)} {xs:List Value},partsR e k is ss=some rows->RepSs M ρ ss xs->
 (∀r∈rows,r.length=e)/\rows.length=is.length/\ ∃out:List Value,RepVs M ρ (rows.flatten.map V.p) out/\out.length=rows.length*e/\
   ∀cur:Array Value,k*e+rows.length*e<=cur.size->Instr.fill (λi=>some (i*e,e)) cur (is.zip xs)=some (setAt cur.toList (k*e) out).toArray
 |k,[],[],rows,xs,h,hr=>by
  simp only[partsR,ui]at h;subst h;refine⟨ue,rfl,[],by simp[RepVs],ue,λcur _=>?_⟩;simp[Instr.fill,setAt]
 |k,[],_::_,_,_,h,_=>by simp[partsR]at h
 |k,_::_,[],_,_,h,_=>by simp[partsR]at h
 |k,i::is,s::ss,rows,xs,h,hr=>by
  cases xs with
  |nil=>simp only[RepSs]at hr
  |cons c cs=>
   simp only[RepSs]at hr;simp only[partsR]at h;split at h
   ·rename_i U;have U:=uA U;subst U;split at h
    ·rename_i vs hv;split at h
     ·rename_i ys hy;split at h
      ·rename_i hle;have hle:=uA hle;split at h
       ·rename_i r hrr;simp only[ui]at h;subst h;obtain⟨h1,h2,out,h3,h4,h5⟩:=zcj hrr hr.2;have hc:=yz hv hr.1;rw[wu hy]at hc;have hcl:c.cells.size=e:=by have:=hc.length;simp at this;omega
        refine⟨λr' hr'=>?_,by simp[h2],c.cells.toList++out,by simpa using hc.append h3,?_,λcur hcur=>?_⟩
        ·grind
        ·grind
        ·simp only[uX,tS,UA]at hcur;simp only[List.zip_cons_cons,Instr.fill]
         have hcond: ¬(c.cells.size≠e||i*e+c.cells.size>cur.size)=true:=by
          simp only[ne_eq,uJ,uq];omega
         have hfold:=vu cur (i*e) c.cells.toList 0 cur ug
         have J:c.cells.zipIdx.foldl (λcs (p:Value×Nat)=>cs.setIfInBounds (i*e+p.2) p.1) cur=(setAt cur.toList (i*e) c.cells.toList).toArray:=by
          rw[<-oR];simpa using hfold
         rw[ur hcond,J];have hsl:(setAt cur.toList (i*e) c.cells.toList).length=cur.size:=by rw[z8 _ _ _ ug];simp
         rw[h5 _ (by simp only[qg,hsl,tS,UA];omega)]
         congr 2
         unfold setAt
         apply List.ext_getElem?
         intro j;have e1:(i+1)*e=i*e+e:=by rw[tS];omega
         have hA: ∀j,(setAt cur.toList (i*e) c.cells.toList)[j]?=if j<i*e then cur.toList[j]? else if j<i*e+e then c.cells.toList[j - i*e]? else cur.toList[j]?:=λj=>by
          rw[yh _ _ _ _ ug];simp[hcl]
         have hB:=yh (setAt cur.toList (i*e) c.cells.toList) out ((i+1)*e) j (by rw[hsl];omega);have hC:=yh cur.toList (c.cells.toList++out) (i*e) j ug;unfold setAt at hB hC hA
         grind
       ·cases h
      ·cases h
     ·cases h
    ·cases h
   ·cases h
def zvM{e len:Nat}{l:List (Nat×Operand)}{ss:List S}(hx:zcm (l.map (·.2)) ss)(he:elemSz P t=some (el,e))(hz:zeroV P el=some z)
 (hr:partsR e 0 (l.map (·.1)) ss=some rows) (hl:Nat.beq l.length len=true) (hb:Nat.ble (len*e) 16777216=true) (hb2:Nat.ble len 16777216=true):
 Snd P ⟨d,.buildSlice t len l.toArray,ty,ps,af,g⟩ (rqs (l.map (·.2)) ss) [] [] (.one (.p (.sl e rows))) []:=by
 intro C st M ρ a w hH h1 hT hF hd k Q hk;have e':=hH.zhi (wL hx h1);obtain⟨h2,h3,out,h4,h5,h6⟩:=zcj hr e';obtain⟨ii,hu,J,hsz⟩:=zp he;obtain⟨i',zv,hi',hzv,hzs⟩:=y5 hz;rw[J]at hi';simp only[ui]at hi';subst hi';have hl':l.length=len:=uA hl;have hb':len*e<=16777216:=uS hb;have hrl:rows.length=len:=by rw[h3];simpa using hl'
 have hzip:(l.toArray.map λp=>(p.1,a.eval p.2)).toList=(l.map (·.1)).zip ((l.map (·.2)).map a.eval):=by
  rw[qM];simp[oZ]
 have U: ∀cur:Array Value,cur.size=len*e->(setAt cur.toList (0*e) out).toArray=out.toArray:=λcur hc=>by
  unfold setAt;have:cur.toList.drop (0*e+out.length)=[]:=by apply uC;simp[h5,hrl,hc]
  rw[this];simp
 have hrun:(execOp a.eval ⟨d,.buildSlice t len l.toArray,ty,ps,af,g⟩).run P w= .ok (.value (.slice (some ⟨w.heap.size,0,none⟩) len len)) (w.alloc (.cells out.toArray el)):=by
  have hn: ¬16777216<len*e:=by omega
  by_cases h0:len*e=0
  ·have hf:=h6 ((Array.range (len*e)).map λx=>(#[]:Array Value)[x % 0]!) (by simp[hrl]);rw[U _ ue]at hf;rw[<-hzip]at hf;simp only[h0]at hf;simp[execOp,Instr.buildSlice,run_underlying hu,run_sizeOf J,hsz,h0,newRow]at hf⊢;simp[hf]
  ·have hf:=h6 ((Array.range (len*e)).map λx=>zv.cells[x % zv.cells.size]!) (by simp[hrl]);rw[U _ ue]at hf;rw[<-hzip]at hf;have hzrun:(zeroValue el).run P w= .ok zv w:=by simp[zeroValue,typeInfo,J,hzv]
   simp[execOp,Instr.buildSlice,run_underlying hu,run_sizeOf J,hsz,hn,h0,newRow,hzrun]at hf⊢;simp[hf]
 unfold Oper.wp;rw[hrun,Oper.upon_value];have hH':=hH.zq5 out el;refine hk _ _ _ _ (hH'.jO hd ?_);simp only[RepS,RepV,RepPV];refine⟨some ⟨w.heap.size,0,none⟩,len,by rw[hrl],ua,by have:=uS hb2;omega,.inr ⟨w.heap.size,0,rfl,RowsIn.yb h2 (RepVs.mono (zhf hH.run.imm) _ _ h4) λj c hj=>?_⟩⟩
 ·simp only[zjV,uw];simp_all
def zcA{z:Array Value}{e:Nat}(J:z.size=e): ∀(n:Nat),(madeCells z (n*e)).toList=(List.replicate n z.toList).flatten:=by
 intro n
 apply List.ext_getElem?
 intro j
 have hfl: ∀(n j:Nat),j<n*e->(List.replicate n z.toList).flatten[j]?=z.toList[j % e]?:=by
  intro n
  induction n with
  |zero=>intro j U;omega
  |succ n ih=>
   intro j U;rw[oa,tR];by_cases h:j<e
   ·rw[tV (by simpa [J]using h),Nat.mod_eq_of_lt h]
   ·rw[qt (by simp[J];omega)];have e1:(n+1)*e=n*e+e:=by rw[tS];omega
    rw[show j - z.toList.length=j - e by simp[J],ih (j - e) ua]
    congr 1
    conv=>rhs;rw[show j=(j - e)+e by omega]
    rw[Nat.add_mod_right]
 have hlen:(List.replicate n z.toList).flatten.length=n*e:=by simp[J]
 by_cases U:j<n*e
 ·rw[hfl n j U]
  have h0:0<e:=by
   rcases qK e with h|h
   ·rw[h]at U;omega
   ·exact h
  have hm:j % e<e:=Nat.mod_lt _ h0;have hm':j % e<z.size:=by omega
  simp only[madeCells,qu,Array.getElem?_map,Array.getElem?_range,U,uW,uG,J]
  simp_all
 ·rw[tY (by simp[madeCells];omega),tY (by rw[hlen];omega)]
theorem vC{z:Value}{vs:List V}{e:Nat}(U:RepVs M ρ vs z.cells.toList)(he:vs.length=e)(n:Nat)(hp:pvsOf vs=some row):
 RepVs M ρ ((List.replicate n row).flatten.map V.p) (madeCells z.cells (n*e)).toList:=by
 have J:z.cells.size=e:=by have:=U.length;simp at this;omega
 rw[zcA J]
 induction n with
 |zero=>simp[RepVs]
 |succ n ih=>
  rw[oa,oa,tR,tR,u5];rw[<-wu hp];exact U.append ih
def zgF{e n:Nat}(h:row.length=e): ∀r∈List.replicate n row,r.length=e:=λr hr=>by simp_all
def zty{e bytes n:Nat}{k1 k2:IntKind}(hx:okc x (Kk k1 (n:Int)))(hy:okc y (Kk k2 (n:Int)))(he:elemSz P t=some (el,e))(hz:zeroV P el=some z)(hp:pvsOf z=some row)(hzl:row.length=e)
 (hby:(P.info? el).map (·.bytes)=some bytes) (hb:bytes*n<=281474976710656) (hn:n<=9223372036854775807):
 Snd P ⟨d,.makeSlice t x y,ty,ps,af,g⟩ (rq x (Kk k1 (n:Int))++rq y (Kk k2 (n:Int))) [] [] (.one (.p (.sl e (List.replicate n row)))) []:=by
 intro C st M ρ a w hH h1 hT hF hd k Q hk;rw[ze]at h1;have e1:=hH.k (zq hx h1.1);have e2:=hH.k (zq hy h1.2);obtain⟨ii,hu,J,hsz⟩:=zp he;obtain⟨i',zv,hi',hzv,hzs⟩:=y5 hz;obtain⟨zv',hz1,hz2,_⟩:=xt hz M ρ w;rw[J]at hi';simp only[ui]at hi';subst hi';have:zv'=zv:=by simp[zeroValue,typeInfo,J,hzv]at hz1;exact hz1.symm
 subst this;rw[J]at hby;simp only[uG,ui]at hby;have hzl':z.length=e:=by rw[wu hp,uj];exact hzl
 have U:=run_make (P:=P) w t el ii zv' hu J hzv k1 k2 n n ua (qz _) (by rw[hby,<-oK];omega) ua;simp only[tj,hsz]at U
 have hrun':(execOp a.eval ⟨d,.makeSlice t x y,ty,ps,af,g⟩).run P w= .ok (.value (.slice (some ⟨w.heap.size,0,none⟩) n n)) (w.alloc (.cells (madeCells zv'.cells (n*e)).toList.toArray el)):=by
  simp[execOp,e1,e2,U]
 unfold Oper.wp;rw[hrun',Oper.upon_value];have hm:=vC hz2 hzl' n hp;have hH':=hH.zq5 (madeCells zv'.cells (n*e)).toList el;refine hk _ _ _ _ (hH'.jO hd ?_);simp only[RepS,RepV,RepPV];refine⟨some ⟨w.heap.size,0,none⟩,n,by simp_all,by simp_all,by simp_all,.inr ⟨w.heap.size,0,rfl,RowsIn.yb (zgF hzl) (RepVs.mono (zhf hH.run.imm) _ _ hm) λj c hj=>?_⟩⟩;simp only[zjV,uw];simp_all
def zv9{id e bytes n cap:Nat}{k1 k2:IntKind}(hx:okc x (Kk k1 (n:Int)))(hy:okc y (Kk k2 (cap:Int)))(he:elemSz P t=some (el,e))(hz:zeroV P el=some z)(hp:pvsOf z=some row)(hzl:row.length=e)
 (hby:(P.info? el).map (·.bytes)=some bytes) (hnc:n<=cap) (hb:bytes*cap<=281474976710656) (hn:cap<=9223372036854775807):
 Snd P ⟨d,.makeSlice t x y,ty,ps,af,g⟩ (rq x (Kk k1 (n:Int))++rq y (Kk k2 (cap:Int))) [] [id] (.one (.ar id)) [(id,some (.arr e (List.replicate n row)))]:=by
 intro C st M ρ a w hH h1 hT hF hd k Q hk;rw[ze]at h1;have e1:=hH.k (zq hx h1.1);have e2:=hH.k (zq hy h1.2);obtain⟨ii,hu,J,hsz⟩:=zp he;obtain⟨i',zv,hi',hzv,hzs⟩:=y5 hz;obtain⟨zv',hz1,hz2,_⟩:=xt hz M ρ w;rw[J]at hi';simp only[ui]at hi';subst hi';have:zv'=zv:=by simp[zeroValue,typeInfo,J,hzv]at hz1;exact hz1.symm
 subst this;rw[J]at hby;simp only[uG,ui]at hby;have hzl':z.length=e:=by rw[wu hp,uj];exact hzl
 have U:=run_make (P:=P) w t el ii zv' hu J hzv k1 k2 n cap ua ua (by rw[hby,<-oK];omega) ua;simp only[tj,hsz]at U
 have hrun':(execOp a.eval ⟨d,.makeSlice t x y,ty,ps,af,g⟩).run P w= .ok (.value (.slice (some ⟨w.heap.size,0,none⟩) n cap)) (w.alloc (.cells (madeCells zv'.cells (cap*e)) el)):=by
  simp[execOp,e1,e2,U]
 unfold Oper.wp;rw[hrun',Oper.upon_value];have hm:=(vC hz2 hzl' cap hp).take (n*e);have hfl: ∀n:Nat,(List.replicate n row).flatten.length=n*e:=λn=>by simp[hzl]
 have htk:((List.replicate cap row).flatten.map V.p).take (n*e)=(List.replicate n row).flatten.map V.p:=by
  have e3:List.replicate cap row=List.replicate n row++List.replicate (cap - n) row:=by rw[List.replicate_append_replicate];congr 1;omega
  rw[e3,qi,u5,List.take_left' (by rw[uj,hfl])]
 rw[htk]at hm
 refine hk _ _ M _ (hH.alloc (val:= .slice (some ⟨w.heap.size,0,none⟩) n cap) (λb hb=>by simp only[Bk,blk,ui]at hb;exact hb.symm) hF.1 ⟨some ⟨w.heap.size,0,none⟩,cap,by rw[zo,tZ],by simp_all,hn,.inr
  ⟨w.heap.size,0,_,el,(0,0),rfl,zJ w _,λi _=>by simp,by simp[size_madeCells],RowsIn.yb (ρ:=ρ) (zgF hzl) hm λj c hj=>?_⟩⟩ (by simp only[RepS,RepV];exact⟨(zo _ _ _).symm,rfl⟩) hd)
 grind
end
end Hw
namespace Hw
open Go Go.MapKept
structure wZ (K:Type) [DecidableEq K] where
 d:TypeDesc
 enc:K->Value
 one: ∀k,(enc k).oneCell'=true
 isKey: ∀k,IsKey d (enc k)
 same: ∀a b,Instr.sameNow d (enc a) (enc b)=some (decide (a=b))
def zhj(a b:ByteArray):(a==b)=decide (a=b):=by
 obtain⟨a⟩:=a;obtain⟨b⟩:=b;show(a==b)=_
 grind
def ze4(q:IntKind):wZ Int:=⟨.int q,λn=> .int q n,λ_=>rfl,λ_=>by simp[IsKey],λa b=>by simp only[Instr.sameNow,uW];congr 1⟩
def zL:wZ ByteArray:=⟨.string,λs=> .string s,λ_=>rfl,λ_=>by simp[IsKey],λa b=>by simp only[Instr.sameNow];congr 1;exact zhj a b⟩
section
variable {K:Type} [DecidableEq K]
def yT(κ:wZ K)(l:List (K×PV)):List (PV×PV):=l.map λp=>(.k (κ.enc p.1),p.2)
def getK:List (K×PV)->K->Option PV
 | [],_=>none
 |(a,b)::r,k=>if a=k then some b else getK r k
def putK:List (K×PV)->K->PV->List (K×PV)
 | [],k,v=>[(k,v)]
 |(a,b)::r,k,v=>if a=k then(k,v)::r else(a,b)::putK r k v
theorem find_spec{κ:wZ K}{M:Mem}{k:K}: ∀ {l:List (K×PV)} {ms:List MapEntry},EntsOf M (yT κ l) ms-> ∀i,
 (getK l k=none/\Instr.findNow κ.d (κ.enc k) ms i=some none/\ ∀v,putK l k v=l++[(k,v)])\/
 (∃j pv e,getK l k=some pv/\Instr.findNow κ.d (κ.enc k) ms i=some (some (i+j,e.val))/\RepPV M pv e.val/\ms[j]?=some e/\e.key=κ.enc k/\
   ∀v c,RepPV M v c->EntsOf M (yT κ (putK l k v)) (ms.modify j λe=>{ e with key:=κ.enc k,val:=c }))
 | [],[],_,i=> .inl ⟨rfl,rfl,λ_=>rfl⟩
 | [],_::_,h,_=>by simp[yT,EntsOf]at h
 |_::_,[],h,_=>by simp[yT,EntsOf]at h
 |(a,b)::l,m::ms,h,i=>by
  have J:RepPV M (.k (κ.enc a)) m.key/\RepPV M b m.val/\EntsOf M (yT κ l) ms:=by simpa only[yT,uH,EntsOf]using h
  have hk:m.key=κ.enc a:=by have:=J.1;simp only[RepPV]at this;exact this.1
  have hs:Instr.sameNow κ.d (κ.enc k) m.key=some (decide (k=a)):=by rw[hk];exact κ.same k a
  by_cases e:a=k
  ·subst e;refine .inr ⟨0,b,m,by simp[getK],by simp[Instr.findNow,hs],J.2.1,rfl,hk,λv c U=>?_⟩;simp only[putK,uW,yT,uH,EntsOf,Ug];refine⟨?_,U,by simpa only[yT]using J.2.2⟩
   simp_all
  ·have hf:Instr.findNow κ.d (κ.enc k) (m::ms) i=Instr.findNow κ.d (κ.enc k) ms (i+1):=by
    simp[Instr.findNow,hs,uI (λh:k=a=>e h.symm)]
   rcases find_spec (k:=k) J.2.2 (i+1)with⟨h1,h2,h3⟩|⟨j,pv,m',h1,h2,h3,h4,h5,h6⟩
   ·exact .inl ⟨by simp only[getK,ur e];exact h1,by rw[hf];exact h2,λv=>by simp only[putK,ur e,h3 v,uK]⟩
   ·refine .inr ⟨j+1,pv,m',by simp only[getK,ur e];exact h1,by grind,h3,by simpa using h4,h5,λv c U=>?_⟩;have:=h6 v c U;simp only[putK,ur e,yT,uH,EntsOf,Uh]at this⊢
    simp_all
theorem EntsOf.append{M:Mem}: ∀ {a b:List (PV×PV)} {x y:List MapEntry},EntsOf M a x->EntsOf M b y->EntsOf M (a++b) (x++y)
 | [],_,[],_,_,h=>by simpa using h
 | [],_,_::_,_,h,_=>by simp only[EntsOf]at h
 |_::_,_,[],_,h,_=>by simp only[EntsOf]at h
 |(p,q)::a,_,x::xs,_,h,h'=>by
  simp only[EntsOf,uK]at h⊢;exact⟨h.1,h.2.1,h.2.2.append h'⟩
variable {P:Program} {d:Option Nat} {ty:TypeId} {ps:String} {af:Array Edge} {g:Option (Nat×Bool)} {x y u:Operand} {t kt et:TypeId}
def znx{id:Nat}:Snd P ⟨d,.makeMap t none,ty,ps,af,g⟩ [] [] [id] (.one (.mp id)) [(id,some (.map []))]:=by
 intro C st M ρ a w hH h1 hT hF hd k Q hk
 have J:(execOp a.eval ⟨d,.makeMap t none,ty,ps,af,g⟩).run P w= .ok (.value (.map (some w.heap.size))) (w.alloc (.map #[] 0)):=by
  simp[execOp,Instr.makeMap]
 unfold Oper.wp;rw[J,Oper.upon_value]
 refine hk _ _ M _ (hH.alloc (val:= .map (some w.heap.size)) (λb U=>by simp only[Bk,blk,ui]at U;exact U.symm) hF.1
  ⟨w.heap.size,#[],0,zo _ _ _,zJ w _,by simp[EntsOf],ue,ue⟩ (by simp only[RepS,RepV];exact⟨(zo _ _ _).symm,rfl⟩) hd)
def ziJ{κ:wZ K}{id:Nat}{l:List (K×PV)}{k0:K}{ok:Bool}{c0:Value}(hx:okc x (.one (.mp id)))(hy:okc y (.one (.p (.k (κ.enc k0)))))(hu:P.underlying t=some (.map kt et))(J:P.underlying kt=some κ.d)(U:(P.info? et).bind (·.zero)=some c0)(h0:c0.oneCell'=true):
 Snd P ⟨d,.lookup t x y ok,ty,ps,af,g⟩ (rq x (.one (.mp id))++rq y (.one (.p (.k (κ.enc k0))))) [(id,.map (yT κ l))] []
  (if ok then .tup [.one (.p ((getK l k0).getD (.k c0))),.bq (getK l k0).isSome]else .one (.p ((getK l k0).getD (.k c0)))) []:=
 zi λC st M ρ a w hH h1 ht=>by
  rw[ze]at h1;have e1:=hH.evS (zq hx h1.1);have e2:=hH.k (zq hy h1.2);simp only[RepS,RepV]at e1;obtain⟨r,ms,cl,h2,h3,h4,h5⟩:=hH.zz.res id _ ht.1;have hex:a.eval x= .map (some r):=e1.1.trans h2
  have hz1:(zeroValue et).run P w= .ok c0 w:=by
   cases hi:P.info? et with
   |none=>rw[hi]at U;cases U
   |some i=>rw[hi]at U;simp only[qf]at U;simp[zeroValue,typeInfo,hi,U]
  have hzc:RepPV M (.k c0) c0:=by simp only[RepPV];exact⟨uh,h0⟩
  rcases find_spec (k:=k0) h4 0 with⟨g1,g2,_⟩|⟨j,pv,m',g1,g2,g3,_⟩
  ·refine⟨if ok then .tuple #[c0,.bool false]else c0,?_,?_⟩
   ·simp[execOp,hex,e2,Instr.lookup,run_underlying hu,run_getObj_map h3,run_checkKey J (κ.isKey k0),run_findKey J g2,hz1,Result.andThen]
   ·cases ok
    ·simp only[uB,uN,g1,oC,RepS,RepV];exact hzc
    ·simp only[uW,g1,oC,Option.isSome_none,RepS];exact⟨[c0,.bool false],rfl,by simp only[RepSs,RepS,RepV];simp_all⟩
  ·refine⟨if ok then .tuple #[m'.val,.bool true]else m'.val,?_,?_⟩
   ·simp[execOp,hex,e2,Instr.lookup,run_underlying hu,run_getObj_map h3,run_checkKey J (κ.isKey k0),run_findKey J g2,Result.andThen]
   ·cases ok
    ·simp only[uB,uN,g1,Option.getD_some,RepS,RepV];exact g3
    ·simp only[uW,g1,Option.getD_some,Option.isSome_some,RepS];exact⟨[m'.val,.bool true],rfl,by simp only[RepSs,RepS,RepV];simp_all⟩
def zhg{κ:wZ K}{id:Nat}{l:List (K×PV)}{k0:K}{v:PV}(hx:okc x (.one (.mp id)))(hy:okc y (.one (.p (.k (κ.enc k0)))))(hv:okc u (.one (.p v)))(hu:P.underlying t=some (.map kt et))(J:P.underlying kt=some κ.d):
 Snd P ⟨d,.mapUpdate t x y u,ty,ps,af,g⟩ (rq x (.one (.mp id))++rq y (.one (.p (.k (κ.enc k0))))++rq u (.one (.p v))) [(id,.map (yT κ l))] [] .un [(id,some (.map (yT κ (putK l k0 v))))]:=by
 intro C st M ρ a w hH h1 hT hF hd k Q hk;rw[ze,ze]at h1;have e1:=hH.evS (zq hx h1.1.1);have e2:=hH.k (zq hy h1.1.2);have e3:=hH.evS (zq hv h1.2);simp only[RepS,RepV]at e1 e3;obtain⟨r,ms,cl,h2,h3,h4,h5,hnd⟩:=hH.zz.res id _ hT.1;have hex:a.eval x= .map (some r):=e1.1.trans h2
 have fin: ∀(ms':Array MapEntry) (cl':Nat),(execOp a.eval ⟨d,.mapUpdate t x y u,ty,ps,af,g⟩).run P w= .ok .skip { w with heap:=w.heap.setIfInBounds r (.map ms' cl') }->
  EntsOf M (yT κ (putK l k0 v)) ms'.toList->(∀m∈ms',m.born<cl')->(ms'.toList.map (·.born)).Nodup->Oper.wp P ⟨d,.mapUpdate t x y u,ty,ps,af,g⟩ a w k Q:=λms' cl' hrun g1 g2 g3=>by
  unfold Oper.wp;rw[hrun,Oper.upon_skip];have U:=heap_set (o':= .map ms' cl') h3;refine hk _ _ M ρ (hH.turn (id:=id) hT.1 (λb hb=>U.2 b λe=>hb (by rw[h2,e];rfl)) ue rfl rfl rfl ⟨r,ms',cl',h2,U.1,g1,g2,g3⟩ (by simp only[RepS]) hd)
 rcases find_spec (k:=k0) h4 0 with⟨g1,g2,g3⟩|⟨j,pv,m',g1,g2,_,g4,g5,g6⟩
 ·refine fin (ms.push { key:=κ.enc k0,val:=a.eval u,born:=cl }) (cl+1) ?_ ?_ ?_ ?_
  ·simp[execOp,hex,e2,Instr.mapUpdate,run_underlying hu,run_getObj_map h3,run_checkKey J (κ.isKey k0),run_findKey J g2,run_setObj_map _ h3,Result.andThen]
  ·rw[g3 v];simp only[yT,u5,Array.toList_push];refine EntsOf.append (by simpa only[yT]using h4) ?_;simp only[uH,tI,EntsOf,RepPV];exact⟨⟨uh,κ.one k0⟩,e3,uh⟩
  ·grind
  grind
 ·have g4':ms[j]?=some m':=by simpa using g4
  refine fin (ms.modify j λe=>{ e with key:=κ.enc k0,val:=a.eval u }) cl ?_ ?_ ?_ ?_
  ·simp only[tJ]at g2;simp[execOp,hex,e2,Instr.mapUpdate,run_underlying hu,run_getObj_map h3,run_checkKey J (κ.isKey k0),run_findKey J g2,run_setObj_map _ h3,Result.andThen,g4',g5,run_keyThatStays (κ.isKey k0)]
  ·simp_all
  ·intro m hm;obtain⟨i,hi,rfl⟩:=Ui.1 hm
   grind
  ·have e:((ms.modify j λe=>{ e with key:=κ.enc k0,val:=a.eval u }).toList.map (·.born))=ms.toList.map (·.born):=by
    rw[Array.toList_modify]
    apply List.ext_getElem?
    intro i;rw[uO,Ut,uO];cases ms.toList[i]? with
    |none=>rfl
    |some m=>simp only[uG];by_cases h:j=i<;>simp[h]
   rw[e];exact hnd
end
end Hw
namespace Hw
open Go
def lst:Cur->Bool
 | .ops _ _ (some _)=>false
 |_=>true
variable {C:Ctx}{P:Program}{Q:Exit->St->Prop}{cur:Cur}{tab:Tab}
def jv{k:List Frm}{n:Nat}{sl sl':zb}{tab':Tab}(J:lst cur=true)
 (h: ∀ {M ρ a w},Holds C ⟨n,sl,tab⟩ M ρ a w-> ∃M' ρ',Holds C ⟨n,sl',tab'⟩ M' ρ' a w) (g:Goal P C cur k n sl' tab' Q):Goal P C cur k n sl tab Q:=by
 refine zxI (λa r p e=>?_) h g;subst e;cases J
variable {rows:List (List PV)}
def zuz{k:List Frm}{n:Nat}{sl:zb}(J:lst cur=true)(t:Nat){e:Nat}(U:sg sl t=some (.one (.p (.sl e rows))))(g:rows.length<=9223372036854775807->Goal P C cur k n sl tab Q):Goal P C cur k n sl tab Q:=
 zep (λa r p e=>by subst e;cases J) (λ{M ρ a w} h=>by
  have:=h.slots t _ U;simp only[RepS,RepV,RepPV]at this
  omega) g
def v7{k:List Frm}{n:Nat}{sl:zb}(J:lst cur=true)(t j:Nat){vs:List V}{e:Nat}(U:sg sl t=some (.agg vs))(hj:vs[j]?=some (.p (.sl e rows)))(g:rows.length<=9223372036854775807->Goal P C cur k n sl tab Q):Goal P C cur k n sl tab Q:=
 zep (λa r p e=>by subst e;cases J) (λ{M ρ a w} h=>by
  have:=h.slots t _ U;simp only[RepS]at this;obtain⟨cs,_,h2⟩:=this;obtain⟨u,_,h3⟩:=h2.get hj;simp only[RepV,RepPV]at h3
  omega) g
def FrV(id e:Nat)(rows:List (List PV))(v v':V):Prop:= ∀M ρ x,RepPV M (.sl e rows) (ρ id)->RepV M ρ v x->RepV M ρ v' x
def zck(id e:Nat)(rows:List (List PV))(v v':List V):Prop:= ∀M ρ x,RepPV M (.sl e rows) (ρ id)->RepVs M ρ v x->RepVs M ρ v' x
def FrS(id e:Nat)(rows:List (List PV))(v v':S):Prop:= ∀M ρ x,RepPV M (.sl e rows) (ρ id)->RepS M ρ v x->RepS M ρ v' x
variable {v':V}
section
variable {id e:Nat}
def FrV.refl(v:V):FrV id e rows v v:=λ_ _ _ _ h=>h
def FrV.le{v:V}(h:LeV v v'):FrV id e rows v v':=λ_ _ _ _ hr=>h _ _ _ hr
theorem FrV.ar:FrV id e rows (.ar id) (.p (.sl e rows)):=λ_ _ _ h hr=>by simp only[RepV]at hr ⊢; simp_all
def zck.nil:zck id e rows [] []:=λ_ _ _ _ h=>h
def zck.refl(v:List V):zck id e rows v v:=λ_ _ _ _ h=>h
theorem zck.cons{v v':V}{vs vs':List V}(h:FrV id e rows v v')(J:zck id e rows vs vs'):zck id e rows (v::vs) (v'::vs'):=λM ρ x hf hr=>by
 cases x with
 |nil=>simp only[RepVs]at hr
 |cons c cs=>simp only[RepVs]at hr ⊢; exact⟨h _ _ _ hf hr.1,J _ _ _ hf hr.2⟩
theorem FrS.one{v v':V}(h:FrV id e rows v v'):FrS id e rows (.one v) (.one v'):=λM ρ x hf hr=>by simp only[RepS]at hr ⊢; exact h _ _ _ hf hr
theorem FrS.agg{v v':List V}(h:zck id e rows v v'):FrS id e rows (.agg v) (.agg v'):=λM ρ x hf hr=>by
 simp only[RepS]at hr ⊢; obtain⟨cs,J,h2⟩:=hr;exact⟨cs,J,h _ _ _ hf h2⟩
theorem FrS.ar:FrS id e rows (.one (.ar id)) (.one (.p (.sl e rows))):=FrS.one FrV.ar
end
def upS(R:S->S->Prop)(sl:zb):zb->Prop
 | []=>True
 |(t,s')::r=>(∃s,sg sl t=some s/\R s s')/\upS R sl r
def upB(R:List V->List V->Prop)(id:Nat)(tab:Tab):List (Nat×List V)->Prop
 | []=>True
 |(i,vs')::r=>(∃vs,tg tab i=some (.box vs)/\i≠id/\R vs vs')/\upB R id tab r
def zfS:List (Nat×List V)->Tab
 | []=>[]
 |(i,vs)::r=>(i,some (.box vs))::zfS r
theorem zeE{R:S->S->Prop}{sl:zb}: ∀ {ups:zb},upS R sl ups-> ∀ {k:Nat} {s:S},sg (ups++sl) k=some s->sg sl k=some s\/ ∃s0,sg sl k=some s0/\R s0 s
 | [],_,k,s,h=> .inl h
 |(t,s')::r,hu,k,s,h=>by
  simp only[uK,yk]at h;split at h
  ·rename_i e;subst e;simp only[ui]at h;subst h;exact .inr hu.1
  ·exact zeE hu.2 h
theorem zq6{R:List V->List V->Prop}{id:Nat}{tab b:Tab}(J: ∀i r,tg b i=some r->tg tab i=some r): ∀ {ups:List (Nat×List V)},upB R id tab ups-> ∀ {k:Nat} {r:Res},tg (zfS ups++b) k=some r->
 tg b k=some r\/ ∃vs vs',tg tab k=some (.box vs)/\k≠id/\R vs vs'/\r= .box vs'
 | [],_,k,r,h=> .inl h
 |(t,s')::l,hu,k,r,h=>by
  simp only[zfS,uK,zm]at h;split at h
  ·rename_i e;subst e;simp only[ui]at h;subst h;obtain⟨vs,h1,h2,h3⟩:=hu.1
   simp_all
  ·exact zq6 J hu.2 h
def zwa(M:Mem)(b o m:Nat)(cs:Array Value):Mem:=λb' i=>if b'=b/\o<=i/\i<o+m then cs[i]? else M b' i
def zx6(id:Nat)(pv:PV)(v v':List V):Prop:= ∀M ρ x,RepPV M pv (ρ id)->RepVs M ρ v x->RepVs M ρ v' x
def FpS(id:Nat)(pv:PV)(v v':S):Prop:= ∀M ρ x,RepPV M pv (ρ id)->RepS M ρ v x->RepS M ρ v' x
def zxK{k:List Frm}{n:Nat}{sl:zb}(hc:lst cur=true){id:Nat}{r0:Res}(pv:PV)(hid:tg tab id=some r0)
 (hp: ∀M ρ w,zA M ρ w id r0->RepPV M pv (ρ id)\/ ∃(b o m:Nat) (cs:Array Value) (el:TypeId) (fz:Nat×Nat),Bk (ρ id) b/\w.heap[b]?=some (.cells cs el fz)/\ ∀M',MLe M M'->(∀i,o<=i->i<o+m->M' b i=cs[i]?)->RepPV M' pv (ρ id))
 (ups:zb) (hS:upS (FpS id pv) sl ups) (bs:List (Nat×List V)) (hB:upB (zx6 id pv) id tab bs) (g:Goal P C cur k n (ups++sl) (zfS bs++((id,none)::tab)) Q):Goal P C cur k n sl tab Q:=by
 refine jv hc (λ{M ρ a w} h=>?_) g
 have hoff: ∀i r,tg ((id,none)::tab) i=some r->tg tab i=some r:=λi r J=>by
  rw[zm]at J;split at J
  ·cases J
  ·exact J
 have hoff': ∀i r,tg ((id,none)::tab) i=some r->i≠id:=λi r J=>by
  rw[zm]at J;split at J
  ·cases J
  ·rename_i h;exact λe=>h e.symm
 -- what the table has of an id that is left
 have htab: ∀i r,tg (zfS bs++((id,none)::tab)) i=some r->i≠id/\(tg tab i=some r\/ ∃vs vs',tg tab i=some (.box vs)/\zx6 id pv vs vs'/\r= .box vs'):=λi r J=>by
  rcases zq6 (tab:=tab) hoff hB J with U|⟨vs,vs',U,h2,h3,h4⟩
  ·exact⟨hoff' i r U,.inl (hoff i r U)⟩
  ·exact⟨h2,.inr ⟨vs,vs',U,h3,h4⟩⟩
 have fin: ∀M':Mem,MLe M M'->Imm M' w->(∀b o u,M' b o=some u->M b o=some u\/(¬C.fr b/\Bk (ρ id) b))->RepPV M' pv (ρ id)->
  ∃M' ρ',Holds C ⟨n,ups++sl,zfS bs++((id,none)::tab)⟩ M' ρ' a w:=λM' hle himm hnew hrep=>by
  have old: ∀i r,tg (zfS bs++((id,none)::tab)) i=some r-> ∃r0,tg tab i=some r0/\i≠id:=λi r J=>by
   obtain⟨U,h2|⟨vs,vs',h2,_⟩⟩:=htab i r J
   ·exact⟨r,h2,U⟩
   ·exact⟨_,h2,U⟩
  refine⟨M',ρ,h.dfr,h.sz,λk s hk=>?_,⟨λi r J=>?_,λi j ri rj b J hj hne hbi hbj=>?_,λi r b J hb o=>?_⟩,λi r b J hb=>?_,⟨himm,h.run.fram,h.run.size,h.run.base.trans hle,λb o u hu=>?_,h.run.os,h.run.tape,h.run.output⟩,h.keep⟩
  ·rcases zeE hS hk with U|⟨s0,U,h2⟩
   ·exact RepS.mono hle _ _ (h.slots k s U)
   ·exact h2 _ _ _ hrep (RepS.mono hle _ _ (h.slots k s0 U))
  ·obtain⟨_,h2|⟨vs,vs',h2,h3,rfl⟩⟩:=htab i r J
   ·exact(h.zz.res i r h2).mono hle
   ·obtain⟨b,cs,el,e1,e2,e3⟩:=h.zz.res i _ h2;exact⟨b,cs,el,e1,e2,h3 _ _ _ hrep (RepVs.mono hle _ _ e3)⟩
  ·obtain⟨si,U,_⟩:=old i ri J;obtain⟨sj,h2,_⟩:=old j rj hj;exact h.zz.dis i j si sj b U h2 hne hbi hbj
  ·obtain⟨si,U,h2⟩:=old i r J;cases hm:M' b o with
   |none=>rfl
   |some u=>
    rcases hnew b o u hm with h3|⟨_,h3⟩
    ·rw[h.zz.own i si b U hb o]at h3;cases h3
    ·exact(h.zz.dis i id si _ b U hid h2 hb h3).elim
  ·obtain⟨si,U,_⟩:=old i r J;exact h.ownf i si b U hb
  ·rcases hnew b o u hu with h3|⟨h3,_⟩
   ·exact h.run.newM b o u h3
   ·exact .inr h3
 rcases hp M ρ w (h.zz.res id _ hid)with h4|⟨b,o,m,cs,el,fz,hb,h6,h8⟩
 ·exact fin M (MLe.refl M) h.run.imm (λb o u hu=> .inl hu) h4
 ·have hown:=h.zz.own id _ b hid hb
  have hle:MLe M (zwa M b o m cs):=λb' i v hv=>by
   simp only[zwa];split
   ·rename_i hh;rw[hh.1,hown i]at hv;cases hv
   ·exact hv
  refine fin _ hle (λb' i v hv=>?_) (λb' i v hv=>?_) (h8 _ hle λi U h2=>?_)
  ·simp only[zwa]at hv;split at hv
   ·rename_i hh;rw[hh.1];simp[World.cell?,h6,hv]
   ·exact h.run.imm b' i v hv
  ·simp only[zwa]at hv;split at hv
   ·rename_i hh;exact .inr ⟨by rw[hh.1];exact h.ownf id _ b hid hb,by rw[hh.1];exact hb⟩
   ·exact .inl hv
  ·simp only[zwa];simp_all
def zdc{k:List Frm}{n:Nat}{sl:zb}(hc:lst cur=true){id e:Nat}(J:tg tab id=some (.arr e rows))
 (ups:zb) (hS:upS (FrS id e rows) sl ups) (bs:List (Nat×List V)) (hB:upB (zck id e rows) id tab bs) (g:Goal P C cur k n (ups++sl) (zfS bs++((id,none)::tab)) Q):Goal P C cur k n sl tab Q:=by
 refine zxK hc (.sl e rows) J (λM ρ w hR=>?_) ups hS bs hB g;obtain⟨a',cap,h1,h2,h3,h4⟩:=hR;rcases h4 with⟨rfl,hcap⟩|⟨b,o,cs,el,fz,rfl,h6,_,h7,h8⟩
 ·refine .inl ?_;simp only[RepPV]
  simp_all
 ·refine .inr ⟨b,o,rows.length*e,cs,el,fz,by rw[h1];rfl,h6,λM' U hM=>?_⟩;simp only[RepPV];refine⟨some ⟨b,o,none⟩,cap,h1,h2,tG h2 h3,.inr ⟨b,o,rfl,?_⟩⟩;refine RowsIn.congr (λj hj=>?_) (RowsIn.mono U (λ_ _ hh=>hh) _ _ h8)
  simp_all
theorem FpS.bx{id:Nat}{row:List PV}:FpS id (.pr row) (.one (.bx id 0)) (.one (.p (.pr row))):=λM ρ x h hr=>by
 simp only[RepS,RepV]at hr⊢
 grind
def AdV(id:Nat)(v v':V):Prop:= ∀M ρ x,ρ id= .slice none 0 0->RepV M ρ v x->RepV M ρ v' x
def zcB(id:Nat)(v v':List V):Prop:= ∀M ρ x,ρ id= .slice none 0 0->RepVs M ρ v x->RepVs M ρ v' x
def AdS(id:Nat)(v v':S):Prop:= ∀M ρ x,ρ id= .slice none 0 0->RepS M ρ v x->RepS M ρ v' x
section
variable {id:Nat}
def AdV.refl(v:V):AdV id v v:=λ_ _ _ _ h=>h
def AdV.nil:AdV id (.p (.k (.slice none 0 0))) (.ar id):=λ_ _ _ h hr=>by simp only[RepV,RepPV]at hr ⊢; simp_all
def zcB.nil:zcB id [] []:=λ_ _ _ _ h=>h
def zcB.refl(v:List V):zcB id v v:=λ_ _ _ _ h=>h
theorem zcB.cons{v v':V}{vs vs':List V}(h:AdV id v v')(J:zcB id vs vs'):zcB id (v::vs) (v'::vs'):=λM ρ x hf hr=>by
 cases x with
 |nil=>simp only[RepVs]at hr
 |cons c cs=>simp only[RepVs]at hr ⊢; exact⟨h _ _ _ hf hr.1,J _ _ _ hf hr.2⟩
theorem AdS.one{v v':V}(h:AdV id v v'):AdS id (.one v) (.one v'):=λM ρ x hf hr=>by simp only[RepS]at hr ⊢; exact h _ _ _ hf hr
theorem AdS.agg{v v':List V}(h:zcB id v v'):AdS id (.agg v) (.agg v'):=λM ρ x hf hr=>by
 simp only[RepS]at hr ⊢; obtain⟨cs,J,h2⟩:=hr;exact⟨cs,J,h _ _ _ hf h2⟩
theorem AdS.nil:AdS id (.one (.p (.k (.slice none 0 0)))) (.one (.ar id)):=AdS.one AdV.nil
end
def zj1{k:List Frm}{n:Nat}{sl:zb}(hC:C.low)(hc:lst cur=true)(id e:Nat)(hf:(Nat.ble 100 id&&freshB id ⟨n,sl,tab⟩)=true)
 (ups:zb) (hS:upS (AdS id) sl ups) (bs:List (Nat×List V)) (hB:upB (zcB id) id tab bs) (g:Goal P C cur k n (ups++sl) (zfS bs++((id,some (.arr e []))::tab)) Q):Goal P C cur k n sl tab Q:=by
 refine jv hc (λ{M ρ a w} h=>?_) g;simp only[um]at hf;have hfr:we C id ⟨n,sl,tab⟩:=vt hf.2 (hC.none (uS hf.1));have hρ:upd ρ id (.slice none 0 0) id= .slice none 0 0:=zo _ _ _;have agr:=yD ρ id (.slice none 0 0);have hn: ∀i r,tg tab i=some r->i≠id:=λi r J=>(hfr.2.1 i r J).1
 have htab: ∀i r,tg (zfS bs++((id,some (.arr e []))::tab)) i=some r->(i=id/\r= .arr e [])\/(i≠id/\(tg tab i=some r\/ ∃vs vs',tg tab i=some (.box vs)/\zcB id vs vs'/\r= .box vs')):=λi r J=>by
  have: ∀ {ups:List (Nat×List V)},upB (zcB id) id tab ups->tg (zfS ups++((id,some (.arr e []))::tab)) i=some r->(i=id/\r= .arr e [])\/(i≠id/\(tg tab i=some r\/ ∃vs vs',tg tab i=some (.box vs)/\zcB id vs vs'/\r= .box vs')):=by
   intro ups
   induction ups with
   |nil=>
    intro _ J
    replace J:tg ((id,some (.arr e []))::tab) i=some r:=J
    rw[zm]at J;split at J
    ·rename_i e';exact .inl ⟨e'.symm,(uU J).symm⟩
    ·rename_i e';exact .inr ⟨λh=>e' h.symm,.inl J⟩
   |cons x xs ih=>
    obtain⟨t,vs'⟩:=x;intro hu J;simp only[zfS,uK,zm]at J;split at J
    ·rename_i e';have hi':=uU J;obtain⟨vs,U,h2,h3⟩:=hu.1;rw[e']at U h2;exact .inr ⟨h2,.inr ⟨vs,vs',U,h3,hi'.symm⟩⟩
    ·exact ih hu.2 J
  exact this hB J
 have old: ∀i r,i≠id->tg (zfS bs++((id,some (.arr e []))::tab)) i=some r-> ∃r0,tg tab i=some r0:=λi r hne J=>by
  rcases htab i r J with⟨U,_⟩|⟨_,h2|⟨vs,vs',h2,_⟩⟩
  ·exact absurd U hne
  ·exact⟨r,h2⟩
  ·exact⟨_,h2⟩
 have hb0: ∀b,¬Bk (upd ρ id (.slice none 0 0) id) b:=λb=>by rw[hρ];simp[Bk,blk]
 refine⟨M,upd ρ id (.slice none 0 0),h.dfr,h.sz,λk s hk=>?_,⟨λi r J=>?_,λi j ri rj b J hj hne hbi hbj=>?_,λi r b J hb o=>?_⟩,λi r b J hb=>?_,h.run,λi r J=>?_⟩
 ·have base: ∀s,sg sl k=some s->RepS M (upd ρ id (.slice none 0 0)) s (a.tmps.getD k undef):=λs hs=>RepS.agree agr _ _ (λi J=>by subst J;exact hfr.1 k s hs) (h.slots k s hs)
  rcases zeE hS hk with U|⟨s0,U,h2⟩
  ·exact base s U
  ·exact h2 _ _ _ hρ (base s0 U)
 ·rcases htab i r J with⟨rfl,rfl⟩|⟨hne,h2|⟨vs,vs',h2,h3,rfl⟩⟩
  ·exact⟨none,0,hρ,uM _,ue,.inl ⟨rfl,rfl⟩⟩
  ·exact(h.zz.res i r h2).agree agr hne (λj hj=>by subst hj;exact(hfr.2.1 i r h2).2)
  ·obtain⟨b,cs,el,e1,e2,e3⟩:=(h.zz.res i _ h2).agree agr hne (λj hj=>by subst hj;exact(hfr.2.1 i _ h2).2);exact⟨b,cs,el,e1,e2,h3 _ _ _ hρ e3⟩
 ·by_cases e1:i=id
  ·simp_all
  ·by_cases e2:j=id
   ·simp_all
   ·obtain⟨si,U⟩:=old i ri e1 J;obtain⟨sj,h2⟩:=old j rj e2 hj;rw[zP e1]at hbi;rw[zP e2]at hbj;exact h.zz.dis i j si sj b U h2 hne hbi hbj
 ·by_cases e1:i=id
  ·simp_all
  ·obtain⟨si,U⟩:=old i r e1 J;rw[zP e1]at hb;exact h.zz.own i si b U hb o
 ·by_cases e1:i=id
  ·simp_all
  ·obtain⟨si,U⟩:=old i r e1 J;rw[zP e1]at hb;exact h.ownf i si b U hb
 ·have:i<100:=hC i r J;have:=uS hf.1;rw[zP ua];exact h.keep i r J
variable {af:Array Edge}{all:Array Oper}{ps:String}{rest:List Oper}{t:TypeId}
section
variable {d:Option Nat} {ty:TypeId} {g:Option (Nat×Bool)} {x:Operand} {t' kt et:TypeId}
def zpR{id:Nat}{r:Res}(hx:okc x (.one (.mp id)))(hu:P.underlying t=some (.map kt et))(hr: ∃es,r= .map es):
 Snd P ⟨d,.binOp .eql t x (.const (.map none)) t',ty,ps,af,g⟩ (rq x (.one (.mp id))) [(id,r)] [] (Bo false) []:=
 zi λC st M ρ a w U h1 ht=>by
  have e1:=U.evS (zq hx h1);simp only[RepS,RepV]at e1;obtain⟨es,rfl⟩:=hr;obtain⟨b,ms,cl,h2,_⟩:=U.zz.res id _ ht.1;have J:a.eval x= .map (some b):=e1.1.trans h2;have hc:a.eval (.const (.map none))= .map none:=rfl
  have hr:(binOp .eql t (.map (some b)) (.map none)).run P w= .ok (.bool false) w:=by
   have:binOp .eql t (.map (some b)) (.map none)=(do pure (.bool (<-Op.equal t (.map (some b)) (.map none)))):=rfl;rw[this];simp[run_equal_map_nil w t kt et (some b) hu]
  have hg:(eqGuard .eql t x (.const (.map none)) (.map (some b)) (.map none)).run P w= .ok () w:=rfl;exact⟨.bool false,by simp only[execOp,J,hc,Sem.run_bind,hg,hr,Result.andThen_ok,Sem.run_pure],znS _⟩
def zny(U:okc x (.one (.p (.k (.map none)))))(hu:P.underlying t=some (.map kt et)):
 Snd P ⟨d,.binOp .eql t x (.const (.map none)) t',ty,ps,af,g⟩ (rq x (.one (.p (.k (.map none))))) [] [] (Bo true) []:=
 zi λC st M ρ a w hH h1 ht=>by
  have J:=hH.k (zq U h1);have hc:a.eval (.const (.map none))= .map none:=rfl
  have hr:(binOp .eql t (.map none) (.map none)).run P w= .ok (.bool true) w:=by
   have:binOp .eql t (.map none) (.map none)=(do pure (.bool (<-Op.equal t (.map none) (.map none)))):=rfl;rw[this];simp[run_equal_map_nil w t kt et none hu]
  have hg:(eqGuard .eql t x (.const (.map none)) (.map none) (.map none)).run P w= .ok () w:=rfl;exact⟨.bool true,by simp only[execOp,J,hc,Sem.run_bind,hg,hr,Result.andThen_ok,Sem.run_pure],znS _⟩
def zln{k:List Frm}{n:Nat}{sl:zb}{U:Nat}{e:Nat}(hx:ev sl x=some (.one (.p (.sl e rows))))(hu:P.underlying t=some (.slice et))(hd:Nat.blt U n=true)
 (gg: ∀b:Bool,(b=true->rows=[])->Goal P C (.ops all rest none) k n ((U,.bq b)::sl) tab Q):
 Goal P C (.ops all (⟨some U,.binOp .eql t x (.const (.slice none 0 0)) t',ty,ps,af,none⟩::rest) none) k n sl tab Q:=by
 refine λM ρ a w hH=>wpList_step λK hK=>?_
 simp only[Region.wanted,uW];have e1:=hH.evS hx;simp only[RepS,RepV,RepPV]at e1;obtain⟨ad,cap,h1,h2,h3,h4⟩:=e1;have hc:a.eval (.const (.slice none 0 0))= .slice none 0 0:=rfl
 have hr:(binOp .eql t (.slice ad rows.length cap) (.slice none 0 0)).run P w= .ok (.bool ad.isNone) w:=by
  have:binOp .eql t (.slice ad rows.length cap) (.slice none 0 0)=(do pure (.bool (<-Op.equal t (.slice ad rows.length cap) (.slice none 0 0)))):=rfl;rw[this];simp[run_equal_slice_nil w t et ad rows.length cap hu]
 have hg:(eqGuard .eql t x (.const (.slice none 0 0)) (.slice ad rows.length cap) (.slice none 0 0)).run P w= .ok () w:=rfl;unfold Oper.wp
 have J:(execOp a.eval ⟨some U,.binOp .eql t x (.const (.slice none 0 0)) t',ty,ps,af,none⟩).run P w= .ok (.value (.bool ad.isNone)) w:=by
  simp only[execOp,h1,hc,Sem.run_bind,hg,hr,Result.andThen_ok,Sem.run_pure]
 rw[J,Oper.upon_value];refine hK _ _ (gg ad.isNone (λhb=>?_) M ρ _ w (hH.put (by simp_all) (by simp only[RepS])))
 simp_all
end
variable {el:TypeId}{g0:Option (Nat×Bool)}{gs:zb}{md:Mode}{row:List PV}{z:List V}
section
variable {k:List Frm} {n:Nat} {sl:zb}
def ztT(T:Ty P)(hC:C.low){d:Nat}{len:Nat}{l:List (Nat×Operand)}{ty:TypeId}{ss:List S}{e:Nat}
 (hl:evs sl (l.map (·.2))=some ss) (he:T.es t=some (el,e)) (hz:T.zs el=some z) (hr:partsR e 0 (l.map (·.1)) ss=some rows) (J:Nat.beq l.length len=true) (U:Nat.ble (len*e) 16777216=true) (hl3:Nat.ble len 16777216=true)
 (hm:metL all sl g0=some gs) (hd:Nat.blt d n=true)
 (g:Goal P C (.ops all rest (nx md ⟨some d,gs++rqs (l.map (·.2)) ss,[],[],.one (.p (.sl e rows)),[]⟩)) k n ((d,.one (.p (.sl e rows)))::sl) tab Q):
 Goal P C (.ops all (⟨some d,.buildSlice t len l.toArray,ty,ps,af,g0⟩::rest) md) k n sl tab Q:=
 gDo hC hm (zvM (es1 hl) (T.es_ok _ _ he) (T.zs_ok _ _ hz) hr J U hl3) (es2 hl) trivial rfl hd g
def zrT(T:Ty P)(hC:C.low){d:Nat}{x y:Operand}{ty:TypeId}(m:Nat){e bytes:Nat}
 (hx:ev sl x=some (I (m:Nat))) (hy:ev sl y=some (I (m:Nat))) (he:T.es t=some (el,e)) (hz:T.zs el=some z) (hp:pvsOf z=some row) (hl:Nat.beq row.length e=true) (J:(P.info? el).map (·.bytes)=some bytes) (U:Nat.ble bytes 1000=true) (hb:m<=1000000)
 (hm:metL all sl g0=some gs) (hd:Nat.blt d n=true)
 (g:Goal P C (.ops all rest (nx md ⟨some d,gs++(rq x (I (m:Nat))++rq y (I (m:Nat))),[],[],.one (.p (.sl e (List.replicate m row))),[]⟩)) k n ((d,.one (.p (.sl e (List.replicate m row))))::sl) tab Q):
 Goal P C (.ops all (⟨some d,.makeSlice t x y,ty,ps,af,g0⟩::rest) md) k n sl tab Q:=by
 have e1:=xV (st:=⟨n,sl,tab⟩) hx;have e2:=xV (st:=⟨n,sl,tab⟩) hy;have hle:bytes*m<=1000*1000000:=Nat.mul_le_mul (uS U) hb;have:=w8 hm (zty (ty:=ty) (ps:=ps) (af:=af) (g:=g0) (d:=some d) e1.1 e2.1 (T.es_ok _ _ he) (T.zs_ok _ _ hz) hp (uA hl) J ua ua) (n:=n) (tab:=tab);exact zbF (L:=⟨some d,gs++(rq x (I (m:Nat))++rq y (I (m:Nat))),[],[],.one (.p (.sl e (List.replicate m row))),[]⟩) hC this.1 rfl ⟨by rw[ze,ze];simp_all,trivial,rfl,hd⟩ g
end
end Hw
namespace Hw.M
open Go
abbrev Str:=ByteArray
structure Fld where
 n:Str
 t:Str
structure zX where
 n:Str
 f:List Fld
inductive Ex where
 |mk (op n:Int) (s:Str) (l:List Ex)
def Ex.op:Ex->Int| .mk a _ _ _=>a
def Ex.n:Ex->Int| .mk _ a _ _=>a
def Ex.s:Ex->Str| .mk _ _ a _=>a
def Ex.l:Ex->List Ex| .mk _ _ _ a=>a
inductive Sm where
 |mk (op:Int) (s:Str) (e:List Ex) (l els:List Sm)
def Sm.op:Sm->Int| .mk a _ _ _ _=>a
def Sm.s:Sm->Str| .mk _ a _ _ _=>a
def Sm.e:Sm->List Ex| .mk _ _ a _ _=>a
def Sm.l:Sm->List Sm| .mk _ _ _ a _=>a
def Sm.els:Sm->List Sm| .mk _ _ _ _ a=>a
structure Pr where
 n:Str
 params:List Fld
 res:Str
 locs:List Fld
 body:List Sm
structure Ms where
 n:Str
 t:Str
 z:Int
 x:Ex
structure Iv where
 n:Str
 t:Str
 x:Ex
structure Pt where
 t:Str
 x:Ex
structure Bd where
 p:Str
 x:Ex
structure zf where
 n:Str
 types:List zX
 globals:List Fld
 procs:List Pr
 measures:List Ms
 invs:List Iv
 pots:List Pt
 bounds:List Bd
structure Nd where
 t:Int
 f:List Int
 deriving DecidableEq
structure Hp where
 g:List Int
 n:List Nd
 deriving DecidableEq
abbrev ki(n:Int):PV:= .k (.int .i64 n)
abbrev ks(s:Str):PV:= .k (.string s)
def zN(n:Int):List PV:=[ki n]
def zei(s:Str):List PV:=[ks s]
def yx(l:List Int):PV:= .sl 1 (l.map zN)
def za5(l:List Str):PV:= .sl 1 (l.map zei)
def zB(f:Fld):List PV:=[ks f.n,ks f.t]
def zw(l:List Fld):PV:= .sl 2 (l.map zB)
def zR(t:zX):List PV:=[ks t.n,zw t.f]
mutual
def xk:Ex->List PV
 | .mk op n s l=>[ki op,ki n,ks s,.sl 4 (exprRs l)]
def exprRs:List Ex->List (List PV)
 | []=>[]
 |e::es=>xk e::exprRs es
end
theorem zc8: ∀l:List Ex,exprRs l=l.map xk
 | []=>rfl
 |e::es=>by simp only[exprRs,uH,zc8 es]
def v8(l:List Ex):PV:= .sl 4 (l.map xk)
def za8(e:Ex):xk e=[ki e.op,ki e.n,ks e.s,v8 e.l]:=by
 cases e;simp only[xk,zc8,Ex.op,Ex.n,Ex.s,Ex.l,v8]
mutual
def zco:Sm->List PV
 | .mk op s e l els=>[ki op,ks s,v8 e,.sl 5 (stmtRs l),.sl 5 (stmtRs els)]
def stmtRs:List Sm->List (List PV)
 | []=>[]
 |e::es=>zco e::stmtRs es
end
theorem zc9: ∀l:List Sm,stmtRs l=l.map zco
 | []=>rfl
 |e::es=>by simp only[stmtRs,uH,zc9 es]
def yw(l:List Sm):PV:= .sl 5 (l.map zco)
def zdd(e:Sm):zco e=[ki e.op,ks e.s,v8 e.e,yw e.l,yw e.els]:=by
 cases e;simp only[zco,zc9,Sm.op,Sm.s,Sm.e,Sm.l,Sm.els,yw]
def yg(e:Ex):List PV:=[ki e.op,ki e.n,ks e.s,v8 e.l]
def zgp(s:Sm):List PV:=[ki s.op,ks s.s,v8 s.e,yw s.l,yw s.els]
def zD(p:Pr):List PV:=[ks p.n,zw p.params,ks p.res,zw p.locs,yw p.body]
def yA(m:Ms):List PV:=ks m.n::ks m.t::ki m.z::yg m.x
def zp0(m:Iv):List PV:=ks m.n::ks m.t::yg m.x
def zht(m:Pt):List PV:=ks m.t::yg m.x
def xZ(m:Bd):List PV:=ks m.p::yg m.x
def zr(d:zf):List PV:=[ks d.n,.sl 2 (d.types.map zR),zw d.globals,.sl 5 (d.procs.map zD),.sl 7 (d.measures.map yA),.sl 6 (d.invs.map zp0),.sl 5 (d.pots.map zht),.sl 5 (d.bounds.map xZ)]
def wy(n:Nd):List PV:=[ki n.t,yx n.f]
def zh8(l:List Nd):PV:= .sl 2 (l.map wy)
def yp(m:Hp):List PV:=[yx m.g,zh8 m.n]
abbrev zn(r:List PV):S:= .agg (r.map V.p)
abbrev pS(x:PV):S:= .one (.p x)
variable {α:Type}{f:α->List PV}{i:Nat}{x:α}
def zl{l:List α}(h:l[i]?=some x):(l.map f)[((i:Nat):Int).toNat]?=some (f x):=by simp[h]
def wI{l:List α}(h:l[0]?=some x):(l.map f)[(0:Int).toNat]?=some (f x):=by simp[h]
def yQ{l:List α}{i:Int}(h:l[i.toNat]?=some x):(l.map f)[i.toNat]?=some (f x):=by simp[h]
def xU{l:List Ex}{x:Ex}(h:l[i]?=some x):(l.map xk)[((i:Nat):Int).toNat]?=some (yg x):=by simp[h,za8,yg]
def jF{l:List Sm}{x:Sm}(h:l[i]?=some x):(l.map zco)[((i:Nat):Int).toNat]?=some (zgp x):=by simp[h,zdd,zgp]
def za{l:List α}(h:i<l.length): ∃x,l[i]?=some x:=⟨l[i],th h⟩
def wrap64{n:Int}(h: -9223372036854775808<=n/\n<=9223372036854775807):IntKind.i64.wrap n=n:=Go.IntWalk.i64_in _ h
variable {p:α->Bool}
def xG{l:List α}(h:l[i]?=some x):(l.take (i+1)).all p=((l.take i).all p&&p x):=by
 rw[qV,h];simp
def zac{l:List α}(h:l[i]?=some x)(hp:p x=false):l.all p=false:=by
 grind
def vZ{l:List α}(h:l.length<=i)(J:(l.take i).all p=true):l.all p=true:=by
 rw[u0 h]at J;exact J
def zdt{l:List α}(h:l[i]?=some x):(l.take (i+1)).any p=((l.take i).any p||p x):=by
 rw[qV,h];simp
def zf2{l:List α}(h:l[i]?=some x)(hp:p x=true):l.any p=true:=by
 grind
def zrA{l:List α}(h:l.length<=i)(J:(l.take i).any p=false):l.any p=false:=by
 rw[u0 h]at J;exact J
def idxOf{α:Type}(p:α->Bool):List α->Int
 | []=> -1
 |x::xs=>if p x then 0 else match idxOf p xs with| .ofNat n=> .ofNat (n+1)| .negSucc n=> .negSucc n
theorem zhT{α:Type}{p:α->Bool}: ∀ {l:List α} {i:Nat} {x:α},l[i]?=some x->p x=true->(l.take i).any p=false->idxOf p l=i
 | [],i,x,h,_,_=>by simp at h
 |y::ys,0,x,h,hp,_=>by simp at h;subst h;simp[idxOf,hp]
 |y::ys,i+1,x,h,hp,hn=>by
  simp at h;simp only[tW,qp,uT]at hn;have:=zhT h hp hn.2;simp only[idxOf,hn.1,uB,uN,this];rfl
theorem wi{α:Type}{p:α->Bool}: ∀ {l:List α},idxOf p l= -1\/ ∃i x,idxOf p l=(i:Nat)/\l[i]?=some x/\p x=true/\(l.take i).any p=false
 | []=> .inl rfl
 |y::ys=>by
  by_cases h:p y=true
  ·exact .inr ⟨0,y,by simp[idxOf,h],rfl,h,ue⟩
  ·rcases wi (p:=p) (l:=ys)with J|⟨i,x,J,h2,h3,h4⟩
   ·left;simp only[idxOf,h,J];rfl
   ·right;refine⟨i+1,x,?_,by simpa using h2,h3,?_⟩
    ·simp only[idxOf,h,J];rfl
    simp_all
end Hw.M
namespace Hw
open Go
variable {C:Ctx}{P:Program}{Q:Exit->St->Prop}{i:Nat}{sl':zb}{tab tab':Tab}{w:World}
section
variable {k:List Frm} {n:Nat} {sl:zb}
theorem zpS{X X':Exit->St->Prop}(h: ∀ {e a w},lift C X e a w->lift C X' e a w){e:Exit}{a:Act}(hl:lift C (blockQ i X) e a w):lift C (blockQ i X') e a w:=by
 obtain⟨st,M,ρ,hq,hH⟩:=hl;cases e with
 |exit j=>
  simp only[blockQ]at hq;cases hb:Nat.beq j i with
  |true=>
   rw[hb]at hq;obtain⟨st',M',ρ',J,U⟩:=h (e:= .normal) ⟨st,M,ρ,hq,hH⟩;exact⟨st',M',ρ',by simp only[blockQ,hb];exact J,U⟩
  |false=>
   rw[hb]at hq;obtain⟨st',M',ρ',J,U⟩:=h (e:= .exit j) ⟨st,M,ρ,hq,hH⟩;exact⟨st',M',ρ',by simp only[blockQ,hb];exact J,U⟩
 |_=>exact h ⟨st,M,ρ,hq,hH⟩
def zwx(sl':zb)(tab':Tab)(n:Nat)(Q:Exit->St->Prop):Exit->St->Prop
 | .normal,st=> ∃σ:Nat->Nat,Matches σ st ⟨n,sl',tab'⟩
 |e,st=>Q e st
def y3(σ:Nat->Nat)(J:Matches σ ⟨n,sl,tab⟩ ⟨n,sl',tab'⟩):Goal P C (.fin .normal) [] n sl tab (zwx sl' tab' n Q):=zK ⟨σ,J⟩
theorem zfM{c2:Code}(hC:C.low)(h2:Goal P C (.code c2) k n sl' tab' Q){e:Exit}{a:Act}(hl:lift C (zwx sl' tab' n (unw P C k Q)) e a w):lift C (zpD P C c2 (unw P C k Q)) e a w:=by
 obtain⟨st,M',ρ',U,J⟩:=hl;cases e with
 |normal=>
  obtain⟨σ,hm⟩:=U;exact⟨⟨n,sl',tab'⟩,M',_,h2,J.matches hC hm⟩
 |_=>exact⟨st,M',ρ',U,J⟩
def zuA(sl':zb)(tab':Tab){c c2:Code}(hC:C.low)(J:Goal P C (.code c) [] n sl tab (zwx sl' tab' n (unw P C k Q)))(h2:Goal P C (.code c2) k n sl' tab' Q):
 Goal P C (.code c) (.seq c2::k) n sl tab Q:=
 λM ρ a w U=>wp_mono (J M ρ a w U) λ_ _ _ hl=>zfM hC h2 hl
def jQ(sl':zb)(tab':Tab){c c2:Code}(hC:C.low)(U:Goal P C (.code c) [.blk i] n sl tab (zwx sl' tab' n (unw P C k Q)))(h2:Goal P C (.code c2) k n sl' tab' Q):
 Goal P C (.code c) (.blk i:: .seq c2::k) n sl tab Q:=
 λM ρ a w hH=>wp_mono (U M ρ a w hH) λ_ _ _ J=>zpS (λJ=>zfM hC h2 J) J
end
variable {af:Array Edge}{g:Option (Nat×Bool)}{ps:String}{t t':TypeId}{x y:Operand}
section
variable {d:Option Nat} {ty:TypeId}
def zxL{k k':IntKind}{n m:Int}(J:0<=m)(U:m<=k.bits)(hx:okc x (Kk k n))(hy:okc y (Kk k' m)):
 Snd P ⟨d,.binOp .shr t x y t',ty,ps,af,g⟩ (rq x (Kk k n)++rq y (Kk k' m)) [] [] (Kk k (n / 2 ^ m.toNat)) []:=
 ziL hx hy rfl λw=>⟨by rw[eqGuard_shr];rfl,by rw[binOp_shr,shift_shr k k' n m J U];rfl⟩
end
theorem LeS.un(s:S):LeS s .un:=λ_ _ _ _=>by simp only[RepS]
variable {all:Array Oper}{d:Nat}{g0:Option (Nat×Bool)}{gs:zb}{md:Mode}{rest:List Oper}
section
variable {k:List Frm} {n:Nat} {sl:zb}
def zw6{ty:TypeId}(hC:C.low){k0 k1:IntKind}{a m:Int}
 (J:ev sl x=some (Kk k0 a)) (U:ev sl y=some (Kk k1 m)) (h0:0<=m) (h1:m<=k0.bits) (hm:metL all sl g0=some gs) (hd:Nat.blt d n=true)
 (g:Goal P C (.ops all rest (nx md ⟨some d,gs++(rq x (Kk k0 a)++rq y (Kk k1 m)),[],[],Kk k0 (a / 2 ^ m.toNat),[]⟩)) k n ((d,Kk k0 (a / 2 ^ m.toNat))::sl) tab Q):
 Goal P C (.ops all (⟨some d,.binOp .shr t x y t',ty,ps,af,g0⟩::rest) md) k n sl tab Q:=
 gDo hC hm (zxL (t:=t) (t':=t') h0 h1 (ev1 J) (ev1 U)) (okA (ev2 J) (ev2 U)) trivial rfl hd g
end
def GOn(w:World):Prop:= ∀b o v,G0 b o=some v->w.cell? ⟨b,o,none⟩=some v
variable {el:TypeId}{f:FuncId}
theorem zrM{s:ByteArray}{l:List ByteArray}(hc:ju P f)(hl:l.length<=9223372036854775807)
 (h: ∀w:World,GOn w->Calls P f #[.string s] w λe w'=>e= .returned (.slice (some ⟨w.heap.size,0,none⟩) l.length l.length)/\w'=w.alloc (.cells (l.map Value.string).toArray el)):
 zh P f [Sr s] [] (.one (.p (.sl 1 (l.map λx=>[PV.k (.string x)])))) []:=by
 refine⟨hc,λM ρ w xs J hT hI hG=>?_⟩
 match xs,J with
 | [x],J=>
   simp only[RepSs,RepS,RepV,RepPV]at J;obtain⟨⟨rfl,_⟩,_⟩:=J;refine(h w λb o v hv=>hI b o v (hG.le b o v hv)).mono λe w' ⟨he,hw⟩=>?_;subst he;subst hw
   have key: ∀(M':Mem) (l:List ByteArray),RepVs M' ρ ((l.map λx=>[PV.k (.string x)]).flatten.map V.p) (l.map Value.string):=λM' l=>by
    induction l with
    |nil=>simp[RepVs]
    |cons a l ih=>simp only[uH,tR,qP,RepVs,RepV,RepPV];exact⟨⟨uh,rfl⟩,ih⟩
   have mlt: ∀b o u,M b o=some u->b<w.heap.size:=λb o u U=>jC (hI b o u U)
   refine⟨_,zjV M w.heap.size (l.map Value.string),ρ,rfl,?_⟩;refine⟨?_,⟨λ_ _ h=>(by cases h),λ_ _ _ _ _ h=>(by cases h),λ_ _ _ h=>(by cases h)⟩,λb o v hv=>?_,zhf hI,λb o u U=>?_,λb hb=>?_,λb hb _=>z1 w _ b hb,ue,rfl,rfl,rfl,λid hid=>rfl⟩
   ·simp only[RepS,RepV,RepPV];refine⟨some ⟨w.heap.size,0,none⟩,l.length,by rw[uj],by rw[uj];exact uM _,by rw[uj];exact hl,.inr ⟨w.heap.size,0,rfl,?_⟩⟩;refine RowsIn.yb (ρ:=ρ) (cs:=l.map Value.string) (λr hr=>?_) ?_ (λj c hc=>?_)
    ·simp only[tO]at hr;obtain⟨_,_,rfl⟩:=hr;rfl
    ·exact key _ l
    ·simp only[zjV,uW,tJ];exact hc
   ·simp only[zjV]at hv;split at hv
    ·rename_i e;subst e;simp only[World.cell?,zJ];simpa using hv
    ·rw[cell_of_heap (z1 w _ b (mlt b o v hv))];exact hI b o v hv
   ·simp only[zjV]at U;split at U
    ·rename_i e;subst e;exact .inr (.inl (uM _))
    ·exact .inl U
   ·obtain⟨i,r,h1,_⟩:=hb;cases h1
 | [],J=>simp[RepSs]at J
 |_::_::_,J=>simp[RepSs]at J
variable {ts:Array TypeId}
section
variable {k:List Frm} {n:Nat} {sl:zb}
def nm(l:List Nat)(i:Nat):Nat:=(l[i]?).getD i
abbrev ic:=nm [0,1,2]
abbrev ie:=nm [0,1,2,3,4,1003,1004,1005]
abbrev ig:=nm [0,1,2,3,4,5,6,107,108,109]
abbrev il:=nm [100,101,102]
abbrev im:=nm [0,1,107,108,109,5,6,117,118,119]
abbrev iq:=nm [0,1,2,3]
abbrev ir:=nm [0,1,2,3,4]
abbrev iu:=nm [0,1,2,103]
abbrev iw:=nm [0]
abbrev iy:=nm [1003]
abbrev iz:=nm [0,1,2,3,4,5,6,117,118,119]
abbrev iA:=nm [0,1,2,103,104,105]
abbrev iB:=nm [1005]
abbrev iC:=nm [1004]
abbrev iD:=nm [1006]
abbrev iE:=nm [140]
abbrev iG:=nm [100,101,102,103]
abbrev iH:=nm [0,1,2,3,4,5,6]
abbrev iI:=nm [141]
abbrev iJ:=nm [0,1,117,118,119,5,6,127,128,129]
abbrev iK:=nm [0,1,2,3,4,5,6,7]
abbrev iL:=nm [0,1,2,11,12,10]
abbrev iM:=nm [5,6,7]
abbrev iN:=nm [0,1,2,3,4,5,6,2,3,4]
abbrev iO:=nm [0,1,2,3,4,5,6,127,128,129]
abbrev iP:=nm [0,1,2,12,13]
abbrev iQ:=nm [0,1,107,108,109,5,6,7,8,119]
abbrev iR:=nm [0,1,117,118,119,5,6]
abbrev iS:=nm [0,1,2,3,4,1030,142,107,108,109]
abbrev iT:=nm [54,1,2,3,55,5,6,107,108,109]
abbrev iU:=nm [54,1,107,108,109,53,52]
abbrev iV:=nm [54,1,2,3,4,5,6,107,108,109]
abbrev iW:=nm [100,101,102,103,104,105]
abbrev iX:=nm [100,101,102,103,104,105,106,107,108,109]
def wW{d:Option Nat}{l:List Operand}{ty:TypeId}(hC:C.low){args ss:List S}{first caps:List V}{res:S}{R R':RL}
 (h:zh P f args R res R') (σ:Nat->Nat) (hx:ev sl x=some (.one (.cl f first caps))) (hl:evs sl l=some ss) (ha:yG (ones first++ss++ones caps) (Ss.ren σ args)) (hi:injB σ R.ids=true) (J:injB σ R'.ids=true)
 (hc:cloS (R.ids++R'.ids) res=true) (U:yM (R.ids++R'.ids) R'=true) (hT:rdT tab (R.ren σ)=R.ren σ) (hfr:allB (λid=>Nat.ble 100 id&&freshB id ⟨n,sl,tab⟩) ((zC R R').map σ)=true) (hm:metL all sl g0=some gs) (hd:dok d n=true)
 (g:Goal P C (.ops all rest (nx md ⟨d,gs++(rq x (.one (.cl f first caps))++rqs l ss),R.ren σ,(zC R R').map σ,res.ren σ,tb (R'.ren σ)++yF (R.ids.map σ)⟩)) k n (app d (res.ren σ) (tb (R'.ren σ)++yF (R.ids.map σ)) ⟨n,sl,tab⟩).sl ((tb (R'.ren σ)++yF (R.ids.map σ))++tab) Q):
 Goal P C (.ops all (⟨d,.call ⟨.value x,l.toArray,ts⟩,ty,ps,af,g0⟩::rest) md) k n sl tab Q:=
 gDo hC hm (zhm h σ (ev1 hx) (es1 hl) ha hi J hc U) (okA (ev2 hx) (es2 hl)) (wM hT) hfr hd g
end
variable {b:Bool}{c:Nat}
section
variable {k:List Frm} {n:Nat} {sl:zb}
def zdE{x y:Code}(hc:sg sl c=some (.bq b))(ht:b=true->Goal P C (.code x) k n ((c,Bo true)::sl) tab Q)(hf:b=false->Goal P C (.code y) k n ((c,Bo false)::sl) tab Q):
 Goal P C (.code (.cond (.tmp c) x y)) k n sl tab Q:=by
 have key: ∀M ρ a w,Holds C ⟨n,sl,tab⟩ M ρ a w->Holds C ⟨n,(c,Bo b)::sl,tab⟩ M ρ a w:=λM ρ a w h=>h.zr8 rfl rfl λj u J=>by
  rw[yk]at J;split at J
  ·rename_i e;subst e;simp only[ui]at J;subst J;exact LeS.bq rfl _ _ _ (h.slots _ _ hc)
  ·exact h.slots _ _ J
 refine λM ρ a w U=>ziH (st:=⟨n,(c,Bo b)::sl,tab⟩) (b:=b) (by simp only[ev];exact zaM _ _ _) (λh=>?_) (λh=>?_) M ρ a w (key M ρ a w U)
 ·exact λM ρ a w U=>ht h M ρ a w (by simp_all)
 ·exact λM ρ a w U=>hf h M ρ a w (by simp_all)
end
def zgt(x y:Int):Int:=if y>x then y else x
section
variable {d:Option Nat} {ty:TypeId} {x1 x2 x3 x4:Operand}
def zwb{aZ:Array TypeId}{a b c e:Int}(U:okc x1 (I a))(h2:okc x2 (I b))(h3:okc x3 (I c))(h4:okc x4 (I e)):
 Snd P ⟨d,.call ⟨.builtin .max,#[x1,x2,x3,x4],aZ⟩,ty,ps,af,g⟩ (rq x1 (I a)++(rq x2 (I b)++(rq x3 (I c)++rq x4 (I e)))) [] [] (I (zgt (zgt (zgt a b) c) e)) []:=
 zi λC st M ρ act w J h _=>by
  rw[ze,ze,ze]at h;have e1:=J.k (zq U h.1);have e2:=J.k (zq h2 h.2.1);have e3:=J.k (zq h3 h.2.2.1);have e4:=J.k (zq h4 h.2.2.2);exact⟨_,by simp[execOp,resolve,invoke,builtin,Builtin.max_,Builtin.max2,e1,e2,e3,e4,zgt],zjP _ _⟩
end
section
variable {k:List Frm} {n:Nat} {sl:zb}
def zuD{x1 x2 x3 x4:Operand}{ty:TypeId}(hC:C.low){a b c e:Int}
 (J:ev sl x1=some (I a)) (h2:ev sl x2=some (I b)) (h3:ev sl x3=some (I c)) (h4:ev sl x4=some (I e)) (U:metL all sl g0=some gs) (hd:Nat.blt d n=true)
 (g:Goal P C (.ops all rest (nx md ⟨some d,gs++(rq x1 (I a)++(rq x2 (I b)++(rq x3 (I c)++rq x4 (I e)))),[],[],I (zgt (zgt (zgt a b) c) e),[]⟩)) k n ((d,I (zgt (zgt (zgt a b) c) e))::sl) tab Q):
 Goal P C (.ops all (⟨some d,.call ⟨.builtin .max,#[x1,x2,x3,x4],ts⟩,ty,ps,af,g0⟩::rest) md) k n sl tab Q:=
 gDo hC U (zwb (aZ:=ts) (ev1 J) (ev1 h2) (ev1 h3) (ev1 h4)) (okA (ev2 J) (okA (ev2 h2) (okA (ev2 h3) (ev2 h4)))) trivial rfl hd g
end
variable {K:Type}{k0:K}{pv:PV}
section
variable {k:List Frm} {n:Nat} {sl:zb}
def zeY[DecidableEq K](κ:wZ K){kt et ty:TypeId}(hC:C.low){id:Nat}{l:List (K×PV)}{c0:Value}
 (U:ev sl x=some (.one (.mp id))) (hy:ev sl y=some (.one (.p (.k (κ.enc k0))))) (hT:tg tab id=some (.map (yT κ l))) (hu:P.underlying t=some (.map kt et)) (J:P.underlying kt=some κ.d) (hz:(P.info? et).bind (·.zero)=some c0) (h0:c0.oneCell'=true)
 (hv:(getK l k0).getD (.k c0)=pv) (hs:(getK l k0).isSome=b) (hm:metL all sl g0=some gs) (hd:Nat.blt d n=true)
 (g:Goal P C (.ops all rest (nx md ⟨some d,gs++(rq x (.one (.mp id))++rq y (.one (.p (.k (κ.enc k0))))),[(id,.map (yT κ l))],[],.tup [.one (.p pv),.bq b],[]⟩)) k n ((d,.tup [.one (.p pv),.bq b])::sl) tab Q):
 Goal P C (.ops all (⟨some d,.lookup t x y true,ty,ps,af,g0⟩::rest) md) k n sl tab Q:=by
 subst hv;subst hs;exact gDo hC hm (ziJ (ok:=true) (l:=l) (ev1 U) (ev1 hy) hu J hz h0) (okA (ev2 U) (ev2 hy)) ⟨hT,uh⟩ rfl hd g
def ze1[DecidableEq K](κ:wZ K){kt et ty:TypeId}(hC:C.low){id:Nat}{l:List (K×PV)}{c0:Value}
 (U:ev sl x=some (.one (.mp id))) (hy:ev sl y=some (.one (.p (.k (κ.enc k0))))) (hT:tg tab id=some (.map (yT κ l))) (hu:P.underlying t=some (.map kt et)) (J:P.underlying kt=some κ.d) (hz:(P.info? et).bind (·.zero)=some c0) (h0:c0.oneCell'=true)
 (hv:(getK l k0).getD (.k c0)=pv) (hm:metL all sl g0=some gs) (hd:Nat.blt d n=true)
 (g:Goal P C (.ops all rest (nx md ⟨some d,gs++(rq x (.one (.mp id))++rq y (.one (.p (.k (κ.enc k0))))),[(id,.map (yT κ l))],[],.one (.p pv),[]⟩)) k n ((d,.one (.p pv))::sl) tab Q):
 Goal P C (.ops all (⟨some d,.lookup t x y false,ty,ps,af,g0⟩::rest) md) k n sl tab Q:=by
 subst hv;exact gDo hC hm (ziJ (ok:=false) (l:=l) (ev1 U) (ev1 hy) hu J hz h0) (okA (ev2 U) (ev2 hy)) ⟨hT,uh⟩ rfl hd g
def zhU[DecidableEq K](κ:wZ K){u:Operand}{kt et ty:TypeId}(hC:C.low){id:Nat}{l l':List (K×PV)}
 (U:ev sl x=some (.one (.mp id))) (hy:ev sl y=some (.one (.p (.k (κ.enc k0))))) (hw:ev sl u=some (.one (.p pv))) (hT:tg tab id=some (.map (yT κ l))) (hu:P.underlying t=some (.map kt et)) (J:P.underlying kt=some κ.d)
 (hv:putK l k0 pv=l') (hm:metL all sl g0=some gs)
 (g:Goal P C (.ops all rest (nx md ⟨none,gs++(rq x (.one (.mp id))++rq y (.one (.p (.k (κ.enc k0))))++rq u (.one (.p pv))),[(id,.map (yT κ l))],[],.un,[(id,some (.map (yT κ l')))]⟩)) k n sl ((id,some (.map (yT κ l')))::tab) Q):
 Goal P C (.ops all (⟨none,.mapUpdate t x y u,ty,ps,af,g0⟩::rest) md) k n sl tab Q:=by
 subst hv;exact gDo hC hm (zhg (l:=l) (ev1 U) (ev1 hy) (ev1 hw) hu J) (okA (okA (ev2 U) (ev2 hy)) (ev2 hw)) ⟨hT,uh⟩ rfl rfl g
def ze0[DecidableEq K](κ:wZ K){ty:TypeId}(hC:C.low)
 (J:metL all sl g0=some gs) (U:Nat.blt d n=true) (hf:freshB (1000+d) ⟨n,sl,tab⟩=true)
 (g:Goal P C (.ops all rest (nx md ⟨some d,gs,[],[1000+d],.one (.mp (1000+d)),[(1000+d,some (.map (yT κ [])))]⟩)) k n ((d,.one (.mp (1000+d)))::sl) ((1000+d,some (.map (yT κ [])))::tab) Q):
 Goal P C (.ops all (⟨some d,.makeMap t none,ty,ps,af,g0⟩::rest) md) k n sl tab Q:=by
 have:=w8 J (znx (P:=P) (ty:=ty) (ps:=ps) (af:=af) (g:=g0) (d:=some d) (t:=t) (id:=1000+d)) (n:=n) (tab:=tab);simp only[uV]at this;refine zbF (L:=⟨some d,gs,[],[1000+d],.one (.mp (1000+d)),[(1000+d,some (.map (yT κ [])))]⟩) hC this.1 rfl ⟨this.2,trivial,?_,U⟩ g;simp only[allB,hf,qj];rw[Nat.ble_eq];omega
def zhV{kt et ty:TypeId}(hC:C.low){id:Nat}{es:List (PV×PV)}
 (J:ev sl x=some (.one (.mp id))) (hT:tg tab id=some (.map es)) (U:P.underlying t=some (.map kt et)) (hm:metL all sl g0=some gs) (hd:Nat.blt d n=true)
 (g:Goal P C (.ops all rest (nx md ⟨some d,gs++rq x (.one (.mp id)),[(id,.map es)],[],Bo false,[]⟩)) k n ((d,Bo false)::sl) tab Q):
 Goal P C (.ops all (⟨some d,.binOp .eql t x (.const (.map none)) t',ty,ps,af,g0⟩::rest) md) k n sl tab Q:=
 gDo hC hm (zpR (t':=t') (r:= .map es) (ev1 J) U ⟨es,rfl⟩) (ev2 J) ⟨hT,uh⟩ rfl hd g
def ze3{kt et ty:TypeId}(hC:C.low)
 (J:ev sl x=some (.one (.p (.k (.map none))))) (U:P.underlying t=some (.map kt et)) (hm:metL all sl g0=some gs) (hd:Nat.blt d n=true)
 (g:Goal P C (.ops all rest (nx md ⟨some d,gs++rq x (.one (.p (.k (.map none)))),[],[],Bo true,[]⟩)) k n ((d,Bo true)::sl) tab Q):
 Goal P C (.ops all (⟨some d,.binOp .eql t x (.const (.map none)) t',ty,ps,af,g0⟩::rest) md) k n sl tab Q:=
 gDo hC hm (zny (t':=t') (ev1 J) U) (ev2 J) trivial rfl hd g
end
theorem zdG{K:Type}[DecidableEq K]: ∀ {l:List (K×PV)} {k:K} {v:PV},getK l k=none->putK l k v=l++[(k,v)]
 | [],_,_,_=>rfl
 |(a,b)::r,k,v,h=>by
  simp only[getK]at h;by_cases e:a=k
  ·simp_all
  ·rw[ur e]at h;simp only[putK,ur e,zdG h,uK]
def run_equalIn_bool(w:World)(d:Nat)(t:TypeId)(a b:Bool)(h:P.underlying t=some .bool):(Op.equalIn (d+1) t (.bool a) (.bool b)).run P w= .ok (a==b) w:=by
 simp[Op.equalIn,run_underlying h]
variable {z:List V}
section
variable {d:Option Nat} {ty:TypeId}
def zwc{id e:Nat}(he:elemSz P t=some (el,e))(hz:zeroV P el=some z):
 Snd P ⟨d,.buildSlice t 0 #[],ty,ps,af,g⟩ [] [] [id] (.one (.ar id)) [(id,some (.arr e []))]:=by
 intro C st M ρ a w hH h1 hT hF hd k Q hk;obtain⟨ii,hu,J,hsz⟩:=zp he;obtain⟨i',zv,U,hzv,hzs⟩:=y5 hz;rw[J]at U;simp only[ui]at U;subst U
 have hrun:(execOp a.eval ⟨d,.buildSlice t 0 #[],ty,ps,af,g⟩).run P w= .ok (.value (.slice (some ⟨w.heap.size,0,none⟩) 0 0)) (w.alloc (.cells #[] el)):=by
  simp[execOp,Instr.buildSlice,run_underlying hu,run_sizeOf J,hsz,newRow,Instr.fill,Result.andThen]
  congr 2
  apply Array.ext<;>simp
 unfold Oper.wp;rw[hrun,Oper.upon_value]
 refine hk _ _ M _ (hH.alloc (val:= .slice (some ⟨w.heap.size,0,none⟩) 0 0) (λb hb=>by simp only[Bk,blk,ui]at hb;exact hb.symm) hF.1
  ⟨some ⟨w.heap.size,0,none⟩,0,zo _ _ _,uM _,ue,.inr ⟨w.heap.size,0,#[],el,(0,0),rfl,zJ w _,λi hi=>by simp at hi,ue,by simp[RowsIn]⟩⟩ (by simp only[RepS,RepV];exact⟨(zo _ _ _).symm,rfl⟩) hd)
end
variable {rows:List (List PV)}
section
variable {k:List Frm} {n:Nat} {sl:zb}
def vU{id:Nat}(h:(Nat.ble 100 id&&freshB id ⟨n,sl,tab⟩)=true):allB (λid=>Nat.ble 100 id&&freshB id ⟨n,sl,tab⟩) [id]=true:=by
 simp only[allB,h,qj]
def zlo(T:Ty P){ty:TypeId}{e:Nat}(hC:C.low)
 (J:T.es t=some (el,e)) (U:T.zs el=some z) (hm:metL all sl g0=some gs) (hd:Nat.blt d n=true) (hf:(Nat.ble 100 (1000+d)&&freshB (1000+d) ⟨n,sl,tab⟩)=true)
 (g:Goal P C (.ops all rest (nx md ⟨some d,gs,[],[1000+d],.one (.ar (1000+d)),[(1000+d,some (.arr e []))]⟩)) k n ((d,.one (.ar (1000+d)))::sl) ((1000+d,some (.arr e []))::tab) Q):
 Goal P C (.ops all (⟨some d,.buildSlice t 0 #[],ty,ps,af,g0⟩::rest) md) k n sl tab Q:=by
 have:=w8 hm (zwc (P:=P) (ty:=ty) (ps:=ps) (af:=af) (g:=g0) (d:=some d) (id:=1000+d) (T.es_ok _ _ J) (T.zs_ok _ _ U)) (n:=n) (tab:=tab);simp only[uV]at this;exact zbF (L:=⟨some d,gs,[],[1000+d],.one (.ar (1000+d)),[(1000+d,some (.arr e []))]⟩) hC this.1 rfl ⟨this.2,trivial,vU hf,hd⟩ g
def zho(T:Ty P)(id':Nat){tx ty:TypeId}(hC:C.low){id e bytes:Nat}{rows2 rows3:List (List PV)}{sy:S}{rt2:RL}
 (hx:ev sl x=some (.one (.ar id))) (hy:ev sl y=some sy) (hT:tg tab id=some (.arr e rows)) (U:rdT tab rt2=rt2) (hs:zat P e tx sy rt2 rows2) (hr:rows++rows2=rows3) (he:T.es t=some (el,e)) (hz:T.zs el=some z) (hzl:Nat.beq z.length e=true) (hby:(P.info? el).map (·.bytes)=some bytes)
 (hb:(rows.length+rows2.length)*bytes<=140737488355328) (J:rows.length+rows2.length<=9223372036854775807) (hm:metL all sl g0=some gs) (hd:Nat.blt d n=true) (hf:(Nat.ble 100 id'&&freshB id' ⟨n,sl,tab⟩)=true)
 (g:Goal P C (.ops all rest (nx md ⟨some d,gs++(rq x (.one (.ar id))++rq y sy),(id,.arr e rows)::rt2,[id'],.one (.ar id'),[(id',some (.arr e rows3)),(id,none)]⟩)) k n ((d,.one (.ar id'))::sl) ([(id',some (.arr e rows3)),(id,none)]++tab) Q):
 Goal P C (.ops all (⟨some d,.call ⟨.builtin .append,#[x,y],#[t,tx]⟩,ty,ps,af,g0⟩::rest) md) k n sl tab Q:=by
 subst hr;exact gDo hC hm (zit (id':=id') (ev1 hx) (ev1 hy) hs (T.es_ok _ _ he) (T.zs_ok _ _ hz) (uA hzl) hby hb J) (okA (ev2 hx) (ev2 hy)) ⟨hT,wM U⟩ (vU hf) hd g
def jz(T:Ty P){ty:TypeId}(hC:C.low){id e:Nat}{k0:IntKind}{i:Int}
 (J:ev sl x=some (.one (.ar id))) (U:ev sl y=some (Kk k0 i)) (hT:tg tab id=some (.arr e rows)) (he:T.es t=some (el,e)) (h0:0<=i) (hi:i<rows.length) (hm:metL all sl g0=some gs) (hd:Nat.blt d n=true)
 (g:Goal P C (.ops all rest (nx md ⟨some d,gs++(rq x (.one (.ar id))++rq y (Kk k0 i)),[(id,.arr e rows)],[],.one (.el id (i.toNat*e)),[]⟩)) k n ((d,.one (.el id (i.toNat*e)))::sl) tab Q):
 Goal P C (.ops all (⟨some d,.indexAddr t x y,ty,ps,af,g0⟩::rest) md) k n sl tab Q:=
 gDo hC hm (zjG (ev1 J) (ev1 U) (T.es_ok _ _ he) h0 hi) (okA (ev2 J) (ev2 U)) ⟨hT,uh⟩ rfl hd g
def jd(T:Ty P){ty:TypeId}(hC:C.low){id kk e:Nat}(i j:Nat){row:List PV}{s:Option Nat}{v:S}
 (hx:ev sl x=some (.one (.el id kk))) (hT:tg tab id=some (.arr e rows)) (J:T.sh t=some s) (U:kk=i*e+j) (hi:rows[i]?=some row) (hv:ofCells s ((row.drop j).map V.p)=some v) (hm:metL all sl g0=some gs) (hd:Nat.blt d n=true)
 (g:Goal P C (.ops all rest (nx md ⟨some d,gs++rq x (.one (.el id kk)),[(id,.arr e rows)],[],v,[]⟩)) k n ((d,v)::sl) tab Q):
 Goal P C (.ops all (⟨some d,.load t x,ty,ps,af,g0⟩::rest) md) k n sl tab Q:=
 gDo hC hm (znl (ev1 hx) (T.sh_ok _ _ J) U hi hv) (ev2 hx) ⟨hT,uh⟩ rfl hd g
def zdM(T:Ty P){ty:TypeId}(hC:C.low){id kk e:Nat}(i j:Nat){rows':List (List PV)}{row us:List PV}{s:S}{sh:Option Nat}
 (hx:ev sl x=some (.one (.el id kk))) (hy:ev sl y=some s) (hT:tg tab id=some (.arr e rows)) (J:T.sh t=some sh) (hc:cellsOf s=some (us.map V.p)) (hl:us.length=sh.getD 1) (U:kk=i*e+j) (hi:rows[i]?=some row) (hb:j+us.length<=e)
 (hr:rows.set i (setAt row j us)=rows') (hm:metL all sl g0=some gs)
 (g:Goal P C (.ops all rest (nx md ⟨none,gs++(rq x (.one (.el id kk))++rq y s),[(id,.arr e rows)],[],.un,[(id,some (.arr e rows'))]⟩)) k n sl ((id,some (.arr e rows'))::tab) Q):
 Goal P C (.ops all (⟨none,.store t x y,ty,ps,af,g0⟩::rest) md) k n sl tab Q:=by
 subst hr;exact gDo hC hm (zjI (ev1 hx) (ev1 hy) (T.sh_ok _ _ J) hc hl U hi hb) (okA (ev2 hx) (ev2 hy)) ⟨hT,uh⟩ rfl rfl g
end
theorem y9{M:Mem}{ρ:Nat->Value}: ∀ {vs:List V} {cs:List Value} {m:Nat} {v:V},RepVs M ρ vs cs->vs[m]?=some v-> ∃c,cs[m]?=some c/\RepV M ρ v c
 | [],_,m,_,_,h=>by simp at h
 |_::_,[],_,_,h,_=>by simp only[RepVs]at h
 |x::xs,c::cs,0,v,h,hv=>by
  simp only[RepVs]at h
  simp_all
 |x::xs,c::cs,m+1,v,h,hv=>by
  simp only[RepVs]at h;simp only[u6]at hv⊢;exact y9 h.2 hv
section
variable {d:Option Nat} {ty:TypeId}
def zpT{a:Bool}(hx:okc x (.bq a))(hy:okc y (.bq b))(hu:P.underlying t=some .bool):
 Snd P ⟨d,.binOp .eql t x y t',ty,ps,af,g⟩ (rq x (.bq a)++rq y (.bq b)) [] [] (.bq (decide (a=b))) []:=
 zi λC st M ρ act w U J _=>by
  rw[ze]at J;have e1:=U.evS (zq hx J.1);have e2:=U.evS (zq hy J.2);simp only[RepS]at e1 e2;have hg:(eqGuard .eql t x y (.bool a) (.bool b)).run P w= .ok () w:=by unfold eqGuard;split<;>rfl
  have hr:(binOp .eql t (.bool a) (.bool b)).run P w= .ok (.bool (decide (a=b))) w:=by
   have:binOp .eql t (.bool a) (.bool b)=(do pure (.bool (<-Op.equal t (.bool a) (.bool b)))):=rfl;rw[this]
   have he:(Op.equal t (.bool a) (.bool b)).run P w= .ok (a==b) w:=by
    exact run_equalIn_bool w 9999 t a b hu
   simp only[Sem.run_bind,he,Result.andThen_ok,Sem.run_pure];cases a<;>cases b<;>rfl
  exact⟨.bool (decide (a=b)),by simp only[execOp,e1,e2,Sem.run_bind,hg,hr,Result.andThen_ok,Sem.run_pure],by simp only[RepS]⟩
end
section
variable {k:List Frm} {n:Nat} {sl:zb}
def zak{ty:TypeId}(hC:C.low){a:Bool}
 (J:ev sl x=some (.bq a)) (U:ev sl y=some (.bq b)) (hu:P.underlying t=some .bool) (hm:metL all sl g0=some gs) (hd:Nat.blt d n=true)
 (g:Goal P C (.ops all rest (nx md ⟨some d,gs++(rq x (.bq a)++rq y (.bq b)),[],[],.bq (decide (a=b)),[]⟩)) k n ((d,.bq (decide (a=b)))::sl) tab Q):
 Goal P C (.ops all (⟨some d,.binOp .eql t x y t',ty,ps,af,g0⟩::rest) md) k n sl tab Q:=
 gDo hC hm (zpT (t':=t') (ev1 J) (ev1 U) hu) (okA (ev2 J) (ev2 U)) trivial rfl hd g
end
def xq(w:World):Mem:=λb o=>w.cell? ⟨b,o,none⟩
def znz(w:World):Imm (xq w) w:=λ_ _ _ h=>h
def CellsM(M:Mem):List PV->List Value->Prop
 | [],[]=>True
 |x::xs,c::cs=>RepPV M x c/\CellsM M xs cs
 |_,_=>False
theorem CellsM.app{M:Mem}: ∀ {r s:List PV} {c d:List Value},CellsM M r c->CellsM M s d->CellsM M (r++s) (c++d)
 | [],_,[],_,_,h=>h
 | [],_,_::_,_,h,_=>h.elim
 |_::_,_,[],_,h,_=>h.elim
 |_::_,_,_::_,_,h,k=>⟨h.1,CellsM.app h.2 k⟩
theorem CellsM.len{M:Mem}: ∀ {r:List PV} {c:List Value},CellsM M r c->r.length=c.length
 | [],[],_=>rfl
 | [],_::_,h=>h.elim
 |_::_,[],h=>h.elim
 |_::_,_::_,h=>by simp[CellsM.len h.2]
theorem CellsM.vs{M:Mem}{ρ:Nat->Value}: ∀ {r:List PV} {c:List Value},CellsM M r c->RepVs M ρ (r.map V.p) c
 | [],[],_=>by simp[RepVs]
 | [],_::_,h=>h.elim
 |_::_,[],h=>h.elim
 |_::_,_::_,h=>by
  simp only[uH,RepVs,RepV];exact⟨h.1,CellsM.vs h.2⟩
theorem CellsM.zwd{M:Mem}{g:Nat->Option Value}: ∀ {r:List PV} {c:List Value} {o:Nat},CellsM M r c->(∀i v,c[i]?=some v->g (o+i)=some v)->RowIn M g r o
 | [],_,_,_,_=>by simp[RowIn]
 |_::_,[],_,h,_=>h.elim
 |x::xs,c::cs,o,h,hg=>by
  simp only[RowIn];refine⟨⟨c,by simpa using hg 0 c ue,h.1⟩,CellsM.zwd h.2 λi v J=>?_⟩;have:=hg (i+1) v (by simpa using J)
  grind
variable {α:Type}{R:α->List PV}{a:Addr}{cs:List Value}
section
variable {H:Type} {enc:TypeId×Value->H} {base:Nat} {spare:Nat->Bool} {held:Bool}
def Rd(enc:TypeId×Value->H)(P:Program)(w:World)(base:Nat)(spare:Nat->Bool)(held:Bool)(n:Nat)(t:TypeId)(R:α->List PV):Prop:=
 ∀cs x,DataW.trod enc P w base spare held n t cs=some x-> ∃a:α,CellsM (xq w) (R a) cs
def zt1{n:Nat}{k:IntKind}(J:P.underlying t=some (.int k)):Rd enc P w base spare held n t (λi:Int=>[.k (.int k i)]):=by
 intro cs x h;obtain⟨i,rfl,_⟩:=DataW.trod_int J h;exact⟨i,⟨by simp[RepPV,Value.oneCell'],uh⟩⟩
def zpY{n:Nat}(J:P.underlying t=some .string):Rd enc P w base spare held n t (λs:ByteArray=>[.k (.string s)]):=by
 intro cs x h;obtain⟨i,rfl,_⟩:=DataW.trod_string J h;exact⟨i,⟨by simp[RepPV,Value.oneCell'],uh⟩⟩
def ziK{n:Nat}(h:w.cells? base a n=some cs):cs.length=n/\ ∀i v,cs[i]?=some v->w.cell? (a.add i)=some v:=by
 unfold World.cells? at h;split at h
 ·have J:=mapM_some_length h;simp only[List.length_range]at J;refine⟨J,λi v hi=>?_⟩
  have U:i<n:=by
   rw[<-J];exact(uy.1 hi).1
  have:=mapM_some_get h i i (by simp[U]);rw[this,hi]
 ·cases h
theorem znA{α:Type}{e:Nat}{R:α->List PV}(U:0<e){a:Addr}(hs:a.spot=none): ∀(len k:Nat),
 (∀i,i<len-> ∃(x:α) (cs:List Value),w.cells? base (a.add ((k+i)*e)) e=some cs/\CellsM (xq w) (R x) cs)->
 ∃l:List α,l.length=len/\RowsIn (xq w) (xq w a.block) e (l.map R) (a.off+k*e)
 |0,_,_=>⟨[],rfl,by simp[RowsIn]⟩
 |len+1,k,h=>by
  obtain⟨x,cs,h1,h2⟩:=h 0 ua
  obtain⟨l,hl,hr⟩:=znA U hs len (k+1) λi J=>by
   have:=h (i+1) ua;rwa [show k+(i+1)=k+1+i by omega]at this
  obtain⟨hn,hc⟩:=ziK h1;refine⟨x::l,by simp[hl],?_⟩;simp only[uH,RowsIn];refine⟨h2.len.trans hn,CellsM.zwd h2 λi v J=>?_,?_⟩
  ·have:=hc i v J;unfold xq;rw[Deep.add_add]at this;unfold Addr.add at this;split at this
   ·rename_i h0;have:w.cell? a=some v:=this;rw[show a=⟨a.block,a.off,none⟩ by cases a;simp_all]at this
    simp_all
   grind
  grind
def yK{n:Nat}{e:TypeId}(ht:P.underlying t=some (.slice e))(hc:P.cellsOf e=c)(h0:0<c)
 (he: ∀m,n=m+1->Rd enc P w base spare held m e R):Rd enc P w base spare held n t (λl:List α=>[.sl c (l.map R)]):=by
 intro cs x h;rcases DataW.trod_slice ht h with⟨rfl,_⟩|⟨a,len,cap,elems,rest,m,rfl,rfl,_,hb,hl,hm,hlen,U,_⟩
 ·exact⟨[],⟨by simp only[RepPV];simp_all,uh⟩⟩
 ·have hcap:cap<=9223372036854775807:=tG hm ub
  have J: ∀i,i<len-> ∃(x:α) (cs:List Value),w.cells? base (a.add ((0+i)*c)) c=some cs/\CellsM (xq w) (R x) cs:=by
   intro i hi;have:=U i hi;rw[hc,th ua]at this;obtain⟨cs',h1,h2⟩:=tB.1 this;obtain⟨x,hx⟩:=he m rfl cs' _ h2;exact⟨x,cs',by rw[tJ];exact h1,hx⟩
  cases len with
  |zero=>exact⟨[],⟨by simp only[RepPV];simp_all,uh⟩⟩
  |succ k=>
   have hs:a.spot=none:=by
    obtain⟨x,cs',h1,h2⟩:=J 0 ua;obtain⟨hn,hc'⟩:=ziK h1;cases cs' with
    |nil=>simp at hn;omega
    |cons v vs=>
     have:=hc' 0 v rfl;simp only[qe,UD,Addr.add,uW]at this;unfold World.cell? at this;split at this
     ·split at this
      ·cases this
      ·rename_i hh;simpa using hh
     ·cases this
   obtain⟨l,hl',hr⟩:=znA (base:=base) (R:=R) h0 hs (k+1) 0 J;simp only[UD,qe]at hr;refine⟨l,⟨?_,uh⟩⟩;simp only[RepPV,uj];refine⟨some a,cap,by rw[hl'],ua,ua,.inr ⟨a.block,a.off,?_,hr⟩⟩;cases a;simp_all
def Pieces(enc:TypeId×Value->H)(P:Program)(w:World)(base:Nat)(spare:Nat->Bool)(held:Bool)(n:Nat):List (TypeId×Nat)->List Value->Prop
 | [],cs=>cs=[]
 |(t,_)::r,cs=> ∃c1 c2 x,cs=c1++c2/\DataW.trod enc P w base spare held n t c1=some x/\Pieces enc P w base spare held n r c2
def fieldsB(P:Program):List Field->List (TypeId×Nat)->Nat->Bool
 | [],[],_=>true
 |f::fs,(t,c)::r,o=>Nat.beq f.type t&&Nat.beq f.offset o&&Nat.beq (P.cellsOf t) c&&fieldsB P fs r (o+c)
 |_,_,_=>false
def sumC:List (TypeId×Nat)->Nat
 | []=>0
 |(_,c)::r=>c+sumC r
def structB(P:Program)(t:TypeId)(l:List (TypeId×Nat)):Bool:=
 match P.underlying t with
 |some (.struct fs)=>fieldsB P fs.toList l 0&&Nat.beq (P.cellsOf t) (sumC l)
 |_=>false
theorem zfN{n:Nat}: ∀(fs:List Field) (l:List (TypeId×Nat)) (o:Nat) (cs:List Value),fieldsB P fs l o=true->cs.length=o+sumC l->
 (∀(i:Nat) (f:Field),fs[i]?=some f-> ∃x,DataW.trod enc P w base spare held n f.type ((cs.drop f.offset).take (P.cellsOf f.type))=some x)->
 Pieces enc P w base spare held n l (cs.drop o)
 | [],[],o,cs,_,hl,_=>by simp[Pieces,sumC]at hl ⊢; omega
 | [],_::_,_,_,h,_,_=>by simp[fieldsB]at h
 |_::_,[],_,_,h,_,_=>by simp[fieldsB]at h
 |f::fs,(t,c)::r,o,cs,h,hl,hx=>by
  simp only[fieldsB,um]at h;obtain⟨⟨⟨U,h2⟩,h3⟩,h4⟩:=h;have e1:=uA U;have e2:=uA h2;have e3:=uA h3;simp only[sumC]at hl;obtain⟨x,J⟩:=hx 0 f rfl;rw[e1,e2,e3]at J;simp only[Pieces];refine⟨(cs.drop o).take c,cs.drop (o+c),x,?_,J,zfN fs r (o+c) cs h4 ua λi g hg=>hx (i+1) g (by simpa using hg)⟩;rw[<-tC,ql]
def zZ{n:Nat}{l:List (TypeId×Nat)}{x:DataW H×List MemPlace}(J:structB P t l=true)
 (h:DataW.trod enc P w base spare held n t cs=some x): ∃m,n=m+1/\Pieces enc P w base spare held m l cs:=by
 unfold structB at J;split at J
 ·rename_i fs U;simp only[um]at J;obtain⟨xs,m,rfl,_,hl,hxl,hf⟩:=DataW.trod_struct U h;refine⟨m,rfl,?_⟩
  have:=zfN (enc:=enc) (P:=P) (w:=w) (base:=base) (spare:=spare) (held:=held) (n:=m) fs.toList l 0 cs J.1 (by rw[hl,uA J.2];omega) λi f hi=>by
   have h1:=hf i f (by simpa using hi)
   have h2:i<xs.length:=by
    rw[hxl];have:=(uy.1 hi).1;simpa using this
   exact⟨xs[i],by rw[h1,th h2]⟩
  simpa using this
 ·cases J
def zwe{r:Reach}{b0:Nat}{v:Value}{l:List (TypeId×Nat)}(J:structB P t l=true)(hv:Value.okWide P w r b0 t v): ∃cs:List Value,v= .agg cs.toArray:=by
 unfold structB at J;split at J
 ·rename_i fs U;unfold Value.okWide at hv;rw[U]at hv;obtain⟨cs,rfl,_⟩:=hv
  grind
 ·cases J
end
end Hw
namespace Hw
open Go Go.ChangeShapes Go.WideShapes Go.RowKit
variable {P:Program}{W:World}{args:Array Value}{f:FuncId}
def zwf{ss:List S}(U:zh P f ss [] (.bq true) [])(hG:GOk (xq W) W)
 (hr:RepSs (xq W) (λ_=>undef) ss args.toList):Calls P f args W λe W'=>e= .returned (.bool true)/\Below W.heap.size W W':=by
 have h:=U.2 (xq W) (λ_=>undef) W args.toList hr ⟨λid r h=>by simp[tb,tg]at h,λi j ri rj b h=>by simp[tb,tg]at h,λid r b h=>by simp[tb,tg]at h⟩ (znz W) hG;simp only[oG]at h;refine h.mono λe W' ⟨v,M',ρ',he,J⟩=>?_;subst he;have hv:=J.rep;simp only[RepS]at hv;subst hv;refine⟨rfl,J.os,J.tape,J.output,J.size,λk hk=>J.fram k hk ?_⟩;rintro⟨id,r,h1,_⟩;simp[tb,tg]at h1
variable {H:Type}{enc:TypeId×Value->H}
theorem za3(U:laidOutB P=true){W W':World}(hb:Below W.heap.size W W'):
 ∀ {ts:List TypeId} {vs:List Value} {ds:List (DataW H)} {ps:List MemPlace},(∀t∈ts,P.readableRec t=true/\t<P.types.size)->DataW.TrodAll enc P W 0 (λ_=>true) true ts vs ds ps->
   (∀x∈ps,x.block<W.heap.size)->DataW.TrodAll enc P W' 0 (λb=>decide (b<W.heap.size)) true ts vs ds ps
 | [],[],[],_,_,h,_=>h
 | [],[],_::_,_,_,h,_=>h.elim
 | [],_::_,_,_,_,h,_=>h.elim
 |_::_,[],_,_,_,h,_=>h.elim
 |_::_,_::_,[],_,_,h,_=>h.elim
 |t::ts,v::vs,d::ds,ps,ht,h,hlt=>by
  obtain⟨p,q,h1,h2,rfl⟩:=h;refine⟨p,q,Below.trod U (ht t ue).1 (ht t ue).2 h1 hb λx J=>hlt x (by simp[J]),?_,rfl⟩;exact za3 U hb (λu hu=>ht u (by simp[hu])) h2 λx J=>hlt x (by simp[J])
def zwg{f:Func}{s:ChangeSpec}{W':World}{ds gs:List (DataW H)}{before:List MemPlace}{tb:TypeId}
 (hl:laidOutB P=true) (ht: ∀t∈f.params.toList,P.readableRec t=true/\t<P.types.size) (hres:f.resultTypes= #[tb]) (htb:P.underlying tb=some .bool)
 (J:s.vars=[]) (U:s.fn H (ds++gs)={ results:=[.lit (.bool true)],args:=ds })
 (hW:DataW.Whole enc P f.params.toList s.vars false W args.toList ds gs before) (hb:Below W.heap.size W W'):
 s.post enc P f false true false false W args (.bool true) W':=by
 have hW':=hW;obtain⟨p,q,hA,hV,rfl,hfz,hnd⟩:=hW;have hlt: ∀x∈p++q,x.block<W.heap.size:=hW'.lt;refine⟨ds,gs,p++q,[],p,[],hW',?_,?_,?_,hb.frame _,λh=>by cases h⟩
 ·rw[U,hres];exact⟨[],[],shut_bool htb true,rfl,rfl⟩
 ·rw[U];exact za3 hl hb ht hA λx hx=>hlt x (by simp[hx])
 ·rw[U,J];exact rfl
variable {α:Type}{R:α->List PV}{base:Nat}{d:DataW H}{held:Bool}{p:List MemPlace}{spare:Nat->Bool}{t:TypeId}{w:World}
section
variable {r:Reach} {b0:Nat} {ρ:Nat->Value}
def zx7{l:List (TypeId×Nat)}{v:Value}(J:structB P t l=true)(hv:Value.okWide P w r b0 t v)
 (hr: ∀n,Rd enc P w base spare held n t R) (h:DataW.Trod enc P w base spare held t v d p): ∃a:α,RepS (xq w) ρ (.agg ((R a).map V.p)) v:=by
 obtain⟨cs,rfl⟩:=zwe J hv;obtain⟨n,U⟩:=h;obtain⟨a,ha⟩:=hr n _ _ U;simp only[Value.cells]at ha;exact⟨a,by simp only[RepS];exact⟨cs,rfl,by simpa using ha.vs⟩⟩
def zx8{k:IntKind}{v:Value}(J:P.underlying t=some (.int k))(hv:Value.okWide P w r b0 t v)
 (h:DataW.Trod enc P w base spare held t v d p): ∃i:Int,(Lit.int k i).wf=true/\RepS (xq w) ρ (.one (.p (.k (.int k i)))) v:=by
 obtain⟨i,rfl⟩:=okWide_int J hv;obtain⟨n,hn⟩:=h;obtain⟨i',U,_,e2⟩:=DataW.trod_int J hn;simp only[Value.cells,qC,Value.int.injEq,Uq,qn]at U;subst U;exact⟨_,e2,by simp[RepS,RepV,RepPV,Value.oneCell']⟩
def zwy{e:TypeId}{c:Nat}{v:Value}(U:P.underlying t=some (.slice e))(hv:Value.okWide P w r b0 t v)
 (hr: ∀n,Rd enc P w base spare held n t (λl:List α=>[.sl c (l.map R)])) (h:DataW.Trod enc P w base spare held t v d p): ∃l:List α,RepS (xq w) ρ (.one (.p (.sl c (l.map R)))) v:=by
 obtain⟨a,len,cap,rfl⟩:=okWide_slice U hv;obtain⟨n,hn⟩:=h;obtain⟨l,J⟩:=hr n _ _ hn;simp only[Value.cells,CellsM]at J;exact⟨l,by simp only[RepS,RepV];exact J.1⟩
end
def zyv{n:Nat}(J:P.underlying t=some (.int .u8)):Rd enc P w base spare held n t (λc:UInt8=>[.k (.int .u8 (c.toNat:Int))]):=by
 intro cs x h;obtain⟨i,rfl,_,U⟩:=DataW.trod_int J h
 have hb:0<=i/\i<256:=by
  simp[Lit.wf,IntKind.min,IntKind.max,IntKind.bits,IntKind.signed]at U;omega
 refine⟨UInt8.ofNat i.toNat,⟨?_,uh⟩⟩
 have:((UInt8.ofNat i.toNat).toNat:Int)=i:=by
  rw[UInt8.toNat_ofNat'];omega
 rw[this];simp[RepPV,Value.oneCell']
def zq7{a:Assume}{C:Checked}{os:Os}{fn:Func}{s:ChangeSpec}{conds:List PathCond}{apart fresh J again:Bool}{X:World->Array Value->Prop}
 (hX: ∀(w w':World) (args:Array Value),w.heap=w'.heap->X w args->X w' args) (own:ownKnob C.prog.godebug=none) (started:os.Started) (noInit:C.prog.inits.idxOf? f=none) (hfn:C.prog.funcs[f]?=some fn)
 (witness: ∃(w:World) (tape:Tape) (i:Input),w.os=os/\(w.forCall tape i).Shaped C.prog/\i.vars=[]/\Input.okWide C.prog (w.forCall tape i) .any w.heap.size f i/\
   ((s.pre enc C.prog fn conds apart (w.forCall tape i).memory i.args/\X (w.forCall tape i).memory i.args)/\sizedMet enc C.prog fn (OpenSpec.ofChange s) apart (w.forCall tape i).memory i.args)/\a.holds C.prog (lone (Frame.enter C.prog f i.args .normal) [] (w.forCall tape i)))
 (contract: ∀(W:World) (base:Nat) (args:Array Value) (ds gs:List (DataW H)) (before:List MemPlace),
   (∀(j:Nat) t v,fn.params[j]?=some t->args[j]?=some v->Value.okWide C.prog W .any base t v)->DataW.Whole enc C.prog fn.params.toList s.vars apart W args.toList ds gs before->X W args->W.ShapedOpen C.prog->
   Calls C.prog f args W λe W'=> ∃v,e= .returned v/\s.post enc C.prog fn apart fresh J again W args v W'):
 ReturnsInHanded a C os f .any (λw args=>(s.pre enc C.prog fn conds apart w args/\X w args)/\sizedMet enc C.prog fn (OpenSpec.ofChange s) apart w args) (s.post enc C.prog fn apart fresh J again):=by
 refine returnsInHanded_of_calls own started noInit witness λw tape i _ hsh _ hok U _=>?_;obtain⟨_,_,_,fn',hfn',_,_,_,_,hval⟩:=hok;obtain rfl:fn'=fn:=uU (hfn'.symm.trans hfn);obtain⟨⟨⟨ds,gs,before,hw,_⟩,hx⟩,_⟩:=U;have hw':=DataW.Whole.of_heap (w':=w.forCall tape i) (by rfl) hw;refine(contract (w.forCall tape i) w.heap.size i.args ds gs before hval hw' (hX _ _ _ (by rfl) hx) hsh).mono λe W' ⟨v,he,hp⟩=>?_;subst he;exact ChangeSpec.post_blind hp
def zwh{x:String×DataW Unit}{l:List (String×DataW Unit)}(h:laidMet P (x::l) W):laidMet P l W:=by
 obtain⟨ps,⟨g,t,cs,fuel,p,q,_,_,_,_,J,rfl⟩,U,hr⟩:=h;exact⟨q,J,(List.nodup_append.1 U).2.1,λb off hb=>hr b off (tp.2 (.inr hb))⟩
end Hw
namespace Hw
open Go
theorem vY{α:Type}{e:Nat}: ∀ {rows:List (List α)} {i c:Nat},(∀r∈rows,r.length=e)->c<e->rows.flatten[i*e+c]?=(rows[i]?).bind (·[c]?)
 | [],i,c,_,_=>by simp
 |r::rs,0,c,hl,hc=>by
  grind
 |r::rs,i+1,c,hl,hc=>by
  have h1:r.length=e:=hl r ue;have ih:=vY (rows:=rs) (i:=i) (λr hr=>hl r (by simp[hr])) hc
  grind
theorem jm{α:Type}{e:Nat}: ∀ {rows:List (List α)},(∀r∈rows,r.length=e)->rows.flatten.length=rows.length*e
 | [],_=>by simp
 |r::rs,hl=>by
  have h1:r.length=e:=hl r ue;have ih:=jm (rows:=rs) λr hr=>hl r (by simp[hr])
  grind
theorem wh{M:Mem}{ρ:Nat->Value}: ∀ {vs:List V} {g:Nat->Option Value},(∀j v,vs[j]?=some v-> ∃c,g j=some c/\RepV M ρ v c)-> ∃ds:List Value,RepVs M ρ vs ds/\ ∀q c,ds[q]?=some c->g q=some c
 | [],g,_=>⟨[],by simp only[RepVs],λq c h=>by simp at h⟩
 |v::vs,g,h=>by
  obtain⟨c,h1,h2⟩:=h 0 v rfl;obtain⟨ds,h3,h4⟩:=wh (vs:=vs) (g:=λj=>g (j+1)) λj u J=>h (j+1) u (by simpa using J)
  refine⟨c::ds,by simp only[RepVs];simp_all,λq c' hq=>?_⟩
  grind
variable {M:Mem}{rows:List (List PV)}{w:World}{ρ:Nat->Value}
def zA.toV{id e:Nat}(h:zA M ρ w id (.arr e rows)):zA M ρ w id (.arv e rows []):=by
 obtain⟨a,cap,h1,h2,h3,h4⟩:=h;rcases h4 with⟨rfl,J⟩|⟨b,o,cs,el,fz,h5,h6,U,h7,h8⟩
 ·have:rows=[]:=uY.1 ua;subst this;exact⟨none,cap,h1,h2,h3,ue,.inl ⟨rfl,J⟩⟩
 ·refine⟨a,cap,h1,h2,h3,h8.len,.inr ⟨b,o,cs,el,fz,h5,h6,U,h7,λj p hj=>?_⟩⟩;obtain⟨us,h9,_,h11⟩:=h8.cells (ρ:=ρ);obtain⟨c,J,hr⟩:=y9 h9 (m:=j) (v:= .p p) (by grind);exact⟨c,h11 j c J,hr⟩
variable {α:Type}{p:α}{q:Nat}
def zdB{e:Nat}{rows:List (List α)}(hl: ∀r∈rows,r.length=e)(h:rows.flatten[q]?=some p): ∃i c row,q=i*e+c/\c<e/\rows[i]?=some row/\row[c]?=some p:=by
 have J:q<rows.length*e:=by
  have:=(uy.1 h).1;rwa [jm hl]at this
 have he:0<e:=by
  rcases qK e with U|U
  ·subst U;simp at J
  ·exact U
 have hq:q=q / e*e+q % e:=by rw[Nat.mul_comm];exact(Nat.div_add_mod q e).symm
 have hc:q % e<e:=Nat.mod_lt q he;have:=vY hl (i:=q / e) hc
 grind
def zoo{e:Nat}{rows:List (List α)}{row':List α}{i:Nat}(hl: ∀r∈rows,r.length=e)(hr:row'.length=e)(h:(rows.set i row').flatten[q]?=some p):
 (∃c,q=i*e+c/\c<e/\row'[c]?=some p)\/((q<i*e\/i*e+e<=q)/\rows.flatten[q]?=some p):=by
 have hl': ∀r∈rows.set i row',r.length=e:=λr hm=>by
  rcases List.mem_or_eq_of_mem_set hm with hm|rfl
  ·exact hl r hm
  ·exact hr
 obtain⟨j,c,row,h1,h2,h3,h4⟩:=zdB hl' h;by_cases U:i=j
 ·grind
 ·rw[Uu U]at h3;refine .inr ⟨?_,by rw[h1,vY hl h2,h3];exact h4⟩;rcases Nat.lt_or_gt_of_ne U with J|J
  ·right;have:(i+1)*e<=j*e:=tz e J
   grind
  ·left;have:(j+1)*e<=i*e:=tz e J
   grind
variable {P:Program}{af:Array Edge}{ps:String}{t:TypeId}
section
variable {d:Option Nat} {ty:TypeId} {g:Option (Nat×Bool)} {x y:Operand}
def zx9(P:Program)(e:Nat)(tx:TypeId)(s:S)(rt:RL)(rows:List (List PV))(x2:List (Nat×V)):Prop:=
 ∀(C:Ctx) (st:St) (M:Mem) (ρ:Nat->Value) (a:Act) (w:World) (v:Value),Holds C st M ρ a w->RepS M ρ s v->okT rt st->
  ∃news,Src P e tx v rows.length news w/\(∀j p,rows.flatten[j]?=some p-> ∃c,news[j]?=some c/\RepV M ρ (xv x2 j p) c)/\ ∀r∈rows,r.length=e
def zx9.of{e:Nat}{tx:TypeId}{s:S}{rt:RL}(h:zat P e tx s rt rows):zx9 P e tx s rt rows []:=by
 intro C st M ρ a w v J hr hT;obtain⟨news,U,h2,h3⟩:=h C st M ρ a w v J hr hT;exact⟨news,U,λj p hj=>y9 h2 (m:=j) (v:= .p p) (by grind),h3⟩
end
section
variable {C:Ctx} {k:List Frm} {n:Nat} {sl:zb} {tab:Tab} {Q:Exit->St->Prop} {all:Array Oper} {rest:List Oper} {cur:Cur}
def zw5(hc:lst cur=true){id:Nat}{r r':Res}(hid:tg tab id=some r)(h: ∀M ρ w,zA M ρ w id r->zA M ρ w id r')(g:Goal P C cur k n sl ((id,some r')::tab) Q):Goal P C cur k n sl tab Q:=by
 refine jv hc (λ{M ρ a w} U=>?_) g
 have htab: ∀i s,tg ((id,some r')::tab) i=some s->(i=id/\s=r')\/(i≠id/\tg tab i=some s):=λi s J=>by
  rw[zm]at J;split at J
  ·rename_i e;exact .inl ⟨e.symm,(uU J).symm⟩
  ·rename_i e;exact .inr ⟨λh=>e h.symm,J⟩
 have old: ∀i s,tg ((id,some r')::tab) i=some s-> ∃s0,tg tab i=some s0:=λi s J=>by
  rcases htab i s J with⟨rfl,_⟩|⟨_,h2⟩
  ·exact⟨r,hid⟩
  ·exact⟨s,h2⟩
 refine⟨M,ρ,U.dfr,U.sz,U.slots,⟨λi s J=>?_,λi j ri rj b J hj hne hbi hbj=>?_,λi s b J hb=>?_⟩,λi s b J hb=>?_,U.run,U.keep⟩
 ·rcases htab i s J with⟨rfl,rfl⟩|⟨_,h2⟩
  ·exact h _ _ _ (U.zz.res _ _ hid)
  ·exact U.zz.res _ _ h2
 ·obtain⟨si,h1⟩:=old i ri J;obtain⟨sj,h2⟩:=old j rj hj;exact U.zz.dis i j si sj b h1 h2 hne hbi hbj
 ·obtain⟨si,h1⟩:=old i s J;exact U.zz.own i si b h1 hb
 ·obtain⟨si,h1⟩:=old i s J;exact U.ownf i si b h1 hb
def zA.pure{id e:Nat}(h:zA M ρ w id (.arv e rows [])):zA M ρ w id (.arr e rows):=by
 obtain⟨a,cap,h1,h2,h3,hl,h4⟩:=h;rcases h4 with⟨rfl,hc⟩|⟨b,o,cs,el,fz,h5,h6,U,h7,h8⟩
 ·exact⟨none,cap,h1,h2,h3,.inl ⟨rfl,hc⟩⟩
 ·refine⟨a,cap,h1,h2,h3,.inr ⟨b,o,cs,el,fz,h5,h6,U,h7,?_⟩⟩
  obtain⟨us,h9,h10⟩:=wh (M:=M) (ρ:=ρ) (vs:=rows.flatten.map V.p) (g:=λj=>cs[o+j]?) λj v J=>by
   rw[uO]at J;simp only[uR]at J;obtain⟨p,hp,rfl⟩:=J;obtain⟨c,hc1,hc2⟩:=h8 j p hp;exact⟨c,hc1,hc2⟩
  exact RowsIn.yb (ρ:=ρ) hl h9 λj c J=>h10 j c J
def zA.drop{id e:Nat}{xs:List (Nat×V)}(hx: ∀j p,rows.flatten[j]?=some p->xv xs j p= .p p)(h:zA M ρ w id (.arv e rows xs)):zA M ρ w id (.arr e rows):=by
 obtain⟨a,cap,h1,h2,h3,hl,h4⟩:=h;refine zA.pure ⟨a,cap,h1,h2,h3,hl,?_⟩;rcases h4 with h4|⟨b,o,cs,el,fz,h5,h6,J,h7,h8⟩
 ·exact .inl h4
 ·refine .inr ⟨b,o,cs,el,fz,h5,h6,J,h7,λj p U=>?_⟩;obtain⟨c,c1,c2⟩:=h8 j p U;rw[hx j p U]at c2;exact⟨c,c1,c2⟩
def FrR(id e:Nat)(rows:List (List PV))(r r':Res):Prop:= ∀M ρ w i,RepPV M (.sl e rows) (ρ id)->zA M ρ w i r->zA M ρ w i r'
theorem FrR.box{id e:Nat}{rows:List (List PV)}{vs vs':List V}(h:zck id e rows vs vs'):FrR id e rows (.box vs) (.box vs'):=λ_ _ _ _ hr ⟨b,cs,el,J,U,e3⟩=>⟨b,cs,el,J,U,h _ _ _ hr e3⟩
def upR(id e:Nat)(rows:List (List PV))(tab:Tab):List (Nat×Res)->Prop
 | []=>True
 |(i,r')::l=>(∃r,tg tab i=some r/\i≠id/\FrR id e rows r r')/\upR id e rows tab l
def znG:List (Nat×Res)->Tab
 | []=>[]
 |(i,r)::l=>(i,some r)::znG l
def AdR(id:Nat)(r r':Res):Prop:= ∀M ρ w i,ρ id= .slice none 0 0->zA M ρ w i r->zA M ρ w i r'
theorem AdR.box{id:Nat}{vs vs':List V}(h:zcB id vs vs'):AdR id (.box vs) (.box vs'):=λ_ _ _ _ hr ⟨b,cs,el,J,U,e3⟩=>⟨b,cs,el,J,U,h _ _ _ hr e3⟩
def zyg(T:Ty P)(hC:C.low){d:Nat}{x y:Operand}{ty:TypeId}{g0:Option (Nat×Bool)}{gs:zb}{md:Mode}(m:Nat){el:TypeId}{e bytes:Nat}{z:List V}{row:List PV}
 (hx:ev sl x=some (I (m:Nat))) (hy:ev sl y=some (I (m:Nat))) (he:T.es t=some (el,e)) (hz:T.zs el=some z) (hp:pvsOf z=some row) (hl:Nat.beq row.length e=true) (J:(P.info? el).map (·.bytes)=some bytes) (U:Nat.ble bytes 1000=true) (hb:m<=1000000)
 (hm:metL all sl g0=some gs) (hd:Nat.blt d n=true) (hf:(Nat.ble 100 (1000+d)&&freshB (1000+d) ⟨n,sl,tab⟩)=true)
 (g:Goal P C (.ops all rest (nx md ⟨some d,gs++(rq x (I (m:Nat))++rq y (I (m:Nat))),[],[1000+d],.one (.ar (1000+d)),[(1000+d,some (.arr e (List.replicate m row)))]⟩)) k n ((d,.one (.ar (1000+d)))::sl) ((1000+d,some (.arr e (List.replicate m row)))::tab) Q):
 Goal P C (.ops all (⟨some d,.makeSlice t x y,ty,ps,af,g0⟩::rest) md) k n sl tab Q:=by
 have e1:=xV (st:=⟨n,sl,tab⟩) hx;have e2:=xV (st:=⟨n,sl,tab⟩) hy;have hle:bytes*m<=1000*1000000:=Nat.mul_le_mul (uS U) hb;have:=w8 hm (zv9 (ty:=ty) (ps:=ps) (af:=af) (g:=g0) (d:=some d) (id:=1000+d) e1.1 e2.1 (T.es_ok _ _ he) (T.zs_ok _ _ hz) hp (uA hl) J (uM m) ua ua) (n:=n) (tab:=tab);exact zbF (L:=⟨some d,gs++(rq x (I (m:Nat))++rq y (I (m:Nat))),[],[1000+d],.one (.ar (1000+d)),[(1000+d,some (.arr e (List.replicate m row)))]⟩) hC this.1 rfl ⟨by rw[ze,ze];simp_all,trivial,vU hf,hd⟩ g
end
end Hw
