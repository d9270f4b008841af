import Derived.Test.YtgcfmjlnapcioaaGreatDoorE2
import Derived.Deep.AppendSrc
import Derived.Laws.MakeOwn
import Derived.MapKept
import Derived.Laws.Cover3
import Derived.ChangeArms
import Derived.Deep.Slices
import Derived.Carry
import Derived.ChangeOld
import Derived.ChangeShapes
import Derived.OpenShut
import Derived.MakeChecks
import Derived.Lib.LaidTab
import Derived.Handed
import Derived.Shelf.Vars
set_option linter.unusedVariables false
set_option linter.unusedSimpArgs false
namespace Hw
open Go
variable {M:Mem}{el t tx:TypeId}{rows:List (List PV)}{w:World}{z:List V}{ρ:Nat->Value}
section
variable {P:Program} {d:Option Nat} {ty:TypeId} {ps:String} {af:Array Edge} {g:Option (Nat×Bool)} {x y:Operand}
def zae(P:Program)(e:Nat)(tx:TypeId)(s:S)(rt:RL)(rows:List (List PV)):Prop:=
 ∀(C:Ctx) (st:St) (M:Mem) (ρ:Nat->Value) (a:Act) (w:World) (v:Value),Holds C st M ρ a w->RepS M ρ s v->okT rt st->
  ∃news,Src P e tx v rows.length news w/\RepVs M ρ (rows.flatten.map V.p) news/\ ∀r∈rows,r.length=e
theorem zae.sl{e:Nat}{tx el:TypeId}{rows:List (List PV)}(h:elemSz P tx=some (el,e)):zae P e tx (.one (.p (.sl e rows))) [] rows:=by
 intro C st M ρ a w v hH hr _
 obtain⟨_,hu,_,_⟩:=zB h
 simp only[RepS,RepV,RepPV]at hr
 obtain⟨b,cap,rfl,h2,h3,h4⟩:=hr
 rcases h4 with rfl|⟨b,o,rfl,h5⟩
 ·cases b with
  |none=>exact⟨[],Src.ofNil w hu cap,by simp[RepVs],ue⟩
  |some b=>exact⟨[],Src.ofSlice w hu b 0 cap [] ue ue ue,by simp[RepVs],ue⟩
 ·obtain⟨cs,h6,h7,h8⟩:=h5.cells (ρ:=ρ)
  exact⟨cs,Src.ofSlice w hu _ _ cap cs h7 (λj u hj=>by rw[yq];exact hH.run.imm _ _ _ (h8 j u hj)) h6.one,h6,h5.len⟩
theorem zae.nil{e:Nat}{n:Nat}(h:elemSz P tx=some (el,n)):zae P e tx (.one (.p (.k (.slice none 0 0)))) [] []:=by
 intro C st M ρ a w v hH hr _
 obtain⟨_,hu,_,_⟩:=zB h
 simp only[RepS,RepV,RepPV]at hr
 rw[hr.1]
 exact⟨[],Src.ofNil w hu 0,by simp[RepVs],ue⟩
theorem zae.ar{e:Nat}{tx el:TypeId}{id:Nat}{rows:List (List PV)}(h:elemSz P tx=some (el,e)):zae P e tx (.one (.ar id)) [(id,.arr e rows)] rows:=by
 intro C st M ρ a w v hH hr ht
 obtain⟨_,hu,_,_⟩:=zB h
 obtain⟨b,cap,h1,h2,h3,h4⟩:=hH.yh.res id _ ht.1
 simp only[RepS,RepV]at hr
 rw[h1]at hr;rw[hr.1]
 rcases h4 with⟨rfl,hc⟩|⟨b',o,cs,el',fz,rfl,h6,_,_,h8⟩
 ·have:rows=[]:=uS.1 ua
  subst this
  exact⟨[],Src.ofNil w hu cap,by simp[RepVs],ue⟩
 ·obtain⟨us,h9,h10,h11⟩:=h8.cells (ρ:=ρ)
  exact⟨us,Src.ofSlice w hu _ _ cap us h10 (λj u hj=>by rw[yq];have:=h11 j u hj;simp[World.cell?,h6,this]) h9.one,h9,h8.len⟩
def zjF(s:ByteArray):List (List PV):=s.data.toList.map λb=>[.k (.int .u8 b.toNat)]
theorem zae.str{s:ByteArray}(h:P.underlying tx=some .string):zae P 1 tx (.one (.p (.k (.string s)))) [] (zjF s):=by
 intro C st M ρ a w v hH hr _
 simp only[RepS,RepV,RepPV]at hr
 rw[hr.1]
 have hl:(zjF s).length=s.size:=by simp only[zjF,uj,qd];rfl
 refine⟨byteCells s,by rw[hl];exact Src.ofString w h s,?_,λr hr=>?_⟩
 ·unfold zjF byteCells
  generalize s.data.toList=l
  induction l with
  |nil=>simp[RepVs]
  |cons b bs ih=>simp only[tK,tF,ta,oh,RepVs,RepV,RepPV];exact⟨⟨uh,rfl⟩,ih⟩
 ·obtain⟨b,_,rfl⟩:=ql.1 hr;rfl
theorem wm{vs:List V}(h:zeroV P t=some vs): ∃i z,P.info? t=some i/\i.zero=some z/\z.cells.size=vs.length:=by
 unfold zeroV at h
 split at h
 ·rename_i i hi
  split at h
  ·rename_i z hz
   split at h
   ·simp only[um]at h;subst h
    exact⟨i,z,hi,hz,ue⟩
   ·cases h
  ·cases h
 ·cases h
theorem zqv{id id' e bytes:Nat}{rows2:List (List PV)}{sy:S}{rt2:RL}(hx:okc x (.one (.ar id)))(hy:okc y sy)(hs:zae P e tx sy rt2 rows2)
 (he:elemSz P t=some (el,e)) (hz:zeroV P el=some z) (hzl:z.length=e) (hby:(P.info? el).map (·.bytes)=some bytes) (hb:(rows.length+rows2.length)*bytes<=140737488355328) (hlen:rows.length+rows2.length<=9223372036854775807):
 Snd P ⟨d,.call ⟨.builtin .append,#[x,y],#[t,tx]⟩,ty,ps,af,g⟩ (rq x (.one (.ar id))++rq y sy) ((id,.arr e rows)::rt2) [id'] (.one (.ar id')) [(id',some (.arr e (rows++rows2))),(id,none)]:=by
 intro C st M ρ a w hH h1 hT hF hd k Q hk
 rw[zd]at h1
 have e1:=hH.evS (zI hx h1.1)
 have e2:=hH.evS (zI hy h1.2)
 obtain⟨b,cap,h2,h3,h4,h5⟩:=hH.yh.res id _ hT.1
 simp only[RepS,RepV]at e1
 obtain⟨ii,hu,hinf,hsz⟩:=zB he
 obtain⟨news,hsrc,hnews,hlen2⟩:=hs C st M ρ a w _ hH e2 hT.2
 obtain⟨i',zv,hi',hzv,hzs⟩:=wm hz
 rw[hinf]at hi';simp only[um]at hi';subst hi'
 rw[hinf]at hby;simp only[qh,um]at hby
 have hnl:news.length=rows2.length*e:=hsrc.newsLen
 have hagree: ∀val:Value,RepVs M (upd ρ id' val) (rows2.flatten.map V.p) news:=λval=>RepVs.agree (yZ ρ id' val) _ _ (λi _=>by
  have: ∀l:List PV,mentVs i (l.map V.p)=false:=λl=>by
   induction l with
   |nil=>rfl
   |cons q qs ih=>simp[mentVs,mentV,ih]
  exact this _) hnews
 have hcall:execOp a.eval ⟨d,.call ⟨.builtin .append,#[x,y],#[t,tx]⟩,ty,ps,af,g⟩=(do pure (.value (<-Builtin.append_ #[t,tx] ty #[a.eval x,a.eval y]))):=by
  simp[execOp,resolve,invoke,builtin]
 have fin: ∀ {val:Value} {w':World},(Builtin.append_ #[t,tx] ty #[a.eval x,a.eval y]).run P w= .ok val w'->
  (∀b',b'<w.heap.size->(∀i r,(some id)=some i->tg st.tab i=some r-> ¬Bk (ρ i) b')->w'.heap[b']?=w.heap[b']?)->w.heap.size<=w'.heap.size->w'.os=w.os->w'.tape=w.tape->w'.output=w.output->
  (∀b',Bk val b'->w.heap.size<=b'\/ ∃i r,(some id)=some i/\tg st.tab i=some r/\Bk (ρ i) b')->zH M (upd ρ id' val) w' id' (.arr e (rows++rows2))->val.oneCell'=true->
  Oper.wp P ⟨d,.call ⟨.builtin .append,#[x,y],#[t,tx]⟩,ty,ps,af,g⟩ a w k Q:=λ{val w'} hrun g1 g2 g3 g4 g5 g6 g7 g8=>by
  unfold Oper.wp
  rw[hcall]
  simp only[Sem.run_bind,hrun,Result.andThen_ok,Sem.run_pure,Oper.upon_value]
  exact hk _ _ _ _ (hH.step (some id) g1 g2 g3 g4 g5 g6 hF.1 g7 (by simp only[RepS,RepV];exact⟨(zw _ _ _).symm,g8⟩) hd)
 have hex:a.eval x= .slice b rows.length cap:=e1.1.trans h2
 rcases Nat.lt_or_ge cap (rows.length+rows2.length)with hlt|hge
 · -- a new row
   have hold: ∃olds:List Value,(Builtin.firstCells ii.size rows.length (.slice b rows.length cap)).run P w.drew= .ok olds.toArray w.drew/\RepVs M ρ (rows.flatten.map V.p) olds/\olds.length=rows.length*e/\ ∀r∈rows,r.length=e:=by
    rcases h5 with⟨rfl,hc⟩|⟨b',o,cs,el',fz,rfl,h6,_,_,h8⟩
    ·have:rows=[]:=uS.1 ua
     subst this
     exact⟨[],run_firstCells_none w.drew _ _ _ _,by simp[RepVs],ue,ue⟩
    ·obtain⟨us,h9,h10,h11⟩:=h8.cells (ρ:=ρ)
     refine⟨us,?_,h9,h10,h8.len⟩
     rw[hsz]
     exact run_firstCells_some w.drew e rows.length ⟨b',o,none⟩ _ cap us h10 (λj u hj=>by
      rw[yq]
      have:=h11 j u hj
      have h6':w.drew.heap[b']?=some (.cells cs el' fz):=h6
      simp[World.cell?,h6',this])
   obtain⟨olds,ho1,ho2,ho3,ho4⟩:=hold
   have hrun:=run_append_grow_src (P:=P) w t tx ty el ii zv hu hinf hzv b rows.length cap olds ho1 (a.eval y) rows2.length news (by rw[hsz];exact hsrc) hlt ua (growslice_fits hlt (by rw[hby];exact hb))
   rw[<-hex]at hrun
   have hcap:=grownCap_ge w (rows.length+rows2.length) cap el
   refine fin hrun (λb' hb' _=>z7 w.drew _ b' hb') ue rfl rfl rfl (λb' hb'=> .inl ?_) ⟨some ⟨w.heap.size,0,none⟩,grownCap w (rows.length+rows2.length) cap el,by rw[zw];simp,by simpa using hcap,(by have:=grownCap_le_maxLen w (rows.length+rows2.length) cap el (by unfold maxLen;omega);unfold maxLen at this;omega),.inr
    ⟨w.heap.size,0,_,el,(0,0),rfl,zP w.drew _,λi _=>by simp,?_,?_⟩⟩ rfl
   ·simp only[Bk,blk,um]at hb';omega
   ·simp only[qE,uW,uB,size_zeroCells,hzs,hzl,ho3,hnl,<-qk,tI]
    apply qF;omega
   ·refine RowsIn.yx (ρ:=ρ) (cs:=olds++news) (λr hr=>(u7.1 hr).elim (ho4 r) (hlen2 r)) (by simpa [tY]using ho2.append hnews) λj c hj=>?_
    have hjl:j<(olds++news).length:=(ui.1 hj).1
    rw[tI,tN (by simpa using hjl)]
    simpa using hj
 · -- room
   rcases h5 with⟨rfl,hc⟩|⟨b',o,cs,el',fz,rfl,h6,h6',h7,h8⟩
   ·have e3:rows2=[]:=uS.1 ua
    have e4:rows=[]:=uS.1 ua
    subst e3;subst e4;subst hc
    have hn0:news=[]:=qK (by simpa using hnl)
    subst hn0
    have hrun:(Builtin.append_ #[t,tx] ty #[a.eval x,a.eval y]).run P w= .ok (.slice none 0 0) w:=by
     rw[hex]
     have hl:(Builtin.lenOf (a.eval y)).run P w= .ok 0 w:=hsrc.len w
     have hc:(Builtin.firstCells e 0 (a.eval y)).run P w= .ok #[] w:=hsrc.cells
     rcases hsrc.kind with⟨e',hk'⟩|hk'<;>simp[Builtin.append_,run_underlying hu,run_underlying hk',Go.sizeOf,typeInfo,hinf,hl,hsz,hc]
    exact fin hrun (λ_ _ _=>rfl) (uG _) rfl rfl rfl (λb' hb'=>by simp[Bk,blk]at hb') ⟨none,0,by rw[zw];rfl,ue,ue,.inl ⟨rfl,rfl⟩⟩ rfl
   ·have hfit:o+rows.length*e+0+news.length<=cs.size:=by
     rw[hnl]
     have:(rows.length+rows2.length)*e<=cap*e:=qF _ hge
     rw[qk]at this
     omega
    have hst:=zY (P:=P) b' (o+rows.length*e) el' fz news 0 cs w h6 h6' hfit hsrc.one
    have hrun:(Builtin.append_ #[t,tx] ty #[a.eval x,a.eval y]).run P w= .ok (.slice (some ⟨b',o,none⟩) (rows.length+rows2.length) cap) (w.setRow b' (setAt cs.toList (o+rows.length*e+0) news).toArray):=by
     rw[hex]
     have hl:=hsrc.len w
     have hc:=hsrc.cells
     rcases hsrc.kind with⟨e',hk'⟩|hk'<;>simp[Builtin.append_,run_underlying hu,run_underlying hk',Go.sizeOf,typeInfo,hinf,hl,hsz,hc,hge,yq,hst]
    have hob:Bk (ρ id) b':=by rw[h2];rfl
    have hsl:(setAt cs.toList (o+rows.length*e+0) news).length=cs.size:=by rw[zK _ _ _ (by simpa using hfit)];simp
    refine fin hrun (λb2 hb2 hne=>yj w b' _ b2 λe=>hne id _ rfl hT.1 (e ▸ hob)) (by simp[World.setRow]) rfl rfl rfl
     (λb2 hb2=> .inr ⟨id,_,rfl,hT.1,by simp only[Bk,blk,um]at hb2;rw[<-hb2];exact hob⟩)
     ⟨some ⟨b',o,none⟩,cap,by rw[zw];simp,by simpa using hge,h4,.inr ⟨b',o,_,el',fz,rfl,setRow_heap w b' cs _ el' fz h6,?_,?_,?_⟩⟩ rfl
    ·simp only[uW,hsl];exact h6'
    ·simp only[uW,hsl];exact h7
    ·refine RowsIn.append (RowsIn.congr (λj hj=>?_) h8) (RowsIn.yx (ρ:=ρ) hlen2 hnews λj c hj=>?_)
     ·simp only[tp]
      rw[zW _ _ _ _ ug,uv ua];simp
     ·have hjl:j<news.length:=(ui.1 hj).1
      simp only[tp]
      rw[zW _ _ _ _ ug,ur ua,uv ua]
      rw[show o+rows.length*e+j - (o+rows.length*e+0)=j by omega]
      exact hj
def zok(M:Mem)(b:Nat)(cs:List Value):Mem:=λb' o=>if b'=b then cs[o]? else M b' o
theorem Holds.zvg{C:Ctx}{st:St}{a:Act}(h:Holds C st M ρ a w)(cs:List Value)(el:TypeId):
 Holds C st (zok M w.heap.size cs) ρ a (w.alloc (.cells cs.toArray el)):=by
 have mlt: ∀b o u,M b o=some u->b<w.heap.size:=λb o u hu=>xN (h.run.imm b o u hu)
 refine h.more (λb hb=>z7 w _ b hb) ue rfl rfl rfl (λb o v hv=>?_) (λb o v hv=>?_) (λb o v hv=>?_)
 ·simp only[zok];rw[ur (by have:=mlt b o v hv;omega)];exact hv
 ·simp only[zok]at hv
  split at hv
  ·rename_i e;subst e
   simp only[World.cell?,zP]
   simpa using hv
  ·rw[cell_of_heap (z7 w _ b (mlt b o v hv))];exact h.run.imm b o v hv
 ·simp only[zok]at hv
  split at hv
  ·rename_i e;subst e
   refine .inr ⟨λhf=>?_,λi r hi hb=>?_⟩
   ·have:=hf.1;have:=h.run.size;omega
   ·have:=(h.yh.res i r hi).lt hb;omega
  ·exact .inl hv
theorem zol{cs:List Value}(h:Imm M w):MLe M (zok M w.heap.size cs):=λb o v hv=>by
 simp only[zok];rw[ur (by have:=xN (h b o v hv);omega)];exact hv
def pvsOf:List V->Option (List PV)
 | []=>some []
 | .p x::r=>match pvsOf r with
   |some xs=>some (x::xs)
   |none=>none
 |_::_=>none
theorem zd1: ∀ {vs:List V} {xs:List PV},pvsOf vs=some xs->vs=xs.map V.p
 | [],xs,h=>by simp[pvsOf]at h;subst h;rfl
 |v::r,xs,h=>by
  cases v<;>simp only[pvsOf]at h<;>first|(cases h;done)|skip
  split at h
  ·rename_i ys hy
   simp only[um]at h;subst h
   rw[zd1 hy];rfl
  ·cases h
def partsR(e:Nat):Nat->List Nat->List S->Option (List (List PV))
 |_,[],[]=>some []
 |k,i::is,s::ss=>match Nat.beq i k with
  |true=>match cellsOf s with
   |some vs=>match pvsOf vs with
    |some xs=>match Nat.beq xs.length e with
     |true=>match partsR e (k+1) is ss with
      |some r=>some (xs::r)
      |none=>none
     |false=>none
    |none=>none
   |none=>none
  |false=>none
 |_,_,_=>none
theorem zaA{M:Mem}{ρ:Nat->Value}{e:Nat}: ∀ {k:Nat} {is:List Nat} {ss:List S} {rows:List (List PV)} {xs:List Value},partsR e k is ss=some rows->RepSs M ρ ss xs->
 (∀r∈rows,r.length=e)/\rows.length=is.length/\ ∃out:List Value,RepVs M ρ (rows.flatten.map V.p) out/\out.length=rows.length*e/\
   ∀cur:Array Value,k*e+rows.length*e<=cur.size->Instr.fill (λi=>some (i*e,e)) cur (is.zip xs)=some (setAt cur.toList (k*e) out).toArray
 |k,[],[],rows,xs,h,hr=>by
  simp only[partsR,um]at h;subst h
  refine⟨ue,rfl,[],by simp[RepVs],ue,λcur _=>?_⟩
  simp[Instr.fill,setAt]
 |k,[],_::_,_,_,h,_=>by simp[partsR]at h
 |k,_::_,[],_,_,h,_=>by simp[partsR]at h
 |k,i::is,s::ss,rows,xs,h,hr=>by
  cases xs with
  |nil=>simp only[RepSs]at hr
  |cons c cs=>
   simp only[RepSs]at hr
   simp only[partsR]at h
   split at h
   ·rename_i hik
    have hik:=u0 hik;subst hik
    split at h
    ·rename_i vs hv
     split at h
     ·rename_i ys hy
      split at h
      ·rename_i hle
       have hle:=u0 hle
       split at h
       ·rename_i r hrr
        simp only[um]at h;subst h
        obtain⟨h1,h2,out,h3,h4,h5⟩:=zaA hrr hr.2
        have hc:=yE hv hr.1
        rw[zd1 hy]at hc
        have hcl:c.cells.size=e:=by have:=hc.length;simp at this;omega
        refine⟨λr' hr'=>?_,by simp[h2],c.cells.toList++out,by simpa using hc.append h3,?_,λcur hcur=>?_⟩
        ·rcases uV.1 hr' with rfl|hr'
         ·exact hle
         ·exact h1 r' hr'
        ·simp only[uB,qd,hcl,h4,uI,qk];omega
        ·simp only[uI,qk,Ua]at hcur
         simp only[List.zip_cons_cons,Instr.fill]
         have hcond: ¬(c.cells.size≠e||i*e+c.cells.size>cur.size)=true:=by
          simp only[ne_eq,tM,ux];omega
         have hfold:=wW cur (i*e) c.cells.toList 0 cur ug
         have hfold':c.cells.zipIdx.foldl (λcs (p:Value×Nat)=>cs.setIfInBounds (i*e+p.2) p.1) cur=(setAt cur.toList (i*e) c.cells.toList).toArray:=by
          rw[<-oF]
          simpa using hfold
         rw[ur hcond,hfold']
         have hsl:(setAt cur.toList (i*e) c.cells.toList).length=cur.size:=by rw[zK _ _ _ ug];simp
         rw[h5 _ (by simp only[uW,hsl,qk,Ua];omega)]
         congr 2
         unfold setAt
         apply List.ext_getElem?
         intro j
         have e1:(i+1)*e=i*e+e:=by rw[qk];omega
         have hA: ∀j,(setAt cur.toList (i*e) c.cells.toList)[j]?=if j<i*e then cur.toList[j]? else if j<i*e+e then c.cells.toList[j - i*e]? else cur.toList[j]?:=λj=>by
          rw[zW _ _ _ _ ug];simp[hcl]
         have hB:=zW (setAt cur.toList (i*e) c.cells.toList) out ((i+1)*e) j (by rw[hsl];omega)
         have hC:=zW cur.toList (c.cells.toList++out) (i*e) j ug
         unfold setAt at hB hC hA
         rw[hB,hC,hA]
         simp only[uB,qd,hcl,e1]
         by_cases j1:j<i*e
         ·rw[uv j1,uv ua,uv j1]
         ·by_cases j2:j<i*e+e
          ·rw[uv j2,ur j1,uv j2,ur j1,uv ua,uP ug]
          ·rw[ur j2,ur j1,ur j1]
           by_cases j3:j<i*e+e+out.length
           ·rw[uv j3,uv ua,uO ug]
            congr 1;simp;omega
           ·rw[ur j3,ur j2,ur ua]
       ·cases h
      ·cases h
     ·cases h
    ·cases h
   ·cases h
theorem zws{e len:Nat}{l:List (Nat×Operand)}{ss:List S}(hx:zjH (l.map (·.2)) ss)(he:elemSz P t=some (el,e))(hz:zeroV P el=some z)
 (hr:partsR e 0 (l.map (·.1)) ss=some rows) (hl:Nat.beq l.length len=true) (hb:Nat.ble (len*e) 16777216=true) (hb2:Nat.ble len 16777216=true):
 Snd P ⟨d,.buildSlice t len l.toArray,ty,ps,af,g⟩ (rqs (l.map (·.2)) ss) [] [] (.one (.p (.sl e rows))) []:=by
 intro C st M ρ a w hH h1 hT hF hd k Q hk
 have e':=hH.zlj (jv hx h1)
 obtain⟨h2,h3,out,h4,h5,h6⟩:=zaA hr e'
 obtain⟨ii,hu,hinf,hsz⟩:=zB he
 obtain⟨i',zv,hi',hzv,hzs⟩:=wm hz
 rw[hinf]at hi';simp only[um]at hi';subst hi'
 have hl':l.length=len:=u0 hl
 have hb':len*e<=16777216:=tz hb
 have hrl:rows.length=len:=by rw[h3];simpa using hl'
 have hzip:(l.toArray.map λp=>(p.1,a.eval p.2)).toList=(l.map (·.1)).zip ((l.map (·.2)).map a.eval):=by
  rw[oi];simp[Up]
 have hfull: ∀cur:Array Value,cur.size=len*e->(setAt cur.toList (0*e) out).toArray=out.toArray:=λcur hc=>by
  unfold setAt
  have:cur.toList.drop (0*e+out.length)=[]:=by apply tf;simp[h5,hrl,hc]
  rw[this];simp
 have hrun:(execOp a.eval ⟨d,.buildSlice t len l.toArray,ty,ps,af,g⟩).run P w= .ok (.value (.slice (some ⟨w.heap.size,0,none⟩) len len)) (w.alloc (.cells out.toArray el)):=by
  have hn: ¬16777216<len*e:=by omega
  by_cases h0:len*e=0
  ·have hf:=h6 ((Array.range (len*e)).map λx=>(#[]:Array Value)[x % 0]!) (by simp[hrl])
   rw[hfull _ ue]at hf
   rw[<-hzip]at hf
   simp only[h0]at hf
   simp[execOp,Instr.buildSlice,run_underlying hu,run_sizeOf hinf,hsz,h0,newRow]at hf⊢
   simp[hf]
  ·have hf:=h6 ((Array.range (len*e)).map λx=>zv.cells[x % zv.cells.size]!) (by simp[hrl])
   rw[hfull _ ue]at hf
   rw[<-hzip]at hf
   have hzrun:(zeroValue el).run P w= .ok zv w:=by simp[zeroValue,typeInfo,hinf,hzv]
   simp[execOp,Instr.buildSlice,run_underlying hu,run_sizeOf hinf,hsz,hn,h0,newRow,hzrun]at hf⊢
   simp[hf]
 unfold Oper.wp
 rw[hrun,Oper.upon_value]
 have hH':=hH.zvg out el
 refine hk _ _ _ _ (hH'.zcV hd ?_)
 simp only[RepS,RepV,RepPV]
 refine⟨some ⟨w.heap.size,0,none⟩,len,by rw[hrl],ua,by have:=tz hb2;omega,.inr ⟨w.heap.size,0,rfl,RowsIn.yx h2 (RepVs.mono (zol hH.run.imm) _ _ h4) λj c hj=>?_⟩⟩
 ·simp only[zok,uv];rw[tI];exact hj
end
end Hw
namespace Hw
open Go Go.MapKept
structure zwt (K:Type) [DecidableEq K] where
 d:TypeDesc
 enc:K->Value
 one: ∀k,(enc k).oneCell'=true
 isKey: ∀k,IsKey d (enc k)
 same: ∀a b,Instr.sameNow d (enc a) (enc b)=some (decide (a=b))
section
variable {K:Type} [DecidableEq K]
theorem EntsOf.append{M:Mem}: ∀ {a b:List (PV×PV)} {x y:List MapEntry},EntsOf M a x->EntsOf M b y->EntsOf M (a++b) (x++y)
 | [],_,[],_,_,h=>by simpa using h
 | [],_,_::_,_,h,_=>by simp only[EntsOf]at h
 |_::_,_,[],_,h,_=>by simp only[EntsOf]at h
 |(p,q)::a,_,x::xs,_,h,h'=>by
  simp only[EntsOf,ta]at h⊢
  exact⟨h.1,h.2.1,h.2.2.append h'⟩
variable {P:Program} {d:Option Nat} {ty:TypeId} {ps:String} {af:Array Edge} {g:Option (Nat×Bool)} {x y u:Operand} {t kt et:TypeId}
end
end Hw
namespace Hw
open Go
def lst:Cur->Bool
 | .ops _ _ (some _)=>false
 |_=>true
variable {C:Ctx}{P:Program}{Q:Exit->St->Prop}{cur:Cur}{tab:Tab}
theorem zdF{k:List Frm}{n:Nat}{sl sl':zl}{tab':Tab}(hc:lst cur=true)
 (h: ∀ {M ρ a w},Holds C ⟨n,sl,tab⟩ M ρ a w-> ∃M' ρ',Holds C ⟨n,sl',tab'⟩ M' ρ' a w) (g:Goal P C cur k n sl' tab' Q):Goal P C cur k n sl tab Q:=by
 refine zwq (λa r p e=>?_) h g
 subst e;cases hc
variable {rows:List (List PV)}{vs:List V}
theorem jm{k:List Frm}{n:Nat}{sl:zl}(hc:lst cur=true)(t j:Nat){e:Nat}(ht:sg sl t=some (.agg vs))(hj:vs[j]?=some (.p (.sl e rows)))(g:rows.length<=9223372036854775807->Goal P C cur k n sl tab Q):Goal P C cur k n sl tab Q:=
 zvf (λa r p e=>by subst e;cases hc) (λ{M ρ a w} h=>by
  have:=h.slots t _ ht
  simp only[RepS]at this
  obtain⟨cs,_,h2⟩:=this
  obtain⟨u,_,h3⟩:=h2.get hj
  simp only[RepV,RepPV]at h3
  obtain⟨_,_,_,_,h3,_⟩:=h3
  exact h3) g
def FrV(id e:Nat)(rows:List (List PV))(v v':V):Prop:= ∀M ρ x,RepPV M (.sl e rows) (ρ id)->RepV M ρ v x->RepV M ρ v' x
def ze1(id e:Nat)(rows:List (List PV))(v v':List V):Prop:= ∀M ρ x,RepPV M (.sl e rows) (ρ id)->RepVs M ρ v x->RepVs M ρ v' x
def FrS(id e:Nat)(rows:List (List PV))(v v':S):Prop:= ∀M ρ x,RepPV M (.sl e rows) (ρ id)->RepS M ρ v x->RepS M ρ v' x
variable {id:Nat}{v':V}
section
variable {e:Nat}
theorem FrV.refl(v:V):FrV id e rows v v:=λ_ _ _ _ h=>h
theorem FrV.le{v:V}(h:LeV v v'):FrV id e rows v v':=λ_ _ _ _ hr=>h _ _ _ hr
theorem FrV.ar:FrV id e rows (.ar id) (.p (.sl e rows)):=λ_ _ _ h hr=>by simp only[RepV]at hr ⊢; rw[hr.1];exact h
theorem ze1.nil:ze1 id e rows [] []:=λ_ _ _ _ h=>h
theorem ze1.refl(v:List V):ze1 id e rows v v:=λ_ _ _ _ h=>h
theorem ze1.cons{v v':V}{vs vs':List V}(h:FrV id e rows v v')(hs:ze1 id e rows vs vs'):ze1 id e rows (v::vs) (v'::vs'):=λM ρ x hf hr=>by
 cases x with
 |nil=>simp only[RepVs]at hr
 |cons c cs=>simp only[RepVs]at hr ⊢; exact⟨h _ _ _ hf hr.1,hs _ _ _ hf hr.2⟩
theorem FrS.one{v v':V}(h:FrV id e rows v v'):FrS id e rows (.one v) (.one v'):=λM ρ x hf hr=>by simp only[RepS]at hr ⊢; exact h _ _ _ hf hr
theorem FrS.agg{v v':List V}(h:ze1 id e rows v v'):FrS id e rows (.agg v) (.agg v'):=λM ρ x hf hr=>by
 simp only[RepS]at hr ⊢; obtain⟨cs,h1,h2⟩:=hr;exact⟨cs,h1,h _ _ _ hf h2⟩
theorem FrS.ar:FrS id e rows (.one (.ar id)) (.one (.p (.sl e rows))):=FrS.one FrV.ar
end
def upS(R:S->S->Prop)(sl:zl):zl->Prop
 | []=>True
 |(t,s')::r=>(∃s,sg sl t=some s/\R s s')/\upS R sl r
def upB(R:List V->List V->Prop)(id:Nat)(tab:Tab):List (Nat×List V)->Prop
 | []=>True
 |(i,vs')::r=>(∃vs,tg tab i=some (.box vs)/\i≠id/\R vs vs')/\upB R id tab r
def zgE:List (Nat×List V)->Tab
 | []=>[]
 |(i,vs)::r=>(i,some (.box vs))::zgE r
theorem zfN{R:S->S->Prop}{sl:zl}: ∀ {ups:zl},upS R sl ups-> ∀ {k:Nat} {s:S},sg (ups++sl) k=some s->sg sl k=some s\/ ∃s0,sg sl k=some s0/\R s0 s
 | [],_,k,s,h=> .inl h
 |(t,s')::r,hu,k,s,h=>by
  simp only[ta,yV]at h
  split at h
  ·rename_i e;subst e;simp only[um]at h;subst h
   exact .inr hu.1
  ·exact zfN hu.2 h
theorem zrg{R:List V->List V->Prop}{id:Nat}{tab b:Tab}(hb: ∀i r,tg b i=some r->tg tab i=some r): ∀ {ups:List (Nat×List V)},upB R id tab ups-> ∀ {k:Nat} {r:Res},tg (zgE ups++b) k=some r->
 tg b k=some r\/ ∃vs vs',tg tab k=some (.box vs)/\k≠id/\R vs vs'/\r= .box vs'
 | [],_,k,r,h=> .inl h
 |(t,s')::l,hu,k,r,h=>by
  simp only[zgE,ta,zX]at h
  split at h
  ·rename_i e;subst e;simp only[um]at h;subst h
   obtain⟨vs,h1,h2,h3⟩:=hu.1
   exact .inr ⟨vs,s',h1,h2,h3,rfl⟩
  ·exact zrg hb hu.2 h
def zvh(M:Mem)(b o m:Nat)(cs:Array Value):Mem:=λb' i=>if b'=b/\o<=i/\i<o+m then cs[i]? else M b' i
def zwF(id:Nat)(pv:PV)(v v':List V):Prop:= ∀M ρ x,RepPV M pv (ρ id)->RepVs M ρ v x->RepVs M ρ v' x
def FpS(id:Nat)(pv:PV)(v v':S):Prop:= ∀M ρ x,RepPV M pv (ρ id)->RepS M ρ v x->RepS M ρ v' x
theorem zvi{k:List Frm}{n:Nat}{sl:zl}(hc:lst cur=true){r0:Res}(pv:PV)(hid:tg tab id=some r0)
 (hp: ∀M ρ w,zH M ρ w id r0->RepPV M pv (ρ id)\/ ∃(b o m:Nat) (cs:Array Value) (el:TypeId) (fz:Nat×Nat),Bk (ρ id) b/\w.heap[b]?=some (.cells cs el fz)/\ ∀M',MLe M M'->(∀i,o<=i->i<o+m->M' b i=cs[i]?)->RepPV M' pv (ρ id))
 (ups:zl) (hS:upS (FpS id pv) sl ups) (bs:List (Nat×List V)) (hB:upB (zwF id pv) id tab bs) (g:Goal P C cur k n (ups++sl) (zgE bs++((id,none)::tab)) Q):Goal P C cur k n sl tab Q:=by
 refine zdF hc (λ{M ρ a w} h=>?_) g
 have hoff: ∀i r,tg ((id,none)::tab) i=some r->tg tab i=some r:=λi r hi=>by
  rw[zX]at hi;split at hi
  ·cases hi
  ·exact hi
 have hoff': ∀i r,tg ((id,none)::tab) i=some r->i≠id:=λi r hi=>by
  rw[zX]at hi;split at hi
  ·cases hi
  ·rename_i h;exact λe=>h e.symm
 -- what the table has of an id that is left
 have htab: ∀i r,tg (zgE bs++((id,none)::tab)) i=some r->i≠id/\(tg tab i=some r\/ ∃vs vs',tg tab i=some (.box vs)/\zwF id pv vs vs'/\r= .box vs'):=λi r hi=>by
  rcases zrg (tab:=tab) hoff hB hi with h1|⟨vs,vs',h1,h2,h3,h4⟩
  ·exact⟨hoff' i r h1,.inl (hoff i r h1)⟩
  ·exact⟨h2,.inr ⟨vs,vs',h1,h3,h4⟩⟩
 have fin: ∀M':Mem,MLe M M'->Imm M' w->(∀b o u,M' b o=some u->M b o=some u\/(¬C.fr b/\Bk (ρ id) b))->RepPV M' pv (ρ id)->
  ∃M' ρ',Holds C ⟨n,ups++sl,zgE bs++((id,none)::tab)⟩ M' ρ' a w:=λM' hle himm hnew hrep=>by
  have old: ∀i r,tg (zgE bs++((id,none)::tab)) i=some r-> ∃r0,tg tab i=some r0/\i≠id:=λi r hi=>by
   obtain⟨h1,h2|⟨vs,vs',h2,_⟩⟩:=htab i r hi
   ·exact⟨r,h2,h1⟩
   ·exact⟨_,h2,h1⟩
  refine⟨M',ρ,h.dfr,h.sz,λk s hk=>?_,⟨λi r hi=>?_,λi j ri rj b hi hj hne hbi hbj=>?_,λi r b hi hb o=>?_⟩,λi r b hi hb=>?_,⟨himm,h.run.fram,h.run.size,h.run.base.trans hle,λb o u hu=>?_,h.run.os,h.run.tape,h.run.output⟩,h.keep⟩
  ·rcases zfN hS hk with h1|⟨s0,h1,h2⟩
   ·exact RepS.mono hle _ _ (h.slots k s h1)
   ·exact h2 _ _ _ hrep (RepS.mono hle _ _ (h.slots k s0 h1))
  ·obtain⟨_,h2|⟨vs,vs',h2,h3,rfl⟩⟩:=htab i r hi
   ·exact(h.yh.res i r h2).mono hle
   ·obtain⟨b,cs,el,e1,e2,e3⟩:=h.yh.res i _ h2
    exact⟨b,cs,el,e1,e2,h3 _ _ _ hrep (RepVs.mono hle _ _ e3)⟩
  ·obtain⟨si,h1,_⟩:=old i ri hi
   obtain⟨sj,h2,_⟩:=old j rj hj
   exact h.yh.dis i j si sj b h1 h2 hne hbi hbj
  ·obtain⟨si,h1,h2⟩:=old i r hi
   cases hm:M' b o with
   |none=>rfl
   |some u=>
    rcases hnew b o u hm with h3|⟨_,h3⟩
    ·rw[h.yh.own i si b h1 hb o]at h3;cases h3
    ·exact(h.yh.dis i id si _ b h1 hid h2 hb h3).elim
  ·obtain⟨si,h1,_⟩:=old i r hi
   exact h.ownf i si b h1 hb
  ·rcases hnew b o u hu with h3|⟨h3,_⟩
   ·exact h.run.newM b o u h3
   ·exact .inr h3
 rcases hp M ρ w (h.yh.res id _ hid)with h4|⟨b,o,m,cs,el,fz,hb,h6,h8⟩
 ·exact fin M (MLe.refl M) h.run.imm (λb o u hu=> .inl hu) h4
 ·have hown:=h.yh.own id _ b hid hb
  have hle:MLe M (zvh M b o m cs):=λb' i v hv=>by
   simp only[zvh]
   split
   ·rename_i hh;rw[hh.1,hown i]at hv;cases hv
   ·exact hv
  refine fin _ hle (λb' i v hv=>?_) (λb' i v hv=>?_) (h8 _ hle λi h1 h2=>?_)
  ·simp only[zvh]at hv
   split at hv
   ·rename_i hh;rw[hh.1];simp[World.cell?,h6,hv]
   ·exact h.run.imm b' i v hv
  ·simp only[zvh]at hv
   split at hv
   ·rename_i hh;exact .inr ⟨by rw[hh.1];exact h.ownf id _ b hid hb,by rw[hh.1];exact hb⟩
   ·exact .inl hv
  ·simp only[zvh];rw[uv ⟨uh,h1,h2⟩]
theorem zoC{k:List Frm}{n:Nat}{sl:zl}(hc:lst cur=true){e:Nat}(hid:tg tab id=some (.arr e rows))
 (ups:zl) (hS:upS (FrS id e rows) sl ups) (bs:List (Nat×List V)) (hB:upB (ze1 id e rows) id tab bs) (g:Goal P C cur k n (ups++sl) (zgE bs++((id,none)::tab)) Q):Goal P C cur k n sl tab Q:=by
 refine zvi hc (.sl e rows) hid (λM ρ w hR=>?_) ups hS bs hB g
 obtain⟨a',cap,h1,h2,h3,h4⟩:=hR
 rcases h4 with⟨rfl,hcap⟩|⟨b,o,cs,el,fz,rfl,h6,_,h7,h8⟩
 ·refine .inl ?_
  simp only[RepPV]
  exact⟨none,cap,h1,h2,qn h2 h3,.inl (uS.1 ua)⟩
 ·refine .inr ⟨b,o,rows.length*e,cs,el,fz,by rw[h1];rfl,h6,λM' hle hM=>?_⟩
  simp only[RepPV]
  refine⟨some ⟨b,o,none⟩,cap,h1,h2,qn h2 h3,.inr ⟨b,o,rfl,?_⟩⟩
  refine RowsIn.congr (λj hj=>?_) (RowsIn.mono hle (λ_ _ hh=>hh) _ _ h8)
  exact(hM (o+j) ua ua).symm ▸ rfl
theorem FpS.bx{id:Nat}{row:List PV}:FpS id (.pr row) (.one (.bx id 0)) (.one (.p (.pr row))):=λM ρ x h hr=>by
 simp only[RepS,RepV]at hr⊢
 obtain⟨b,h1,rfl⟩:=hr
 rw[<-h1];exact h
theorem znA{k:List Frm}{n:Nat}{sl:zl}(hc:lst cur=true)(row:List PV)(hid:tg tab id=some (.box (row.map V.p)))
 (ups:zl) (hS:upS (FpS id (.pr row)) sl ups) (g:Goal P C cur k n (ups++sl) ((id,none)::tab) Q):Goal P C cur k n sl tab Q:=by
 refine zvi hc (.pr row) hid (λM ρ w hR=> .inr ?_) ups hS [] uh g
 obtain⟨b,cs,el,h1,h2,h3⟩:=hR
 refine⟨b,0,cs.length,cs.toArray,el,(0,0),by rw[h1];rfl,h2,λM' hle hM=>?_⟩
 simp only[RepPV]
 refine⟨b,0,h1,?_⟩
 have key: ∀(row:List PV) (l:List Value) (o:Nat),RepVs M ρ (row.map V.p) l->(∀i c,l[i]?=some c->M' b (o+i)=some c)->RowIn M' (M' b) row o:=by
  intro row
  induction row with
  |nil=>intro l o _ _;simp only[RowIn]
  |cons x xs ih=>
   intro l o hl hg
   cases l with
   |nil=>simp only[tK,RepVs]at hl
   |cons c l=>
    simp only[tK,RepVs]at hl
    simp only[RowIn]
    refine⟨⟨c,hg 0 c rfl,?_⟩,ih l (o+1) hl.2 λi c' hi=>by rw[show o+1+i=o+(i+1) by omega];exact hg (i+1) c' (by simpa using hi)⟩
    have:=hl.1
    simp only[RepV]at this
    exact RepPV.mono hle x c this
 exact key row cs 0 h3 λi c hi=>by
  have hlt:i<cs.length:=(ui.1 hi).1
  rw[hM (0+i) ua ua]
  simpa using hi
def AdV(id:Nat)(v v':V):Prop:= ∀M ρ x,ρ id= .slice none 0 0->RepV M ρ v x->RepV M ρ v' x
def zds(id:Nat)(v v':List V):Prop:= ∀M ρ x,ρ id= .slice none 0 0->RepVs M ρ v x->RepVs M ρ v' x
def AdS(id:Nat)(v v':S):Prop:= ∀M ρ x,ρ id= .slice none 0 0->RepS M ρ v x->RepS M ρ v' x
theorem AdV.refl(v:V):AdV id v v:=λ_ _ _ _ h=>h
theorem AdV.nil:AdV id (.p (.k (.slice none 0 0))) (.ar id):=λ_ _ _ h hr=>by simp only[RepV,RepPV]at hr ⊢; rw[h];exact⟨hr.1,by rw[hr.1];rfl⟩
theorem zds.nil:zds id [] []:=λ_ _ _ _ h=>h
theorem zds.refl(v:List V):zds id v v:=λ_ _ _ _ h=>h
theorem zds.cons{v v':V}{vs vs':List V}(h:AdV id v v')(hs:zds id vs vs'):zds id (v::vs) (v'::vs'):=λM ρ x hf hr=>by
 cases x with
 |nil=>simp only[RepVs]at hr
 |cons c cs=>simp only[RepVs]at hr ⊢; exact⟨h _ _ _ hf hr.1,hs _ _ _ hf hr.2⟩
theorem AdS.one{v v':V}(h:AdV id v v'):AdS id (.one v) (.one v'):=λM ρ x hf hr=>by simp only[RepS]at hr ⊢; exact h _ _ _ hf hr
theorem AdS.agg{v v':List V}(h:zds id v v'):AdS id (.agg v) (.agg v'):=λM ρ x hf hr=>by
 simp only[RepS]at hr ⊢; obtain⟨cs,h1,h2⟩:=hr;exact⟨cs,h1,h _ _ _ hf h2⟩
theorem AdS.nil:AdS id (.one (.p (.k (.slice none 0 0)))) (.one (.ar id)):=AdS.one AdV.nil
theorem zlo{k:List Frm}{n:Nat}{sl:zl}(hC:C.low)(hc:lst cur=true)(id e:Nat)(hf:(Nat.ble 100 id&&freshB id ⟨n,sl,tab⟩)=true)
 (ups:zl) (hS:upS (AdS id) sl ups) (bs:List (Nat×List V)) (hB:upB (zds id) id tab bs) (g:Goal P C cur k n (ups++sl) (zgE bs++((id,some (.arr e []))::tab)) Q):Goal P C cur k n sl tab Q:=by
 refine zdF hc (λ{M ρ a w} h=>?_) g
 simp only[uu]at hf
 have hfr:zbk C id ⟨n,sl,tab⟩:=wP hf.2 (hC.none (tz hf.1))
 have hρ:upd ρ id (.slice none 0 0) id= .slice none 0 0:=zw _ _ _
 have agr:=yZ ρ id (.slice none 0 0)
 have hn: ∀i r,tg tab i=some r->i≠id:=λi r hi=>(hfr.2.1 i r hi).1
 have htab: ∀i r,tg (zgE bs++((id,some (.arr e []))::tab)) i=some r->(i=id/\r= .arr e [])\/(i≠id/\(tg tab i=some r\/ ∃vs vs',tg tab i=some (.box vs)/\zds id vs vs'/\r= .box vs')):=λi r hi=>by
  have: ∀ {ups:List (Nat×List V)},upB (zds id) id tab ups->tg (zgE ups++((id,some (.arr e []))::tab)) i=some r->(i=id/\r= .arr e [])\/(i≠id/\(tg tab i=some r\/ ∃vs vs',tg tab i=some (.box vs)/\zds id vs vs'/\r= .box vs')):=by
   intro ups
   induction ups with
   |nil=>
    intro _ hi
    replace hi:tg ((id,some (.arr e []))::tab) i=some r:=hi
    rw[zX]at hi
    split at hi
    ·rename_i e';exact .inl ⟨e'.symm,(uy hi).symm⟩
    ·rename_i e';exact .inr ⟨λh=>e' h.symm,.inl hi⟩
   |cons x xs ih=>
    obtain⟨t,vs'⟩:=x
    intro hu hi
    simp only[zgE,ta,zX]at hi
    split at hi
    ·rename_i e'
     have hi':=uy hi
     obtain⟨vs,h1,h2,h3⟩:=hu.1
     rw[e']at h1 h2
     exact .inr ⟨h2,.inr ⟨vs,vs',h1,h3,hi'.symm⟩⟩
    ·exact ih hu.2 hi
  exact this hB hi
 have old: ∀i r,i≠id->tg (zgE bs++((id,some (.arr e []))::tab)) i=some r-> ∃r0,tg tab i=some r0:=λi r hne hi=>by
  rcases htab i r hi with⟨h1,_⟩|⟨_,h2|⟨vs,vs',h2,_⟩⟩
  ·exact absurd h1 hne
  ·exact⟨r,h2⟩
  ·exact⟨_,h2⟩
 have hb0: ∀b,¬Bk (upd ρ id (.slice none 0 0) id) b:=λb=>by rw[hρ];simp[Bk,blk]
 refine⟨M,upd ρ id (.slice none 0 0),h.dfr,h.sz,λk s hk=>?_,⟨λi r hi=>?_,λi j ri rj b hi hj hne hbi hbj=>?_,λi r b hi hb o=>?_⟩,λi r b hi hb=>?_,h.run,λi r hi=>?_⟩
 ·have base: ∀s,sg sl k=some s->RepS M (upd ρ id (.slice none 0 0)) s (a.tmps.getD k undef):=λs hs=>RepS.agree agr _ _ (λi hi=>by subst hi;exact hfr.1 k s hs) (h.slots k s hs)
  rcases zfN hS hk with h1|⟨s0,h1,h2⟩
  ·exact base s h1
  ·exact h2 _ _ _ hρ (base s0 h1)
 ·rcases htab i r hi with⟨rfl,rfl⟩|⟨hne,h2|⟨vs,vs',h2,h3,rfl⟩⟩
  ·exact⟨none,0,hρ,uG _,ue,.inl ⟨rfl,rfl⟩⟩
  ·exact(h.yh.res i r h2).agree agr hne (λj hj=>by subst hj;exact(hfr.2.1 i r h2).2)
  ·obtain⟨b,cs,el,e1,e2,e3⟩:=(h.yh.res i _ h2).agree agr hne (λj hj=>by subst hj;exact(hfr.2.1 i _ h2).2)
   exact⟨b,cs,el,e1,e2,h3 _ _ _ hρ e3⟩
 ·by_cases e1:i=id
  ·subst e1;exact(hb0 b hbi).elim
  ·by_cases e2:j=id
   ·subst e2;exact(hb0 b hbj).elim
   ·obtain⟨si,h1⟩:=old i ri e1 hi
    obtain⟨sj,h2⟩:=old j rj e2 hj
    rw[zL e1]at hbi;rw[zL e2]at hbj
    exact h.yh.dis i j si sj b h1 h2 hne hbi hbj
 ·by_cases e1:i=id
  ·subst e1;exact(hb0 b hb).elim
  ·obtain⟨si,h1⟩:=old i r e1 hi
   rw[zL e1]at hb
   exact h.yh.own i si b h1 hb o
 ·by_cases e1:i=id
  ·subst e1;exact(hb0 b hb).elim
  ·obtain⟨si,h1⟩:=old i r e1 hi
   rw[zL e1]at hb
   exact h.ownf i si b h1 hb
 ·have:i<100:=hC i r hi
  have:=tz hf.1
  rw[zL ua];exact h.keep i r hi
variable {af:Array Edge}{ps:String}{rest:List Oper}
section
variable {d:Option Nat} {ty:TypeId} {g:Option (Nat×Bool)} {x:Operand} {t t' kt et:TypeId}
theorem zcQ{k:List Frm}{n:Nat}{sl:zl}{all:Array Oper}{d0:Nat}{e:Nat}(hx:ev sl x=some (.one (.p (.sl e rows))))(hu:P.underlying t=some (.slice et))(hd:Nat.blt d0 n=true)
 (gg: ∀b:Bool,(b=true->rows=[])->Goal P C (.ops all rest none) k n ((d0,.bq b)::sl) tab Q):
 Goal P C (.ops all (⟨some d0,.binOp .eql t x (.const (.slice none 0 0)) t',ty,ps,af,none⟩::rest) none) k n sl tab Q:=by
 refine λM ρ a w hH=>wpList_step λK hK=>?_
 simp only[Region.wanted,qx]
 have e1:=hH.evS hx
 simp only[RepS,RepV,RepPV]at e1
 obtain⟨ad,cap,h1,h2,h3,h4⟩:=e1
 have hc:a.eval (.const (.slice none 0 0))= .slice none 0 0:=rfl
 have hr:(binOp .eql t (.slice ad rows.length cap) (.slice none 0 0)).run P w= .ok (.bool ad.isNone) w:=by
  have:binOp .eql t (.slice ad rows.length cap) (.slice none 0 0)=(do pure (.bool (<-Op.equal t (.slice ad rows.length cap) (.slice none 0 0)))):=rfl
  rw[this];simp[run_equal_slice_nil w t et ad rows.length cap hu]
 have hg:(eqGuard .eql t x (.const (.slice none 0 0)) (.slice ad rows.length cap) (.slice none 0 0)).run P w= .ok () w:=rfl
 unfold Oper.wp
 have hrun:(execOp a.eval ⟨some d0,.binOp .eql t x (.const (.slice none 0 0)) t',ty,ps,af,none⟩).run P w= .ok (.value (.bool ad.isNone)) w:=by
  simp only[execOp,h1,hc,Sem.run_bind,hg,hr,Result.andThen_ok,Sem.run_pure]
 rw[hrun,Oper.upon_value]
 refine hK _ _ (gg ad.isNone (λhb=>?_) M ρ _ w (hH.put (by simpa [o8]using hd) (by simp only[RepS])))
 rcases h4 with h4|⟨b,o,rfl,_⟩
 ·exact h4
 ·cases hb
end
section
variable {k:List Frm} {n:Nat} {sl:zl} {all:Array Oper}
theorem ztp(T:Ty P)(hC:C.low){d:Nat}{t:TypeId}{len:Nat}{l:List (Nat×Operand)}{ty:TypeId}{g0:Option (Nat×Bool)}{gs:zl}{md:Mode}{ss:List S}{el:TypeId}{e:Nat}{z:List V}
 (hl:evs sl (l.map (·.2))=some ss) (he:T.es t=some (el,e)) (hz:T.zs el=some z) (hr:partsR e 0 (l.map (·.1)) ss=some rows) (hl1:Nat.beq l.length len=true) (hl2:Nat.ble (len*e) 16777216=true) (hl3:Nat.ble len 16777216=true)
 (hm:metL all sl g0=some gs) (hd:Nat.blt d n=true)
 (g:Goal P C (.ops all rest (nx md ⟨some d,gs++rqs (l.map (·.2)) ss,[],[],.one (.p (.sl e rows)),[]⟩)) k n ((d,.one (.p (.sl e rows)))::sl) tab Q):
 Goal P C (.ops all (⟨some d,.buildSlice t len l.toArray,ty,ps,af,g0⟩::rest) md) k n sl tab Q:=by
 have e2:=jw (st:=⟨n,sl,tab⟩) hl
 have:=zp hm (zws (ty:=ty) (ps:=ps) (af:=af) (g:=g0) (d:=some d) e2.1 (T.es_ok _ _ he) (T.zs_ok _ _ hz) hr hl1 hl2 hl3) (n:=n) (tab:=tab)
 exact yk (L:=⟨some d,gs++rqs (l.map (·.2)) ss,[],[],.one (.p (.sl e rows)),[]⟩) hC this.1 rfl ⟨by rw[zd];exact⟨this.2,e2.2⟩,trivial,rfl,hd⟩ g
end
end Hw
namespace Hw.M
open Go
abbrev Str:=ByteArray
structure Fld where
 n:Str
 t:Str
structure zaa where
 n:Str
 f:List Fld
inductive Ex where
 |mk (op n:Int) (s:Str) (l:List Ex)
def Ex.op:Ex->Int| .mk a _ _ _=>a
def Ex.n:Ex->Int| .mk _ a _ _=>a
def Ex.s:Ex->Str| .mk _ _ a _=>a
def Ex.l:Ex->List Ex| .mk _ _ _ a=>a
inductive Sm where
 |mk (op:Int) (s:Str) (e:List Ex) (l els:List Sm)
def Sm.op:Sm->Int| .mk a _ _ _ _=>a
def Sm.s:Sm->Str| .mk _ a _ _ _=>a
def Sm.e:Sm->List Ex| .mk _ _ a _ _=>a
def Sm.l:Sm->List Sm| .mk _ _ _ a _=>a
def Sm.els:Sm->List Sm| .mk _ _ _ _ a=>a
structure Pr where
 n:Str
 params:List Fld
 res:Str
 locs:List Fld
 body:List Sm
structure Ms where
 n:Str
 t:Str
 z:Int
 x:Ex
structure Iv where
 n:Str
 t:Str
 x:Ex
structure Pt where
 t:Str
 x:Ex
structure Bd where
 p:Str
 x:Ex
structure xo where
 n:Str
 types:List zaa
 globals:List Fld
 procs:List Pr
 measures:List Ms
 invs:List Iv
 pots:List Pt
 bounds:List Bd
structure Nd where
 t:Int
 f:List Int
 deriving DecidableEq
structure Hp where
 g:List Int
 n:List Nd
 deriving DecidableEq
abbrev ki(n:Int):PV:= .k (.int .i64 n)
abbrev ks(s:Str):PV:= .k (.string s)
def zR(n:Int):List PV:=[ki n]
def zwV(s:Str):List PV:=[ks s]
def zA(l:List Int):PV:= .sl 1 (l.map zR)
def zdg(l:List Str):PV:= .sl 1 (l.map zwV)
def zM(f:Fld):List PV:=[ks f.n,ks f.t]
def yb(l:List Fld):PV:= .sl 2 (l.map zM)
def yz(t:zaa):List PV:=[ks t.n,yb t.f]
mutual
def zG:Ex->List PV
 | .mk op n s l=>[ki op,ki n,ks s,.sl 4 (exprRs l)]
def exprRs:List Ex->List (List PV)
 | []=>[]
 |e::es=>zG e::exprRs es
end
theorem zd2: ∀l:List Ex,exprRs l=l.map zG
 | []=>rfl
 |e::es=>by simp only[exprRs,tK,zd2 es]
def xL(l:List Ex):PV:= .sl 4 (l.map zG)
theorem zd5(e:Ex):zG e=[ki e.op,ki e.n,ks e.s,xL e.l]:=by
 cases e;simp only[zG,zd2,Ex.op,Ex.n,Ex.s,Ex.l,xL]
mutual
def vC:Sm->List PV
 | .mk op s e l els=>[ki op,ks s,xL e,.sl 5 (stmtRs l),.sl 5 (stmtRs els)]
def stmtRs:List Sm->List (List PV)
 | []=>[]
 |e::es=>vC e::stmtRs es
end
theorem zd3: ∀l:List Sm,stmtRs l=l.map vC
 | []=>rfl
 |e::es=>by simp only[stmtRs,tK,zd3 es]
def yF(l:List Sm):PV:= .sl 5 (l.map vC)
theorem zd6(e:Sm):vC e=[ki e.op,ks e.s,xL e.e,yF e.l,yF e.els]:=by
 cases e;simp only[vC,zd3,Sm.op,Sm.s,Sm.e,Sm.l,Sm.els,yF]
def yG(e:Ex):List PV:=[ki e.op,ki e.n,ks e.s,xL e.l]
def za7(s:Sm):List PV:=[ki s.op,ks s.s,xL s.e,yF s.l,yF s.els]
def xc(p:Pr):List PV:=[ks p.n,yb p.params,ks p.res,yb p.locs,yF p.body]
def yt(m:Ms):List PV:=ks m.n::ks m.t::ki m.z::yG m.x
def zeo(m:Iv):List PV:=ks m.n::ks m.t::yG m.x
def zfp(m:Pt):List PV:=ks m.t::yG m.x
def x8(m:Bd):List PV:=ks m.p::yG m.x
def vz(d:xo):List PV:=[ks d.n,.sl 2 (d.types.map yz),yb d.globals,.sl 5 (d.procs.map xc),.sl 7 (d.measures.map yt),.sl 6 (d.invs.map zeo),.sl 5 (d.pots.map zfp),.sl 5 (d.bounds.map x8)]
abbrev zm(r:List PV):S:= .agg (r.map V.p)
abbrev pS(x:PV):S:= .one (.p x)
variable {α:Type}{f:α->List PV}{i:Nat}{x:α}
theorem zg{l:List α}(h:l[i]?=some x):(l.map f)[((i:Nat):Int).toNat]?=some (f x):=by simp[h]
theorem yg{l:List α}{i:Int}(h:l[i.toNat]?=some x):(l.map f)[i.toNat]?=some (f x):=by simp[h]
theorem jy{l:List Ex}{x:Ex}(h:l[i]?=some x):(l.map zG)[((i:Nat):Int).toNat]?=some (yG x):=by simp[h,zd5,yG]
theorem zll{l:List Sm}{x:Sm}(h:l[i]?=some x):(l.map vC)[((i:Nat):Int).toNat]?=some (za7 x):=by simp[h,zd6,za7]
theorem ze{l:List α}(h:i<l.length): ∃x,l[i]?=some x:=⟨l[i],uM h⟩
theorem wrap64{n:Int}(h: -9223372036854775808<=n/\n<=9223372036854775807):IntKind.i64.wrap n=n:=Go.IntWalk.i64_in _ h
variable {p:α->Bool}
theorem ya{l:List α}(h:l[i]?=some x):(l.take (i+1)).all p=((l.take i).all p&&p x):=by
 rw[tG,h];simp
theorem xJ{l:List α}(h:l[i]?=some x)(hp:p x=false):l.all p=false:=by
 rw[List.all_eq_false];exact⟨x,List.mem_of_getElem? h,by simp[hp]⟩
theorem xm{l:List α}(h:l.length<=i)(hp:(l.take i).all p=true):l.all p=true:=by
 rw[uT h]at hp;exact hp
theorem zd8{l:List α}(h:l[i]?=some x):(l.take (i+1)).any p=((l.take i).any p||p x):=by
 rw[tG,h];simp
theorem zlp{l:List α}(h:l[i]?=some x)(hp:p x=true):l.any p=true:=by
 rw[oB];exact⟨x,List.mem_of_getElem? h,hp⟩
theorem zgF{l:List α}(h:l.length<=i)(hp:(l.take i).any p=false):l.any p=false:=by
 rw[uT h]at hp;exact hp
def idxOf{α:Type}(p:α->Bool):List α->Int
 | []=> -1
 |x::xs=>if p x then 0 else match idxOf p xs with| .ofNat n=> .ofNat (n+1)| .negSucc n=> .negSucc n
theorem ziM{α:Type}{p:α->Bool}: ∀ {l:List α} {i:Nat} {x:α},l[i]?=some x->p x=true->(l.take i).any p=false->idxOf p l=i
 | [],i,x,h,_,_=>by simp at h
 |y::ys,0,x,h,hp,_=>by simp at h;subst h;simp[idxOf,hp]
 |y::ys,i+1,x,h,hp,hn=>by
  simp at h
  simp only[tX,qU,tD]at hn
  have:=ziM h hp hn.2
  simp only[idxOf,hn.1,uU,tO,this]
  rfl
theorem zed{α:Type}{p:α->Bool}: ∀ {l:List α},l.any p=false->idxOf p l= -1
 | [],_=>rfl
 |y::ys,h=>by
  simp only[qU,tD]at h
  simp only[idxOf,h.1,uU,tO,zed h.2]
  rfl
end Hw.M
namespace Hw
open Go
variable {C:Ctx}{P:Program}{Q:Exit->St->Prop}{tab:Tab}
section
variable {k:List Frm} {n:Nat} {sl:zl}
end
variable {af:Array Edge}{d:Option Nat}{g:Option (Nat×Bool)}{ps:String}{t:TypeId}{x:Operand}
section
variable {ty:TypeId} {y:Operand}
theorem zwu{t':TypeId}{k k':IntKind}{n m:Int}(h0:0<=m)(h1:m<=k.bits)(hx:okc x (Kk k n))(hy:okc y (Kk k' m)):
 Snd P ⟨d,.binOp .shr t x y t',ty,ps,af,g⟩ (rq x (Kk k n)++rq y (Kk k' m)) [] [] (Kk k (n / 2 ^ m.toNat)) []:=
 zgB hx hy rfl λw=>⟨by rw[eqGuard_shr];rfl,by rw[binOp_shr,shift_shr k k' n m h0 h1];rfl⟩
end
theorem LeS.un(s:S):LeS s .un:=λ_ _ _ _=>by simp only[RepS]
variable {g0:Option (Nat×Bool)}{gs:zl}{md:Mode}{rest:List Oper}
section
variable {k:List Frm} {n:Nat} {sl:zl} {all:Array Oper}
theorem zrz{d:Nat}{y:Operand}{t' ty:TypeId}(hC:C.low){k0 k1:IntKind}{a m:Int}
 (hx:ev sl x=some (Kk k0 a)) (hy:ev sl y=some (Kk k1 m)) (h0:0<=m) (h1:m<=k0.bits) (hm:metL all sl g0=some gs) (hd:Nat.blt d n=true)
 (g:Goal P C (.ops all rest (nx md ⟨some d,gs++(rq x (Kk k0 a)++rq y (Kk k1 m)),[],[],Kk k0 (a / 2 ^ m.toNat),[]⟩)) k n ((d,Kk k0 (a / 2 ^ m.toNat))::sl) tab Q):
 Goal P C (.ops all (⟨some d,.binOp .shr t x y t',ty,ps,af,g0⟩::rest) md) k n sl tab Q:=by
 have e1:=zQ (st:=⟨n,sl,tab⟩) hx
 have e2:=zQ (st:=⟨n,sl,tab⟩) hy
 have:=zp hm (zwu (P:=P) (ty:=ty) (ps:=ps) (af:=af) (g:=g0) (d:=some d) (t:=t) (t':=t') h0 h1 e1.1 e2.1) (n:=n) (tab:=tab)
 exact yk (L:=⟨some d,gs++(rq x (Kk k0 a)++rq y (Kk k1 m)),[],[],Kk k0 (a / 2 ^ m.toNat),[]⟩) hC this.1 rfl ⟨by rw[zd,zd];exact⟨this.2,e1.2,e2.2⟩,trivial,rfl,hd⟩ g
end
def GOn(w:World):Prop:= ∀b o v,G0 b o=some v->w.cell? ⟨b,o,none⟩=some v
variable {el:TypeId}{f:FuncId}
theorem zrB{s:ByteArray}{l:List ByteArray}(hc:zad P f)(hl:l.length<=9223372036854775807)
 (h: ∀w:World,GOn w->Calls P f #[.string s] w λe w'=>e= .returned (.slice (some ⟨w.heap.size,0,none⟩) l.length l.length)/\w'=w.alloc (.cells (l.map Value.string).toArray el)):
 zk P f [Sr s] [] (.one (.p (.sl 1 (l.map λx=>[PV.k (.string x)])))) []:=by
 refine⟨hc,λM ρ w xs hx hT hI hG=>?_⟩
 match xs,hx with
 | [x],hx=>
   simp only[RepSs,RepS,RepV,RepPV]at hx
   obtain⟨⟨rfl,_⟩,_⟩:=hx
   refine(h w λb o v hv=>hI b o v (hG.le b o v hv)).mono λe w' ⟨he,hw⟩=>?_
   subst he;subst hw
   have key: ∀(M':Mem) (l:List ByteArray),RepVs M' ρ ((l.map λx=>[PV.k (.string x)]).flatten.map V.p) (l.map Value.string):=λM' l=>by
    induction l with
    |nil=>simp[RepVs]
    |cons a l ih=>simp only[tK,tF,oq,RepVs,RepV,RepPV];exact⟨⟨uh,rfl⟩,ih⟩
   have mlt: ∀b o u,M b o=some u->b<w.heap.size:=λb o u hu=>xN (hI b o u hu)
   refine⟨_,zok M w.heap.size (l.map Value.string),ρ,rfl,?_⟩
   refine⟨?_,⟨λ_ _ h=>(by cases h),λ_ _ _ _ _ h=>(by cases h),λ_ _ _ h=>(by cases h)⟩,λb o v hv=>?_,zol hI,λb o u hu=>?_,λb hb=>?_,λb hb _=>z7 w _ b hb,ue,rfl,rfl,rfl,λid hid=>rfl⟩
   ·simp only[RepS,RepV,RepPV]
    refine⟨some ⟨w.heap.size,0,none⟩,l.length,by rw[uj],by rw[uj];exact uG _,by rw[uj];exact hl,.inr ⟨w.heap.size,0,rfl,?_⟩⟩
    refine RowsIn.yx (ρ:=ρ) (cs:=l.map Value.string) (λr hr=>?_) ?_ (λj c hc=>?_)
    ·simp only[ql]at hr;obtain⟨_,_,rfl⟩:=hr;rfl
    ·exact key _ l
    ·simp only[zok,qx,tI];exact hc
   ·simp only[zok]at hv
    split at hv
    ·rename_i e;subst e
     simp only[World.cell?,zP]
     simpa using hv
    ·rw[cell_of_heap (z7 w _ b (mlt b o v hv))];exact hI b o v hv
   ·simp only[zok]at hu
    split at hu
    ·rename_i e;subst e;exact .inr (.inl (uG _))
    ·exact .inl hu
   ·obtain⟨i,r,h1,_⟩:=hb;cases h1
 | [],hx=>simp[RepSs]at hx
 |_::_::_,hx=>simp[RepSs]at hx
variable {ts:Array TypeId}
section
variable {k:List Frm} {n:Nat} {sl:zl} {all:Array Oper}
def nm(l:List Nat)(i:Nat):Nat:=(l[i]?).getD i
theorem zy{l:List Operand}{ty:TypeId}(hC:C.low){args ss:List S}{first caps:List V}{res:S}{R R':RL}
 (h:zk P f args R res R') (σ:Nat->Nat) (hx:ev sl x=some (.one (.cl f first caps))) (hl:evs sl l=some ss) (ha:yr (ones first++ss++ones caps) (Ss.ren σ args)) (hi:injB σ R.ids=true) (hi2:injB σ R'.ids=true)
 (hc:cloS (R.ids++R'.ids) res=true) (hcR:zgD (R.ids++R'.ids) R'=true) (hT:rdT tab (R.ren σ)=R.ren σ) (hfr:allB (λid=>Nat.ble 100 id&&freshB id ⟨n,sl,tab⟩) ((xZ R R').map σ)=true) (hm:metL all sl g0=some gs) (hd:dok d n=true)
 (g:Goal P C (.ops all rest (nx md ⟨d,gs++(rq x (.one (.cl f first caps))++rqs l ss),R.ren σ,(xZ R R').map σ,res.ren σ,tb (R'.ren σ)++ze0 (R.ids.map σ)⟩)) k n (app d (res.ren σ) (tb (R'.ren σ)++ze0 (R.ids.map σ)) ⟨n,sl,tab⟩).sl ((tb (R'.ren σ)++ze0 (R.ids.map σ))++tab) Q):
 Goal P C (.ops all (⟨d,.call ⟨.value x,l.toArray,ts⟩,ty,ps,af,g0⟩::rest) md) k n sl tab Q:=by
 have e1:=zQ (st:=⟨n,sl,tab⟩) hx
 have e2:=jw (st:=⟨n,sl,tab⟩) hl
 have:=zp hm (zvc (ty:=ty) (ps:=ps) (af:=af) (g:=g0) (d:=d) (ts:=ts) h σ e1.1 e2.1 ha hi hi2 hc hcR) (n:=n) (tab:=tab)
 exact yk (L:=⟨d,gs++(rq x (.one (.cl f first caps))++rqs l ss),R.ren σ,(xZ R R').map σ,res.ren σ,tb (R'.ren σ)++ze0 (R.ids.map σ)⟩) hC this.1 rfl ⟨by rw[zd,zd];exact⟨this.2,e1.2,e2.2⟩,zcT hT,hfr,hd⟩ g
end
variable {b:Bool}{c:Nat}
section
variable {k:List Frm} {n:Nat} {sl:zl}
theorem zg5{x y:Code}(hc:sg sl c=some (.bq b))(ht:b=true->Goal P C (.code x) k n ((c,Bo true)::sl) tab Q)(hf:b=false->Goal P C (.code y) k n ((c,Bo false)::sl) tab Q):
 Goal P C (.code (.cond (.tmp c) x y)) k n sl tab Q:=by
 have key: ∀M ρ a w,Holds C ⟨n,sl,tab⟩ M ρ a w->Holds C ⟨n,(c,Bo b)::sl,tab⟩ M ρ a w:=λM ρ a w h=>h.zp4 rfl rfl λj u hj=>by
  rw[yV]at hj
  split at hj
  ·rename_i e;subst e;simp only[um]at hj;subst hj;exact LeS.bq rfl _ _ _ (h.slots _ _ hc)
  ·exact h.slots _ _ hj
 refine λM ρ a w hH=>zjx (st:=⟨n,(c,Bo b)::sl,tab⟩) (b:=b) (by simp only[ev];exact zbv _ _ _) (λh=>?_) (λh=>?_) M ρ a w (key M ρ a w hH)
 ·exact λM ρ a w hH=>ht h M ρ a w (by rw[h]at hH;exact hH)
 ·exact λM ρ a w hH=>hf h M ρ a w (by rw[h]at hH;exact hH)
end
def zeY(x y:Int):Int:=if y>x then y else x
section
variable {ty:TypeId} {x1 x2 x3 x4:Operand}
theorem zvj{as:Array TypeId}{a b c e:Int}(h1:okc x1 (I a))(h2:okc x2 (I b))(h3:okc x3 (I c))(h4:okc x4 (I e)):
 Snd P ⟨d,.call ⟨.builtin .max,#[x1,x2,x3,x4],as⟩,ty,ps,af,g⟩ (rq x1 (I a)++(rq x2 (I b)++(rq x3 (I c)++rq x4 (I e)))) [] [] (I (zeY (zeY (zeY a b) c) e)) []:=
 zo λC st M ρ act w hH h _=>by
  rw[zd,zd,zd]at h
  have e1:=hH.k (zI h1 h.1)
  have e2:=hH.k (zI h2 h.2.1)
  have e3:=hH.k (zI h3 h.2.2.1)
  have e4:=hH.k (zI h4 h.2.2.2)
  exact⟨_,by simp[execOp,resolve,invoke,builtin,Builtin.max_,Builtin.max2,e1,e2,e3,e4,zeY],zlc _ _⟩
end
section
variable {k:List Frm} {n:Nat} {sl:zl} {all:Array Oper}
theorem ztK{d:Nat}{x1 x2 x3 x4:Operand}{ty:TypeId}(hC:C.low){a b c e:Int}
 (h1:ev sl x1=some (I a)) (h2:ev sl x2=some (I b)) (h3:ev sl x3=some (I c)) (h4:ev sl x4=some (I e)) (hm:metL all sl g0=some gs) (hd:Nat.blt d n=true)
 (g:Goal P C (.ops all rest (nx md ⟨some d,gs++(rq x1 (I a)++(rq x2 (I b)++(rq x3 (I c)++rq x4 (I e)))),[],[],I (zeY (zeY (zeY a b) c) e),[]⟩)) k n ((d,I (zeY (zeY (zeY a b) c) e))::sl) tab Q):
 Goal P C (.ops all (⟨some d,.call ⟨.builtin .max,#[x1,x2,x3,x4],ts⟩,ty,ps,af,g0⟩::rest) md) k n sl tab Q:=by
 have e1:=zQ (st:=⟨n,sl,tab⟩) h1
 have e2:=zQ (st:=⟨n,sl,tab⟩) h2
 have e3:=zQ (st:=⟨n,sl,tab⟩) h3
 have e4:=zQ (st:=⟨n,sl,tab⟩) h4
 have:=zp hm (zvj (P:=P) (ty:=ty) (ps:=ps) (af:=af) (g:=g0) (d:=some d) (as:=ts) e1.1 e2.1 e3.1 e4.1) (n:=n) (tab:=tab)
 exact yk (L:=⟨some d,gs++(rq x1 (I a)++(rq x2 (I b)++(rq x3 (I c)++rq x4 (I e)))),[],[],I (zeY (zeY (zeY a b) c) e),[]⟩) hC this.1 rfl ⟨by rw[zd,zd,zd,zd];exact⟨this.2,e1.2,e2.2,e3.2,e4.2⟩,trivial,rfl,hd⟩ g
end
theorem run_equalIn_bool(w:World)(d:Nat)(t:TypeId)(a b:Bool)(h:P.underlying t=some .bool):(Op.equalIn (d+1) t (.bool a) (.bool b)).run P w= .ok (a==b) w:=by
 simp[Op.equalIn,run_underlying h]
variable {id:Nat}{z:List V}
section
variable {ty:TypeId} {y:Operand} {t':TypeId}
theorem zvk{e:Nat}(he:elemSz P t=some (el,e))(hz:zeroV P el=some z):
 Snd P ⟨d,.buildSlice t 0 #[],ty,ps,af,g⟩ [] [] [id] (.one (.ar id)) [(id,some (.arr e []))]:=by
 intro C st M ρ a w hH h1 hT hF hd k Q hk
 obtain⟨ii,hu,hinf,hsz⟩:=zB he
 obtain⟨i',zv,hi',hzv,hzs⟩:=wm hz
 rw[hinf]at hi';simp only[um]at hi';subst hi'
 have hrun:(execOp a.eval ⟨d,.buildSlice t 0 #[],ty,ps,af,g⟩).run P w= .ok (.value (.slice (some ⟨w.heap.size,0,none⟩) 0 0)) (w.alloc (.cells #[] el)):=by
  simp[execOp,Instr.buildSlice,run_underlying hu,run_sizeOf hinf,hsz,newRow,Instr.fill,Result.andThen]
  congr 2
  apply Array.ext<;>simp
 unfold Oper.wp
 rw[hrun,Oper.upon_value]
 refine hk _ _ M _ (hH.alloc (val:= .slice (some ⟨w.heap.size,0,none⟩) 0 0) (λb hb=>by simp only[Bk,blk,um]at hb;exact hb.symm) hF.1
  ⟨some ⟨w.heap.size,0,none⟩,0,zw _ _ _,uG _,ue,.inr ⟨w.heap.size,0,#[],el,(0,0),rfl,zP w _,λi hi=>by simp at hi,ue,by simp[RowsIn]⟩⟩ (by simp only[RepS,RepV];exact⟨(zw _ _ _).symm,rfl⟩) hd)
theorem ztb{a:Bool}(hx:okc x (.bq a))(hy:okc y (.bq b))(hu:P.underlying t=some .bool):
 Snd P ⟨d,.binOp .neq t x y t',ty,ps,af,g⟩ (rq x (.bq a)++rq y (.bq b)) [] [] (.bq (!decide (a=b))) []:=
 zo λC st M ρ act w hH h1 _=>by
  rw[zd]at h1
  have e1:=hH.evS (zI hx h1.1)
  have e2:=hH.evS (zI hy h1.2)
  simp only[RepS]at e1 e2
  have hg:(eqGuard .neq t x y (.bool a) (.bool b)).run P w= .ok () w:=by unfold eqGuard;split<;>rfl
  have hr:(binOp .neq t (.bool a) (.bool b)).run P w= .ok (.bool (!decide (a=b))) w:=by
   have:binOp .neq t (.bool a) (.bool b)=(do pure (.bool (!(<-Op.equal t (.bool a) (.bool b))))):=rfl
   rw[this]
   have he:(Op.equal t (.bool a) (.bool b)).run P w= .ok (a==b) w:=by
    exact run_equalIn_bool w 9999 t a b hu
   simp only[Sem.run_bind,he,Result.andThen_ok,Sem.run_pure]
   cases a<;>cases b<;>rfl
  exact⟨.bool (!decide (a=b)),by simp only[execOp,e1,e2,Sem.run_bind,hg,hr,Result.andThen_ok,Sem.run_pure],by simp only[RepS]⟩
end
variable {rows:List (List PV)}
section
variable {k:List Frm} {n:Nat} {sl:zl} {all:Array Oper}
theorem zcf(h:(Nat.ble 100 id&&freshB id ⟨n,sl,tab⟩)=true):allB (λid=>Nat.ble 100 id&&freshB id ⟨n,sl,tab⟩) [id]=true:=by
 simp only[allB,h,qJ]
theorem zaU(T:Ty P){d:Nat}{ty:TypeId}{e:Nat}(hC:C.low)
 (he:T.es t=some (el,e)) (hz:T.zs el=some z) (hm:metL all sl g0=some gs) (hd:Nat.blt d n=true) (hf:(Nat.ble 100 (1000+d)&&freshB (1000+d) ⟨n,sl,tab⟩)=true)
 (g:Goal P C (.ops all rest (nx md ⟨some d,gs,[],[1000+d],.one (.ar (1000+d)),[(1000+d,some (.arr e []))]⟩)) k n ((d,.one (.ar (1000+d)))::sl) ((1000+d,some (.arr e []))::tab) Q):
 Goal P C (.ops all (⟨some d,.buildSlice t 0 #[],ty,ps,af,g0⟩::rest) md) k n sl tab Q:=by
 have:=zp hm (zvk (P:=P) (ty:=ty) (ps:=ps) (af:=af) (g:=g0) (d:=some d) (id:=1000+d) (T.es_ok _ _ he) (T.zs_ok _ _ hz)) (n:=n) (tab:=tab)
 simp only[qo]at this
 exact yk (L:=⟨some d,gs,[],[1000+d],.one (.ar (1000+d)),[(1000+d,some (.arr e []))]⟩) hC this.1 rfl ⟨this.2,trivial,zcf hf,hd⟩ g
theorem zlA{d:Nat}{y:Operand}{t' ty:TypeId}(hC:C.low){a:Bool}
 (hx:ev sl x=some (.bq a)) (hy:ev sl y=some (.bq b)) (hu:P.underlying t=some .bool) (hm:metL all sl g0=some gs) (hd:Nat.blt d n=true)
 (g:Goal P C (.ops all rest (nx md ⟨some d,gs++(rq x (.bq a)++rq y (.bq b)),[],[],.bq (!decide (a=b)),[]⟩)) k n ((d,.bq (!decide (a=b)))::sl) tab Q):
 Goal P C (.ops all (⟨some d,.binOp .neq t x y t',ty,ps,af,g0⟩::rest) md) k n sl tab Q:=by
 have e1:=zQ (st:=⟨n,sl,tab⟩) hx
 have e2:=zQ (st:=⟨n,sl,tab⟩) hy
 have:=zp hm (ztb (P:=P) (ty:=ty) (ps:=ps) (af:=af) (g:=g0) (d:=some d) (t':=t') e1.1 e2.1 hu) (n:=n) (tab:=tab)
 exact yk (L:=⟨some d,gs++(rq x (.bq a)++rq y (.bq b)),[],[],.bq (!decide (a=b)),[]⟩) hC this.1 rfl ⟨by rw[zd,zd];exact⟨this.2,e1.2,e2.2⟩,trivial,rfl,hd⟩ g
theorem xa(T:Ty P)(id':Nat){d:Nat}{y:Operand}{tx ty:TypeId}(hC:C.low){e bytes:Nat}{rows2 rows3:List (List PV)}{sy:S}{rt2:RL}
 (hx:ev sl x=some (.one (.ar id))) (hy:ev sl y=some sy) (hT:tg tab id=some (.arr e rows)) (hT2:rdT tab rt2=rt2) (hs:zae P e tx sy rt2 rows2) (hr:rows++rows2=rows3) (he:T.es t=some (el,e)) (hz:T.zs el=some z) (hzl:Nat.beq z.length e=true) (hby:(P.info? el).map (·.bytes)=some bytes)
 (hb:(rows.length+rows2.length)*bytes<=140737488355328) (hlen:rows.length+rows2.length<=9223372036854775807) (hm:metL all sl g0=some gs) (hd:Nat.blt d n=true) (hf:(Nat.ble 100 id'&&freshB id' ⟨n,sl,tab⟩)=true)
 (g:Goal P C (.ops all rest (nx md ⟨some d,gs++(rq x (.one (.ar id))++rq y sy),(id,.arr e rows)::rt2,[id'],.one (.ar id'),[(id',some (.arr e rows3)),(id,none)]⟩)) k n ((d,.one (.ar id'))::sl) ([(id',some (.arr e rows3)),(id,none)]++tab) Q):
 Goal P C (.ops all (⟨some d,.call ⟨.builtin .append,#[x,y],#[t,tx]⟩,ty,ps,af,g0⟩::rest) md) k n sl tab Q:=by
 subst hr
 have e1:=zQ (st:=⟨n,sl,tab⟩) hx
 have e2:=zQ (st:=⟨n,sl,tab⟩) hy
 have:=zp hm (zqv (P:=P) (ty:=ty) (ps:=ps) (af:=af) (g:=g0) (d:=some d) (id':=id') e1.1 e2.1 hs (T.es_ok _ _ he) (T.zs_ok _ _ hz) (u0 hzl) hby hb hlen) (n:=n) (tab:=tab)
 exact yk (L:=⟨some d,gs++(rq x (.one (.ar id))++rq y sy),(id,.arr e rows)::rt2,[id'],.one (.ar id'),[(id',some (.arr e (rows++rows2))),(id,none)]⟩) hC this.1 rfl
  ⟨by rw[zd,zd];exact⟨this.2,e1.2,e2.2⟩,⟨hT,zcT hT2⟩,zcf hf,hd⟩ g
theorem jA(T:Ty P){d:Nat}{y:Operand}{ty:TypeId}(hC:C.low){e:Nat}{k0:IntKind}{i:Int}
 (hx:ev sl x=some (.one (.ar id))) (hy:ev sl y=some (Kk k0 i)) (hT:tg tab id=some (.arr e rows)) (he:T.es t=some (el,e)) (h0:0<=i) (hi:i<rows.length) (hm:metL all sl g0=some gs) (hd:Nat.blt d n=true)
 (g:Goal P C (.ops all rest (nx md ⟨some d,gs++(rq x (.one (.ar id))++rq y (Kk k0 i)),[(id,.arr e rows)],[],.one (.el id (i.toNat*e)),[]⟩)) k n ((d,.one (.el id (i.toNat*e)))::sl) tab Q):
 Goal P C (.ops all (⟨some d,.indexAddr t x y,ty,ps,af,g0⟩::rest) md) k n sl tab Q:=by
 have e1:=zQ (st:=⟨n,sl,tab⟩) hx
 have e2:=zQ (st:=⟨n,sl,tab⟩) hy
 have:=zp hm (zk4 (ty:=ty) (ps:=ps) (af:=af) (g:=g0) (d:=some d) e1.1 e2.1 (T.es_ok _ _ he) h0 hi) (n:=n) (tab:=tab)
 exact yk (L:=⟨some d,gs++(rq x (.one (.ar id))++rq y (Kk k0 i)),[(id,.arr e rows)],[],.one (.el id (i.toNat*e)),[]⟩) hC this.1 rfl ⟨by rw[zd,zd];exact⟨this.2,e1.2,e2.2⟩,⟨hT,uh⟩,rfl,hd⟩ g
theorem wE(T:Ty P){d:Nat}{ty:TypeId}(hC:C.low){kk e:Nat}(i j:Nat){row:List PV}{s:Option Nat}{v:S}
 (hx:ev sl x=some (.one (.el id kk))) (hT:tg tab id=some (.arr e rows)) (hsh:T.sh t=some s) (hkk:kk=i*e+j) (hi:rows[i]?=some row) (hv:ofCells s ((row.drop j).map V.p)=some v) (hm:metL all sl g0=some gs) (hd:Nat.blt d n=true)
 (g:Goal P C (.ops all rest (nx md ⟨some d,gs++rq x (.one (.el id kk)),[(id,.arr e rows)],[],v,[]⟩)) k n ((d,v)::sl) tab Q):
 Goal P C (.ops all (⟨some d,.load t x,ty,ps,af,g0⟩::rest) md) k n sl tab Q:=by
 have e1:=zQ (st:=⟨n,sl,tab⟩) hx
 have:=zp hm (zn2 (ty:=ty) (ps:=ps) (af:=af) (g:=g0) (d:=some d) e1.1 (T.sh_ok _ _ hsh) hkk hi hv) (n:=n) (tab:=tab)
 exact yk (L:=⟨some d,gs++rq x (.one (.el id kk)),[(id,.arr e rows)],[],v,[]⟩) hC this.1 rfl ⟨by rw[zd];exact⟨this.2,e1.2⟩,⟨hT,uh⟩,rfl,hd⟩ g
theorem jN(T:Ty P){y:Operand}{ty:TypeId}(hC:C.low){kk e:Nat}(i j:Nat){rows':List (List PV)}{row us:List PV}{s:S}{sh:Option Nat}
 (hx:ev sl x=some (.one (.el id kk))) (hy:ev sl y=some s) (hT:tg tab id=some (.arr e rows)) (hsh:T.sh t=some sh) (hc:cellsOf s=some (us.map V.p)) (hl:us.length=sh.getD 1) (hkk:kk=i*e+j) (hi:rows[i]?=some row) (hb:j+us.length<=e)
 (hr:rows.set i (setAt row j us)=rows') (hm:metL all sl g0=some gs)
 (g:Goal P C (.ops all rest (nx md ⟨none,gs++(rq x (.one (.el id kk))++rq y s),[(id,.arr e rows)],[],.un,[(id,some (.arr e rows'))]⟩)) k n sl ((id,some (.arr e rows'))::tab) Q):
 Goal P C (.ops all (⟨none,.store t x y,ty,ps,af,g0⟩::rest) md) k n sl tab Q:=by
 subst hr
 have e1:=zQ (st:=⟨n,sl,tab⟩) hx
 have e2:=zQ (st:=⟨n,sl,tab⟩) hy
 have:=zp hm (zk6 (ty:=ty) (ps:=ps) (af:=af) (g:=g0) (d:=none) e1.1 e2.1 (T.sh_ok _ _ hsh) hc hl hkk hi hb) (n:=n) (tab:=tab)
 exact yk (L:=⟨none,gs++(rq x (.one (.el id kk))++rq y s),[(id,.arr e rows)],[],.un,[(id,some (.arr e (rows.set i (setAt row j us))))]⟩) hC this.1 rfl ⟨by rw[zd,zd];exact⟨this.2,e1.2,e2.2⟩,⟨hT,uh⟩,rfl,rfl⟩ g
end
theorem xz{M:Mem}{ρ:Nat->Value}: ∀ {vs:List V} {cs:List Value} {m:Nat} {v:V},RepVs M ρ vs cs->vs[m]?=some v-> ∃c,cs[m]?=some c/\RepV M ρ v c
 | [],_,m,_,_,h=>by simp at h
 |_::_,[],_,_,h,_=>by simp only[RepVs]at h
 |x::xs,c::cs,0,v,h,hv=>by
  simp only[RepVs]at h
  simp only[List.getElem?_cons_zero,um]at hv
  subst hv;exact⟨c,rfl,h.1⟩
 |x::xs,c::cs,m+1,v,h,hv=>by
  simp only[RepVs]at h
  simp only[qL]at hv⊢
  exact xz h.2 hv
section
variable {ty:TypeId}
end
section
variable {k:List Frm} {n:Nat} {sl:zl} {all:Array Oper}
end
def jB(w:World):Mem:=λb o=>w.cell? ⟨b,o,none⟩
theorem zom(w:World):Imm (jB w) w:=λ_ _ _ h=>h
def CellsM(M:Mem):List PV->List Value->Prop
 | [],[]=>True
 |x::xs,c::cs=>RepPV M x c/\CellsM M xs cs
 |_,_=>False
theorem CellsM.app{M:Mem}: ∀ {r s:List PV} {c d:List Value},CellsM M r c->CellsM M s d->CellsM M (r++s) (c++d)
 | [],_,[],_,_,h=>h
 | [],_,_::_,_,h,_=>h.elim
 |_::_,_,[],_,h,_=>h.elim
 |_::_,_,_::_,_,h,k=>⟨h.1,CellsM.app h.2 k⟩
theorem CellsM.len{M:Mem}: ∀ {r:List PV} {c:List Value},CellsM M r c->r.length=c.length
 | [],[],_=>rfl
 | [],_::_,h=>h.elim
 |_::_,[],h=>h.elim
 |_::_,_::_,h=>by simp[CellsM.len h.2]
theorem CellsM.zvl{M:Mem}{g:Nat->Option Value}: ∀ {r:List PV} {c:List Value} {o:Nat},CellsM M r c->(∀i v,c[i]?=some v->g (o+i)=some v)->RowIn M g r o
 | [],_,_,_,_=>by simp[RowIn]
 |_::_,[],_,h,_=>h.elim
 |x::xs,c::cs,o,h,hg=>by
  simp only[RowIn]
  refine⟨⟨c,by simpa using hg 0 c ue,h.1⟩,CellsM.zvl h.2 λi v hi=>?_⟩
  have:=hg (i+1) v (by simpa using hi)
  rw[show o+1+i=o+(i+1) by omega]
  exact this
variable {α:Type}{R:α->List PV}{a:Addr}{cs:List Value}
section
variable {H:Type} {enc:TypeId×Value->H} {w:World} {base:Nat} {spare:Nat->Bool} {held:Bool}
def Rd(enc:TypeId×Value->H)(P:Program)(w:World)(base:Nat)(spare:Nat->Bool)(held:Bool)(n:Nat)(t:TypeId)(R:α->List PV):Prop:=
 ∀cs x,DataW.trod enc P w base spare held n t cs=some x-> ∃a:α,CellsM (jB w) (R a) cs
theorem zis{n:Nat}{k:IntKind}(ht:P.underlying t=some (.int k)):Rd enc P w base spare held n t (λi:Int=>[.k (.int k i)]):=by
 intro cs x h
 obtain⟨i,rfl,_⟩:=DataW.trod_int ht h
 exact⟨i,⟨by simp[RepPV,Value.oneCell'],uh⟩⟩
theorem zjG{n:Nat}(h:w.cells? base a n=some cs):cs.length=n/\ ∀i v,cs[i]?=some v->w.cell? (a.add i)=some v:=by
 unfold World.cells? at h
 split at h
 ·have hl:=mapM_some_length h
  simp only[tV]at hl
  refine⟨hl,λi v hi=>?_⟩
  have hlt:i<n:=by
   rw[<-hl];exact(ui.1 hi).1
  have:=mapM_some_get h i i (by simp[hlt])
  rw[this,hi]
 ·cases h
theorem zon{α:Type}{e:Nat}{R:α->List PV}(he:0<e){a:Addr}(hs:a.spot=none): ∀(len k:Nat),
 (∀i,i<len-> ∃(x:α) (cs:List Value),w.cells? base (a.add ((k+i)*e)) e=some cs/\CellsM (jB w) (R x) cs)->
 ∃l:List α,l.length=len/\RowsIn (jB w) (jB w a.block) e (l.map R) (a.off+k*e)
 |0,_,_=>⟨[],rfl,by simp[RowsIn]⟩
 |len+1,k,h=>by
  obtain⟨x,cs,h1,h2⟩:=h 0 ua
  obtain⟨l,hl,hr⟩:=zon he hs len (k+1) λi hi=>by
   have:=h (i+1) ua
   rwa [show k+(i+1)=k+1+i by omega]at this
  obtain⟨hn,hc⟩:=zjG h1
  refine⟨x::l,by simp[hl],?_⟩
  simp only[tK,RowsIn]
  refine⟨h2.len.trans hn,CellsM.zvl h2 λi v hi=>?_,?_⟩
  ·have:=hc i v hi
   unfold jB
   rw[Deep.add_add]at this
   unfold Addr.add at this
   split at this
   ·rename_i h0
    have:w.cell? a=some v:=this
    rw[show a=⟨a.block,a.off,none⟩ by cases a;simp_all]at this
    rw[show a.off+k*e+i=a.off by simp at h0;omega]
    exact this
   ·simp only[uN]at this
    rw[th]
    exact this
  ·rw[show a.off+k*e+e=a.off+(k+1)*e by rw[qk];omega]
   exact hr
theorem zoQ{n:Nat}{e:TypeId}(ht:P.underlying t=some (.slice e))(hc:P.cellsOf e=c)(h0:0<c)
 (he: ∀m,n=m+1->Rd enc P w base spare held m e R):Rd enc P w base spare held n t (λl:List α=>[.sl c (l.map R)]):=by
 intro cs x h
 rcases DataW.trod_slice ht h with⟨rfl,_⟩|⟨a,len,cap,elems,rest,m,rfl,rfl,_,hb,hl,hm,hlen,hel,_⟩
 ·exact⟨[],⟨by simp only[RepPV];exact⟨none,0,rfl,ue,ue,.inl rfl⟩,uh⟩⟩
 ·have hcap:cap<=9223372036854775807:=qn hm ub
  have hel': ∀i,i<len-> ∃(x:α) (cs:List Value),w.cells? base (a.add ((0+i)*c)) c=some cs/\CellsM (jB w) (R x) cs:=by
   intro i hi
   have:=hel i hi
   rw[hc,uM ua]at this
   obtain⟨cs',h1,h2⟩:=Uo.1 this
   obtain⟨x,hx⟩:=he m rfl cs' _ h2
   exact⟨x,cs',by rw[tI];exact h1,hx⟩
  cases len with
  |zero=>exact⟨[],⟨by simp only[RepPV];exact⟨some a,cap,rfl,ue,ue,.inl rfl⟩,uh⟩⟩
  |succ k=>
   have hs:a.spot=none:=by
    obtain⟨x,cs',h1,h2⟩:=hel' 0 ua
    obtain⟨hn,hc'⟩:=zjG h1
    cases cs' with
    |nil=>simp at hn;omega
    |cons v vs=>
     have:=hc' 0 v rfl
     simp only[uN,Uy,Addr.add,qx]at this
     unfold World.cell? at this
     split at this
     ·split at this
      ·cases this
      ·rename_i hh;simpa using hh
     ·cases this
   obtain⟨l,hl',hr⟩:=zon (base:=base) (R:=R) h0 hs (k+1) 0 hel'
   simp only[Uy,uN]at hr
   refine⟨l,⟨?_,uh⟩⟩
   simp only[RepPV,uj]
   refine⟨some a,cap,by rw[hl'],ua,ua,.inr ⟨a.block,a.off,?_,hr⟩⟩
   cases a;simp_all
def Pieces(enc:TypeId×Value->H)(P:Program)(w:World)(base:Nat)(spare:Nat->Bool)(held:Bool)(n:Nat):List (TypeId×Nat)->List Value->Prop
 | [],cs=>cs=[]
 |(t,_)::r,cs=> ∃c1 c2 x,cs=c1++c2/\DataW.trod enc P w base spare held n t c1=some x/\Pieces enc P w base spare held n r c2
def fieldsB(P:Program):List Field->List (TypeId×Nat)->Nat->Bool
 | [],[],_=>true
 |f::fs,(t,c)::r,o=>Nat.beq f.type t&&Nat.beq f.offset o&&Nat.beq (P.cellsOf t) c&&fieldsB P fs r (o+c)
 |_,_,_=>false
def sumC:List (TypeId×Nat)->Nat
 | []=>0
 |(_,c)::r=>c+sumC r
def structB(P:Program)(t:TypeId)(l:List (TypeId×Nat)):Bool:=
 match P.underlying t with
 |some (.struct fs)=>fieldsB P fs.toList l 0&&Nat.beq (P.cellsOf t) (sumC l)
 |_=>false
theorem zgx{n:Nat}: ∀(fs:List Field) (l:List (TypeId×Nat)) (o:Nat) (cs:List Value),fieldsB P fs l o=true->cs.length=o+sumC l->
 (∀(i:Nat) (f:Field),fs[i]?=some f-> ∃x,DataW.trod enc P w base spare held n f.type ((cs.drop f.offset).take (P.cellsOf f.type))=some x)->
 Pieces enc P w base spare held n l (cs.drop o)
 | [],[],o,cs,_,hl,_=>by simp[Pieces,sumC]at hl ⊢; omega
 | [],_::_,_,_,h,_,_=>by simp[fieldsB]at h
 |_::_,[],_,_,h,_,_=>by simp[fieldsB]at h
 |f::fs,(t,c)::r,o,cs,h,hl,hx=>by
  simp only[fieldsB,uu]at h
  obtain⟨⟨⟨h1,h2⟩,h3⟩,h4⟩:=h
  have e1:=u0 h1
  have e2:=u0 h2
  have e3:=u0 h3
  simp only[sumC]at hl
  obtain⟨x,h0⟩:=hx 0 f rfl
  rw[e1,e2,e3]at h0
  simp only[Pieces]
  refine⟨(cs.drop o).take c,cs.drop (o+c),x,?_,h0,zgx fs r (o+c) cs h4 ua λi g hg=>hx (i+1) g (by simpa using hg)⟩
  rw[<-qD,tv]
theorem zcz{n:Nat}{l:List (TypeId×Nat)}{x:DataW H×List MemPlace}(ht:structB P t l=true)
 (h:DataW.trod enc P w base spare held n t cs=some x): ∃m,n=m+1/\Pieces enc P w base spare held m l cs:=by
 unfold structB at ht
 split at ht
 ·rename_i fs hfs
  simp only[uu]at ht
  obtain⟨xs,m,rfl,_,hl,hxl,hf⟩:=DataW.trod_struct hfs h
  refine⟨m,rfl,?_⟩
  have:=zgx (enc:=enc) (P:=P) (w:=w) (base:=base) (spare:=spare) (held:=held) (n:=m) fs.toList l 0 cs ht.1 (by rw[hl,u0 ht.2];omega) λi f hi=>by
   have h1:=hf i f (by simpa using hi)
   have h2:i<xs.length:=by
    rw[hxl]
    have:=(ui.1 hi).1
    simpa using this
   exact⟨xs[i],by rw[h1,uM h2]⟩
  simpa using this
 ·cases ht
end
end Hw
namespace Hw
open Go Go.ChangeShapes Go.WideShapes Go.RowKit
variable {P:Program}{W:World}{args:Array Value}{f:FuncId}
theorem zvm{ss:List S}(hok:zk P f ss [] (.bq true) [])(hG:GOk (jB W) W)
 (hr:RepSs (jB W) (λ_=>undef) ss args.toList):Calls P f args W λe W'=>e= .returned (.bool true)/\Below W.heap.size W W':=by
 have h:=hok.2 (jB W) (λ_=>undef) W args.toList hr ⟨λid r h=>by simp[tb,tg]at h,λi j ri rj b h=>by simp[tb,tg]at h,λid r b h=>by simp[tb,tg]at h⟩ (zom W) hG
 simp only[oz]at h
 refine h.mono λe W' ⟨v,M',ρ',he,hret⟩=>?_
 subst he
 have hv:=hret.rep
 simp only[RepS]at hv
 subst hv
 refine⟨rfl,hret.os,hret.tape,hret.output,hret.size,λk hk=>hret.fram k hk ?_⟩
 rintro⟨id,r,h1,_⟩
 simp[tb,tg]at h1
variable {H:Type}{enc:TypeId×Value->H}
theorem zbK(hl:laidOutB P=true){W W':World}(hb:Below W.heap.size W W'):
 ∀ {ts:List TypeId} {vs:List Value} {ds:List (DataW H)} {ps:List MemPlace},(∀t∈ts,P.readableRec t=true/\t<P.types.size)->DataW.TrodAll enc P W 0 (λ_=>true) true ts vs ds ps->
   (∀x∈ps,x.block<W.heap.size)->DataW.TrodAll enc P W' 0 (λb=>decide (b<W.heap.size)) true ts vs ds ps
 | [],[],[],_,_,h,_=>h
 | [],[],_::_,_,_,h,_=>h.elim
 | [],_::_,_,_,_,h,_=>h.elim
 |_::_,[],_,_,_,h,_=>h.elim
 |_::_,_::_,[],_,_,h,_=>h.elim
 |t::ts,v::vs,d::ds,ps,ht,h,hlt=>by
  obtain⟨p,q,h1,h2,rfl⟩:=h
  refine⟨p,q,Below.trod hl (ht t ue).1 (ht t ue).2 h1 hb λx hx=>hlt x (by simp[hx]),?_,rfl⟩
  exact zbK hl hb (λu hu=>ht u (by simp[hu])) h2 λx hx=>hlt x (by simp[hx])
theorem zvn{f:Func}{s:ChangeSpec}{W':World}{ds gs:List (DataW H)}{before:List MemPlace}{tb:TypeId}
 (hl:laidOutB P=true) (ht: ∀t∈f.params.toList,P.readableRec t=true/\t<P.types.size) (hres:f.resultTypes= #[tb]) (htb:P.underlying tb=some .bool)
 (hvars:s.vars=[]) (hfn:s.fn H (ds++gs)={ results:=[.lit (.bool true)],args:=ds })
 (hW:DataW.Whole enc P f.params.toList s.vars false W args.toList ds gs before) (hb:Below W.heap.size W W'):
 s.post enc P f false true false false W args (.bool true) W':=by
 have hW':=hW
 obtain⟨p,q,hA,hV,rfl,hfz,hnd⟩:=hW
 have hlt: ∀x∈p++q,x.block<W.heap.size:=hW'.lt
 refine⟨ds,gs,p++q,[],p,[],hW',?_,?_,?_,hb.frame _,λh=>by cases h⟩
 ·rw[hfn,hres]
  exact⟨[],[],shut_bool htb true,rfl,rfl⟩
 ·rw[hfn]
  exact zbK hl hb ht hA λx hx=>hlt x (by simp[hx])
 ·rw[hfn,hvars]
  exact rfl
variable {base:Nat}{d:DataW H}{held:Bool}{p:List MemPlace}{spare:Nat->Bool}{t:TypeId}{w:World}
section
variable {r:Reach} {b0:Nat} {ρ:Nat->Value}
theorem zwG{k:IntKind}{v:Value}(hs:P.underlying t=some (.int k))(hv:Value.okWide P w r b0 t v)
 (h:DataW.Trod enc P w base spare held t v d p): ∃i:Int,(Lit.int k i).wf=true/\RepS (jB w) ρ (.one (.p (.k (.int k i)))) v:=by
 obtain⟨i,rfl⟩:=okWide_int hs hv
 obtain⟨n,hn⟩:=h
 obtain⟨i',e1,_,e2⟩:=DataW.trod_int hs hn
 simp only[Value.cells,Ub,Value.int.injEq,UL,and_true]at e1
 subst e1
 exact⟨_,e2,by simp[RepS,RepV,RepPV,Value.oneCell']⟩
theorem zwH{v:Value}{_d:DataW H}{_p:List MemPlace}(hs:P.underlying t=some .string)(hv:Value.okWide P w r b0 t v):
 ∃s:ByteArray,RepS (jB w) ρ (.one (.p (.k (.string s)))) v:=by
 obtain⟨s,rfl⟩:=okWide_string hs hv
 exact⟨s,by simp[RepS,RepV,RepPV,Value.oneCell']⟩
theorem zvy{e:TypeId}{c:Nat}{α:Type}{R:α->List PV}{v:Value}(hs:P.underlying t=some (.slice e))(hv:Value.okWide P w r b0 t v)
 (hr: ∀n,Rd enc P w base spare held n t (λl:List α=>[.sl c (l.map R)])) (h:DataW.Trod enc P w base spare held t v d p): ∃l:List α,RepS (jB w) ρ (.one (.p (.sl c (l.map R)))) v:=by
 obtain⟨a,len,cap,rfl⟩:=okWide_slice hs hv
 obtain⟨n,hn⟩:=h
 obtain⟨l,hl⟩:=hr n _ _ hn
 simp only[Value.cells,CellsM]at hl
 exact⟨l,by simp only[RepS,RepV];exact hl.1⟩
end
theorem zwW{n:Nat}(ht:P.underlying t=some (.int .u8)):Rd enc P w base spare held n t (λc:UInt8=>[.k (.int .u8 (c.toNat:Int))]):=by
 intro cs x h
 obtain⟨i,rfl,_,hw⟩:=DataW.trod_int ht h
 have hb:0<=i/\i<256:=by
  simp[Lit.wf,IntKind.min,IntKind.max,IntKind.bits,IntKind.signed]at hw
  omega
 refine⟨UInt8.ofNat i.toNat,⟨?_,uh⟩⟩
 have:((UInt8.ofNat i.toNat).toNat:Int)=i:=by
  rw[UInt8.toNat_ofNat'];omega
 rw[this]
 simp[RepPV,Value.oneCell']
theorem zrh{a:Assume}{C:Checked}{os:Os}{fn:Func}{s:ChangeSpec}{conds:List PathCond}{apart fresh handsOn again:Bool}{X:World->Array Value->Prop}
 (hX: ∀(w w':World) (args:Array Value),w.heap=w'.heap->X w args->X w' args) (own:ownKnob C.prog.godebug=none) (started:os.Started) (noInit:C.prog.inits.idxOf? f=none) (hfn:C.prog.funcs[f]?=some fn)
 (witness: ∃(w:World) (tape:Tape) (i:Input),w.os=os/\(w.forCall tape i).Shaped C.prog/\i.vars=[]/\Input.okWide C.prog (w.forCall tape i) .any w.heap.size f i/\
   ((s.pre enc C.prog fn conds apart (w.forCall tape i).memory i.args/\X (w.forCall tape i).memory i.args)/\sizedMet enc C.prog fn (OpenSpec.ofChange s) apart (w.forCall tape i).memory i.args)/\a.holds C.prog (lone (Frame.enter C.prog f i.args .normal) [] (w.forCall tape i)))
 (contract: ∀(W:World) (base:Nat) (args:Array Value) (ds gs:List (DataW H)) (before:List MemPlace),
   (∀(j:Nat) t v,fn.params[j]?=some t->args[j]?=some v->Value.okWide C.prog W .any base t v)->DataW.Whole enc C.prog fn.params.toList s.vars apart W args.toList ds gs before->X W args->W.ShapedOpen C.prog->
   Calls C.prog f args W λe W'=> ∃v,e= .returned v/\s.post enc C.prog fn apart fresh handsOn again W args v W'):
 ReturnsInHanded a C os f .any (λw args=>(s.pre enc C.prog fn conds apart w args/\X w args)/\sizedMet enc C.prog fn (OpenSpec.ofChange s) apart w args) (s.post enc C.prog fn apart fresh handsOn again):=by
 refine returnsInHanded_of_calls own started noInit witness λw tape i _ hsh _ hok hpre _=>?_
 obtain⟨_,_,_,fn',hfn',_,_,_,_,hval⟩:=hok
 obtain rfl:fn'=fn:=uy (hfn'.symm.trans hfn)
 obtain⟨⟨⟨ds,gs,before,hw,_⟩,hx⟩,_⟩:=hpre
 have hw':=DataW.Whole.of_heap (w':=w.forCall tape i) (by rfl) hw
 refine(contract (w.forCall tape i) w.heap.size i.args ds gs before hval hw' (hX _ _ _ (by rfl) hx) hsh).mono λe W' ⟨v,he,hp⟩=>?_
 subst he
 exact ChangeSpec.post_blind hp
theorem zvo{x:String×DataW Unit}{l:List (String×DataW Unit)}(h:laidMet P (x::l) W):laidMet P l W:=by
 obtain⟨ps,⟨g,t,cs,fuel,p,q,_,_,_,_,h5,rfl⟩,hn,hr⟩:=h
 exact⟨q,h5,(q5.1 hn).2.1,λb off hb=>hr b off (u7.2 (.inr hb))⟩
end Hw
namespace Hw
open Go
theorem zhD{α:Type}{e:Nat}: ∀ {rows:List (List α)} {i c:Nat},(∀r∈rows,r.length=e)->c<e->rows.flatten[i*e+c]?=(rows[i]?).bind (·[c]?)
 | [],i,c,_,_=>by simp
 |r::rs,0,c,hl,hc=>by
  have:r.length=e:=hl r ue
  simp only[tF,Uy,tI,List.getElem?_cons_zero,Us]
  exact uP ua
 |r::rs,i+1,c,hl,hc=>by
  have h1:r.length=e:=hl r ue
  have ih:=zhD (rows:=rs) (i:=i) (λr hr=>hl r (by simp[hr])) hc
  have e1:(i+1)*e=i*e+e:=by rw[qk,Ua]
  rw[tF,uO ua,qL,<-ih]
  congr 1;omega
theorem jT{α:Type}{e:Nat}: ∀ {rows:List (List α)},(∀r∈rows,r.length=e)->rows.flatten.length=rows.length*e
 | [],_=>by simp
 |r::rs,hl=>by
  have h1:r.length=e:=hl r ue
  have ih:=jT (rows:=rs) λr hr=>hl r (by simp[hr])
  rw[tF,uB,ih,h1,uI,qk,Ua];omega
theorem wi{M:Mem}{ρ:Nat->Value}: ∀ {vs:List V} {g:Nat->Option Value},(∀j v,vs[j]?=some v-> ∃c,g j=some c/\RepV M ρ v c)-> ∃ds:List Value,RepVs M ρ vs ds/\ ∀q c,ds[q]?=some c->g q=some c
 | [],g,_=>⟨[],by simp only[RepVs],λq c h=>by simp at h⟩
 |v::vs,g,h=>by
  obtain⟨c,h1,h2⟩:=h 0 v rfl
  obtain⟨ds,h3,h4⟩:=wi (vs:=vs) (g:=λj=>g (j+1)) λj u hj=>h (j+1) u (by simpa using hj)
  refine⟨c::ds,by simp only[RepVs];exact⟨h2,h3⟩,λq c' hq=>?_⟩
  cases q with
  |zero=>simp only[List.getElem?_cons_zero,um]at hq;rw[<-hq];exact h1
  |succ q=>exact h4 q c' (by simpa using hq)
variable {M:Mem}{id:Nat}{rows:List (List PV)}{w:World}{ρ:Nat->Value}
theorem zH.toV{e:Nat}(h:zH M ρ w id (.arr e rows)):zH M ρ w id (.arv e rows []):=by
 obtain⟨a,cap,h1,h2,h3,h4⟩:=h
 rcases h4 with⟨rfl,hc⟩|⟨b,o,cs,el,fz,h5,h6,h6',h7,h8⟩
 ·have:rows=[]:=uS.1 ua
  subst this
  exact⟨none,cap,h1,h2,h3,ue,.inl ⟨rfl,hc⟩⟩
 ·refine⟨a,cap,h1,h2,h3,h8.len,.inr ⟨b,o,cs,el,fz,h5,h6,h6',h7,λj p hj=>?_⟩⟩
  obtain⟨us,h9,_,h11⟩:=h8.cells (ρ:=ρ)
  obtain⟨c,hc,hr⟩:=xz h9 (m:=j) (v:= .p p) (by rw[uE,hj];rfl)
  exact⟨c,h11 j c hc,hr⟩
variable {α:Type}
theorem zps{e:Nat}{rows:List (List α)}(hl: ∀r∈rows,r.length=e){q:Nat}{p:α}(h:rows.flatten[q]?=some p): ∃i c row,q=i*e+c/\c<e/\rows[i]?=some row/\row[c]?=some p:=by
 have hlt:q<rows.length*e:=by
  have:=(ui.1 h).1
  rwa [jT hl]at this
 have he:0<e:=by
  rcases qA e with h0|h0
  ·subst h0;simp at hlt
  ·exact h0
 have hq:q=q / e*e+q % e:=by rw[Nat.mul_comm];exact(Nat.div_add_mod q e).symm
 have hc:q % e<e:=Nat.mod_lt q he
 have:=zhD hl (i:=q / e) hc
 rw[<-hq,h]at this
 cases hr:rows[q / e]? with
 |none=>rw[hr]at this;cases this
 |some row=>rw[hr]at this;exact⟨q / e,q % e,row,hq,hc,hr,this.symm⟩
variable {P:Program}
section
variable {d:Option Nat} {ty:TypeId} {ps:String} {af:Array Edge} {g:Option (Nat×Bool)} {x y:Operand} {t:TypeId}
def zwI(P:Program)(e:Nat)(tx:TypeId)(s:S)(rt:RL)(rows:List (List PV))(x2:List (Nat×V)):Prop:=
 ∀(C:Ctx) (st:St) (M:Mem) (ρ:Nat->Value) (a:Act) (w:World) (v:Value),Holds C st M ρ a w->RepS M ρ s v->okT rt st->
  ∃news,Src P e tx v rows.length news w/\(∀j p,rows.flatten[j]?=some p-> ∃c,news[j]?=some c/\RepV M ρ (xv x2 j p) c)/\ ∀r∈rows,r.length=e
theorem zwI.of{e:Nat}{tx:TypeId}{s:S}{rt:RL}(h:zae P e tx s rt rows):zwI P e tx s rt rows []:=by
 intro C st M ρ a w v hH hr hT
 obtain⟨news,h1,h2,h3⟩:=h C st M ρ a w v hH hr hT
 exact⟨news,h1,λj p hj=>xz h2 (m:=j) (v:= .p p) (by rw[uE,hj];rfl),h3⟩
end
section
variable {C:Ctx} {k:List Frm} {n:Nat} {sl:zl} {tab:Tab} {Q:Exit->St->Prop} {all:Array Oper} {rest:List Oper} {cur:Cur}
theorem zt1(hc:lst cur=true){r r':Res}(hid:tg tab id=some r)(h: ∀M ρ w,zH M ρ w id r->zH M ρ w id r')(g:Goal P C cur k n sl ((id,some r')::tab) Q):Goal P C cur k n sl tab Q:=by
 refine zdF hc (λ{M ρ a w} hH=>?_) g
 have htab: ∀i s,tg ((id,some r')::tab) i=some s->(i=id/\s=r')\/(i≠id/\tg tab i=some s):=λi s hi=>by
  rw[zX]at hi
  split at hi
  ·rename_i e;exact .inl ⟨e.symm,(uy hi).symm⟩
  ·rename_i e;exact .inr ⟨λh=>e h.symm,hi⟩
 have old: ∀i s,tg ((id,some r')::tab) i=some s-> ∃s0,tg tab i=some s0:=λi s hi=>by
  rcases htab i s hi with⟨rfl,_⟩|⟨_,h2⟩
  ·exact⟨r,hid⟩
  ·exact⟨s,h2⟩
 refine⟨M,ρ,hH.dfr,hH.sz,hH.slots,⟨λi s hi=>?_,λi j ri rj b hi hj hne hbi hbj=>?_,λi s b hi hb=>?_⟩,λi s b hi hb=>?_,hH.run,hH.keep⟩
 ·rcases htab i s hi with⟨rfl,rfl⟩|⟨_,h2⟩
  ·exact h _ _ _ (hH.yh.res _ _ hid)
  ·exact hH.yh.res _ _ h2
 ·obtain⟨si,h1⟩:=old i ri hi
  obtain⟨sj,h2⟩:=old j rj hj
  exact hH.yh.dis i j si sj b h1 h2 hne hbi hbj
 ·obtain⟨si,h1⟩:=old i s hi
  exact hH.yh.own i si b h1 hb
 ·obtain⟨si,h1⟩:=old i s hi
  exact hH.ownf i si b h1 hb
theorem zH.pure{e:Nat}(h:zH M ρ w id (.arv e rows [])):zH M ρ w id (.arr e rows):=by
 obtain⟨a,cap,h1,h2,h3,hl,h4⟩:=h
 rcases h4 with⟨rfl,hc⟩|⟨b,o,cs,el,fz,h5,h6,h6',h7,h8⟩
 ·exact⟨none,cap,h1,h2,h3,.inl ⟨rfl,hc⟩⟩
 ·refine⟨a,cap,h1,h2,h3,.inr ⟨b,o,cs,el,fz,h5,h6,h6',h7,?_⟩⟩
  obtain⟨us,h9,h10⟩:=wi (M:=M) (ρ:=ρ) (vs:=rows.flatten.map V.p) (g:=λj=>cs[o+j]?) λj v hj=>by
   rw[uE]at hj
   simp only[uH]at hj
   obtain⟨p,hp,rfl⟩:=hj
   obtain⟨c,hc1,hc2⟩:=h8 j p hp
   exact⟨c,hc1,hc2⟩
  exact RowsIn.yx (ρ:=ρ) hl h9 λj c hj=>h10 j c hj
theorem zH.drop{e:Nat}{xs:List (Nat×V)}(hx: ∀j p,rows.flatten[j]?=some p->xv xs j p= .p p)(h:zH M ρ w id (.arv e rows xs)):zH M ρ w id (.arr e rows):=by
 obtain⟨a,cap,h1,h2,h3,hl,h4⟩:=h
 refine zH.pure ⟨a,cap,h1,h2,h3,hl,?_⟩
 rcases h4 with h4|⟨b,o,cs,el,fz,h5,h6,h6',h7,h8⟩
 ·exact .inl h4
 ·refine .inr ⟨b,o,cs,el,fz,h5,h6,h6',h7,λj p hj=>?_⟩
  obtain⟨c,c1,c2⟩:=h8 j p hj
  rw[hx j p hj]at c2
  exact⟨c,c1,c2⟩
def FrR(id e:Nat)(rows:List (List PV))(r r':Res):Prop:= ∀M ρ w i,RepPV M (.sl e rows) (ρ id)->zH M ρ w i r->zH M ρ w i r'
theorem FrR.box{id e:Nat}{rows:List (List PV)}{vs vs':List V}(h:ze1 id e rows vs vs'):FrR id e rows (.box vs) (.box vs'):=λ_ _ _ _ hr ⟨b,cs,el,e1,e2,e3⟩=>⟨b,cs,el,e1,e2,h _ _ _ hr e3⟩
def upR(id e:Nat)(rows:List (List PV))(tab:Tab):List (Nat×Res)->Prop
 | []=>True
 |(i,r')::l=>(∃r,tg tab i=some r/\i≠id/\FrR id e rows r r')/\upR id e rows tab l
def zld:List (Nat×Res)->Tab
 | []=>[]
 |(i,r)::l=>(i,some r)::zld l
def AdR(id:Nat)(r r':Res):Prop:= ∀M ρ w i,ρ id= .slice none 0 0->zH M ρ w i r->zH M ρ w i r'
theorem AdR.box{id:Nat}{vs vs':List V}(h:zds id vs vs'):AdR id (.box vs) (.box vs'):=λ_ _ _ _ hr ⟨b,cs,el,e1,e2,e3⟩=>⟨b,cs,el,e1,e2,h _ _ _ hr e3⟩
end
end Hw
