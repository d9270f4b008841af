import Derived.Test.YtolghpfockkldaaGreatDoorC1
import Derived.Test.YtolghpfockkldaaGreatDoorE3
import Derived.Test.YtolghpfockkldaaGreatDoorProg
import Derived.KernelRfl
import Derived.Shelf.Strings.Fields
set_option linter.unusedVariables false
set_option linter.unusedSimpArgs false
set_option linter.unusedSectionVars false
set_option linter.unnecessarySimpa false
namespace Hw
open Go
variable {P:Program}{af:Array Edge}{el t:TypeId}{g:Option (Nat×Bool)}{i:Int}{ps:String}{rows:List (List PC)}{rt2:RL}{sy:S}{us z:List V}{x:Operand}
section
variable {d:Option Nat} {ty:TypeId} {y:Operand}
theorem zi7{id e:Nat}{ids:List Nat}{k:IntKind}(hx:okc x (.one (.ar id)))(hy:okc y (Kk k i))
 (h:elemSz P t=some (el,e)) (h0:0<=i) (hi:i<rows.length):
 Snd P ⟨d,.indexAddr t x y,ty,ps,af,g⟩ (rq x (.one (.ar id))++rq y (Kk k i)) [(id,.vw ids e rows)] [] (.one (.el id (i.toNat*e))) []:=
 zm λC st M ρ a w hH h1 ht=>by
  rw[za]at h1;have e':=hH.evS (zz hx h1.1);have e2:=hH.k (zz hy h1.2);simp only[RepS,RepV]at e';obtain⟨a',cap,h3,h4,h5,_,U⟩:=hH.zP.res id _ ht.1;obtain⟨ii,hu,J,hsz⟩:=zy h;rcases U with⟨U,h7⟩|⟨b,o,cs,el',fz,U,_⟩
  ·subst h7;omega
  ·subst U;refine⟨.pointer (some ⟨b,o+i.toNat*e,none⟩),?_,by simp only[RepS,RepV];exact⟨b,o,_,_,h3,rfl⟩⟩;rw[h3]at e';simp only[execOp,e'.1,e2,Instr.indexAt,asIntOf,Sem.run_bind,Sem.run_pure,Result.andThen_ok,run_underlying hu];rw[uv ⟨h0,hi⟩];simp only[Sem.run_bind,Sem.run_pure,Result.andThen_ok,run_sizeOf J,ym,hsz]
theorem zog{id e:Nat}{ids:List Nat}{as':Array TypeId}{n:Nat}(hx:okc x (.one (.ar id)))(ha:as'[0]?=some t)(h:elemSz P t=some (el,n)):
 Snd P ⟨d,.call ⟨.builtin .len,#[x],as'⟩,ty,ps,af,g⟩ (rq x (.one (.ar id))) [(id,.vw ids e rows)] [] (I rows.length) []:=
 zm λC st M ρ a w U h1 ht=>by
  have J:=U.evS (zz hx h1);simp only[RepS,RepV]at J;obtain⟨a',cap,h3,h4,h5,_,h6⟩:=U.zP.res id _ ht.1;obtain⟨ii,hu,hinf,hsz⟩:=zy h;rw[h3]at J;exact⟨.int .i64 rows.length,by simp[execOp,resolve,invoke,builtin,Builtin.len_,ha,J.1,run_underlying hu,goInt],zj6 _ _⟩
theorem zku{id kk e:Nat}{ids:List Nat}{vs:List V}{s:Option Nat}{v:S}(hx:okc x (.one (.el id kk)))(h:shp P t=some s)
 (U: ∀j v,vs[j]?=some v-> ∃p,rows.flatten[kk+j]?=some p/\toV ids p=v) (hv:ofCells s vs=some v):
 Snd P ⟨d,.load t x,ty,ps,af,g⟩ (rq x (.one (.el id kk))) [(id,.vw ids e rows)] [] v []:=
 zm λC st M ρ a w hH h1 ht=>by
  have e':=hH.evS (zz hx h1);simp only[RepS,RepV]at e';obtain⟨b,o,m,cap,e1,e2⟩:=e';obtain⟨a',cap',h2,h3,h4,_,J⟩:=hH.zP.res id _ ht.1;rw[e1]at h2;simp only[Value.slice.injEq]at h2;rcases J with⟨J,_⟩|⟨b',o',cs,el,fz,J,h6,h6',h7,h8⟩
  ·rw[J]at h2;cases h2.1
  ·rw[J]at h2;have hb:b=b'/\o=o':=by have:=h2.1;simp at this;exact this
   obtain⟨rfl,rfl⟩:=hb
   obtain⟨ds,h9,h10⟩:=wE (M:=M) (ρ:=ρ) (vs:=vs) (g:=λj=>cs[o+(kk+j)]?) λj u hj=>by
    obtain⟨p,hp,e⟩:=U j u hj;obtain⟨c,hc,hr⟩:=h8 _ p hp;exact⟨c,hc,e ▸ hr⟩
   obtain⟨u,hu,hr⟩:=yu (w:=w) (b:=b) (o:=o+kk) h h9 (λq c hc=>by
    have:=h10 q c hc;simp only[<-qf]at this
    simp[World.cell?,h6,this]) hv
   exact⟨u,by simp only[execOp,e2,Sem.run_bind,Instr.loadAt,Instr.sureAddr,Sem.run_pure,Result.andThen_ok,hu],hr⟩
def zoh(P:Program)(e:Nat)(tx:TypeId)(s:S)(rt:RL)(rows:List (List PC))(ids:List Nat):Prop:=
 ∀(C:Ctx) (st:St) (M:Mem) (ρ:Nat->Value) (a:Act) (w:World) (v:Value),Holds C st M ρ a w->RepS M ρ s v->okT rt st->
  ∃news,Src P e tx v rows.length news w/\(∀(j:Nat) (p:PC),rows.flatten[j]?=some p-> ∃c,news[j]?=some c/\RepV M ρ (toV ids p) c)/\ ∀r∈rows,r.length=e
theorem zoh.vw{e:Nat}{tx el:TypeId}{id:Nat}{rows:List (List PC)}{ids:List Nat}(h:elemSz P tx=some (el,e)):zoh P e tx (.one (.ar id)) [(id,.vw ids e rows)] rows ids:=by
 intro C st M ρ a w v hH U ht;obtain⟨_,hu,_,_⟩:=zy h;obtain⟨b,cap,h1,h2,h3,hl,h4⟩:=hH.zP.res id _ ht.1;simp only[RepS,RepV]at U;rw[h1]at U;rw[U.1];rcases h4 with⟨rfl,hc⟩|⟨b',o,cs,el',fz,rfl,h6,_,_,h8⟩
 ·have:rows=[]:=u3.1 ua;subst this;exact⟨[],Src.ofNil w hu cap,ue,ue⟩
 ·obtain⟨us,h9,h10⟩:=wE (M:=M) (ρ:=ρ) (vs:=rows.flatten.map (toV ids)) (g:=λj=>cs[o+j]?) λj u J=>by
   rw[uK,uM]at J;obtain⟨p,hp,rfl⟩:=J;exact h8 j p hp
  refine⟨us,Src.ofSlice w hu _ _ cap us (by rw[h9.length,uk,jE hl]) (λj u J=>by rw[ym];have:=h10 j u J;simp[World.cell?,h6,this]) h9.one,λj p J=>?_,hl⟩;exact xx h9 (m:=j) (by rw[uK,J];rfl)
theorem zgp{id id' e bytes:Nat}{rows2 rows3:List (List PC)}{ids ids2 ids':List Nat}{tx:TypeId}(hx:okc x (.one (.ar id)))(hy:okc y sy)(hs:zoh P e tx sy rt2 rows2 ids2)(hm1:mentI id' ids'=false)(h3l:rows3.length=rows.length+rows2.length)(h3e: ∀r∈rows3,r.length=e)
 (h31: ∀(j:Nat) (x':PC),j<rows.length*e->rows3.flatten[j]?=some x'-> ∃x,rows.flatten[j]?=some x/\toV ids x=toV ids' x') (h32: ∀(j:Nat) (x':PC),rows3.flatten[rows.length*e+j]?=some x'-> ∃x,rows2.flatten[j]?=some x/\toV ids2 x=toV ids' x')
 (he:elemSz P t=some (el,e)) (hz:zeroV P el=some z) (hzl:z.length=e) (hby:(P.info? el).map (·.bytes)=some bytes) (hb:(rows.length+rows2.length)*bytes<=140737488355328) (hlen:rows.length+rows2.length<=9223372036854775807):
 Snd P ⟨d,.call ⟨.builtin .append,#[x,y],#[t,tx]⟩,ty,ps,af,g⟩ (rq x (.one (.ar id))++rq y sy) ((id,.vw ids e rows)::rt2) [id'] (.one (.ar id')) [(id',some (.vw ids' e rows3)),(id,none)]:=by
 intro C st M ρ a w hH h1 hT hF hd k Q hk;rw[za]at h1;have e1:=hH.evS (zz hx h1.1);have e2:=hH.evS (zz hy h1.2);obtain⟨b,cap,h2,h3,h4,hl0,h5⟩:=hH.zP.res id _ hT.1;simp only[RepS,RepV]at e1;obtain⟨ii,hu,hinf,hsz⟩:=zy he;obtain⟨news,J,hnews,hlen2⟩:=hs C st M ρ a w _ hH e2 hT.2;obtain⟨i',zv,hi',hzv,hzs⟩:=we hz;rw[hinf]at hi';simp only[ui]at hi';subst hi';rw[hinf]at hby;simp only[uO,ui]at hby;have hnl:news.length=rows2.length*e:=J.newsLen;have hfr:=jE hl0
 -- cells of the old and the new, aZ the new name says them
 have hnew: ∀(val:Value) (f:Nat->Option Value),(∀j p,rows.flatten[j]?=some p-> ∃c,f j=some c/\RepV M ρ (toV ids p) c)->(∀j c,news[j]?=some c->f (rows.length*e+j)=some c)->
  ∀j p,rows3.flatten[j]?=some p-> ∃c,f j=some c/\RepV M (upd ρ id' val) (toV ids' p) c:=λval f hf1 hf2 j p hj=>by
  rcases tp j (rows.length*e)with hlt|hge
  ·obtain⟨x,hx,he⟩:=h31 j p hlt hj;obtain⟨c,c1,c2⟩:=hf1 j x hx;refine⟨c,c1,?_⟩;rw[he]at c2;exact RepV.agree (yX ρ id' val) _ _ (λi hi=>by subst hi;exact zbx hm1 p) c2
  ·have e3:rows.length*e+(j - rows.length*e)=j:=by omega
   obtain⟨x,hx,he⟩:=h32 (j - rows.length*e) p (by rw[e3];exact hj);obtain⟨c,c1,c2⟩:=hnews _ x hx;refine⟨c,by have:=hf2 _ c c1;rwa [e3]at this,?_⟩;rw[he]at c2;exact RepV.agree (yX ρ id' val) _ _ (λi hi=>by subst hi;exact zbx hm1 _) c2
 have hcall:execOp a.eval ⟨d,.call ⟨.builtin .append,#[x,y],#[t,tx]⟩,ty,ps,af,g⟩=(do pure (.value (<-Builtin.append_ #[t,tx] ty #[a.eval x,a.eval y]))):=by
  simp[execOp,resolve,invoke,builtin]
 have fin: ∀ {val:Value} {w':World},(Builtin.append_ #[t,tx] ty #[a.eval x,a.eval y]).run P w= .ok val w'->
  (∀b',b'<w.heap.size->(∀i r,(some id)=some i->tg st.tab i=some r-> ¬Bk (ρ i) b')->w'.heap[b']?=w.heap[b']?)->w.heap.size<=w'.heap.size->w'.os=w.os->w'.tape=w.tape->w'.output=w.output->
  (∀b',Bk val b'->w.heap.size<=b'\/ ∃i r,(some id)=some i/\tg st.tab i=some r/\Bk (ρ i) b')->zO M (upd ρ id' val) w' id' (.vw ids' e rows3)->val.oneCell'=true->
  Oper.wp P ⟨d,.call ⟨.builtin .append,#[x,y],#[t,tx]⟩,ty,ps,af,g⟩ a w k Q:=λ{val w'} U g1 g2 g3 g4 g5 g6 g7 g8=>by
  unfold Oper.wp;rw[hcall];simp only[Sem.run_bind,U,Result.andThen_ok,Sem.run_pure,Oper.upon_value];exact hk _ _ _ _ (hH.step (some id) g1 g2 g3 g4 g5 g6 hF.1 g7 (by simp only[RepS,RepV];exact⟨(zG _ _ _).symm,g8⟩) hd)
 have hex:a.eval x= .slice b rows.length cap:=e1.1.trans h2;rcases tp cap (rows.length+rows2.length)with hlt|hge
 · -- a new row
   have hold: ∃olds:List Value,(Builtin.firstCells ii.size rows.length (.slice b rows.length cap)).run P w.drew= .ok olds.toArray w.drew/\(∀(j:Nat) (p:PC),rows.flatten[j]?=some p-> ∃c,olds[j]?=some c/\RepV M ρ (toV ids p) c)/\olds.length=rows.length*e:=by
    rcases h5 with⟨rfl,hc⟩|⟨b',o,cs,el',fz,rfl,h6,_,_,h8⟩
    ·have:rows=[]:=u3.1 ua;subst this;exact⟨[],run_firstCells_none w.drew _ _ _ _,ue,ue⟩
    ·obtain⟨us,h9,h10⟩:=wE (M:=M) (ρ:=ρ) (vs:=rows.flatten.map (toV ids)) (g:=λj=>cs[o+j]?) λj u hj=>by
      rw[uK,uM]at hj;obtain⟨p,hp,rfl⟩:=hj;exact h8 j p hp
     have hul:us.length=rows.length*e:=by rw[h9.length,uk,hfr]
     refine⟨us,?_,λj p hj=>xx h9 (m:=j) (by rw[uK,hj];rfl),hul⟩;rw[hsz]
     exact run_firstCells_some w.drew e rows.length ⟨b',o,none⟩ _ cap us hul (λj u hj=>by
      rw[ym];have:=h10 j u hj;have h6':w.drew.heap[b']?=some (.cells cs el' fz):=h6
      simp[World.cell?,h6',this])
   obtain⟨olds,ho1,ho2,ho3⟩:=hold;have U:=run_append_grow_src (P:=P) w t tx ty el ii zv hu hinf hzv b rows.length cap olds ho1 (a.eval y) rows2.length news (by rw[hsz];exact J) hlt ua (growslice_fits hlt (by rw[hby];exact hb));rw[<-hex]at U;have hcap:=grownCap_ge w (rows.length+rows2.length) cap el
   refine fin U (λb' hb' _=>yE w.drew _ b' hb') ue rfl rfl rfl (λb' hb'=> .inl ?_) ⟨some ⟨w.heap.size,0,none⟩,grownCap w (rows.length+rows2.length) cap el,by rw[zG,h3l],by rw[h3l];exact hcap,(by have:=grownCap_le_maxLen w (rows.length+rows2.length) cap el (by unfold maxLen;omega);unfold maxLen at this;omega),h3e,.inr
    ⟨w.heap.size,0,_,el,(0,0),rfl,zY w.drew _,λi _=>by simp,?_,?_⟩⟩ rfl
   ·simp only[Bk,blk,ui]at hb';omega
   ·simp only[oW,tQ,uC,size_zeroCells,hzs,hzl,ho3,hnl,<-tH,tC]
    apply tI;omega
   ·refine hnew _ _ (λj p hj=>?_) (λj c hj=>?_)
    ·obtain⟨c,c1,c2⟩:=ho2 j p hj;have hjl:j<olds.length:=(uw.1 c1).1;refine⟨c,?_,c2⟩;rw[tC,qy ug];simp only[tu];rw[u9 hjl];exact c1
    ·have hjl:j<news.length:=(uw.1 hj).1;rw[tC,qy ug];simp only[tu];rw[u7 ua,ho3];rw[show rows.length*e+j - rows.length*e=j by omega];exact hj
 · -- room
   rcases h5 with⟨rfl,hc⟩|⟨b',o,cs,el',fz,rfl,h6,h6',h7,h8⟩
   ·have e3:rows2=[]:=u3.1 ua;have e4:rows=[]:=u3.1 ua;subst e3;subst e4;subst hc;have hn0:news=[]:=tL (by simpa using hnl);subst hn0
    have U:(Builtin.append_ #[t,tx] ty #[a.eval x,a.eval y]).run P w= .ok (.slice none 0 0) w:=by
     rw[hex];have hl:(Builtin.lenOf (a.eval y)).run P w= .ok 0 w:=J.len w;have hc:(Builtin.firstCells e 0 (a.eval y)).run P w= .ok #[] w:=J.cells;rcases J.kind with⟨e',hk'⟩|hk'<;>simp[Builtin.append_,run_underlying hu,run_underlying hk',Go.sizeOf,typeInfo,hinf,hl,hsz,hc]
    exact fin U (λ_ _ _=>rfl) (uF _) rfl rfl rfl (λb' hb'=>by simp[Bk,blk]at hb') ⟨none,0,by rw[zG,h3l];rfl,by rw[h3l];simp,ue,h3e,.inl ⟨rfl,rfl⟩⟩ rfl
   ·have hfit:o+rows.length*e+0+news.length<=cs.size:=by
     rw[hnl];have:(rows.length+rows2.length)*e<=cap*e:=tI _ hge;rw[tH]at this;omega
    have hst:=z7 (P:=P) b' (o+rows.length*e) el' fz news 0 cs w h6 h6' hfit J.one
    have U:(Builtin.append_ #[t,tx] ty #[a.eval x,a.eval y]).run P w= .ok (.slice (some ⟨b',o,none⟩) (rows.length+rows2.length) cap) (w.setRow b' (setAt cs.toList (o+rows.length*e+0) news).toArray):=by
     rw[hex];have hl:=J.len w;have hc:=J.cells;rcases J.kind with⟨e',hk'⟩|hk'<;>simp[Builtin.append_,run_underlying hu,run_underlying hk',Go.sizeOf,typeInfo,hinf,hl,hsz,hc,hge,ym,hst]
    have hob:Bk (ρ id) b':=by rw[h2];rfl
    have hsl:(setAt cs.toList (o+rows.length*e+0) news).length=cs.size:=by rw[yC _ _ _ (by simpa using hfit)];simp
    refine fin U (λb2 hb2 hne=>xU w b' _ b2 λe=>hne id _ rfl hT.1 (e ▸ hob)) (by simp[World.setRow]) rfl rfl rfl
     (λb2 hb2=> .inr ⟨id,_,rfl,hT.1,by simp only[Bk,blk,ui]at hb2;rw[<-hb2];exact hob⟩)
     ⟨some ⟨b',o,none⟩,cap,by rw[zG,h3l],by rw[h3l];exact hge,h4,h3e,.inr ⟨b',o,_,el',fz,rfl,setRow_heap w b' cs _ el' fz h6,?_,?_,?_⟩⟩ rfl
    ·simp only[tQ,hsl];exact h6'
    ·simp only[tQ,hsl];exact h7
    ·refine hnew _ _ (λj p hj=>?_) (λj c hj=>?_)
     ·obtain⟨c,c1,c2⟩:=h8 j p hj;have hjl:j<rows.flatten.length:=(uw.1 hj).1;refine⟨c,?_,c2⟩;simp only[tu];rw[yQ _ _ _ _ ug,uv ua];simpa using c1
     ·have hjl:j<news.length:=(uw.1 hj).1;simp only[tu];rw[yQ _ _ _ _ ug,uu ua,uv ua];rw[show o+(rows.length*e+j) - (o+rows.length*e+0)=j by omega];exact hj
theorem zoi{id e:Nat}{row:List PC}{ids:List Nat}{s:S}(hx:okc x s)(hc:cellsOf s=some us)(hus:row.map (toV ids)=us)(hrl:row.length=e)(hm:mentI id ids=false)
 (he:elemSz P t=some (el,e)) (hz:zeroV P el=some z) (he0:0<e) (heb:e<=16777216):
 Snd P ⟨d,.buildSlice t 1 #[(0,x)],ty,ps,af,g⟩ (rq x s) [] [id] (.one (.ar id)) [(id,some (.vw ids e [row]))]:=by
 intro C st M ρ a w hH h1 hT hF hd k Q hk;have e':=yV hc (hH.evS (zz hx h1));obtain⟨ii,hu,J,hsz⟩:=zy he;obtain⟨i',zv,hi',hzv,hzs⟩:=we hz;rw[J]at hi';simp only[ui]at hi';subst hi';have hul:us.length=e:=by rw[<-hus,uk,hrl]
 have hcl:(a.eval x).cells.size=e:=by have:=e'.length;simp at this;omega
 have hfill: ∀cur:Array Value,cur.size=e->Instr.fill (λi=>some (i*e,e)) cur [(0,a.eval x)]=some (a.eval x).cells:=λcur hcur=>by
  simp only[Instr.fill]
  have hcond: ¬((a.eval x).cells.size≠e||0*e+(a.eval x).cells.size>cur.size)=true:=by
   simp only[ne_eq,uU,uq];omega
  have hfold:=vG cur (0*e) (a.eval x).cells.toList 0 cur ug
  have U:(a.eval x).cells.zipIdx.foldl (λcs (p:Value×Nat)=>cs.setIfInBounds (0*e+p.2) p.1) cur=(setAt cur.toList (0*e) (a.eval x).cells.toList).toArray:=by
   rw[<-oP];simpa using hfold
  rw[uu hcond,U]
  congr 1
  unfold setAt;have:cur.toList.drop (0*e+(a.eval x).cells.toList.length)=[]:=by apply uA;simp;omega
  rw[this];simp
 have hrun:(execOp a.eval ⟨d,.buildSlice t 1 #[(0,x)],ty,ps,af,g⟩).run P w= .ok (.value (.slice (some ⟨w.heap.size,0,none⟩) 1 1)) (w.alloc (.cells (a.eval x).cells el)):=by
  have hn: ¬16777216<e:=by omega
  have h0: ¬e=0:=by omega
  have hf:=hfill ((Array.range (1*e)).map λx=>zv.cells[x % zv.cells.size]!) ue;have hzrun:(zeroValue el).run P w= .ok zv w:=by simp[zeroValue,typeInfo,J,hzv]
  simp[execOp,Instr.buildSlice,run_underlying hu,run_sizeOf J,hsz,hn,h0,newRow,hzrun]at hf⊢;simp[hf]
 unfold Oper.wp;rw[hrun,Oper.upon_value]
 refine hk _ _ M _ (hH.alloc (val:= .slice (some ⟨w.heap.size,0,none⟩) 1 1) (λb hb=>by simp only[Bk,blk,ui]at hb;exact hb.symm) hF.1
  ⟨some ⟨w.heap.size,0,none⟩,1,zG _ _ _,ue,ue,by simp[hrl],.inr ⟨w.heap.size,0,(a.eval x).cells,el,(0,0),rfl,zY w _,λi hi=>by simp,ua,λj p hj=>?_⟩⟩ (by simp only[RepS,RepV];exact⟨(zG _ _ _).symm,rfl⟩) hd)
 simp only[tK,oB,u0]at hj;obtain⟨c,c1,c2⟩:=xx e' (m:=j) (v:=toV ids p) (by rw[<-hus,uK,hj];rfl);refine⟨c,by rw[tC];simpa using c1,RepV.agree (yX ρ id _) _ _ (λi hi=>by subst hi;exact zbx hm p) c2⟩
end
variable {C:Ctx}{M:Mem}{Q:Exit->St->Prop}{all:Array Oper}{cur:Cur}{d:Nat}{g0:Option (Nat×Bool)}{gs:zf}{md:Mode}{rest:List Oper}{tab:Tab}{w:World}{ρ:Nat->Value}
section
variable {k:List Frm} {n:Nat} {sl:zf}
theorem zkv(T:Ty P){y:Operand}{ty:TypeId}(hC:C.low){id e:Nat}{ids:List Nat}{k0:IntKind}
 (hx:ev sl x=some (.one (.ar id))) (hy:ev sl y=some (Kk k0 i)) (hT:tg tab id=some (.vw ids e rows)) (he:T.es t=some (el,e)) (h0:0<=i) (hi:i<rows.length) (hm:metL all sl g0=some gs) (hd:Nat.blt d n=true)
 (g:Goal P C (.ops all rest (nx md ⟨some d,gs++(rq x (.one (.ar id))++rq y (Kk k0 i)),[(id,.vw ids e rows)],[],.one (.el id (i.toNat*e)),[]⟩)) k n ((d,.one (.el id (i.toNat*e)))::sl) tab Q):
 Goal P C (.ops all (⟨some d,.indexAddr t x y,ty,ps,af,g0⟩::rest) md) k n sl tab Q:=by
 have J:=zB (st:=⟨n,sl,tab⟩) hx;have U:=zB (st:=⟨n,sl,tab⟩) hy;have:=zk hm (zi7 (ids:=ids) (ty:=ty) (ps:=ps) (af:=af) (g:=g0) (d:=some d) J.1 U.1 (T.es_ok _ _ he) h0 hi) (n:=n) (tab:=tab);exact zT (L:=⟨some d,gs++(rq x (.one (.ar id))++rq y (Kk k0 i)),[(id,.vw ids e rows)],[],.one (.el id (i.toNat*e)),[]⟩) hC this.1 rfl ⟨by rw[za,za];exact⟨this.2,J.2,U.2⟩,⟨hT,uh⟩,rfl,hd⟩ g
theorem zkw(T:Ty P){ty:TypeId}(hC:C.low){id e:Nat}{ids:List Nat}{m:Nat}
 (U:ev sl x=some (.one (.ar id))) (hT:tg tab id=some (.vw ids e rows)) (he:T.es t=some (el,m)) (hm:metL all sl g0=some gs) (hd:Nat.blt d n=true)
 (g:Goal P C (.ops all rest (nx md ⟨some d,gs++rq x (.one (.ar id)),[(id,.vw ids e rows)],[],I rows.length,[]⟩)) k n ((d,I rows.length)::sl) tab Q):
 Goal P C (.ops all (⟨some d,.call ⟨.builtin .len,#[x],#[t]⟩,ty,ps,af,g0⟩::rest) md) k n sl tab Q:=by
 have J:=zB (st:=⟨n,sl,tab⟩) U;have:=zk hm (zog (e:=e) (rows:=rows) (ids:=ids) (as':= #[t]) (ty:=ty) (ps:=ps) (af:=af) (g:=g0) (d:=some d) J.1 rfl (T.es_ok _ _ he)) (n:=n) (tab:=tab);exact zT (L:=⟨some d,gs++rq x (.one (.ar id)),[(id,.vw ids e rows)],[],I rows.length,[]⟩) hC this.1 rfl ⟨by rw[za];exact⟨this.2,J.2⟩,⟨hT,uh⟩,rfl,hd⟩ g
theorem zgq(T:Ty P){ty:TypeId}(hC:C.low){id kk e:Nat}{ids:List Nat}(vs:List V){s:Option Nat}{v:S}
 (hx:ev sl x=some (.one (.el id kk))) (hT:tg tab id=some (.vw ids e rows)) (J:T.sh t=some s) (U: ∀j v,vs[j]?=some v-> ∃p,rows.flatten[kk+j]?=some p/\toV ids p=v) (hv:ofCells s vs=some v) (hm:metL all sl g0=some gs) (hd:Nat.blt d n=true)
 (g:Goal P C (.ops all rest (nx md ⟨some d,gs++rq x (.one (.el id kk)),[(id,.vw ids e rows)],[],v,[]⟩)) k n ((d,v)::sl) tab Q):
 Goal P C (.ops all (⟨some d,.load t x,ty,ps,af,g0⟩::rest) md) k n sl tab Q:=by
 have e1:=zB (st:=⟨n,sl,tab⟩) hx;have:=zk hm (zku (e:=e) (ty:=ty) (ps:=ps) (af:=af) (g:=g0) (d:=some d) e1.1 (T.sh_ok _ _ J) U hv) (n:=n) (tab:=tab);exact zT (L:=⟨some d,gs++rq x (.one (.el id kk)),[(id,.vw ids e rows)],[],v,[]⟩) hC this.1 rfl ⟨by rw[za];exact⟨this.2,e1.2⟩,⟨hT,uh⟩,rfl,hd⟩ g
theorem zbU(T:Ty P)(id':Nat){y:Operand}{tx ty:TypeId}(hC:C.low){id e bytes:Nat}{rows2:List (List PC)}{ids ids2:List Nat}(ids':List Nat)(rows3:List (List PC))
 (hx:ev sl x=some (.one (.ar id))) (hy:ev sl y=some sy) (hT:tg tab id=some (.vw ids e rows)) (hT2:rdT tab rt2=rt2) (hs:zoh P e tx sy rt2 rows2 ids2) (hm1:mentI id' ids'=false) (h3l:rows3.length=rows.length+rows2.length) (h3e: ∀r∈rows3,r.length=e)
 (h31: ∀(j:Nat) (J:PC),j<rows.length*e->rows3.flatten[j]?=some J-> ∃x,rows.flatten[j]?=some x/\toV ids x=toV ids' J) (h32: ∀(j:Nat) (J:PC),rows3.flatten[rows.length*e+j]?=some J-> ∃x,rows2.flatten[j]?=some x/\toV ids2 x=toV ids' J)
 (he:T.es t=some (el,e)) (hz:T.zs el=some z) (hzl:Nat.beq z.length e=true) (hby:(P.info? el).map (·.bytes)=some bytes)
 (hb:(rows.length+rows2.length)*bytes<=140737488355328) (U:rows.length+rows2.length<=9223372036854775807) (hm:metL all sl g0=some gs) (hd:Nat.blt d n=true) (hf:(Nat.ble 100 id'&&freshB id' ⟨n,sl,tab⟩)=true)
 (g:Goal P C (.ops all rest (nx md ⟨some d,gs++(rq x (.one (.ar id))++rq y sy),(id,.vw ids e rows)::rt2,[id'],.one (.ar id'),[(id',some (.vw ids' e rows3)),(id,none)]⟩)) k n ((d,.one (.ar id'))::sl) ([(id',some (.vw ids' e rows3)),(id,none)]++tab) Q):
 Goal P C (.ops all (⟨some d,.call ⟨.builtin .append,#[x,y],#[t,tx]⟩,ty,ps,af,g0⟩::rest) md) k n sl tab Q:=by
 have e1:=zB (st:=⟨n,sl,tab⟩) hx;have e2:=zB (st:=⟨n,sl,tab⟩) hy;have:=zk hm (zgp (P:=P) (ty:=ty) (ps:=ps) (af:=af) (g:=g0) (d:=some d) (id':=id') e1.1 e2.1 hs hm1 h3l h3e h31 h32 (T.es_ok _ _ he) (T.zs_ok _ _ hz) (uH hzl) hby hb U) (n:=n) (tab:=tab)
 exact zT (L:=⟨some d,gs++(rq x (.one (.ar id))++rq y sy),(id,.vw ids e rows)::rt2,[id'],.one (.ar id'),[(id',some (.vw ids' e rows3)),(id,none)]⟩) hC this.1 rfl
  ⟨by rw[za,za];exact⟨this.2,e1.2,e2.2⟩,⟨hT,jg hT2⟩,zbV hf,hd⟩ g
theorem zkx(T:Ty P){ty:TypeId}(hC:C.low){e:Nat}(row:List PC)(ids:List Nat){s:S}
 (hx:ev sl x=some s) (hc:cellsOf s=some us) (J:row.map (toV ids)=us) (U:row.length=e) (hmx:mentI (1000+d) ids=false) (he:T.es t=some (el,e)) (hz:T.zs el=some z) (he0:Nat.blt 0 e=true) (heb:Nat.ble e 16777216=true)
 (hm:metL all sl g0=some gs) (hd:Nat.blt d n=true) (hf:(Nat.ble 100 (1000+d)&&freshB (1000+d) ⟨n,sl,tab⟩)=true)
 (g:Goal P C (.ops all rest (nx md ⟨some d,gs++rq x s,[],[1000+d],.one (.ar (1000+d)),[(1000+d,some (.vw ids e [row]))]⟩)) k n ((d,.one (.ar (1000+d)))::sl) ((1000+d,some (.vw ids e [row]))::tab) Q):
 Goal P C (.ops all (⟨some d,.buildSlice t 1 #[(0,x)],ty,ps,af,g0⟩::rest) md) k n sl tab Q:=by
 have e1:=zB (st:=⟨n,sl,tab⟩) hx;have:=zk hm (zoi (P:=P) (ty:=ty) (ps:=ps) (af:=af) (g:=g0) (d:=some d) (id:=1000+d) e1.1 hc J U hmx (T.es_ok _ _ he) (T.zs_ok _ _ hz) (by simpa [tG]using he0) (uV heb)) (n:=n) (tab:=tab);exact zT (L:=⟨some d,gs++rq x s,[],[1000+d],.one (.ar (1000+d)),[(1000+d,some (.vw ids e [row]))]⟩) hC this.1 rfl ⟨by rw[za];exact⟨this.2,e1.2⟩,trivial,zbV hf,hd⟩ g
theorem zO.ztF{id e:Nat}(ids:List Nat){rows:List (List PV)}(h:zO M ρ w id (.arr e rows)):zO M ρ w id (.vw ids e (rows.map (·.map PC.p))):=by
 obtain⟨a,cap,h1,h2,h3,hl,h4⟩:=h.toV;have J:(rows.map (·.map PC.p)).flatten=rows.flatten.map PC.p:=by rw[List.map_flatten]
 refine⟨a,cap,by rw[uk];exact h1,by rw[uk];exact h2,h3,λr hr=>?_,?_⟩
 ·obtain⟨r0,h0,rfl⟩:=tS.1 hr;rw[uk];exact hl r0 h0
 ·rcases h4 with h4|⟨b,o,cs,el,fz,h5,h6,U,h7,h8⟩
  ·exact .inl h4
  ·refine .inr ⟨b,o,cs,el,fz,h5,h6,U,h7,λj p hj=>?_⟩;rw[J,uK,uM]at hj;obtain⟨p,hp,rfl⟩:=hj;exact h8 j p hp
theorem ztG(U:lst cur=true)(id:Nat)(ids:List Nat){e:Nat}{rows:List (List PV)}{rows':List (List PC)}(J:tg tab id=some (.arr e rows))(hr:rows.map (·.map PC.p)=rows')(g:Goal P C cur k n sl ((id,some (.vw ids e rows'))::tab) Q):Goal P C cur k n sl tab Q:=by
 subst hr;exact zvs U J (λ_ _ _ h=>h.ztF ids) g
theorem zky{e:Nat}{ids ids2 ids':List Nat}{rows2 rows2':List (List PC)}(hl: ∀r∈rows,r.length=e)(hl2: ∀r∈rows2',r.length=e)(hn:rows2'.length=rows2.length)(hi: ∀x∈rows.flatten,toV ids x=toV ids' x)
 (h2: ∀(j:Nat) (J:PC),rows2'.flatten[j]?=some J-> ∃x,rows2.flatten[j]?=some x/\toV ids2 x=toV ids' J):
 (rows++rows2').length=rows.length+rows2.length/\(∀r∈rows++rows2',r.length=e)/\(∀(j:Nat) (J:PC),j<rows.length*e->(rows++rows2').flatten[j]?=some J-> ∃x,rows.flatten[j]?=some x/\toV ids x=toV ids' J)/\
   ∀(j:Nat) (J:PC),(rows++rows2').flatten[rows.length*e+j]?=some J-> ∃x,rows2.flatten[j]?=some x/\toV ids2 x=toV ids' J:=by
 have hf:=jE hl;refine⟨by rw[uC,hn],λr hr=>(tj.1 hr).elim (hl r) (hl2 r),λj J hj U=>?_,λj J U=>?_⟩
 ·rw[qc,u9 ua]at U;exact⟨J,U,hi J (List.mem_of_getElem? U)⟩
 ·rw[qc,u7 ua,hf,Ud]at U;exact h2 j J U
end
variable {B:RL}{f:FuncId}{res:S}{rs:List (List PV)}{ts:Array TypeId}
section
open Classical in
noncomputable def lentN(M:Mem)(ρ:Nat->Value)(w:World)(B:RL):Mem:=λb o=>match M b o with
 |some v=>some v
 |none=>if ∃i r,(i,r)∈B/\Bk (ρ i) b then w.cell? ⟨b,o,none⟩else none
def zbW(M:Mem)(ρ:Nat->Value)(w:World)(B:RL):Prop:=Imm M w/\ ∀i r,(i,r)∈B->zO M ρ w i r
theorem vc:MLe M (lentN M ρ w B):=λb o v hv=>by simp only[lentN,hv]
theorem zeZ(h:Imm M w):Imm (lentN M ρ w B) w:=λb o v hv=>by
 simp only[lentN]at hv;split at hv
 ·rename_i u J;simp only[ui]at hv;subst hv;exact h b o u J
 ·split at hv
  ·exact hv
  ·cases hv
theorem ze0{b o:Nat}{v:Value}(h:lentN M ρ w B b o=some v):M b o=some v\/ ∃i r,(i,r)∈B/\Bk (ρ i) b:=by
 simp only[lentN]at h;split at h
 ·rename_i u J;simp only[ui]at h;subst h;exact .inl J
 ·split at h
  ·rename_i U;exact .inr U
  ·cases h
theorem zaS(U:Imm M w){b:Nat}(hb: ∃i r,(i,r)∈B/\Bk (ρ i) b){cs:Array Value}{fz:Nat×Nat}(hh:w.heap[b]?=some (.cells cs el fz))(i:Nat)(c:Value)(hc:cs[i]?=some c):lentN M ρ w B b i=some c:=by
 have J:w.cell? ⟨b,i,none⟩=some c:=by simp[World.cell?,hh,hc]
 simp only[lentN];cases hm0:M b i with
 |none=>simp only;rw[uv hb];exact J
 |some u=>have:=U b i u hm0;rw[J]at this;exact this.symm
theorem zhS(hI:Imm M w){v:Value}{e:Nat}(h:jh M w v e rs)(hb: ∀b,blk v=some b-> ∃i r,(i,r)∈B/\Bk (ρ i) b):RepPV (lentN M ρ w B) (.sl e rs) v:=by
 obtain⟨a0,cap,J,h2,h3,h4⟩:=h;simp only[RepPV];refine⟨a0,cap,J,h2,tZ h2 h3,?_⟩;rcases h4 with⟨rfl,U⟩|⟨b,o,cs,el,fz,h5,h6,h6',h7,h8⟩
 ·exact .inl (u3.1 ua)
 ·exact .inr ⟨b,o,h5,RowsIn.mono vc (λi c U=>zaS hI (hb b (by rw[J,h5];rfl)) h6 i c U) _ _ h8⟩
def LnV(B:RL)(v v':V):Prop:= ∀M ρ w u,zbW M ρ w B->RepV M ρ v u->RepV (lentN M ρ w B) ρ v' u
def zj7(B:RL)(v v':List V):Prop:= ∀M ρ w u,zbW M ρ w B->RepVs M ρ v u->RepVs (lentN M ρ w B) ρ v' u
def LnS(B:RL)(v v':S):Prop:= ∀M ρ w u,zbW M ρ w B->RepS M ρ v u->RepS (lentN M ρ w B) ρ v' u
def zdK(B:RL)(v v':List S):Prop:= ∀M ρ w u,zbW M ρ w B->RepSs M ρ v u->RepSs (lentN M ρ w B) ρ v' u
theorem LnV.le{v v':V}(h:LeV v v'):LnV B v v':=λ_ _ _ _ _ J=>h _ _ _ (RepV.mono vc _ _ J)
theorem LnV.refl(v:V):LnV B v v:= .le (.refl v)
theorem LnS.le{v v':S}(h:LeS v v'):LnS B v v':=λ_ _ _ _ _ J=>h _ _ _ (RepS.mono vc _ _ J)
theorem LnS.refl(v:S):LnS B v v:= .le (.refl v)
theorem zj7.nil:zj7 B [] []:=λ_ _ _ x _ J=>by cases x<;>simp only[RepVs]at J⊢
theorem zj7.cons{v v':V}{vs vs':List V}(h:LnV B v v')(U:zj7 B vs vs'):zj7 B (v::vs) (v'::vs'):=λM ρ w x hf J=>by
 cases x with
 |nil=>simp only[RepVs]at J
 |cons c cs=>simp only[RepVs]at J ⊢; exact⟨h _ _ _ _ hf J.1,U _ _ _ _ hf J.2⟩
theorem zj7.refl: ∀v:List V,zj7 B v v
 | []=> .nil
 |v::vs=> .cons (.refl v) (zj7.refl vs)
theorem LnS.one{v v':V}(h:LnV B v v'):LnS B (.one v) (.one v'):=λM ρ w x hf J=>by simp only[RepS]at J ⊢; exact h _ _ _ _ hf J
theorem LnS.agg{v v':List V}(h:zj7 B v v'):LnS B (.agg v) (.agg v'):=λM ρ w x hf J=>by
 simp only[RepS]at J ⊢; obtain⟨cs,U,h2⟩:=J;exact⟨cs,U,h _ _ _ _ hf h2⟩
theorem zdK.nil:zdK B [] []:=λ_ _ _ x _ J=>by cases x<;>simp only[RepSs]at J⊢
theorem zdK.cons{v v':S}{vs vs':List S}(h:LnS B v v')(U:zdK B vs vs'):zdK B (v::vs) (v'::vs'):=λM ρ w x hf J=>by
 cases x with
 |nil=>simp only[RepSs]at J
 |cons c cs=>simp only[RepSs]at J ⊢; exact⟨h _ _ _ _ hf J.1,U _ _ _ _ hf J.2⟩
theorem zdK.refl: ∀v:List S,zdK B v v
 | []=> .nil
 |v::vs=> .cons (.refl v) (zdK.refl vs)
theorem LnV.ar{id e:Nat}{rows:List (List PV)}(J:(id,.arr e rows)∈B):LnV B (.ar id) (.p (.sl e rows)):=λM ρ w u U hr=>by
 simp only[RepV]at hr⊢;have hA:jh M w (ρ id) e rows:=U.2 id _ J;rw[hr.1];obtain⟨a,cap,h1,_⟩:=hA;have hA:jh M w (ρ id) e rows:=U.2 id _ J;exact zhS U.1 hA λb hb=>⟨id,_,J,by rw[h1]at hb ⊢; exact hb⟩
theorem LnV.nv{id e q:Nat}{L:List (List (List PV))}{rs:List (List PV)}(J:(id,.bag e L)∈B)(hq:L[q]?=some rs):LnV B (.nv id q) (.p (.sl e rs)):=λM ρ w u U hr=>by
 simp only[RepV]at hr⊢;obtain⟨xs,f1,f2,_⟩:=hr;exact zhS U.1 (zar (U.2 id _ J) hq f1 f2) λb hb=>⟨id,_,J,by rw[f1];exact zkm f2 hb⟩
theorem LnV.vw{id e:Nat}{ids:List Nat}{rows:List (List PC)}{rows':List (List PV)}(hm:(id,.vw ids e rows)∈B)(hl:rows'.length=rows.length)(hle: ∀r∈rows',r.length=e)
 (hc: ∀(j:Nat) (J:PV),rows'.flatten[j]?=some J-> ∃x,rows.flatten[j]?=some x/\LnV B (toV ids x) (.p J)):LnV B (.ar id) (.p (.sl e rows')):=λM ρ w u hH hr=>by
 simp only[RepV,RepPV]at hr⊢;obtain⟨a,cap,h1,h2,h3,_,h4⟩:=hH.2 id _ hm;refine⟨a,cap,by rw[hl];exact hr.1.trans h1,ua,ua,?_⟩;rcases h4 with⟨rfl,hcap⟩|⟨b,o,cs,el,fz,h5,h6,h6',h7,h8⟩
 ·exact .inl (u3.1 ua)
 ·refine .inr ⟨b,o,h5,?_⟩;have hb: ∃i r,(i,r)∈B/\Bk (ρ i) b:=⟨id,_,hm,by rw[h1,h5];rfl⟩
  obtain⟨ds,k9,k10⟩:=wE (M:=lentN M ρ w B) (ρ:=ρ) (vs:=rows'.flatten.map V.p) (g:=λj=>cs[o+j]?) λj v U=>by
   rw[uK,uM]at U;obtain⟨J,hx',rfl⟩:=U;obtain⟨x,hx,hv⟩:=hc j J hx';obtain⟨c,c1,c2⟩:=h8 j x hx;exact⟨c,c1,hv _ _ _ _ hH c2⟩
  exact RowsIn.mono (MLe.refl _) (λi c hcc=>zaS hH.1 hb h6 i c hcc) _ _ (RowsIn.yG (ρ:=ρ) hle k9 λj c U=>k10 j c U)
theorem zhT{α β:Type}{e:Nat}{rows:List (List α)}{rows':List (List β)}{R:α->β->Prop}(hl: ∀r∈rows,r.length=e)(U: ∀r∈rows',r.length=e)
 (h: ∀(i:Nat) (row':List β),rows'[i]?=some row'-> ∃row,rows[i]?=some row/\ ∀(c:Nat) (J:β),row'[c]?=some J-> ∃x,row[c]?=some x/\R x J):
 ∀(j:Nat) (J:β),rows'.flatten[j]?=some J-> ∃x,rows.flatten[j]?=some x/\R x J:=λj J hj=>by
 obtain⟨i,c,row',h1,h2,h3,h4⟩:=zdL U hj;obtain⟨row,g1,g2⟩:=h i row' h3;obtain⟨x,g3,g4⟩:=g2 c J h4;exact⟨x,by rw[h1,ji hl h2,g1];exact g3,g4⟩
section
variable {d:Option Nat} {ty:TypeId}
theorem zrf{args:List S}(h:zh P f args [] res [])(B:RL){l:List Operand}{first caps:List V}{ss:List S}
 (hx:okc x (.one (.cl f first caps))) (hl:zeK l ss) (hle:zdK B (ones first++ss++ones caps) args) (hf:flatS res=true):
 Snd P ⟨d,.call ⟨.value x,l.toArray,ts⟩,ty,ps,af,g⟩ (rq x (.one (.cl f first caps))++rqs l ss) B [] res []:=by
 intro C st M ρ a w J h1 hT hF hd k Q hk;rw[za]at h1;have e1:=J.evS (zz hx h1.1);have e2:=J.zhE (w8 hl h1.2);simp only[RepS,RepV]at e1;obtain⟨xs,ys,e3,e4,e5⟩:=e1;have hall:zbW M ρ w B:=⟨J.run.imm,λi r hm=>J.zP.res i r (xm hT hm)⟩;have e6:RepSs (lentN M ρ w B) ρ args (xs++l.map a.eval++ys):=hle _ _ _ _ hall (yF (yF (yJ e4) e2) (yJ e5));have e7:wc (lentN M ρ w B) ρ w (tb []):=⟨λ_ _ h=>(by cases h),λ_ _ _ _ _ h=>(by cases h),λ_ _ _ h=>(by cases h)⟩;unfold Oper.wp;rw[zby h.1 e3,Oper.upon_enter];refine Calls.mono (h.2 (lentN M ρ w B) ρ w _ e6 e7 (zeZ J.run.imm) (J.gok.mono vc)) λe w' ⟨v,M',ρ',he,U⟩=>?_;subst he;have hH':=J.grow (w':=w') (λb hb=>U.fram b hb (λ⟨i,r,h,_⟩=>by cases h)) U.size U.os U.tape U.output;exact hk _ _ _ _ (hH'.zaT hd (ze1 hf U.rep))
end
section
variable {k:List Frm} {n:Nat} {sl:zf}
theorem zgr{l:List Operand}{ty:TypeId}(hC:C.low){args ss:List S}{first caps:List V}
 (h:zh P f args [] res []) (B:RL) (hx:ev sl x=some (.one (.cl f first caps))) (hl:evs sl l=some ss) (ha:zdK B (ones first++ss++ones caps) args) (hc:flatS res=true) (hm:metL all sl g0=some gs) (hB:rdT tab B=B) (hd:Nat.blt d n=true)
 (g:Goal P C (.ops all rest (nx md ⟨some d,gs++(rq x (.one (.cl f first caps))++rqs l ss),B,[],res,[]⟩)) k n ((d,res)::sl) tab Q):
 Goal P C (.ops all (⟨some d,.call ⟨.value x,l.toArray,ts⟩,ty,ps,af,g0⟩::rest) md) k n sl tab Q:=by
 have J:=zB (st:=⟨n,sl,tab⟩) hx;have U:=xO (st:=⟨n,sl,tab⟩) hl;have:=zk hm (zrf (ty:=ty) (ps:=ps) (af:=af) (g:=g0) (d:=some d) (ts:=ts) h B J.1 U.1 ha hc) (n:=n) (tab:=tab);exact zT (L:=⟨some d,gs++(rq x (.one (.cl f first caps))++rqs l ss),B,[],res,[]⟩) hC this.1 rfl ⟨by rw[za,za];exact⟨this.2,J.2,U.2⟩,jg hB,rfl,hd⟩ g
def LnR(B:RL)(r r':Res):Prop:= ∀M ρ w i,zbW M ρ w B->zO M ρ w i r->zO (lentN M ρ w B) ρ w i r'
theorem LnR.box{B:RL}{vs vs':List V}(h:zj7 B vs vs'):LnR B (.box vs) (.box vs'):=λ_ _ _ _ J ⟨b,cs,el,U,e2,e3⟩=>⟨b,cs,el,U,e2,h _ _ _ _ J e3⟩
def upN(B:RL)(tab:Tab):List (Nat×Res)->Prop
 | []=>True
 |(i,r')::l=>(∃r,tg tab i=some r/\(hasB i B.ids=false/\LnR B r r'))/\upN B tab l
theorem zqa{B:RL}{tab b:Tab}: ∀ {ups:List (Nat×Res)},upN B tab ups-> ∀ {k:Nat} {r:Res},tg (znK ups++b) k=some r->
 tg b k=some r\/ ∃J,tg tab k=some J/\k∉B.ids/\LnR B J r
 | [],_,k,r,h=> .inl h
 |(t,s')::l,hu,k,r,h=>by
  simp only[znK,uN,zC]at h;split at h
  ·rename_i e;subst e;simp only[ui]at h;subst h;obtain⟨J,U,h2,h3⟩:=hu.1;have n1:t∉B.ids:=λhm=>by have:=zbw hm;rw[h2]at this;cases this
   exact .inr ⟨J,U,n1,h3⟩
  ·exact zqa hu.2 h
theorem ze2(hc:lst cur=true)(B:RL)(hBT:rdT tab B=B)(ups:zf)(hS:upS (LnS B) sl ups)(bs:List (Nat×Res))(hB:upN B tab bs)
 (g:Goal P C cur k n (ups++sl) (znK bs++(xy B.ids++tab)) Q):Goal P C cur k n sl tab Q:=by
 refine zc0 hc (λ{M ρ a w} h=>?_) g;have hTB:=jg (n:=n) (sl:=sl) hBT;have hall:zbW M ρ w B:=⟨h.run.imm,λi r hm=>h.zP.res i r (xm hTB hm)⟩
 have J: ∀i r,tg (znK bs++(xy B.ids++tab)) i=some r->i∉B.ids/\ ∃r0,tg tab i=some r0/\(r=r0\/LnR B r0 r):=λi r hi=>by
  rcases zqa hB hi with U|⟨r0,U,h2,h3⟩
  ·have:=zgm U;exact⟨this.1,r,this.2,.inl rfl⟩
  ·exact⟨h2,r0,U,.inr h3⟩
 refine⟨lentN M ρ w B,ρ,h.dfr,h.sz,λk s hk=>?_,⟨λi r hi=>?_,λi j ri rj b hi hj hne hbi hbj=>?_,λi r b hi hb o=>?_⟩,λi r b hi hb=>?_,
  ⟨zeZ h.run.imm,h.run.fram,h.run.size,h.run.base.trans vc,λb o u hu=>?_,h.run.os,h.run.tape,h.run.output⟩,h.keep⟩
 ·rcases zeU hS hk with U|⟨s0,U,h2⟩
  ·exact RepS.mono vc _ _ (h.slots k s U)
  ·exact h2 _ _ _ _ hall (h.slots k s0 U)
 ·obtain⟨_,r0,U,h2⟩:=J i r hi;rcases h2 with rfl|h2
  ·exact(h.zP.res i r U).mono vc
  ·exact h2 _ _ _ _ hall (h.zP.res i r0 U)
 ·obtain⟨_,r0,U,_⟩:=J i ri hi;obtain⟨_,s0,h2,_⟩:=J j rj hj;exact h.zP.dis i j r0 s0 b U h2 hne hbi hbj
 ·obtain⟨i1,r0,U,_⟩:=J i r hi;cases hm:lentN M ρ w B b o with
  |none=>rfl
  |some u=>
   rcases ze0 hm with h3|⟨j,s,hj,hbj⟩
   ·rw[h.zP.own i r0 b U hb o]at h3;cases h3
   ·exact(h.zP.dis i j r0 s b U (xm hTB hj) (λe=>i1 (e ▸ zR hj)) hb hbj).elim
 ·obtain⟨_,r0,U,_⟩:=J i r hi;exact h.ownf i r0 b U hb
 ·rcases ze0 hu with h3|⟨j,s,hj,hbj⟩
  ·exact h.run.newM b o u h3
  ·exact .inr (h.ownf j s b (xm hTB hj) hbj)
end
end
end Hw
namespace Hw.Gm
open Go Go.Proofs Hw.M
def wRows:List Nd->Nat->List (List PC)
 | [],_=>[]
 |x::r,j=>[.p (ki x.t),.n 0 j]::wRows r (j+1)
theorem yw: ∀(l:List Nd) (j:Nat),(wRows l j).length=l.length
 | [],_=>rfl
 |_::r,j=>by simp only[wRows,uR,yw r]
theorem x5: ∀(l:List Nd) (j i:Nat),(wRows l j)[i]?=(l[i]?).map λx=>[PC.p (ki x.t),PC.n 0 (j+i)]
 | [],_,_=>by simp[wRows]
 |x::r,j,0=>by simp[wRows]
 |x::r,j,i+1=>by
  simp only[wRows,tr,x5 r];rw[show j+1+i=j+(i+1) by omega]
theorem wU(l:List Nd)(j:Nat): ∀r∈wRows l j,r.length=2:=λr U=>by
 obtain⟨i,J⟩:=qd.1 U;rw[x5,uM]at J;obtain⟨x,_,rfl⟩:=J;rfl
theorem zgs{l l':List Nd}(hl:l.length=l'.length)(h: ∀(i:Nat) x y,l[i]?=some x->l'[i]?=some y->x.t=y.t)(j:Nat):wRows l j=wRows l' j:=by
 refine List.ext_getElem? λi=>?_;rw[x5,x5];cases e:l[i]? with
 |none=>
  have:l'[i]?=none:=by rw[List.getElem?_eq_none_iff]at e ⊢; omega
  rw[this]
 |some x=>
  have hlt:=(uw.1 e).1;obtain⟨y,J⟩:=zd (l:=l') (i:=i) ua;rw[J,uO,uO,h i x y e J]
variable {x:Nd}
theorem zkz(l:List Nd){k:Nat}(hx:l[k]?=some x)(f:List Int):wRows (l.set k ⟨x.t,f⟩) 0=wRows l 0:=by
 refine zgs (by rw[oH]) (λi y z J U=>?_) 0;by_cases e:k=i
 ·subst e;rw[hx]at U;rw[Ug (uw.1 hx).1]at J;rw[<-uS J,<-uS U]
 ·rw[oD e,U]at J;rw[uS J]
def j9(l:List Nd):List (List (List PV)):=l.map λx=>x.f.map yk
theorem zbX{l:List Nd}{k:Nat}(h:l[k]?=some x):(j9 l)[k]?=some (x.f.map yk):=by unfold j9;rw[uK,h];rfl
theorem zoj(l:List Nd)(k:Nat)(x:Nd)(f:List Int):(j9 l).set k (f.map yk)=j9 (l.set k ⟨x.t,f⟩):=by unfold j9;rw[Un]
theorem zdM(l:List Int): ∀r∈l.map yk,r.length=1:=λr J=>by obtain⟨y,_,rfl⟩:=tS.1 J;rfl
theorem zkA(l:List Int)(k:Nat)(v:Int): ∀m p,((l.set k v).map yk).flatten[m]?=some p->(k*1<=m/\([ki v]:List PV)[m - k*1]?=some p)\/((m<k*1\/k*1+1<=m)/\(l.map yk).flatten[m]?=some p):=λm p h=>by
 rw[Un]at h;rcases zok (zdM l) rfl h with⟨c,J,h2,h3⟩|⟨J,h2⟩
 ·have U:c=0:=by omega
  subst U;refine .inl ⟨ua,?_⟩;rw[show m - k*1=0 by omega];exact h3
 ·exact .inr ⟨J,h2⟩
theorem ztH(l:List Nd)(a b:Nat): ∀x∈(wRows l 0).flatten,toV [a] x=toV [a,b] x:=λx hx=>by
 obtain⟨r,hr,J⟩:=List.mem_flatten.1 hx;obtain⟨j,U⟩:=qd.1 hr;rw[x5,uM]at U;obtain⟨y,_,rfl⟩:=U;simp only[uI,List.not_mem_nil,oR]at J;rcases J with rfl|rfl<;>rfl
theorem zgt(l:List Nd)(t:Int)(a b:Nat):(wRows l 0++[[PC.p (ki t),PC.a 1]]).length=(wRows l 0).length+([[PC.p (ki t),PC.a 0]]:List (List PC)).length/\(∀r∈wRows l 0++[[PC.p (ki t),PC.a 1]],r.length=2)/\
 (∀(j:Nat) (U:PC),j<(wRows l 0).length*2->(wRows l 0++[[PC.p (ki t),PC.a 1]]).flatten[j]?=some U-> ∃x,(wRows l 0).flatten[j]?=some x/\toV [a] x=toV [a,b] U)/\
   ∀(j:Nat) (U:PC),(wRows l 0++[[PC.p (ki t),PC.a 1]]).flatten[(wRows l 0).length*2+j]?=some U-> ∃x,([[PC.p (ki t),PC.a 0]]:List (List PC)).flatten[j]?=some x/\toV [b] x=toV [a,b] U:=
 zky (wU l 0) (λr hr=>by simp only[tB]at hr;subst hr;rfl) rfl (ztH l a b) λj U J=>by
  match j,J with
  |0,J=>simp only[tK,oB,u0,List.getElem?_cons_zero,ui]at J;subst J;exact⟨_,rfl,rfl⟩
  |1,J=>simp only[tK,oB,u0,tr,List.getElem?_cons_zero,ui]at J;subst J;exact⟨_,rfl,rfl⟩
  |j+2,J=>simp at J
theorem zgu(l:List Nd)(x:Nd)(a b c:Nat):RwR (TkF a b c l.length) (.vw [a,b] 2 (wRows l 0++[[PC.p (ki x.t),PC.a 1]])) (.vw [c] 2 (wRows (l++[x]) 0)):=by
 have h2: ∀r∈wRows l 0++[[PC.p (ki x.t),PC.a 1]],r.length=2:=λr hr=>(tj.1 hr).elim (wU l 0 r) λh=>by simp only[tB]at h;subst h;rfl
 refine RwR.vw (by rw[yw,uC,uC,yw];rfl) (wU _ _) (zhT h2 (wU _ _) λj row' U=>?_);rw[x5]at U;rw[oC,yw];by_cases h1:j<l.length
 ·rw[uv h1,x5];rw[u9 h1]at U;obtain⟨y,hy,rfl⟩:=uM.1 U;rw[hy];refine⟨_,rfl,λc x' J=>?_⟩
  match c,J with
  |0,J=>simp only[List.getElem?_cons_zero,ui]at J;subst J;exact⟨_,rfl,RwV.refl _⟩
  |1,J=>simp only[tr,List.getElem?_cons_zero,ui]at J;subst J;exact⟨_,rfl,TkF.nv⟩
  |c+2,J=>simp at J
 ·rw[uu h1];rw[u7 ua]at U;by_cases h3:j=l.length
  ·subst h3;rw[qZ]at U⊢;simp only[List.getElem?_cons_zero,uO,ui]at U;subst U;refine⟨_,rfl,λc x' J=>?_⟩
   match c,J with
   |0,J=>simp only[List.getElem?_cons_zero,ui]at J;subst J;exact⟨_,rfl,RwV.refl _⟩
   |1,J=>simp only[tr,List.getElem?_cons_zero,ui]at J;subst J;rw[tC];exact⟨_,rfl,TkF.ar⟩
   |c+2,J=>simp at J
  ·obtain⟨k,hk⟩: ∃k,j - l.length=k+1:=⟨j - l.length - 1,ua⟩;rw[hk]at U;simp at U
theorem zkC(l:List Nd)(t:Int)(n:Nat):j9 l++[List.replicate n [ki 0]]=j9 (l++[⟨t,List.replicate n 0⟩]):=by
 simp only[j9,u6,uQ,qt,oS,yk]
theorem zdN(l:List Nd):(j9 l).length=l.length:=by simp only[j9,uk]
end Hw.Gm
namespace Hw.Gm.Ps
open Go Go.Proofs Hw.M
abbrev uc(c:Int):S:= .one (.p (.k (.int .u8 c)))
def x6(c:Int):Bool:=(decide (97<=c)&&decide (c<=122))||(decide (65<=c)&&decide (c<=90))
def isDigit(c:Int):Bool:=decide (48<=c)&&decide (c<=57)
def isWord(c:Int):Bool:=(x6 c||isDigit c)||decide (c=95)
def zdO:List Str:=[(⟨#[116,121,112,101]⟩:UH),(⟨#[118,97,114]⟩:UH),(⟨#[112,114,111,99]⟩:UH),(⟨#[108,111,99,97,108]⟩:UH),(⟨#[109,101,97,115,117,114,101]⟩:UH),(⟨#[105,110,118,97,114,105,97,110,116]⟩:UH),(⟨#[112,111,116,101,110,116,105,97,108]⟩:UH),(⟨#[98,111,117,110,100]⟩:UH),(⟨#[105,102]⟩:UH),(⟨#[101,108,115,101]⟩:UH),(⟨#[119,104,105,108,101]⟩:UH),(⟨#[114,101,116,117,114,110]⟩:UH),(⟨#[110,101,119]⟩:UH),(⟨#[110,105,108]⟩:UH),(⟨#[116,114,117,101]⟩:UH),(⟨#[102,97,108,115,101]⟩:UH),(⟨#[97,110,100]⟩:UH),(⟨#[111,114]⟩:UH),(⟨#[110,111,116]⟩:UH),(⟨#[109,97,120]⟩:UH),(⟨#[109,105,110]⟩:UH),(⟨#[108,111,103]⟩:UH),(⟨#[105,110,116]⟩:UH),(⟨#[98,111,111,108]⟩:UH),(⟨#[116,104,105,115]⟩:UH),(⟨#[115,111,114,116]⟩:UH),(⟨#[111,112]⟩:UH),(⟨#[114,117,108,101]⟩:UH),(⟨#[115,112,101,99]⟩:UH),(⟨#[100,101,115,99]⟩:UH),(⟨#[115,99,114,105,112,116]⟩:UH)]
def wg(s:Str):Bool:=zdO.any λx=>decide (x=s)
def bytes(s:Str):List Int:=s.data.toList.map λb=>(b.toNat:Int)
variable {i:Nat}
theorem zhU{s:Str}{c:Int}(h:(bytes s)[i]?=some c): ∃b:UInt8,s[((i:Nat):Int).toNat]?=some b/\c=(b.toNat:Int):=by
 simp only[bytes,uK,uM]at h;obtain⟨b,hb,rfl⟩:=h;refine⟨b,?_,rfl⟩
 have J:i<s.data.size:=by
  have:=(uw.1 hb).1;simpa using this
 have:s.data[i]=b:=by rw[qz,tR J]at hb;exact uS hb
 have U:i<s.size:=J;simp only[tD];rw[getElem?_pos s i U];exact uX some this
theorem zkD(s:Str):(bytes s).length=s.size:=by simp only[bytes,uk,tV];rfl
def isName(s:Str):Bool:= !decide (s.size=0)&& !decide (40<s.size)&&(match bytes s with| []=>false|c::_=>x6 c)&&(bytes s).all isWord&& !wg s
def isType(s:Str):Bool:=decide (s=(⟨#[105,110,116]⟩:UH))||decide (s=(⟨#[98,111,111,108]⟩:UH))||isName s
def zhV(s:Str):Bool:=decide (s=(⟨#[]⟩:UH))||isName s
def zdP(f:Fld):Bool:=isName f.n&&isType f.t
def xB(l:List Fld)(most:Int):Bool:=decide ((l.length:Int)<=most)&&l.all zdP
def vt(d:zj)(s:Str):Int:=idxOf (λt=>decide (t.n=s)) d.types
def zaa(s:Str):Bool:=decide (s=(⟨#[105,110,116]⟩:UH))||decide (s=(⟨#[98,111,111,108]⟩:UH))
def known(d:zj)(f:Fld):Bool:=zaa f.t|| !decide (vt d f.t<0)
def zhW(d:zj)(m:Hp)(t:Str)(v:Int):Bool:=
 if t=(⟨#[105,110,116]⟩:UH)then decide (-1099511627776<=v)&&decide (v<=1099511627776)
 else if t=(⟨#[98,111,111,108]⟩:UH)then decide (v=0)||decide (v=1)
 else decide (v=0)||(decide (1<=v)&&decide (v<=m.n.length)&&decide ((m.n[(v - 1).toNat]?).map (·.t)=some (vt d t)))
def zod(d:zj):Hp:=⟨List.replicate d.globals.length 0,[]⟩
theorem newRow(n:Nat):List.replicate n [PV.k (.int .i64 0)]=(List.replicate n (0:Int)).map yk:=by rw[oS];rfl
def yr(op:Int):Int:=
 if(decide (1<=op)&&decide (op<=4))||decide (op=6)then 0
 else if((decide (op=5)||decide (op=8))||decide (op=18))||decide (op=24)then 1
 else if op=7 then -1
 else if op=21 then 3
 else if decide (9<=op)&&decide (op<=23)then 2
 else -2
def za8(e:Ex):Bool:=
 if e.op=4 then decide (e.s=(⟨#[116,104,105,115]⟩:UH))||isName e.s
 else if e.op=5\/e.op=6\/e.op=7 then isName e.s
 else decide (e.s=(⟨#[]⟩:UH))
def zbp(e:Ex):Bool:=
 !decide (yr e.op= -2)&& !(decide (0<=yr e.op)&& !decide ((e.l.length:Int)=yr e.op))&& !(decide (yr e.op= -1)&&decide (6<(e.l.length:Int)))&&za8 e&&
 (if e.op=1 then decide (0<=e.n)&&decide (e.n<=1099511627776)else if e.op=2 then decide (e.n=0)||decide (e.n=1)else decide (e.n=0))
mutual
def countS:Ex->Int->Int
 | .mk op n s l,d=>if decide (60<d)|| !zbp (.mk op n s l)then 1001 else countL l d 1
def countL:List Ex->Int->Int->Int
 | [],_,n=>n
 |e::es,d,n=>if 1000<n+countS e (d+1)then n+countS e (d+1)else countL es d (n+countS e (d+1))
end
mutual
theorem vd: ∀(e:Ex) (d:Int),1<=countS e d/\countS e d<=1001+1000*(if d<=60 then 61 - d else 0)
 | .mk op n s l,d=>by
   simp only[countS];split
   ·split<;>omega
   ·rename_i h;simp only[uU,uq,ux,Uz]at h;have:=jk l d 1 ua ua ua;rw[uv ua];omega
theorem jk: ∀(l:List Ex) (d n:Int),1<=n->n<=1000->d<=60->1<=countL l d n/\countL l d n<=1001+1000*(61 - d)
 | [],d,n,h1,h2,h3=>by simp only[countL];omega
 |e::es,d,n,h1,h2,h3=>by
  simp only[countL];have hb:=vd e (d+1);split at hb
  ·split
   ·omega
   ·exact jk es d _ ua ua h3
  ·split
   ·omega
   ·exact jk es d _ ua ua h3
end
variable {α:Type}{x:α}
theorem drop_at{l:List α}(h:l[i]?=some x):l.drop i=x::l.drop (i+1):=by
 obtain⟨J,rfl⟩:=uw.1 h;exact qm J
def xi(e:Ex):Bool:=decide (countS e 1<=1000)
def vH(s:Sm)(lo hi:Int):Bool:= !decide ((s.e.length:Int)<lo)&& !decide (hi<(s.e.length:Int))&&s.e.all xi
theorem zI{l:List Ex}{x:Ex}(h:l[0]?=some x):(l.map z8)[(0:Int).toNat]?=some (ye x):=xA (i:=0) h
def zkE(s:Sm):Bool:=decide ((s.l.length:Int)=0)&&decide ((s.els.length:Int)=0)
def zkF(s:Sm)(b:Bool):Bool:=
 if s.op=1 then isName s.s&&vH s 1 1&&b
 else if s.op=2 then isName s.s&&vH s 2 2&&b
 else if s.op=3 then decide (s.s=(⟨#[]⟩:UH))&&vH s 1 1
 else if s.op=4 then decide (s.s=(⟨#[]⟩:UH))&&vH s 1 1&&decide ((s.els.length:Int)=0)
 else if s.op=5 then decide (s.s=(⟨#[]⟩:UH))&&vH s 0 1&&b
 else if s.op=6 then decide (s.s=(⟨#[]⟩:UH))&&vH s 1 1&&decide ((s.e[0]?).map Ex.op=some 7)&&b
 else false
def zat(s:Sm):Bool:=zkF s (zkE s)
def zgd(n k:Int):Int:=if n<=200 then n+k else n
mutual
def stN:Sm->Int->Int->Int
 | .mk op s e l els,d,n=>if decide (60<d)|| !zat (.mk op s e l els)then 201 else zgd (zgd (n+1) (stL l (d+1) 0)) (stL els (d+1) 0)
def stL:List Sm->Int->Int->Int
 | [],_,n=>n
 |s::r,d,n=>if 200<stN s d n then stN s d n else stL r d (stN s d n)
end
theorem zhX(s:Sm)(d n:Int):stN s d n=if decide (60<d)|| !zat s then 201 else zgd (zgd (n+1) (stL s.l (d+1) 0)) (stL s.els (d+1) 0):=by
 cases s;simp only[stN,Sm.l,Sm.els]
def zol(d:Int):Int:=201+400*(if d<=60 then 61 - d else 0)
theorem zc1{n k K:Int}(hn:0<=n)(hk:0<=k/\k<=K)(h:n<=200+K):0<=zgd n k/\zgd n k<=200+K:=by
 unfold zgd;split<;>omega
mutual
theorem zkG: ∀(s:Sm) (d n:Int),0<=n->n<=200->0<=stN s d n/\stN s d n<=zol d
 | .mk op s e l els,d,n,h0,h1=>by
   simp only[stN];split
   ·unfold zol;split<;>omega
   ·rename_i h;simp only[uU,uq,ux,Uz]at h;have b1:=wh l (d+1) 0 ua ua;have b2:=wh els (d+1) 0 ua ua;have b0:1<=zol (d+1):=by unfold zol;split<;>omega
    have c1:=zc1 (n:=n+1) ua b1 ua;have c2:=zc1 c1.1 b2 c1.2;have:200+zol (d+1)<=zol d:=by unfold zol;rw[uv (c:=d<=60) ua];split<;>omega
    omega
theorem wh: ∀(l:List Sm) (d n:Int),0<=n->n<=200->0<=stL l d n/\stL l d n<=zol d
 | [],d,n,h0,h1=>by
   simp only[stL];refine⟨h0,?_⟩;unfold zol;split<;>omega
 |s::r,d,n,h0,h1=>by
  simp only[stL];have b:=zkG s d n h0 h1;split
  ·exact b
  ·exact wh r d _ b.1 ua
end
theorem zhY(s:Sm):sizeOf s.l<sizeOf s/\sizeOf s.els<sizeOf s:=by
 cases s;simp only[Sm.l,Sm.els,Sm.mk.sizeOf_spec];omega
theorem zgv[SizeOf α]{l:List α}(h:l[i]?=some x):sizeOf x<sizeOf l:=qB (List.mem_of_getElem? h)
def za9(p:Pr):Bool:=isName p.n&&xB p.params 6&&xB p.locs 12&&(decide (p.res=(⟨#[]⟩:UH))||isType p.res)&&decide (stL p.body 1 0<=200)
def jl(m:Ms):Bool:=isName m.n&&isName m.t&& !decide (m.z< -1099511627776)&& !decide (1099511627776<m.z)&&xi m.x
def zbY(m:Iv):Bool:=isName m.n&&zhV m.t&&xi m.x
def zbZ(m:Pt):Bool:=zhV m.t&&xi m.x
def zb0(m:Bd):Bool:=isName m.p&&xi m.x
def yR(d:zj):Bool:=d.measures.all jl&&d.invs.all zbY&&d.pots.all zbZ&&d.bounds.all zb0
def zb1(t:yn):Bool:=isName t.n&&xB t.f 12
def zbz(d:zj):Bool:=isName d.n&& !decide (12<(d.types.length:Int))&&xB d.globals 8&& !decide (40<(d.procs.length:Int))&&
 !decide (12<(d.measures.length:Int))&& !decide (12<(d.invs.length:Int))&& !decide (12<(d.pots.length:Int))&& !decide (12<(d.bounds.length:Int))
def yx(d:zj):Bool:=zbz d&&d.types.all zb1&&d.procs.all za9&&yR d
def zb2(f:Fld):Bool:=decide (100<(f.n.size:Int))||decide (100<(f.t.size:Int))
def ze3(l:List Fld):Bool:=decide (60<(l.length:Int))|| !l.all λf=> !zb2 f
theorem zgw(l:List Fld):zh Tryz.prog 78 [pS (zx l)] [] (.bq (ze3 l)) []:=by
 refine gO T Tryz.func78 λC hC=>?_
 repeat' first|refine gG ?_|refine gB ?_ ?_<;>intro h|refine gL ?_
 ·rw[uk]at h;simp only[ze3,h,oq]
 ·rw[uk]at h;have hw:ze3 l= !l.all λf=> !zb2 f:=by simp only[ze3,h,tO]
  rw[hw];have hlen:=um h;clear h hw
  refine zn (λi:Nat=>i<=(l).length/\((l).take i).all (λf=> !zb2 f)=true) (λi=>([(0,pS (zx l)),(3,I i)],[])) (λi=>(l).length - i) hC
   0 ⟨uz _,ue⟩ id gM ?_
  rintro i ⟨hi,U⟩;refine zq T hC true 200 rfl ?_;refine zt rfl ?_ ?_<;>intro h
  ·have J:i<(l).length:=by first|simpa using h|(have h':=uj h;simp only[uk,th]at h' ⊢; omega)
   clear h;obtain⟨x,hx⟩:=zd J
   repeat' first|refine gG ?_|refine gB ?_ ?_<;>intro h|refine gX ?_|refine zo ?_|refine gL ?_
   all_goals first
    |(have hp:(λf=> !zb2 f) x=true:=by clear U hx J hi;simp_all[zb2, -List.all_eq_true, -List.all_eq_false]<;>omega
      have hlt':=J
      try simp only[th,qC]at hlt'
      rw[wrap64 ua];refine zg (i+1) ⟨ua,?_⟩ id ua gM
      rw[x7 (p:=λf=> !zb2 f) hx,U,tA];exact hp)
    |(have hp:(λf=> !zb2 f) x=false:=by clear U hx J hi;simp_all[zb2, -List.all_eq_true, -List.all_eq_false]<;>omega
      have hno:=zau (p:=λf=> !zb2 f) hx hp
      rw[hno];rfl)
  have hge: ¬i<(l).length:=by first|simpa using h|(have h':=um h;simp only[uk,th]at h' ⊢; omega)
  have hall:(l).all (λf=> !zb2 f)=true:=jm (p:=λf=> !zb2 f) ua U;clear h hge U hi
  repeat' first|refine gG ?_|refine gB ?_ ?_<;>intro h|refine ze ?_|refine gL ?_
  rw[hall];rfl
mutual
def leftS:Ex->Int->Int->Int
 | .mk _ _ s l,d,n=>if decide (n<=0)||decide (d=0)||decide (100<(s.size:Int))then -1 else leftL l (d - 1) (n - 1)
def leftL:List Ex->Int->Int->Int
 | [],_,n=>n
 |e::es,d,n=>if 0<=n then leftL es d (leftS e d n)else n
end
theorem zbA(e:Ex)(d n:Int):leftS e d n=if decide (n<=0)||decide (d=0)||decide (100<(e.s.size:Int))then -1 else leftL e.l (d - 1) (n - 1):=by
 cases e;rfl
mutual
theorem xp: ∀(e:Ex) (d n:Int), -1<=n-> -1<=leftS e d n/\leftS e d n<=n
 | .mk a b s l,d,n,h=>by
   simp only[leftS];split
   ·omega
   ·rename_i h';simp only[uU,uq,Uz]at h';have:=vI l (d - 1) (n - 1) ua;omega
theorem vI: ∀(l:List Ex) (d n:Int), -1<=n-> -1<=leftL l d n/\leftL l d n<=n
 | [],d,n,h=>by simp only[leftL];omega
 |e::es,d,n,h=>by
  simp only[leftL];split
  ·have h1:=xp e d n h;have h2:=vI es d _ h1.1;omega
  ·omega
end
theorem ze4{l:List Ex}{d n:Int}(h:n<0):leftL l d n=n:=by
 cases l with
 |nil=>rfl
 |cons e es=>simp only[leftL];rw[uu ua]
theorem ze5(e:Ex):sizeOf e.l<sizeOf e:=by
 cases e;simp only[Ex.l,Ex.mk.sizeOf_spec];omega
theorem zrg: ∀(N:Nat) (e:Ex) (d n:Int),sizeOf e<N->0<=d->d<=1000-> -1<=n->n<=1000000->zh Tryz.prog 80 [zF (ye e),I d,I n] [] (I (leftS e d n)) []:=by
 intro N
 induction N with
 |zero=>intro e d n h;omega
 |succ N ih=>
  intro e d n hN hd1 hd2 hn1 hn2;refine gO T Tryz.func80 λC hC=>?_;refine jn rfl 0 3 rfl rfl λhlen=>?_;rw[uk]at hlen
  repeat' first|refine gG ?_|refine gB ?_ ?_<;>intro h|refine gN ?_
  ·rw[zbA,h];rfl
  ·rename_i U;rw[zbA,U,h];rfl
  ·rename_i U h1;rw[zbA,U,h1,h];rfl
  ·rename_i U h1;have hc:leftS e d n=leftL e.l (d - 1) (n - 1):=by rw[zbA,U,h1,h];rfl
   have e0:=um U;have e1:=um h1;clear U h1 h;have w0:IntKind.i64.wrap (n - 1)=n - 1:=wrap64 ua;have w1:IntKind.i64.wrap (d - 1)=d - 1:=wrap64 ua;rw[hc,w0]
   refine zn (λp:Nat×Int=>p.1<=e.l.length/\ -1<=p.2/\p.2<=1000000/\leftL (e.l.drop p.1) (d - 1) p.2=leftL e.l (d - 1) (n - 1)) (λp=>([(1,I d),(2,I p.2),(3,.one (.bx 1003 0)),(7,I p.1)],[(1003,some (.box ((ye e).map V.p)))])) (λp=>e.l.length - p.1) hC
    (0,n - 1) ⟨uz _,by simp only;omega,by simp only;omega,rfl⟩ id gM ?_
   rintro⟨i,m⟩ ⟨hi,hm1,hm2,J⟩;simp only at hi hm1 hm2 J
   repeat' first|refine gG ?_|refine gB ?_ ?_<;>intro h|refine ze ?_|refine gN ?_
   ·rename_i hlt0;have hlt:i<e.l.length:=by simpa using hlt0
    have hm0:0<=m:=uj h;obtain⟨x,hx⟩:=zd hlt;have hsz:=zgv hx;have hsz2:=ze5 e;rw[drop_at hx]at J;simp only[leftL,uv hm0]at J;have hb:=xp x (d - 1) m hm1;have k1:=ih x (d - 1) m ua ua ua hm1 hm2;have w4:IntKind.i64.wrap ((i:Int)+1)=((i+1:Nat):Int):=by rw[show((i:Int)+1)=((i+1:Nat):Int) by omega];exact wrap64 ua
    repeat' first|refine gG ?_|refine gB ?_ ?_<;>intro h|refine gXE ?_|rw[w1]|refine gC k1 ?_
    rw[w4];exact zg (i+1,leftS x (d - 1) m) ⟨by simp only;omega,by simp only;omega,by simp only;omega,J⟩ id (by simp only;omega) gM
   ·have hm0:m<0:=qS.1 (um h);rw[ze4 hm0]at J;exact J
   ·have hge: ¬i<e.l.length:=by simpa using h
    rw[uA ua]at J;exact J
mutual
def laN:Sm->Int->Int->Int
 | .mk _ s e l els,d,n=>if 100<(s.size:Int)then -1 else
    if 0<=(if 0<=leftL e 65 (n - 1)then(if d - 1=0 then -1 else laL l (d - 1) (leftL e 65 (n - 1)))else leftL e 65 (n - 1))then
     (if d - 1=0 then -1 else laL els (d - 1) (if 0<=leftL e 65 (n - 1)then(if d - 1=0 then -1 else laL l (d - 1) (leftL e 65 (n - 1)))else leftL e 65 (n - 1)))
    else(if 0<=leftL e 65 (n - 1)then(if d - 1=0 then -1 else laL l (d - 1) (leftL e 65 (n - 1)))else leftL e 65 (n - 1))
def laL:List Sm->Int->Int->Int
 | [],_,n=>n
 |s::r,d,n=>if 0<=n then laL r d (laN s d n)else n
end
def laS(l:List Sm)(d n:Int):Int:=if d=0 then -1 else laL l d n
def laT(l:List Sm)(d n:Int):Int:=if 0<=n then laS l d n else n
theorem zqb(s:Sm)(d n:Int):laN s d n=if 100<(s.s.size:Int)then -1 else laT s.els (d - 1) (laT s.l (d - 1) (leftL s.e 65 (n - 1))):=by
 cases s;rfl
theorem zav{l:List Sm}{d n:Int}(h: -1<=n)(J:0<=n-> -1<=laL l d n/\laL l d n<=n): -1<=laT l d n/\laT l d n<=n:=by
 unfold laT laS;split
 ·split
  ·omega
  ·exact J ua
 ·omega
mutual
theorem zkH: ∀(s:Sm) (d n:Int),0<=n-> -1<=laN s d n/\laN s d n<=n
 | .mk op s e l els,d,n,h=>by
   rw[zqb];by_cases hh:100<((Sm.mk op s e l els).s.size:Int)
   ·rw[uv hh];omega
   ·rw[uu hh];simp only[Sm.els,Sm.l,Sm.e];have h1:=vI e 65 (n - 1) ua;have h2:=zav (l:=l) (d:=d - 1) h1.1 (λh0=>vu l (d - 1) _ ua);have h3:=zav (l:=els) (d:=d - 1) h2.1 (λh0=>vu els (d - 1) _ ua);omega
theorem vu: ∀(l:List Sm) (d n:Int), -1<=n-> -1<=laL l d n/\laL l d n<=n
 | [],d,n,h=>by simp only[laL];omega
 |s::r,d,n,h=>by
  simp only[laL];split
  ·rename_i h0;have h1:=zkH s d n h0;have h2:=vu r d _ h1.1;omega
  ·omega
end
theorem zkI{l:List Sm}{d n:Int}(h:n<0):laL l d n=n:=by
 cases l with
 |nil=>rfl
 |cons e es=>simp only[laL];rw[uu ua]
theorem zkJ{l:List Sm}{d n:Int}(h:0<=n): -1<=laS l d n/\laS l d n<=n:=by
 unfold laS;split
 ·omega
 ·exact vu l d n ua
theorem zaw(e:Ex)(d n:Int)(J:0<=d)(h2:d<=1000)(h3: -1<=n)(h4:n<=1000000):zh Tryz.prog 80 [zF (ye e),I d,I n] [] (I (leftS e d n)) []:=zrg (sizeOf e+1) e d n ua J h2 h3 h4
theorem zom(i:Nat):((i:Int)+1)=((i+1:Nat):Int):=by omega
theorem y7(h:i<9223372036854775807):IntKind.i64.wrap ((i:Int)+1)=((i+1:Nat):Int):=by rw[zom];exact wrap64 ua
theorem zkK{l:List Sm}{d n:Int}(h:n<0):laT l d n=n:=uu ua
theorem zi8: ∀(N:Nat) (l:List Sm) (d n:Int),sizeOf l<N->0<=d->d<=1000->0<=n->n<=1000000->zh Tryz.prog 79 [pS (yl l),I d,I n] [] (I (laS l d n)) []:=by
 intro N
 induction N with
 |zero=>intro l d n h;omega
 |succ N ih=>
  intro l d n hN hd1 hd2 hn1 hn2;refine gO T Tryz.func79 λC hC=>?_;refine wJ 0 rfl λhlen=>?_;rw[uk]at hlen
  repeat' first|refine gG ?_|refine gB ?_ ?_<;>intro h|refine gN ?_
  ·have:=uj h;rw[laS,uv this]
  ·have hd0:=um h;clear h;rw[laS,uu hd0]
   refine zn (λp:Nat×Int=>p.1<=l.length/\ -1<=p.2/\p.2<=1000000/\laL (l.drop p.1) d p.2=laL l d n) (λp=>([(0,pS (yl l)),(1,I d),(2,I p.2),(7,I p.1)],[])) (λp=>l.length - p.1) hC
    (0,n) ⟨uz _,by simp only;omega,by simp only;omega,rfl⟩ id gM ?_
   rintro⟨i,m⟩ ⟨hi,hm1,hm2,U⟩;simp only at hi hm1 hm2 U
   repeat' first|refine gG ?_|refine gB ?_ ?_<;>intro h|refine ze ?_|refine gN ?_|refine gXT ?_
   rotate_right
   ·have hge: ¬i<l.length:=by simpa using h
    rw[uA ua]at U;exact U
   rotate_right
   ·have hm0:m<0:=qS.1 (um h);rw[zkI hm0]at U;exact U
   rename_i J;have hlt:i<l.length:=by simpa using J
   have hm0:0<=m:=uj h;clear J h;obtain⟨x,hx⟩:=zd hlt;have hsz:=zgv hx;have hss:=zhY x;rw[drop_at hx]at U;simp only[laL,uv hm0]at U;rw[zqb]at U;have w0:IntKind.i64.wrap (m - 1)=m - 1:=wrap64 ua;have w1:IntKind.i64.wrap (d - 1)=d - 1:=wrap64 ua;refine gI T (j4 hx) ?_
   repeat' first|refine gG ?_|refine gB ?_ ?_<;>intro h|refine gN ?_|refine zo ?_
   ·rw[uv (uj h),zkI ua]at U;exact U
   ·rw[uu (um h)]at U;clear h;rw[w0];have hb0:=vI x.e 65 (m - 1) ua;generalize hA:leftL x.e 65 (m - 1)=A at*;refine zab [(0,pS (yl l)),(1,I d),(2,I A),(7,I i)] [] hC ?_ ?_
    ·refine zn (λp:Nat×Int=>p.1<=x.e.length/\ -1<=p.2/\p.2<=1000000/\leftL (x.e.drop p.1) 65 p.2=A) (λp=>([(0,pS (yl l)),(1,I d),(2,I p.2),(7,I i),(8,I p.1)],[])) (λp=>x.e.length - p.1) hC
      (0,m - 1) ⟨uz _,by simp only;omega,by simp only;omega,hA⟩ id gM ?_
     rintro⟨k,q⟩ ⟨hk,hq1,hq2,hq⟩;simp only at hk hq1 hq2 hq;refine zq T hC true 1 rfl ?_
     repeat' first|refine gG ?_|refine gB ?_ ?_<;>intro h|refine gI T (j4 hx) ?_|refine ze ?_
     ·rename_i J;have hlt2:k<x.e.length:=by simpa using J
      have hq0:0<=q:=uj h;clear J h;obtain⟨y,hy⟩:=zd hlt2;refine ztI rfl 35 rfl λhel=>?_;rw[uk]at hel;rw[drop_at hy]at hq;simp only[leftL,uv hq0]at hq;have hb:=xp y 65 q hq1;refine gI T (xA hy) ?_
      repeat' first|refine gG ?_|refine gB ?_ ?_<;>intro h|refine vZ hC (zaw y 65 q ua ua hq1 hq2) rfl rfl (zH.refl _) rfl rfl rfl ?_
      simp only;rw[y7 ua];exact zg (k+1,leftS y 65 q) ⟨by simp only;omega,by simp only;omega,by simp only;omega,hq⟩ id (by simp only;omega) gM
     ·have hqa:q=A:=by rw[ze4 (qS.1 (um h))]at hq;exact hq
      subst hqa;exact xh id gM
     ·have hge: ¬k<x.e.length:=by simpa using h
      have hqa:q=A:=by rw[uA ua]at hq;exact hq
      subst hqa;exact xh id gM
    ·have key: ∀(k:List Sm),sizeOf k<N-> ∀a:Int, -1<=a->a<=1000000->0<=a->laT k (d - 1) a=laS k (d - 1) a/\zh Tryz.prog 79 [pS (yl k),I (d - 1),I a] [] (I (laT k (d - 1) a)) []:=λk hk a ha1 ha2 ha3=>by
      have e:laT k (d - 1) a=laS k (d - 1) a:=by simp only[laT,uv ha3]
      rw[e];exact⟨rfl,ih k (d - 1) a hk ua ua ha3 ha2⟩
     have hB:=zav (l:=x.l) (d:=d - 1) hb0.1 (λh0=>vu x.l (d - 1) A ua);have hnB:A<0->laT x.l (d - 1) A=A:=zkK;have hD:=zav (l:=x.els) (d:=d - 1) hB.1 (λh0=>vu x.els (d - 1) _ ua);have hnD:laT x.l (d - 1) A<0->laT x.els (d - 1) (laT x.l (d - 1) A)=laT x.l (d - 1) A:=zkK;have key1:=λh3=>(key x.l ua A hb0.1 ua h3).2
     have key2:=λh3=>(key x.els ua _ hB.1 ua h3).2
     generalize hBe:laT x.l (d - 1) A=B at*;generalize hDe:laT x.els (d - 1) B=D at*;refine znJ T hC true 400 rfl rfl ?_;refine ztJ [(0,pS (yl l)),(1,I d),(2,I B),(7,I i)] [] hC ?_ ?_
     ·repeat' first|refine gG ?_|refine gB ?_ ?_<;>intro h|refine gI T (j4 hx) ?_|rw[w1]|refine vZ hC (key1 (uj uf)) rfl rfl (zH.refl _) rfl rfl rfl ?_
      ·exact xh id gM
      ·rw[hnB (qS.1 (um h))]at*;exact xh id gM
     ·refine znJ T hC true 400 rfl rfl ?_;refine zab [(0,pS (yl l)),(1,I d),(2,I D),(7,I i)] [] hC ?_ ?_
      ·repeat' first|refine gG ?_|refine gB ?_ ?_<;>intro h|refine gI T (j4 hx) ?_|rw[w1]|refine vZ hC (key2 (uj uf)) rfl rfl (zH.refl _) rfl rfl rfl ?_
       ·exact xh id gM
       ·rw[hnD (qS.1 (um h))];exact xh id gM
      ·repeat' first|refine gG ?_|refine gB ?_ ?_<;>intro h
       rw[y7 ua];exact zg (i+1,D) ⟨by simp only;omega,by simp only;omega,by simp only;omega,U⟩ id (by simp only;omega) gM
end Hw.Gm.Ps
namespace Hw.Gm
open Go Go.Proofs Go.Shelf
def zgx:Go.Shelf.Ren:=⟨λ|157=>248|229=>265|199=>266|261=>279|311=>292|312=>293|n=>n,λ|9=>9|31=>304|3=>3|5=>5|4=>4|119=>367|0=>0|40=>369|152=>379|21=>21|154=>381|51=>312|141=>383|196=>395|193=>392|198=>398|49=>396|194=>393|201=>401|226=>408|46=>259|227=>409|n=>n,λ|0=>0|6=>2|n=>n⟩
theorem zrh:Go.Proofs.Lays.n157 Tryz.prog zgx where
 mixed:=by kernel_rfl
 f157:=Tryz.func248.trans (uX some ud)
 f199:=Tryz.func266.trans (uX some ud)
 f229:=Tryz.func265.trans (uX some ud)
 f261:=Tryz.func279.trans (uX some ud)
 f311:=Tryz.func292.trans (uX some ud)
 f312:=Tryz.func293.trans (uX some ud)
 t0:=Tryz.underlying0
 a0:=Tryz.isAgg0
 z0:=Tryz.sizeOf0
 v0:=Tryz.zeroValue0
 t3:=Tryz.underlying3
 a3:=Tryz.isAgg3
 z3:=Tryz.sizeOf3
 v3:=Tryz.zeroValue3
 t4:=Tryz.underlying4
 a4:=Tryz.isAgg4
 z4:=Tryz.sizeOf4
 v4:=Tryz.zeroValue4
 t5:=Tryz.underlying5
 a5:=Tryz.isAgg5
 z5:=Tryz.sizeOf5
 v5:=Tryz.zeroValue5
 t9:=Tryz.underlying9
 a9:=Tryz.isAgg9
 z9:=Tryz.sizeOf9
 v9:=Tryz.zeroValue9
 t21:=Tryz.underlying21
 a21:=Tryz.isAgg21
 z21:=Tryz.sizeOf21
 v21:=Tryz.zeroValue21
 t31:=Tryz.underlying304
 a31:=Tryz.isAgg304
 z31:=Tryz.sizeOf304
 v31:=Tryz.zeroValue304
 t40:=Tryz.underlying369
 a40:=Tryz.isAgg369
 z40:=Tryz.sizeOf369
 v40:=Tryz.zeroValue369
 t46:=Tryz.underlying259
 a46:=Tryz.isAgg259
 z46:=Tryz.sizeOf259
 v46:=Tryz.zeroValue259
 t49:=Tryz.underlying396
 a49:=Tryz.isAgg396
 z49:=Tryz.sizeOf396
 v49:=Tryz.zeroValue396
 t51:=Tryz.underlying312
 a51:=Tryz.isAgg312
 z51:=Tryz.sizeOf312
 v51:=Tryz.zeroValue312
 t119:=Tryz.underlying367
 a119:=Tryz.isAgg367
 z119:=Tryz.sizeOf367
 t141:=Tryz.underlying383
 a141:=Tryz.isAgg383
 z141:=Tryz.sizeOf383
 v141:=Tryz.zeroValue383
 t152:=Tryz.underlying379
 a152:=Tryz.isAgg379
 z152:=Tryz.sizeOf379
 v152:=Tryz.zeroValue379
 t154:=Tryz.underlying381
 a154:=Tryz.isAgg381
 z154:=Tryz.sizeOf381
 v154:=Tryz.zeroValue381
 t193:=Tryz.underlying392
 a193:=Tryz.isAgg392
 z193:=Tryz.sizeOf392
 v193:=Tryz.zeroValue392
 t194:=Tryz.underlying393
 a194:=Tryz.isAgg393
 z194:=Tryz.sizeOf393
 v194:=Tryz.zeroValue393
 t196:=Tryz.underlying395
 a196:=Tryz.isAgg395
 z196:=Tryz.sizeOf395
 v196:=Tryz.zeroValue395
 t198:=Tryz.underlying398
 a198:=Tryz.isAgg398
 z198:=Tryz.sizeOf398
 v198:=Tryz.zeroValue398
 t201:=Tryz.underlying401
 a201:=Tryz.isAgg401
 z201:=Tryz.sizeOf401
 v201:=Tryz.zeroValue401
 t226:=Tryz.underlying408
 a226:=Tryz.isAgg408
 z226:=Tryz.sizeOf408
 v226:=Tryz.zeroValue408
 t227:=Tryz.underlying409
 a227:=Tryz.isAgg409
 z227:=Tryz.sizeOf409
 v227:=Tryz.zeroValue409
 g0:=by kernel_rfl
 g6:=by kernel_rfl
end Hw.Gm
namespace Hw.Gm.Ps
open Go Go.Proofs Hw.M
def xr(c:Int):Int:=if c=32 then 1 else if c=9 then 1 else if c=13 then 1 else if c=10 then 1 else
 if decide (97<=c)&&decide (c<=122)then 2 else if decide (65<=c)&&decide (c<=90)then 2 else if decide (48<=c)&&decide (c<=57)then 3 else if c=95 then 4 else 0
set_option maxHeartbeats 1000000 in
theorem vJ(c:Int):zh Tryz.prog 98 [uc c] [] (I (xr c)) []:=by
 refine gO T Tryz.func98 λC hC=>?_
 repeat' first|refine gG ?_|refine gB ?_ ?_<;>intro h|refine gN ?_
 all_goals (simp_all[xr]<;>omega)
theorem zb3(c:Int):(xr c=2/\x6 c=true/\isWord c=true)\/((xr c=3\/xr c=4)/\x6 c=false/\isWord c=true)\/((xr c=0\/xr c=1)/\x6 c=false/\isWord c=false):=by
 by_cases U:c=32\/c=9\/c=13\/c=10
 ·refine .inr (.inr ?_);rcases U with rfl|rfl|rfl|rfl<;>exact⟨.inr rfl,rfl,rfl⟩
 ·have e1:c≠32:=by omega
  have e2:c≠9:=by omega
  have e3:c≠13:=by omega
  have e4:c≠10:=by omega
  have ec:xr c=if decide (97<=c)&&decide (c<=122)then 2 else if decide (65<=c)&&decide (c<=90)then 2 else if decide (48<=c)&&decide (c<=57)then 3 else if c=95 then 4 else 0:=by
   simp only[xr,e1,e2,e3,e4,uL]
  rw[ec];unfold isWord x6 isDigit;cases(decide (97<=c)&&decide (c<=122))with
  |true=>exact .inl ⟨rfl,rfl,rfl⟩
  |false=>cases(decide (65<=c)&&decide (c<=90))with
   |true=>exact .inl ⟨rfl,rfl,rfl⟩
   |false=>cases(decide (48<=c)&&decide (c<=57))with
    |true=>exact .inr (.inl ⟨.inl rfl,rfl,rfl⟩)
    |false=>
     by_cases J:c=95
     ·rw[uv J];exact .inr (.inl ⟨.inr rfl,rfl,by simp[J]⟩)
     ·rw[uu J];exact .inr (.inr ⟨.inl rfl,rfl,by simp[J]⟩)
theorem zba(c:Int):decide (xr c=2)=x6 c:=by
 rcases zb3 c with⟨h,J,_⟩|⟨h,J,_⟩|⟨h,J,_⟩
 ·rw[h,J];rfl
 ·rw[J];exact uJ ua
 ·rw[J];exact uJ ua
theorem zaU(c:Int):decide (xr c<2)= !isWord c:=by
 rcases zb3 c with⟨h,_,J⟩|⟨h,_,J⟩|⟨h,_,J⟩
 ·rw[h,J];rfl
 ·rw[J];exact uJ ua
 ·rw[J];exact uT ua
theorem zkL(s:Str):zh Tryz.prog 264 [Sr s] [] (Bo false) []:=by
 refine gO T Tryz.func264 λC hC=>?_
 repeat' first|refine gG ?_|refine gB ?_ ?_<;>intro h
 exact zi ⟨.inl rfl,id,_,rfl,LeS.bq ue,trivial,rfl,rfl⟩
theorem zon(s:Str):zh Tryz.prog 247 [Sr s] [] (Bo false) []:=by
 refine gO T Tryz.func247 λC hC=>?_
 repeat' first|refine gG ?_|refine gB ?_ ?_<;>intro h
 exact zi ⟨.inl rfl,id,_,rfl,LeS.bq ue,trivial,rfl,rfl⟩
def zoo(a b:Str):Bool:=Op.bytesLess a.toList b.toList
theorem zri(a b:Str):zh Tryz.prog 246 [Sr a,Sr b] [] (.bq (zoo a b)) []:=by
 refine gO T Tryz.func246 λC hC=>?_
 repeat' first|refine gG ?_|refine gB ?_ ?_<;>intro h|refine gC (zkL _) ?_|refine gQ ?_|refine gL ?_
 all_goals first|rfl|simp_all[zoo]
def zqc(l:List Str):Prop:= ∀(h k:Nat) (x y:Str),l[h]?=some x->l[k]?=some y->zoo x y=decide (h<k)
theorem zi9(l:List Str)(s:Str)(hs:zqc l)(hl:l.length<=1000):zh Tryz.prog 206 [pS (zbq l),Sr s] [] (.tup [.un,.bq (l.any λx=>decide (x=s))]) []:=by
 refine gO T Tryz.func206 λC hC=>?_
 repeat' first|refine gG ?_|refine gB ?_ ?_<;>intro h
 rw[uk]
 refine zn (λp:Nat×Nat=>p.1<=p.2/\p.2<=l.length/\ ∀k,l[k]?=some s->p.1<=k/\k<=p.2) (λp=>([(0,pS (zbq l)),(1,Sr s),(6,I l.length),(7,I p.1),(8,I p.2)],[])) (λp=>p.2 - p.1) hC
  (0,l.length) ⟨uz _,uF _,λk hk=>⟨uz _,Nat.le_of_lt (uw.1 hk).1⟩⟩ id gM ?_
 rintro⟨i,j⟩ ⟨hij,hj,hk⟩;simp only at hij hj hk;refine zq T hC true 200 rfl ?_;refine zt rfl ?_ ?_<;>intro h
 ·have hlt:i<j:=by simpa using h
  repeat' first|refine gG ?_|refine gB ?_ ?_<;>intro h|refine zvt hC rfl rfl ub ub rfl rfl ?_
  have hm:IntKind.i64.wrap (IntKind.u64.wrap (IntKind.i64.wrap ((i:Int)+(j:Int))) / 2 ^ (1:Int).toNat)=(((i+j) / 2:Nat):Int):=by
   have e1:IntKind.i64.wrap ((i:Int)+(j:Int))=(i:Int)+(j:Int):=wrap64 ua;rw[e1]
   have:IntKind.u64.wrap ((i:Int)+(j:Int))=((i+j:Nat):Int):=by
    unfold IntKind.wrap;simp[IntKind.bits,IntKind.signed];omega
   rw[this]
   rw[show((i+j:Nat):Int) / 2 ^ (1:Int).toNat=(((i+j) / 2:Nat):Int) by
    rw[show(2:Int) ^ (1:Int).toNat=2 by decide];omega]
   exact wrap64 ua
  simp only;rw[hm];obtain⟨x,U⟩:=zd (l:=l) (i:=(i+j) / 2) ua;generalize hme:(i+j) / 2=m at*
  repeat' first|refine gG ?_|refine gB ?_ ?_<;>intro h|refine gX ?_|refine gC (zri _ _) ?_
  ·rw[y7 ua];refine zg (m+1,j) ⟨by simp only;omega,hj,λk J=>?_⟩ id (by simp only;omega) gM;have:=hs m k x s U J;rw[h]at this;have:=uj this.symm;have:=hk k J;simp only;omega
  ·refine zg (i,m) ⟨by simp only;omega,by simp only;omega,λk J=>?_⟩ id (by simp only;omega) gM;have:=hs m k x s U J;rw[h]at this;have:=um this.symm;have:=hk k J;simp only;omega
 ·have hge:i=j:=by have:=um h;simp only at this;omega
  subst hge;clear h
  have found: ∀(b:Bool),(b=true-> ∃x,l[i]?=some x/\x=s)->(b=false-> ∀x,l[i]?=some x->x≠s)->b=l.any λx=>decide (x=s):=λb h1 h2=>by
   cases b with
   |true=>obtain⟨x,U,rfl⟩:=h1 rfl;exact(zkM U (uT rfl)).symm
   |false=>
    symm
    rw[List.any_eq_false];intro x U;obtain⟨k,hk1⟩:=qd.1 U;simp only[uq];rintro rfl;have:=hk k hk1;obtain rfl:k=i:=by omega
    exact h2 rfl x hk1 rfl
  repeat' first|refine gG ?_|refine gB ?_ ?_<;>intro h|refine ze ?_|refine gC (zon _) ?_|refine gX ?_|(obtain⟨x,U⟩:=zd (l:=l) (i:=i) (by have:=uj h;simp only at this;omega);refine gI T (zl U) ?_)
  ·exact zi ⟨.inl rfl,id,_,rfl,LeS.tup (.cons (LeS.un _) (.cons (LeS.qb (found true (λ_=>⟨x,U,uj h⟩) (λe=>by cases e))) .nil)),trivial,rfl,rfl⟩
  ·exact zi ⟨.inl rfl,id,_,rfl,LeS.tup (.cons (LeS.un _) (.cons (LeS.qb (found false (λe=>by cases e) (λ_ y hy=>by rw[U]at hy;simp only[ui]at hy;subst hy;exact um h))) .nil)),trivial,rfl,rfl⟩
  ·have h':=um h;simp only at h';exact zi ⟨.inl rfl,id,_,rfl,LeS.tup (.cons (LeS.un _) (.cons (LeS.qb (found false (λe=>by cases e) (λ_ y hy=>by have:=(uw.1 hy).1;omega))) .nil)),trivial,rfl,rfl⟩
def y8:List Str:=[(⟨#[97,110,100]⟩:UH),(⟨#[98,111,111,108]⟩:UH),(⟨#[98,111,117,110,100]⟩:UH),(⟨#[100,101,115,99]⟩:UH),(⟨#[101,108,115,101]⟩:UH),(⟨#[102,97,108,115,101]⟩:UH),(⟨#[105,102]⟩:UH),(⟨#[105,110,116]⟩:UH),(⟨#[105,110,118,97,114,105,97,110,116]⟩:UH),(⟨#[108,111,99,97,108]⟩:UH),(⟨#[108,111,103]⟩:UH),(⟨#[109,97,120]⟩:UH),(⟨#[109,101,97,115,117,114,101]⟩:UH),(⟨#[109,105,110]⟩:UH),(⟨#[110,101,119]⟩:UH),(⟨#[110,105,108]⟩:UH),(⟨#[110,111,116]⟩:UH),(⟨#[111,112]⟩:UH),(⟨#[111,114]⟩:UH),(⟨#[112,111,116,101,110,116,105,97,108]⟩:UH),(⟨#[112,114,111,99]⟩:UH),(⟨#[114,101,116,117,114,110]⟩:UH),(⟨#[114,117,108,101]⟩:UH),(⟨#[115,99,114,105,112,116]⟩:UH),(⟨#[115,111,114,116]⟩:UH),(⟨#[115,112,101,99]⟩:UH),(⟨#[116,104,105,115]⟩:UH),(⟨#[116,114,117,101]⟩:UH),(⟨#[116,121,112,101]⟩:UH),(⟨#[118,97,114]⟩:UH),(⟨#[119,104,105,108,101]⟩:UH)]
def sortedB(l:List Str):Bool:=(List.range l.length).all λh=>(List.range l.length).all λk=>match l[h]?,l[k]? with
 |some x,some y=>zoo x y==decide (h<k)
 |_,_=>true
theorem zkN{l:List Str}(h:sortedB l=true):zqc l:=λa b x y J U=>by
 simp only[sortedB,List.all_eq_true,List.mem_range]at h;have:=h a (uw.1 J).1 b (uw.1 U).1;rw[J,U]at this;simpa using this
theorem zop:sortedB y8=true:=by kernel_rfl
theorem ztK(s:Str):(y8.any λx=>decide (x=s))=wg s:=by
 have h1:(y8.all λx=>zdO.any λy=>decide (y=x))=true:=by kernel_rfl
 have h2:(zdO.all λx=>y8.any λy=>decide (y=x))=true:=by kernel_rfl
 rw[oG];simp only[wg,List.any_eq_true,List.all_eq_true,uq]at h1 h2⊢;constructor
 ·rintro⟨x,J,rfl⟩;obtain⟨y,U,rfl⟩:=h1 x J;exact⟨y,U,rfl⟩
 ·rintro⟨x,J,rfl⟩;obtain⟨y,U,rfl⟩:=h2 x J;exact⟨y,U,rfl⟩
def zb4:Str:=(⟨#[97,110,100,32,98,111,111,108,32,98,111,117,110,100,32,100,101,115,99,32,101,108,115,101,32,102,97,108,115,101,32,105,102,32,105,110,116,32,105,110,118,97,114,105,97,110,116,32,108,111,99,97,108,32,108,111,103,32,109,97,120,32,109,101,97,115,117,114,101,32,109,105,110,32,110,101,119,32,110,105,108,32,110,111,116,32,111,112,32,111,114,32,112,111,116,101,110,116,105,97,108,32,112,114,111,99,32,114,101,116,117,114,110,32,114,117,108,101,32,115,99,114,105,112,116,32,115,111,114,116,32,115,112,101,99,32,116,104,105,115,32,116,114,117,101,32,116,121,112,101,32,118,97,114,32,119,104,105,108,101]⟩:UH)
theorem zhZ:(Lib.fields zb4.data.toList).map (λl=>(⟨l.toArray⟩:UH))=y8:=by kernel_rfl
theorem zrj:(zb4.data.toList.all λb=>decide (b.toNat<128))=true:=by kernel_rfl
theorem zgy(w:World)(hw:GOn w):Calls Tryz.prog 248 #[.string zb4] w λe w'=>e= .returned (.slice (some ⟨w.heap.size,0,none⟩) y8.length y8.length)/\w'=w.alloc (.cells (y8.map Value.string).toArray 9):=by
 have h:=Any.strings_Fields_core zrh ud zb4 w (uj ud) (λj b hb=>by
  have:=List.all_eq_true.1 zrj b (List.mem_of_getElem? hb)
  exact uj this) (λc U=>hw _ _ _ (by
  show G0 0 c=_
  simp[G0,U]))
 refine h.mono λe w' ⟨he,J⟩=>?_;have hl:(Lib.fields zb4.data.toList).length=y8.length:=by rw[<-zhZ,uk]
 have U:((Lib.fields zb4.data.toList).map λl=>Value.string ⟨l.toArray⟩)=y8.map Value.string:=by rw[<-zhZ,q5];rfl
 rw[hl]at he;rw[U]at J;exact⟨he,J⟩
theorem zja:zh Tryz.prog 248 [Sr zb4] [] (pS (zbq y8)) []:=
 zrk ⟨_,Tryz.func248,ud,ud⟩ ub zgy
theorem zvu:zh Tryz.prog 207 [] [] (pS (zbq y8)) []:=by
 refine gO T Tryz.func207 λC hC=>?_
 repeat' first|refine gG ?_|refine gB ?_ ?_<;>intro h|refine gC zja ?_
 exact gF
theorem zax(s:Str):zh Tryz.prog 145 [Sr s] [] (.bq (wg s)) []:=by
 refine gO T Tryz.func145 λC hC=>?_
 repeat' first|refine gG ?_|refine gB ?_ ?_<;>intro h|refine gC zvu ?_|refine vZ hC (zi9 y8 s (zkN zop) ub) rfl rfl (zH.refl _) rfl rfl rfl ?_|refine gQ ?_|refine gL ?_
 exact ztK s
theorem yB(s:Str):zh Tryz.prog 108 [Sr s] [] (.bq (isName s)) []:=by
 refine gO T Tryz.func108 λC hC=>?_;have U:=zkD s
 have e0:decide (s=(⟨#[]⟩:UH))=decide (s.size=0):=by
  obtain⟨⟨l⟩⟩:=s;cases l with
  |nil=>rfl
  |cons a l=>exact(uJ (by intro h;cases h)).trans (uJ (by simp[ByteArray.size])).symm
 repeat' first|refine gG ?_|refine gB ?_ ?_<;>intro h
 ·repeat' first|refine gG ?_|refine gB ?_ ?_<;>intro h|refine gL ?_
  rw[e0]at h;simp only[isName,h,qp,tW]
 ·repeat' first|refine gG ?_|refine gB ?_ ?_<;>intro h|refine gL ?_
  have h1:40<s.size:=by have:=uj h;omega
  simp[isName,h1]
 ·rename_i h0;rw[e0]at h0;have hs:0<(bytes s).length:=by have:=um h0;omega
  obtain⟨c,hc⟩:=zd hs;obtain⟨b,hb,rfl⟩:=zhU hc;have hlen:s.size<=40:=by have:=um h;omega
  have hnm:isName s=(x6 (b.toNat:Int)&&((bytes s).all isWord&& !wg s)):=by
   cases hbs:bytes s with
   |nil=>rw[hbs]at hs;simp at hs
   |cons c cs=>
    have hc':=hc;rw[hbs]at hc';simp only[List.getElem?_cons_zero,ui]at hc';have e1: ¬s.size=0:=by rw[U]at hs;omega
    have e2: ¬40<s.size:=by omega
    simp only[isName,hbs,hc',e1,e2,qH,qE,tA,Bool.and_assoc]
  clear h h0;refine w9 T hC rfl rfl rfl (qw _) hb rfl rfl ?_
  repeat' first|refine gG ?_|refine gB ?_ ?_<;>intro h|refine gC (vJ _) ?_|refine gC (zax _) ?_|refine gL ?_
  ·rw[zba]at h;have hl:x6 (b.toNat:Int)=false:=by simpa using h
   rw[hnm,hl];rfl
  ·rw[hnm,h];simp
  ·rename_i h1;rw[zba]at h1;have hl:x6 (b.toNat:Int)=true:=by simpa using h1
   have J:isName s=(bytes s).all isWord:=by rw[hnm,hl,h];simp
   refine zn (λi:Nat=>i<=s.size/\((bytes s).take i).all isWord=true) (λi=>([(0,Sr s),(22,I s.size),(23,I i)],[])) (λi=>s.size - i) hC
    0 ⟨uz _,ue⟩ id gM ?_
   rintro i ⟨hi,hn⟩;refine zq T hC true 200 rfl ?_;refine zt rfl ?_ ?_<;>intro h
   ·have hlt:i<(bytes s).length:=by rw[U];have:=uj h;omega
    obtain⟨c,hx⟩:=zd hlt;obtain⟨b,hb,rfl⟩:=zhU hx
    repeat' first|refine gG ?_|refine gB ?_ ?_<;>intro h|refine gXS ?_|refine gC (vJ _) ?_|refine zo ?_|refine gL ?_
    ·rw[zaU]at h;have hw:isWord (b.toNat:Int)=false:=by simpa using h
     rw[J,zau hx hw]
    ·rw[zaU]at h;have hw:isWord (b.toNat:Int)=true:=by simpa using h
     rw[y7 ua];refine zg (i+1) ⟨ua,?_⟩ id ua gM;rw[x7 hx,hn,hw];rfl
   ·have hge:s.size<=i:=by have:=um h;omega
    repeat' first|refine gG ?_|refine gB ?_ ?_<;>intro h|refine ze ?_|refine gL ?_
    rw[J,jm (by rw[U];exact hge) hn]
def idxR{α σ:Type}(p:α->σ->Bool)(nx:α->σ->σ):List α->Nat->σ->Int×σ
 | [],_,s=>(-1,s)
 |x::r,k,s=>if p x s=true then((k:Int),nx x s)else idxR p nx r (k+1) (nx x s)
def anyR{α σ:Type}(p:α->σ->Bool)(nx:α->σ->σ):List α->σ->Bool×σ
 | [],s=>(false,s)
 |x::r,s=>if p x s=true then(true,nx x s)else anyR p nx r (nx x s)
theorem zgz{α σ:Type}(p:α->σ->Bool)(nx:α->σ->σ): ∀(l:List α) (k:Nat) (s:σ),∃i s',idxR p nx l k s=(i,s')/\anyR p nx l s=(decide (0<=i),s')
 | [],k,s=>⟨-1,s,rfl,rfl⟩
 |x::r,k,s=>by
  simp only[idxR,anyR];by_cases h:p x s=true
  ·exact⟨k,nx x s,uv h,by rw[uv h,uT ua]⟩
  ·rw[uu h,uu h];exact zgz p nx r (k+1) (nx x s)
variable {α:Type}
theorem zbb{σ:Type}(p:α->σ->Bool)(nx:α->σ->σ)(l:List α)(k:Nat)(s:σ):decide (0<=(idxR p nx l k s).1)=(anyR p nx l s).1:=by
 obtain⟨i,s',J,h2⟩:=zgz p nx l k s;simp only[J,h2]
theorem zbc{σ:Type}(p:α->σ->Bool)(nx:α->σ->σ)(l:List α)(k:Nat)(s:σ):(idxR p nx l k s).2=(anyR p nx l s).2:=by
 obtain⟨i,s',J,h2⟩:=zgz p nx l k s;simp only[J,h2]
theorem zb5{α:Type}(p:α->Bool): ∀(l:List α) (s:Unit),(anyR (λx _=>p x) (λ_ s=>s) l s).1=l.any p
 | [],_=>rfl
 |x::r,s=>by
  simp only[anyR,ql];cases h:p x with
  |true=>rfl
  |false=>simp only[uy,uL,tO];exact zb5 p r s
theorem zkO(f:FuncId)(dp:Int)(l:List Ex)(p:Ex->Int->Bool)(nx:Ex->Int->Int)(inv:Int->Prop)
 (hf: ∀x∈l,∀s:Int,inv s->zh Tryz.prog f [zF (ye x),.one (.bx 1 0),.one (.bx 2 0)] [(0,.box [.p (ki s)]),(1,.box [.p (ki dp)]),(2,.box [.bx 0 0])] (.bq (p x s)) ((λs:Int=>[(0,.box [.p (ki s)]),(1,.box [.p (ki dp)]),(2,.box [.bx 0 0])]) (nx x s))/\(p x s=false->inv (nx x s))) (s:Int) (hs:inv s):
 zh Tryz.prog 234 [pS (.sl 4 (l.map z8)),.one (.cl f [] [.bx 1 0,.bx 2 0])] [(0,.box [.p (ki s)]),(1,.box [.p (ki dp)]),(2,.box [.bx 0 0])] (I (idxR p nx l 0 s).1) ((λs:Int=>[(0,.box [.p (ki s)]),(1,.box [.p (ki dp)]),(2,.box [.bx 0 0])]) (idxR p nx l 0 s).2):=by
 refine gO T Tryz.func234 λC hC=>?_;have hs0:=hs;refine wJ 0 rfl λhl=>?_;rw[uk]at hl
 repeat' first|refine gG ?_|refine gB ?_ ?_<;>intro h
 rw[uk]
 refine zn (λq:Nat×Int=>q.1<=l.length/\inv q.2/\idxR p nx (l.drop q.1) q.1 q.2=idxR p nx l 0 s) (λq=>(λs:Int=>([(0,pS (.sl 4 (l.map z8))),(1,.one (.cl f [] [.bx 1 0,.bx 2 0])),(7,I l.length),(8,I q.1)],[(0,some (.box [.p (ki s)])),(1,some (.box [.p (ki dp)])),(2,some (.box [.bx 0 0]))])) q.2) (λq=>l.length - q.1) hC
  (0,s) ⟨uz _,hs,rfl⟩ id gM ?_
 generalize idxR p nx l 0 s=res;clear hs hs0;rintro⟨i,s⟩ ⟨hi,hv,J⟩;simp only at hi hv J;refine zq T hC true 200 rfl ?_;refine zt rfl ?_ ?_<;>intro hh
 ·have hlt:i<l.length:=by simpa using hh
  clear hh;obtain⟨x,hx⟩:=zd hlt;rw[drop_at hx]at J;simp only[idxR]at J;have hv2:=(hf x (List.mem_of_getElem? hx) s hv).2
  repeat' first|refine gG ?_|refine gB ?_ ?_<;>intro h|refine gI T (xA hx) ?_|refine zu hC (hf x (List.mem_of_getElem? hx) s hv).1 id rfl rfl (zH.refl _) rfl rfl rfl rfl rfl rfl rfl rfl ?_|refine zo ?_
  ·rw[uv uf]at J;subst J;exact gE
  ·have U:p x s=false:=by assumption
   rw[U]at J;simp only[uy,uL]at J;rw[wrap64 ua];exact zg (i+1,nx x s) ⟨by simp only;omega,hv2 U,J⟩ id (by simp only;omega) gM
 ·have hge: ¬i<l.length:=by simpa using hh
  rw[uA ua]at J;simp only[idxR]at J;subst J
  repeat' first|refine gG ?_|refine gB ?_ ?_<;>intro h|refine ze ?_
  exact gE
theorem zkP(f:FuncId)(dp:Int)(l:List Ex)(p:Ex->Int->Bool)(nx:Ex->Int->Int)(inv:Int->Prop)
 (hf: ∀x∈l,∀s:Int,inv s->zh Tryz.prog f [zF (ye x),.one (.bx 1 0),.one (.bx 2 0)] [(0,.box [.p (ki s)]),(1,.box [.p (ki dp)]),(2,.box [.bx 0 0])] (.bq (p x s)) ((λs:Int=>[(0,.box [.p (ki s)]),(1,.box [.p (ki dp)]),(2,.box [.bx 0 0])]) (nx x s))/\(p x s=false->inv (nx x s))) (s:Int) (J:inv s):
 zh Tryz.prog 193 [pS (.sl 4 (l.map z8)),.one (.cl f [] [.bx 1 0,.bx 2 0])] [(0,.box [.p (ki s)]),(1,.box [.p (ki dp)]),(2,.box [.bx 0 0])] (.bq (anyR p nx l s).1) ((λs:Int=>[(0,.box [.p (ki s)]),(1,.box [.p (ki dp)]),(2,.box [.bx 0 0])]) (anyR p nx l s).2):=by
 refine gO T Tryz.func193 λC hC=>?_
 repeat' first|refine gG ?_|refine gB ?_ ?_<;>intro h|refine gR (zkO f dp l p nx inv hf s J) (nm [0,1,2]) ?_
 exact zi ⟨.inl rfl,id,_,rfl,.qq (zbb p nx l 0 s),by rw[<-zbc p nx l 0 s];exact⟨rfl,rfl,rfl,uh⟩,rfl,rfl⟩
def ixB{α:Type}(p:α->Bool):List α->Nat->Int
 | [],_=> -1
 |x::r,k=>if p x=true then(k:Int)else ixB p r (k+1)
theorem zqd{α:Type}(p:α->Bool): ∀(l:List α) (k:Nat),0<=ixB p l k↔l.any p=true
 | [],_=>by simp[ixB]
 |x::l,k=>by
  rw[ql];by_cases h:p x=true
  ·have e:ixB p (x::l) k=(k:Int):=uv h;rw[e,h];simp
  ·have e:ixB p (x::l) k=ixB p l (k+1):=uu h;rw[e,zqd p l (k+1)];simp only[h,tO]
theorem zkQ(p:α->Bool)(l:List α)(k:Nat):decide (0<=ixB p l k)=l.any p:=by
 rw[oG,oN];exact zqd p l k
inductive IxK:{α:Type}->(α->List PV)->(α->List PV)->Nat->FuncId->FuncId->Prop
 |expr:IxK z8 ye 4 234 193
 |field:IxK zw zw 2 97 59
 |bound:IxK xC xC 5 83 156
 |type:IxK zS zS 2 115 72
 |proc:IxK zZ zZ 5 56 112
section
variable {row rc:α->List PV} {w:Nat} {c d:FuncId} (hk:IxK row rc w c d) {f:FuncId} {l:List α} {p:α->Bool} (hf: ∀x∈l,zh Tryz.prog f [zF (rc x)] [] (.bq (p x)) [])
abbrev nT(hk:IxK row rc w c d)(hf: ∀x∈l,zh Tryz.prog f [zF (rc x)] [] (.bq (p x)) [])(i:Nat):zf×Tab:=([(0,pS (.sl w (l.map row))),(1,.one (.cl f [] [])),(7,I l.length),(8,I i)],[])
include hk hf
theorem ztL:zh Tryz.prog c [pS (.sl w (l.map row)),.one (.cl f [] [])] [] (I (ixB p l 0)) []:=by
 have hk0:=hk;cases hk;refine gO T Tryz.func234 λC hC=>?_
 rotate_left
 refine gO T Tryz.func97 λC hC=>?_
 rotate_left
 refine gO T Tryz.func83 λC hC=>?_
 rotate_left
 refine gO T Tryz.func115 λC hC=>?_
 rotate_left
 refine gO T Tryz.func56 λC hC=>?_
 rotate_left
 all_goals
  refine wJ 0 rfl λhl=>?_;rw[uk]at hl
  repeat' first|refine gG ?_|refine gB ?_ ?_<;>intro h
  rw[uk];refine zn (λi:Nat=>i<=l.length/\ixB p (l.drop i) i=ixB p l 0) (nT hk0 hf) (λi=>l.length - i) hC 0 ⟨uz _,rfl⟩ id gM ?_;generalize ixB p l 0=res;rintro i ⟨hi,J⟩;change Goal _ _ _ _ _ [_,_,_,_] [] _;refine zq T hC true 200 rfl ?_;refine zt rfl ?_ ?_<;>intro hh
  ·have hlt:i<l.length:=by simpa using hh
   clear hh;obtain⟨x,U⟩:=zd hlt;rw[drop_at U]at J;simp only[ixB]at J
   repeat' first|refine gG ?_|refine gB ?_ ?_<;>intro h|refine gI T (xA U) ?_|refine gI T (zl U) ?_|refine gR (hf x (List.mem_of_getElem? U)) id ?_|refine zo ?_
   ·rw[uv uf]at J;subst J;exact gF
   ·have hpf:p x=false:=by assumption
    rw[hpf]at J;simp only[uy,uL]at J;rw[wrap64 ua];exact zg (i+1) ⟨ua,J⟩ id ua gM
  ·have hge: ¬i<l.length:=by simpa using hh
   rw[uA ua]at J;simp only[ixB]at J;subst J
   repeat' first|refine gG ?_|refine gB ?_ ?_<;>intro h|refine ze ?_
   exact gF
theorem ze6:zh Tryz.prog d [pS (.sl w (l.map row)),.one (.cl f [] [])] [] (.bq (l.any p)) []:=by
 have J:=ztL hk hf;cases hk;refine gO T Tryz.func193 λC hC=>?_
 rotate_left
 refine gO T Tryz.func59 λC hC=>?_
 rotate_left
 refine gO T Tryz.func156 λC hC=>?_
 rotate_left
 refine gO T Tryz.func72 λC hC=>?_
 rotate_left
 refine gO T Tryz.func112 λC hC=>?_
 rotate_left
 all_goals
  repeat' first|refine gG ?_|refine gB ?_ ?_<;>intro h|refine gR J (nm []) ?_
  exact zi ⟨.inl rfl,id,_,rfl,.qq (zkQ p l 0),trivial,rfl,rfl⟩
end
theorem zkR(f:FuncId)(l:List Ex)(p:Ex->Bool)(hf: ∀x∈l,zh Tryz.prog f [zF (ye x)] [] (.bq (p x)) []):zh Tryz.prog 193 [pS (.sl 4 (l.map z8)),.one (.cl f [] [])] [] (.bq (l.any p)) []:=ze6 .expr hf
theorem zc2(f:FuncId)(l:List Fld)(p:Fld->Bool)(hf: ∀x∈l,zh Tryz.prog f [zF (zw x)] [] (.bq (p x)) []):zh Tryz.prog 59 [pS (.sl 2 (l.map zw)),.one (.cl f [] [])] [] (.bq (l.any p)) []:=ze6 .field hf
theorem zjb(f:FuncId)(l:List Bd)(p:Bd->Bool)(hf: ∀x∈l,zh Tryz.prog f [zF (xC x)] [] (.bq (p x)) []):zh Tryz.prog 156 [pS (.sl 5 (l.map xC)),.one (.cl f [] [])] [] (.bq (l.any p)) []:=ze6 .bound hf
theorem zkS(f:FuncId)(l:List yn)(p:yn->Bool)(hf: ∀x∈l,zh Tryz.prog f [zF (zS x)] [] (.bq (p x)) []):zh Tryz.prog 72 [pS (.sl 2 (l.map zS)),.one (.cl f [] [])] [] (.bq (l.any p)) []:=ze6 .type hf
theorem zkT(f:FuncId)(l:List Pr)(p:Pr->Bool)(hf: ∀x∈l,zh Tryz.prog f [zF (zZ x)] [] (.bq (p x)) []):zh Tryz.prog 112 [pS (.sl 5 (l.map zZ)),.one (.cl f [] [])] [] (.bq (l.any p)) []:=ze6 .proc hf
theorem zkU(c:Int)(h: -1000000<=c)(h2:c<=1000000):zh Tryz.prog 191 [.one (.bx 0 0)] [(0,.box [.p (ki c)])] (.bq (decide (0<=c - 1))) [(0,.box [.p (ki (c - 1))])]:=by
 refine gO T Tryz.func191 λC hC=>?_
 repeat' first|refine gG ?_|refine gB ?_ ?_<;>intro h
 rw[wrap64 ua];exact zi ⟨.inl rfl,id,_,rfl,.qq rfl,⟨rfl,uh⟩,rfl,rfl⟩
def jQ(op:Int):Int:=if yr op= -2 then 2 else yr op
theorem zjc{op:Int}(h1:9<=op)(h2:op<=23)(h3:op≠18)(h4:op≠21):yr op=2:=by
 unfold yr;rw[uu ug,uu ug,uu ua,uu ua,uv ug]
theorem zc3{op:Int}(h1:op<1\/24<op):yr op= -2:=by
 unfold yr;rw[uu ug,uu ug,uu ua,uu ua,uu ug]
theorem zgA(op:Int):zh Tryz.prog 190 [I op] [] (.tup [I (jQ op),.bq (!decide (yr op= -2))]) []:=by
 have key: ∀n b,(n=jQ op/\b= !decide (yr op= -2))->LeS (.tup [I n,Bo b]) (.tup [I (jQ op),.bq (!decide (yr op= -2))]):=λn b h=>by
  obtain⟨rfl,rfl⟩:=h;exact LeS.tup (.cons (.refl _) (.cons (LeS.qb rfl) .nil))
 have key2: ∀n b,(n=jQ op/\b= !decide (yr op= -2))->LeS (.tup [I n,.bq b]) (.tup [I (jQ op),.bq (!decide (yr op= -2))]):=λn b h=>by
  obtain⟨rfl,rfl⟩:=h;exact LeS.refl _
 refine gO T Tryz.func190 λC hC=>?_
 repeat' first|refine znJ T hC true 400 rfl rfl ?_|refine zdQ rfl (λh=>?_) (λh=>?_)|refine zkj T hC ud ?_|refine zao (λh=>?_) (λh=>?_)|refine zap rfl rfl rfl (λh=>?_) (λh=>?_)|refine zaq rfl rfl (λh=>?_) (λh=>?_)
 all_goals
  first
   |refine zi ⟨.inl rfl,id,_,rfl,key _ _ ?_,trivial,rfl,rfl⟩
   |refine zi ⟨.inl rfl,id,_,rfl,key2 _ _ ?_,trivial,rfl,rfl⟩
  clear key key2
  first
   |(obtain rfl:=uj h;exact⟨rfl,rfl⟩)
   |(simp only[uq,ur]at*
     by_cases J:op<=23
     ·have e:=zjc (op:=op) ua J ua ua;exact⟨by rw[jQ,e];rfl,by rw[e];simp[J]⟩
     ·have e:=zc3 (op:=op) ua
      exact⟨by rw[jQ,e];rfl,by rw[e];simp[J]⟩)
   |(simp only[uq,ur]at*
     have e:=zc3 (op:=op) ua
     exact⟨by rw[jQ,e];rfl,by rw[e];rfl⟩)
def zgB(e:Ex):Bool:=if e.op=1 then decide (0<=e.n)&&decide (e.n<=1099511627776)else if e.op=2 then decide (e.n=0)||decide (e.n=1)else decide (e.n=0)
theorem zoq(e:Ex):zbp e=(!decide (yr e.op= -2)&& !(decide (0<=yr e.op)&& !decide ((e.l.length:Int)=yr e.op))&& !(decide (yr e.op= -1)&&decide (6<(e.l.length:Int)))&&za8 e&&zgB e):=rfl
theorem ze7(e:Ex):zbp e=(!decide (yr e.op= -2)&&(za8 e&&zgB e)&& !(decide (0<=yr e.op)&& !decide ((e.l.length:Int)=yr e.op))&& !(decide (yr e.op= -1)&&decide (6<(e.l.length:Int)))):=by
 rw[zoq];generalize decide (yr e.op= -2)=a;generalize (decide (0<=yr e.op)&& !decide ((e.l.length:Int)=yr e.op))=b;generalize (decide (yr e.op= -1)&&decide (6<(e.l.length:Int)))=c;cases a<;>cases b<;>cases c<;>cases za8 e<;>cases zgB e<;>rfl
theorem ze8(op:Int): -2<=yr op/\(yr op<0->yr op= -1\/yr op= -2):=by
 unfold yr
 repeat' split
 all_goals omega
theorem zgC(e:Ex):zh Tryz.prog 192 [zF (ye e)] [] (.bq (za8 e&&zgB e)) []:=by
 refine gO T Tryz.func192 λC hC=>?_
 repeat' first|refine znJ T hC true 400 rfl rfl ?_|refine zdQ rfl (λh=>?_) (λh=>?_)|refine zkj T hC ud ?_|refine zao (λh=>?_) (λh=>?_)|refine zap rfl rfl rfl (λh=>?_) (λh=>?_)|refine zaq rfl rfl (λh=>?_) (λh=>?_)|refine gC (yB _) ?_|refine zkk T (.inl rfl) rfl ?_|refine zhI T (.inl rfl) rfl ?_
 all_goals (simp_all[za8,zgB]<;>omega)
mutual
def exB:Ex->Int->Int->Bool×Int
 | .mk op n s l,d,c=>if(decide (0<=c - 1)&& !decide (60<d)&&zbp (.mk op n s l))=true then exL l (d+1) (c - 1)else(false,c - 1)
def exL:List Ex->Int->Int->Bool×Int
 | [],_,c=>(true,c)
 |x::r,d,c=>if(exB x d c).1=true then exL r d (exB x d c).2 else(false,(exB x d c).2)
end
theorem zqe(e:Ex)(d c:Int):exB e d c=if(decide (0<=c - 1)&& !decide (60<d)&&zbp e)=true then exL e.l (d+1) (c - 1)else(false,c - 1):=by
 cases e;rfl
mutual
theorem ze9: ∀(e:Ex) (d c:Int),0<=c-> -1<=(exB e d c).2/\(exB e d c).2<=c/\((exB e d c).1=true->0<=(exB e d c).2)
 | .mk op n s l,d,c,h=>by
   simp only[exB];split
   ·rename_i h';simp only[uo,uq]at h';have:=zfa l (d+1) (c - 1) h'.1.1;exact⟨this.1,ua,this.2.2⟩
   ·simp only;exact⟨ua,ua,λe=>by cases e⟩
theorem zfa: ∀(l:List Ex) (d c:Int),0<=c-> -1<=(exL l d c).2/\(exL l d c).2<=c/\((exL l d c).1=true->0<=(exL l d c).2)
 | [],d,c,h=>by simp only[exL];exact⟨ua,ua,λ_=>h⟩
 |x::r,d,c,h=>by
  simp only[exL];have h1:=ze9 x d c h;split
  ·rename_i h2;have h3:=zfa r d _ (h1.2.2 h2);exact⟨h3.1,ua,h3.2.2⟩
  ·exact⟨h1.1,h1.2.1,λe=>by cases e⟩
end
theorem zkV(d:Int): ∀(l:List Ex) (c:Int),anyR (λx c=> !(exB x d c).1) (λx c=>(exB x d c).2) l c=(!(exL l d c).1,(exL l d c).2)
 | [],c=>rfl
 |x::r,c=>by
  simp only[anyR,exL];cases h:(exB x d c).1 with
  |true=>simp only[qp,uy,uL,uZ];exact zkV d r _
  |false=>rfl
theorem zor(x:Ex)(dp c:Int)(h1:0<=dp)(h2:dp<=60)(h:zh Tryz.prog 131 [zF (ye x),I (dp+1),.one (.bx 0 0)] [(0,.box [.p (ki c)])] (.bq (exB x (dp+1) c).1) [(0,.box [.p (ki (exB x (dp+1) c).2)])]):
 zh Tryz.prog 194 [zF (ye x),.one (.bx 1 0),.one (.bx 2 0)] [(0,.box [.p (ki c)]),(1,.box [.p (ki dp)]),(2,.box [.bx 0 0])] (.bq (!(exB x (dp+1) c).1))
  [(0,.box [.p (ki (exB x (dp+1) c).2)]),(1,.box [.p (ki dp)]),(2,.box [.bx 0 0])]:=by
 refine gO T Tryz.func194 λC hC=>?_
 repeat' first|refine gG ?_|refine gB ?_ ?_<;>intro h
 rw[wrap64 ua]
 repeat' first|refine gG ?_|refine gB ?_ ?_<;>intro h|refine gR h (nm [0]) ?_
 exact zi ⟨.inl rfl,id,_,rfl,.qq rfl,⟨rfl,rfl,rfl,uh⟩,rfl,rfl⟩
theorem zjd: ∀(N:Nat) (e:Ex) (d c:Int),sizeOf e<N->0<=d->d<=61->0<=c->c<=1000->zh Tryz.prog 131 [zF (ye e),I d,.one (.bx 0 0)] [(0,.box [.p (ki c)])] (.bq (exB e d c).1) [(0,.box [.p (ki (exB e d c).2)])]:=by
 intro N
 induction N with
 |zero=>intro e d c h;omega
 |succ N ih=>
  intro e d c hN hd1 hd2 hc1 hc2;have no:(decide (0<=c - 1)&& !decide (60<d)&&zbp e)=false->(exB e d c)=(false,c - 1):=λh=>by rw[zqe,h];rfl
  have yes:(decide (0<=c - 1)&& !decide (60<d)&&zbp e)=true->(exB e d c)=exL e.l (d+1) (c - 1):=λh=>by rw[zqe,uv h]
  refine gO T Tryz.func131 λC hC=>?_
  repeat' first|refine gG ?_|refine gB ?_ ?_<;>intro h|refine gC (zgA _) ?_|refine zu hC (zkU c ua ua) (nm [0]) rfl rfl (zH.refl _) rfl rfl rfl rfl rfl rfl rfl rfl ?_|refine gC (zgC _) ?_
  all_goals (try simp only[uk]at*)
  all_goals first
   |(have hn:(decide (0<=c - 1)&& !decide (60<d)&&zbp e)=false:=by clear ih no yes;rw[ze7];have:=ze8 e.op;generalize (za8 e&&zgB e)=q at *; simp_all[jQ]<;>omega
     rw[no hn]
     exact zi ⟨.inl rfl,id,_,rfl,.qb rfl,⟨rfl,uh⟩,rfl,rfl⟩)
   |(have U:(decide (0<=c - 1)&& !decide (60<d)&&zbp e)=true:=by clear ih no yes;rw[ze7];have:=ze8 e.op;generalize (za8 e&&zgB e)=q at *; simp_all[jQ]<;>omega
     rw[yes U];simp only[uo,ux,uq,ur]at U
     have hh:zh Tryz.prog 193 [pS (wu e.l),.one (.cl 194 [] [.bx 1 0,.bx 2 0])] [(0,.box [.p (ki (c - 1))]),(1,.box [.p (ki d)]),(2,.box [.bx 0 0])]
      (.bq (!(exL e.l (d+1) (c - 1)).1)) [(0,.box [.p (ki (exL e.l (d+1) (c - 1)).2)]),(1,.box [.p (ki d)]),(2,.box [.bx 0 0])]:=by
      have:=zkP 194 d e.l (λx c=> !(exB x (d+1) c).1) (λx c=>(exB x (d+1) c).2) (λc=>0<=c/\c<=1000) (λx hx c J=>⟨zor x d c ua ua (ih x (d+1) c (by have:=qB hx;have:=ze5 e;omega) ua ua J.1 J.2),λhp=>by
       have hb:=ze9 x (d+1) c J.1
       exact⟨hb.2.2 (by simpa using hp),ua⟩⟩) (c - 1) ⟨ua,ua⟩
      rw[zkV]at this;exact this
     repeat' first|refine gG ?_|refine gB ?_ ?_<;>intro h|refine gR hh (nm [0,1004,1005]) ?_
     exact zi ⟨.inl rfl,id,_,rfl,.qq ue,⟨rfl,uh⟩,rfl,rfl⟩)
theorem zb6: ∀(l:List Ex) (d n:Int),n<=countL l d n
 | [],d,n=>by simp only[countL];omega
 |e::es,d,n=>by
  simp only[countL];have h1:=(vd e (d+1)).1;have h2:=zb6 es d (n+countS e (d+1));split<;>omega
mutual
theorem zfb: ∀(e:Ex) (d c:Int),0<=c->c<=1000->(exB e d c).1=decide (countS e d<=c)/\(countS e d<=c->(exB e d c).2=c - countS e d)
 | .mk op n s l,d,c,h0,h1=>by
   by_cases hb:(decide (60<d)|| !zbp (.mk op n s l))=true
   ·have e1:countS (.mk op n s l) d=1001:=by simp only[countS];exact uv hb
    have e2:exB (.mk op n s l) d c=(false,c - 1):=by
     simp only[exB];refine uu λh=>?_;simp only[uo,uU,ux]at h hb;rcases hb with hb|hb
     ·rw[hb]at h;simp at h
     ·rw[hb]at h;simp at h
    rw[e1,e2];exact⟨(uJ ua).symm,λh=>by omega⟩
   ·have e1:countS (.mk op n s l) d=countL l d 1:=by simp only[countS];exact uu hb
    simp only[uU,uq,ux,Uz,oh]at hb;rw[e1];by_cases hc:0<=c - 1
    ·have e2:exB (.mk op n s l) d c=exL l (d+1) (c - 1):=by simp only[exB];exact uv (by simp[hc,hb.2];omega)
     rw[e2];have:=zfc l d (c - 1) 1 ua ua ua;rw[show 1+(c - 1)=c by omega]at this;exact this
    ·have e2:exB (.mk op n s l) d c=(false,c - 1):=by simp only[exB];exact uu λh=>by simp only[uo,uq]at h;omega
     rw[e2];have:=zb6 l d 1;exact⟨(uJ ua).symm,λh=>by omega⟩
theorem zfc: ∀(l:List Ex) (d c n:Int),0<=c->1<=n->n+c<=1000->(exL l (d+1) c).1=decide (countL l d n<=n+c)/\(countL l d n<=n+c->(exL l (d+1) c).2=n+c - countL l d n)
 | [],d,c,n,h0,h1,h2=>by
   have e1:countL [] d n=n:=by simp only[countL]
   rw[e1];simp only[exL];exact⟨(uT ua).symm,λ_=>by omega⟩
 |x::r,d,c,n,h0,h1,h2=>by
  have hx:=zfb x (d+1) c h0 ua;have hk:=(vd x (d+1)).1;by_cases hc:countS x (d+1)<=c
  ·have e1:countL (x::r) d n=countL r d (n+countS x (d+1)):=by simp only[countL];exact uu ua
   have e2:exL (x::r) (d+1) c=exL r (d+1) (c - countS x (d+1)):=by
    simp only[exL];rw[hx.1,uT hc,uv rfl,hx.2 hc]
   rw[e1,e2];have:=zfc r d (c - countS x (d+1)) (n+countS x (d+1)) ua ua ua;rw[show n+countS x (d+1)+(c - countS x (d+1))=n+c by omega]at this;exact this
  ·have e2:exL (x::r) (d+1) c=(false,(exB x (d+1) c).2):=by
    simp only[exL];rw[hx.1,uJ hc];exact uu ue
   have hg:=zb6 r d (n+countS x (d+1))
   have hbig:n+c<countL (x::r) d n:=by
    simp only[countL];by_cases h3:1000<n+countS x (d+1)
    ·rw[uv h3];omega
    ·rw[uu h3];omega
   rw[e2];exact⟨(uJ ua).symm,λh=>by omega⟩
end
theorem zkW(e:Ex):(exB e 1 1000).1=xi e:=(zfb e 1 1000 ua ua).1
theorem yY(e:Ex):zh Tryz.prog 90 [zF (ye e)] [] (.bq (xi e)) []:=by
 refine gO T Tryz.func90 λC hC=>?_
 repeat' first|refine gG ?_|refine gB ?_ ?_<;>intro h|refine zu hC (zjd (sizeOf e+1) e 1 1000 ua ua ua ua ua) (nm [1005]) rfl rfl (zH.refl _) rfl rfl rfl rfl rfl rfl rfl rfl ?_
 exact zi ⟨.inl rfl,id,_,rfl,.qq (zkW e),trivial,rfl,rfl⟩
def zbd(s:Sm):Bool:=(if s.op=1\/s.op=2 then isName s.s else decide (s.s=(⟨#[]⟩:UH)))&& !(!decide (s.op=3)&&(decide (0<(s.els.length:Int))||(!decide (s.op=4)&&decide (0<(s.l.length:Int)))))&&
 (if s.op=1\/s.op=3\/s.op=4 then decide ((s.e.length:Int)=1)else if s.op=2 then decide ((s.e.length:Int)=2)else if s.op=5 then decide ((s.e.length:Int)<=1)
   else if s.op=6 then decide ((s.e.length:Int)=1)&&decide ((s.e[0]?).map Ex.op=some 7)else false)
theorem zos(s:Sm):(zbd s&&s.e.all xi)=zat s:=by
 have hz: ∀n:Nat,decide ((n:Int)=0)= !decide (0<(n:Int)):=λn=>by
  by_cases h:(n:Int)=0
  ·rw[uT h,uJ ua];rfl
  ·rw[uJ h,uT ua];rfl
 have h1: ∀n:Nat,(!decide ((n:Int)<1)&& !decide (1<(n:Int)))=decide ((n:Int)=1):=λn=>by
  by_cases h:(n:Int)=1
  ·simp[h]
  ·rw[uJ h];by_cases h2:(n:Int)<1<;>simp[h2]<;>omega
 have h2: ∀n:Nat,(!decide ((n:Int)<2)&& !decide (2<(n:Int)))=decide ((n:Int)=2):=λn=>by
  by_cases h:(n:Int)=2
  ·simp[h]
  ·rw[uJ h];by_cases h2:(n:Int)<2<;>simp[h2]<;>omega
 have h3: ∀n:Nat,(!decide ((n:Int)<0)&& !decide (1<(n:Int)))=decide ((n:Int)<=1):=λn=>by
  by_cases h:(n:Int)<=1
  ·simp[h]<;>omega
  ·simp[h]<;>omega
 simp only[zat,zkF,zbd,zkE,vH,h1,h2,h3,hz];generalize s.e.all xi=A;generalize isName s.s=B;generalize decide (s.s=(⟨#[]⟩:UH))=E;generalize decide (0<(s.els.length:Int))=X;generalize decide (0<(s.l.length:Int))=Y;generalize decide ((s.e[0]?).map Ex.op=some 7)=Z;generalize decide ((s.e.length:Int)=1)=N1;generalize decide ((s.e.length:Int)=2)=N2;generalize decide ((s.e.length:Int)<=1)=N3;by_cases J:s.op=1
 ·simp only[J,Int.reduceEq,UC,UD,UA,oR,uZ,uL,oo,qH];revert A B E X Y Z N1 N2 N3;decide
 by_cases U:s.op=2
 ·simp only[U,Int.reduceEq,UC,UD,UA,oR,uZ,uL,oo,qH];revert A B E X Y Z N1 N2 N3;decide
 by_cases o3:s.op=3
 ·simp only[o3,Int.reduceEq,UC,UD,UA,oR,uZ,uL,oo,qH];revert A B E X Y Z N1 N2 N3;decide
 by_cases o4:s.op=4
 ·simp only[o4,Int.reduceEq,UC,UD,UA,oR,uZ,uL,oo,qH];revert A B E X Y Z N1 N2 N3;decide
 by_cases o5:s.op=5
 ·simp only[o5,Int.reduceEq,UC,UD,UA,oR,uZ,uL,oo,qH];revert A B E X Y Z N1 N2 N3;decide
 by_cases o6:s.op=6
 ·simp only[o6,Int.reduceEq,UC,UD,UA,oR,uZ,uL,oo,qH];revert A B E X Y Z N1 N2 N3;decide
 simp only[J,U,o3,o4,o5,o6,or_self,uL,qX,tW]
theorem zgD(s:Sm):zh Tryz.prog 213 [zF (zcL s)] [] (.bq (zbd s)) []:=by
 refine gO T Tryz.func213 λC hC=>?_
 repeat' first|refine znJ T hC true 400 rfl rfl ?_|refine zdQ rfl (λh=>?_) (λh=>?_)|refine zkj T hC ud ?_|refine zao (λh=>?_) (λh=>?_)|refine zap rfl rfl rfl (λh=>?_) (λh=>?_)|refine zaq rfl rfl (λh=>?_) (λh=>?_)|refine gC (yB _) ?_|refine zkk T (.inl rfl) rfl ?_|refine zhI T (.inl rfl) rfl ?_|(obtain⟨x,J⟩:=zd (l:=s.e) (i:=0) (by have:=uj h;simp only[uk]at this;omega);refine xz T hC rfl rfl rfl (qw _) (zI J) rfl rfl ?_)
 all_goals (try simp only[uk]at*)
 all_goals (simp_all[zbd]<;>omega)
mutual
def stB:Sm->Int->Int->Bool×Int
 | .mk op s e l els,d,c=>if(decide (0<=c - 1)&&(zbd (.mk op s e l els)&&e.all xi))=true then
    (if(if decide (0<(l.length:Int))&&decide (60<d+1)then(false,c - 1)else stQ l (d+1) (c - 1)).1=true then
      (if decide (0<(els.length:Int))&&decide (60<d+1)then(false,(if decide (0<(l.length:Int))&&decide (60<d+1)then(false,c - 1)else stQ l (d+1) (c - 1)).2)
        else stQ els (d+1) (if decide (0<(l.length:Int))&&decide (60<d+1)then(false,c - 1)else stQ l (d+1) (c - 1)).2)
      else(false,(if decide (0<(l.length:Int))&&decide (60<d+1)then(false,c - 1)else stQ l (d+1) (c - 1)).2))
    else(false,c - 1)
def stQ:List Sm->Int->Int->Bool×Int
 | [],_,c=>(true,c)
 |x::r,d,c=>if(stB x d c).1=true then stQ r d (stB x d c).2 else(false,(stB x d c).2)
end
def stP(l:List Sm)(d c:Int):Bool×Int:=if decide (0<(l.length:Int))&&decide (60<d)then(false,c)else stQ l d c
theorem zqf(s:Sm)(d c:Int):stB s d c=if(decide (0<=c - 1)&&(zbd s&&s.e.all xi))=true then
 (if(stP s.l (d+1) (c - 1)).1=true then stP s.els (d+1) (stP s.l (d+1) (c - 1)).2 else(false,(stP s.l (d+1) (c - 1)).2))else(false,c - 1):=by
 cases s;rfl
theorem zgE{n k:Int}(h:0<=k):n<=zgd n k:=by
 unfold zgd;by_cases q:n<=200
 ·rw[uv q];omega
 ·rw[uu q];omega
theorem zkX(s:Sm)(d n:Int)(h0:0<=n)(h1:n<=200):n<stN s d n:=by
 rw[zhX];split
 ·omega
 ·have J:=(wh s.l (d+1) 0 ua ua).1;have U:=(wh s.els (d+1) 0 ua ua).1;have b1:=zgE (n:=n+1) J;have b2:=zgE (n:=zgd (n+1) (stL s.l (d+1) 0)) U;omega
theorem zqg: ∀(l:List Sm) (d n:Int),0<=n->n<=200->n<=stL l d n
 | [],d,n,_,_=>by simp only[stL];omega
 |s::r,d,n,h0,h1=>by
  have h2:=zkX s d n h0 h1;simp only[stL];by_cases h3:200<stN s d n
  ·rw[uv h3];omega
  ·rw[uu h3];have:=zqg r d (stN s d n) ua ua;omega
theorem zot{l:List Sm}{d:Int}(h:0<(l.length:Int))(J:60<d)(n:Int):stL l d n=201:=by
 cases l with
 |nil=>simp at h
 |cons s r=>
  have:stN s d n=201:=by rw[zhX,uv (by simp[J])]
  simp only[stL,this];rfl
def zkY(r:Bool×Int)(k t:Int):Prop:=r.1=decide (k<=t)/\(k<=t->r.2=t - k)
variable {r:Bool×Int}
theorem zkY.of_le{k t:Int}(h:k<=t)(e:r=(true,t - k)):zkY r k t:=by subst e;exact⟨(uT h).symm,λ_=>rfl⟩
theorem zkY.zje{k t:Int}(h:t<k)(e:r.1=false):zkY r k t:=⟨by rw[e];exact(uJ ua).symm,λh'=>by omega⟩
theorem zkY.le{k t:Int}(h:zkY r k t)(J:k<=t):r=(true,t - k):=Ur (h.1.trans (uT J)) (h.2 J)
theorem zkY.gt{k t:Int}(h:zkY r k t)(h1:t<k):r.1=false:=h.1.trans (uJ ua)
mutual
theorem zkZ: ∀(s:Sm) (d c n:Int),0<=n->0<=c->n+c<=200->d<=60->zkY (stB s d c) (stN s d n) (n+c)
 | .mk op s e l els,d,c,n,h0,h1,h2,hd=>by
   have hgt:=zkX (.mk op s e l els) d n h0 ua
   have eB:stB (.mk op s e l els) d c=if(decide (0<=c - 1)&&zat (.mk op s e l els))=true then
    (if(stP l (d+1) (c - 1)).1=true then stP els (d+1) (stP l (d+1) (c - 1)).2 else(false,(stP l (d+1) (c - 1)).2))else(false,c - 1):=by
    rw[zqf,zos];rfl
   rw[eB];by_cases hs:zat (.mk op s e l els)=true
   ·have eN:stN (.mk op s e l els) d n=zgd (zgd (n+1) (stL l (d+1) 0)) (stL els (d+1) 0):=by
     rw[zhX,uu (by simp[hs];omega)];rfl
    rw[hs,qk];by_cases hc:0<=c - 1
    ·rw[uv (uT hc)];have a1:=(wh l (d+1) 0 ua ua).1;have a2:=(wh els (d+1) 0 ua ua).1;have hl:=zb7 l (d+1) (c - 1) ua ua;by_cases k1:stL l (d+1) 0<=c - 1
     ·rw[hl.le k1,uv rfl];have hm:=zb7 els (d+1) (c - 1 - stL l (d+1) 0) ua ua;simp only;have eb:zgd (n+1) (stL l (d+1) 0)=n+1+stL l (d+1) 0:=uv ua;have eb2:zgd (n+1+stL l (d+1) 0) (stL els (d+1) 0)=n+1+stL l (d+1) 0+stL els (d+1) 0:=uv ua;rw[eN,eb,eb2];by_cases k2:stL els (d+1) 0<=c - 1 - stL l (d+1) 0
      ·rw[hm.le k2];exact .of_le ua (Ur rfl (by simp only;omega))
      ·exact .zje ua (hm.gt ua)
     ·have e1:=hl.gt ua;rw[e1];refine .zje ?_ rfl;rw[eN];have eb:zgd (n+1) (stL l (d+1) 0)=n+1+stL l (d+1) 0:=uv ua;rw[eb];have:=zgE (n:=n+1+stL l (d+1) 0) a2;omega
    ·rw[uu ug];exact .zje ua rfl
   ·have hs':zat (.mk op s e l els)=false:=by simpa using hs
    have eN:stN (.mk op s e l els) d n=201:=by rw[zhX,uv (by simp[hs'])]
    rw[hs',qX,uu ue,eN];exact .zje ua rfl
theorem zfd: ∀(l:List Sm) (d c n:Int),0<=n->0<=c->n+c<=200->d<=60->zkY (stQ l d c) (stL l d n) (n+c)
 | [],d,c,n,h0,h1,h2,hd=>by
   have e1:stL [] d n=n:=by simp only[stL]
   rw[e1];exact .of_le ua (by simp only[stQ];exact Ur rfl (by simp only;omega))
 |x::r,d,c,n,h0,h1,h2,hd=>by
  have hx:=zkZ x d c n h0 h1 h2 hd;have hg:=zkX x d n h0 ua;by_cases k:stN x d n<=n+c
  ·have e1:stL (x::r) d n=stL r d (stN x d n):=by simp only[stL];exact uu ua
   have e2:stQ (x::r) d c=stQ r d (n+c - stN x d n):=by simp only[stQ];rw[hx.le k];rfl
   rw[e1,e2];have:=zfd r d (n+c - stN x d n) (stN x d n) ua ua ua hd;rw[show stN x d n+(n+c - stN x d n)=n+c by omega]at this;exact this
  ·have e2:(stQ (x::r) d c).1=false:=by simp only[stQ];rw[hx.gt ua];rfl
   refine .zje ?_ e2;simp only[stL];by_cases h3:200<stN x d n
   ·rw[uv h3];omega
   ·rw[uu h3];have:=zqg r d (stN x d n) ua ua;omega
theorem zb7: ∀(l:List Sm) (d c:Int),0<=c->c<=200->zkY (stP l d c) (stL l d 0) c
 |l,d,c,h0,h1=>by
  unfold stP;by_cases hd:60<d
  ·by_cases hl:0<(l.length:Int)
   ·rw[uv (by simp[hl,hd];omega),zot hl hd];exact .zje ua rfl
   ·have:l=[]:=tL ua;subst this;rw[uu ue];exact .of_le (by simp only[stL];omega) (by simp only[stQ,stL];exact Ur rfl (by simp only;omega))
  ·rw[uu (by simp[hd])];have:=zfd l d c 0 ua h0 ua ua;rw[Int.zero_add]at this;exact this
end
mutual
theorem zfe: ∀(s:Sm) (d c:Int),0<=c-> -1<=(stB s d c).2/\(stB s d c).2<=c/\((stB s d c).1=true->0<=(stB s d c).2)
 | .mk op s e l els,d,c,h=>by
   have eB:stB (.mk op s e l els) d c=if(decide (0<=c - 1)&&(zbd (.mk op s e l els)&&e.all xi))=true then
    (if(stP l (d+1) (c - 1)).1=true then stP els (d+1) (stP l (d+1) (c - 1)).2 else(false,(stP l (d+1) (c - 1)).2))else(false,c - 1):=rfl
   rw[eB];by_cases hc:(decide (0<=c - 1)&&(zbd (.mk op s e l els)&&e.all xi))=true
   ·rw[uv hc];have h0:0<=c - 1:=by simp only[uo,uq]at hc;exact hc.1
    have h1:=zb8 l (d+1) (c - 1) h0;by_cases h2:(stP l (d+1) (c - 1)).1=true
    ·rw[uv h2];have h3:=zb8 els (d+1) _ (h1.2.2 h2);exact⟨h3.1,ua,h3.2.2⟩
    ·rw[uu h2];exact⟨h1.1,by simp only;omega,λe=>by cases e⟩
   ·rw[uu hc];exact⟨by simp only;omega,by simp only;omega,λe=>by cases e⟩
theorem zff: ∀(l:List Sm) (d c:Int),0<=c-> -1<=(stQ l d c).2/\(stQ l d c).2<=c/\((stQ l d c).1=true->0<=(stQ l d c).2)
 | [],d,c,h=>by simp only[stQ];exact⟨ua,ua,λ_=>h⟩
 |x::r,d,c,h=>by
  have h1:=zfe x d c h;simp only[stQ];by_cases h2:(stB x d c).1=true
  ·rw[uv h2];have h3:=zff r d _ (h1.2.2 h2);exact⟨h3.1,ua,h3.2.2⟩
  ·rw[uu h2];exact⟨h1.1,h1.2.1,λe=>by cases e⟩
theorem zb8: ∀(l:List Sm) (d c:Int),0<=c-> -1<=(stP l d c).2/\(stP l d c).2<=c/\((stP l d c).1=true->0<=(stP l d c).2)
 |l,d,c,h=>by
  unfold stP;by_cases h2:(decide (0<(l.length:Int))&&decide (60<d))=true
  ·rw[uv h2];exact⟨by simp only;omega,by simp only;omega,λe=>by cases e⟩
  ·rw[uu h2];exact zff l d c h
end
theorem zk0(x:Ex):zh Tryz.prog 214 [zF (ye x)] [] (.bq (!xi x)) []:=by
 refine gO T Tryz.func214 λC hC=>?_
 repeat' first|refine gG ?_|refine gB ?_ ?_<;>intro h|refine gC (yY _) ?_|refine gQ ?_
 rfl
theorem zrl(l:List Ex):(l.any λx=> !xi x)= !l.all xi:=by
 induction l with
 |nil=>rfl
 |cons a l ih=>simp only[ql,tX,ih,UF]
set_option maxHeartbeats 1000000 in
theorem zgF: ∀(N:Nat) (l:List Sm) (d c:Int),sizeOf l<N->0<=d->d<=61->0<=c->c<=200->zh Tryz.prog 158 [pS (yl l),I d,.one (.bx 0 0)] [(0,.box [.p (ki c)])] (.bq (stP l d c).1) [(0,.box [.p (ki (stP l d c).2)])]:=by
 intro N
 induction N with
 |zero=>intro l d c h;omega
 |succ N ih=>
  intro l d c hN hd1 hd2 hc1 hc2;refine gO T Tryz.func158 λC hC=>?_;refine wJ 0 rfl λhlen=>?_;rw[uk]at hlen
  repeat' first|refine gG ?_|refine gB ?_ ?_<;>intro h
  all_goals (try simp only[uk]at*)
  ·have e:stP l d c=(false,c):=by unfold stP;rw[uv (by simp_all)]
   rw[e];exact zi ⟨.inl rfl,id,_,rfl,.qb rfl,⟨rfl,uh⟩,rfl,rfl⟩
  all_goals
   have J:l=[]\/d<=60:=by
    by_cases hz:d<=60
    ·exact .inr hz
    ·left;have: ¬0<(l.length:Int):=λh0=>by simp_all<;>omega
     exact tL ua
   have e:stP l d c=stQ l d c:=by
    unfold stP;rcases J with rfl|J
    ·rw[uu ue]
    ·rw[uu ug]
   rw[e];clear e h;generalize hR:stQ l d c=RES
   refine zn (λq:Nat×Int=>q.1<=l.length/\0<=q.2/\q.2<=200/\stQ (l.drop q.1) d q.2=RES) (λq=>([(1,I d),(2,.one (.bx 0 0)),(16,pS (yl l)),(17,I l.length),(18,I q.1)],[(0,some (.box [.p (ki q.2)]))])) (λq=>l.length - q.1) hC
    (0,c) ⟨uz _,hc1,hc2,hR⟩ id gM ?_
   clear hR;rintro⟨i,q⟩ ⟨hi,hq1,hq2,U⟩;simp only at hi hq1 hq2 U;refine zq T hC true 200 rfl ?_;refine zt rfl ?_ ?_<;>intro h
   rotate_left
   ·have hge: ¬i<l.length:=by simpa using h
    rw[uA ua]at U;simp only[stQ]at U;subst U
    repeat' first|refine gG ?_|refine gB ?_ ?_<;>intro h|refine ze ?_
    exact zi ⟨.inl rfl,id,_,rfl,.qb rfl,⟨rfl,uh⟩,rfl,rfl⟩
   have hlt:i<l.length:=by simpa using h
   clear h
   have hd:d<=60:=by
    rcases J with rfl|J
    ·simp at hlt
    ·exact J
   obtain⟨x,hx⟩:=zd hlt;have hsz:=zgv hx;have hss:=zhY x;have hbs:=zfe x d q hq1;rw[drop_at hx]at U;simp only[stQ]at U
   have no: ∀r:Bool×Int,r.1=false->stB x d q=r->r=RES:=λr h1 h2=>by
    rw[h2,uu (by rw[h1];simp)]at U;rw[<-U];exact Ur h1 rfl
   have eB:=zqf x d q;have w1:IntKind.i64.wrap (d+1)=d+1:=wrap64 ua;have hA:=zkR 214 x.e (λy=> !xi y) (λy _=>zk0 y);rw[zrl]at hA;have b1:=λh0=>zb8 x.l (d+1) (q - 1) h0
   have nn:(!decide (0<=q - 1))=false->0<=q - 1:=λh=>by simpa using h
   have k1:=λ(h0:(!decide (0<=q - 1))=false)=>ih x.l (d+1) (q - 1) ua ua ua (nn h0) ua
   have k2:=λ(h0:(!decide (0<=q - 1))=false) (h1:(!(stP x.l (d+1) (q - 1)).1)=false)=>ih x.els (d+1) (stP x.l (d+1) (q - 1)).2 ua ua ua ((b1 (nn h0)).2.2 (by simpa using h1)) (by have:=(b1 (nn h0)).2.1;omega)
   clear ih hsz hss;generalize hr1:stP x.l (d+1) (q - 1)=r1 at*;generalize hr2:stP x.els (d+1) r1.2=r2 at*;generalize hsb:stB x d q=sb at*
   repeat' first|refine gG ?_|refine gB ?_ ?_<;>intro h|refine gXT ?_|refine zu hC (zkU q ua ua) (nm [0]) rfl rfl (zH.refl _) rfl rfl rfl rfl rfl rfl rfl rfl ?_|refine gC (zgD _) ?_|refine gC hA ?_|rw[w1]|refine zu hC (k1 uf) (nm [0]) rfl rfl (zH.refl _) rfl rfl rfl rfl rfl rfl rfl rfl ?_|refine zu hC (k2 uf uf) (nm [0]) rfl rfl (zH.refl _) rfl rfl rfl rfl rfl rfl rfl rfl ?_|refine zo ?_
   all_goals clear k1 k2 hA w1 hx hr1 hr2 hsb b1 nn
   all_goals first
    |(have e:sb=(false,q - 1):=by clear U no hbs J;rw[eB];clear eB;exact uu (λhcc=>by simp only[uo,uq]at hcc;obtain⟨hk1,hk2,hk3⟩:=hcc;simp_all[-List.all_eq_true, -List.all_eq_false]<;>omega)
      have e2:=no _ rfl e;subst e2
      exact zi ⟨.inl rfl,id,_,rfl,.qb rfl,⟨rfl,uh⟩,rfl,rfl⟩)
    |(have e:sb=(false,r1.2):=by clear U no hbs J;rw[eB];clear eB;rw[uv (by simp_all[-List.all_eq_true, -List.all_eq_false]),uu (by simp_all[-List.all_eq_true, -List.all_eq_false])]
      have e2:=no _ rfl e;subst e2
      exact zi ⟨.inl rfl,id,_,rfl,.qb rfl,⟨rfl,uh⟩,rfl,rfl⟩)
    |(have e:sb=r2:=by clear U no hbs J;rw[eB];clear eB;rw[uv (by simp_all[-List.all_eq_true, -List.all_eq_false]),uv (by simp_all[-List.all_eq_true, -List.all_eq_false])]
      have h2:r2.1=false:=by simpa using h
      have e2:=no _ h2 e;have e3:RES=(false,r2.2):=by rw[<-e2];exact Ur h2 rfl
      subst e3
      exact zi ⟨.inl rfl,id,_,rfl,.qb rfl,⟨rfl,uh⟩,rfl,rfl⟩)
    |(have e:sb=r2:=by clear U no hbs J;rw[eB];clear eB;rw[uv (by simp_all[-List.all_eq_true, -List.all_eq_false]),uv (by simp_all[-List.all_eq_true, -List.all_eq_false])]
      have h2:r2.1=true:=by simpa using h
      rw[e,uv h2]at U;rw[e]at hbs;rw[y7 ua]
      exact zg (i+1,r2.2) ⟨by simp only;omega,hbs.2.2 h2,by simp only;omega,U⟩ id (by simp only;omega) gM)
theorem zfg(s:Str):zh Tryz.prog 154 [Sr s] [] (.bq (isType s)) []:=by
 refine gO T Tryz.func154 λC hC=>?_
 repeat' first|refine gG ?_|refine gB ?_ ?_<;>intro h|refine gC (yB _) ?_|refine gQ ?_|refine gL ?_
 all_goals simp_all[isType]
theorem zc4(s:Str):zh Tryz.prog 155 [Sr s] [] (.bq (zhV s)) []:=by
 refine gO T Tryz.func155 λC hC=>?_
 repeat' first|refine gG ?_|refine gB ?_ ?_<;>intro h|refine gC (yB _) ?_|refine gQ ?_|refine gL ?_
 all_goals simp_all[zhV]
theorem zjf(f:Fld):zh Tryz.prog 153 [zF (zw f)] [] (.bq (!zdP f)) []:=by
 refine gO T Tryz.func153 λC hC=>?_
 repeat' first|refine gG ?_|refine gB ?_ ?_<;>intro h|refine gC (yB _) ?_|refine gC (zfg _) ?_|refine gQ ?_|refine gL ?_
 all_goals simp_all[zdP]
theorem vK(p:α->Bool)(l:List α):(l.any λx=> !p x)= !l.all p:=by
 induction l with
 |nil=>rfl
 |cons a l ih=>simp only[ql,tX,ih,UF]
theorem jo(l:List Fld)(m:Int):zh Tryz.prog 109 [pS (zx l),I m] [] (.bq (xB l m)) []:=by
 have J:=zc2 153 l (λy=> !zdP y) (λy _=>zjf y);rw[vK]at J;refine gO T Tryz.func109 λC hC=>?_
 repeat' first|refine gG ?_|refine gB ?_ ?_<;>intro h|refine gC J ?_|refine gQ ?_|refine gL ?_
 all_goals (try simp only[uk]at*)
 all_goals (simp_all[xB, -List.all_eq_true, -List.all_eq_false]<;>(intros;omega))
theorem zb9(p:Pr):zh Tryz.prog 114 [zF (zZ p)] [] (.bq (za9 p)) []:=by
 have J:=zb7 p.body 1 200 ua ua;refine gO T Tryz.func114 λC hC=>?_
 repeat' first|refine gG ?_|refine gB ?_ ?_<;>intro h|refine gC (yB _) ?_|refine gC (jo _ _) ?_|refine gC (zfg _) ?_|refine zu hC (zgF (sizeOf p.body+1) p.body 1 200 ua ua ua ua ua) (nm [1030]) rfl rfl (zH.refl _) rfl rfl rfl rfl rfl rfl rfl rfl ?_|refine gL ?_|refine gQ ?_
 all_goals (have hc1:=J.1;clear J;simp_all[za9])
theorem zfh(b:Bd):zh Tryz.prog 157 [zF (xC b)] [] (.bq (!zb0 b)) []:=by
 refine gO T Tryz.func157 λC hC=>?_
 repeat' first|refine gG ?_|refine gB ?_ ?_<;>intro h|refine gC (yB _) ?_|refine gC (yY b.x) ?_|refine gQ ?_|refine gL ?_
 all_goals simp_all[zb0]
theorem zgG(a b t:Int):decide (t<zeM a b)=(decide (t<a)||decide (t<b)):=by
 unfold zeM;by_cases h:b>a
 ·rw[uv h];by_cases h2:t<b<;>simp[h2];omega
 ·rw[uu h];by_cases h2:t<a<;>simp[h2];omega
def vL(d:zj):Bool:= !decide (12<(d.measures.length:Int))&& !decide (12<(d.invs.length:Int))&& !decide (12<(d.pots.length:Int))&& !decide (12<(d.bounds.length:Int))
theorem zh0(d:zj):decide (12<zeM (zeM (zeM (d.measures.length:Int) (d.invs.length:Int)) (d.pots.length:Int)) (d.bounds.length:Int))= !vL d:=by
 rw[zgG,zgG,zgG];simp only[vL,UF,UG]
theorem zcM(d:zj):zh Tryz.prog 110 [zF (zJ d)] [] (.bq (vL d&&yR d)) []:=by
 have hA:=zjb 157 d.bounds (λy=> !zb0 y) (λy _=>zfh y);rw[vK]at hA;refine gO T Tryz.func110 λC hC=>?_
 repeat' first|refine gG ?_|refine gB ?_ ?_<;>intro h|refine ztM hC rfl rfl rfl rfl rfl rfl ?_|refine gL ?_
 ·simp only[uk]at h;rw[zh0]at h;have:vL d=false:=by simpa using h
  rw[this];rfl
 ·simp only[uk]at h;rw[zh0]at h;have hsz:vL d=true:=by simpa using h
  rw[hsz,tA];simp only[vL,uo,ux,ur]at hsz;obtain⟨⟨⟨hl1,hl2⟩,hl3⟩,hl4⟩:=hsz;clear h;rw[uk]
  refine zn (λi:Nat=>i<=(d.measures).length/\((d.measures).take i).all (jl)=true) (λi=>([(1,.one (.bx 1001 0)),(24,.one (.p (.sl 7 (d.measures.map yq)))),(25,I d.measures.length),(26,I i)],[(1001,some (.box ((zJ d).map V.p)))])) (λi=>(d.measures).length - i) hC
   0 ⟨uz _,ue⟩ id gM ?_
  rintro i ⟨hi,U⟩;refine zq T hC true 200 rfl ?_;refine zt rfl ?_ ?_<;>intro h
  ·have J:i<(d.measures).length:=by first|simpa using h|(have h':=uj h;simp only[uk,th]at h' ⊢; omega)
   clear h;obtain⟨x,hx⟩:=zd J
   repeat' first|refine gG ?_|refine gB ?_ ?_<;>intro h|refine gX ?_|refine gC (yB _) ?_|refine gC (yY x.x) ?_|refine zo ?_|refine gL ?_
   all_goals first
    |(have hp:(jl) x=true:=by clear U hx J hi;simp_all[jl, -List.all_eq_true, -List.all_eq_false]<;>omega
      have hlt':=J
      try simp only[th,qC]at hlt'
      rw[wrap64 ua];refine zg (i+1) ⟨ua,?_⟩ id ua gM
      rw[x7 (p:=jl) hx,U,tA];exact hp)
    |(have hp:(jl) x=false:=by clear U hx J hi;simp_all[jl, -List.all_eq_true, -List.all_eq_false]<;>omega
      have hno:=zau (p:=jl) hx hp
      simp only[yR,hno,tW])
  have hge: ¬i<(d.measures).length:=by first|simpa using h|(have h':=um h;simp only[uk,th]at h' ⊢; omega)
  have hall:(d.measures).all (jl)=true:=jm (p:=jl) ua U;clear h hge U hi
  repeat' first|refine gG ?_|refine gB ?_ ?_<;>intro h|refine ze ?_
  rw[uk]
  refine zn (λi:Nat=>i<=(d.invs).length/\((d.invs).take i).all (zbY)=true) (λi=>([(1,.one (.bx 1001 0)),(58,.one (.p (.sl 6 (d.invs.map zgH)))),(59,I d.invs.length),(60,I i)],[(1001,some (.box ((zJ d).map V.p)))])) (λi=>(d.invs).length - i) hC
   0 ⟨uz _,ue⟩ id gM ?_
  rintro i ⟨hi,U⟩;refine zq T hC true 200 rfl ?_;refine zt rfl ?_ ?_<;>intro h
  ·have J:i<(d.invs).length:=by first|simpa using h|(have h':=uj h;simp only[uk,th]at h' ⊢; omega)
   clear h;obtain⟨x,hx⟩:=zd J
   repeat' first|refine gG ?_|refine gB ?_ ?_<;>intro h|refine gX ?_|refine gC (yB _) ?_|refine gC (zc4 _) ?_|refine gC (yY x.x) ?_|refine zo ?_|refine gL ?_
   all_goals first
    |(have hp:(zbY) x=true:=by clear U hx J hi;simp_all[zbY, -List.all_eq_true, -List.all_eq_false]<;>omega
      have hlt':=J
      try simp only[th,qC]at hlt'
      rw[wrap64 ua];refine zg (i+1) ⟨ua,?_⟩ id ua gM
      rw[x7 (p:=zbY) hx,U,tA];exact hp)
    |(have hp:(zbY) x=false:=by clear U hx J hi;simp_all[zbY, -List.all_eq_true, -List.all_eq_false]<;>omega
      have hno:=zau (p:=zbY) hx hp
      simp only[yR,hno,tW,qX])
  have hge: ¬i<(d.invs).length:=by first|simpa using h|(have h':=um h;simp only[uk,th]at h' ⊢; omega)
  have hall:(d.invs).all (zbY)=true:=jm (p:=zbY) ua U;clear h hge U hi;rename_i hall1
  repeat' first|refine gG ?_|refine gB ?_ ?_<;>intro h|refine ze ?_
  rw[uk]
  refine zn (λi:Nat=>i<=(d.pots).length/\((d.pots).take i).all (zbZ)=true) (λi=>([(1,.one (.bx 1001 0)),(82,.one (.p (.sl 5 (d.pots.map zc5)))),(83,I d.pots.length),(84,I i)],[(1001,some (.box ((zJ d).map V.p)))])) (λi=>(d.pots).length - i) hC
   0 ⟨uz _,ue⟩ id gM ?_
  rintro i ⟨hi,U⟩;refine zq T hC true 200 rfl ?_;refine zt rfl ?_ ?_<;>intro h
  ·have J:i<(d.pots).length:=by first|simpa using h|(have h':=uj h;simp only[uk,th]at h' ⊢; omega)
   clear h;obtain⟨x,hx⟩:=zd J
   repeat' first|refine gG ?_|refine gB ?_ ?_<;>intro h|refine gX ?_|refine gC (zc4 _) ?_|refine gC (yY x.x) ?_|refine zo ?_|refine gL ?_
   all_goals first
    |(have hp:(zbZ) x=true:=by clear U hx J hi;simp_all[zbZ, -List.all_eq_true, -List.all_eq_false]<;>omega
      have hlt':=J
      try simp only[th,qC]at hlt'
      rw[wrap64 ua];refine zg (i+1) ⟨ua,?_⟩ id ua gM
      rw[x7 (p:=zbZ) hx,U,tA];exact hp)
    |(have hp:(zbZ) x=false:=by clear U hx J hi;simp_all[zbZ, -List.all_eq_true, -List.all_eq_false]<;>omega
      have hno:=zau (p:=zbZ) hx hp
      simp only[yR,hno,tW,qX])
  have hge: ¬i<(d.pots).length:=by first|simpa using h|(have h':=um h;simp only[uk,th]at h' ⊢; omega)
  have hall:(d.pots).all (zbZ)=true:=jm (p:=zbZ) ua U;clear h hge U hi;rename_i hall2
  repeat' first|refine gG ?_|refine gB ?_ ?_<;>intro h|refine ze ?_|refine gC hA ?_|refine gQ ?_
  simp only[yR,hall,hall1,hall2,tA,UG]
theorem zk1(t:yn):zh Tryz.prog 111 [zF (zS t)] [] (.bq (!zb1 t)) []:=by
 refine gO T Tryz.func111 λC hC=>?_
 repeat' first|refine gG ?_|refine gB ?_ ?_<;>intro h|refine gC (yB _) ?_|refine gC (jo _ _) ?_|refine gQ ?_|refine gL ?_
 all_goals simp_all[zb1]
theorem zk2(p:Pr):zh Tryz.prog 113 [zF (zZ p)] [] (.bq (!za9 p)) []:=by
 refine gO T Tryz.func113 λC hC=>?_
 repeat' first|refine gG ?_|refine gB ?_ ?_<;>intro h|refine gC (zb9 p) ?_|refine gQ ?_
 rfl
theorem wV(d:zj):zh Tryz.prog 67 [zF (zJ d)] [] (.bq (yx d)) []:=by
 have J:=zkS 111 d.types (λy=> !zb1 y) (λy _=>zk1 y);rw[vK]at J;have U:=zkT 113 d.procs (λy=> !za9 y) (λy _=>zk2 y);rw[vK]at U
 have hv:yx d=(isName d.n&& !decide (12<(d.types.length:Int))&&xB d.globals 8&& !decide (40<(d.procs.length:Int))&&(vL d&&yR d)&&d.types.all zb1&&d.procs.all za9):=by
  simp only[yx,zbz,vL];generalize isName d.n=a1;generalize decide (12<(d.types.length:Int))=a2;generalize xB d.globals 8=a3;generalize decide (40<(d.procs.length:Int))=a4;generalize yR d=a5;generalize d.types.all zb1=a6;generalize d.procs.all za9=a7;generalize decide (12<(d.measures.length:Int))=a8;generalize decide (12<(d.invs.length:Int))=a9;generalize decide (12<(d.pots.length:Int))=a10;generalize decide (12<(d.bounds.length:Int))=a11;cases a1<;>cases a3<;>cases a5<;>cases a6<;>cases a7<;>simp[Bool.and_assoc]
 rw[hv];refine gO T Tryz.func67 λC hC=>?_
 repeat' first|refine gG ?_|refine gB ?_ ?_<;>intro h|refine gC (yB _) ?_|refine gC (jo _ _) ?_|refine gC (zcM _) ?_|refine gC J ?_|refine gC U ?_|refine gQ ?_|refine gL ?_
 all_goals (try simp only[uk]at*)
 all_goals clear J U hv
 all_goals try generalize (vL d&&yR d)=q at*
 all_goals (simp_all[-List.all_eq_true, -List.all_eq_false]<;>(intros;omega))
def entsF(k:Nat):List yn->List (Str×PV)
 | []=>[]
 |t::r=>(t.n,ki k)::entsF (k+1) r
def tm(d:zj):List (Str×PV):=entsF 0 d.types
def tyD(d:zj)(s:Str):Int:=if vt d s<0 then 0 else vt d s
theorem idxOf_cons(p:α->Bool)(x:α)(xs:List α):idxOf p (x::xs)=if p x=true then 0 else if idxOf p xs<0 then -1 else idxOf p xs+1:=by
 simp only[idxOf];by_cases h:p x=true
 ·rw[uv h,uv h]
 ·rw[uu h,uu h];cases e:idxOf p xs with
  |ofNat n=>rw[uu (by first|omega|simp)];rfl
  |negSucc n=>
   rcases wK (p:=p) (l:=xs)with J|⟨i,x,J,_⟩
   ·rw[e]at J;rw[uv (by rw[J];omega)];exact J
   ·rw[e]at J;omega
theorem zaV(s:Str): ∀(l:List yn) (k:Nat),getK (entsF k l) s=if idxOf (λt=>decide (t.n=s)) l<0 then none else some (ki (k+idxOf (λt=>decide (t.n=s)) l))
 | [],k=>rfl
 |t::r,k=>by
  simp only[entsF,getK];by_cases h:t.n=s
  ·have e:idxOf (λt:yn=>decide (t.n=s)) (t::r)=0:=by rw[idxOf_cons,uv (uT h)]
   rw[uv h,e,uu ua,Int.add_zero]
  ·rw[uu h,zaV s r (k+1)];have U: ¬(decide (t.n=s)=true):=by simp[h]
   rcases wK (p:=λt:yn=>decide (t.n=s)) (l:=r)with J|⟨i,x,J,_⟩
   ·have e:idxOf (λt:yn=>decide (t.n=s)) (t::r)= -1:=by rw[idxOf_cons,uu U,J];rfl
    rw[J,e];rfl
   ·have e:idxOf (λt:yn=>decide (t.n=s)) (t::r)=(i:Int)+1:=by rw[idxOf_cons,uu U,J,uu ua]
    rw[J,e,uu ua,uu ua];have:((k+1:Nat):Int)+(i:Int)=(k:Int)+((i:Int)+1):=by omega
    rw[this]
theorem zk3(d:zj)(s:Str):getK (tm d) s=if vt d s<0 then none else some (ki (vt d s)):=by
 have:=zaV s d.types 0;rw[show((0:Nat):Int)=0 from rfl,Int.zero_add]at this;exact this
theorem zk4(d:zj)(s:Str):(getK (tm d) s).isSome= !decide (vt d s<0):=by
 rw[zk3];by_cases h:vt d s<0<;>simp[h]
theorem zk5(d:zj)(s:Str):(getK (tm d) s).getD (.k (.int .i64 0))=ki (tyD d s):=by
 rw[zk3,tyD];by_cases h:vt d s<0<;>simp[h]
theorem zc6(x:yn): ∀(l:List yn) (k:Nat),entsF k (l++[x])=entsF k l++[(x.n,ki (k+l.length))]
 | [],k=>by simp[entsF]
 |t::r,k=>by
  have:((k+1:Nat):Int)+(r.length:Int)=(k:Int)+((r.length+1:Nat):Int):=by omega
  simp only[uN,entsF,zc6 x r (k+1),uR,this]
theorem yd{l:List α}{i:Nat}{x:α}(h:l[i]?=some x):l.take (i+1)=l.take i++[x]:=by
 rw[qQ,h];rfl
theorem zca(p:α->Bool)(l:List α):decide (idxOf p l<0)= !l.any p:=by
 rcases wK (p:=p) (l:=l)with J|⟨i,x,J,h2,h3,_⟩
 ·rw[J];cases h:l.any p with
  |false=>rfl
  |true=>
   exfalso;rw[List.any_eq_true]at h;obtain⟨x,U,hp⟩:=h
   induction l with
   |nil=>cases U
   |cons y ys ih=>
    rw[idxOf_cons]at J;by_cases hy:p y=true
    ·rw[uv hy]at J;omega
    ·rw[uu hy]at J;rcases uI.1 U with rfl|U
     ·exact hy hp
     ·by_cases hh:idxOf p ys<0
      ·rcases wK (p:=p) (l:=ys)with h4|⟨i,_,h4,_⟩
       ·exact ih h4 U
       ·omega
      ·rw[uu hh]at J;omega
 ·rw[J,zkM h2 h3,uJ ua];rfl
theorem zh1(s:Str):zh Tryz.prog 70 [Sr s] [] (.bq (zaa s)) []:=by
 refine gO T Tryz.func70 λC hC=>?_
 repeat' first|refine gG ?_|refine gB ?_ ?_<;>intro h|refine gQ ?_|refine gL ?_
 all_goals simp_all[zaa]
theorem zou(d:zj)(s:Str):zh Tryz.prog 71 [.one (.mp 0),Sr s] [(0,.map (yU zW (tm d)))] (.bq (!decide (vt d s<0))) [(0,.map (yU zW (tm d)))]:=by
 refine gO T Tryz.func71 λC hC=>?_
 repeat' first|refine gG ?_|refine gB ?_ ?_<;>intro h|refine zfi zW hC (kt:=9) (et:=3) (c0:= .int .i64 0) rfl rfl rfl ud ud ud rfl (zk5 d s) (zk4 d s) rfl rfl ?_
 exact zi ⟨.inl rfl,id,_,rfl,.qq rfl,⟨rfl,uh⟩,rfl,rfl⟩
theorem zk6(d:zj)(f:Fld):zh Tryz.prog 69 [zF (zw f),.one (.bx 1 0)] [(0,.map (yU zW (tm d))),(1,.box [.mp 0])] (.bq (!known d f)) [(0,.map (yU zW (tm d))),(1,.box [.mp 0])]:=by
 refine gO T Tryz.func69 λC hC=>?_
 repeat' first|refine gG ?_|refine gB ?_ ?_<;>intro h|refine gC (zh1 _) ?_|refine gR (zou d _) (nm [0]) ?_
 all_goals first
  |exact zi ⟨.inl rfl,id,_,rfl,.qb (by simp_all[known]),⟨rfl,rfl,uh⟩,rfl,rfl⟩
  |exact zi ⟨.inl rfl,id,_,rfl,.qq (by simp_all[known]),⟨rfl,rfl,uh⟩,rfl,rfl⟩
theorem zjg(f:FuncId)(d:zj)(l:List Fld)(p:Fld->Unit->Bool)(nx:Fld->Unit->Unit)(inv:Unit->Prop)
 (hf: ∀x∈l,∀s:Unit,inv s->zh Tryz.prog f [zF (zw x),.one (.bx 1 0)] [(0,.map (yU zW (tm d))),(1,.box [.mp 0])] (.bq (p x s)) ((λs:Unit=>[(0,.map (yU zW (tm d))),(1,.box [.mp 0])]) (nx x s))/\(p x s=false->inv (nx x s))) (s:Unit) (hs:inv s):
 zh Tryz.prog 97 [pS (.sl 2 (l.map zw)),.one (.cl f [] [.bx 1 0])] [(0,.map (yU zW (tm d))),(1,.box [.mp 0])] (I (idxR p nx l 0 s).1) ((λs:Unit=>[(0,.map (yU zW (tm d))),(1,.box [.mp 0])]) (idxR p nx l 0 s).2):=by
 refine gO T Tryz.func97 λC hC=>?_;have hs0:=hs;refine wJ 0 rfl λhl=>?_;rw[uk]at hl
 repeat' first|refine gG ?_|refine gB ?_ ?_<;>intro h
 rw[uk]
 refine zn (λq:Nat×Unit=>q.1<=l.length/\inv q.2/\idxR p nx (l.drop q.1) q.1 q.2=idxR p nx l 0 s) (λq=>(λs:Unit=>([(0,pS (.sl 2 (l.map zw))),(1,.one (.cl f [] [.bx 1 0])),(7,I l.length),(8,I q.1)],[(0,some (.map (yU zW (tm d)))),(1,some (.box [.mp 0]))])) q.2) (λq=>l.length - q.1) hC
  (0,s) ⟨uz _,hs,rfl⟩ id gM ?_
 generalize idxR p nx l 0 s=res;clear hs hs0;rintro⟨i,s⟩ ⟨hi,hv,J⟩;simp only at hi hv J;refine zq T hC true 200 rfl ?_;refine zt rfl ?_ ?_<;>intro hh
 ·have hlt:i<l.length:=by simpa using hh
  clear hh;obtain⟨x,hx⟩:=zd hlt;rw[drop_at hx]at J;simp only[idxR]at J;have hv2:=(hf x (List.mem_of_getElem? hx) s hv).2
  repeat' first|refine gG ?_|refine gB ?_ ?_<;>intro h|refine gI T (zl hx) ?_|refine zu hC (hf x (List.mem_of_getElem? hx) s hv).1 id rfl rfl (zH.refl _) rfl rfl rfl rfl rfl rfl rfl rfl ?_|refine zo ?_
  ·rw[uv uf]at J;subst J;exact gE
  ·have U:p x s=false:=by assumption
   rw[U]at J;simp only[uy,uL]at J;rw[wrap64 ua];exact zg (i+1,nx x s) ⟨by simp only;omega,hv2 U,J⟩ id (by simp only;omega) gM
 ·have hge: ¬i<l.length:=by simpa using hh
  rw[uA ua]at J;simp only[idxR]at J;subst J
  repeat' first|refine gG ?_|refine gB ?_ ?_<;>intro h|refine ze ?_
  exact gE
theorem zjh(f:FuncId)(d:zj)(l:List Fld)(p:Fld->Unit->Bool)(nx:Fld->Unit->Unit)(inv:Unit->Prop)
 (hf: ∀x∈l,∀s:Unit,inv s->zh Tryz.prog f [zF (zw x),.one (.bx 1 0)] [(0,.map (yU zW (tm d))),(1,.box [.mp 0])] (.bq (p x s)) ((λs:Unit=>[(0,.map (yU zW (tm d))),(1,.box [.mp 0])]) (nx x s))/\(p x s=false->inv (nx x s))) (s:Unit) (J:inv s):
 zh Tryz.prog 59 [pS (.sl 2 (l.map zw)),.one (.cl f [] [.bx 1 0])] [(0,.map (yU zW (tm d))),(1,.box [.mp 0])] (.bq (anyR p nx l s).1) ((λs:Unit=>[(0,.map (yU zW (tm d))),(1,.box [.mp 0])]) (anyR p nx l s).2):=by
 refine gO T Tryz.func59 λC hC=>?_
 repeat' first|refine gG ?_|refine gB ?_ ?_<;>intro h|refine gR (zjg f d l p nx inv hf s J) (nm [0,1]) ?_
 exact zi ⟨.inl rfl,id,_,rfl,.qq (zbb p nx l 0 s),by rw[<-zbc p nx l 0 s];exact⟨rfl,rfl,uh⟩,rfl,rfl⟩
theorem zh2(d:zj)(l:List Fld):zh Tryz.prog 68 [pS (zx l),.one (.bx 1 0)] [(0,.map (yU zW (tm d))),(1,.box [.mp 0])] (.bq (l.all (known d))) [(0,.map (yU zW (tm d))),(1,.box [.mp 0])]:=by
 have J:=zjh 69 d l (λy _=> !known d y) (λ_ s=>s) (λ_=>True) (λy _ _ _=>⟨zk6 d y,λ_=>trivial⟩) () trivial;rw[zb5,vK]at J;refine gO T Tryz.func68 λC hC=>?_
 repeat' first|refine gG ?_|refine gB ?_ ?_<;>intro h|refine gR J (nm [0,1]) ?_
 exact zi ⟨.inl rfl,id,_,rfl,.qq ue,⟨rfl,rfl,uh⟩,rfl,rfl⟩
theorem zov(d:zj)(t:yn):zh Tryz.prog 73 [zF (zS t),.one (.bx 2 0)] [(0,.map (yU zW (tm d))),(1,.box [.mp 0]),(2,.box [.cl 68 [] [.bx 1 0]])] (.bq (!t.f.all (known d)))
 [(0,.map (yU zW (tm d))),(1,.box [.mp 0]),(2,.box [.cl 68 [] [.bx 1 0]])]:=by
 refine gO T Tryz.func73 λC hC=>?_
 repeat' first|refine gG ?_|refine gB ?_ ?_<;>intro h|refine gR (zh2 d t.f) (nm [0,1]) ?_
 exact zi ⟨.inl rfl,id,_,rfl,.qq rfl,⟨rfl,rfl,rfl,uh⟩,rfl,rfl⟩
theorem zk7(f:FuncId)(d:zj)(l:List yn)(p:yn->Unit->Bool)(nx:yn->Unit->Unit)(inv:Unit->Prop)
 (hf: ∀x∈l,∀s:Unit,inv s->zh Tryz.prog f [zF (zS x),.one (.bx 2 0)] [(0,.map (yU zW (tm d))),(1,.box [.mp 0]),(2,.box [.cl 68 [] [.bx 1 0]])] (.bq (p x s)) ((λs:Unit=>[(0,.map (yU zW (tm d))),(1,.box [.mp 0]),(2,.box [.cl 68 [] [.bx 1 0]])]) (nx x s))/\(p x s=false->inv (nx x s))) (s:Unit) (hs:inv s):
 zh Tryz.prog 115 [pS (.sl 2 (l.map zS)),.one (.cl f [] [.bx 2 0])] [(0,.map (yU zW (tm d))),(1,.box [.mp 0]),(2,.box [.cl 68 [] [.bx 1 0]])] (I (idxR p nx l 0 s).1) ((λs:Unit=>[(0,.map (yU zW (tm d))),(1,.box [.mp 0]),(2,.box [.cl 68 [] [.bx 1 0]])]) (idxR p nx l 0 s).2):=by
 refine gO T Tryz.func115 λC hC=>?_;have hs0:=hs;refine wJ 0 rfl λhl=>?_;rw[uk]at hl
 repeat' first|refine gG ?_|refine gB ?_ ?_<;>intro h
 rw[uk]
 refine zn (λq:Nat×Unit=>q.1<=l.length/\inv q.2/\idxR p nx (l.drop q.1) q.1 q.2=idxR p nx l 0 s) (λq=>(λs:Unit=>([(0,pS (.sl 2 (l.map zS))),(1,.one (.cl f [] [.bx 2 0])),(7,I l.length),(8,I q.1)],[(0,some (.map (yU zW (tm d)))),(1,some (.box [.mp 0])),(2,some (.box [.cl 68 [] [.bx 1 0]]))])) q.2) (λq=>l.length - q.1) hC
  (0,s) ⟨uz _,hs,rfl⟩ id gM ?_
 generalize idxR p nx l 0 s=res;clear hs hs0;rintro⟨i,s⟩ ⟨hi,hv,J⟩;simp only at hi hv J;refine zq T hC true 200 rfl ?_;refine zt rfl ?_ ?_<;>intro hh
 ·have hlt:i<l.length:=by simpa using hh
  clear hh;obtain⟨x,hx⟩:=zd hlt;rw[drop_at hx]at J;simp only[idxR]at J;have hv2:=(hf x (List.mem_of_getElem? hx) s hv).2
  repeat' first|refine gG ?_|refine gB ?_ ?_<;>intro h|refine gI T (zl hx) ?_|refine zu hC (hf x (List.mem_of_getElem? hx) s hv).1 id rfl rfl (zH.refl _) rfl rfl rfl rfl rfl rfl rfl rfl ?_|refine zo ?_
  ·rw[uv uf]at J;subst J;exact gE
  ·have U:p x s=false:=by assumption
   rw[U]at J;simp only[uy,uL]at J;rw[wrap64 ua];exact zg (i+1,nx x s) ⟨by simp only;omega,hv2 U,J⟩ id (by simp only;omega) gM
 ·have hge: ¬i<l.length:=by simpa using hh
  rw[uA ua]at J;simp only[idxR]at J;subst J
  repeat' first|refine gG ?_|refine gB ?_ ?_<;>intro h|refine ze ?_
  exact gE
theorem zk8(f:FuncId)(d:zj)(l:List yn)(p:yn->Unit->Bool)(nx:yn->Unit->Unit)(inv:Unit->Prop)
 (hf: ∀x∈l,∀s:Unit,inv s->zh Tryz.prog f [zF (zS x),.one (.bx 2 0)] [(0,.map (yU zW (tm d))),(1,.box [.mp 0]),(2,.box [.cl 68 [] [.bx 1 0]])] (.bq (p x s)) ((λs:Unit=>[(0,.map (yU zW (tm d))),(1,.box [.mp 0]),(2,.box [.cl 68 [] [.bx 1 0]])]) (nx x s))/\(p x s=false->inv (nx x s))) (s:Unit) (J:inv s):
 zh Tryz.prog 72 [pS (.sl 2 (l.map zS)),.one (.cl f [] [.bx 2 0])] [(0,.map (yU zW (tm d))),(1,.box [.mp 0]),(2,.box [.cl 68 [] [.bx 1 0]])] (.bq (anyR p nx l s).1) ((λs:Unit=>[(0,.map (yU zW (tm d))),(1,.box [.mp 0]),(2,.box [.cl 68 [] [.bx 1 0]])]) (anyR p nx l s).2):=by
 refine gO T Tryz.func72 λC hC=>?_
 repeat' first|refine gG ?_|refine gB ?_ ?_<;>intro h|refine gR (zk7 f d l p nx inv hf s J) (nm [0,1,2]) ?_
 exact zi ⟨.inl rfl,id,_,rfl,.qq (zbb p nx l 0 s),by rw[<-zbc p nx l 0 s];exact⟨rfl,rfl,rfl,uh⟩,rfl,rfl⟩
end Hw.Gm.Ps
