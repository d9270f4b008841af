import Derived.Test.YtolghpfockkldaaGreatDoorC2
import Derived.Test.YtolghpfockkldaaGreatDoorC1
import Derived.Sort.Grow
import Derived.Test.YtolghpfockkldaaGreatDoorC3
import Derived.Test.YtolghpfockkldaaGreatDoorProg
import Derived.KernelRfl
import Derived.Shelf.Strconv.Itoa0
import Derived.Shelf.Bits.Mul64
import Derived.Deep.AppendSrc
set_option linter.defProp false
set_option linter.unusedVariables false
set_option linter.unusedSimpArgs false
set_option linter.unusedSectionVars false
set_option linter.unnecessarySimpa false
namespace Hw
open Go
variable {P:Program}{rows:List (List PC)}
section
variable {d:Option Nat} {ty:TypeId} {ps:String} {af:Array Edge} {g:Option (Nat×Bool)} {x y z:Operand} {t:TypeId}
def zt2{M:Mem}{ρ:Nat->Value}{w:World}{id e:Nat}{ids:List Nat}{l h:Nat}{a:Option Addr}{cap:Nat}(hr:zF M ρ w id (.vw ids e rows))(hv:ρ id= .slice a rows.length cap)(h1:l<=h)(h2:h<=rows.length):
 RepV M ρ (.sv id (l*e) (h - l)) (sliced a l h cap e):=by
 obtain⟨a',cap',J,e2,e3,_,e4⟩:=hr;rw[hv]at J;simp only[Value.slice.injEq]at J;obtain⟨rfl,_,rfl⟩:=J;simp only[RepV];by_cases U:cap=l
 ·left;exact⟨ua,a,cap - l,by simp only[sliced,uw U];congr 1;omega⟩
 ·rcases e4 with⟨rfl,rfl⟩|⟨b,o,cs,el,fz,rfl,_⟩
  ·omega
  ·right;exact⟨b,o,_,cap,cap - l,hv,by simp[sliced,ur U,Addr.add],ua,ua⟩
theorem znV.sv{e:Nat}{tx el:TypeId}{id l m:Nat}{ids:List Nat}{rows:List (List PC)}(h:elemSz P tx=some (el,e))(hl:l+m<=rows.length):znV P e tx (.one (.sv id (l*e) m)) [(id,.vw ids e rows)] ((rows.drop l).take m) ids:=by
 intro C st M ρ a w v hH hr ht;obtain⟨_,hu,_,_⟩:=zw h;have U:((rows.drop l).take m).length=m:=by rw[tj,tA];omega
 obtain⟨b,cap,h1,h2,h3,hle,h4⟩:=hH.zH.res id _ ht.1;have J: ∀r∈(rows.drop l).take m,r.length=e:=λr hr=>hle r (List.mem_of_mem_drop (Ur hr))
 simp only[RepS,RepV]at hr;rw[U];rcases hr with⟨rfl,a0,c0,rfl⟩|⟨b0,o0,N,cap0,c0,f1,rfl,f3,f4⟩
 ·refine⟨[],?_,ue,ue⟩;cases a0 with
  |none=>exact Src.ofNil w hu c0
  |some ad=>exact Src.ofSlice w hu ad 0 c0 [] ue ue ue
 ·rcases h4 with⟨rfl,hc⟩|⟨b',o,cs,el',fz,rfl,h6,_,_,h8⟩
  ·simp_all
  ·rw[h1]at f1;simp only[Value.slice.injEq,ui,Addr.mk.injEq]at f1;obtain⟨⟨rfl,rfl,_⟩,_,rfl⟩:=f1;have hfl:=jw J;rw[U]at hfl
   have hat: ∀j x,((rows.drop l).take m).flatten[j]?=some x->rows.flatten[l*e+j]?=some x:=λj x hj=>by
    obtain⟨i,c,row,g1,g2,g3,g4⟩:=zdx J hj;have him:i<m:=by have:=(ux.1 g3).1;omega
    rw[qL,uw him,u9]at g3;have:=v8 hle (i:=l+i) (c:=c) g2;rw[g3,qd]at this;rw[g1,<-qF,this];exact g4
   obtain⟨us,h9,h10⟩:=wy (M:=M) (ρ:=ρ) (vs:=((rows.drop l).take m).flatten.map (toV ids)) (g:=λj=>cs[o+(l*e+j)]?) λj u hj=>by
    grind
   refine⟨us,Src.ofSlice w hu _ _ c0 us (by rw[h9.length,uk,hfl]) (λj u hj=>by rw[ye];have:=h10 j u hj;simp only[<-qF]at this;simp[World.cell?,h6,this]) h9.one,λj p hj=>?_,J⟩;exact xf h9 (m:=j) (by grind)
end
variable {C:Ctx}{Q:Exit->St->Prop}{tab:Tab}
def OpF(id id' id2 j:Nat)(ρ:Nat->Value):Prop:= ∃(cs:List Value) (v:Value),ρ id= .tuple cs.toArray/\cs[j]?=some v/\ρ id2=v/\ρ id'= .tuple (cs.set j (.slice none 0 0)).toArray
theorem OpF.nv{id id' J j i:Nat}(h:i≠j):RwV (OpF id id' J j) (.nv id i) (.nv id' i):=λM ρ x U hr=>by
 obtain⟨cs,v,h1,h2,h3,h4⟩:=U;simp only[RepV]at hr⊢
 grind
theorem OpF.ar{id id' J j:Nat}:RwV (OpF id id' J j) (.nv id j) (.ar J):=λM ρ x U hr=>by
 obtain⟨cs,v,h1,h2,h3,h4⟩:=U;simp only[RepV]at hr⊢
 simp_all
theorem zcH.nv{e q:Nat}{tx el:TypeId}{id:Nat}{L:List (List (List PV))}{rs:List (List PV)}(h:elemSz P tx=some (el,e))(hq:L[q]?=some rs)(hl: ∀r∈rs,r.length=e):zcH P e tx (.one (.nv id q)) [(id,.bag e L)] rs:=by
 intro C st M ρ a w v hH J hT;obtain⟨_,U,_,_⟩:=zw h;simp only[RepS,RepV]at J;obtain⟨xs,f1,f2,_⟩:=J;obtain⟨a',cap,rfl,h2,h3,h4⟩:=zac (hH.zH.res id _ hT.1) hq f1 f2;rcases h4 with⟨rfl,hc⟩|⟨b',o,cs,el',fz,rfl,h6,_,_,h8⟩
 ·have:rs=[]:=tc.1 ua;subst this;exact⟨[],Src.ofNil w U cap,by simp[RepVs],ue⟩
 ·obtain⟨us,g1,g2,g3⟩:=h8.cells (ρ:=ρ);exact⟨us,Src.ofSlice w U _ _ cap us g2 (λj u hj=>by rw[ye];have:=g3 j u hj;simp[World.cell?,h6,this]) g1.one,g1,hl⟩
end Hw
namespace Hw
open Go Go.Proofs
def RbF(id id':Nat)(js:List Nat)(ρ:Nat->Value):Prop:= ∃cs ds:List Value,ρ id= .tuple cs.toArray/\ρ id'= .tuple ds.toArray/\ ∀(i q:Nat),js[i]?=some q->ds[i]?=cs[q]?
theorem RbF.nv{id id' i q:Nat}{js:List Nat}(h:js[i]?=some q):RwV (RbF id id' js) (.nv id q) (.nv id' i):=λM ρ x J U=>by
 obtain⟨cs,ds,h1,h2,h3⟩:=J;simp only[RepV]at U⊢
 simp_all
variable {C:Ctx}{P:Program}{Q:Exit->St->Prop}{tab:Tab}
section
variable {B:RL}
theorem LnV.sv{id e a m:Nat}{rows:List (List PV)}(hm:(id,.arr e rows)∈B)(hle: ∀r∈rows,r.length=e)(ha:a+m<=rows.length):LnV B (.sv id (a*e) m) (.p (.sl e ((rows.drop a).take m))):=λM ρ w u hH hr=>by
 simp only[RepV,RepPV]at hr⊢;have J:((rows.drop a).take m).length=m:=by rw[tj,tA];omega
 rcases hr with⟨rfl,a',c,rfl⟩|⟨b,o,N,cap,c,h1,rfl,h3,h4⟩
 ·simp_all
 ·refine⟨_,c,by rw[J],ua,by rw[J];omega,.inr ⟨b,_,rfl,?_⟩⟩;have hA:v7 M w (ρ id) e rows:=hH.2 id _ hm;obtain⟨av,cap',U,g2,g3,g4⟩:=hA;rw[h1]at U;simp only[Value.slice.injEq]at U;rcases g4 with⟨g4,_⟩|⟨b',o',cs,el,fz,g5,g6,_,_,g8⟩
  ·simp_all
  ·rw[g5]at U;simp only[ui,Addr.mk.injEq]at U;obtain⟨⟨rfl,rfl,_⟩,_⟩:=U;have hb: ∃i r,(i,r)∈B/\Bk (ρ i) b:=⟨id,_,hm,by rw[h1];rfl⟩;have:=RowsIn.mono (M':=lentN M ρ w B) w5 (λi c hc=>zaI hH.1 hb g6 i c hc) _ _ g8;exact(this.drop a).take m
end
end Hw
namespace Hw
open Go Go.Proofs Go.Sort
end Hw
namespace Hw
open Go Go.Proofs
variable {cs:List Value}
def zbt:zcv cs↔cs.Pairwise λx y=> ∀b,blk x=some b->blk y≠some b:=by
 rw[List.pairwise_iff_getElem];constructor
 ·intro h i j hi hj hij b U J;exact h i j b _ _ (th hi) (th hj) ua U J
 ·intro h i j b x y hx hy hne U J
  grind
def zcv.sub{ds:List Value}(h:zcv cs)(J:ds.Sublist cs):zcv ds:=zbt.2 ((zbt.1 h).sublist J)
def zcv.cons{v:Value}(h:zcv cs)(hv: ∀c∈cs,∀b,blk c=some b->blk v≠some b):zcv (v::cs):=
 zbt.2 (List.pairwise_cons.2 ⟨λc U b hb J=>hv c U b J hb,zbt.1 h⟩)
end Hw
namespace Hw
open Go
def TkF.arr{id J id' m n:Nat}(h:n=m):RwV (TkF id J id' m) (.ar J) (.nv id' n):=by subst h;exact TkF.ar
variable {C:Ctx}{P:Program}{Q:Exit->St->Prop}{all:Array Oper}{rest:List Oper}{tab:Tab}
variable {af:Array Edge}{d:Option Nat}{g:Option (Nat×Bool)}{ps:String}{t:TypeId}
variable {tys:Array TypeId}
section
variable {ty:TypeId} {x1 x2:Operand}
def zt3{a b c:Int}(U:(if b<a then b else a)=c)(h1:okc x1 (I a))(h2:okc x2 (I b)):
 Snd P ⟨d,.call ⟨.builtin .min,#[x1,x2],tys⟩,ty,ps,af,g⟩ (rq x1 (I a)++rq x2 (I b)) [] [] (I c) []:=
 zk λC st M ρ act w J h _=>by
  rw[za]at h;have e1:=J.k (zt h1 h.1);have e2:=J.k (zt h2 h.2);exact⟨.int .i64 c,by rw[<-U];simp[execOp,resolve,invoke,builtin,Builtin.min_,Builtin.min2,e1,e2],zjW _ _⟩
def zt4{a b c:Int}(U:(if a<b then b else a)=c)(h1:okc x1 (I a))(h2:okc x2 (I b)):
 Snd P ⟨d,.call ⟨.builtin .max,#[x1,x2],tys⟩,ty,ps,af,g⟩ (rq x1 (I a)++rq x2 (I b)) [] [] (I c) []:=
 zk λC st M ρ act w J h _=>by
  rw[za]at h;have e1:=J.k (zt h1 h.1);have e2:=J.k (zt h2 h.2);exact⟨.int .i64 c,by rw[<-U];simp[execOp,resolve,invoke,builtin,Builtin.max_,Builtin.max2,e1,e2],zjW _ _⟩
end
variable {g0:Option (Nat×Bool)}{gs:zd}{md:Mode}{ts:Array TypeId}
section
variable {k:List Frm} {n:Nat} {sl:zd}
def zlg{d:Nat}{x1 x2:Operand}{ty:TypeId}(hC:C.low){a b:Int}(c:Int)
 (J:ev sl x1=some (I a)) (h2:ev sl x2=some (I b)) (U:(if b<a then b else a)=c) (hm:metL all sl g0=some gs) (hd:Nat.blt d n=true)
 (g:Goal P C (.ops all rest (nx md ⟨some d,gs++(rq x1 (I a)++rq x2 (I b)),[],[],I c,[]⟩)) k n ((d,I c)::sl) tab Q):
 Goal P C (.ops all (⟨some d,.call ⟨.builtin .min,#[x1,x2],ts⟩,ty,ps,af,g0⟩::rest) md) k n sl tab Q:=by
 have e1:=zu (st:=⟨n,sl,tab⟩) J;have e2:=zu (st:=⟨n,sl,tab⟩) h2;have:=zj hm (zt3 (P:=P) (ty:=ty) (ps:=ps) (af:=af) (g:=g0) (d:=some d) (tys:=ts) U e1.1 e2.1) (n:=n) (tab:=tab);exact zN (L:=⟨some d,gs++(rq x1 (I a)++rq x2 (I b)),[],[],I c,[]⟩) hC this.1 rfl ⟨by rw[za,za];simp_all,trivial,rfl,hd⟩ g
def vQ{d:Nat}{x1 x2:Operand}{ty:TypeId}(hC:C.low){a b:Int}(c:Int)
 (J:ev sl x1=some (I a)) (h2:ev sl x2=some (I b)) (U:(if a<b then b else a)=c) (hm:metL all sl g0=some gs) (hd:Nat.blt d n=true)
 (g:Goal P C (.ops all rest (nx md ⟨some d,gs++(rq x1 (I a)++rq x2 (I b)),[],[],I c,[]⟩)) k n ((d,I c)::sl) tab Q):
 Goal P C (.ops all (⟨some d,.call ⟨.builtin .max,#[x1,x2],ts⟩,ty,ps,af,g0⟩::rest) md) k n sl tab Q:=by
 have e1:=zu (st:=⟨n,sl,tab⟩) J;have e2:=zu (st:=⟨n,sl,tab⟩) h2;have:=zj hm (zt4 (P:=P) (ty:=ty) (ps:=ps) (af:=af) (g:=g0) (d:=some d) (tys:=ts) U e1.1 e2.1) (n:=n) (tab:=tab);exact zN (L:=⟨some d,gs++(rq x1 (I a)++rq x2 (I b)),[],[],I c,[]⟩) hC this.1 rfl ⟨by rw[za,za];simp_all,trivial,rfl,hd⟩ g
end
variable {M:Mem}{el:TypeId}{i:Int}{rows:List (List PV)}{w:World}{ρ:Nat->Value}
section
variable {ty:TypeId} {x y:Operand} {tx:TypeId}
def zvU(ρ:Nat->Value)(id k e m:Nat)(v:Value):Prop:=(m=0/\ ∃(a:Option Addr) (c:Nat),v= .slice a 0 c)\/ ∃(b o N cap c:Nat),ρ id= .slice (some ⟨b,o,none⟩) N cap/\v= .slice (some ⟨b,o+k*e,none⟩) m c
def zvV(e:Nat)(s:S)(rt:RL)(n:Nat)(rows2:List (List PV)):Prop:=
 ∀(C:Ctx) (st:St) (M:Mem) (ρ:Nat->Value) (a:Act) (w:World) (v:Value),Holds C st M ρ a w->RepS M ρ s v->okT rt st->
  rows2.length=n/\ ∃(ad:Option Addr) (cap:Nat),v= .slice ad n cap/\(n=0\/ ∃(b o:Nat) (gg:Nat->Option Value),ad=some ⟨b,o,none⟩/\(∀i c,gg i=some c->w.cell? ⟨b,i,none⟩=some c)/\RowsIn M gg e rows2 o)
theorem zvV.sl{e:Nat}{rows:List (List PV)}:zvV e (.one (.p (.sl e rows))) [] rows.length rows:=λC st M ρ a w v U J _=>by
 simp only[RepS,RepV,RepPV]at J;obtain⟨ad,cap,h1,_,_,h4⟩:=J;refine⟨rfl,ad,cap,h1,?_⟩;rcases h4 with h4|⟨b,o,h5,h6⟩
 ·simp_all
 ·exact .inr ⟨b,o,M b,h5,λi c hi=>U.run.imm b i c hi,h6⟩
theorem zvV.sv{id e n:Nat}{rows:List (List PV)}(hn:n<=rows.length):zvV e (.one (.sv id 0 n)) [(id,.arr e rows)] n (rows.take n):=λC st M ρ a w v hH hr ht=>by
 simp only[RepS,RepV]at hr;refine⟨by simp_all,?_⟩;rcases hr with⟨h0,ad,c,h1⟩|⟨b,o,N,cap,c,h1,h2,_,_⟩
 ·simp_all
 ·refine⟨_,c,h2,?_⟩;obtain⟨ad,cap',h3,h4,h5,J⟩:=hH.zH.res id _ ht.1;rw[h1]at h3;simp only[Value.slice.injEq]at h3;rcases J with⟨J,_⟩|⟨b',o',cs,el,fz,J,h7,_,_,h8⟩
  ·omega
  ·rw[J]at h3;have U:b=b'/\o=o':=by have:=h3.1;simp at this;exact this
   obtain⟨rfl,rfl⟩:=U;exact .inr ⟨b,o+0,λi=>cs[i]?,rfl,λi c hi=>by simp only[World.cell?,h7];simpa using hi,by rw[qj];exact h8.take n⟩
theorem zvU.ar{C:Ctx}{st:St}{M:Mem}{ρ:Nat->Value}{a:Act}{w:World}(U:Holds C st M ρ a w){id e:Nat}{rows:List (List PV)}{v:Value}(hT:tg st.tab id=some (.arr e rows))(h:RepS M ρ (.one (.ar id)) v):zvU ρ id 0 e rows.length v:=by
 simp only[RepS,RepV]at h;obtain⟨ad,cap,h3,h4,h5,J⟩:=U.zH.res id _ hT;rcases J with⟨J,h7⟩|⟨b,o,cs,el,fz,J,_⟩
 ·exact .inl ⟨ua,ad,cap,by simp_all⟩
 ·exact .inr ⟨b,o,rows.length,cap,cap,by rw[h3,J],by simp_all⟩
theorem zvU.sv{M:Mem}{ρ:Nat->Value}{id k e m:Nat}{v:Value}(h:RepS M ρ (.one (.sv id (k*e) m)) v):zvU ρ id k e m v:=by
 simp only[RepS,RepV]at h;rcases h with⟨U,ad,c,J⟩|⟨b,o,N,cap,c,J,h2,_,_⟩
 ·exact .inl ⟨U,ad,c,J⟩
 ·exact .inr ⟨b,o,N,cap,c,J,h2⟩
def zlh{id e:Nat}{l h:Nat}{a:Option Addr}{cap:Nat}(J:zF M ρ w id (.arr e rows))(hv:ρ id= .slice a rows.length cap)(U:l<=h)(h2:h<=rows.length):
 RepV M ρ (.sv id (l*e) (h - l)) (sliced a l h cap e):=
 zt2 (J.ztP []) (by simp_all) U (by simp_all)
def zxt{z:Operand}{id e:Nat}{j:Int}{k':IntKind}(hx:okc x (.one (.ar id)))(hz:okc z (Kk k' j))(he:elemSz P t=some (el,e))(h0:0<=j)(h2:j<=rows.length):
 Snd P ⟨d,.slice t x none (some z) none,ty,ps,af,g⟩ (rq x (.one (.ar id))++rq z (Kk k' j)) [(id,.arr e rows)] [] (.one (.sv id 0 j.toNat)) []:=
 zk λC st M ρ b w J U hT=>by
  rw[za]at U;have e1:=J.evS (zt hx U.1);have e3:=J.k (zt hz U.2);simp only[RepS,RepV]at e1;have hR:=J.zH.res id _ hT.1;obtain⟨a,cap,f1,f2,f3,_⟩:=J.zH.res id _ hT.1;obtain⟨hu,hsz⟩:=zaE he;have:=zlh hR f1 (uE j.toNat) ua;rw[Uw,Nat.sub_zero]at this;refine⟨sliced a 0 j.toNat cap e,?_,by simp only[RepS];exact this⟩;simp only[execOp,e1.1,f1,e3,tV,uH,Sem.run_bind,run_sliceAt_slice w t _ _ _ _ hu,run_slice_h w t a rows.length cap hu k' j h0 ua,hsz,Result.andThen_ok,Sem.run_pure]
def zt5{id e:Nat}{k:IntKind}(hx:okc x (.one (.ar id)))(hy:okc y (Kk k i))(he:elemSz P t=some (el,e))(h0:0<=i)(h2:i<=rows.length):
 Snd P ⟨d,.slice t x (some y) none none,ty,ps,af,g⟩ (rq x (.one (.ar id))++rq y (Kk k i)) [(id,.arr e rows)] [] (.one (.sv id (i.toNat*e) (rows.length - i.toNat))) []:=
 zk λC st M ρ b w J U hT=>by
  rw[za]at U;have e1:=J.evS (zt hx U.1);have e2:=J.k (zt hy U.2);simp only[RepS,RepV]at e1;have hR:=J.zH.res id _ hT.1;obtain⟨a,cap,f1,f2,f3,_⟩:=J.zH.res id _ hT.1;obtain⟨hu,hsz⟩:=zaE he;refine⟨sliced a i.toNat rows.length cap e,?_,by simp only[RepS];exact zlh hR f1 ua (uJ _)⟩;simp only[execOp,e1.1,f1,e2,tV,uH,Sem.run_bind,run_sliceAt_slice w t _ _ _ _ hu,run_slice_l w t a rows.length cap hu k i h0 ua,hsz,Result.andThen_ok,Sem.run_pure]
end
section
variable {k:List Frm} {n:Nat} {sl:zd}
def zt6(T:Ty P){d:Nat}{x y:Operand}{ty:TypeId}(hC:C.low){id e:Nat}{k0:IntKind}
 (J:ev sl x=some (.one (.ar id))) (U:ev sl y=some (Kk k0 i)) (hT:tg tab id=some (.arr e rows)) (he:T.es t=some (el,e)) (h0:0<=i) (h2:i<=rows.length) (hm:metL all sl g0=some gs) (hd:Nat.blt d n=true)
 (g:Goal P C (.ops all rest (nx md ⟨some d,gs++(rq x (.one (.ar id))++rq y (Kk k0 i)),[(id,.arr e rows)],[],.one (.sv id (i.toNat*e) (rows.length - i.toNat)),[]⟩)) k n ((d,.one (.sv id (i.toNat*e) (rows.length - i.toNat)))::sl) tab Q):
 Goal P C (.ops all (⟨some d,.slice t x (some y) none none,ty,ps,af,g0⟩::rest) md) k n sl tab Q:=by
 have e1:=zu (st:=⟨n,sl,tab⟩) J;have e2:=zu (st:=⟨n,sl,tab⟩) U;have:=zj hm (zt5 (P:=P) (ty:=ty) (ps:=ps) (af:=af) (g:=g0) (d:=some d) (rows:=rows) e1.1 e2.1 (T.es_ok _ _ he) h0 h2) (n:=n) (tab:=tab);exact zN (L:=⟨some d,gs++(rq x (.one (.ar id))++rq y (Kk k0 i)),[(id,.arr e rows)],[],.one (.sv id (i.toNat*e) (rows.length - i.toNat)),[]⟩) hC this.1 rfl ⟨by rw[za,za];simp_all,⟨hT,uh⟩,rfl,hd⟩ g
end
end Hw
namespace Hw.Gm
open Go Go.Proofs Hw.M Ps
def zpY{s:S}{l:List S}:zI (s::l) (.un::l):=zI.cons (λ_ _ _ _=>by simp only[RepS]) (zI.refl _)
def zli(d:zg)(fuel:Int)(m:Mc)(h:m.ticks≥fuel):zU Tryz.prog 273 [.one (.bx 0 0)] (mcR d fuel m 1 2 3 4) (znD 20) (mcR d fuel m 1 2 3 4):=by
 have hf:=vB 20;have ht:=h;refine zR T Tryz.func273 ud rfl rfl rfl λC hC=>?_
 repeat' first|refine gG ?_|(exfalso;have h2:=uo h;omega)|refine gB ?_ ?_<;>intro h|(refine zo hC hf id rfl rfl zpY rfl rfl rfl rfl rfl rfl ?_)
 exact gU (zi ⟨rfl,id,⟨rfl,rfl,rfl,rfl,rfl,uh⟩,rfl,rfl⟩)
def zlj(d:zg)(fuel:Int)(m:Mc)(h: ¬m.ticks≥fuel)(h0:0<=m.ticks/\m.ticks<1099511627776):zf Tryz.prog 273 [.one (.bx 0 0)] (mcR d fuel m 1 2 3 4) (.tup []) (mcR d fuel { m with ticks:=m.ticks+1 } 1 2 3 4):=by
 have ht:=h;refine gO T Tryz.func273 λC hC=>?_
 repeat' first|refine gG ?_|(exfalso;have h2:=uj h;omega)|refine gB ?_ ?_<;>intro h
 rw[wrap64 ua];exact zi ⟨.inr rfl,id,_,rfl,.refl _,⟨rfl,rfl,rfl,rfl,rfl,uh⟩,rfl,rfl⟩
def zlk(n:Int)(h:inB n):zf Tryz.prog 298 [I n] [] (I (wW n)) []:=by
 unfold inB at h;have J:IntKind.i64.wrap (0 - n)= -n:=by rw[wrap64 ua];omega
 have U:(if n< -n then -n else n)=wW n:=by unfold wW;split<;>split<;>omega
 refine gO T Tryz.func298 λC hC=>?_
 repeat' first|refine gG ?_|refine gB ?_ ?_<;>intro h|refine zdi hC rfl rfl rfl ?_|(rw[J];refine vQ hC (wW n) rfl rfl U rfl rfl ?_)
 exact gF
def zrp(n:Int)(h: ¬(n>1099511627776\/n< -1099511627776)):zf Tryz.prog 287 [.un,I n] [] (I n) []:=by
 have h0:=h;refine gO T Tryz.func287 λC hC=>?_
 repeat' first|refine gG ?_|(exfalso;have h2:=uj h;omega)|refine gB ?_ ?_<;>intro h
 exact gF
def zt7(n:Int)(h:n>1099511627776\/n< -1099511627776):zU Tryz.prog 287 [.un,I n] [] (znD 5) []:=by
 have h0:=h;have hf:=vB 5;refine zR T Tryz.func287 ud rfl rfl rfl λC hC=>?_
 repeat' first|refine gG ?_|refine gB ?_ ?_<;>intro h|(refine zo hC hf id rfl rfl (zI.refl _) rfl rfl rfl rfl rfl rfl ?_)
 all_goals first
  |exact gU (zi ⟨rfl,id,trivial,rfl,rfl⟩)
  |(exfalso;simp only[uq,uu]at *; omega)
def zt8{a b:Int}(h: ¬a=0/\wW b>Int.tdiv 1099511627776 (wW a)->False): -1099511627776<=a*b/\a*b<=1099511627776:=by
 by_cases h0:a=0
 ·subst h0;simp
 ·have hA:0<wW a:=by unfold wW;split<;>omega
  have hB:0<=wW b:=by unfold wW;split<;>omega
  have h1:wW b<=Int.tdiv 1099511627776 (wW a):=Int.not_lt.1 λhh=>h ⟨h0,hh⟩
  have h2:wW b*wW a<=1099511627776:=by
   rw[Int.tdiv_eq_ediv_of_nonneg ub]at h1;exact Int.le_trans (Int.mul_le_mul_of_nonneg_right h1 (Int.le_of_lt hA)) (Int.ediv_mul_le _ ua)
  have h3:wW b*wW a=wW (a*b):=by
   unfold wW;by_cases U:a<0
   ·by_cases J:b<0
    ·rw[uw U,uw J,ur (by have:=Int.mul_pos_of_neg_of_neg U J;omega),Int.neg_mul_neg,Ug]
    ·rw[uw U,ur J];by_cases hz:b=0
     ·subst hz;simp
     ·rw[uw (Int.mul_neg_of_neg_of_pos U ua),Int.mul_neg,Ug]
   ·by_cases J:b<0
    ·rw[ur U,uw J,uw (Int.mul_neg_of_pos_of_neg ua J),Int.neg_mul,Ug]
    ·rw[ur U,ur J,ur (by have:=Int.mul_nonneg (show 0<=a by omega) (show 0<=b by omega);omega),Ug]
  rw[h3]at h2;unfold wW at h2;split at h2<;>omega
def zh1(a b:Int): -wW a<=a.tdiv b/\a.tdiv b<=wW a:=by
 have h1:=Int.natAbs_tdiv_le_natAbs a b;unfold wW;split<;>omega
def zh2{c:Int}(_h:c≠0):IntKind.i64.wrap (Int.tdiv 1099511627776 c)=Int.tdiv 1099511627776 c:=wrap64 (by
 have:=zh1 1099511627776 c
 simp only[wW]at this;omega)
def zok{a:Int}(h:inB a)(b:Int):IntKind.i64.wrap (Int.tdiv a b)=Int.tdiv a b:=wrap64 (by
 have:=zh1 a b;unfold inB at h;unfold wW at this
 split at this<;>omega)
def anE:An Int->End
 | .ok v _=> .ok (I v) []
 | .flt e _=> .pn (znD e) []
 | .out=> .no
def zt9(m:Mc)(op a b:Int)(ha:inB a)(hb:inB b):FnX Tryz.prog 290 [.un,I op,I a,I b] [] (anE (znz m op a b)):=by
 have ha0:=ha;have hb0:=hb;unfold inB at ha0 hb0;unfold znz;by_cases h9:op=9
 ·subst h9;rw[uw rfl];unfold vM;have J:IntKind.i64.wrap (a+b)=a+b:=wrap64 ua;split
  ·rename_i h;have hp:=zt7 (IntKind.i64.wrap (a+b)) (by rw[J];exact h);show zU _ _ _ _ _ _;refine zR T Tryz.func290 ud rfl rfl rfl λC hC=>?_
   repeat' first|refine gG ?_|exact gD|refine gB ?_ ?_<;>intro h|(refine zo hC hp id rfl rfl (zI.refl _) rfl rfl rfl rfl rfl rfl ?_)
   exact gU (zi ⟨rfl,id,trivial,rfl,rfl⟩)
  ·rename_i h;have hp:=zrp (IntKind.i64.wrap (a+b)) (by rw[J];exact h);show zf _ _ _ _ _ _;refine gO T Tryz.func290 λC hC=>?_
   repeat' first|refine gG ?_|exact gD|refine gB ?_ ?_<;>intro h|refine gC hp ?_
   rw[J];exact gF
 rw[ur h9];by_cases h10:op=10
 ·subst h10;rw[uw rfl];unfold vM;have J:IntKind.i64.wrap (a - b)=a - b:=wrap64 ua;split
  ·rename_i h;have hp:=zt7 (IntKind.i64.wrap (a - b)) (by rw[J];exact h);show zU _ _ _ _ _ _;refine zR T Tryz.func290 ud rfl rfl rfl λC hC=>?_
   repeat' first|refine gG ?_|exact gD|refine gB ?_ ?_<;>intro h|(refine zo hC hp id rfl rfl (zI.refl _) rfl rfl rfl rfl rfl rfl ?_)
   exact gU (zi ⟨rfl,id,trivial,rfl,rfl⟩)
  ·rename_i h;have hp:=zrp (IntKind.i64.wrap (a - b)) (by rw[J];exact h);show zf _ _ _ _ _ _;refine gO T Tryz.func290 λC hC=>?_
   repeat' first|refine gG ?_|exact gD|refine gB ?_ ?_<;>intro h|refine gC hp ?_
   rw[J];exact gF
 rw[ur h10];by_cases h11:op=11
 ·subst h11;rw[uw rfl];have hsa:=zlk a ha;have hsb:=zlk b hb;have hf:=vB 5;split
  ·rename_i h;have U:=h;have hz:wW a≠0:=by unfold wW;split<;>omega
   have hq:=zh2 hz;show zU _ _ _ _ _ _;refine zR T Tryz.func290 ud rfl rfl rfl λC hC=>?_
   repeat' first|refine gG ?_|exact gD|(exfalso;have h2:=uo h;omega)|(exfalso;simp only[ou,qA,uq]at h;exact U.1 h)|refine gB ?_ ?_<;>intro h|refine gC hsa ?_|refine gC hsb ?_|(refine zew hC rfl rfl hz rfl rfl ?_;rw[hq])|(refine zo hC hf id rfl rfl (zI.refl _) rfl rfl rfl rfl rfl rfl ?_)
   all_goals first
    |exact gU (zi ⟨rfl,id,trivial,rfl,rfl⟩)
    |skip
  ·rename_i h;have U:=h;have J:IntKind.i64.wrap (a*b)=a*b:=wrap64 (by have:=zt8 (a:=a) (b:=b) (λhh=>U hh);omega);show zf _ _ _ _ _ _;by_cases hz0:a=0
   ·subst hz0;refine gO T Tryz.func290 λC hC=>?_
    repeat' first|refine gG ?_|exact gD|refine gB ?_ ?_<;>intro h
    rw[J];exact gF
   ·have hz:wW a≠0:=by unfold wW;split<;>omega
    have hq:=zh2 hz;have hle: ¬wW b>Int.tdiv 1099511627776 (wW a):=λhh=>U ⟨hz0,hh⟩
    refine gO T Tryz.func290 λC hC=>?_
    repeat' first|refine gG ?_|exact gD|(exfalso;exact hle (uj h))|(exfalso;simp only[ou,qA,uq]at h;exact hz0 h)|refine gB ?_ ?_<;>intro h|refine gC hsa ?_|refine gC hsb ?_|(refine zew hC rfl rfl hz rfl rfl ?_;rw[hq])
    rw[J];exact gF
 rw[ur h11];by_cases h12:op=12
 ·subst h12;rw[uw rfl];have hf:=vB 18;split
  ·rename_i h;subst h;show zU _ _ _ _ _ _;refine zR T Tryz.func290 ud rfl rfl rfl λC hC=>?_
   repeat' first|refine gG ?_|exact gD|refine gB ?_ ?_<;>intro h|(refine zo hC hf id rfl rfl (zI.refl _) rfl rfl rfl rfl rfl rfl ?_)
   exact gU (zi ⟨rfl,id,trivial,rfl,rfl⟩)
  ·rename_i h;have U:=h;have hq:=zok ha b;show zf _ _ _ _ _ _;refine gO T Tryz.func290 λC hC=>?_
   repeat' first|refine gG ?_|exact gD|(exfalso;exact U (uj h))|refine gB ?_ ?_<;>intro h|(refine zew hC rfl rfl U rfl rfl ?_;rw[hq])
   exact gF
 rw[ur h12];by_cases h13:op=13
 ·subst h13;rw[uw rfl];have hf:=vB 18;split
  ·rename_i h;subst h;show zU _ _ _ _ _ _;refine zR T Tryz.func290 ud rfl rfl rfl λC hC=>?_
   repeat' first|refine gG ?_|exact gD|refine gB ?_ ?_<;>intro h|(refine zo hC hf id rfl rfl (zI.refl _) rfl rfl rfl rfl rfl rfl ?_)
   exact gU (zi ⟨rfl,id,trivial,rfl,rfl⟩)
  ·rename_i h;have U:=h;show zf _ _ _ _ _ _;refine gO T Tryz.func290 λC hC=>?_
   repeat' first|refine gG ?_|exact gD|(exfalso;exact U (uj h))|refine gB ?_ ?_<;>intro h|(refine zfY hC rfl rfl U rfl rfl ?_)
   exact gF
 rw[ur h13];by_cases h22:op=22
 ·subst h22;rw[uw rfl];show zf _ _ _ _ _ _;refine gO T Tryz.func290 λC hC=>?_
  repeat' first|refine gG ?_|exact gD|refine gB ?_ ?_<;>intro h|(refine vQ hC (if a<b then b else a) rfl rfl rfl rfl rfl ?_)
  exact gF
 rw[ur h22];show zf _ _ _ _ _ _;refine gO T Tryz.func290 λC hC=>?_
 repeat' first|refine gG ?_|(exfalso;first|exact h9 (uj h)|exact h10 (uj h)|exact h11 (uj h)|exact h12 (uj h)|exact h13 (uj h)|exact h22 (uj h))|refine gB ?_ ?_<;>intro h|(refine zlg hC (if b<a then b else a) rfl rfl rfl rfl rfl ?_)
 exact gF
variable {x:Nd}
theorem wT{l:List Nd}{k b:Nat}(U:l[k]?=some x): ∀(j:Nat) (v:V),([.p (ki x.t)]:List V)[j]?=some v-> ∃p,(wRows l 0).flatten[k*2+j]?=some p/\toV [b] p=v:=by
 have hr:(wRows l 0)[k]?=some [PC.p (ki x.t),PC.n 0 k]:=by rw[xS,U,uH,tM]
 intro j v J
 match j,J with
 |0,J=>
  simp only[List.getElem?_cons_zero,ui]at J;subst J;exact⟨.p (ki x.t),by rw[v8 (wJ l 0) ua,hr];rfl,rfl⟩
 |j+1,J=>simp at J
theorem wF{l:List Nd}{k b:Nat}(U:l[k]?=some x): ∀(j:Nat) (v:V),([.nv b k]:List V)[j]?=some v-> ∃p,(wRows l 0).flatten[k*2+1+j]?=some p/\toV [b] p=v:=by
 have hr:(wRows l 0)[k]?=some [PC.p (ki x.t),PC.n 0 k]:=by rw[xS,U,uH,tM]
 intro j v J
 match j,J with
 |0,J=>
  simp only[List.getElem?_cons_zero,ui]at J;subst J;exact⟨.n 0 k,by rw[qj,v8 (wJ l 0) ua,hr];rfl,rfl⟩
 |j+1,J=>simp at J
variable {y:z7}
def zol(d:zg)(fuel:Int)(m:Mc){v:Int}(hv:0<v)(hx:m.ns[(v - 1).toNat]?=some x)(ht:0<=x.t)(hy:d.types[x.t.toNat]?=some y)(s:Str):
 zf Tryz.prog 277 [.one (.bx 0 0),I v,Sr s] (mcR d fuel m 1 2 3 4) (I (idxI (ixF y.f s))) (mcR d fuel m 1 2 3 4):=by
 have hI:=zdI y.f s;have hlt:(v - 1).toNat<m.ns.length:=(ux.1 hx).1;have J:=yq m.ns 0;refine gO T Tryz.func277 λC hC=>?_;refine zro 2 rfl rfl λhl=>?_;have U:IntKind.i64.wrap (v - 1)=v - 1:=wrap64 ua
 repeat' first|refine gG ?_|refine gB ?_ ?_<;>intro h|(rw[U];refine zki T hC rfl rfl rfl rfl ua (by rw[J];omega) rfl rfl ?_)|(refine zf9 T hC [.p (ki x.t)] rfl rfl rfl (wT hx) rfl rfl rfl ?_)|refine xX T hC rfl rfl rfl ht (yV hy) rfl rfl ?_|refine gC hI ?_
 exact gE
def yJ{l:List Ex}{x:Ex}(h:l[1]?=some x):(l.map xt)[(1:Int).toNat]?=some (yp x):=wh (i:=1) h
def zdJ{l:List Ex}{x:Ex}(h:l[2]?=some x):(l.map xt)[(2:Int).toNat]?=some (yp x):=wh (i:=2) h
abbrev frR(fr:Fr):RL:=[(5,.box [.p (zC fr.vs),.ar 6]),(6,.arr 1 (fr.va.map z8))]
variable {i:Nat}
def xx{l:List Fld}{s:Str}(h:ixF l s=some i):zf Tryz.prog 275 [pS (zC l),Sr s] [] (I i) []:=by
 have J:=zdI l s;rw[h]at J;exact J
def w6{l:List Fld}{s:Str}(h:ixF l s=none):zf Tryz.prog 275 [pS (zC l),Sr s] [] (I (-1)) []:=by
 have J:=zdI l s;rw[h]at J;exact J
variable {d:zg}
def zh3(fuel:Int)(m:Mc){s:Str}(h:zq0 d s=some i):zf Tryz.prog 286 [.one (.bx 0 0),Sr s] (mcR d fuel m 1 2 3 4) (I i) (mcR d fuel m 1 2 3 4):=by
 have J:=zlf d fuel m s;rw[h]at J;exact J
def zh4{s:Str}(h:zaZ d s=some i):zf Tryz.prog 230 [zr (zA d),Sr s] [] (I i) []:=by
 have J:=zb8 d s;rw[h]at J;exact J
theorem zua(d:zg)(vs:List Fld)(e:Ex):tyO d vs e=if e.op=4 then(match ixF vs e.s with
 |some i=>(vs[i]?).map (·.t)
 |none=>(ixF d.globals e.s).bind λi=>(d.globals[i]?).map (·.t))
 else if e.op=5 then(match e.l with
  |x::_=>(tyO d vs x).bind λt=>(zq0 d t).bind λi=>(d.types[i]?).bind λy=>(ixF y.f e.s).bind λj=>(y.f[j]?).map (·.t)
  | []=>none)
 else if e.op=6 then some e.s
 else if e.op=7 then(zaZ d e.s).bind λi=>(d.procs[i]?).map (·.res)
 else if e.op=21 then(match e.l with
  |_::y::z::_=>(tyO d vs y).bind λt=>if t=(⟨#[110,105,108]⟩:UB)then tyO d vs z else some t
  |_=>none)
 else if e.op=3 then some (⟨#[110,105,108]⟩:UB)
 else if e.op=2\/e.op=18\/e.op=19\/e.op=20\/e.op=14\/e.op=15\/e.op=16\/e.op=17 then some (⟨#[98,111,111,108]⟩:UB)
 else some (⟨#[105,110,116]⟩:UB):=by
 cases e
 conv=>lhs;unfold tyO
 rfl
theorem zub(d:zg)(fuel:Int)(m:Mc)(fr:Fr): ∀(n:Nat) (e:Ex) (t:Str),sizeOf e<n->tyO d fr.vs e=some t->
 zf Tryz.prog 288 [.one (.bx 0 0),.one (.bx 5 0),zr (yp e)] (mcR d fuel m 1 2 3 4++frR fr) (Sr t) (mcR d fuel m 1 2 3 4++frR fr):=by
 intro n
 induction n with
 |zero=>intro e t h;omega
 |succ n ih=>
 intro e t hn h;rw[zua]at h
 have hsz: ∀x∈e.l,sizeOf x<n:=λx hx=>by
  have:=qx hx;cases e;simp only[Ex.mk.sizeOf_spec,Ex.l]at hn this;omega
 by_cases h4:e.op=4
 ·have J:=h4;rw[uw h4]at h;cases hv:ixF fr.vs e.s with
  |some i=>
   rw[hv]at h;obtain⟨f,hf,rfl⟩:=uR.1 h;have hI:=xx hv;refine gO T Tryz.func288 λC hC=>?_
   repeat' first|refine gG ?_|(exfalso;first|(have U:=uj h;omega)|(have U:=uo h;omega))|refine gB ?_ ?_<;>intro h|refine gC hI ?_|(refine gI T (zq hf) ?_)
   exact gE
  |none=>
   rw[hv]at h;obtain⟨i,hi,h⟩:=tB.1 h;obtain⟨f,hf,rfl⟩:=uR.1 h;have hI:=w6 hv;have hJ:=xx hi;refine gO T Tryz.func288 λC hC=>?_
   repeat' first|refine gG ?_|(exfalso;first|(have U:=uj h;omega)|(have U:=uo h;omega))|refine gB ?_ ?_<;>intro h|refine gC hI ?_|refine gC hJ ?_|(refine gI T (zq hf) ?_)
   exact gE
 rw[ur h4]at h;by_cases h5:e.op=5
 ·have J:=h5;rw[uw h5]at h;cases hl:e.l with
  |nil=>rw[hl]at h;cases h
  |cons x r=>
   rw[hl]at h hsz;simp only at h;have hx0:e.l[0]?=some x:=by rw[hl];rfl
   obtain⟨t1,h1,h⟩:=tB.1 h;obtain⟨i,hi,h⟩:=tB.1 h;obtain⟨y,hy,h⟩:=tB.1 h;obtain⟨j,hj,h⟩:=tB.1 h;obtain⟨f,hf,rfl⟩:=uR.1 h;have hX:=ih x t1 (hsz x ue) h1;have hI:=zh3 fuel m hi;have hJ:=xx hj;refine gO T Tryz.func288 λC hC=>?_
   repeat' first|refine gG ?_|(exfalso;first|(have U:=uj h;omega)|(have U:=uo h;omega))|refine gB ?_ ?_<;>intro h|(refine gI T (zD hx0) ?_)|refine gK hX (nm [0,1,2,3,4,5,6]) ?_|refine gK hI (nm [0,1,2,3,4]) ?_|refine gC hJ ?_|(refine gI T (zq hy) ?_)|(refine gI T (zq hf) ?_)
   exact gE
 rw[ur h5]at h;by_cases h6:e.op=6
 ·have J:=h6;rw[uw h6]at h;obtain rfl:=uY h;refine gO T Tryz.func288 λC hC=>?_
  repeat' first|refine gG ?_|(exfalso;first|(have U:=uj h;omega)|(have U:=uo h;omega))|refine gB ?_ ?_<;>intro h
  exact gE
 rw[ur h6]at h;by_cases h7:e.op=7
 ·have J:=h7;rw[uw h7]at h;obtain⟨i,hi,h⟩:=tB.1 h;obtain⟨p,hp,rfl⟩:=uR.1 h;have hI:=zh4 hi;refine gO T Tryz.func288 λC hC=>?_
  repeat' first|refine gG ?_|(exfalso;first|(have U:=uj h;omega)|(have U:=uo h;omega))|refine gB ?_ ?_<;>intro h|refine gC hI ?_|(refine gI T (zq hp) ?_)
  exact gE
 rw[ur h7]at h;by_cases h21:e.op=21
 ·have J:=h21;rw[uw h21]at h
  obtain⟨y,hy1,h⟩: ∃y,e.l[1]?=some y/\ ∃z,e.l[2]?=some z/\y∈e.l/\z∈e.l/\((tyO d fr.vs y).bind λt=>if t=(⟨#[110,105,108]⟩:UB)then tyO d fr.vs z else some t)=some t:=by
   generalize e.l=l at h
   match l,h with
   |w::y::z::r,h=>exact⟨y,rfl,z,rfl,ue,ue,h⟩
  obtain⟨z,hz2,hym,hzm,h⟩:=h
  ·skip
   obtain⟨t1,h1,h⟩:=tB.1 h;have hY:=ih y t1 (hsz y hym) h1;by_cases hnl:t1=(⟨#[110,105,108]⟩:UB)
   ·rw[uw hnl]at h;subst hnl;have hZ:=ih z t (hsz z hzm) h;refine gO T Tryz.func288 λC hC=>?_
    repeat' first|refine gG ?_|(exfalso;first|(have U:=uj h;omega)|(have U:=uo h;omega))|exact gD|refine gB ?_ ?_<;>intro h|(refine gI T (yJ hy1) ?_)|(refine gI T (zdJ hz2) ?_)|refine gK hY (nm [0,1,2,3,4,5,6]) ?_|refine gK hZ (nm [0,1,2,3,4,5,6]) ?_
    exact gE
   ·rw[ur hnl]at h;obtain rfl:=uY h;refine gO T Tryz.func288 λC hC=>?_
    repeat' first|refine gG ?_|(exfalso;first|(have U:=uj h;omega)|(have U:=uo h;omega))|(exfalso;simp only[ou,qA,qm,uq,uu,Decidable.not_not]at h;exact hnl h)|refine gB ?_ ?_<;>intro h|(refine gI T (yJ hy1) ?_)|refine gK hY (nm [0,1,2,3,4,5,6]) ?_
    exact gE
 rw[ur h21]at h;by_cases h3:e.op=3
 ·have J:=h3;rw[uw h3]at h;obtain rfl:=uY h;refine gO T Tryz.func288 λC hC=>?_
  repeat' first|refine gG ?_|(exfalso;first|(have U:=uj h;omega)|(have U:=uo h;omega))|refine gB ?_ ?_<;>intro h
  exact gE
 rw[ur h3]at h;by_cases hb:e.op=2\/e.op=18\/e.op=19\/e.op=20\/e.op=14\/e.op=15\/e.op=16\/e.op=17
 ·rw[uw hb]at h;obtain rfl:=uY h;rcases hb with J|J|J|J|J|J|J|J
  all_goals
   clear h3 h4 h5 h6 h7 h21;refine gO T Tryz.func288 λC hC=>?_
   repeat' first|refine gG ?_|(exfalso;first|(have U:=uj h;omega)|(have U:=uo h;omega))|refine gB ?_ ?_<;>intro h
   exact gE
 ·rw[ur hb]at h;obtain rfl:=uY h;refine gO T Tryz.func288 λC hC=>?_
  repeat' first|refine gG ?_|(exfalso;have U:=uj h;first|exact h4 U|exact h5 U|exact h6 U|exact h7 U|exact h21 U|exact h3 U|exact hb ua)|refine gB ?_ ?_<;>intro h
  all_goals first
   |exact gE
def exE(d:zg)(fuel:Int)(fr:Fr):An Int->End
 | .ok v m=> .ok (I v) (mcR d fuel m 1 7 8 9++frR fr)
 | .flt e m=> .pn (znD e) (mcR d fuel m 1 7 8 9)
 | .out=> .no
def Mc.acd(m:Mc)(k n f:Int):Mc:={ m with acc:=m.acc++[(k,n,f)] }
variable {m:Mc}{β:Type}
def zb9{k n f:Int}{c:Mc->An β}:zct m k n f c= .out\/(m.acc.length<1099511627776/\zct m k n f c=c (m.acd k n f)):=by
 unfold zct ifA;by_cases h:m.acc.length<1099511627776
 ·rw[uw h];exact .inr ⟨h,rfl⟩
 ·rw[ur h];exact .inl rfl
theorem w7{α:Type}{l:List α}{f:α->An β}:atA l i f= .out\/ ∃x,l[i]?=some x/\atA l i f=f x:=by
 unfold atA;cases h:l[i]? with
 |none=>exact .inl rfl
 |some x=>exact .inr ⟨x,rfl,rfl⟩
theorem zc0{α:Type}{o:Option α}{f:α->An β}:opA o f= .out\/ ∃x,o=some x/\opA o f=f x:=by
 unfold opA;cases o with
 |none=>exact .inl rfl
 |some x=>exact .inr ⟨x,rfl,rfl⟩
def wo{p:Prop}[Decidable p]{x:An β}:ifA p x= .out\/(p/\ifA p x=x):=by
 unfold ifA;by_cases h:p
 ·rw[uw h];exact .inr ⟨h,rfl⟩
 ·rw[ur h];exact .inl rfl
def zpZ{v:Int}{s:Str}{c:Nd->Nat->An β}:fdA d v s m c= .out\/
 ∃x y i,(0<v/\v<=1000000)/\m.ns[(v - 1).toNat]?=some x/\0<=x.t/\d.types[x.t.toNat]?=some y/\ixF y.f s=some i/\fdA d v s m c=c x i:=by
 unfold fdA;rcases wo (p:=0<v/\v<=1000000) (x:=atA m.ns (v - 1).toNat λx=>ifA (0<=x.t) (atA d.types x.t.toNat λy=>opA (ixF y.f s) λi=>c x i))with h|⟨J,h⟩
 ·exact .inl h
 rw[h];rcases w7 (l:=m.ns) (i:=(v - 1).toNat) (f:=λx=>ifA (0<=x.t) (atA d.types x.t.toNat λy=>opA (ixF y.f s) λi=>c x i))with h|⟨x,h2,h⟩
 ·exact .inl h
 rw[h];rcases wo (p:=0<=x.t) (x:=atA d.types x.t.toNat λy=>opA (ixF y.f s) λi=>c x i)with h|⟨h3,h⟩
 ·exact .inl h
 rw[h];rcases w7 (l:=d.types) (i:=x.t.toNat) (f:=λy=>opA (ixF y.f s) λi=>c x i)with h|⟨y,h4,h⟩
 ·exact .inl h
 rw[h];rcases zc0 (o:=ixF y.f s) (f:=λi=>c x i)with h|⟨i,U,h⟩
 ·exact .inl h
 exact .inr ⟨x,y,i,J,h2,h3,h4,U,h⟩
variable {fuel:Int}
def zp0{v:Int}{s:Str}(hv:0<v)(J:m.ns[(v - 1).toNat]?=some x)(U:0<=x.t)(hy:d.types[x.t.toNat]?=some y)(hi:ixF y.f s=some i):
 zf Tryz.prog 277 [.one (.bx 0 0),I v,Sr s] (mcR d fuel m 1 2 3 4) (I i) (mcR d fuel m 1 2 3 4):=by
 have h:=zol d fuel m hv J U hy s;rw[hi]at h;exact h
theorem zuc{l:List Int}{u:Int}(h:l[i]?=some u): ∀(j:Nat) (p:PV),([ki u]:List PV)[j]?=some p->(l.map z8).flatten[i*1+j]?=some p:=λj p J=>by
 match j,J with
 |0,J=>
  simp only[List.getElem?_cons_zero,ui]at J;subst J;rw[v8 (zdy l) ua,uK,h];rfl
 |j+1,J=>simp at J
def zud{fr:Fr}{e x:Ex}{m1:Mc}{v:Int}(hop:e.op=5)(hx:e.l[0]?=some x)(hX:zf Tryz.prog 274 [.one (.bx 0 0),.one (.bx 5 0),zr (yp x)] (mcR d fuel m 1 2 3 4++frR fr) (I v) (mcR d fuel m1 1 7 8 9++frR fr)):
 FnX Tryz.prog 274 [.one (.bx 0 0),.one (.bx 5 0),zr (yp e)] (mcR d fuel m 1 2 3 4++frR fr) (exE d fuel fr (fdV d v e.s m1)):=by
 unfold fdV;by_cases J:v=0
 ·rw[uw J];subst J;have hf:=vB 17;show zU _ _ _ _ _ _;refine zR T Tryz.func274 ud rfl rfl rfl λC hC=>?_
  repeat' first|refine gG ?_|(exfalso;first|(have J:=uj h;omega)|(have J:=uo h;omega))|exact gD|refine gB ?_ ?_<;>intro h|(refine gI T (zD hx) ?_)|refine gR hX (nm [0,1,2,3,4,5,6,107,108,109]) ?_|(refine zo hC hf id rfl rfl zpY rfl rfl rfl rfl rfl rfl ?_)
  exact gU (zi ⟨rfl,nm [0,1,2,3,4,5,6,107,108,109],⟨rfl,rfl,rfl,rfl,rfl,uh⟩,rfl,rfl⟩)
 rw[ur J];rcases zpZ (d:=d) (v:=v) (s:=e.s) (m:=m1) (c:=λx i=>atA x.f i λu=>zct m1 1 v i λm=> .ok u m)with h|⟨y,t,i,h1,h2,h3,h4,h5,h⟩
 ·rw[h];trivial
 rw[h];rcases w7 (l:=y.f) (i:=i) (f:=λu=>zct m1 1 v i λm=>(.ok u m:An Int))with h|⟨u,h6,h⟩
 ·rw[h];trivial
 rw[h];rcases zb9 (m:=m1) (k:=1) (n:=v) (f:=i) (c:=λm=>(.ok u m:An Int))with h|⟨h7,h⟩
 ·rw[h];trivial
 rw[h];show zf _ _ _ _ _ _;have hF:=zp0 (fuel:=fuel) h1.1 h2 h3 h4 h5;have hA:=jf d fuel m1 1 v i h7;have hlt:(v - 1).toNat<m1.ns.length:=(ux.1 h2).1;have hwl:=yq m1.ns 0;have U:IntKind.i64.wrap (v - 1)=v - 1:=wrap64 ua;have hil:i<y.f.length:=(ux.1 h6).1;refine gO T Tryz.func274 λC hC=>?_
 repeat' first|refine gG ?_|(exfalso;first|(have J:=uj h;omega)|(have J:=uo h;omega))|refine gB ?_ ?_<;>intro h|(refine gI T (zD hx) ?_)|refine gR hX (nm [0,1,2,3,4,5,6,107,108,109]) ?_|refine gK hF (nm [0,1,107,108,109]) ?_|refine gR hA (nm [0,1,107,108,109,5,6,7,8,119]) ?_|(refine zki T hC rfl rfl rfl rfl (by rw[U];omega) (by rw[U,hwl];omega) rfl rfl ?_;rw[U])|(refine zf9 T hC [.nv 108 (v - 1).toNat] rfl rfl rfl (wF h2) rfl rfl rfl ?_)|(refine zpM T hC rfl rfl rfl (zbM h2) rfl (uD _) (by rw[uk];omega) rfl rfl ?_)|(refine zq4 T hC [ki u] rfl rfl (zbM h2) rfl (zuc h6) rfl rfl rfl ?_)
 exact gW [0,1,2,3,4,5,6,107,108,119]
theorem zue{fr:Fr}{e:Ex}(hop:e.op=4):
 FnX Tryz.prog 274 [.one (.bx 0 0),.one (.bx 5 0),zr (yp e)] (mcR d fuel m 1 2 3 4++frR fr) (exE d fuel fr (nmV d fr e.s m)):=by
 unfold nmV;cases hi:ixF fr.vs e.s with
 |some i=>
  have J:=xx hi;rcases w7 (l:=fr.va) (i:=i) (f:=λv=>(.ok v m:An Int))with h|⟨v,hv,h⟩
  ·simp only[h];trivial
  simp only[h];have U:i<fr.va.length:=(ux.1 hv).1;show zf _ _ _ _ _ _;refine gO T Tryz.func274 λC hC=>?_
  repeat' first|refine gG ?_|(exfalso;first|(have h0:=uj h;omega)|(have h0:=uo h;omega))|refine gB ?_ ?_<;>intro h|refine gC J ?_|(refine jH T hC (rows:=fr.va.map z8) rfl rfl rfl rfl (uD _) (by rw[uk];omega) rfl rfl ?_)|(refine jg T hC i 0 (rows:=fr.va.map z8) (row:=z8 v) rfl rfl rfl rfl (by rw[uK,hv];rfl) rfl rfl rfl ?_)
  exact gW [0,1,2,3,4,5,6,2,3,4]
 |none=>
  have J:=w6 hi;simp only;rcases zc0 (o:=ixF d.globals e.s) (f:=λi=>atA m.g i λv=>zct m 1 0 i λm=>(.ok v m:An Int))with h|⟨i,hj,h⟩
  ·rw[h];trivial
  rw[h];rcases w7 (l:=m.g) (i:=i) (f:=λv=>zct m 1 0 i λm=>(.ok v m:An Int))with h|⟨v,hv,h⟩
  ·rw[h];trivial
  rw[h];rcases zb9 (m:=m) (k:=1) (n:=0) (f:=i) (c:=λm=>(.ok v m:An Int))with h|⟨h7,h⟩
  ·rw[h];trivial
  rw[h];have hJ:=xx hj;have hA:=jf d fuel m 1 0 i h7;have U:i<m.g.length:=(ux.1 hv).1;show zf _ _ _ _ _ _;refine gO T Tryz.func274 λC hC=>?_
  repeat' first|refine gG ?_|(exfalso;first|(have h0:=uj h;omega)|(have h0:=uo h;omega))|refine gB ?_ ?_<;>intro h|refine gC J ?_|refine gC hJ ?_|refine gR hA (nm [0,1,2,3,4,5,6,7,8,119]) ?_|(refine jH T hC (rows:=m.g.map z8) rfl rfl rfl rfl (uD _) (by rw[uk];omega) rfl rfl ?_)|(refine jg T hC i 0 (rows:=m.g.map z8) (row:=z8 v) rfl rfl rfl rfl (by rw[uK,hv];rfl) rfl rfl rfl ?_)
  exact gW [0,1,2,3,4,5,6,2,3,119]
set_option maxRecDepth 100000 in
def zuf{fr:Fr}{e:Ex}(hop:e.op=6):
 FnX Tryz.prog 274 [.one (.bx 0 0),.one (.bx 5 0),zr (yp e)] (mcR d fuel m 1 2 3 4++frR fr) (exE d fuel fr (nwV d e.s m)):=by
 have J:=yq m.ns 0;unfold nwV;by_cases h0:(m.ns.length:Int)≥4096
 ·rw[uw h0];have hf:=vB 21;show zU _ _ _ _ _ _;refine zR T Tryz.func274 ud rfl rfl rfl λC hC=>?_
  repeat' first|refine gG ?_|(exfalso;first|(have h0:=uj h;omega)|(have h0:=uo h;omega))|(exfalso;have h1:=uo h;rw[J]at h1;omega)|refine gB ?_ ?_<;>intro h|(refine zkj T hC rfl rfl rfl rfl rfl ?_)|(refine zo hC hf id rfl rfl zpY rfl rfl rfl rfl rfl rfl ?_)
  exact gU (zi ⟨rfl,nm [0,1,2,3,4,5,6,2,3,4],⟨rfl,rfl,rfl,rfl,rfl,uh⟩,rfl,rfl⟩)
 rw[ur h0]
 rcases zc0 (o:=zq0 d e.s) (f:=λt=>atA d.types t λy=>ifA (y.f.length<=1000000)
  (zct { m with ns:=m.ns++[⟨(t:Nat),List.replicate y.f.length 0⟩] } 3 (m.ns.length+1:Nat) (t:Nat) λm1=>(.ok (m.ns.length+1:Nat) m1:An Int)))with h|⟨t,ht,h⟩
 ·rw[h];trivial
 rw[h]
 rcases w7 (l:=d.types) (i:=t) (f:=λy=>ifA (y.f.length<=1000000)
  (zct { m with ns:=m.ns++[⟨(t:Nat),List.replicate y.f.length 0⟩] } 3 (m.ns.length+1:Nat) (t:Nat) λm1=>(.ok (m.ns.length+1:Nat) m1:An Int)))with h|⟨y,hy,h⟩
 ·rw[h];trivial
 rw[h];rcases wo (p:=y.f.length<=1000000) (x:=zct { m with ns:=m.ns++[⟨(t:Nat),List.replicate y.f.length 0⟩] } 3 (m.ns.length+1:Nat) (t:Nat) λm1=>(.ok (m.ns.length+1:Nat) m1:An Int))with h|⟨hyl,h⟩
 ·rw[h];trivial
 rw[h];generalize hm2:({ m with ns:=m.ns++[⟨(t:Nat),List.replicate y.f.length 0⟩] }:Mc)=m2;rcases zb9 (m:=m2) (k:=3) (n:=(m.ns.length+1:Nat)) (f:=(t:Nat)) (c:=λm1=>(.ok (m.ns.length+1:Nat) m1:An Int))with h|⟨h7,h⟩
 ·rw[h];trivial
 rw[h];have hI:=zh3 fuel m ht;have hA:=jf d fuel m2 3 (m.ns.length+1:Nat) (t:Nat) h7;have hj:=zgc m.ns (t:Nat) 3 1127;have U:m2.ns=m.ns++[⟨(t:Nat),List.replicate y.f.length 0⟩]:=by rw[<-hm2]
 have hbt:jR m.ns++[List.replicate y.f.length [ki 0]]=jR m2.ns:=by rw[U];exact zko _ _ _
 have htk:=zgd m.ns ⟨(t:Nat),List.replicate y.f.length 0⟩ 3 1127 121;rw[<-U,<-zdz]at htk;have h1l:((wRows m.ns 0++[[PC.p (ki (t:Nat)),PC.a 1]]).length:Int)=(m.ns.length+1:Nat):=by rw[uP,J];rfl
 have h2l:((wRows m2.ns 0).length:Int)=(m.ns.length+1:Nat):=by rw[yq,U,uP];rfl
 have hw2:(wRows m2.ns 0).length=m.ns.length+1:=by rw[yq,U,uP];rfl
 clear h U;subst hm2;show zf _ _ _ _ _ _;refine gO T Tryz.func274 λC hC=>?_
 repeat' first|refine gG ?_|(exfalso;first|(have h0:=uj h;omega)|(have h0:=uo h;omega))|(exfalso;have h1:=uj h;rw[J]at h1;omega)|refine gB ?_ ?_<;>intro h|(refine zkj T hC rfl rfl rfl rfl rfl ?_)|refine gK hI (nm [0,1,2,3,4]) ?_|(refine gI T (zq hy) ?_)|(rw[uk];refine zxM T hC (row:=[ki 0]) y.f.length rfl rfl rfl rfl rfl rfl rfl rfl hyl rfl rfl rfl ?_)|(refine zkk T hC [PC.p (ki (t:Nat)),PC.a 0] [1127] rfl rfl rfl rfl rfl rfl rfl rfl rfl rfl rfl rfl ?_)|(refine zbK T 120 hC (id:=2) (rows:=wRows m.ns 0) (rows2:=[[PC.p (ki (t:Nat)),PC.a 0]]) (ids:=[3]) (ids2:=[1127]) [3,1127] (wRows m.ns 0++[[PC.p (ki (t:Nat)),PC.a 1]]) (bytes:=32) rfl rfl rfl rfl (znV.vw (T.es_ok _ _ rfl)) rfl hj.1 hj.2.1 hj.2.2.1 hj.2.2.2 rfl rfl rfl ud (by rw[J,uU];omega) (by rw[J,uU];omega) rfl rfl rfl ?_)
 rw[h1l];refine zkg hC rfl 3 1127 121 rfl rfl rfl rfl [] uh [(120,.vw [121] 2 (wRows (m.ns++[⟨(t:Nat),List.replicate y.f.length 0⟩]) 0))] ⟨⟨_,rfl,rfl,htk⟩,uh⟩ ?_;rw[hbt]
 repeat' first|refine gG ?_|refine gB ?_ ?_<;>intro h|refine gR hA (nm [0,1,120,121,4,5,6,7,8,129]) ?_|(refine zkj T hC rfl rfl rfl rfl rfl ?_)
 exact zi ⟨.inl rfl,nm [0,1,2,3,4,5,6,120,121,129],_,rfl,LeS.of (u5 (λk:Nat=>I (k:Int)) hw2),⟨rfl,rfl,rfl,rfl,rfl,rfl,rfl,uh⟩,rfl,rfl⟩
end Hw.Gm
namespace Hw.Gm
open Go Go.Proofs Go.Shelf
def zgD:Go.Shelf.Ren:=⟨λ|129=>203|n=>n,λ|53=>314|3=>3|4=>4|46=>259|5=>5|9=>9|n=>n,λ|n=>n⟩
def zrq:Go.Proofs.Lays.n129 Tryz.prog zgD where
 mixed:=by kernel_rfl
 f129:=Tryz.func203.trans (u5 some ud)
 t3:=Tryz.underlying3
 a3:=Tryz.isAgg3
 z3:=Tryz.sizeOf3
 v3:=Tryz.zeroValue3
 t4:=Tryz.underlying4
 a4:=Tryz.isAgg4
 z4:=Tryz.sizeOf4
 v4:=Tryz.zeroValue4
 t5:=Tryz.underlying5
 a5:=Tryz.isAgg5
 z5:=Tryz.sizeOf5
 v5:=Tryz.zeroValue5
 t9:=Tryz.underlying9
 a9:=Tryz.isAgg9
 z9:=Tryz.sizeOf9
 v9:=Tryz.zeroValue9
 t46:=Tryz.underlying259
 a46:=Tryz.isAgg259
 z46:=Tryz.sizeOf259
 v46:=Tryz.zeroValue259
 t53:=Tryz.underlying314
 a53:=Tryz.isAgg314
 z53:=Tryz.sizeOf314
 v53:=Tryz.zeroValue314
end Hw.Gm
namespace Hw.Gm
open Go Go.Proofs Go.Shelf Hw.M Ps
abbrev u64(n:Int):S:= .one (.p (.k (.int .u64 n)))
def zom(u:Nat)(h:u<18446744073709551616):zf Tryz.prog 203 [u64 u] [] (I (Lib.bitLen u)) []:=
 znH (⟨_,Tryz.func203,ud,ud⟩) (λw=>(Any.bits_Len64 zrq (u:Int) w ua ua).mono λe w' ⟨J,h2⟩=>⟨by simpa using J,h2⟩) rfl
def zll(u:Nat)(h:u<18446744073709551616):zf Tryz.prog 143 [u64 u] [] (I (Lib.bitLen u)) []:=by
 have J:=zom u h;refine gO T Tryz.func143 λC hC=>?_
 repeat' first|refine gG ?_|exact gD|refine gB ?_ ?_<;>intro h|refine gC J ?_
 exact gF
theorem zao: ∀(f x:Nat),0<x->x<2 ^ f->Lib.bitLenAux f x=Nat.log2 x+1
 |0,x,h0,h=>by simp only[Nat.pow_zero]at h;omega
 |f+1,x,h0,h=>by
  simp only[Lib.bitLenAux];rw[ur ua,Nat.log2_def];by_cases h2:2<=x
  ·rw[uw h2,zao f (x / 2) ua (by rw[Nat.pow_succ]at h;omega)];omega
  ·have J:x=1:=by omega
   subst J;rw[ur h2];cases f<;>simp[Lib.bitLenAux]
def zaQ{x:Nat}(J:0<x)(h:x<18446744073709551616):Lib.bitLen x=Nat.log2 x+1:=zao 64 x J h
def wE(d:zg)(fuel:Int)(fr:Fr)(e:Ex)(m:Mc)(a:An Int):Prop:=
 FnX Tryz.prog 274 [.one (.bx 0 0),.one (.bx 5 0),zr (yp e)] (mcR d fuel m 1 2 3 4++frR fr) (exE d fuel fr a)
variable {d:zg}{fuel:Int}{m:Mc}
def zug{fr:Fr}{e:Ex}(J:e.op=1\/e.op=2):wE d fuel fr e m (.ok e.n m):=by
 show zf _ _ _ _ _ _;rcases J with J|J
 all_goals
  refine gO T Tryz.func274 λC hC=>?_
  repeat' first|refine gG ?_|(exfalso;first|(have U:=uj h;omega)|(have U:=uo h;omega))|refine gB ?_ ?_<;>intro h
  exact gW [0,1,2,3,4,5,6,2,3,4]
def zuh{fr:Fr}{e:Ex}(hop:e.op=3):wE d fuel fr e m (.ok 0 m):=by
 show zf _ _ _ _ _ _;refine gO T Tryz.func274 λC hC=>?_
 repeat' first|refine gG ?_|(exfalso;first|(have J:=uj h;omega)|(have J:=uo h;omega))|refine gB ?_ ?_<;>intro h
 exact gW [0,1,2,3,4,5,6,2,3,4]
theorem zui{fr:Fr}{e:Ex}{a:An Int}(hop:e.op=7)(J:FnX Tryz.prog 278 [.one (.bx 0 0),.one (.bx 5 0),zr (yp e)] (mcR d fuel m 1 2 3 4++frR fr) (exE d fuel fr a)):wE d fuel fr e m a:=by
 cases a with
 |ok v m1=>
  have J:zf _ _ _ _ _ _:=J;show zf _ _ _ _ _ _;refine gO T Tryz.func274 λC hC=>?_
  repeat' first|refine gG ?_|(exfalso;first|(have U:=uj h;omega)|(have U:=uo h;omega))|refine gB ?_ ?_<;>intro h|refine gR J (nm [0,1,2,3,4,5,6,107,108,109]) ?_
  exact gW [0,1,2,3,4,5,6,107,108,109]
 |flt er m1=>
  have J:zU _ _ _ _ _ _:=J;show zU _ _ _ _ _ _;refine zR T Tryz.func274 ud rfl rfl rfl λC hC=>?_
  repeat' first|refine gG ?_|(exfalso;first|(have U:=uj h;omega)|(have U:=uo h;omega))|refine gB ?_ ?_<;>intro h|(refine zo hC J (nm [0,1,2,3,4,5,6,107,108,109]) rfl rfl (zI.refl _) rfl rfl rfl rfl rfl rfl ?_)
  exact gU (zi ⟨rfl,nm [0,1,2,3,4,5,6,107,108,109],⟨rfl,rfl,rfl,rfl,rfl,uh⟩,rfl,rfl⟩)
 |out=>trivial
def zp1{fr:Fr}{e x:Ex}{m1:Mc}{er:Int}(hop: ¬(e.op=1\/e.op=2\/e.op=3\/e.op=4\/e.op=6\/e.op=7))(U:e.l[0]?=some x)(J:wE d fuel fr x m (.flt er m1)):wE d fuel fr e m (.flt er m1):=by
 have J:zU _ _ _ _ _ _:=J;show zU _ _ _ _ _ _;refine zR T Tryz.func274 ud rfl rfl rfl λC hC=>?_
 repeat' first|refine gG ?_|(exfalso;have h0:=uj h;omega)|refine gB ?_ ?_<;>intro h|(refine gI T (zD U) ?_)|(refine zo hC J (nm [0,1,2,3,4,5,6,107,108,109]) rfl rfl (zI.refl _) rfl rfl rfl rfl rfl rfl ?_)
 all_goals exact gU (zi ⟨rfl,nm [0,1,2,3,4,5,6,107,108,109],⟨rfl,rfl,rfl,rfl,rfl,uh⟩,rfl,rfl⟩)
def zuj{fr:Fr}{e x:Ex}{m1:Mc}{v:Int}(hop:e.op=8)(hx:e.l[0]?=some x)(J:wE d fuel fr x m (.ok v m1)):wE d fuel fr e m (ifA (inB v) (vM m1 (-v))):=by
 have J:zf _ _ _ _ _ _:=J;rcases wo (p:=inB v) (x:=vM m1 (-v))with h|⟨hb,h⟩
 ·rw[h];trivial
 rw[h];have U:=hb;unfold inB at U;have hw:IntKind.i64.wrap (0 - v)= -v:=by rw[wrap64 ua];omega
 unfold vM;rw[ur ua];have hp:=zrp (IntKind.i64.wrap (0 - v)) (by rw[hw];omega);show zf _ _ _ _ _ _;refine gO T Tryz.func274 λC hC=>?_
 repeat' first|refine gG ?_|(exfalso;first|(have h0:=uj h;omega)|(have h0:=uo h;omega))|refine gB ?_ ?_<;>intro h|(refine gI T (zD hx) ?_)|refine gR J (nm [0,1,2,3,4,5,6,107,108,109]) ?_|(refine zdi hC rfl rfl rfl ?_)|(refine vg hC hp rfl rfl zpY rfl rfl rfl ?_)
 rw[hw];exact gW [0,1,2,3,4,5,6,107,108,109]
def zrr{fr:Fr}{e x:Ex}{m1:Mc}{v:Int}(hop:e.op=18)(U:e.l[0]?=some x)(J:wE d fuel fr x m (.ok v m1)):wE d fuel fr e m (ifA (inB v) (.ok (1 - v) m1)):=by
 have J:zf _ _ _ _ _ _:=J;rcases wo (p:=inB v) (x:=An.ok (1 - v) m1)with h|⟨hb,h⟩
 ·rw[h];trivial
 rw[h];unfold inB at hb;have hw:IntKind.i64.wrap (1 - v)=1 - v:=wrap64 ua;show zf _ _ _ _ _ _;refine gO T Tryz.func274 λC hC=>?_
 repeat' first|refine gG ?_|(exfalso;first|(have h0:=uj h;omega)|(have h0:=uo h;omega))|refine gB ?_ ?_<;>intro h|(refine gI T (zD U) ?_)|refine gR J (nm [0,1,2,3,4,5,6,107,108,109]) ?_
 refine zi ⟨.inl rfl,nm [0,1,2,3,4,5,6,107,108,109],_,rfl,LeS.of (u5 (λk:Int=>I k) hw),⟨rfl,rfl,rfl,rfl,rfl,rfl,rfl,uh⟩,rfl,rfl⟩
def zrs{fr:Fr}{e x:Ex}{m1:Mc}{v:Int}(hop:e.op=24)(hx:e.l[0]?=some x)(J:wE d fuel fr x m (.ok v m1)):wE d fuel fr e m (ifA (inB v) (.ok (ztc v) m1)):=by
 have J:zf _ _ _ _ _ _:=J;rcases wo (p:=inB v) (x:=An.ok (ztc v) m1)with h|⟨hb,h⟩
 ·rw[h];trivial
 rw[h];unfold inB at hb;obtain⟨u,U⟩: ∃u:Nat,u=(if v<1 then 1 else v.toNat):=⟨_,rfl⟩;have hu1:0<u/\u<=1099511627776:=by rw[U];split<;>omega
 have hm:(if(1:Int)<v then v else 1)=u:=by rw[U];split<;>split<;>omega
 have hL:=zll u ua;rw[zaQ hu1.1 ua]at hL;have hl:Nat.log2 u<41:=(oC ua).2 (by rw[show(2:Nat) ^ 41=2199023255552 from rfl];omega)
 have hwu:IntKind.u64.wrap (u:Int)=u:=by
  have hq:IntKind.u64.wrap (u:Int)=(u:Int) % 18446744073709551616:=by simp[IntKind.wrap,IntKind.bits,IntKind.signed]
  rw[hq];omega
 have hw:IntKind.i64.wrap (((Nat.log2 u+1:Nat):Int) - 1)=ztc v:=by
  rw[wrap64 ua];unfold ztc;rw[<-U];omega
 show zf _ _ _ _ _ _;refine gO T Tryz.func274 λC hC=>?_
 repeat' first|refine gG ?_|(exfalso;first|(have h0:=uj h;omega)|(have h0:=uo h;omega))|refine gB ?_ ?_<;>intro h|(refine gI T (zD hx) ?_)|refine gR J (nm [0,1,2,3,4,5,6,107,108,109]) ?_|(refine vQ hC (u:Int) rfl rfl hm rfl rfl ?_)|(rw[hwu];refine gC hL ?_)
 exact zi ⟨.inl rfl,nm [0,1,2,3,4,5,6,107,108,109],_,rfl,LeS.of (u5 (λk:Int=>I k) hw),⟨rfl,rfl,rfl,rfl,rfl,rfl,rfl,uh⟩,rfl,rfl⟩
end Hw.Gm
namespace Hw.Gm
open Go Go.Proofs Go.Shelf
def zgE:Go.Shelf.Ren:=⟨λ|264=>245|n=>n,λ|53=>314|46=>259|n=>n,λ|n=>n⟩
def zrt:Go.Proofs.Lays.n264 Tryz.prog zgE where
 mixed:=by kernel_rfl
 f264:=Tryz.func245.trans (u5 some ud)
 t46:=Tryz.underlying259
 a46:=Tryz.isAgg259
 z46:=Tryz.sizeOf259
 v46:=Tryz.zeroValue259
 t53:=Tryz.underlying314
 a53:=Tryz.isAgg314
 z53:=Tryz.sizeOf314
 v53:=Tryz.zeroValue314
end Hw.Gm
namespace Hw.Gm
open Go Go.Proofs Go.Shelf Hw.M Ps
abbrev flI(e:Int):Value:= .iface 251 (.agg #[.int .i64 e])
def pE:Bn->End
 | .ok v _=> .ok (I v) []
 | .flt e _=> .pn (flI e) []
 | .out=> .no
def zh5(n:Int)(k:Kn):FnX Tryz.prog 142 [I n] [] (pE (bdI n k)):=by
 unfold bdI;by_cases J:n< -1099511627776\/1099511627776<n
 ·rw[uw J];show zU _ _ _ _ _ _;refine zR T Tryz.func142 ud rfl rfl rfl λC hC=>?_
  repeat' first|refine gG ?_|refine gB ?_ ?_<;>intro h|(refine zb7 hC [.int .i64 5] rfl ud rfl rfl ?_)|(refine xw hC rfl rfl ?_)
  all_goals first
   |exact gU (zi ⟨rfl,id,trivial,rfl,rfl⟩)
   |exact zi ⟨rfl,id,trivial,rfl,rfl⟩
   |(exfalso;simp only[uq,uu]at *; omega)
 ·rw[ur J];show zf _ _ _ _ _ _;refine gO T Tryz.func142 λC hC=>?_
  repeat' first|refine gG ?_|(exfalso;have h2:=uj h;omega)|refine gB ?_ ?_<;>intro h
  exact gF
def zap(b:Bool):zf Tryz.prog 205 [.bq b] [] (I (zcJ b)) []:=by
 cases b
 ·refine gO T Tryz.func205 λC hC=>?_
  repeat' first|refine gG ?_|exact gD|refine gB ?_ ?_<;>intro h
  all_goals exact gF
 ·refine gO T Tryz.func205 λC hC=>?_
  repeat' first|refine gG ?_|exact gD|refine gB ?_ ?_<;>intro h
  all_goals exact gF
def zon{P:Program}{f:FuncId}{a b v u:Value}(J:jC P f)(h: ∀w:World,Calls P f #[a,b] w λe w'=>e= .returned (.tuple #[v,u])/\w'=w)(U:v.oneCell'=true)(h2:u.oneCell'=true):
 zf P f [.one (.p (.k a)),.one (.p (.k b))] [] (.tup [.one (.p (.k v)),.one (.p (.k u))]) []:=by
 refine⟨J,λM ρ w xs hx _ hI _=>?_⟩;obtain rfl:=zex (av:=[a,b]) hx;refine(h w).mono λe w' ⟨he,hw⟩=>?_;subst hw;refine⟨_,M,ρ,he,by simp only[RepS,RepSs,RepV,RepPV];exact⟨[v,u],rfl,⟨rfl,U⟩,⟨rfl,h2⟩,uh⟩,⟨λ_ _ h=>(by cases h),λ_ _ _ _ _ h=>(by cases h),λ_ _ _ h=>(by cases h)⟩,hI,MLe.refl M,λb o u hu=> .inl hu,λb hb=>?_,λb _ _=>rfl,uJ _,rfl,rfl,rfl,λid hid=>rfl⟩;obtain⟨i,r,h,_⟩:=hb;cases h
def zlm(x y:Nat)(J:x<18446744073709551616)(U:y<18446744073709551616):
 zf Tryz.prog 245 [u64 x,u64 y] [] (.tup [u64 ((x*y / 18446744073709551616:Nat):Int),u64 ((x*y % 18446744073709551616:Nat):Int)]) []:=
 zon (⟨_,Tryz.func245,ud,ud⟩) (λw=>Any.bits_Mul64 zrt x y J U w) rfl rfl
def zfb(a:Int)(h:zke a):zf Tryz.prog 244 [I a] [] (u64 (a.natAbs:Int)) []:=by
 unfold zke at h;have J:IntKind.i64.wrap (0 - a)= -a:=by rw[wrap64 ua];omega
 have U:(if a< -a then -a else a)=(a.natAbs:Int):=by split<;>omega
 have hc:IntKind.u64.wrap (a.natAbs:Int)=(a.natAbs:Int):=by rw[IntKind.wrap_u64];omega
 refine gO T Tryz.func244 λC hC=>?_
 repeat' first|refine gG ?_|refine gB ?_ ?_<;>intro h|refine zdi hC rfl rfl rfl ?_|(rw[J];refine vQ hC (a.natAbs:Int) rfl rfl U rfl rfl ?_)
 rw[hc];exact gF
def zru(a b:Int)(k:Kn):FnX Tryz.prog 204 [I a,I b] [] (pE (znP a b k)):=by
 unfold znP;by_cases h:zke a/\zke b
 ·rw[uw h];have U:=zfb a h.1;have hB:=zfb b h.2;have h1:=h.1;have h2:=h.2;unfold zke at h1 h2;have J:=zlm a.natAbs b.natAbs ua ua;have hp:((a.natAbs*b.natAbs:Nat):Int)=(a*b).natAbs:=by rw[ot]
  generalize hq:a.natAbs*b.natAbs=q at J hp⊢;by_cases h0:q>1099511627776
  ·rw[uw h0];show zU _ _ _ _ _ _;refine zR T Tryz.func204 ud rfl rfl rfl λC hC=>?_
   repeat' first|refine gG ?_|refine gB ?_ ?_<;>intro h|refine gC U ?_|refine gC hB ?_|refine gC J ?_|(refine zb7 hC [.int .i64 5] rfl ud rfl rfl ?_)|(refine xw hC rfl rfl ?_)
   all_goals first
    |exact gU (zi ⟨rfl,id,trivial,rfl,rfl⟩)
    |exact zi ⟨rfl,id,trivial,rfl,rfl⟩
    |(exfalso;simp only[uy,uG,uq,uu]at *; omega)
  ·rw[ur h0];have hw:IntKind.i64.wrap (a*b)=a*b:=by rw[wrap64 ua]
   show zf _ _ _ _ _ _;refine gO T Tryz.func204 λC hC=>?_
   repeat' first|refine gG ?_|(exfalso;simp only[uy,uG,uq,uu]at h;omega)|refine gB ?_ ?_<;>intro h|refine gC U ?_|refine gC hB ?_|refine gC J ?_
   rw[hw];exact gF
 ·rw[ur h];trivial
def zrv(op a b:Int)(k:Kn):FnX Tryz.prog 144 [I op,I a,I b] [] (pE (zjV op a b k)):=by
 have J:=zh5 (IntKind.i64.wrap (a+b)) k;have U:=zh5 (IntKind.i64.wrap (a - b)) k;have hQuo:=zh5 (IntKind.i64.wrap (Int.tdiv a b)) k;have hMul:=zru a b k;have hT1:=zap (decide (a=b));have hT2:=zap (!decide (a=b));have hT3:=zap (decide (a<b));have hT4:=zap (decide (a<=b));unfold zjV;by_cases o9:op=9
 ·subst o9;simp only[Int.reduceEq,uX,uM];cases hr:bdI (IntKind.i64.wrap (a+b)) k with
  |out=>trivial
  |ok v k1=>
   rw[hr]at J;have J:zf _ _ _ _ _ _:=J;show zf _ _ _ _ _ _;refine gO T Tryz.func144 λC hC=>?_
   repeat' first|refine gG ?_|exact gD|refine gB ?_ ?_<;>intro h|refine gC J ?_
   exact gF
  |flt e k1=>
   rw[hr]at J;have J:zU _ _ _ _ _ _:=J;show zU _ _ _ _ _ _;refine zR T Tryz.func144 ud rfl rfl rfl λC hC=>?_
   repeat' first|refine gG ?_|exact gD|refine gB ?_ ?_<;>intro h|(refine zo hC J id rfl rfl (zI.refl _) rfl rfl rfl rfl rfl rfl ?_)
   exact gU (zi ⟨rfl,id,trivial,rfl,rfl⟩)
 by_cases o10:op=10
 ·subst o10;simp only[Int.reduceEq,uX,uM];cases hr:bdI (IntKind.i64.wrap (a - b)) k with
  |out=>trivial
  |ok v k1=>
   rw[hr]at U;have U:zf _ _ _ _ _ _:=U;show zf _ _ _ _ _ _;refine gO T Tryz.func144 λC hC=>?_
   repeat' first|refine gG ?_|exact gD|refine gB ?_ ?_<;>intro h|refine gC U ?_
   exact gF
  |flt e k1=>
   rw[hr]at U;have U:zU _ _ _ _ _ _:=U;show zU _ _ _ _ _ _;refine zR T Tryz.func144 ud rfl rfl rfl λC hC=>?_
   repeat' first|refine gG ?_|exact gD|refine gB ?_ ?_<;>intro h|(refine zo hC U id rfl rfl (zI.refl _) rfl rfl rfl rfl rfl rfl ?_)
   exact gU (zi ⟨rfl,id,trivial,rfl,rfl⟩)
 by_cases o11:op=11
 ·subst o11;simp only[Int.reduceEq,uX,uM];cases hr:znP a b k with
  |out=>trivial
  |ok v k1=>
   rw[hr]at hMul;have hMul:zf _ _ _ _ _ _:=hMul;show zf _ _ _ _ _ _;refine gO T Tryz.func144 λC hC=>?_
   repeat' first|refine gG ?_|exact gD|refine gB ?_ ?_<;>intro h|refine gC hMul ?_
   exact gF
  |flt e k1=>
   rw[hr]at hMul;have hMul:zU _ _ _ _ _ _:=hMul;show zU _ _ _ _ _ _;refine zR T Tryz.func144 ud rfl rfl rfl λC hC=>?_
   repeat' first|refine gG ?_|exact gD|refine gB ?_ ?_<;>intro h|(refine zo hC hMul id rfl rfl (zI.refl _) rfl rfl rfl rfl rfl rfl ?_)
   exact gU (zi ⟨rfl,id,trivial,rfl,rfl⟩)
 by_cases o22:op=22
 ·subst o22;simp only[Int.reduceEq,uX,uM];show zf _ _ _ _ _ _;refine gO T Tryz.func144 λC hC=>?_
  repeat' first|refine gG ?_|exact gD|refine gB ?_ ?_<;>intro h|(refine vQ hC (if a<b then b else a) rfl rfl rfl rfl rfl ?_)
  exact gF
 by_cases o23:op=23
 ·subst o23;simp only[Int.reduceEq,uX,uM];show zf _ _ _ _ _ _;refine gO T Tryz.func144 λC hC=>?_
  repeat' first|refine gG ?_|exact gD|refine gB ?_ ?_<;>intro h|(refine zlg hC (if b<a then b else a) rfl rfl rfl rfl rfl ?_)
  exact gF
 by_cases o14:op=14
 ·subst o14;simp only[Int.reduceEq,uX,uM];show zf _ _ _ _ _ _;refine gO T Tryz.func144 λC hC=>?_
  repeat' first|refine gG ?_|exact gD|refine gB ?_ ?_<;>intro h|refine gC hT1 ?_
  exact gF
 by_cases o15:op=15
 ·subst o15;simp only[Int.reduceEq,uX,uM];show zf _ _ _ _ _ _;refine gO T Tryz.func144 λC hC=>?_
  repeat' first|refine gG ?_|exact gD|refine gB ?_ ?_<;>intro h|refine gC hT2 ?_
  exact gF
 by_cases o16:op=16
 ·subst o16;simp only[Int.reduceEq,uX,uM];show zf _ _ _ _ _ _;refine gO T Tryz.func144 λC hC=>?_
  repeat' first|refine gG ?_|exact gD|refine gB ?_ ?_<;>intro h|refine gC hT3 ?_
  exact gF
 by_cases o17:op=17
 ·subst o17;simp only[Int.reduceEq,uX,uM];show zf _ _ _ _ _ _;refine gO T Tryz.func144 λC hC=>?_
  repeat' first|refine gG ?_|exact gD|refine gB ?_ ?_<;>intro h|refine gC hT4 ?_
  exact gF
 simp only[o9,o10,o11,o22,o23,o14,o15,o16,o17,uM];by_cases hb:b=0
 ·rw[uw hb];show zU _ _ _ _ _ _;refine zR T Tryz.func144 ud rfl rfl rfl λC hC=>?_
  repeat' first|refine gG ?_|(exfalso;have h9:=uj h;omega)|(exfalso;have h9:=uo h;omega)|refine gB ?_ ?_<;>intro h|(refine zb7 hC [.int .i64 18] rfl ud rfl rfl ?_)|(refine xw hC rfl rfl ?_)
  all_goals first
   |exact gU (zi ⟨rfl,id,trivial,rfl,rfl⟩)
   |exact zi ⟨rfl,id,trivial,rfl,rfl⟩
 ·rw[ur hb];by_cases o12:op=12
  ·rw[uw o12];cases hr:bdI (IntKind.i64.wrap (Int.tdiv a b)) k with
   |out=>trivial
   |ok v k1=>
    rw[hr]at hQuo;have hQuo:zf _ _ _ _ _ _:=hQuo;show zf _ _ _ _ _ _;refine gO T Tryz.func144 λC hC=>?_
    repeat' first|refine gG ?_|(exfalso;have h9:=uj h;omega)|(exfalso;have h9:=uo h;omega)|refine gB ?_ ?_<;>intro h|(refine zew hC rfl rfl hb rfl rfl ?_)|refine gC hQuo ?_
    exact gF
   |flt e k1=>
    rw[hr]at hQuo;have hQuo:zU _ _ _ _ _ _:=hQuo;show zU _ _ _ _ _ _;refine zR T Tryz.func144 ud rfl rfl rfl λC hC=>?_
    repeat' first|refine gG ?_|(exfalso;have h9:=uj h;omega)|(exfalso;have h9:=uo h;omega)|refine gB ?_ ?_<;>intro h|(refine zew hC rfl rfl hb rfl rfl ?_)|(refine zo hC hQuo id rfl rfl (zI.refl _) rfl rfl rfl rfl rfl rfl ?_)
    exact gU (zi ⟨rfl,id,trivial,rfl,rfl⟩)
  ·rw[ur o12];show zf _ _ _ _ _ _;refine gO T Tryz.func144 λC hC=>?_
   repeat' first|refine gG ?_|(exfalso;have h9:=uj h;omega)|(exfalso;have h9:=uo h;omega)|refine gB ?_ ?_<;>intro h|(refine zfY hC rfl rfl hb rfl rfl ?_)
   exact gF
end Hw.Gm
namespace Hw.Gm
open Go Go.Proofs Hw.M Ps
def zfc(b:Bool):zf Tryz.prog 289 [.bq b] [] (I (zcJ b)) []:=by
 refine gO T Tryz.func289 λC hC=>?_
 repeat' first|refine gG ?_|refine gB ?_ ?_<;>intro h
 all_goals subst h
 all_goals exact gF
variable {d:zg}{fuel:Int}{m m1:Mc}{x y:Ex}
set_option maxRecDepth 100000 in
set_option maxHeartbeats 2000000 in
theorem zh6{fr:Fr}{e:Ex}{v:Int}{a:An Int}(hx:e.l[0]?=some x)(hX:wE d fuel fr x m (.ok v m1))(hY:wE d fuel fr y m1 a)
 (hop:(e.op=19/\v≠0/\e.l[1]?=some y)\/(e.op=20/\v≠1/\e.l[1]?=some y)\/(e.op=21/\v=1/\e.l[1]?=some y)\/(e.op=21/\v≠1/\e.l[2]?=some y)):wE d fuel fr e m a:=by
 have hX:zf _ _ _ _ _ _:=hX;cases a with
 |ok w m2=>
  have hY:zf _ _ _ _ _ _:=hY;show zf _ _ _ _ _ _;rcases hop with⟨hop,hv,hy⟩|⟨hop,hv,hy⟩|⟨hop,hv,hy⟩|⟨hop,hv,hy⟩
  all_goals
   refine gO T Tryz.func274 λC hC=>?_
   repeat' first|refine gG ?_|(exfalso;first|(have h0:=uj h;omega)|(have h0:=uo h;omega))|refine gB ?_ ?_<;>intro h|(refine gI T (zD hx) ?_)|(refine gI T (yJ hy) ?_)|(refine gI T (zdJ hy) ?_)|refine gR hX (nm [0,1,2,3,4,5,6,107,108,109]) ?_|refine gR hY (nm [0,1,107,108,109,5,6,117,118,119]) ?_
   exact gW [0,1,2,3,4,5,6,117,118,119]
 |flt er m2=>
  have hY:zU _ _ _ _ _ _:=hY;show zU _ _ _ _ _ _;rcases hop with⟨hop,hv,hy⟩|⟨hop,hv,hy⟩|⟨hop,hv,hy⟩|⟨hop,hv,hy⟩
  all_goals
   refine zR T Tryz.func274 ud rfl rfl rfl λC hC=>?_
   repeat' first|refine gG ?_|(exfalso;first|(have h0:=uj h;omega)|(have h0:=uo h;omega))|refine gB ?_ ?_<;>intro h|(refine gI T (zD hx) ?_)|(refine gI T (yJ hy) ?_)|(refine gI T (zdJ hy) ?_)|refine gR hX (nm [0,1,2,3,4,5,6,107,108,109]) ?_|(refine zo hC hY (nm [0,1,107,108,109,5,6,117,118,119]) rfl rfl (zI.refl _) rfl rfl rfl rfl rfl rfl ?_)
   exact gU (zi ⟨rfl,nm [0,1,2,3,4,5,6,117,118,119],⟨rfl,rfl,rfl,rfl,rfl,uh⟩,rfl,rfl⟩)
 |out=>trivial
def zh7{fr:Fr}{e:Ex}{v:Int}(hx:e.l[0]?=some x)(U:wE d fuel fr x m (.ok v m1))(J:(e.op=19/\v=0)\/(e.op=20/\v=1)):wE d fuel fr e m (.ok v m1):=by
 have U:zf _ _ _ _ _ _:=U;show zf _ _ _ _ _ _;rcases J with⟨J,hv⟩|⟨J,hv⟩
 all_goals
  subst hv;refine gO T Tryz.func274 λC hC=>?_
  repeat' first|refine gG ?_|(exfalso;first|(have h0:=uj h;omega)|(have h0:=uo h;omega))|exact gD|refine gB ?_ ?_<;>intro h|(refine gI T (zD hx) ?_)|refine gR U (nm [0,1,2,3,4,5,6,107,108,109]) ?_
  exact gW [0,1,2,3,4,5,6,107,108,109]
def zjn(op:Int):Prop:= ¬(op=1\/op=2\/op=3\/op=4\/op=5\/op=6\/op=7\/op=8\/op=24\/op=18\/op=19\/op=20\/op=21)
def zrw{fr:Fr}{e:Ex}{m2:Mc}{a er:Int}(J:zjn e.op)(hx:e.l[0]?=some x)(U:wE d fuel fr x m (.ok a m1))(hy:e.l[1]?=some y)(hY:wE d fuel fr y m1 (.flt er m2)):wE d fuel fr e m (.flt er m2):=by
 have U:zf _ _ _ _ _ _:=U;have hY:zU _ _ _ _ _ _:=hY;unfold zjn at J;show zU _ _ _ _ _ _;refine zR T Tryz.func274 ud rfl rfl rfl λC hC=>?_
 repeat' first|refine gG ?_|(exfalso;have h0:=uj h;omega)|refine gB ?_ ?_<;>intro h|(refine gI T (zD hx) ?_)|(refine gI T (yJ hy) ?_)|refine gR U (nm [0,1,2,3,4,5,6,107,108,109]) ?_|(refine zo hC hY (nm [0,1,107,108,109,5,6,117,118,119]) rfl rfl (zI.refl _) rfl rfl rfl rfl rfl rfl ?_)
 exact gU (zi ⟨rfl,nm [0,1,2,3,4,5,6,117,118,119],⟨rfl,rfl,rfl,rfl,rfl,uh⟩,rfl,rfl⟩)
theorem zkG{fr:Fr}{e:Ex}{m2:Mc}{a b:Int}(hop:zjn e.op)(h14: ¬(e.op=14\/e.op=15\/e.op=16\/e.op=17))(hx:e.l[0]?=some x)(U:wE d fuel fr x m (.ok a m1))(hy:e.l[1]?=some y)(hY:wE d fuel fr y m1 (.ok b m2)):
 wE d fuel fr e m (ztz m2 e.op a b):=by
 have U:zf _ _ _ _ _ _:=U;have hY:zf _ _ _ _ _ _:=hY;unfold zjn at hop;unfold ztz;rcases wo (p:=inB a/\inB b) (x:=znz m2 e.op a b)with h|⟨⟨ha,hb⟩,h⟩
 ·rw[h];trivial
 rw[h];have J:=zt9 m2 e.op a b ha hb
 have hm: ∀c mm,znz m2 e.op a b= .ok c mm->mm=m2:=λc mm h=>by
  unfold znz vM at h
  repeat' split at h
  all_goals first|(cases h;rfl)|cases h
 have hm': ∀c mm,znz m2 e.op a b= .flt c mm->mm=m2:=λc mm h=>by
  unfold znz vM at h
  repeat' split at h
  all_goals first|(cases h;rfl)|cases h
 cases hr:znz m2 e.op a b with
 |ok c mm=>
  obtain rfl:=hm c mm hr;rw[hr]at J;have J:zf _ _ _ _ _ _:=J;show zf _ _ _ _ _ _;refine gO T Tryz.func274 λC hC=>?_
  repeat' first|refine gG ?_|(exfalso;have h0:=uj h;omega)|refine gB ?_ ?_<;>intro h|(refine gI T (zD hx) ?_)|(refine gI T (yJ hy) ?_)|refine gR U (nm [0,1,2,3,4,5,6,107,108,109]) ?_|refine gR hY (nm [0,1,107,108,109,5,6,117,118,119]) ?_|(refine vg hC J rfl rfl zpY rfl rfl rfl ?_)
  exact gW [0,1,2,3,4,5,6,117,118,119]
 |flt er mm=>
  obtain rfl:=hm' er mm hr;rw[hr]at J;have J:zU _ _ _ _ _ _:=J;show zU _ _ _ _ _ _;refine zR T Tryz.func274 ud rfl rfl rfl λC hC=>?_
  repeat' first|refine gG ?_|(exfalso;have h0:=uj h;omega)|refine gB ?_ ?_<;>intro h|(refine gI T (zD hx) ?_)|(refine gI T (yJ hy) ?_)|refine gR U (nm [0,1,2,3,4,5,6,107,108,109]) ?_|refine gR hY (nm [0,1,107,108,109,5,6,117,118,119]) ?_|(refine zo hC J id rfl rfl zpY rfl rfl rfl rfl rfl rfl ?_)
  exact gU (zi ⟨rfl,nm [0,1,2,3,4,5,6,117,118,119],⟨rfl,rfl,rfl,rfl,rfl,uh⟩,rfl,rfl⟩)
 |out=>trivial
set_option maxRecDepth 100000 in
set_option maxHeartbeats 2000000 in
def zp2{fr:Fr}{e:Ex}{m2:Mc}{a b:Int}(c:Bool)(hop:(e.op=16/\c=decide (a<b))\/(e.op=17/\c=decide (a<=b)))(hx:e.l[0]?=some x)(hX:wE d fuel fr x m (.ok a m1))(hy:e.l[1]?=some y)(hY:wE d fuel fr y m1 (.ok b m2)):
 wE d fuel fr e m (znA m2 c):=by
 have hX:zf _ _ _ _ _ _:=hX;have hY:zf _ _ _ _ _ _:=hY;unfold znA;rcases wo (p:=0<=m2.comps/\m2.comps<1099511627776) (x:=An.ok (zcJ c) { m2 with comps:=m2.comps+1 })with h|⟨hc,h⟩
 ·rw[h];trivial
 rw[h];have hw:IntKind.i64.wrap (m2.comps+1)=m2.comps+1:=wrap64 ua;have hT:=zfc c;show zf _ _ _ _ _ _;rcases hop with⟨hop,rfl⟩|⟨hop,rfl⟩
 all_goals
  refine gO T Tryz.func274 λC hC=>?_
  repeat' first|refine gG ?_|(exfalso;first|(have h0:=uj h;omega)|(have h0:=uo h;omega))|refine gB ?_ ?_<;>intro h|(refine gI T (zD hx) ?_)|(refine gI T (yJ hy) ?_)|refine gR hX (nm [0,1,2,3,4,5,6,107,108,109]) ?_|refine gR hY (nm [0,1,107,108,109,5,6,117,118,119]) ?_|refine gC hT ?_
  rw[hw];exact gW [0,1,2,3,4,5,6,117,118,119]
set_option maxRecDepth 100000 in
set_option maxHeartbeats 2000000 in
def zuk{fr:Fr}{e:Ex}{m2:Mc}{a b:Int}(hop:e.op=14\/e.op=15)(hx:e.l[0]?=some x)(hX:wE d fuel fr x m (.ok a m1))(hy:e.l[1]?=some y)(hY:wE d fuel fr y m1 (.ok b m2)):
 wE d fuel fr e m (opA (tyO d fr.vs x) λt=>if t=(⟨#[105,110,116]⟩:UB)then znA m2 (decide (decide (a=b)=decide (e.op=14)))else .ok (zcJ (decide (decide (a=b)=decide (e.op=14)))) m2):=by
 have hX:zf _ _ _ _ _ _:=hX;have hY:zf _ _ _ _ _ _:=hY;rcases zc0 (o:=tyO d fr.vs x) (f:=λt=>if t=(⟨#[105,110,116]⟩:UB)then znA m2 (decide (decide (a=b)=decide (e.op=14)))else .ok (zcJ (decide (decide (a=b)=decide (e.op=14)))) m2)with h|⟨t,ht,h⟩
 ·rw[h];trivial
 rw[h];have hT:=zub d fuel m2 fr (sizeOf x+1) x t ua ht;have hq:=zfc (decide (decide (a=b)=decide (e.op=14)));by_cases hi:t=(⟨#[105,110,116]⟩:UB)
 ·rw[uw hi];subst hi;unfold znA;rcases wo (p:=0<=m2.comps/\m2.comps<1099511627776) (x:=An.ok (zcJ (decide (decide (a=b)=decide (e.op=14)))) { m2 with comps:=m2.comps+1 })with h|⟨hc,h⟩
  ·rw[h];trivial
  rw[h];have hw:IntKind.i64.wrap (m2.comps+1)=m2.comps+1:=wrap64 ua;show zf _ _ _ _ _ _;rcases hop with hop|hop
  all_goals
   refine gO T Tryz.func274 λC hC=>?_
   repeat' first|refine gG ?_|(exfalso;first|(have h0:=uj h;omega)|(have h0:=uo h;omega))|exact gD|refine gB ?_ ?_<;>intro h|(refine gI T (zD hx) ?_)|(refine gI T (yJ hy) ?_)|refine gR hX (nm [0,1,2,3,4,5,6,107,108,109]) ?_|refine gR hY (nm [0,1,107,108,109,5,6,117,118,119]) ?_|refine gK hT (nm [0,1,117,118,119,5,6]) ?_|(refine zaq hC rfl rfl rfl rfl rfl ?_)|refine gC hq ?_
   rw[hw];exact gW [0,1,2,3,4,5,6,117,118,119]
 ·rw[ur hi];show zf _ _ _ _ _ _;rcases hop with hop|hop
  all_goals
   refine gO T Tryz.func274 λC hC=>?_
   repeat' first|refine gG ?_|(exfalso;first|(have h0:=uj h;omega)|(have h0:=uo h;omega))|(exfalso;exact hi (uj h))|refine gB ?_ ?_<;>intro h|(refine gI T (zD hx) ?_)|(refine gI T (yJ hy) ?_)|refine gR hX (nm [0,1,2,3,4,5,6,107,108,109]) ?_|refine gR hY (nm [0,1,107,108,109,5,6,117,118,119]) ?_|refine gK hT (nm [0,1,117,118,119,5,6]) ?_|(refine zaq hC rfl rfl rfl rfl rfl ?_)|refine gC hq ?_
   exact gW [0,1,2,3,4,5,6,117,118,119]
abbrev zrx(d:zg)(fuel:Int)(fr:Fr)(e:Ex)(m:Mc)(a:An Int):Prop:=
 FnX Tryz.prog 278 [.one (.bx 0 0),.one (.bx 5 0),zr (yp e)] (mcR d fuel m 1 2 3 4++frR fr) (exE d fuel fr a)
theorem zry{fr:Fr}{k:Nat}(ihE: ∀e m,wE d fuel fr e m (exV d fuel fr k e m))(ihC: ∀e m,zrx d fuel fr e m (clV d fuel fr k e m))(e:Ex)(m:Mc):wE d fuel fr e m (exV d fuel fr (k+1) e m):=by
 rw[exV]
 have first: ∀(f:Int->Mc->An Int),¬(e.op=1\/e.op=2\/e.op=3\/e.op=4\/e.op=6\/e.op=7)->(∀x v m1,e.l[0]?=some x->wE d fuel fr x m (.ok v m1)->wE d fuel fr e m (f v m1))->
  wE d fuel fr e m ((atA e.l 0 λx=>exV d fuel fr k x m).bind f):=λf hop hf=>by
  rcases w7 (l:=e.l) (i:=0) (f:=λx=>exV d fuel fr k x m)with h|⟨x,U,h⟩
  ·rw[h];trivial
  rw[h];have J:=ihE x m;cases hr:exV d fuel fr k x m with
  |ok v m1=>rw[hr]at J;exact hf x v m1 U J
  |flt er m1=>rw[hr]at J;exact zp1 hop U J
  |out=>trivial
 have sub: ∀(i:Nat) m1,(∃y,e.l[i]?=some y/\(atA e.l i λy=>exV d fuel fr k y m1)=exV d fuel fr k y m1)\/(atA e.l i λy=>exV d fuel fr k y m1)= .out:=λi m1=>by
  rcases w7 (l:=e.l) (i:=i) (f:=λy=>exV d fuel fr k y m1)with h|⟨y,hy,h⟩
  ·exact .inr h
  ·exact .inl ⟨y,hy,h⟩
 by_cases h1:e.op=1\/e.op=2
 ·rw[uw h1];exact zug h1
 rw[ur h1];by_cases h3:e.op=3
 ·rw[uw h3];exact zuh h3
 rw[ur h3];by_cases h4:e.op=4
 ·rw[uw h4];exact zue h4
 rw[ur h4];by_cases h5:e.op=5
 ·rw[uw h5];exact first _ ua λx v m1 U J=>zud h5 U J
 rw[ur h5];by_cases h6:e.op=6
 ·rw[uw h6];exact zuf h6
 rw[ur h6];by_cases h7:e.op=7
 ·rw[uw h7];exact zui h7 (ihC e m)
 rw[ur h7];by_cases h8:e.op=8
 ·rw[uw h8];exact first _ ua λx v m1 U J=>zuj h8 U J
 rw[ur h8];by_cases h24:e.op=24
 ·rw[uw h24];exact first _ ua λx v m1 U J=>zrs h24 U J
 rw[ur h24];by_cases h18:e.op=18
 ·rw[uw h18];exact first _ ua λx v m1 U J=>zrr h18 U J
 rw[ur h18];by_cases h19:e.op=19
 ·rw[uw h19];refine first _ ua λx v m1 U J=>?_
  by_cases hv:v=0
  ·rw[uw hv];have:=zh7 U J (.inl ⟨h19,hv⟩);rw[hv]at this;exact this
  ·rw[ur hv];rcases sub 1 m1 with⟨y,hy,h⟩|h
   ·rw[h];exact zh6 U J (ihE y m1) (.inl ⟨h19,hv,hy⟩)
   ·rw[h];trivial
 rw[ur h19];by_cases h20:e.op=20
 ·rw[uw h20];refine first _ ua λx v m1 U J=>?_
  by_cases hv:v=1
  ·rw[uw hv];have:=zh7 U J (.inr ⟨h20,hv⟩);rw[hv]at this;exact this
  ·rw[ur hv];rcases sub 1 m1 with⟨y,hy,h⟩|h
   ·rw[h];exact zh6 U J (ihE y m1) (.inr (.inl ⟨h20,hv,hy⟩))
   ·rw[h];trivial
 rw[ur h20];by_cases h21:e.op=21
 ·rw[uw h21];refine first _ ua λx v m1 U J=>?_
  by_cases hv:v=1
  ·rw[uw hv];rcases sub 1 m1 with⟨y,hy,h⟩|h
   ·rw[h];exact zh6 U J (ihE y m1) (.inr (.inr (.inl ⟨h21,hv,hy⟩)))
   ·rw[h];trivial
  ·rw[ur hv];rcases sub 2 m1 with⟨y,hy,h⟩|h
   ·rw[h];exact zh6 U J (ihE y m1) (.inr (.inr (.inr ⟨h21,hv,hy⟩)))
   ·rw[h];trivial
 rw[ur h21];have hop:zjn e.op:=by unfold zjn;omega
 rcases w7 (l:=e.l) (i:=0) (f:=λx=>(exV d fuel fr k x m).bind λa m=>(atA e.l 1 λy=>exV d fuel fr k y m).bind λb m=>ztd d fr x e.op a b m)with h|⟨x,U,h⟩
 ·rw[h];trivial
 rw[h];have J:=ihE x m;cases hr:exV d fuel fr k x m with
 |out=>trivial
 |flt er m1=>rw[hr]at J;exact zp1 ua U J
 |ok a m1=>
  rw[hr]at J;simp only[An.bind];rcases sub 1 m1 with⟨y,hy,h⟩|h
  rotate_left
  ·rw[h];trivial
  rw[h];have hY:=ihE y m1;cases hr2:exV d fuel fr k y m1 with
  |out=>trivial
  |flt er m2=>rw[hr2]at hY;exact zrw hop U J hy hY
  |ok b m2=>
   rw[hr2]at hY;simp only[An.bind];unfold ztd;by_cases h14:e.op=14\/e.op=15
   ·rw[uw h14];exact zuk h14 U J hy hY
   rw[ur h14];by_cases h16:e.op=16
   ·rw[uw h16];exact zp2 _ (.inl ⟨h16,rfl⟩) U J hy hY
   rw[ur h16];by_cases h17:e.op=17
   ·rw[uw h17];exact zp2 _ (.inr ⟨h17,rfl⟩) U J hy hY
   rw[ur h17];exact zkG hop ua U J hy hY
def ms(l:List (Nat×Nat))(i:Nat):Nat:=match l.lookup i with
 |some j=>j
 |none=>i
theorem xc: ∀ {l:List (Nat×Nat)},(l.all λp=>Nat.ble 100 p.1)=true-> ∀i,i<100->ms l i=i
 | [],_,_,_=>rfl
 |(a,b)::l,h,i,hi=>by
  simp only[tN,um]at h;have ha:100<=a:=uS h.1;have:=xc h.2 i hi;unfold ms at this⊢;rw[List.lookup_cons];rw[show(i==a)=false by simp;omega];exact this
def rnE(d:zg)(fuel:Int):An Int->End
 | .ok v m=> .ok (I v) (mcR d fuel m 1 7 8 9)
 | .flt e m=> .pn (znD e) (mcR d fuel m 1 7 8 9)
 | .out=> .no
abbrev zvW(d:zg)(fuel:Int)(p:Pr)(a:List Int)(m:Mc)(r:An Int):Prop:=
 FnX Tryz.prog 188 [.one (.bx 0 0),zr (zJ p),pS (yZ a)] (mcR d fuel m 1 2 3 4) (rnE d fuel r)
variable {res:An (List Int)}{vals:List Int}
theorem zdK{fr:Fr}{k:Nat}{r:List Ex}(h:((exsV d fuel fr k (x::r) m).bind λr m=> .ok (vals++r) m)=res)(J:res≠ .out):
 ∃j,k=j+1/\((∃v m1,exV d fuel fr j x m= .ok v m1/\((exsV d fuel fr j r m1).bind λr m=> .ok ((vals++[v])++r) m)=res)\/ ∃er m1,exV d fuel fr j x m= .flt er m1/\res= .flt er m1):=by
 cases k with
 |zero=>exact absurd h.symm (by simpa [exsV,An.bind]using J)
 |succ j=>
  refine⟨j,rfl,?_⟩;rw[exsV]at h;cases hx:exV d fuel fr j x m with
  |out=>rw[hx]at h;exact absurd h.symm (by simpa [An.bind]using J)
  |flt er m1=>rw[hx]at h;exact .inr ⟨er,m1,rfl,h.symm⟩
  |ok v m1=>
   rw[hx]at h;refine .inl ⟨v,m1,rfl,?_⟩;simp only[An.bind]at h;cases hr:exsV d fuel fr j r m1 with
   |ok l m2=>rw[hr]at h;simp only at h ⊢; rw[<-h];simp only[An.bind,tE,qP]
   |flt er m2=>rw[hr]at h;exact h
   |out=>rw[hr]at h;exact h
theorem zgF{fr:Fr}{k:Nat}(h:((exsV d fuel fr k [] m).bind λr m=> .ok (vals++r) m)=res)(J:res≠ .out):res= .ok vals m:=by
 cases k with
 |zero=>exact absurd h.symm (by simpa [exsV,An.bind]using J)
 |succ j=>rw[exsV]at h;rw[<-h];simp only[An.bind,uV]
def zdL(a:An (List Int)):(a.bind λr m=> .ok ([]++r) m)=a:=by cases a<;>rfl
variable {i:Nat}
def wrapN(h:i+1<=1000001):IntKind.i64.wrap ((i:Int)+1)=((i+1:Nat):Int):=by rw[wrap64 ua];omega
def clT(d:zg)(fuel:Int)(fr:Fr)(e:Ex)(q:Nat×Nat×List Int×Mc):zd×Tab:=
 ([(0,.one (.bx 0 0)),(1,.one (.bx 5 0)),(5,.one (.bx 1005 0)),(11,pS (jc e.l)),(12,I e.l.length),(13,I q.1),(7,.one (.ar 140))],
  [(1005,some (.box ((yp e).map V.p))),(0,some (.box (mcC d fuel q.2.2.2 1 107 109))),(1,some (.arr 1 (q.2.2.2.g.map z8))),(107,some (.vw [108] 2 (wRows q.2.2.2.ns 0))),(108,some (.bag 1 (jR q.2.2.2.ns))),(109,some (.arr 3 (q.2.2.2.acc.map zgC))),
   (5,some (.box [.p (zC fr.vs),.ar 6])),(6,some (.arr 1 (fr.va.map z8))),(140,some (.arr 1 (q.2.2.1.map z8)))])
def zwB{fr:Fr}{k:Nat}(ihE: ∀j,j<=k-> ∀e m,wE d fuel fr e m (exV d fuel fr j e m)){e:Ex}{mF:Mc}{er:Int}(hl:e.l.length<=1000000)(hr:exsV d fuel fr k e.l m= .flt er mF):zrx d fuel fr e m (.flt er mF):=by
 show zU _ _ _ _ _ _;refine zR T Tryz.func278 ud rfl rfl rfl λC hC=>?_
 repeat' first|refine gG ?_|refine gB ?_ ?_<;>intro h
 refine gA 140 1 [(7,.one (.ar 140))] [] ?_;rw[uk]
 refine zn (λq:Nat×Nat×List Int×Mc=>q.1<=e.l.length/\q.2.1<=k/\q.2.2.1.length=q.1/\((exsV d fuel fr q.2.1 (e.l.drop q.1) q.2.2.2).bind λr m=> .ok (q.2.2.1++r) m)= .flt er mF) (clT d fuel fr e) (λq=>e.l.length - q.1) hC
  (0,k,[],m) ⟨uE _,uJ _,rfl,by rw[zdL];exact hr⟩ (ms [(107,2),(108,3),(109,4)]) ⟨rfl,⟨rfl,rfl,rfl,rfl,rfl,rfl,rfl,uh⟩,⟨rfl,rfl,rfl,rfl,rfl,rfl,rfl,rfl,rfl,uh⟩,rfl,xc rfl⟩ ?_
 rintro⟨i,k1,vals,m1⟩ ⟨hi,hk,hv,J⟩;simp only at hi hk hv J;refine zm T hC true 200 rfl ?_;refine zp rfl ?_ ?_<;>intro h
 ·have hlt:i<e.l.length:=by simpa [clT]using h
  obtain⟨x,hx⟩:=zb hlt;rw[drop_at hx]at J;obtain⟨j,rfl,hcase⟩:=zdK J ue;have U:=ihE j ua x m1;rcases hcase with⟨v,m2,hev,hnx⟩|⟨er1,m2,hev,hE⟩
  ·rw[hev]at U;have U:zf _ _ _ _ _ _:=U;have happ:vals.map z8++[[ki v]]=(vals++[v]).map z8:=by rw[u6];rfl
   repeat' first|refine gG ?_|refine gB ?_ ?_<;>intro h|refine gXE ?_|refine gR U (nm [0,1,107,108,109,5,6,117,118,119]) ?_|refine gT ?_|(refine gY T 141 ((vals++[v]).map z8) 8 ?_)
   rw[wrapN ua];exact zh (i+1,j,vals++[v],m2) ⟨by simp only;omega,by simp only;omega,by simp only[uP,uU];omega,hnx⟩ (ms [(107,117),(108,118),(109,119),(140,141)]) (by simp only;omega) ⟨rfl,⟨rfl,rfl,rfl,rfl,rfl,rfl,rfl,uh⟩,⟨rfl,rfl,rfl,rfl,rfl,rfl,rfl,rfl,rfl,uh⟩,rfl,xc rfl⟩
  ·rw[hev]at U;have U:zU _ _ _ _ _ _:=U;cases hE
   repeat' first|refine gG ?_|refine gB ?_ ?_<;>intro h|refine gXE ?_|(refine zo hC U (nm [0,1,107,108,109,5,6,117,118,119]) rfl rfl (zI.refl _) rfl rfl rfl rfl rfl rfl ?_)
   refine gU (zcX (gU (zi ⟨rfl,nm [0,1,2,3,4,5,6,117,118,119],⟨rfl,rfl,rfl,rfl,rfl,uh⟩,rfl,rfl⟩)))
 ·exfalso;have hge: ¬i<e.l.length:=by simpa [clT]using h
  rw[uC ua]at J;cases zgF J ue
theorem zwC{fr:Fr}{k:Nat}(ihE: ∀j,j<=k-> ∀e m,wE d fuel fr e m (exV d fuel fr j e m)){e:Ex}{mF:Mc}{a:List Int}(hl:e.l.length<=1000000)(hr:exsV d fuel fr k e.l m= .ok a mF)
 (hi:zaZ d e.s=some i) {p:Pr} (hp:d.procs[i]?=some p) {r:An Int} (hR:zvW d fuel p a mF r):zrx d fuel fr e m r:=by
 have hI:=zh4 hi;cases r with
 |out=>trivial
 |ok v m2=>
  have hR:zf _ _ _ _ _ _:=hR;show zf _ _ _ _ _ _;refine gO T Tryz.func278 λC hC=>?_
  repeat' first|refine gG ?_|refine gB ?_ ?_<;>intro h
  refine gA 140 1 [(7,.one (.ar 140))] [] ?_;rw[uk]
  refine zn (λq:Nat×Nat×List Int×Mc=>q.1<=e.l.length/\q.2.1<=k/\q.2.2.1.length=q.1/\((exsV d fuel fr q.2.1 (e.l.drop q.1) q.2.2.2).bind λr m=> .ok (q.2.2.1++r) m)= .ok a mF) (clT d fuel fr e) (λq=>e.l.length - q.1) hC
   (0,k,[],m) ⟨uE _,uJ _,rfl,by rw[zdL];exact hr⟩ (ms [(107,2),(108,3),(109,4)]) ⟨rfl,⟨rfl,rfl,rfl,rfl,rfl,rfl,rfl,uh⟩,⟨rfl,rfl,rfl,rfl,rfl,rfl,rfl,rfl,rfl,uh⟩,rfl,xc rfl⟩ ?_
  clear hr;rintro⟨i1,k1,vals,m1⟩ ⟨hi1,hk,hv,J⟩;simp only at hi1 hk hv J;refine zm T hC true 200 rfl ?_;refine zp rfl ?_ ?_<;>intro h
  ·have hlt:i1<e.l.length:=by simpa [clT]using h
   obtain⟨x,hx⟩:=zb hlt;rw[drop_at hx]at J;obtain⟨j,rfl,U⟩:=zdK J ue;have hX:=ihE j ua x m1;rcases U with⟨v,m2,hev,hnx⟩|⟨er1,m2,hev,hE⟩
   ·rw[hev]at hX;have hX:zf _ _ _ _ _ _:=hX;have happ:vals.map z8++[[ki v]]=(vals++[v]).map z8:=by rw[u6];rfl
    repeat' first|refine gG ?_|refine gB ?_ ?_<;>intro h|refine gXE ?_|refine gR hX (nm [0,1,107,108,109,5,6,117,118,119]) ?_|refine gT ?_|(refine gY T 141 ((vals++[v]).map z8) 8 ?_)
    rw[wrapN ua];exact zh (i1+1,j,vals++[v],m2) ⟨by simp only;omega,by simp only;omega,by simp only[uP,uU];omega,hnx⟩ (ms [(107,117),(108,118),(109,119),(140,141)]) (by simp only;omega) ⟨rfl,⟨rfl,rfl,rfl,rfl,rfl,rfl,rfl,uh⟩,⟨rfl,rfl,rfl,rfl,rfl,rfl,rfl,rfl,rfl,uh⟩,rfl,xc rfl⟩
   ·cases hE
  ·have hge: ¬i1<e.l.length:=by simpa [clT]using h
   rw[uC ua]at J;cases zgF J ue;clear h J;refine gZ 140 [(7,pS (yZ a))] [] ?_
   repeat' first|refine gG ?_|refine gB ?_ ?_<;>intro h|refine ze ?_|refine gC hI ?_|(refine gI T (zq hp) ?_)|refine gR hR (nm [0,1,107,108,109,5,6,117,118,119]) ?_
   exact gW [0,1,2,3,4,5,6,117,118,119]
 |flt er mE=>
  have hR:zU _ _ _ _ _ _:=hR;show zU _ _ _ _ _ _;refine zR T Tryz.func278 ud rfl rfl rfl λC hC=>?_
  repeat' first|refine gG ?_|refine gB ?_ ?_<;>intro h
  refine gA 140 1 [(7,.one (.ar 140))] [] ?_;rw[uk]
  refine zn (λq:Nat×Nat×List Int×Mc=>q.1<=e.l.length/\q.2.1<=k/\q.2.2.1.length=q.1/\((exsV d fuel fr q.2.1 (e.l.drop q.1) q.2.2.2).bind λr m=> .ok (q.2.2.1++r) m)= .ok a mF) (clT d fuel fr e) (λq=>e.l.length - q.1) hC
   (0,k,[],m) ⟨uE _,uJ _,rfl,by rw[zdL];exact hr⟩ (ms [(107,2),(108,3),(109,4)]) ⟨rfl,⟨rfl,rfl,rfl,rfl,rfl,rfl,rfl,uh⟩,⟨rfl,rfl,rfl,rfl,rfl,rfl,rfl,rfl,rfl,uh⟩,rfl,xc rfl⟩ ?_
  clear hr;rintro⟨i1,k1,vals,m1⟩ ⟨hi1,hk,hv,J⟩;simp only at hi1 hk hv J;refine zm T hC true 200 rfl ?_;refine zp rfl ?_ ?_<;>intro h
  ·have hlt:i1<e.l.length:=by simpa [clT]using h
   obtain⟨x,hx⟩:=zb hlt;rw[drop_at hx]at J;obtain⟨j,rfl,U⟩:=zdK J ue;have hX:=ihE j ua x m1;rcases U with⟨v,m2,hev,hnx⟩|⟨er1,m2,hev,hE⟩
   ·rw[hev]at hX;have hX:zf _ _ _ _ _ _:=hX;have happ:vals.map z8++[[ki v]]=(vals++[v]).map z8:=by rw[u6];rfl
    repeat' first|refine gG ?_|refine gB ?_ ?_<;>intro h|refine gXE ?_|refine gR hX (nm [0,1,107,108,109,5,6,117,118,119]) ?_|refine gT ?_|(refine gY T 141 ((vals++[v]).map z8) 8 ?_)
    rw[wrapN ua];exact zh (i1+1,j,vals++[v],m2) ⟨by simp only;omega,by simp only;omega,by simp only[uP,uU];omega,hnx⟩ (ms [(107,117),(108,118),(109,119),(140,141)]) (by simp only;omega) ⟨rfl,⟨rfl,rfl,rfl,rfl,rfl,rfl,rfl,uh⟩,⟨rfl,rfl,rfl,rfl,rfl,rfl,rfl,rfl,rfl,uh⟩,rfl,xc rfl⟩
   ·cases hE
  ·have hge: ¬i1<e.l.length:=by simpa [clT]using h
   rw[uC ua]at J;cases zgF J ue;clear h J;refine gZ 140 [(7,pS (yZ a))] [] ?_
   repeat' first|refine gG ?_|refine gB ?_ ?_<;>intro h|refine ze ?_|refine gC hI ?_|(refine gI T (zq hp) ?_)|(refine xq T hC hR (nm [0,1,107,108,109,5,6,117,118,119]) [] rfl rfl (zI.refl _) rfl rfl rfl rfl rfl ud ud ?_)
   exact gU (zi ⟨rfl,nm [0,1,2,3,4,5,6,117,118,119],⟨rfl,rfl,rfl,rfl,rfl,uh⟩,rfl,rfl⟩)
theorem zrz{fr:Fr}{k:Nat}(ihE: ∀j,j<=k-> ∀e m,wE d fuel fr e m (exV d fuel fr j e m))(ihR: ∀p a m,zvW d fuel p a m (rnV d fuel k p a m))(e:Ex)(m:Mc):zrx d fuel fr e m (clV d fuel fr (k+1) e m):=by
 rw[clV];rcases wo (p:=e.l.length<=1000000) (x:=(exsV d fuel fr k e.l m).bind λa m=>opA (zaZ d e.s) λi=>atA d.procs i λp=>rnV d fuel k p a m)with h|⟨J,h⟩
 ·rw[h];trivial
 rw[h];cases hr:exsV d fuel fr k e.l m with
 |out=>trivial
 |flt er mF=>exact zwB ihE J hr
 |ok a mF=>
  simp only[An.bind];rcases zc0 (o:=zaZ d e.s) (f:=λi=>atA d.procs i λp=>rnV d fuel k p a mF)with h|⟨i,U,h⟩
  ·rw[h];trivial
  rw[h];rcases w7 (l:=d.procs) (i:=i) (f:=λp=>rnV d fuel k p a mF)with h|⟨p,hp,h⟩
  ·rw[h];trivial
  rw[h];exact zwC ihE J hr U hp (ihR p a mF)
end Hw.Gm
namespace Hw
open Go
variable {P:Program}{af:Array Edge}{d:Option Nat}{el t:TypeId}{g:Option (Nat×Bool)}{j:Int}{k':IntKind}{ps:String}{rows:List (List PV)}{x:Operand}
section
variable {ty:TypeId} {z:Operand}
def zrA{id id' e:Nat}(hx:okc x (.one (.ar id)))(hz:okc z (Kk k' j))(he:elemSz P t=some (el,e))(h0:0<=j)(h2:j<=rows.length):
 Snd P ⟨d,.slice t x none (some z) none,ty,ps,af,g⟩ (rq x (.one (.ar id))++rq z (Kk k' j)) [(id,.arr e rows)] [id'] (.one (.ar id')) [(id',some (.arr e (rows.take j.toNat))),(id,none)]:=by
 intro C st M ρ a w hH h1 hT hF hd k Q hk;rw[za]at h1;have e1:=hH.evS (zt hx h1.1);have e3:=hH.k (zt hz h1.2);simp only[RepS,RepV]at e1;obtain⟨b,cap,f1,f2,f3,f5⟩:=hH.zH.res id _ hT.1;obtain⟨hu,hsz⟩:=zaE he
 have hrun:(execOp a.eval ⟨d,.slice t x none (some z) none,ty,ps,af,g⟩).run P w= .ok (.value (sliced b 0 j.toNat cap e)) w:=by
  simp only[execOp,e1.1,f1,e3,tV,uH,Sem.run_bind,run_sliceAt_slice w t _ _ _ _ hu,run_slice_h w t b rows.length cap hu k' j h0 ua,hsz,Result.andThen_ok,Sem.run_pure]
 have hl:(rows.take j.toNat).length=j.toNat:=by rw[tj];omega
 have hS: ∃b' cap',sliced b 0 j.toNat cap e= .slice b' j.toNat cap'/\j.toNat<=cap'/\cap'<=9223372036854775807/\((b'=none/\cap'=0)\/(b'=b/\cap'=cap)):=by
  by_cases hc:cap=0
  ·subst hc;rcases f5 with⟨rfl,_⟩|⟨b1,o1,cs,J,fz,rfl,_⟩
   ·exact⟨none,0,by simp[sliced],ua,ub,.inl ⟨rfl,rfl⟩⟩
   ·exact⟨_,0,by simp only[sliced,uw];congr 1,ua,ub,.inr ⟨rfl,rfl⟩⟩
  ·rcases f5 with⟨rfl,hc'⟩|⟨b1,o1,cs,J,fz,rfl,_⟩
   ·exact absurd hc' hc
   ·exact⟨some ⟨b1,o1,none⟩,cap,by simp[sliced,ur hc,Addr.add],ua,f3,.inr ⟨rfl,rfl⟩⟩
 obtain⟨b',cap',U,hs2,hs3,hs4⟩:=hS;unfold Oper.wp;simp only[Sem.run_bind,hrun,Result.andThen_ok,Sem.run_pure,Oper.upon_value];refine hk _ _ _ _ (hH.step (some id) (λ_ _ _=>rfl) (uJ _) rfl rfl rfl (λb1 hb1=> .inr ⟨id,_,rfl,hT.1,?_⟩) hF.1 ?_ (by simp only[RepS,RepV];exact⟨(zx _ _ _).symm,by rw[U];rfl⟩) hd)
 ·rw[U]at hb1;rcases hs4 with⟨rfl,_⟩|⟨rfl,rfl⟩
  ·simp[Bk,blk]at hb1
  ·rw[f1];simp only[Bk,blk]at hb1 ⊢; grind
 ·refine⟨b',cap',by rw[zx,U,hl],ua,hs3,?_⟩;rcases hs4 with⟨rfl,rfl⟩|⟨rfl,rfl⟩
  ·simp_all
  ·rcases f5 with h|⟨b1,o1,cs,J,fz,rfl,f6,f7,f8,f9⟩
   ·exact .inl h
   ·exact .inr ⟨b1,o1,cs,J,fz,rfl,f6,f7,f8,f9.take _⟩
end
variable {C:Ctx}{Q:Exit->St->Prop}{all:Array Oper}{g0:Option (Nat×Bool)}{gs:zd}{k1:IntKind}{md:Mode}{rest:List Oper}{tab:Tab}
section
variable {k:List Frm} {n:Nat} {sl:zd}
def zgG(T:Ty P){d:Nat}{z:Operand}{ty:TypeId}(id':Nat)(hC:C.low){id e:Nat}{rows':List (List PV)}
 (J:ev sl x=some (.one (.ar id))) (U:ev sl z=some (Kk k1 j)) (hT:tg tab id=some (.arr e rows)) (he:T.es t=some (el,e)) (h0:0<=j) (h2:j<=rows.length) (hr:rows.take j.toNat=rows')
 (hf:allB (λi=>Nat.ble 100 i&&freshB i ⟨n,sl,tab⟩) [id']=true) (hm:metL all sl g0=some gs) (hd:Nat.blt d n=true)
 (g:Goal P C (.ops all rest (nx md ⟨some d,gs++(rq x (.one (.ar id))++rq z (Kk k1 j)),[(id,.arr e rows)],[id'],.one (.ar id'),[(id',some (.arr e rows')),(id,none)]⟩)) k n ((d,.one (.ar id'))::sl) ((id',some (.arr e rows'))::(id,none)::tab) Q):
 Goal P C (.ops all (⟨some d,.slice t x none (some z) none,ty,ps,af,g0⟩::rest) md) k n sl tab Q:=by
 subst hr;have e1:=zu (st:=⟨n,sl,tab⟩) J;have e3:=zu (st:=⟨n,sl,tab⟩) U;have:=zj hm (zrA (P:=P) (ty:=ty) (ps:=ps) (af:=af) (g:=g0) (d:=some d) (id':=id') (rows:=rows) e1.1 e3.1 (T.es_ok _ _ he) h0 h2) (n:=n) (tab:=tab);exact zN (L:=⟨some d,gs++(rq x (.one (.ar id))++rq z (Kk k1 j)),[(id,.arr e rows)],[id'],.one (.ar id'),[(id',some (.arr e (rows.take j.toNat))),(id,none)]⟩) hC this.1 rfl ⟨by rw[za,za];simp_all,⟨hT,uh⟩,hf,hd⟩ g
end
section
variable (w:World)
def zcA(t tx ty e:TypeId)(i:TypeInfo)(z:Value)(ht:P.underlying t=some (.slice e))(hk:P.underlying tx=some (.int .i64))(hi:P.info? e=some i)(hz:i.zero=some z)(base:Option Addr)(sLen sCap:Nat)(olds:List Value)
 (U:(Builtin.firstCells i.size sLen (.slice base sLen sCap)).run P w.drew= .ok olds.toArray w.drew) (n:Nat) (hzs:z.cells.size=i.size) (hnb:n*i.bytes<=140737488355328) (hn63:n<=9223372036854775807)
 (hg:sCap<sLen+n) (h63:((sLen+n:Nat):Int)<=9223372036854775807) (hfit:Builtin.nextslicecap (sLen+n) sCap*i.bytes<=281474976710656):
 (Builtin.append_ #[t,tx] ty #[.slice base sLen sCap,.int .i64 (n:Int)]).run P w=
   .ok (.slice (some ⟨w.heap.size,0,none⟩) (sLen+n) (grownCap w (sLen+n) sCap e))
    (w.drew.alloc (.cells ((olds++(Builtin.zeroCells z.cells n).toList).toArray++Builtin.zeroCells z.cells (grownCap w (sLen+n) sCap e - (sLen+n))) e)):=by
 have hn: ¬(sLen+n<=sCap):=by omega
 have h63': ¬(9223372036854775807<((sLen:Int)+(n:Int))):=by omega
 have h48': ¬(281474976710656<Builtin.nextslicecap (sLen+n) sCap*i.bytes):=by omega
 have hw:IntKind.i64.wrap (n:Int)=n:=IntWalk.i64_in _ ua;have h0: ¬((n:Int)<0):=by omega
 have hb: ¬(281474976710656<(n:Int)*(i.bytes:Int)):=by
  have:(n:Int)*(i.bytes:Int)=((n*i.bytes:Nat):Int):=by simp
  omega
 by_cases J:n*i.size=0
 ·have hzc:Builtin.zeroCells z.cells n= #[]:=Array.eq_empty_of_size_eq_zero (by simp[Builtin.zeroCells,hzs,J]);simp[Builtin.append_,run_underlying ht,run_underlying hk,Go.sizeOf,typeInfo,zeroValue,hi,hz,hn,h63',h48',Question.forced,U,newRow,grownCap,asInt,asIntOf,hw,h0,hb,J,hzc]
 ·simp[Builtin.append_,run_underlying ht,run_underlying hk,Go.sizeOf,typeInfo,zeroValue,hi,hz,hn,h63',h48',Question.forced,U,newRow,grownCap,asInt,asIntOf,hw,h0,hb,J]
  congr 2
  grind
end
variable {row:List PV}{z:List V}
section
variable {ty:TypeId} {y:Operand}
def zln{id id' e bytes n:Nat}{tx:TypeId}(hx:okc x (.one (.ar id)))(hy:okc y (I (n:Int)))
 (he:elemSz P t=some (el,e)) (hk:P.underlying tx=some (.int .i64)) (hz:zeroV P el=some z) (hp:pvsOf z=some row) (hzl:row.length=e) (hby:(P.info? el).map (·.bytes)=some bytes) (hb:(rows.length+n)*bytes<=140737488355328) (hlen:rows.length+n<=9223372036854775807):
 Snd P ⟨d,.call ⟨.builtin .append,#[x,y],#[t,tx]⟩,ty,ps,af,g⟩ (rq x (.one (.ar id))++rq y (I (n:Int))) [(id,.arr e rows)] [id'] (.one (.ar id')) [(id',some (.arr e (rows++List.replicate n row))),(id,none)]:=by
 intro C st M ρ a w hH h1 hT hF hd k Q hkk;rw[za]at h1;have e1:=hH.evS (zt hx h1.1);have e2:=hH.k (zt hy h1.2);obtain⟨b,cap,h2,h3,h4,h5⟩:=hH.zH.res id _ hT.1;simp only[RepS,RepV]at e1;obtain⟨ii,hu,U,hsz⟩:=zw he;obtain⟨i',zv,hi',hzv,hzs⟩:=xu hz;obtain⟨zv',hz1,hz2,_⟩:=xD hz M ρ w;rw[U]at hi';simp only[ui]at hi';subst hi';have:zv'=zv:=by simp[zeroValue,typeInfo,U,hzv]at hz1;exact hz1.symm
 subst this;rw[U]at hby;simp only[uH,ui]at hby;have hzl':z.length=e:=by rw[wG hp,uk];exact hzl
 have hzc:Builtin.zeroCells zv'.cells n=madeCells zv'.cells (n*e):=by simp only[Builtin.zeroCells,madeCells,hzs,hzl']
 obtain⟨news,hnw⟩: ∃news,news=(Builtin.zeroCells zv'.cells n).toList:=⟨_,rfl⟩;have hnews:RepVs M ρ ((List.replicate n row).flatten.map V.p) news:=by rw[hnw,hzc];exact vC hz2 hzl' n hp
 have hnl:news.length=n*e:=by rw[hnw,hzc];simp[size_madeCells]
 have hlen2:=zgH (n:=n) hzl;have hone: ∀u∈news,u.oneCell'=true:=λu hu=>hnews.one u hu
 have hnb:n*bytes<=140737488355328:=tQ (tD _ ua) hb
 have hcall:execOp a.eval ⟨d,.call ⟨.builtin .append,#[x,y],#[t,tx]⟩,ty,ps,af,g⟩=(do pure (.value (<-Builtin.append_ #[t,tx] ty #[a.eval x,a.eval y]))):=by
  simp[execOp,resolve,invoke,builtin]
 have fin: ∀ {val:Value} {w':World},(Builtin.append_ #[t,tx] ty #[a.eval x,a.eval y]).run P w= .ok val w'->
  (∀b',b'<w.heap.size->(∀i r,(some id)=some i->tg st.tab i=some r-> ¬Bk (ρ i) b')->w'.heap[b']?=w.heap[b']?)->w.heap.size<=w'.heap.size->w'.os=w.os->w'.tape=w.tape->w'.output=w.output->
  (∀b',Bk val b'->w.heap.size<=b'\/ ∃i r,(some id)=some i/\tg st.tab i=some r/\Bk (ρ i) b')->zF M (upd ρ id' val) w' id' (.arr e (rows++List.replicate n row))->val.oneCell'=true->
  Oper.wp P ⟨d,.call ⟨.builtin .append,#[x,y],#[t,tx]⟩,ty,ps,af,g⟩ a w k Q:=λ{val w'} J g1 g2 g3 g4 g5 g6 g7 g8=>by
  unfold Oper.wp;rw[hcall];simp only[Sem.run_bind,J,Result.andThen_ok,Sem.run_pure,Oper.upon_value];exact hkk _ _ _ _ (hH.step (some id) g1 g2 g3 g4 g5 g6 hF.1 g7 (by simp only[RepS,RepV];exact⟨(zx _ _ _).symm,g8⟩) hd)
 have hex:a.eval x= .slice b rows.length cap:=e1.1.trans h2;have hwn:IntKind.i64.wrap (n:Int)=n:=IntWalk.i64_in _ ua;have hn0: ¬((n:Int)<0):=by omega
 have hn48: ¬(281474976710656<(n:Int)*(ii.bytes:Int)):=by
  have:(n:Int)*(ii.bytes:Int)=((n*ii.bytes:Nat):Int):=by simp
  rw[this,hby];omega
 rcases tu cap (rows.length+n)with hlt|hge
 · -- a new row
   have hold: ∃olds:List Value,(Builtin.firstCells ii.size rows.length (.slice b rows.length cap)).run P w.drew= .ok olds.toArray w.drew/\RepVs M ρ (rows.flatten.map V.p) olds/\olds.length=rows.length*e/\ ∀r∈rows,r.length=e:=by
    rcases h5 with⟨rfl,hc⟩|⟨b',o,cs,el',fz,rfl,h6,_,_,h8⟩
    ·have:rows=[]:=tc.1 ua;subst this;exact⟨[],run_firstCells_none w.drew _ _ _ _,by simp[RepVs],ue,ue⟩
    ·obtain⟨us,h9,h10,h11⟩:=h8.cells (ρ:=ρ);refine⟨us,?_,h9,h10,h8.len⟩;rw[hsz]
     exact run_firstCells_some w.drew e rows.length ⟨b',o,none⟩ _ cap us h10 (λj u hj=>by
      rw[ye];have:=h11 j u hj;have h6':w.drew.heap[b']?=some (.cells cs el' fz):=h6
      simp[World.cell?,h6',this])
   obtain⟨olds,ho1,ho2,ho3,ho4⟩:=hold;have J:=zcA (P:=P) w t tx ty el ii zv' hu hk U hzv b rows.length cap olds ho1 n (by rw[hzs,hzl',hsz]) (by rw[hby];exact hnb) ua hlt ua (growslice_fits hlt (by rw[hby];exact hb));rw[<-hex,<-e2,<-hnw]at J;have hcap:=grownCap_ge w (rows.length+n) cap el
   refine fin J (λb' hb' _=>yi w.drew _ b' hb') ue rfl rfl rfl (λb' hb'=> .inl ?_) ⟨some ⟨w.heap.size,0,none⟩,grownCap w (rows.length+n) cap el,by rw[zx];simp,by simpa using hcap,(by have:=grownCap_le_maxLen w (rows.length+n) cap el (by unfold maxLen;omega);unfold maxLen at this;omega),.inr
    ⟨w.heap.size,0,_,el,(0,0),rfl,zT w.drew _,λi _=>by simp,?_,?_⟩⟩ rfl
   ·simp only[Bk,blk,ui]at hb';omega
   ·simp only[og,qp,uP,size_zeroCells,hzs,hzl',ho3,hnl,<-qd,tM]
    simp_all
   ·refine RowsIn.yv (ρ:=ρ) (cs:=olds++news) (λr hr=>(tp.1 hr).elim (ho4 r) (hlen2 r)) (by simpa [tX]using ho2.append hnews) λj c hj=>?_
    grind
 · -- room
   rcases h5 with⟨rfl,hc⟩|⟨b',o,cs,el',fz,rfl,h6,h6',h7,h8⟩
   ·have e3:n=0:=by omega
    have e4:rows=[]:=tc.1 ua;subst e3;subst e4;subst hc;have hw0:IntKind.i64.wrap 0=0:=IntWalk.i64_in 0 ua
    have J:(Builtin.append_ #[t,tx] ty #[a.eval x,a.eval y]).run P w= .ok (.slice none 0 0) w:=by
     rw[hex,e2];simp[Builtin.append_,run_underlying hu,run_underlying hk,Go.sizeOf,typeInfo,U,hsz,asInt,asIntOf,hw0]
    exact fin J (λ_ _ _=>rfl) (uJ _) rfl rfl rfl (λb' hb'=>by simp[Bk,blk]at hb') ⟨none,0,by rw[zx];rfl,ue,ue,.inl ⟨rfl,rfl⟩⟩ rfl
   ·have hfit:o+rows.length*e+0+news.length<=cs.size:=by
     rw[hnl];have:(rows.length+n)*e<=cap*e:=tD _ hge;rw[qd]at this;omega
    have hst:=zO (P:=P) b' (o+rows.length*e) el' fz news 0 cs w h6 h6' hfit hone
    have J:(Builtin.append_ #[t,tx] ty #[a.eval x,a.eval y]).run P w= .ok (.slice (some ⟨b',o,none⟩) (rows.length+n) cap) (w.setRow b' (setAt cs.toList (o+rows.length*e+0) news).toArray):=by
     rw[hex,e2];by_cases hzero:n*ii.size=0
     ·have hn0':news=[]:=tr (by rw[hnl,<-hsz];exact hzero);rw[hn0']at hst⊢;rw[hsz]at hzero;simp[Builtin.append_,run_underlying hu,run_underlying hk,Go.sizeOf,typeInfo,U,hsz,hge,ye,asInt,asIntOf,hwn,hn0,hn48,hzero,hst]
     ·simp[Builtin.append_,run_underlying hu,run_underlying hk,Go.sizeOf,typeInfo,zeroValue,U,hzv,hge,ye,asInt,asIntOf,hwn,hn0,hn48,hzero,<-hnw];rw[hsz,hst];rfl
    have hob:Bk (ρ id) b':=by rw[h2];rfl
    have hsl:(setAt cs.toList (o+rows.length*e+0) news).length=cs.size:=by rw[yk _ _ _ (by simpa using hfit)];simp
    refine fin J (λb2 hb2 hne=>xM w b' _ b2 λe=>hne id _ rfl hT.1 (e ▸ hob)) (by simp[World.setRow]) rfl rfl rfl
     (λb2 hb2=> .inr ⟨id,_,rfl,hT.1,by simp only[Bk,blk,ui]at hb2;simp_all⟩)
     ⟨some ⟨b',o,none⟩,cap,by rw[zx];simp,by simpa using hge,h4,.inr ⟨b',o,_,el',fz,rfl,setRow_heap w b' cs _ el' fz h6,?_,?_,?_⟩⟩ rfl
    ·simp_all
    ·simp_all
    ·refine RowsIn.append (RowsIn.congr (λj hj=>?_) h8) (RowsIn.yv (ρ:=ρ) hlen2 hnews λj c hj=>?_)
     ·simp only[tq];rw[yD _ _ _ _ ug,uw ua];simp
     ·have hjl:j<news.length:=(ux.1 hj).1;simp only[tq];rw[yD _ _ _ _ ug,ur ua,uw ua]
      simp_all
end
variable {m:Nat}
section
variable {k:List Frm} {n:Nat} {sl:zd}
def zar(T:Ty P)(id':Nat){d:Nat}{y:Operand}{tx ty:TypeId}(hC:C.low){id e bytes:Nat}(rows3:List (List PV))
 (hx:ev sl x=some (.one (.ar id))) (hy:ev sl y=some (I (m:Int))) (hT:tg tab id=some (.arr e rows)) (he:T.es t=some (el,e)) (hk:P.underlying tx=some (.int .i64)) (hz:T.zs el=some z) (hp:pvsOf z=some row) (hr:rows++List.replicate m row=rows3) (U:Nat.beq row.length e=true) (hby:(P.info? el).map (·.bytes)=some bytes)
 (hb:(rows.length+m)*bytes<=140737488355328) (J:rows.length+m<=9223372036854775807) (hm:metL all sl g0=some gs) (hd:Nat.blt d n=true) (hf:(Nat.ble 100 id'&&freshB id' ⟨n,sl,tab⟩)=true)
 (g:Goal P C (.ops all rest (nx md ⟨some d,gs++(rq x (.one (.ar id))++rq y (I (m:Int))),[(id,.arr e rows)],[id'],.one (.ar id'),[(id',some (.arr e rows3)),(id,none)]⟩)) k n ((d,.one (.ar id'))::sl) ([(id',some (.arr e rows3)),(id,none)]++tab) Q):
 Goal P C (.ops all (⟨some d,.call ⟨.builtin .append,#[x,y],#[t,tx]⟩,ty,ps,af,g0⟩::rest) md) k n sl tab Q:=by
 subst hr;have e1:=zu (st:=⟨n,sl,tab⟩) hx;have e2:=zu (st:=⟨n,sl,tab⟩) hy;have:=zj hm (zln (P:=P) (ty:=ty) (ps:=ps) (af:=af) (g:=g0) (d:=some d) (id':=id') (rows:=rows) e1.1 e2.1 (T.es_ok _ _ he) hk (T.zs_ok _ _ hz) hp (uA U) hby hb J) (n:=n) (tab:=tab);exact zN (L:=⟨some d,gs++(rq x (.one (.ar id))++rq y (I (m:Int))),[(id,.arr e rows)],[id'],.one (.ar id'),[(id',some (.arr e (rows++List.replicate m row))),(id,none)]⟩) hC this.1 rfl ⟨by rw[za,za];simp_all,⟨hT,uh⟩,zae hf,hd⟩ g
end
section
variable {ty:TypeId} {z:Operand}
def zul{n:Nat}(J:okc x (.one (.p (.k (.slice none 0 0)))))(U:elemSz P t=some (el,n)):
 Snd P ⟨d,.call ⟨.builtin .cap,#[x],#[t]⟩,ty,ps,af,g⟩ (rq x (.one (.p (.k (.slice none 0 0))))) [] [] (I 0) []:=
 zk λC st M ρ a w hH h1 hT=>by
  have e1:=hH.k (zt J h1);obtain⟨_,hu,_,_⟩:=zw U;exact⟨.int .i64 0,by simp[execOp,resolve,invoke,builtin,Builtin.cap_,run_underlying hu,e1,goInt],by simp only[RepS,RepV,RepPV];exact⟨uh,rfl⟩⟩
def zwD{n:Nat}(hx:okc x (.one (.p (.k (.slice none 0 0)))))(hz:okc z (Kk k' 0))(he:elemSz P t=some (el,n)):
 Snd P ⟨d,.slice t x none (some z) none,ty,ps,af,g⟩ (rq x (.one (.p (.k (.slice none 0 0))))++rq z (Kk k' 0)) [] [] (.one (.p (.k (.slice none 0 0)))) []:=
 zk λC st M ρ a w hH J hT=>by
  rw[za]at J;have e1:=hH.k (zt hx J.1);have e3:=hH.k (zt hz J.2);obtain⟨hu,U⟩:=zaE he;refine⟨.slice none 0 0,?_,by simp only[RepS,RepV,RepPV];exact⟨uh,rfl⟩⟩;have hr:=run_slice_h w t none 0 0 hu k' 0 ua ua;simp only[execOp,e1,e3,tV,uH,Sem.run_bind,run_sliceAt_slice w t _ _ _ _ hu,hr,U,Result.andThen_ok,Sem.run_pure];simp[sliced]
end
section
variable {k:List Frm} {n:Nat} {sl:zd}
def zh8(T:Ty P){d:Nat}{ty:TypeId}(hC:C.low)
 (J:ev sl x=some (.one (.p (.k (.slice none 0 0))))) (U:T.es t=some (el,m)) (hm:metL all sl g0=some gs) (hd:Nat.blt d n=true)
 (g:Goal P C (.ops all rest (nx md ⟨some d,gs++rq x (.one (.p (.k (.slice none 0 0)))),[],[],I 0,[]⟩)) k n ((d,I 0)::sl) tab Q):
 Goal P C (.ops all (⟨some d,.call ⟨.builtin .cap,#[x],#[t]⟩,ty,ps,af,g0⟩::rest) md) k n sl tab Q:=by
 have e1:=zu (st:=⟨n,sl,tab⟩) J;have:=zj hm (zul (P:=P) (ty:=ty) (ps:=ps) (af:=af) (g:=g0) (d:=some d) e1.1 (T.es_ok _ _ U)) (n:=n) (tab:=tab);exact zN (L:=⟨some d,gs++rq x (.one (.p (.k (.slice none 0 0)))),[],[],I 0,[]⟩) hC this.1 rfl ⟨by rw[za];simp_all,trivial,rfl,hd⟩ g
def zum(T:Ty P){d:Nat}{z:Operand}{ty:TypeId}(hC:C.low)
 (J:ev sl x=some (.one (.p (.k (.slice none 0 0))))) (U:ev sl z=some (Kk k1 0)) (he:T.es t=some (el,m)) (hm:metL all sl g0=some gs) (hd:Nat.blt d n=true)
 (g:Goal P C (.ops all rest (nx md ⟨some d,gs++(rq x (.one (.p (.k (.slice none 0 0))))++rq z (Kk k1 0)),[],[],.one (.p (.k (.slice none 0 0))),[]⟩)) k n ((d,.one (.p (.k (.slice none 0 0))))::sl) tab Q):
 Goal P C (.ops all (⟨some d,.slice t x none (some z) none,ty,ps,af,g0⟩::rest) md) k n sl tab Q:=by
 have e1:=zu (st:=⟨n,sl,tab⟩) J;have e2:=zu (st:=⟨n,sl,tab⟩) U;have:=zj hm (zwD (P:=P) (ty:=ty) (ps:=ps) (af:=af) (g:=g0) (d:=some d) e1.1 e2.1 (T.es_ok _ _ he)) (n:=n) (tab:=tab);exact zN (L:=⟨some d,gs++(rq x (.one (.p (.k (.slice none 0 0))))++rq z (Kk k1 0)),[],[],.one (.p (.k (.slice none 0 0))),[]⟩) hC this.1 rfl ⟨by rw[za,za];simp_all,trivial,rfl,hd⟩ g
end
end Hw
