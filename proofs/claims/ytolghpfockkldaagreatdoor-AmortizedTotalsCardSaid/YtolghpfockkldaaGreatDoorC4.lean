import Derived.Test.YtolghpfockkldaaGreatDoorC3
import Derived.Test.YtolghpfockkldaaGreatDoorC1
import Derived.Sort.Grow
import Derived.Test.YtolghpfockkldaaGreatDoorProg
import Derived.KernelRfl
import Derived.Shelf.Strconv.Itoa0
import Derived.Deep.AppendSrc
set_option linter.unusedVariables false
set_option linter.unusedSimpArgs false
set_option linter.unusedSectionVars false
set_option linter.unnecessarySimpa false
namespace Hw
open Go Go.Proofs
def RbF(id id':Nat)(js:List Nat)(ρ:Nat->Value):Prop:= ∃cs ds:List Value,ρ id= .tuple cs.toArray/\ρ id'= .tuple ds.toArray/\ ∀(i q:Nat),js[i]?=some q->ds[i]?=cs[q]?
theorem RbF.nv{id id' i q:Nat}{js:List Nat}(h:js[i]?=some q):RwV (RbF id id' js) (.nv id q) (.nv id' i):=λM ρ x hF U=>by
 obtain⟨cs,ds,h1,h2,h3⟩:=hF;simp only[RepV]at U⊢;obtain⟨xs,J,f2,f3⟩:=U;rw[h1]at J;have:xs=cs:=by simp only[Value.tuple.injEq]at J;have:=uX Array.toList J;simpa using this.symm
 subst this;exact⟨ds,h2,by rw[h3 i q h];exact f2,f3⟩
variable {C:Ctx}{P:Program}{Q:Exit->St->Prop}{tab:Tab}
section
variable {k:List Frm} {n:Nat} {sl:zf} {cur:Cur}
end
section
variable {d:Option Nat} {ty et:TypeId} {ps:String} {af:Array Edge} {g:Option (Nat×Bool)} {t t':TypeId} {x:Operand}
end
section
variable {k:List Frm} {n:Nat} {sl:zf} {all:Array Oper} {rest:List Oper}
end
section
variable {B:RL}
theorem LnV.sv{id e a m:Nat}{rows:List (List PV)}(hm:(id,.arr e rows)∈B)(hle: ∀r∈rows,r.length=e)(ha:a+m<=rows.length):LnV B (.sv id (a*e) m) (.p (.sl e ((rows.drop a).take m))):=λM ρ w u hH hr=>by
 simp only[RepV,RepPV]at hr⊢;have J:((rows.drop a).take m).length=m:=by rw[td,tP];omega
 rcases hr with⟨rfl,a',c,rfl⟩|⟨b,o,N,cap,c,h1,rfl,h3,h4⟩
 ·exact⟨a',c,by rw[qV];rfl,by rw[qV];exact uz _,by rw[qV];exact uz _,.inl (qV)⟩
 ·refine⟨_,c,by rw[J],by rw[J];exact h3,by rw[J];omega,.inr ⟨b,_,rfl,?_⟩⟩;have hA:jh M w (ρ id) e rows:=hH.2 id _ hm;obtain⟨av,cap',U,g2,g3,g4⟩:=hA;rw[h1]at U;simp only[Value.slice.injEq]at U;rcases g4 with⟨g4,_⟩|⟨b',o',cs,el,fz,g5,g6,_,_,g8⟩
  ·rw[g4]at U;cases U.1
  ·rw[g5]at U;simp only[ui,Addr.mk.injEq]at U;obtain⟨⟨rfl,rfl,_⟩,_⟩:=U;have hb: ∃i r,(i,r)∈B/\Bk (ρ i) b:=⟨id,_,hm,by rw[h1];rfl⟩;have:=RowsIn.mono (M':=lentN M ρ w B) vc (λi c hc=>zaS hH.1 hb g6 i c hc) _ _ g8;exact(this.drop a).take m
end
end Hw
namespace Hw
open Go Go.Proofs Go.Sort
section
variable {α:Type} [Inhabited α]
end
end Hw
namespace Hw
open Go Go.Proofs
variable {cs:List Value}
theorem zbE:zcJ cs↔cs.Pairwise λx y=> ∀b,blk x=some b->blk y≠some b:=by
 rw[List.pairwise_iff_getElem];constructor
 ·intro h i j U hj hij b hb J;exact h i j b _ _ (ta U) (ta hj) ua hb J
 ·intro h i j b x y hx hy hne hb J;obtain⟨U,rfl⟩:=uw.1 hx;obtain⟨hj,rfl⟩:=uw.1 hy;rcases tp i j with h1|h1
  ·exact h i j U hj h1 b hb J
  ·exact h j i hj U ua b J hb
theorem zcJ.sub{ds:List Value}(h:zcJ cs)(J:ds.Sublist cs):zcJ ds:=zbE.2 ((zbE.1 h).sublist J)
theorem zcJ.cons{v:Value}(h:zcJ cs)(hv: ∀c∈cs,∀b,blk c=some b->blk v≠some b):zcJ (v::cs):=
 zbE.2 (List.pairwise_cons.2 ⟨λc U b hb J=>hv c U b J hb,zbE.1 h⟩)
end Hw
namespace Hw
open Go
theorem TkF.arr{id J id' m n:Nat}(h:n=m):RwV (TkF id J id' m) (.ar J) (.nv id' n):=by subst h;exact TkF.ar
variable {C:Ctx}{P:Program}{Q:Exit->St->Prop}{all:Array Oper}{rest:List Oper}{tab:Tab}
section
variable {k:List Frm} {n:Nat} {sl:zf}
end
section
variable {k:List Frm} {n:Nat} {sl:zf} {cur:Cur}
end
variable {af:Array Edge}{d:Option Nat}{g:Option (Nat×Bool)}{ps:String}{t:TypeId}
section
variable {ty:TypeId} {x y z:Operand}
end
section
variable {k:List Frm} {n:Nat} {sl:zf}
end
section
variable {ty:TypeId}
end
section
variable {k:List Frm} {n:Nat} {sl:zf}
end
section
variable {ty:TypeId} {x y:Operand}
end
section
variable {k:List Frm} {n:Nat} {sl:zf}
end
variable {tys:Array TypeId}
section
variable {ty:TypeId} {x1 x2:Operand}
theorem ztT{a b c:Int}(U:(if b<a then b else a)=c)(h1:okc x1 (I a))(h2:okc x2 (I b)):
 Snd P ⟨d,.call ⟨.builtin .min,#[x1,x2],tys⟩,ty,ps,af,g⟩ (rq x1 (I a)++rq x2 (I b)) [] [] (I c) []:=
 zm λC st M ρ act w J h _=>by
  rw[za]at h;have e1:=J.k (zz h1 h.1);have e2:=J.k (zz h2 h.2);exact⟨.int .i64 c,by rw[<-U];simp[execOp,resolve,invoke,builtin,Builtin.min_,Builtin.min2,e1,e2],zj6 _ _⟩
theorem ztU{a b c:Int}(U:(if a<b then b else a)=c)(h1:okc x1 (I a))(h2:okc x2 (I b)):
 Snd P ⟨d,.call ⟨.builtin .max,#[x1,x2],tys⟩,ty,ps,af,g⟩ (rq x1 (I a)++rq x2 (I b)) [] [] (I c) []:=
 zm λC st M ρ act w J h _=>by
  rw[za]at h;have e1:=J.k (zz h1 h.1);have e2:=J.k (zz h2 h.2);exact⟨.int .i64 c,by rw[<-U];simp[execOp,resolve,invoke,builtin,Builtin.max_,Builtin.max2,e1,e2],zj6 _ _⟩
end
variable {g0:Option (Nat×Bool)}{gs:zf}{md:Mode}{ts:Array TypeId}
section
variable {k:List Frm} {n:Nat} {sl:zf}
theorem zly{d:Nat}{x1 x2:Operand}{ty:TypeId}(hC:C.low){a b:Int}(c:Int)
 (h1:ev sl x1=some (I a)) (h2:ev sl x2=some (I b)) (hc:(if b<a then b else a)=c) (hm:metL all sl g0=some gs) (hd:Nat.blt d n=true)
 (g:Goal P C (.ops all rest (nx md ⟨some d,gs++(rq x1 (I a)++rq x2 (I b)),[],[],I c,[]⟩)) k n ((d,I c)::sl) tab Q):
 Goal P C (.ops all (⟨some d,.call ⟨.builtin .min,#[x1,x2],ts⟩,ty,ps,af,g0⟩::rest) md) k n sl tab Q:=by
 have J:=zB (st:=⟨n,sl,tab⟩) h1;have U:=zB (st:=⟨n,sl,tab⟩) h2;have:=zk hm (ztT (P:=P) (ty:=ty) (ps:=ps) (af:=af) (g:=g0) (d:=some d) (tys:=ts) hc J.1 U.1) (n:=n) (tab:=tab);exact zT (L:=⟨some d,gs++(rq x1 (I a)++rq x2 (I b)),[],[],I c,[]⟩) hC this.1 rfl ⟨by rw[za,za];exact⟨this.2,J.2,U.2⟩,trivial,rfl,hd⟩ g
theorem v7{d:Nat}{x1 x2:Operand}{ty:TypeId}(hC:C.low){a b:Int}(c:Int)
 (h1:ev sl x1=some (I a)) (h2:ev sl x2=some (I b)) (hc:(if a<b then b else a)=c) (hm:metL all sl g0=some gs) (hd:Nat.blt d n=true)
 (g:Goal P C (.ops all rest (nx md ⟨some d,gs++(rq x1 (I a)++rq x2 (I b)),[],[],I c,[]⟩)) k n ((d,I c)::sl) tab Q):
 Goal P C (.ops all (⟨some d,.call ⟨.builtin .max,#[x1,x2],ts⟩,ty,ps,af,g0⟩::rest) md) k n sl tab Q:=by
 have J:=zB (st:=⟨n,sl,tab⟩) h1;have U:=zB (st:=⟨n,sl,tab⟩) h2;have:=zk hm (ztU (P:=P) (ty:=ty) (ps:=ps) (af:=af) (g:=g0) (d:=some d) (tys:=ts) hc J.1 U.1) (n:=n) (tab:=tab);exact zT (L:=⟨some d,gs++(rq x1 (I a)++rq x2 (I b)),[],[],I c,[]⟩) hC this.1 rfl ⟨by rw[za,za];exact⟨this.2,J.2,U.2⟩,trivial,rfl,hd⟩ g
end
variable {M:Mem}{el:TypeId}{i:Int}{rows:List (List PV)}{w:World}{ρ:Nat->Value}
section
variable {ty:TypeId} {x y:Operand} {tx:TypeId}
def zu4(ρ:Nat->Value)(id k e m:Nat)(v:Value):Prop:=(m=0/\ ∃(a:Option Addr) (c:Nat),v= .slice a 0 c)\/ ∃(b o N cap c:Nat),ρ id= .slice (some ⟨b,o,none⟩) N cap/\v= .slice (some ⟨b,o+k*e,none⟩) m c
def zu5(e:Nat)(s:S)(rt:RL)(n:Nat)(rows2:List (List PV)):Prop:=
 ∀(C:Ctx) (st:St) (M:Mem) (ρ:Nat->Value) (a:Act) (w:World) (v:Value),Holds C st M ρ a w->RepS M ρ s v->okT rt st->
  rows2.length=n/\ ∃(ad:Option Addr) (cap:Nat),v= .slice ad n cap/\(n=0\/ ∃(b o:Nat) (gg:Nat->Option Value),ad=some ⟨b,o,none⟩/\(∀i c,gg i=some c->w.cell? ⟨b,i,none⟩=some c)/\RowsIn M gg e rows2 o)
theorem zu5.sl{e:Nat}{rows:List (List PV)}:zu5 e (.one (.p (.sl e rows))) [] rows.length rows:=λC st M ρ a w v U J _=>by
 simp only[RepS,RepV,RepPV]at J;obtain⟨ad,cap,h1,_,_,h4⟩:=J;refine⟨rfl,ad,cap,h1,?_⟩;rcases h4 with h4|⟨b,o,h5,h6⟩
 ·exact .inl (by rw[h4];rfl)
 ·exact .inr ⟨b,o,M b,h5,λi c hi=>U.run.imm b i c hi,h6⟩
theorem zu5.sv{id e n:Nat}{rows:List (List PV)}(hn:n<=rows.length):zu5 e (.one (.sv id 0 n)) [(id,.arr e rows)] n (rows.take n):=λC st M ρ a w v hH hr ht=>by
 simp only[RepS,RepV]at hr;refine⟨by rw[td];omega,?_⟩;rcases hr with⟨h0,ad,c,U⟩|⟨b,o,N,cap,c,U,h2,_,_⟩
 ·subst h0;exact⟨ad,c,U,.inl rfl⟩
 ·refine⟨_,c,h2,?_⟩;obtain⟨ad,cap',h3,h4,h5,J⟩:=hH.zP.res id _ ht.1;rw[U]at h3;simp only[Value.slice.injEq]at h3;rcases J with⟨J,_⟩|⟨b',o',cs,el,fz,J,h7,_,_,h8⟩
  ·rw[J]at h3;cases h3.1
  ·rw[J]at h3;have hbo:b=b'/\o=o':=by have:=h3.1;simp at this;exact this
   obtain⟨rfl,rfl⟩:=hbo;exact .inr ⟨b,o+0,λi=>cs[i]?,rfl,λi c hi=>by simp only[World.cell?,h7];simpa using hi,by rw[tY];exact h8.take n⟩
theorem zu4.ar{C:Ctx}{st:St}{M:Mem}{ρ:Nat->Value}{a:Act}{w:World}(U:Holds C st M ρ a w){id e:Nat}{rows:List (List PV)}{v:Value}(hT:tg st.tab id=some (.arr e rows))(h:RepS M ρ (.one (.ar id)) v):zu4 ρ id 0 e rows.length v:=by
 simp only[RepS,RepV]at h;obtain⟨ad,cap,h3,h4,h5,J⟩:=U.zP.res id _ hT;rcases J with⟨J,h7⟩|⟨b,o,cs,el,fz,J,_⟩
 ·exact .inl ⟨ua,ad,cap,by rw[h.1,h3,show rows.length=0 by omega]⟩
 ·exact .inr ⟨b,o,rows.length,cap,cap,by rw[h3,J],by rw[h.1,h3,J,oQ,tY]⟩
theorem zu4.sv{M:Mem}{ρ:Nat->Value}{id k e m:Nat}{v:Value}(h:RepS M ρ (.one (.sv id (k*e) m)) v):zu4 ρ id k e m v:=by
 simp only[RepS,RepV]at h;rcases h with⟨U,ad,c,J⟩|⟨b,o,N,cap,c,J,h2,_,_⟩
 ·exact .inl ⟨U,ad,c,J⟩
 ·exact .inr ⟨b,o,N,cap,c,J,h2⟩
theorem zlz{id e:Nat}{l h:Nat}{a:Option Addr}{cap:Nat}(J:zO M ρ w id (.arr e rows))(hv:ρ id= .slice a rows.length cap)(U:l<=h)(h2:h<=rows.length):
 RepV M ρ (.sv id (l*e) (h - l)) (sliced a l h cap e):=
 ztS (J.ztF []) (by rw[uk];exact hv) U (by rw[uk];exact h2)
theorem zwg{z:Operand}{id e:Nat}{j:Int}{k':IntKind}(hx:okc x (.one (.ar id)))(hz:okc z (Kk k' j))(he:elemSz P t=some (el,e))(h0:0<=j)(h2:j<=rows.length):
 Snd P ⟨d,.slice t x none (some z) none,ty,ps,af,g⟩ (rq x (.one (.ar id))++rq z (Kk k' j)) [(id,.arr e rows)] [] (.one (.sv id 0 j.toNat)) []:=
 zm λC st M ρ b w J U hT=>by
  rw[za]at U;have e1:=J.evS (zz hx U.1);have e3:=J.k (zz hz U.2);simp only[RepS,RepV]at e1;have hR:=J.zP.res id _ hT.1;obtain⟨a,cap,f1,f2,f3,_⟩:=J.zP.res id _ hT.1;obtain⟨hu,hsz⟩:=zbQ he;have:=zlz hR f1 (uz j.toNat) ua;rw[oQ,Nat.sub_zero]at this;refine⟨sliced a 0 j.toNat cap e,?_,by simp only[RepS];exact this⟩;simp only[execOp,e1.1,f1,e3,qi,uO,Sem.run_bind,run_sliceAt_slice w t _ _ _ _ hu,run_slice_h w t a rows.length cap hu k' j h0 ua,hsz,Result.andThen_ok,Sem.run_pure]
theorem ztV{id e:Nat}{k:IntKind}(hx:okc x (.one (.ar id)))(hy:okc y (Kk k i))(he:elemSz P t=some (el,e))(h0:0<=i)(h2:i<=rows.length):
 Snd P ⟨d,.slice t x (some y) none none,ty,ps,af,g⟩ (rq x (.one (.ar id))++rq y (Kk k i)) [(id,.arr e rows)] [] (.one (.sv id (i.toNat*e) (rows.length - i.toNat))) []:=
 zm λC st M ρ b w J U hT=>by
  rw[za]at U;have e1:=J.evS (zz hx U.1);have e2:=J.k (zz hy U.2);simp only[RepS,RepV]at e1;have hR:=J.zP.res id _ hT.1;obtain⟨a,cap,f1,f2,f3,_⟩:=J.zP.res id _ hT.1;obtain⟨hu,hsz⟩:=zbQ he;refine⟨sliced a i.toNat rows.length cap e,?_,by simp only[RepS];exact zlz hR f1 ua (uF _)⟩;simp only[execOp,e1.1,f1,e2,qi,uO,Sem.run_bind,run_sliceAt_slice w t _ _ _ _ hu,run_slice_l w t a rows.length cap hu k i h0 ua,hsz,Result.andThen_ok,Sem.run_pure]
end
section
variable {k:List Frm} {n:Nat} {sl:zf}
theorem ztW(T:Ty P){d:Nat}{x y:Operand}{ty:TypeId}(hC:C.low){id e:Nat}{k0:IntKind}
 (hx:ev sl x=some (.one (.ar id))) (hy:ev sl y=some (Kk k0 i)) (hT:tg tab id=some (.arr e rows)) (he:T.es t=some (el,e)) (h0:0<=i) (h2:i<=rows.length) (hm:metL all sl g0=some gs) (hd:Nat.blt d n=true)
 (g:Goal P C (.ops all rest (nx md ⟨some d,gs++(rq x (.one (.ar id))++rq y (Kk k0 i)),[(id,.arr e rows)],[],.one (.sv id (i.toNat*e) (rows.length - i.toNat)),[]⟩)) k n ((d,.one (.sv id (i.toNat*e) (rows.length - i.toNat)))::sl) tab Q):
 Goal P C (.ops all (⟨some d,.slice t x (some y) none none,ty,ps,af,g0⟩::rest) md) k n sl tab Q:=by
 have J:=zB (st:=⟨n,sl,tab⟩) hx;have U:=zB (st:=⟨n,sl,tab⟩) hy;have:=zk hm (ztV (P:=P) (ty:=ty) (ps:=ps) (af:=af) (g:=g0) (d:=some d) (rows:=rows) J.1 U.1 (T.es_ok _ _ he) h0 h2) (n:=n) (tab:=tab);exact zT (L:=⟨some d,gs++(rq x (.one (.ar id))++rq y (Kk k0 i)),[(id,.arr e rows)],[],.one (.sv id (i.toNat*e) (rows.length - i.toNat)),[]⟩) hC this.1 rfl ⟨by rw[za,za];exact⟨this.2,J.2,U.2⟩,⟨hT,uh⟩,rfl,hd⟩ g
end
end Hw
namespace Hw.Gm
open Go Go.Proofs Hw.M Ps
theorem zqm{s:S}{l:List S}:zH (s::l) (.un::l):=zH.cons (λ_ _ _ _=>by simp only[RepS]) (zH.refl _)
theorem zlA(d:zj)(fuel:Int)(m:Mc)(h:m.ticks≥fuel):ya Tryz.prog 273 [.one (.bx 0 0)] (mcR d fuel m 1 2 3 4) (znM 20) (mcR d fuel m 1 2 3 4):=by
 have hf:=vO 20;have ht:=h;refine zX T Tryz.func273 ud rfl rfl rfl λC hC=>?_
 repeat' first|refine gG ?_|(exfalso;have h2:=um h;omega)|refine gB ?_ ?_<;>intro h|(refine zr hC hf id rfl rfl zqm rfl rfl rfl rfl rfl rfl ?_)
 exact gU (zi ⟨rfl,id,⟨rfl,rfl,rfl,rfl,rfl,uh⟩,rfl,rfl⟩)
theorem zlB(d:zj)(fuel:Int)(m:Mc)(h: ¬m.ticks≥fuel)(h0:0<=m.ticks/\m.ticks<1099511627776):zh Tryz.prog 273 [.one (.bx 0 0)] (mcR d fuel m 1 2 3 4) (.tup []) (mcR d fuel { m with ticks:=m.ticks+1 } 1 2 3 4):=by
 have ht:=h;refine gO T Tryz.func273 λC hC=>?_
 repeat' first|refine gG ?_|(exfalso;have h2:=uj h;omega)|refine gB ?_ ?_<;>intro h
 rw[wrap64 ua];exact zi ⟨.inr rfl,id,_,rfl,.refl _,⟨rfl,rfl,rfl,rfl,rfl,uh⟩,rfl,rfl⟩
theorem zlC(n:Int)(h:inB n):zh Tryz.prog 298 [I n] [] (I (jO n)) []:=by
 unfold inB at h;have J:IntKind.i64.wrap (0 - n)= -n:=by rw[wrap64 ua];omega
 have U:(if n< -n then -n else n)=jO n:=by unfold jO;split<;>split<;>omega
 refine gO T Tryz.func298 λC hC=>?_
 repeat' first|refine gG ?_|refine gB ?_ ?_<;>intro h|refine zdD hC rfl rfl rfl ?_|(rw[J];refine v7 hC (jO n) rfl rfl U rfl rfl ?_)
 exact gF
theorem zrz(n:Int)(h: ¬(n>1099511627776\/n< -1099511627776)):zh Tryz.prog 287 [.un,I n] [] (I n) []:=by
 have h0:=h;refine gO T Tryz.func287 λC hC=>?_
 repeat' first|refine gG ?_|(exfalso;have h2:=uj h;omega)|refine gB ?_ ?_<;>intro h
 exact gF
theorem ztX(n:Int)(h:n>1099511627776\/n< -1099511627776):ya Tryz.prog 287 [.un,I n] [] (znM 5) []:=by
 have h0:=h;have hf:=vO 5;refine zX T Tryz.func287 ud rfl rfl rfl λC hC=>?_
 repeat' first|refine gG ?_|refine gB ?_ ?_<;>intro h|(refine zr hC hf id rfl rfl (zH.refl _) rfl rfl rfl rfl rfl rfl ?_)
 all_goals first
  |exact gU (zi ⟨rfl,id,trivial,rfl,rfl⟩)
  |(exfalso;simp only[uq,ur]at *; omega)
theorem ztY{a b:Int}(h: ¬a=0/\jO b>Int.tdiv 1099511627776 (jO a)->False): -1099511627776<=a*b/\a*b<=1099511627776:=by
 by_cases h0:a=0
 ·subst h0;simp
 ·have hA:0<jO a:=by unfold jO;split<;>omega
  have hB:0<=jO b:=by unfold jO;split<;>omega
  have h1:jO b<=Int.tdiv 1099511627776 (jO a):=Int.not_lt.1 λhh=>h ⟨h0,hh⟩
  have h2:jO b*jO a<=1099511627776:=by
   rw[Int.tdiv_eq_ediv_of_nonneg ub]at h1;exact Int.le_trans (Int.mul_le_mul_of_nonneg_right h1 (Int.le_of_lt hA)) (Int.ediv_mul_le _ ua)
  have h3:jO b*jO a=jO (a*b):=by
   unfold jO;by_cases U:a<0
   ·by_cases J:b<0
    ·rw[uv U,uv J,uu (by have:=Int.mul_pos_of_neg_of_neg U J;omega),Int.neg_mul_neg,Uo]
    ·rw[uv U,uu J];by_cases hz:b=0
     ·subst hz;simp
     ·rw[uv (Int.mul_neg_of_neg_of_pos U ua),Int.mul_neg,Uo]
   ·by_cases J:b<0
    ·rw[uu U,uv J,uv (Int.mul_neg_of_pos_of_neg ua J),Int.neg_mul,Uo]
    ·rw[uu U,uu J,uu (by have:=Int.mul_nonneg (show 0<=a by omega) (show 0<=b by omega);omega),Uo]
  rw[h3]at h2;unfold jO at h2;split at h2<;>omega
theorem zid(a b:Int): -jO a<=a.tdiv b/\a.tdiv b<=jO a:=by
 have h1:=Int.natAbs_tdiv_le_natAbs a b;unfold jO;split<;>omega
theorem zie{c:Int}(_h:c≠0):IntKind.i64.wrap (Int.tdiv 1099511627776 c)=Int.tdiv 1099511627776 c:=wrap64 (by
 have:=zid 1099511627776 c
 simp only[jO]at this;omega)
theorem zoE{a:Int}(h:inB a)(b:Int):IntKind.i64.wrap (Int.tdiv a b)=Int.tdiv a b:=wrap64 (by
 have:=zid a b;unfold inB at h;unfold jO at this
 split at this<;>omega)
def anE:An Int->End
 | .ok v _=> .ok (I v) []
 | .flt e _=> .pn (znM e) []
 | .out=> .no
theorem ztZ(m:Mc)(op a b:Int)(ha:inB a)(hb:inB b):FnX Tryz.prog 290 [.un,I op,I a,I b] [] (anE (zn1 m op a b)):=by
 have ha0:=ha;have hb0:=hb;unfold inB at ha0 hb0;unfold zn1;by_cases h9:op=9
 ·subst h9;rw[uv rfl];unfold jN;have J:IntKind.i64.wrap (a+b)=a+b:=wrap64 ua;split
  ·rename_i h;have hp:=ztX (IntKind.i64.wrap (a+b)) (by rw[J];exact h);show ya _ _ _ _ _ _;refine zX T Tryz.func290 ud rfl rfl rfl λC hC=>?_
   repeat' first|refine gG ?_|exact gD|refine gB ?_ ?_<;>intro h|(refine zr hC hp id rfl rfl (zH.refl _) rfl rfl rfl rfl rfl rfl ?_)
   exact gU (zi ⟨rfl,id,trivial,rfl,rfl⟩)
  ·rename_i h;have hp:=zrz (IntKind.i64.wrap (a+b)) (by rw[J];exact h);show zh _ _ _ _ _ _;refine gO T Tryz.func290 λC hC=>?_
   repeat' first|refine gG ?_|exact gD|refine gB ?_ ?_<;>intro h|refine gC hp ?_
   rw[J];exact gF
 rw[uu h9];by_cases h10:op=10
 ·subst h10;rw[uv rfl];unfold jN;have J:IntKind.i64.wrap (a - b)=a - b:=wrap64 ua;split
  ·rename_i h;have hp:=ztX (IntKind.i64.wrap (a - b)) (by rw[J];exact h);show ya _ _ _ _ _ _;refine zX T Tryz.func290 ud rfl rfl rfl λC hC=>?_
   repeat' first|refine gG ?_|exact gD|refine gB ?_ ?_<;>intro h|(refine zr hC hp id rfl rfl (zH.refl _) rfl rfl rfl rfl rfl rfl ?_)
   exact gU (zi ⟨rfl,id,trivial,rfl,rfl⟩)
  ·rename_i h;have hp:=zrz (IntKind.i64.wrap (a - b)) (by rw[J];exact h);show zh _ _ _ _ _ _;refine gO T Tryz.func290 λC hC=>?_
   repeat' first|refine gG ?_|exact gD|refine gB ?_ ?_<;>intro h|refine gC hp ?_
   rw[J];exact gF
 rw[uu h10];by_cases h11:op=11
 ·subst h11;rw[uv rfl];have hsa:=zlC a ha;have hsb:=zlC b hb;have hf:=vO 5;split
  ·rename_i h;have U:=h;have hz:jO a≠0:=by unfold jO;split<;>omega
   have hq:=zie hz;show ya _ _ _ _ _ _;refine zX T Tryz.func290 ud rfl rfl rfl λC hC=>?_
   repeat' first|refine gG ?_|exact gD|(exfalso;have h2:=um h;omega)|(exfalso;simp only[ot,qE,uq]at h;exact U.1 h)|refine gB ?_ ?_<;>intro h|refine gC hsa ?_|refine gC hsb ?_|(refine zeP hC rfl rfl hz rfl rfl ?_;rw[hq])|(refine zr hC hf id rfl rfl (zH.refl _) rfl rfl rfl rfl rfl rfl ?_)
   all_goals first
    |exact gU (zi ⟨rfl,id,trivial,rfl,rfl⟩)
    |skip
  ·rename_i h;have U:=h;have J:IntKind.i64.wrap (a*b)=a*b:=wrap64 (by have:=ztY (a:=a) (b:=b) (λhh=>U hh);omega);show zh _ _ _ _ _ _;by_cases hz0:a=0
   ·subst hz0;refine gO T Tryz.func290 λC hC=>?_
    repeat' first|refine gG ?_|exact gD|refine gB ?_ ?_<;>intro h
    rw[J];exact gF
   ·have hz:jO a≠0:=by unfold jO;split<;>omega
    have hq:=zie hz;have hle: ¬jO b>Int.tdiv 1099511627776 (jO a):=λhh=>U ⟨hz0,hh⟩
    refine gO T Tryz.func290 λC hC=>?_
    repeat' first|refine gG ?_|exact gD|(exfalso;exact hle (uj h))|(exfalso;simp only[ot,qE,uq]at h;exact hz0 h)|refine gB ?_ ?_<;>intro h|refine gC hsa ?_|refine gC hsb ?_|(refine zeP hC rfl rfl hz rfl rfl ?_;rw[hq])
    rw[J];exact gF
 rw[uu h11];by_cases h12:op=12
 ·subst h12;rw[uv rfl];have hf:=vO 18;split
  ·rename_i h;subst h;show ya _ _ _ _ _ _;refine zX T Tryz.func290 ud rfl rfl rfl λC hC=>?_
   repeat' first|refine gG ?_|exact gD|refine gB ?_ ?_<;>intro h|(refine zr hC hf id rfl rfl (zH.refl _) rfl rfl rfl rfl rfl rfl ?_)
   exact gU (zi ⟨rfl,id,trivial,rfl,rfl⟩)
  ·rename_i h;have U:=h;have hq:=zoE ha b;show zh _ _ _ _ _ _;refine gO T Tryz.func290 λC hC=>?_
   repeat' first|refine gG ?_|exact gD|(exfalso;exact U (uj h))|refine gB ?_ ?_<;>intro h|(refine zeP hC rfl rfl U rfl rfl ?_;rw[hq])
   exact gF
 rw[uu h12];by_cases h13:op=13
 ·subst h13;rw[uv rfl];have hf:=vO 18;split
  ·rename_i h;subst h;show ya _ _ _ _ _ _;refine zX T Tryz.func290 ud rfl rfl rfl λC hC=>?_
   repeat' first|refine gG ?_|exact gD|refine gB ?_ ?_<;>intro h|(refine zr hC hf id rfl rfl (zH.refl _) rfl rfl rfl rfl rfl rfl ?_)
   exact gU (zi ⟨rfl,id,trivial,rfl,rfl⟩)
  ·rename_i h;have U:=h;show zh _ _ _ _ _ _;refine gO T Tryz.func290 λC hC=>?_
   repeat' first|refine gG ?_|exact gD|(exfalso;exact U (uj h))|refine gB ?_ ?_<;>intro h|(refine zqY hC rfl rfl U rfl rfl ?_)
   exact gF
 rw[uu h13];by_cases h22:op=22
 ·subst h22;rw[uv rfl];show zh _ _ _ _ _ _;refine gO T Tryz.func290 λC hC=>?_
  repeat' first|refine gG ?_|exact gD|refine gB ?_ ?_<;>intro h|(refine v7 hC (if a<b then b else a) rfl rfl rfl rfl rfl ?_)
  exact gF
 rw[uu h22];show zh _ _ _ _ _ _;refine gO T Tryz.func290 λC hC=>?_
 repeat' first|refine gG ?_|(exfalso;first|exact h9 (uj h)|exact h10 (uj h)|exact h11 (uj h)|exact h12 (uj h)|exact h13 (uj h)|exact h22 (uj h))|refine gB ?_ ?_<;>intro h|(refine zly hC (if b<a then b else a) rfl rfl rfl rfl rfl ?_)
 exact gF
variable {x:Nd}
theorem wT{l:List Nd}{k b:Nat}(U:l[k]?=some x): ∀(j:Nat) (v:V),([.p (ki x.t)]:List V)[j]?=some v-> ∃p,(wRows l 0).flatten[k*2+j]?=some p/\toV [b] p=v:=by
 have hr:(wRows l 0)[k]?=some [PC.p (ki x.t),PC.n 0 k]:=by rw[x5,U,uO,tC]
 intro j v J
 match j,J with
 |0,J=>
  simp only[List.getElem?_cons_zero,ui]at J;subst J;exact⟨.p (ki x.t),by rw[ji (wU l 0) ua,hr];rfl,rfl⟩
 |j+1,J=>simp at J
theorem wF{l:List Nd}{k b:Nat}(U:l[k]?=some x): ∀(j:Nat) (v:V),([.nv b k]:List V)[j]?=some v-> ∃p,(wRows l 0).flatten[k*2+1+j]?=some p/\toV [b] p=v:=by
 have hr:(wRows l 0)[k]?=some [PC.p (ki x.t),PC.n 0 k]:=by rw[x5,U,uO,tC]
 intro j v J
 match j,J with
 |0,J=>
  simp only[List.getElem?_cons_zero,ui]at J;subst J;exact⟨.n 0 k,by rw[tY,ji (wU l 0) ua,hr];rfl,rfl⟩
 |j+1,J=>simp at J
variable {y:yn}
theorem zoF(d:zj)(fuel:Int)(m:Mc){v:Int}(hv:0<v)(hx:m.ns[(v - 1).toNat]?=some x)(ht:0<=x.t)(hy:d.types[x.t.toNat]?=some y)(s:Str):
 zh Tryz.prog 277 [.one (.bx 0 0),I v,Sr s] (mcR d fuel m 1 2 3 4) (I (idxI (ixF y.f s))) (mcR d fuel m 1 2 3 4):=by
 have hI:=zdY y.f s;have hlt:(v - 1).toNat<m.ns.length:=(uw.1 hx).1;have J:=yw m.ns 0;refine gO T Tryz.func277 λC hC=>?_;refine zry 2 rfl rfl λhl=>?_;have U:IntKind.i64.wrap (v - 1)=v - 1:=wrap64 ua
 repeat' first|refine gG ?_|refine gB ?_ ?_<;>intro h|(rw[U];refine zkv T hC rfl rfl rfl rfl ua (by rw[J];omega) rfl rfl ?_)|(refine zgq T hC [.p (ki x.t)] rfl rfl rfl (wT hx) rfl rfl rfl ?_)|refine xz T hC rfl rfl rfl ht (yZ hy) rfl rfl ?_|refine gC hI ?_
 exact gE
theorem yP{l:List Ex}{x:Ex}(h:l[1]?=some x):(l.map z8)[(1:Int).toNat]?=some (ye x):=xA (i:=1) h
theorem zdZ{l:List Ex}{x:Ex}(h:l[2]?=some x):(l.map z8)[(2:Int).toNat]?=some (ye x):=xA (i:=2) h
abbrev frR(fr:Fr):RL:=[(5,.box [.p (zx fr.vs),.ar 6]),(6,.arr 1 (fr.va.map yk))]
variable {i:Nat}
theorem xG{l:List Fld}{s:Str}(h:ixF l s=some i):zh Tryz.prog 275 [pS (zx l),Sr s] [] (I i) []:=by
 have J:=zdY l s;rw[h]at J;exact J
theorem ve{l:List Fld}{s:Str}(h:ixF l s=none):zh Tryz.prog 275 [pS (zx l),Sr s] [] (I (-1)) []:=by
 have J:=zdY l s;rw[h]at J;exact J
variable {d:zj}
theorem zif(fuel:Int)(m:Mc){s:Str}(h:zte d s=some i):zh Tryz.prog 286 [.one (.bx 0 0),Sr s] (mcR d fuel m 1 2 3 4) (I i) (mcR d fuel m 1 2 3 4):=by
 have J:=zlx d fuel m s;rw[h]at J;exact J
theorem zig{s:Str}(h:zcZ d s=some i):zh Tryz.prog 230 [zF (zJ d),Sr s] [] (I i) []:=by
 have J:=zcn d s;rw[h]at J;exact J
theorem zt0(d:zj)(vs:List Fld)(e:Ex):tyO d vs e=if e.op=4 then(match ixF vs e.s with
 |some i=>(vs[i]?).map (·.t)
 |none=>(ixF d.globals e.s).bind λi=>(d.globals[i]?).map (·.t))
 else if e.op=5 then(match e.l with
  |x::_=>(tyO d vs x).bind λt=>(zte d t).bind λi=>(d.types[i]?).bind λy=>(ixF y.f e.s).bind λj=>(y.f[j]?).map (·.t)
  | []=>none)
 else if e.op=6 then some e.s
 else if e.op=7 then(zcZ d e.s).bind λi=>(d.procs[i]?).map (·.res)
 else if e.op=21 then(match e.l with
  |_::y::z::_=>(tyO d vs y).bind λt=>if t=(⟨#[110,105,108]⟩:UH)then tyO d vs z else some t
  |_=>none)
 else if e.op=3 then some (⟨#[110,105,108]⟩:UH)
 else if e.op=2\/e.op=18\/e.op=19\/e.op=20\/e.op=14\/e.op=15\/e.op=16\/e.op=17 then some (⟨#[98,111,111,108]⟩:UH)
 else some (⟨#[105,110,116]⟩:UH):=by
 cases e
 conv=>lhs;unfold tyO
 rfl
theorem zt1(d:zj)(fuel:Int)(m:Mc)(fr:Fr): ∀(n:Nat) (e:Ex) (t:Str),sizeOf e<n->tyO d fr.vs e=some t->
 zh Tryz.prog 288 [.one (.bx 0 0),.one (.bx 5 0),zF (ye e)] (mcR d fuel m 1 2 3 4++frR fr) (Sr t) (mcR d fuel m 1 2 3 4++frR fr):=by
 intro n
 induction n with
 |zero=>intro e t h;omega
 |succ n ih=>
 intro e t hn h;rw[zt0]at h
 have hsz: ∀x∈e.l,sizeOf x<n:=λx hx=>by
  have:=qB hx;cases e;simp only[Ex.mk.sizeOf_spec,Ex.l]at hn this;omega
 by_cases h4:e.op=4
 ·have J:=h4;rw[uv h4]at h;cases hv:ixF fr.vs e.s with
  |some i=>
   rw[hv]at h;obtain⟨f,hf,rfl⟩:=uM.1 h;have hI:=xG hv;refine gO T Tryz.func288 λC hC=>?_
   repeat' first|refine gG ?_|(exfalso;first|(have U:=uj h;omega)|(have U:=um h;omega))|refine gB ?_ ?_<;>intro h|refine gC hI ?_|(refine gI T (zl hf) ?_)
   exact gE
  |none=>
   rw[hv]at h;obtain⟨i,hi,h⟩:=tM.1 h;obtain⟨f,hf,rfl⟩:=uM.1 h;have hI:=ve hv;have hJ:=xG hi;refine gO T Tryz.func288 λC hC=>?_
   repeat' first|refine gG ?_|(exfalso;first|(have U:=uj h;omega)|(have U:=um h;omega))|refine gB ?_ ?_<;>intro h|refine gC hI ?_|refine gC hJ ?_|(refine gI T (zl hf) ?_)
   exact gE
 rw[uu h4]at h;by_cases h5:e.op=5
 ·have J:=h5;rw[uv h5]at h;cases hl:e.l with
  |nil=>rw[hl]at h;cases h
  |cons x r=>
   rw[hl]at h hsz;simp only at h;have hx0:e.l[0]?=some x:=by rw[hl];rfl
   obtain⟨t1,h1,h⟩:=tM.1 h;obtain⟨i,hi,h⟩:=tM.1 h;obtain⟨y,hy,h⟩:=tM.1 h;obtain⟨j,hj,h⟩:=tM.1 h;obtain⟨f,hf,rfl⟩:=uM.1 h;have hX:=ih x t1 (hsz x ue) h1;have hI:=zif fuel m hi;have hJ:=xG hj;refine gO T Tryz.func288 λC hC=>?_
   repeat' first|refine gG ?_|(exfalso;first|(have U:=uj h;omega)|(have U:=um h;omega))|refine gB ?_ ?_<;>intro h|(refine gI T (zI hx0) ?_)|refine gK hX (nm [0,1,2,3,4,5,6]) ?_|refine gK hI (nm [0,1,2,3,4]) ?_|refine gC hJ ?_|(refine gI T (zl hy) ?_)|(refine gI T (zl hf) ?_)
   exact gE
 rw[uu h5]at h;by_cases h6:e.op=6
 ·have J:=h6;rw[uv h6]at h;obtain rfl:=uS h;refine gO T Tryz.func288 λC hC=>?_
  repeat' first|refine gG ?_|(exfalso;first|(have U:=uj h;omega)|(have U:=um h;omega))|refine gB ?_ ?_<;>intro h
  exact gE
 rw[uu h6]at h;by_cases h7:e.op=7
 ·have J:=h7;rw[uv h7]at h;obtain⟨i,hi,h⟩:=tM.1 h;obtain⟨p,hp,rfl⟩:=uM.1 h;have hI:=zig hi;refine gO T Tryz.func288 λC hC=>?_
  repeat' first|refine gG ?_|(exfalso;first|(have U:=uj h;omega)|(have U:=um h;omega))|refine gB ?_ ?_<;>intro h|refine gC hI ?_|(refine gI T (zl hp) ?_)
  exact gE
 rw[uu h7]at h;by_cases h21:e.op=21
 ·have J:=h21;rw[uv h21]at h
  obtain⟨y,hy1,h⟩: ∃y,e.l[1]?=some y/\ ∃z,e.l[2]?=some z/\y∈e.l/\z∈e.l/\((tyO d fr.vs y).bind λt=>if t=(⟨#[110,105,108]⟩:UH)then tyO d fr.vs z else some t)=some t:=by
   generalize e.l=l at h
   match l,h with
   |w::y::z::r,h=>exact⟨y,rfl,z,rfl,ue,ue,h⟩
  obtain⟨z,hz2,hym,hzm,h⟩:=h
  ·skip
   obtain⟨t1,h1,h⟩:=tM.1 h;have hY:=ih y t1 (hsz y hym) h1;by_cases hnl:t1=(⟨#[110,105,108]⟩:UH)
   ·rw[uv hnl]at h;subst hnl;have hZ:=ih z t (hsz z hzm) h;refine gO T Tryz.func288 λC hC=>?_
    repeat' first|refine gG ?_|(exfalso;first|(have U:=uj h;omega)|(have U:=um h;omega))|exact gD|refine gB ?_ ?_<;>intro h|(refine gI T (yP hy1) ?_)|(refine gI T (zdZ hz2) ?_)|refine gK hY (nm [0,1,2,3,4,5,6]) ?_|refine gK hZ (nm [0,1,2,3,4,5,6]) ?_
    exact gE
   ·rw[uu hnl]at h;obtain rfl:=uS h;refine gO T Tryz.func288 λC hC=>?_
    repeat' first|refine gG ?_|(exfalso;first|(have U:=uj h;omega)|(have U:=um h;omega))|(exfalso;simp only[ot,qE,qp,uq,ur,Decidable.not_not]at h;exact hnl h)|refine gB ?_ ?_<;>intro h|(refine gI T (yP hy1) ?_)|refine gK hY (nm [0,1,2,3,4,5,6]) ?_
    exact gE
 rw[uu h21]at h;by_cases h3:e.op=3
 ·have J:=h3;rw[uv h3]at h;obtain rfl:=uS h;refine gO T Tryz.func288 λC hC=>?_
  repeat' first|refine gG ?_|(exfalso;first|(have U:=uj h;omega)|(have U:=um h;omega))|refine gB ?_ ?_<;>intro h
  exact gE
 rw[uu h3]at h;by_cases hb:e.op=2\/e.op=18\/e.op=19\/e.op=20\/e.op=14\/e.op=15\/e.op=16\/e.op=17
 ·rw[uv hb]at h;obtain rfl:=uS h;rcases hb with J|J|J|J|J|J|J|J
  all_goals
   clear h3 h4 h5 h6 h7 h21;refine gO T Tryz.func288 λC hC=>?_
   repeat' first|refine gG ?_|(exfalso;first|(have U:=uj h;omega)|(have U:=um h;omega))|refine gB ?_ ?_<;>intro h
   exact gE
 ·rw[uu hb]at h;obtain rfl:=uS h;refine gO T Tryz.func288 λC hC=>?_
  repeat' first|refine gG ?_|(exfalso;have U:=uj h;first|exact h4 U|exact h5 U|exact h6 U|exact h7 U|exact h21 U|exact h3 U|exact hb ua)|refine gB ?_ ?_<;>intro h
  all_goals first
   |exact gE
def exE(d:zj)(fuel:Int)(fr:Fr):An Int->End
 | .ok v m=> .ok (I v) (mcR d fuel m 1 7 8 9++frR fr)
 | .flt e m=> .pn (znM e) (mcR d fuel m 1 7 8 9)
 | .out=> .no
def Mc.acd(m:Mc)(k n f:Int):Mc:={ m with acc:=m.acc++[(k,n,f)] }
variable {m:Mc}{β:Type}
theorem zco{k n f:Int}{c:Mc->An β}:zdG m k n f c= .out\/(m.acc.length<1099511627776/\zdG m k n f c=c (m.acd k n f)):=by
 unfold zdG ifA;by_cases h:m.acc.length<1099511627776
 ·rw[uv h];exact .inr ⟨h,rfl⟩
 ·rw[uu h];exact .inl rfl
theorem vi{α:Type}{l:List α}{f:α->An β}:atA l i f= .out\/ ∃x,l[i]?=some x/\atA l i f=f x:=by
 unfold atA;cases h:l[i]? with
 |none=>exact .inl rfl
 |some x=>exact .inr ⟨x,rfl,rfl⟩
theorem zdg{α:Type}{o:Option α}{f:α->An β}:opA o f= .out\/ ∃x,o=some x/\opA o f=f x:=by
 unfold opA;cases o with
 |none=>exact .inl rfl
 |some x=>exact .inr ⟨x,rfl,rfl⟩
theorem wx{p:Prop}[Decidable p]{x:An β}:ifA p x= .out\/(p/\ifA p x=x):=by
 unfold ifA;by_cases h:p
 ·rw[uv h];exact .inr ⟨h,rfl⟩
 ·rw[uu h];exact .inl rfl
theorem zqn{v:Int}{s:Str}{c:Nd->Nat->An β}:fdA d v s m c= .out\/
 ∃x y i,(0<v/\v<=1000000)/\m.ns[(v - 1).toNat]?=some x/\0<=x.t/\d.types[x.t.toNat]?=some y/\ixF y.f s=some i/\fdA d v s m c=c x i:=by
 unfold fdA;rcases wx (p:=0<v/\v<=1000000) (x:=atA m.ns (v - 1).toNat λx=>ifA (0<=x.t) (atA d.types x.t.toNat λy=>opA (ixF y.f s) λi=>c x i))with h|⟨J,h⟩
 ·exact .inl h
 rw[h];rcases vi (l:=m.ns) (i:=(v - 1).toNat) (f:=λx=>ifA (0<=x.t) (atA d.types x.t.toNat λy=>opA (ixF y.f s) λi=>c x i))with h|⟨x,h2,h⟩
 ·exact .inl h
 rw[h];rcases wx (p:=0<=x.t) (x:=atA d.types x.t.toNat λy=>opA (ixF y.f s) λi=>c x i)with h|⟨h3,h⟩
 ·exact .inl h
 rw[h];rcases vi (l:=d.types) (i:=x.t.toNat) (f:=λy=>opA (ixF y.f s) λi=>c x i)with h|⟨y,h4,h⟩
 ·exact .inl h
 rw[h];rcases zdg (o:=ixF y.f s) (f:=λi=>c x i)with h|⟨i,U,h⟩
 ·exact .inl h
 exact .inr ⟨x,y,i,J,h2,h3,h4,U,h⟩
variable {fuel:Int}
theorem zqo{v:Int}{s:Str}(hv:0<v)(J:m.ns[(v - 1).toNat]?=some x)(U:0<=x.t)(hy:d.types[x.t.toNat]?=some y)(hi:ixF y.f s=some i):
 zh Tryz.prog 277 [.one (.bx 0 0),I v,Sr s] (mcR d fuel m 1 2 3 4) (I i) (mcR d fuel m 1 2 3 4):=by
 have h:=zoF d fuel m hv J U hy s;rw[hi]at h;exact h
theorem zt2{l:List Int}{u:Int}(h:l[i]?=some u): ∀(j:Nat) (p:PV),([ki u]:List PV)[j]?=some p->(l.map yk).flatten[i*1+j]?=some p:=λj p J=>by
 match j,J with
 |0,J=>
  simp only[List.getElem?_cons_zero,ui]at J;subst J;rw[ji (zdM l) ua,uK,h];rfl
 |j+1,J=>simp at J
theorem zt3{fr:Fr}{e x:Ex}{m1:Mc}{v:Int}(hop:e.op=5)(hx:e.l[0]?=some x)(hX:zh Tryz.prog 274 [.one (.bx 0 0),.one (.bx 5 0),zF (ye x)] (mcR d fuel m 1 2 3 4++frR fr) (I v) (mcR d fuel m1 1 7 8 9++frR fr)):
 FnX Tryz.prog 274 [.one (.bx 0 0),.one (.bx 5 0),zF (ye e)] (mcR d fuel m 1 2 3 4++frR fr) (exE d fuel fr (fdV d v e.s m1)):=by
 unfold fdV;by_cases J:v=0
 ·rw[uv J];subst J;have hf:=vO 17;show ya _ _ _ _ _ _;refine zX T Tryz.func274 ud rfl rfl rfl λC hC=>?_
  repeat' first|refine gG ?_|(exfalso;first|(have J:=uj h;omega)|(have J:=um h;omega))|exact gD|refine gB ?_ ?_<;>intro h|(refine gI T (zI hx) ?_)|refine gR hX (nm [0,1,2,3,4,5,6,107,108,109]) ?_|(refine zr hC hf id rfl rfl zqm rfl rfl rfl rfl rfl rfl ?_)
  exact gU (zi ⟨rfl,nm [0,1,2,3,4,5,6,107,108,109],⟨rfl,rfl,rfl,rfl,rfl,uh⟩,rfl,rfl⟩)
 rw[uu J];rcases zqn (d:=d) (v:=v) (s:=e.s) (m:=m1) (c:=λx i=>atA x.f i λu=>zdG m1 1 v i λm=> .ok u m)with h|⟨y,t,i,h1,h2,h3,h4,h5,h⟩
 ·rw[h];trivial
 rw[h];rcases vi (l:=y.f) (i:=i) (f:=λu=>zdG m1 1 v i λm=>(.ok u m:An Int))with h|⟨u,h6,h⟩
 ·rw[h];trivial
 rw[h];rcases zco (m:=m1) (k:=1) (n:=v) (f:=i) (c:=λm=>(.ok u m:An Int))with h|⟨h7,h⟩
 ·rw[h];trivial
 rw[h];show zh _ _ _ _ _ _;have hF:=zqo (fuel:=fuel) h1.1 h2 h3 h4 h5;have hA:=jv d fuel m1 1 v i h7;have hlt:(v - 1).toNat<m1.ns.length:=(uw.1 h2).1;have hwl:=yw m1.ns 0;have U:IntKind.i64.wrap (v - 1)=v - 1:=wrap64 ua;have hil:i<y.f.length:=(uw.1 h6).1;refine gO T Tryz.func274 λC hC=>?_
 repeat' first|refine gG ?_|(exfalso;first|(have J:=uj h;omega)|(have J:=um h;omega))|refine gB ?_ ?_<;>intro h|(refine gI T (zI hx) ?_)|refine gR hX (nm [0,1,2,3,4,5,6,107,108,109]) ?_|refine gK hF (nm [0,1,107,108,109]) ?_|refine gR hA (nm [0,1,107,108,109,5,6,7,8,119]) ?_|(refine zkv T hC rfl rfl rfl rfl (by rw[U];omega) (by rw[U,hwl];omega) rfl rfl ?_;rw[U])|(refine zgq T hC [.nv 108 (v - 1).toNat] rfl rfl rfl (wF h2) rfl rfl rfl ?_)|(refine zp7 T hC rfl rfl rfl (zbX h2) rfl (uE _) (by rw[uk];omega) rfl rfl ?_)|(refine zq4 T hC [ki u] rfl rfl (zbX h2) rfl (zt2 h6) rfl rfl rfl ?_)
 exact gW [0,1,2,3,4,5,6,107,108,119]
theorem zt4{fr:Fr}{e:Ex}(hop:e.op=4):
 FnX Tryz.prog 274 [.one (.bx 0 0),.one (.bx 5 0),zF (ye e)] (mcR d fuel m 1 2 3 4++frR fr) (exE d fuel fr (nmV d fr e.s m)):=by
 unfold nmV;cases hi:ixF fr.vs e.s with
 |some i=>
  have J:=xG hi;rcases vi (l:=fr.va) (i:=i) (f:=λv=>(.ok v m:An Int))with h|⟨v,hv,h⟩
  ·simp only[h];trivial
  simp only[h];have U:i<fr.va.length:=(uw.1 hv).1;show zh _ _ _ _ _ _;refine gO T Tryz.func274 λC hC=>?_
  repeat' first|refine gG ?_|(exfalso;first|(have h0:=uj h;omega)|(have h0:=um h;omega))|refine gB ?_ ?_<;>intro h|refine gC J ?_|(refine jV T hC (rows:=fr.va.map yk) rfl rfl rfl rfl (uE _) (by rw[uk];omega) rfl rfl ?_)|(refine jw T hC i 0 (rows:=fr.va.map yk) (row:=yk v) rfl rfl rfl rfl (by rw[uK,hv];rfl) rfl rfl rfl ?_)
  exact gW [0,1,2,3,4,5,6,2,3,4]
 |none=>
  have J:=ve hi;simp only;rcases zdg (o:=ixF d.globals e.s) (f:=λi=>atA m.g i λv=>zdG m 1 0 i λm=>(.ok v m:An Int))with h|⟨i,hj,h⟩
  ·rw[h];trivial
  rw[h];rcases vi (l:=m.g) (i:=i) (f:=λv=>zdG m 1 0 i λm=>(.ok v m:An Int))with h|⟨v,hv,h⟩
  ·rw[h];trivial
  rw[h];rcases zco (m:=m) (k:=1) (n:=0) (f:=i) (c:=λm=>(.ok v m:An Int))with h|⟨h7,h⟩
  ·rw[h];trivial
  rw[h];have hJ:=xG hj;have hA:=jv d fuel m 1 0 i h7;have U:i<m.g.length:=(uw.1 hv).1;show zh _ _ _ _ _ _;refine gO T Tryz.func274 λC hC=>?_
  repeat' first|refine gG ?_|(exfalso;first|(have h0:=uj h;omega)|(have h0:=um h;omega))|refine gB ?_ ?_<;>intro h|refine gC J ?_|refine gC hJ ?_|refine gR hA (nm [0,1,2,3,4,5,6,7,8,119]) ?_|(refine jV T hC (rows:=m.g.map yk) rfl rfl rfl rfl (uE _) (by rw[uk];omega) rfl rfl ?_)|(refine jw T hC i 0 (rows:=m.g.map yk) (row:=yk v) rfl rfl rfl rfl (by rw[uK,hv];rfl) rfl rfl rfl ?_)
  exact gW [0,1,2,3,4,5,6,2,3,119]
set_option maxRecDepth 100000 in
theorem zt5{fr:Fr}{e:Ex}(hop:e.op=6):
 FnX Tryz.prog 274 [.one (.bx 0 0),.one (.bx 5 0),zF (ye e)] (mcR d fuel m 1 2 3 4++frR fr) (exE d fuel fr (nwV d e.s m)):=by
 have J:=yw m.ns 0;unfold nwV;by_cases h0:(m.ns.length:Int)≥4096
 ·rw[uv h0];have hf:=vO 21;show ya _ _ _ _ _ _;refine zX T Tryz.func274 ud rfl rfl rfl λC hC=>?_
  repeat' first|refine gG ?_|(exfalso;first|(have h0:=uj h;omega)|(have h0:=um h;omega))|(exfalso;have h1:=um h;rw[J]at h1;omega)|refine gB ?_ ?_<;>intro h|(refine zkw T hC rfl rfl rfl rfl rfl ?_)|(refine zr hC hf id rfl rfl zqm rfl rfl rfl rfl rfl rfl ?_)
  exact gU (zi ⟨rfl,nm [0,1,2,3,4,5,6,2,3,4],⟨rfl,rfl,rfl,rfl,rfl,uh⟩,rfl,rfl⟩)
 rw[uu h0]
 rcases zdg (o:=zte d e.s) (f:=λt=>atA d.types t λy=>ifA (y.f.length<=1000000)
  (zdG { m with ns:=m.ns++[⟨(t:Nat),List.replicate y.f.length 0⟩] } 3 (m.ns.length+1:Nat) (t:Nat) λm1=>(.ok (m.ns.length+1:Nat) m1:An Int)))with h|⟨t,ht,h⟩
 ·rw[h];trivial
 rw[h]
 rcases vi (l:=d.types) (i:=t) (f:=λy=>ifA (y.f.length<=1000000)
  (zdG { m with ns:=m.ns++[⟨(t:Nat),List.replicate y.f.length 0⟩] } 3 (m.ns.length+1:Nat) (t:Nat) λm1=>(.ok (m.ns.length+1:Nat) m1:An Int)))with h|⟨y,hy,h⟩
 ·rw[h];trivial
 rw[h];rcases wx (p:=y.f.length<=1000000) (x:=zdG { m with ns:=m.ns++[⟨(t:Nat),List.replicate y.f.length 0⟩] } 3 (m.ns.length+1:Nat) (t:Nat) λm1=>(.ok (m.ns.length+1:Nat) m1:An Int))with h|⟨hyl,h⟩
 ·rw[h];trivial
 rw[h];generalize hm2:({ m with ns:=m.ns++[⟨(t:Nat),List.replicate y.f.length 0⟩] }:Mc)=m2;rcases zco (m:=m2) (k:=3) (n:=(m.ns.length+1:Nat)) (f:=(t:Nat)) (c:=λm1=>(.ok (m.ns.length+1:Nat) m1:An Int))with h|⟨h7,h⟩
 ·rw[h];trivial
 rw[h];have hI:=zif fuel m ht;have hA:=jv d fuel m2 3 (m.ns.length+1:Nat) (t:Nat) h7;have hj:=zgt m.ns (t:Nat) 3 1127;have U:m2.ns=m.ns++[⟨(t:Nat),List.replicate y.f.length 0⟩]:=by rw[<-hm2]
 have hbt:j9 m.ns++[List.replicate y.f.length [ki 0]]=j9 m2.ns:=by rw[U];exact zkC _ _ _
 have htk:=zgu m.ns ⟨(t:Nat),List.replicate y.f.length 0⟩ 3 1127 121;rw[<-U,<-zdN]at htk;have h1l:((wRows m.ns 0++[[PC.p (ki (t:Nat)),PC.a 1]]).length:Int)=(m.ns.length+1:Nat):=by rw[uC,J];rfl
 have h2l:((wRows m2.ns 0).length:Int)=(m.ns.length+1:Nat):=by rw[yw,U,uC];rfl
 have hw2:(wRows m2.ns 0).length=m.ns.length+1:=by rw[yw,U,uC];rfl
 clear h U;subst hm2;show zh _ _ _ _ _ _;refine gO T Tryz.func274 λC hC=>?_
 repeat' first|refine gG ?_|(exfalso;first|(have h0:=uj h;omega)|(have h0:=um h;omega))|(exfalso;have h1:=uj h;rw[J]at h1;omega)|refine gB ?_ ?_<;>intro h|(refine zkw T hC rfl rfl rfl rfl rfl ?_)|refine gK hI (nm [0,1,2,3,4]) ?_|(refine gI T (zl hy) ?_)|(rw[uk];refine zwy T hC (row:=[ki 0]) y.f.length rfl rfl rfl rfl rfl rfl rfl rfl hyl rfl rfl rfl ?_)|(refine zkx T hC [PC.p (ki (t:Nat)),PC.a 0] [1127] rfl rfl rfl rfl rfl rfl rfl rfl rfl rfl rfl rfl ?_)|(refine zbU T 120 hC (id:=2) (rows:=wRows m.ns 0) (rows2:=[[PC.p (ki (t:Nat)),PC.a 0]]) (ids:=[3]) (ids2:=[1127]) [3,1127] (wRows m.ns 0++[[PC.p (ki (t:Nat)),PC.a 1]]) (bytes:=32) rfl rfl rfl rfl (zoh.vw (T.es_ok _ _ rfl)) rfl hj.1 hj.2.1 hj.2.2.1 hj.2.2.2 rfl rfl rfl ud (by rw[J,uD];omega) (by rw[J,uD];omega) rfl rfl rfl ?_)
 rw[h1l];refine zkn hC rfl 3 1127 121 rfl rfl rfl rfl [] uh [(120,.vw [121] 2 (wRows (m.ns++[⟨(t:Nat),List.replicate y.f.length 0⟩]) 0))] ⟨⟨_,rfl,rfl,htk⟩,uh⟩ ?_;rw[hbt]
 repeat' first|refine gG ?_|refine gB ?_ ?_<;>intro h|refine gR hA (nm [0,1,120,121,4,5,6,7,8,129]) ?_|(refine zkw T hC rfl rfl rfl rfl rfl ?_)
 exact zi ⟨.inl rfl,nm [0,1,2,3,4,5,6,120,121,129],_,rfl,LeS.of (uX (λk:Nat=>I (k:Int)) hw2),⟨rfl,rfl,rfl,rfl,rfl,rfl,rfl,uh⟩,rfl,rfl⟩
end Hw.Gm
namespace Hw.Gm
open Go Go.Proofs Go.Shelf
def zgR:Go.Shelf.Ren:=⟨λ|129=>203|n=>n,λ|53=>314|3=>3|4=>4|46=>259|5=>5|9=>9|n=>n,λ|n=>n⟩
theorem zrA:Go.Proofs.Lays.n129 Tryz.prog zgR where
 mixed:=by kernel_rfl
 f129:=Tryz.func203.trans (uX some ud)
 t3:=Tryz.underlying3
 a3:=Tryz.isAgg3
 z3:=Tryz.sizeOf3
 v3:=Tryz.zeroValue3
 t4:=Tryz.underlying4
 a4:=Tryz.isAgg4
 z4:=Tryz.sizeOf4
 v4:=Tryz.zeroValue4
 t5:=Tryz.underlying5
 a5:=Tryz.isAgg5
 z5:=Tryz.sizeOf5
 v5:=Tryz.zeroValue5
 t9:=Tryz.underlying9
 a9:=Tryz.isAgg9
 z9:=Tryz.sizeOf9
 v9:=Tryz.zeroValue9
 t46:=Tryz.underlying259
 a46:=Tryz.isAgg259
 z46:=Tryz.sizeOf259
 v46:=Tryz.zeroValue259
 t53:=Tryz.underlying314
 a53:=Tryz.isAgg314
 z53:=Tryz.sizeOf314
 v53:=Tryz.zeroValue314
end Hw.Gm
namespace Hw.Gm
open Go Go.Proofs Go.Shelf Hw.M Ps
abbrev u64(n:Int):S:= .one (.p (.k (.int .u64 n)))
theorem zoG(u:Nat)(h:u<18446744073709551616):zh Tryz.prog 203 [u64 u] [] (I (Lib.bitLen u)) []:=
 znS (⟨_,Tryz.func203,ud,ud⟩) (λw=>(Any.bits_Len64 zrA (u:Int) w ua ua).mono λe w' ⟨J,h2⟩=>⟨by simpa using J,h2⟩) rfl
theorem zlD(u:Nat)(h:u<18446744073709551616):zh Tryz.prog 143 [u64 u] [] (I (Lib.bitLen u)) []:=by
 have J:=zoG u h;refine gO T Tryz.func143 λC hC=>?_
 repeat' first|refine gG ?_|exact gD|refine gB ?_ ?_<;>intro h|refine gC J ?_
 exact gF
theorem zaC: ∀(f x:Nat),0<x->x<2 ^ f->Lib.bitLenAux f x=Nat.log2 x+1
 |0,x,h0,h=>by simp only[Nat.pow_zero]at h;omega
 |f+1,x,h0,h=>by
  simp only[Lib.bitLenAux];rw[uu ua,Nat.log2_def];by_cases h2:2<=x
  ·rw[uv h2,zaC f (x / 2) ua (by rw[Nat.pow_succ]at h;omega)];omega
  ·have J:x=1:=by omega
   subst J;rw[uu h2];cases f<;>simp[Lib.bitLenAux]
theorem za0{x:Nat}(J:0<x)(h:x<18446744073709551616):Lib.bitLen x=Nat.log2 x+1:=zaC 64 x J h
def wP(d:zj)(fuel:Int)(fr:Fr)(e:Ex)(m:Mc)(a:An Int):Prop:=
 FnX Tryz.prog 274 [.one (.bx 0 0),.one (.bx 5 0),zF (ye e)] (mcR d fuel m 1 2 3 4++frR fr) (exE d fuel fr a)
variable {d:zj}{fuel:Int}{m:Mc}
theorem zt6{fr:Fr}{e:Ex}(J:e.op=1\/e.op=2):wP d fuel fr e m (.ok e.n m):=by
 show zh _ _ _ _ _ _;rcases J with J|J
 all_goals
  refine gO T Tryz.func274 λC hC=>?_
  repeat' first|refine gG ?_|(exfalso;first|(have U:=uj h;omega)|(have U:=um h;omega))|refine gB ?_ ?_<;>intro h
  exact gW [0,1,2,3,4,5,6,2,3,4]
theorem zt7{fr:Fr}{e:Ex}(hop:e.op=3):wP d fuel fr e m (.ok 0 m):=by
 show zh _ _ _ _ _ _;refine gO T Tryz.func274 λC hC=>?_
 repeat' first|refine gG ?_|(exfalso;first|(have J:=uj h;omega)|(have J:=um h;omega))|refine gB ?_ ?_<;>intro h
 exact gW [0,1,2,3,4,5,6,2,3,4]
theorem zt8{fr:Fr}{e:Ex}{a:An Int}(hop:e.op=7)(J:FnX Tryz.prog 278 [.one (.bx 0 0),.one (.bx 5 0),zF (ye e)] (mcR d fuel m 1 2 3 4++frR fr) (exE d fuel fr a)):wP d fuel fr e m a:=by
 cases a with
 |ok v m1=>
  have J:zh _ _ _ _ _ _:=J;show zh _ _ _ _ _ _;refine gO T Tryz.func274 λC hC=>?_
  repeat' first|refine gG ?_|(exfalso;first|(have U:=uj h;omega)|(have U:=um h;omega))|refine gB ?_ ?_<;>intro h|refine gR J (nm [0,1,2,3,4,5,6,107,108,109]) ?_
  exact gW [0,1,2,3,4,5,6,107,108,109]
 |flt er m1=>
  have J:ya _ _ _ _ _ _:=J;show ya _ _ _ _ _ _;refine zX T Tryz.func274 ud rfl rfl rfl λC hC=>?_
  repeat' first|refine gG ?_|(exfalso;first|(have U:=uj h;omega)|(have U:=um h;omega))|refine gB ?_ ?_<;>intro h|(refine zr hC J (nm [0,1,2,3,4,5,6,107,108,109]) rfl rfl (zH.refl _) rfl rfl rfl rfl rfl rfl ?_)
  exact gU (zi ⟨rfl,nm [0,1,2,3,4,5,6,107,108,109],⟨rfl,rfl,rfl,rfl,rfl,uh⟩,rfl,rfl⟩)
 |out=>trivial
theorem zqp{fr:Fr}{e x:Ex}{m1:Mc}{er:Int}(hop: ¬(e.op=1\/e.op=2\/e.op=3\/e.op=4\/e.op=6\/e.op=7))(U:e.l[0]?=some x)(J:wP d fuel fr x m (.flt er m1)):wP d fuel fr e m (.flt er m1):=by
 have J:ya _ _ _ _ _ _:=J;show ya _ _ _ _ _ _;refine zX T Tryz.func274 ud rfl rfl rfl λC hC=>?_
 repeat' first|refine gG ?_|(exfalso;have h0:=uj h;omega)|refine gB ?_ ?_<;>intro h|(refine gI T (zI U) ?_)|(refine zr hC J (nm [0,1,2,3,4,5,6,107,108,109]) rfl rfl (zH.refl _) rfl rfl rfl rfl rfl rfl ?_)
 all_goals exact gU (zi ⟨rfl,nm [0,1,2,3,4,5,6,107,108,109],⟨rfl,rfl,rfl,rfl,rfl,uh⟩,rfl,rfl⟩)
theorem zt9{fr:Fr}{e x:Ex}{m1:Mc}{v:Int}(hop:e.op=8)(hx:e.l[0]?=some x)(J:wP d fuel fr x m (.ok v m1)):wP d fuel fr e m (ifA (inB v) (jN m1 (-v))):=by
 have J:zh _ _ _ _ _ _:=J;rcases wx (p:=inB v) (x:=jN m1 (-v))with h|⟨hb,h⟩
 ·rw[h];trivial
 rw[h];have U:=hb;unfold inB at U;have hw:IntKind.i64.wrap (0 - v)= -v:=by rw[wrap64 ua];omega
 unfold jN;rw[uu ua];have hp:=zrz (IntKind.i64.wrap (0 - v)) (by rw[hw];omega);show zh _ _ _ _ _ _;refine gO T Tryz.func274 λC hC=>?_
 repeat' first|refine gG ?_|(exfalso;first|(have h0:=uj h;omega)|(have h0:=um h;omega))|refine gB ?_ ?_<;>intro h|(refine gI T (zI hx) ?_)|refine gR J (nm [0,1,2,3,4,5,6,107,108,109]) ?_|(refine zdD hC rfl rfl rfl ?_)|(refine vZ hC hp rfl rfl zqm rfl rfl rfl ?_)
 rw[hw];exact gW [0,1,2,3,4,5,6,107,108,109]
theorem zrB{fr:Fr}{e x:Ex}{m1:Mc}{v:Int}(hop:e.op=18)(U:e.l[0]?=some x)(J:wP d fuel fr x m (.ok v m1)):wP d fuel fr e m (ifA (inB v) (.ok (1 - v) m1)):=by
 have J:zh _ _ _ _ _ _:=J;rcases wx (p:=inB v) (x:=An.ok (1 - v) m1)with h|⟨hb,h⟩
 ·rw[h];trivial
 rw[h];unfold inB at hb;have hw:IntKind.i64.wrap (1 - v)=1 - v:=wrap64 ua;show zh _ _ _ _ _ _;refine gO T Tryz.func274 λC hC=>?_
 repeat' first|refine gG ?_|(exfalso;first|(have h0:=uj h;omega)|(have h0:=um h;omega))|refine gB ?_ ?_<;>intro h|(refine gI T (zI U) ?_)|refine gR J (nm [0,1,2,3,4,5,6,107,108,109]) ?_
 refine zi ⟨.inl rfl,nm [0,1,2,3,4,5,6,107,108,109],_,rfl,LeS.of (uX (λk:Int=>I k) hw),⟨rfl,rfl,rfl,rfl,rfl,rfl,rfl,uh⟩,rfl,rfl⟩
theorem zrC{fr:Fr}{e x:Ex}{m1:Mc}{v:Int}(hop:e.op=24)(hx:e.l[0]?=some x)(J:wP d fuel fr x m (.ok v m1)):wP d fuel fr e m (ifA (inB v) (.ok (ztz v) m1)):=by
 have J:zh _ _ _ _ _ _:=J;rcases wx (p:=inB v) (x:=An.ok (ztz v) m1)with h|⟨hb,h⟩
 ·rw[h];trivial
 rw[h];unfold inB at hb;obtain⟨u,U⟩: ∃u:Nat,u=(if v<1 then 1 else v.toNat):=⟨_,rfl⟩;have hu1:0<u/\u<=1099511627776:=by rw[U];split<;>omega
 have hm:(if(1:Int)<v then v else 1)=u:=by rw[U];split<;>split<;>omega
 have hL:=zlD u ua;rw[za0 hu1.1 ua]at hL;have hl:Nat.log2 u<41:=(Nat.log2_lt ua).2 (by rw[show(2:Nat) ^ 41=2199023255552 from rfl];omega)
 have hwu:IntKind.u64.wrap (u:Int)=u:=by
  have hq:IntKind.u64.wrap (u:Int)=(u:Int) % 18446744073709551616:=by simp[IntKind.wrap,IntKind.bits,IntKind.signed]
  rw[hq];omega
 have hw:IntKind.i64.wrap (((Nat.log2 u+1:Nat):Int) - 1)=ztz v:=by
  rw[wrap64 ua];unfold ztz;rw[<-U];omega
 show zh _ _ _ _ _ _;refine gO T Tryz.func274 λC hC=>?_
 repeat' first|refine gG ?_|(exfalso;first|(have h0:=uj h;omega)|(have h0:=um h;omega))|refine gB ?_ ?_<;>intro h|(refine gI T (zI hx) ?_)|refine gR J (nm [0,1,2,3,4,5,6,107,108,109]) ?_|(refine v7 hC (u:Int) rfl rfl hm rfl rfl ?_)|(rw[hwu];refine gC hL ?_)
 exact zi ⟨.inl rfl,nm [0,1,2,3,4,5,6,107,108,109],_,rfl,LeS.of (uX (λk:Int=>I k) hw),⟨rfl,rfl,rfl,rfl,rfl,rfl,rfl,uh⟩,rfl,rfl⟩
end Hw.Gm
namespace Hw.Gm
open Go Go.Proofs Hw.M Ps
theorem zfw(b:Bool):zh Tryz.prog 289 [.bq b] [] (I (zeS b)) []:=by
 refine gO T Tryz.func289 λC hC=>?_
 repeat' first|refine gG ?_|refine gB ?_ ?_<;>intro h
 all_goals subst h
 all_goals exact gF
variable {d:zj}{fuel:Int}{m m1:Mc}{x y:Ex}
set_option maxRecDepth 100000 in
set_option maxHeartbeats 2000000 in
theorem zih{fr:Fr}{e:Ex}{v:Int}{a:An Int}(hx:e.l[0]?=some x)(hX:wP d fuel fr x m (.ok v m1))(hY:wP d fuel fr y m1 a)
 (hop:(e.op=19/\v≠0/\e.l[1]?=some y)\/(e.op=20/\v≠1/\e.l[1]?=some y)\/(e.op=21/\v=1/\e.l[1]?=some y)\/(e.op=21/\v≠1/\e.l[2]?=some y)):wP d fuel fr e m a:=by
 have hX:zh _ _ _ _ _ _:=hX;cases a with
 |ok w m2=>
  have hY:zh _ _ _ _ _ _:=hY;show zh _ _ _ _ _ _;rcases hop with⟨hop,hv,hy⟩|⟨hop,hv,hy⟩|⟨hop,hv,hy⟩|⟨hop,hv,hy⟩
  all_goals
   refine gO T Tryz.func274 λC hC=>?_
   repeat' first|refine gG ?_|(exfalso;first|(have h0:=uj h;omega)|(have h0:=um h;omega))|refine gB ?_ ?_<;>intro h|(refine gI T (zI hx) ?_)|(refine gI T (yP hy) ?_)|(refine gI T (zdZ hy) ?_)|refine gR hX (nm [0,1,2,3,4,5,6,107,108,109]) ?_|refine gR hY (nm [0,1,107,108,109,5,6,117,118,119]) ?_
   exact gW [0,1,2,3,4,5,6,117,118,119]
 |flt er m2=>
  have hY:ya _ _ _ _ _ _:=hY;show ya _ _ _ _ _ _;rcases hop with⟨hop,hv,hy⟩|⟨hop,hv,hy⟩|⟨hop,hv,hy⟩|⟨hop,hv,hy⟩
  all_goals
   refine zX T Tryz.func274 ud rfl rfl rfl λC hC=>?_
   repeat' first|refine gG ?_|(exfalso;first|(have h0:=uj h;omega)|(have h0:=um h;omega))|refine gB ?_ ?_<;>intro h|(refine gI T (zI hx) ?_)|(refine gI T (yP hy) ?_)|(refine gI T (zdZ hy) ?_)|refine gR hX (nm [0,1,2,3,4,5,6,107,108,109]) ?_|(refine zr hC hY (nm [0,1,107,108,109,5,6,117,118,119]) rfl rfl (zH.refl _) rfl rfl rfl rfl rfl rfl ?_)
   exact gU (zi ⟨rfl,nm [0,1,2,3,4,5,6,117,118,119],⟨rfl,rfl,rfl,rfl,rfl,uh⟩,rfl,rfl⟩)
 |out=>trivial
theorem zii{fr:Fr}{e:Ex}{v:Int}(hx:e.l[0]?=some x)(U:wP d fuel fr x m (.ok v m1))(J:(e.op=19/\v=0)\/(e.op=20/\v=1)):wP d fuel fr e m (.ok v m1):=by
 have U:zh _ _ _ _ _ _:=U;show zh _ _ _ _ _ _;rcases J with⟨J,hv⟩|⟨J,hv⟩
 all_goals
  subst hv;refine gO T Tryz.func274 λC hC=>?_
  repeat' first|refine gG ?_|(exfalso;first|(have h0:=uj h;omega)|(have h0:=um h;omega))|exact gD|refine gB ?_ ?_<;>intro h|(refine gI T (zI hx) ?_)|refine gR U (nm [0,1,2,3,4,5,6,107,108,109]) ?_
  exact gW [0,1,2,3,4,5,6,107,108,109]
def zjl(op:Int):Prop:= ¬(op=1\/op=2\/op=3\/op=4\/op=5\/op=6\/op=7\/op=8\/op=24\/op=18\/op=19\/op=20\/op=21)
theorem zrD{fr:Fr}{e:Ex}{m2:Mc}{a er:Int}(J:zjl e.op)(hx:e.l[0]?=some x)(U:wP d fuel fr x m (.ok a m1))(hy:e.l[1]?=some y)(hY:wP d fuel fr y m1 (.flt er m2)):wP d fuel fr e m (.flt er m2):=by
 have U:zh _ _ _ _ _ _:=U;have hY:ya _ _ _ _ _ _:=hY;unfold zjl at J;show ya _ _ _ _ _ _;refine zX T Tryz.func274 ud rfl rfl rfl λC hC=>?_
 repeat' first|refine gG ?_|(exfalso;have h0:=uj h;omega)|refine gB ?_ ?_<;>intro h|(refine gI T (zI hx) ?_)|(refine gI T (yP hy) ?_)|refine gR U (nm [0,1,2,3,4,5,6,107,108,109]) ?_|(refine zr hC hY (nm [0,1,107,108,109,5,6,117,118,119]) rfl rfl (zH.refl _) rfl rfl rfl rfl rfl rfl ?_)
 exact gU (zi ⟨rfl,nm [0,1,2,3,4,5,6,117,118,119],⟨rfl,rfl,rfl,rfl,rfl,uh⟩,rfl,rfl⟩)
theorem zkW{fr:Fr}{e:Ex}{m2:Mc}{a b:Int}(hop:zjl e.op)(h14: ¬(e.op=14\/e.op=15\/e.op=16\/e.op=17))(hx:e.l[0]?=some x)(U:wP d fuel fr x m (.ok a m1))(hy:e.l[1]?=some y)(hY:wP d fuel fr y m1 (.ok b m2)):
 wP d fuel fr e m (zvo m2 e.op a b):=by
 have U:zh _ _ _ _ _ _:=U;have hY:zh _ _ _ _ _ _:=hY;unfold zjl at hop;unfold zvo;rcases wx (p:=inB a/\inB b) (x:=zn1 m2 e.op a b)with h|⟨⟨ha,hb⟩,h⟩
 ·rw[h];trivial
 rw[h];have J:=ztZ m2 e.op a b ha hb
 have hm: ∀c mm,zn1 m2 e.op a b= .ok c mm->mm=m2:=λc mm h=>by
  unfold zn1 jN at h
  repeat' split at h
  all_goals first|(cases h;rfl)|cases h
 have hm': ∀c mm,zn1 m2 e.op a b= .flt c mm->mm=m2:=λc mm h=>by
  unfold zn1 jN at h
  repeat' split at h
  all_goals first|(cases h;rfl)|cases h
 cases hr:zn1 m2 e.op a b with
 |ok c mm=>
  obtain rfl:=hm c mm hr;rw[hr]at J;have J:zh _ _ _ _ _ _:=J;show zh _ _ _ _ _ _;refine gO T Tryz.func274 λC hC=>?_
  repeat' first|refine gG ?_|(exfalso;have h0:=uj h;omega)|refine gB ?_ ?_<;>intro h|(refine gI T (zI hx) ?_)|(refine gI T (yP hy) ?_)|refine gR U (nm [0,1,2,3,4,5,6,107,108,109]) ?_|refine gR hY (nm [0,1,107,108,109,5,6,117,118,119]) ?_|(refine vZ hC J rfl rfl zqm rfl rfl rfl ?_)
  exact gW [0,1,2,3,4,5,6,117,118,119]
 |flt er mm=>
  obtain rfl:=hm' er mm hr;rw[hr]at J;have J:ya _ _ _ _ _ _:=J;show ya _ _ _ _ _ _;refine zX T Tryz.func274 ud rfl rfl rfl λC hC=>?_
  repeat' first|refine gG ?_|(exfalso;have h0:=uj h;omega)|refine gB ?_ ?_<;>intro h|(refine gI T (zI hx) ?_)|(refine gI T (yP hy) ?_)|refine gR U (nm [0,1,2,3,4,5,6,107,108,109]) ?_|refine gR hY (nm [0,1,107,108,109,5,6,117,118,119]) ?_|(refine zr hC J id rfl rfl zqm rfl rfl rfl rfl rfl rfl ?_)
  exact gU (zi ⟨rfl,nm [0,1,2,3,4,5,6,117,118,119],⟨rfl,rfl,rfl,rfl,rfl,uh⟩,rfl,rfl⟩)
 |out=>trivial
set_option maxRecDepth 100000 in
set_option maxHeartbeats 2000000 in
theorem zqq{fr:Fr}{e:Ex}{m2:Mc}{a b:Int}(c:Bool)(hop:(e.op=16/\c=decide (a<b))\/(e.op=17/\c=decide (a<=b)))(hx:e.l[0]?=some x)(hX:wP d fuel fr x m (.ok a m1))(hy:e.l[1]?=some y)(hY:wP d fuel fr y m1 (.ok b m2)):
 wP d fuel fr e m (zp6 m2 c):=by
 have hX:zh _ _ _ _ _ _:=hX;have hY:zh _ _ _ _ _ _:=hY;unfold zp6;rcases wx (p:=0<=m2.comps/\m2.comps<1099511627776) (x:=An.ok (zeS c) { m2 with comps:=m2.comps+1 })with h|⟨hc,h⟩
 ·rw[h];trivial
 rw[h];have hw:IntKind.i64.wrap (m2.comps+1)=m2.comps+1:=wrap64 ua;have hT:=zfw c;show zh _ _ _ _ _ _;rcases hop with⟨hop,rfl⟩|⟨hop,rfl⟩
 all_goals
  refine gO T Tryz.func274 λC hC=>?_
  repeat' first|refine gG ?_|(exfalso;first|(have h0:=uj h;omega)|(have h0:=um h;omega))|refine gB ?_ ?_<;>intro h|(refine gI T (zI hx) ?_)|(refine gI T (yP hy) ?_)|refine gR hX (nm [0,1,2,3,4,5,6,107,108,109]) ?_|refine gR hY (nm [0,1,107,108,109,5,6,117,118,119]) ?_|refine gC hT ?_
  rw[hw];exact gW [0,1,2,3,4,5,6,117,118,119]
set_option maxRecDepth 100000 in
set_option maxHeartbeats 2000000 in
theorem zua{fr:Fr}{e:Ex}{m2:Mc}{a b:Int}(hop:e.op=14\/e.op=15)(hx:e.l[0]?=some x)(hX:wP d fuel fr x m (.ok a m1))(hy:e.l[1]?=some y)(hY:wP d fuel fr y m1 (.ok b m2)):
 wP d fuel fr e m (opA (tyO d fr.vs x) λt=>if t=(⟨#[105,110,116]⟩:UH)then zp6 m2 (decide (decide (a=b)=decide (e.op=14)))else .ok (zeS (decide (decide (a=b)=decide (e.op=14)))) m2):=by
 have hX:zh _ _ _ _ _ _:=hX;have hY:zh _ _ _ _ _ _:=hY;rcases zdg (o:=tyO d fr.vs x) (f:=λt=>if t=(⟨#[105,110,116]⟩:UH)then zp6 m2 (decide (decide (a=b)=decide (e.op=14)))else .ok (zeS (decide (decide (a=b)=decide (e.op=14)))) m2)with h|⟨t,ht,h⟩
 ·rw[h];trivial
 rw[h];have hT:=zt1 d fuel m2 fr (sizeOf x+1) x t ua ht;have hq:=zfw (decide (decide (a=b)=decide (e.op=14)));by_cases hi:t=(⟨#[105,110,116]⟩:UH)
 ·rw[uv hi];subst hi;unfold zp6;rcases wx (p:=0<=m2.comps/\m2.comps<1099511627776) (x:=An.ok (zeS (decide (decide (a=b)=decide (e.op=14)))) { m2 with comps:=m2.comps+1 })with h|⟨hc,h⟩
  ·rw[h];trivial
  rw[h];have hw:IntKind.i64.wrap (m2.comps+1)=m2.comps+1:=wrap64 ua;show zh _ _ _ _ _ _;rcases hop with hop|hop
  all_goals
   refine gO T Tryz.func274 λC hC=>?_
   repeat' first|refine gG ?_|(exfalso;first|(have h0:=uj h;omega)|(have h0:=um h;omega))|exact gD|refine gB ?_ ?_<;>intro h|(refine gI T (zI hx) ?_)|(refine gI T (yP hy) ?_)|refine gR hX (nm [0,1,2,3,4,5,6,107,108,109]) ?_|refine gR hY (nm [0,1,107,108,109,5,6,117,118,119]) ?_|refine gK hT (nm [0,1,117,118,119,5,6]) ?_|(refine zaD hC rfl rfl rfl rfl rfl ?_)|refine gC hq ?_
   rw[hw];exact gW [0,1,2,3,4,5,6,117,118,119]
 ·rw[uu hi];show zh _ _ _ _ _ _;rcases hop with hop|hop
  all_goals
   refine gO T Tryz.func274 λC hC=>?_
   repeat' first|refine gG ?_|(exfalso;first|(have h0:=uj h;omega)|(have h0:=um h;omega))|(exfalso;exact hi (uj h))|refine gB ?_ ?_<;>intro h|(refine gI T (zI hx) ?_)|(refine gI T (yP hy) ?_)|refine gR hX (nm [0,1,2,3,4,5,6,107,108,109]) ?_|refine gR hY (nm [0,1,107,108,109,5,6,117,118,119]) ?_|refine gK hT (nm [0,1,117,118,119,5,6]) ?_|(refine zaD hC rfl rfl rfl rfl rfl ?_)|refine gC hq ?_
   exact gW [0,1,2,3,4,5,6,117,118,119]
abbrev zrE(d:zj)(fuel:Int)(fr:Fr)(e:Ex)(m:Mc)(a:An Int):Prop:=
 FnX Tryz.prog 278 [.one (.bx 0 0),.one (.bx 5 0),zF (ye e)] (mcR d fuel m 1 2 3 4++frR fr) (exE d fuel fr a)
theorem zrF{fr:Fr}{k:Nat}(ihE: ∀e m,wP d fuel fr e m (exV d fuel fr k e m))(ihC: ∀e m,zrE d fuel fr e m (clV d fuel fr k e m))(e:Ex)(m:Mc):wP d fuel fr e m (exV d fuel fr (k+1) e m):=by
 rw[exV]
 have first: ∀(f:Int->Mc->An Int),¬(e.op=1\/e.op=2\/e.op=3\/e.op=4\/e.op=6\/e.op=7)->(∀x v m1,e.l[0]?=some x->wP d fuel fr x m (.ok v m1)->wP d fuel fr e m (f v m1))->
  wP d fuel fr e m ((atA e.l 0 λx=>exV d fuel fr k x m).bind f):=λf hop hf=>by
  rcases vi (l:=e.l) (i:=0) (f:=λx=>exV d fuel fr k x m)with h|⟨x,U,h⟩
  ·rw[h];trivial
  rw[h];have J:=ihE x m;cases hr:exV d fuel fr k x m with
  |ok v m1=>rw[hr]at J;exact hf x v m1 U J
  |flt er m1=>rw[hr]at J;exact zqp hop U J
  |out=>trivial
 have sub: ∀(i:Nat) m1,(∃y,e.l[i]?=some y/\(atA e.l i λy=>exV d fuel fr k y m1)=exV d fuel fr k y m1)\/(atA e.l i λy=>exV d fuel fr k y m1)= .out:=λi m1=>by
  rcases vi (l:=e.l) (i:=i) (f:=λy=>exV d fuel fr k y m1)with h|⟨y,hy,h⟩
  ·exact .inr h
  ·exact .inl ⟨y,hy,h⟩
 by_cases h1:e.op=1\/e.op=2
 ·rw[uv h1];exact zt6 h1
 rw[uu h1];by_cases h3:e.op=3
 ·rw[uv h3];exact zt7 h3
 rw[uu h3];by_cases h4:e.op=4
 ·rw[uv h4];exact zt4 h4
 rw[uu h4];by_cases h5:e.op=5
 ·rw[uv h5];exact first _ ua λx v m1 U J=>zt3 h5 U J
 rw[uu h5];by_cases h6:e.op=6
 ·rw[uv h6];exact zt5 h6
 rw[uu h6];by_cases h7:e.op=7
 ·rw[uv h7];exact zt8 h7 (ihC e m)
 rw[uu h7];by_cases h8:e.op=8
 ·rw[uv h8];exact first _ ua λx v m1 U J=>zt9 h8 U J
 rw[uu h8];by_cases h24:e.op=24
 ·rw[uv h24];exact first _ ua λx v m1 U J=>zrC h24 U J
 rw[uu h24];by_cases h18:e.op=18
 ·rw[uv h18];exact first _ ua λx v m1 U J=>zrB h18 U J
 rw[uu h18];by_cases h19:e.op=19
 ·rw[uv h19];refine first _ ua λx v m1 U J=>?_
  by_cases hv:v=0
  ·rw[uv hv];have:=zii U J (.inl ⟨h19,hv⟩);rw[hv]at this;exact this
  ·rw[uu hv];rcases sub 1 m1 with⟨y,hy,h⟩|h
   ·rw[h];exact zih U J (ihE y m1) (.inl ⟨h19,hv,hy⟩)
   ·rw[h];trivial
 rw[uu h19];by_cases h20:e.op=20
 ·rw[uv h20];refine first _ ua λx v m1 U J=>?_
  by_cases hv:v=1
  ·rw[uv hv];have:=zii U J (.inr ⟨h20,hv⟩);rw[hv]at this;exact this
  ·rw[uu hv];rcases sub 1 m1 with⟨y,hy,h⟩|h
   ·rw[h];exact zih U J (ihE y m1) (.inr (.inl ⟨h20,hv,hy⟩))
   ·rw[h];trivial
 rw[uu h20];by_cases h21:e.op=21
 ·rw[uv h21];refine first _ ua λx v m1 U J=>?_
  by_cases hv:v=1
  ·rw[uv hv];rcases sub 1 m1 with⟨y,hy,h⟩|h
   ·rw[h];exact zih U J (ihE y m1) (.inr (.inr (.inl ⟨h21,hv,hy⟩)))
   ·rw[h];trivial
  ·rw[uu hv];rcases sub 2 m1 with⟨y,hy,h⟩|h
   ·rw[h];exact zih U J (ihE y m1) (.inr (.inr (.inr ⟨h21,hv,hy⟩)))
   ·rw[h];trivial
 rw[uu h21];have hop:zjl e.op:=by unfold zjl;omega
 rcases vi (l:=e.l) (i:=0) (f:=λx=>(exV d fuel fr k x m).bind λa m=>(atA e.l 1 λy=>exV d fuel fr k y m).bind λb m=>zvp d fr x e.op a b m)with h|⟨x,U,h⟩
 ·rw[h];trivial
 rw[h];have J:=ihE x m;cases hr:exV d fuel fr k x m with
 |out=>trivial
 |flt er m1=>rw[hr]at J;exact zqp ua U J
 |ok a m1=>
  rw[hr]at J;simp only[An.bind];rcases sub 1 m1 with⟨y,hy,h⟩|h
  rotate_left
  ·rw[h];trivial
  rw[h];have hY:=ihE y m1;cases hr2:exV d fuel fr k y m1 with
  |out=>trivial
  |flt er m2=>rw[hr2]at hY;exact zrD hop U J hy hY
  |ok b m2=>
   rw[hr2]at hY;simp only[An.bind];unfold zvp;by_cases h14:e.op=14\/e.op=15
   ·rw[uv h14];exact zua h14 U J hy hY
   rw[uu h14];by_cases h16:e.op=16
   ·rw[uv h16];exact zqq _ (.inl ⟨h16,rfl⟩) U J hy hY
   rw[uu h16];by_cases h17:e.op=17
   ·rw[uv h17];exact zqq _ (.inr ⟨h17,rfl⟩) U J hy hY
   rw[uu h17];exact zkW hop ua U J hy hY
def ms(l:List (Nat×Nat))(i:Nat):Nat:=match l.lookup i with
 |some j=>j
 |none=>i
theorem xH: ∀ {l:List (Nat×Nat)},(l.all λp=>Nat.ble 100 p.1)=true-> ∀i,i<100->ms l i=i
 | [],_,_,_=>rfl
 |(a,b)::l,h,i,hi=>by
  simp only[tX,uo]at h;have ha:100<=a:=uV h.1;have:=xH h.2 i hi;unfold ms at this⊢;rw[List.lookup_cons];rw[show(i==a)=false by simp;omega];exact this
def rnE(d:zj)(fuel:Int):An Int->End
 | .ok v m=> .ok (I v) (mcR d fuel m 1 7 8 9)
 | .flt e m=> .pn (znM e) (mcR d fuel m 1 7 8 9)
 | .out=> .no
abbrev zu6(d:zj)(fuel:Int)(p:Pr)(a:List Int)(m:Mc)(r:An Int):Prop:=
 FnX Tryz.prog 188 [.one (.bx 0 0),zF (zZ p),pS (xw a)] (mcR d fuel m 1 2 3 4) (rnE d fuel r)
variable {res:An (List Int)}{vals:List Int}
theorem zd0{fr:Fr}{k:Nat}{r:List Ex}(h:((exsV d fuel fr k (x::r) m).bind λr m=> .ok (vals++r) m)=res)(J:res≠ .out):
 ∃j,k=j+1/\((∃v m1,exV d fuel fr j x m= .ok v m1/\((exsV d fuel fr j r m1).bind λr m=> .ok ((vals++[v])++r) m)=res)\/ ∃er m1,exV d fuel fr j x m= .flt er m1/\res= .flt er m1):=by
 cases k with
 |zero=>exact absurd h.symm (by simpa [exsV,An.bind]using J)
 |succ j=>
  refine⟨j,rfl,?_⟩;rw[exsV]at h;cases hx:exV d fuel fr j x m with
  |out=>rw[hx]at h;exact absurd h.symm (by simpa [An.bind]using J)
  |flt er m1=>rw[hx]at h;exact .inr ⟨er,m1,rfl,h.symm⟩
  |ok v m1=>
   rw[hx]at h;refine .inl ⟨v,m1,rfl,?_⟩;simp only[An.bind]at h;cases hr:exsV d fuel fr j r m1 with
   |ok l m2=>rw[hr]at h;simp only at h ⊢; rw[<-h];simp only[An.bind,tq,qA]
   |flt er m2=>rw[hr]at h;exact h
   |out=>rw[hr]at h;exact h
theorem zgS{fr:Fr}{k:Nat}(h:((exsV d fuel fr k [] m).bind λr m=> .ok (vals++r) m)=res)(J:res≠ .out):res= .ok vals m:=by
 cases k with
 |zero=>exact absurd h.symm (by simpa [exsV,An.bind]using J)
 |succ j=>rw[exsV]at h;rw[<-h];simp only[An.bind,u0]
theorem zd1(a:An (List Int)):(a.bind λr m=> .ok ([]++r) m)=a:=by cases a<;>rfl
variable {i:Nat}
theorem wrapN(h:i+1<=1000001):IntKind.i64.wrap ((i:Int)+1)=((i+1:Nat):Int):=by rw[wrap64 ua];omega
def clT(d:zj)(fuel:Int)(fr:Fr)(e:Ex)(q:Nat×Nat×List Int×Mc):zf×Tab:=
 ([(0,.one (.bx 0 0)),(1,.one (.bx 5 0)),(5,.one (.bx 1005 0)),(11,pS (wu e.l)),(12,I e.l.length),(13,I q.1),(7,.one (.ar 140))],
  [(1005,some (.box ((ye e).map V.p))),(0,some (.box (mcC d fuel q.2.2.2 1 107 109))),(1,some (.arr 1 (q.2.2.2.g.map yk))),(107,some (.vw [108] 2 (wRows q.2.2.2.ns 0))),(108,some (.bag 1 (j9 q.2.2.2.ns))),(109,some (.arr 3 (q.2.2.2.acc.map zgQ))),
   (5,some (.box [.p (zx fr.vs),.ar 6])),(6,some (.arr 1 (fr.va.map yk))),(140,some (.arr 1 (q.2.2.1.map yk)))])
theorem zvE{fr:Fr}{k:Nat}(ihE: ∀j,j<=k-> ∀e m,wP d fuel fr e m (exV d fuel fr j e m)){e:Ex}{mF:Mc}{er:Int}(hl:e.l.length<=1000000)(hr:exsV d fuel fr k e.l m= .flt er mF):zrE d fuel fr e m (.flt er mF):=by
 show ya _ _ _ _ _ _;refine zX T Tryz.func278 ud rfl rfl rfl λC hC=>?_
 repeat' first|refine gG ?_|refine gB ?_ ?_<;>intro h
 refine gA 140 1 [(7,.one (.ar 140))] [] ?_;rw[uk]
 refine zn (λq:Nat×Nat×List Int×Mc=>q.1<=e.l.length/\q.2.1<=k/\q.2.2.1.length=q.1/\((exsV d fuel fr q.2.1 (e.l.drop q.1) q.2.2.2).bind λr m=> .ok (q.2.2.1++r) m)= .flt er mF) (clT d fuel fr e) (λq=>e.l.length - q.1) hC
  (0,k,[],m) ⟨uz _,uF _,rfl,by rw[zd1];exact hr⟩ (ms [(107,2),(108,3),(109,4)]) ⟨rfl,⟨rfl,rfl,rfl,rfl,rfl,rfl,rfl,uh⟩,⟨rfl,rfl,rfl,rfl,rfl,rfl,rfl,rfl,rfl,uh⟩,rfl,xH rfl⟩ ?_
 rintro⟨i,k1,vals,m1⟩ ⟨hi,hk,hv,J⟩;simp only at hi hk hv J;refine zq T hC true 200 rfl ?_;refine zt rfl ?_ ?_<;>intro h
 ·have hlt:i<e.l.length:=by simpa [clT]using h
  obtain⟨x,hx⟩:=zd hlt;rw[drop_at hx]at J;obtain⟨j,rfl,hcase⟩:=zd0 J ue;have U:=ihE j ua x m1;rcases hcase with⟨v,m2,hev,hnx⟩|⟨er1,m2,hev,hE⟩
  ·rw[hev]at U;have U:zh _ _ _ _ _ _:=U;have happ:vals.map yk++[[ki v]]=(vals++[v]).map yk:=by rw[u6];rfl
   repeat' first|refine gG ?_|refine gB ?_ ?_<;>intro h|refine gXE ?_|refine gR U (nm [0,1,107,108,109,5,6,117,118,119]) ?_|refine gT ?_|(refine gY T 141 ((vals++[v]).map yk) 8 ?_)
   rw[wrapN ua];exact zg (i+1,j,vals++[v],m2) ⟨by simp only;omega,by simp only;omega,by simp only[uC,uD];omega,hnx⟩ (ms [(107,117),(108,118),(109,119),(140,141)]) (by simp only;omega) ⟨rfl,⟨rfl,rfl,rfl,rfl,rfl,rfl,rfl,uh⟩,⟨rfl,rfl,rfl,rfl,rfl,rfl,rfl,rfl,rfl,uh⟩,rfl,xH rfl⟩
  ·rw[hev]at U;have U:ya _ _ _ _ _ _:=U;cases hE
   repeat' first|refine gG ?_|refine gB ?_ ?_<;>intro h|refine gXE ?_|(refine zr hC U (nm [0,1,107,108,109,5,6,117,118,119]) rfl rfl (zH.refl _) rfl rfl rfl rfl rfl rfl ?_)
   refine gU (zdd (gU (zi ⟨rfl,nm [0,1,2,3,4,5,6,117,118,119],⟨rfl,rfl,rfl,rfl,rfl,uh⟩,rfl,rfl⟩)))
 ·exfalso;have hge: ¬i<e.l.length:=by simpa [clT]using h
  rw[uA ua]at J;cases zgS J ue
theorem zvF{fr:Fr}{k:Nat}(ihE: ∀j,j<=k-> ∀e m,wP d fuel fr e m (exV d fuel fr j e m)){e:Ex}{mF:Mc}{a:List Int}(hl:e.l.length<=1000000)(hr:exsV d fuel fr k e.l m= .ok a mF)
 (hi:zcZ d e.s=some i) {p:Pr} (hp:d.procs[i]?=some p) {r:An Int} (hR:zu6 d fuel p a mF r):zrE d fuel fr e m r:=by
 have hI:=zig hi;cases r with
 |out=>trivial
 |ok v m2=>
  have hR:zh _ _ _ _ _ _:=hR;show zh _ _ _ _ _ _;refine gO T Tryz.func278 λC hC=>?_
  repeat' first|refine gG ?_|refine gB ?_ ?_<;>intro h
  refine gA 140 1 [(7,.one (.ar 140))] [] ?_;rw[uk]
  refine zn (λq:Nat×Nat×List Int×Mc=>q.1<=e.l.length/\q.2.1<=k/\q.2.2.1.length=q.1/\((exsV d fuel fr q.2.1 (e.l.drop q.1) q.2.2.2).bind λr m=> .ok (q.2.2.1++r) m)= .ok a mF) (clT d fuel fr e) (λq=>e.l.length - q.1) hC
   (0,k,[],m) ⟨uz _,uF _,rfl,by rw[zd1];exact hr⟩ (ms [(107,2),(108,3),(109,4)]) ⟨rfl,⟨rfl,rfl,rfl,rfl,rfl,rfl,rfl,uh⟩,⟨rfl,rfl,rfl,rfl,rfl,rfl,rfl,rfl,rfl,uh⟩,rfl,xH rfl⟩ ?_
  clear hr;rintro⟨i1,k1,vals,m1⟩ ⟨hi1,hk,hv,J⟩;simp only at hi1 hk hv J;refine zq T hC true 200 rfl ?_;refine zt rfl ?_ ?_<;>intro h
  ·have hlt:i1<e.l.length:=by simpa [clT]using h
   obtain⟨x,hx⟩:=zd hlt;rw[drop_at hx]at J;obtain⟨j,rfl,U⟩:=zd0 J ue;have hX:=ihE j ua x m1;rcases U with⟨v,m2,hev,hnx⟩|⟨er1,m2,hev,hE⟩
   ·rw[hev]at hX;have hX:zh _ _ _ _ _ _:=hX;have happ:vals.map yk++[[ki v]]=(vals++[v]).map yk:=by rw[u6];rfl
    repeat' first|refine gG ?_|refine gB ?_ ?_<;>intro h|refine gXE ?_|refine gR hX (nm [0,1,107,108,109,5,6,117,118,119]) ?_|refine gT ?_|(refine gY T 141 ((vals++[v]).map yk) 8 ?_)
    rw[wrapN ua];exact zg (i1+1,j,vals++[v],m2) ⟨by simp only;omega,by simp only;omega,by simp only[uC,uD];omega,hnx⟩ (ms [(107,117),(108,118),(109,119),(140,141)]) (by simp only;omega) ⟨rfl,⟨rfl,rfl,rfl,rfl,rfl,rfl,rfl,uh⟩,⟨rfl,rfl,rfl,rfl,rfl,rfl,rfl,rfl,rfl,uh⟩,rfl,xH rfl⟩
   ·cases hE
  ·have hge: ¬i1<e.l.length:=by simpa [clT]using h
   rw[uA ua]at J;cases zgS J ue;clear h J;refine gZ 140 [(7,pS (xw a))] [] ?_
   repeat' first|refine gG ?_|refine gB ?_ ?_<;>intro h|refine ze ?_|refine gC hI ?_|(refine gI T (zl hp) ?_)|refine gR hR (nm [0,1,107,108,109,5,6,117,118,119]) ?_
   exact gW [0,1,2,3,4,5,6,117,118,119]
 |flt er mE=>
  have hR:ya _ _ _ _ _ _:=hR;show ya _ _ _ _ _ _;refine zX T Tryz.func278 ud rfl rfl rfl λC hC=>?_
  repeat' first|refine gG ?_|refine gB ?_ ?_<;>intro h
  refine gA 140 1 [(7,.one (.ar 140))] [] ?_;rw[uk]
  refine zn (λq:Nat×Nat×List Int×Mc=>q.1<=e.l.length/\q.2.1<=k/\q.2.2.1.length=q.1/\((exsV d fuel fr q.2.1 (e.l.drop q.1) q.2.2.2).bind λr m=> .ok (q.2.2.1++r) m)= .ok a mF) (clT d fuel fr e) (λq=>e.l.length - q.1) hC
   (0,k,[],m) ⟨uz _,uF _,rfl,by rw[zd1];exact hr⟩ (ms [(107,2),(108,3),(109,4)]) ⟨rfl,⟨rfl,rfl,rfl,rfl,rfl,rfl,rfl,uh⟩,⟨rfl,rfl,rfl,rfl,rfl,rfl,rfl,rfl,rfl,uh⟩,rfl,xH rfl⟩ ?_
  clear hr;rintro⟨i1,k1,vals,m1⟩ ⟨hi1,hk,hv,J⟩;simp only at hi1 hk hv J;refine zq T hC true 200 rfl ?_;refine zt rfl ?_ ?_<;>intro h
  ·have hlt:i1<e.l.length:=by simpa [clT]using h
   obtain⟨x,hx⟩:=zd hlt;rw[drop_at hx]at J;obtain⟨j,rfl,U⟩:=zd0 J ue;have hX:=ihE j ua x m1;rcases U with⟨v,m2,hev,hnx⟩|⟨er1,m2,hev,hE⟩
   ·rw[hev]at hX;have hX:zh _ _ _ _ _ _:=hX;have happ:vals.map yk++[[ki v]]=(vals++[v]).map yk:=by rw[u6];rfl
    repeat' first|refine gG ?_|refine gB ?_ ?_<;>intro h|refine gXE ?_|refine gR hX (nm [0,1,107,108,109,5,6,117,118,119]) ?_|refine gT ?_|(refine gY T 141 ((vals++[v]).map yk) 8 ?_)
    rw[wrapN ua];exact zg (i1+1,j,vals++[v],m2) ⟨by simp only;omega,by simp only;omega,by simp only[uC,uD];omega,hnx⟩ (ms [(107,117),(108,118),(109,119),(140,141)]) (by simp only;omega) ⟨rfl,⟨rfl,rfl,rfl,rfl,rfl,rfl,rfl,uh⟩,⟨rfl,rfl,rfl,rfl,rfl,rfl,rfl,rfl,rfl,uh⟩,rfl,xH rfl⟩
   ·cases hE
  ·have hge: ¬i1<e.l.length:=by simpa [clT]using h
   rw[uA ua]at J;cases zgS J ue;clear h J;refine gZ 140 [(7,pS (xw a))] [] ?_
   repeat' first|refine gG ?_|refine gB ?_ ?_<;>intro h|refine ze ?_|refine gC hI ?_|(refine gI T (zl hp) ?_)|(refine xE T hC hR (nm [0,1,107,108,109,5,6,117,118,119]) [] rfl rfl (zH.refl _) rfl rfl rfl rfl rfl ud ud ?_)
   exact gU (zi ⟨rfl,nm [0,1,2,3,4,5,6,117,118,119],⟨rfl,rfl,rfl,rfl,rfl,uh⟩,rfl,rfl⟩)
theorem zrG{fr:Fr}{k:Nat}(ihE: ∀j,j<=k-> ∀e m,wP d fuel fr e m (exV d fuel fr j e m))(ihR: ∀p a m,zu6 d fuel p a m (rnV d fuel k p a m))(e:Ex)(m:Mc):zrE d fuel fr e m (clV d fuel fr (k+1) e m):=by
 rw[clV];rcases wx (p:=e.l.length<=1000000) (x:=(exsV d fuel fr k e.l m).bind λa m=>opA (zcZ d e.s) λi=>atA d.procs i λp=>rnV d fuel k p a m)with h|⟨hl,h⟩
 ·rw[h];trivial
 rw[h];cases hr:exsV d fuel fr k e.l m with
 |out=>trivial
 |flt er mF=>exact zvE ihE hl hr
 |ok a mF=>
  simp only[An.bind];rcases zdg (o:=zcZ d e.s) (f:=λi=>atA d.procs i λp=>rnV d fuel k p a mF)with h|⟨i,J,h⟩
  ·rw[h];trivial
  rw[h];rcases vi (l:=d.procs) (i:=i) (f:=λp=>rnV d fuel k p a mF)with h|⟨p,U,h⟩
  ·rw[h];trivial
  rw[h];exact zvF ihE hl hr J U (ihR p a mF)
end Hw.Gm
namespace Hw
open Go
variable {P:Program}{af:Array Edge}{d:Option Nat}{el t:TypeId}{g:Option (Nat×Bool)}{j:Int}{k':IntKind}{ps:String}{rows:List (List PV)}{x:Operand}
section
variable {ty:TypeId} {z:Operand}
theorem zrH{id id' e:Nat}(hx:okc x (.one (.ar id)))(hz:okc z (Kk k' j))(he:elemSz P t=some (el,e))(h0:0<=j)(h2:j<=rows.length):
 Snd P ⟨d,.slice t x none (some z) none,ty,ps,af,g⟩ (rq x (.one (.ar id))++rq z (Kk k' j)) [(id,.arr e rows)] [id'] (.one (.ar id')) [(id',some (.arr e (rows.take j.toNat))),(id,none)]:=by
 intro C st M ρ a w hH h1 hT hF hd k Q hk;rw[za]at h1;have e1:=hH.evS (zz hx h1.1);have e3:=hH.k (zz hz h1.2);simp only[RepS,RepV]at e1;obtain⟨b,cap,f1,f2,f3,f5⟩:=hH.zP.res id _ hT.1;obtain⟨hu,hsz⟩:=zbQ he
 have hrun:(execOp a.eval ⟨d,.slice t x none (some z) none,ty,ps,af,g⟩).run P w= .ok (.value (sliced b 0 j.toNat cap e)) w:=by
  simp only[execOp,e1.1,f1,e3,qi,uO,Sem.run_bind,run_sliceAt_slice w t _ _ _ _ hu,run_slice_h w t b rows.length cap hu k' j h0 ua,hsz,Result.andThen_ok,Sem.run_pure]
 have hl:(rows.take j.toNat).length=j.toNat:=by rw[td];omega
 have hS: ∃b' cap',sliced b 0 j.toNat cap e= .slice b' j.toNat cap'/\j.toNat<=cap'/\cap'<=9223372036854775807/\((b'=none/\cap'=0)\/(b'=b/\cap'=cap)):=by
  by_cases hc:cap=0
  ·subst hc;rcases f5 with⟨rfl,_⟩|⟨b1,o1,cs,U,fz,rfl,_⟩
   ·exact⟨none,0,by simp[sliced],ua,ub,.inl ⟨rfl,rfl⟩⟩
   ·exact⟨_,0,by simp only[sliced,uv];congr 1,ua,ub,.inr ⟨rfl,rfl⟩⟩
  ·rcases f5 with⟨rfl,hc'⟩|⟨b1,o1,cs,U,fz,rfl,_⟩
   ·exact absurd hc' hc
   ·exact⟨some ⟨b1,o1,none⟩,cap,by simp[sliced,uu hc,Addr.add],ua,f3,.inr ⟨rfl,rfl⟩⟩
 obtain⟨b',cap',hs1,hs2,hs3,hs4⟩:=hS;unfold Oper.wp;simp only[Sem.run_bind,hrun,Result.andThen_ok,Sem.run_pure,Oper.upon_value];refine hk _ _ _ _ (hH.step (some id) (λ_ _ _=>rfl) (uF _) rfl rfl rfl (λb1 J=> .inr ⟨id,_,rfl,hT.1,?_⟩) hF.1 ?_ (by simp only[RepS,RepV];exact⟨(zG _ _ _).symm,by rw[hs1];rfl⟩) hd)
 ·rw[hs1]at J;rcases hs4 with⟨rfl,_⟩|⟨rfl,rfl⟩
  ·simp[Bk,blk]at J
  ·rw[f1];simp only[Bk,blk]at J ⊢; cases b'<;>first|(simp at J;done)|simpa using J
 ·refine⟨b',cap',by rw[zG,hs1,hl],by rw[hl];exact hs2,hs3,?_⟩;rcases hs4 with⟨rfl,rfl⟩|⟨rfl,rfl⟩
  ·exact .inl ⟨rfl,rfl⟩
  ·rcases f5 with h|⟨b1,o1,cs,U,fz,rfl,f6,f7,f8,f9⟩
   ·exact .inl h
   ·exact .inr ⟨b1,o1,cs,U,fz,rfl,f6,f7,f8,f9.take _⟩
end
variable {C:Ctx}{Q:Exit->St->Prop}{all:Array Oper}{g0:Option (Nat×Bool)}{gs:zf}{k1:IntKind}{md:Mode}{rest:List Oper}{tab:Tab}
section
variable {k:List Frm} {n:Nat} {sl:zf}
theorem zlE(T:Ty P){d:Nat}{z:Operand}{ty:TypeId}(id':Nat)(hC:C.low){id e:Nat}{rows':List (List PV)}
 (hx:ev sl x=some (.one (.ar id))) (hz:ev sl z=some (Kk k1 j)) (hT:tg tab id=some (.arr e rows)) (he:T.es t=some (el,e)) (h0:0<=j) (h2:j<=rows.length) (hr:rows.take j.toNat=rows')
 (hf:allB (λi=>Nat.ble 100 i&&freshB i ⟨n,sl,tab⟩) [id']=true) (hm:metL all sl g0=some gs) (hd:Nat.blt d n=true)
 (g:Goal P C (.ops all rest (nx md ⟨some d,gs++(rq x (.one (.ar id))++rq z (Kk k1 j)),[(id,.arr e rows)],[id'],.one (.ar id'),[(id',some (.arr e rows')),(id,none)]⟩)) k n ((d,.one (.ar id'))::sl) ((id',some (.arr e rows'))::(id,none)::tab) Q):
 Goal P C (.ops all (⟨some d,.slice t x none (some z) none,ty,ps,af,g0⟩::rest) md) k n sl tab Q:=by
 subst hr;have J:=zB (st:=⟨n,sl,tab⟩) hx;have U:=zB (st:=⟨n,sl,tab⟩) hz;have:=zk hm (zrH (P:=P) (ty:=ty) (ps:=ps) (af:=af) (g:=g0) (d:=some d) (id':=id') (rows:=rows) J.1 U.1 (T.es_ok _ _ he) h0 h2) (n:=n) (tab:=tab);exact zT (L:=⟨some d,gs++(rq x (.one (.ar id))++rq z (Kk k1 j)),[(id,.arr e rows)],[id'],.one (.ar id'),[(id',some (.arr e (rows.take j.toNat))),(id,none)]⟩) hC this.1 rfl ⟨by rw[za,za];exact⟨this.2,J.2,U.2⟩,⟨hT,uh⟩,hf,hd⟩ g
theorem zlF{cur:Cur}(U:lst cur=true)(t:Nat){s s':S}(ht:sg sl t=some s)(e:LeS s s')(g:Goal P C cur k n ((t,s')::sl) tab Q):Goal P C cur k n sl tab Q:=
 zc0 (sl':=(t,s')::sl) (tab':=tab) U (λ{M ρ a w} h=>⟨M,ρ,h.zrI rfl rfl λj u J=>by
  rw[yz]at J;split at J
  ·rename_i e';subst e';simp only[ui]at J;subst J;exact e _ _ _ (h.slots _ _ ht)
  ·exact h.slots _ _ J⟩) g
end
section
variable (w:World)
theorem zcR(t tx ty e:TypeId)(i:TypeInfo)(z:Value)(ht:P.underlying t=some (.slice e))(hk:P.underlying tx=some (.int .i64))(hi:P.info? e=some i)(hz:i.zero=some z)(base:Option Addr)(sLen sCap:Nat)(olds:List Value)
 (U:(Builtin.firstCells i.size sLen (.slice base sLen sCap)).run P w.drew= .ok olds.toArray w.drew) (n:Nat) (hzs:z.cells.size=i.size) (hnb:n*i.bytes<=140737488355328) (hn63:n<=9223372036854775807)
 (hg:sCap<sLen+n) (h63:((sLen+n:Nat):Int)<=9223372036854775807) (hfit:Builtin.nextslicecap (sLen+n) sCap*i.bytes<=281474976710656):
 (Builtin.append_ #[t,tx] ty #[.slice base sLen sCap,.int .i64 (n:Int)]).run P w=
   .ok (.slice (some ⟨w.heap.size,0,none⟩) (sLen+n) (grownCap w (sLen+n) sCap e))
    (w.drew.alloc (.cells ((olds++(Builtin.zeroCells z.cells n).toList).toArray++Builtin.zeroCells z.cells (grownCap w (sLen+n) sCap e - (sLen+n))) e)):=by
 have hn: ¬(sLen+n<=sCap):=by omega
 have h63': ¬(9223372036854775807<((sLen:Int)+(n:Int))):=by omega
 have h48': ¬(281474976710656<Builtin.nextslicecap (sLen+n) sCap*i.bytes):=by omega
 have hw:IntKind.i64.wrap (n:Int)=n:=IntWalk.i64_in _ ua;have h0: ¬((n:Int)<0):=by omega
 have hb: ¬(281474976710656<(n:Int)*(i.bytes:Int)):=by
  have:(n:Int)*(i.bytes:Int)=((n*i.bytes:Nat):Int):=by simp
  omega
 by_cases J:n*i.size=0
 ·have hzc:Builtin.zeroCells z.cells n= #[]:=Array.eq_empty_of_size_eq_zero (by simp[Builtin.zeroCells,hzs,J]);simp[Builtin.append_,run_underlying ht,run_underlying hk,Go.sizeOf,typeInfo,zeroValue,hi,hz,hn,h63',h48',Question.forced,U,newRow,grownCap,asInt,asIntOf,hw,h0,hb,J,hzc]
 ·simp[Builtin.append_,run_underlying ht,run_underlying hk,Go.sizeOf,typeInfo,zeroValue,hi,hz,hn,h63',h48',Question.forced,U,newRow,grownCap,asInt,asIntOf,hw,h0,hb,J]
  congr 2
  apply Array.ext'
  simp[tq]
end
variable {row:List PV}{z:List V}
section
variable {ty:TypeId} {y:Operand}
theorem zlG{id id' e bytes n:Nat}{tx:TypeId}(hx:okc x (.one (.ar id)))(hy:okc y (I (n:Int)))
 (he:elemSz P t=some (el,e)) (hk:P.underlying tx=some (.int .i64)) (hz:zeroV P el=some z) (hp:pvsOf z=some row) (hzl:row.length=e) (hby:(P.info? el).map (·.bytes)=some bytes) (hb:(rows.length+n)*bytes<=140737488355328) (hlen:rows.length+n<=9223372036854775807):
 Snd P ⟨d,.call ⟨.builtin .append,#[x,y],#[t,tx]⟩,ty,ps,af,g⟩ (rq x (.one (.ar id))++rq y (I (n:Int))) [(id,.arr e rows)] [id'] (.one (.ar id')) [(id',some (.arr e (rows++List.replicate n row))),(id,none)]:=by
 intro C st M ρ a w hH h1 hT hF hd k Q hkk;rw[za]at h1;have e1:=hH.evS (zz hx h1.1);have e2:=hH.k (zz hy h1.2);obtain⟨b,cap,h2,h3,h4,h5⟩:=hH.zP.res id _ hT.1;simp only[RepS,RepV]at e1;obtain⟨ii,hu,U,hsz⟩:=zy he;obtain⟨i',zv,hi',hzv,hzs⟩:=we hz;obtain⟨zv',hz1,hz2,_⟩:=xQ hz M ρ w;rw[U]at hi';simp only[ui]at hi';subst hi';have:zv'=zv:=by simp[zeroValue,typeInfo,U,hzv]at hz1;exact hz1.symm
 subst this;rw[U]at hby;simp only[uO,ui]at hby;have hzl':z.length=e:=by rw[wQ hp,uk];exact hzl
 have hzc:Builtin.zeroCells zv'.cells n=madeCells zv'.cells (n*e):=by simp only[Builtin.zeroCells,madeCells,hzs,hzl']
 obtain⟨news,hnw⟩: ∃news,news=(Builtin.zeroCells zv'.cells n).toList:=⟨_,rfl⟩;have hnews:RepVs M ρ ((List.replicate n row).flatten.map V.p) news:=by rw[hnw,hzc];exact vP hz2 hzl' n hp
 have hnl:news.length=n*e:=by rw[hnw,hzc];simp[size_madeCells]
 have hlen2:=zgT (n:=n) hzl;have hone: ∀u∈news,u.oneCell'=true:=λu hu=>hnews.one u hu
 have hnb:n*bytes<=140737488355328:=tZ (tI _ ua) hb
 have hcall:execOp a.eval ⟨d,.call ⟨.builtin .append,#[x,y],#[t,tx]⟩,ty,ps,af,g⟩=(do pure (.value (<-Builtin.append_ #[t,tx] ty #[a.eval x,a.eval y]))):=by
  simp[execOp,resolve,invoke,builtin]
 have fin: ∀ {val:Value} {w':World},(Builtin.append_ #[t,tx] ty #[a.eval x,a.eval y]).run P w= .ok val w'->
  (∀b',b'<w.heap.size->(∀i r,(some id)=some i->tg st.tab i=some r-> ¬Bk (ρ i) b')->w'.heap[b']?=w.heap[b']?)->w.heap.size<=w'.heap.size->w'.os=w.os->w'.tape=w.tape->w'.output=w.output->
  (∀b',Bk val b'->w.heap.size<=b'\/ ∃i r,(some id)=some i/\tg st.tab i=some r/\Bk (ρ i) b')->zO M (upd ρ id' val) w' id' (.arr e (rows++List.replicate n row))->val.oneCell'=true->
  Oper.wp P ⟨d,.call ⟨.builtin .append,#[x,y],#[t,tx]⟩,ty,ps,af,g⟩ a w k Q:=λ{val w'} J g1 g2 g3 g4 g5 g6 g7 g8=>by
  unfold Oper.wp;rw[hcall];simp only[Sem.run_bind,J,Result.andThen_ok,Sem.run_pure,Oper.upon_value];exact hkk _ _ _ _ (hH.step (some id) g1 g2 g3 g4 g5 g6 hF.1 g7 (by simp only[RepS,RepV];exact⟨(zG _ _ _).symm,g8⟩) hd)
 have hex:a.eval x= .slice b rows.length cap:=e1.1.trans h2;have hwn:IntKind.i64.wrap (n:Int)=n:=IntWalk.i64_in _ ua;have hn0: ¬((n:Int)<0):=by omega
 have hn48: ¬(281474976710656<(n:Int)*(ii.bytes:Int)):=by
  have:(n:Int)*(ii.bytes:Int)=((n*ii.bytes:Nat):Int):=by simp
  rw[this,hby];omega
 rcases tp cap (rows.length+n)with hlt|hge
 · -- a new row
   have hold: ∃olds:List Value,(Builtin.firstCells ii.size rows.length (.slice b rows.length cap)).run P w.drew= .ok olds.toArray w.drew/\RepVs M ρ (rows.flatten.map V.p) olds/\olds.length=rows.length*e/\ ∀r∈rows,r.length=e:=by
    rcases h5 with⟨rfl,hc⟩|⟨b',o,cs,el',fz,rfl,h6,_,_,h8⟩
    ·have:rows=[]:=u3.1 ua;subst this;exact⟨[],run_firstCells_none w.drew _ _ _ _,by simp[RepVs],ue,ue⟩
    ·obtain⟨us,h9,h10,h11⟩:=h8.cells (ρ:=ρ);refine⟨us,?_,h9,h10,h8.len⟩;rw[hsz]
     exact run_firstCells_some w.drew e rows.length ⟨b',o,none⟩ _ cap us h10 (λj u hj=>by
      rw[ym];have:=h11 j u hj;have h6':w.drew.heap[b']?=some (.cells cs el' fz):=h6
      simp[World.cell?,h6',this])
   obtain⟨olds,ho1,ho2,ho3,ho4⟩:=hold;have J:=zcR (P:=P) w t tx ty el ii zv' hu hk U hzv b rows.length cap olds ho1 n (by rw[hzs,hzl',hsz]) (by rw[hby];exact hnb) ua hlt ua (growslice_fits hlt (by rw[hby];exact hb));rw[<-hex,<-e2,<-hnw]at J;have hcap:=grownCap_ge w (rows.length+n) cap el
   refine fin J (λb' hb' _=>yE w.drew _ b' hb') ue rfl rfl rfl (λb' hb'=> .inl ?_) ⟨some ⟨w.heap.size,0,none⟩,grownCap w (rows.length+n) cap el,by rw[zG];simp,by simpa using hcap,(by have:=grownCap_le_maxLen w (rows.length+n) cap el (by unfold maxLen;omega);unfold maxLen at this;omega),.inr
    ⟨w.heap.size,0,_,el,(0,0),rfl,zY w.drew _,λi _=>by simp,?_,?_⟩⟩ rfl
   ·simp only[Bk,blk,ui]at hb';omega
   ·simp only[oW,tQ,uC,size_zeroCells,hzs,hzl',ho3,hnl,<-tH,tC]
    apply tI;omega
   ·refine RowsIn.yG (ρ:=ρ) (cs:=olds++news) (λr hr=>(tj.1 hr).elim (ho4 r) (hlen2 r)) (by simpa [qc]using ho2.append hnews) λj c hj=>?_;have hjl:j<(olds++news).length:=(uw.1 hj).1;rw[tC,qy (by simpa using hjl)];simpa using hj
 · -- room
   rcases h5 with⟨rfl,hc⟩|⟨b',o,cs,el',fz,rfl,h6,h6',h7,h8⟩
   ·have e3:n=0:=by omega
    have e4:rows=[]:=u3.1 ua;subst e3;subst e4;subst hc;have hw0:IntKind.i64.wrap 0=0:=IntWalk.i64_in 0 ua
    have J:(Builtin.append_ #[t,tx] ty #[a.eval x,a.eval y]).run P w= .ok (.slice none 0 0) w:=by
     rw[hex,e2];simp[Builtin.append_,run_underlying hu,run_underlying hk,Go.sizeOf,typeInfo,U,hsz,asInt,asIntOf,hw0]
    exact fin J (λ_ _ _=>rfl) (uF _) rfl rfl rfl (λb' hb'=>by simp[Bk,blk]at hb') ⟨none,0,by rw[zG];rfl,ue,ue,.inl ⟨rfl,rfl⟩⟩ rfl
   ·have hfit:o+rows.length*e+0+news.length<=cs.size:=by
     rw[hnl];have:(rows.length+n)*e<=cap*e:=tI _ hge;rw[tH]at this;omega
    have hst:=z7 (P:=P) b' (o+rows.length*e) el' fz news 0 cs w h6 h6' hfit hone
    have J:(Builtin.append_ #[t,tx] ty #[a.eval x,a.eval y]).run P w= .ok (.slice (some ⟨b',o,none⟩) (rows.length+n) cap) (w.setRow b' (setAt cs.toList (o+rows.length*e+0) news).toArray):=by
     rw[hex,e2];by_cases hzero:n*ii.size=0
     ·have hn0':news=[]:=tL (by rw[hnl,<-hsz];exact hzero);rw[hn0']at hst⊢;rw[hsz]at hzero;simp[Builtin.append_,run_underlying hu,run_underlying hk,Go.sizeOf,typeInfo,U,hsz,hge,ym,asInt,asIntOf,hwn,hn0,hn48,hzero,hst]
     ·simp[Builtin.append_,run_underlying hu,run_underlying hk,Go.sizeOf,typeInfo,zeroValue,U,hzv,hge,ym,asInt,asIntOf,hwn,hn0,hn48,hzero,<-hnw];rw[hsz,hst];rfl
    have hob:Bk (ρ id) b':=by rw[h2];rfl
    have hsl:(setAt cs.toList (o+rows.length*e+0) news).length=cs.size:=by rw[yC _ _ _ (by simpa using hfit)];simp
    refine fin J (λb2 hb2 hne=>xU w b' _ b2 λe=>hne id _ rfl hT.1 (e ▸ hob)) (by simp[World.setRow]) rfl rfl rfl
     (λb2 hb2=> .inr ⟨id,_,rfl,hT.1,by simp only[Bk,blk,ui]at hb2;rw[<-hb2];exact hob⟩)
     ⟨some ⟨b',o,none⟩,cap,by rw[zG];simp,by simpa using hge,h4,.inr ⟨b',o,_,el',fz,rfl,setRow_heap w b' cs _ el' fz h6,?_,?_,?_⟩⟩ rfl
    ·simp only[tQ,hsl];exact h6'
    ·simp only[tQ,hsl];exact h7
    ·refine RowsIn.append (RowsIn.congr (λj hj=>?_) h8) (RowsIn.yG (ρ:=ρ) hlen2 hnews λj c hj=>?_)
     ·simp only[tu];rw[yQ _ _ _ _ ug,uv ua];simp
     ·have hjl:j<news.length:=(uw.1 hj).1;simp only[tu];rw[yQ _ _ _ _ ug,uu ua,uv ua];rw[show o+rows.length*e+j - (o+rows.length*e+0)=j by omega];exact hj
end
variable {m:Nat}
section
variable {k:List Frm} {n:Nat} {sl:zf}
theorem zcp(T:Ty P)(id':Nat){d:Nat}{y:Operand}{tx ty:TypeId}(hC:C.low){id e bytes:Nat}(rows3:List (List PV))
 (hx:ev sl x=some (.one (.ar id))) (hy:ev sl y=some (I (m:Int))) (hT:tg tab id=some (.arr e rows)) (he:T.es t=some (el,e)) (hk:P.underlying tx=some (.int .i64)) (hz:T.zs el=some z) (hp:pvsOf z=some row) (hr:rows++List.replicate m row=rows3) (U:Nat.beq row.length e=true) (hby:(P.info? el).map (·.bytes)=some bytes)
 (hb:(rows.length+m)*bytes<=140737488355328) (J:rows.length+m<=9223372036854775807) (hm:metL all sl g0=some gs) (hd:Nat.blt d n=true) (hf:(Nat.ble 100 id'&&freshB id' ⟨n,sl,tab⟩)=true)
 (g:Goal P C (.ops all rest (nx md ⟨some d,gs++(rq x (.one (.ar id))++rq y (I (m:Int))),[(id,.arr e rows)],[id'],.one (.ar id'),[(id',some (.arr e rows3)),(id,none)]⟩)) k n ((d,.one (.ar id'))::sl) ([(id',some (.arr e rows3)),(id,none)]++tab) Q):
 Goal P C (.ops all (⟨some d,.call ⟨.builtin .append,#[x,y],#[t,tx]⟩,ty,ps,af,g0⟩::rest) md) k n sl tab Q:=by
 subst hr;have e1:=zB (st:=⟨n,sl,tab⟩) hx;have e2:=zB (st:=⟨n,sl,tab⟩) hy;have:=zk hm (zlG (P:=P) (ty:=ty) (ps:=ps) (af:=af) (g:=g0) (d:=some d) (id':=id') (rows:=rows) e1.1 e2.1 (T.es_ok _ _ he) hk (T.zs_ok _ _ hz) hp (uH U) hby hb J) (n:=n) (tab:=tab);exact zT (L:=⟨some d,gs++(rq x (.one (.ar id))++rq y (I (m:Int))),[(id,.arr e rows)],[id'],.one (.ar id'),[(id',some (.arr e (rows++List.replicate m row))),(id,none)]⟩) hC this.1 rfl ⟨by rw[za,za];exact⟨this.2,e1.2,e2.2⟩,⟨hT,uh⟩,zbV hf,hd⟩ g
end
section
variable {ty:TypeId} {z:Operand}
theorem zub{n:Nat}(J:okc x (.one (.p (.k (.slice none 0 0)))))(U:elemSz P t=some (el,n)):
 Snd P ⟨d,.call ⟨.builtin .cap,#[x],#[t]⟩,ty,ps,af,g⟩ (rq x (.one (.p (.k (.slice none 0 0))))) [] [] (I 0) []:=
 zm λC st M ρ a w hH h1 hT=>by
  have e1:=hH.k (zz J h1);obtain⟨_,hu,_,_⟩:=zy U;exact⟨.int .i64 0,by simp[execOp,resolve,invoke,builtin,Builtin.cap_,run_underlying hu,e1,goInt],by simp only[RepS,RepV,RepPV];exact⟨uh,rfl⟩⟩
theorem zvG{n:Nat}(hx:okc x (.one (.p (.k (.slice none 0 0)))))(hz:okc z (Kk k' 0))(he:elemSz P t=some (el,n)):
 Snd P ⟨d,.slice t x none (some z) none,ty,ps,af,g⟩ (rq x (.one (.p (.k (.slice none 0 0))))++rq z (Kk k' 0)) [] [] (.one (.p (.k (.slice none 0 0)))) []:=
 zm λC st M ρ a w hH J hT=>by
  rw[za]at J;have e1:=hH.k (zz hx J.1);have e3:=hH.k (zz hz J.2);obtain⟨hu,U⟩:=zbQ he;refine⟨.slice none 0 0,?_,by simp only[RepS,RepV,RepPV];exact⟨uh,rfl⟩⟩;have hr:=run_slice_h w t none 0 0 hu k' 0 ua ua;simp only[execOp,e1,e3,qi,uO,Sem.run_bind,run_sliceAt_slice w t _ _ _ _ hu,hr,U,Result.andThen_ok,Sem.run_pure];simp[sliced]
end
section
variable {k:List Frm} {n:Nat} {sl:zf}
theorem zqr(T:Ty P){d:Nat}{ty:TypeId}(hC:C.low)
 (U:ev sl x=some (.one (.p (.k (.slice none 0 0))))) (he:T.es t=some (el,m)) (hm:metL all sl g0=some gs) (hd:Nat.blt d n=true)
 (g:Goal P C (.ops all rest (nx md ⟨some d,gs++rq x (.one (.p (.k (.slice none 0 0)))),[],[],I 0,[]⟩)) k n ((d,I 0)::sl) tab Q):
 Goal P C (.ops all (⟨some d,.call ⟨.builtin .cap,#[x],#[t]⟩,ty,ps,af,g0⟩::rest) md) k n sl tab Q:=by
 have J:=zB (st:=⟨n,sl,tab⟩) U;have:=zk hm (zub (P:=P) (ty:=ty) (ps:=ps) (af:=af) (g:=g0) (d:=some d) J.1 (T.es_ok _ _ he)) (n:=n) (tab:=tab);exact zT (L:=⟨some d,gs++rq x (.one (.p (.k (.slice none 0 0)))),[],[],I 0,[]⟩) hC this.1 rfl ⟨by rw[za];exact⟨this.2,J.2⟩,trivial,rfl,hd⟩ g
theorem zvH(T:Ty P){d:Nat}{z:Operand}{ty:TypeId}(hC:C.low)
 (hx:ev sl x=some (.one (.p (.k (.slice none 0 0))))) (hz:ev sl z=some (Kk k1 0)) (he:T.es t=some (el,m)) (hm:metL all sl g0=some gs) (hd:Nat.blt d n=true)
 (g:Goal P C (.ops all rest (nx md ⟨some d,gs++(rq x (.one (.p (.k (.slice none 0 0))))++rq z (Kk k1 0)),[],[],.one (.p (.k (.slice none 0 0))),[]⟩)) k n ((d,.one (.p (.k (.slice none 0 0))))::sl) tab Q):
 Goal P C (.ops all (⟨some d,.slice t x none (some z) none,ty,ps,af,g0⟩::rest) md) k n sl tab Q:=by
 have J:=zB (st:=⟨n,sl,tab⟩) hx;have U:=zB (st:=⟨n,sl,tab⟩) hz;have:=zk hm (zvG (P:=P) (ty:=ty) (ps:=ps) (af:=af) (g:=g0) (d:=some d) J.1 U.1 (T.es_ok _ _ he)) (n:=n) (tab:=tab);exact zT (L:=⟨some d,gs++(rq x (.one (.p (.k (.slice none 0 0))))++rq z (Kk k1 0)),[],[],.one (.p (.k (.slice none 0 0))),[]⟩) hC this.1 rfl ⟨by rw[za,za];exact⟨this.2,J.2,U.2⟩,trivial,rfl,hd⟩ g
end
end Hw
namespace Hw.Gm
open Go Go.Proofs Hw.M Ps
set_option maxRecDepth 100000 in
theorem zoH(m:Nat)(h:m<=1000000):zh Tryz.prog 219 [.one (.p (.k (.slice none 0 0))),I m] [] (.one (.ar 0)) [(0,.arr 2 [])]:=by
 have J:IntKind.i64.wrap ((m:Int) - IntKind.i64.wrap (0 - 0))=m:=by rw[show IntKind.i64.wrap (0 - 0)=0 from rfl,wrap64 ua];omega
 by_cases U:m=0
 ·refine gO T Tryz.func219 λC hC=>?_
  repeat' first|refine gG ?_|(exfalso;rw[J]at h;have h1:=uj h;omega)|(exfalso;first|(have U:=uj h;omega)|(have U:=um h;omega))|refine gB ?_ ?_<;>intro h|(refine zqr T hC rfl rfl rfl rfl ?_)
  refine gA 101 2 [(4,.one (.ar 101))] [] ?_;exact gW [101]
 ·refine gO T Tryz.func219 λC hC=>?_
  repeat' first|refine gG ?_|(exfalso;rw[J]at h;have h1:=um h;omega)|(exfalso;first|(have U:=uj h;omega)|(have U:=um h;omega))|refine gB ?_ ?_<;>intro h|(refine zqr T hC rfl rfl rfl rfl ?_)|(refine zvH T hC rfl rfl rfl rfl rfl ?_)|(rw[J];refine gA 101 2 [(20,.one (.ar 101))] [] ?_;refine zcp T 102 hC (id:=101) (rows:=[]) (row:=zw ⟨(⟨#[]⟩:UH),(⟨#[]⟩:UH)⟩) (bytes:=32) (List.replicate m (zw ⟨(⟨#[]⟩:UH),(⟨#[]⟩:UH)⟩)) rfl rfl rfl rfl rfl rfl rfl rfl rfl ud (by simp only[qh];omega) (by simp only[qh];omega) rfl rfl rfl ?_)|(refine zlE T 103 hC (rows':=[]) rfl rfl rfl rfl ub ue rfl rfl rfl rfl ?_)
  exact gW [103]
def lsP(ls:List (List Fld)):PV:= .sl 1 (ls.map λl=>[zx l])
theorem zjm(ls:List (List Fld))(hn:ls.length<=1000)(ht:ls.flatten.length<=1000000):zh Tryz.prog 169 [pS (lsP ls)] [] (pS (zx ls.flatten)) []:=by
 have J: ∀i,(ls.take i).flatten.length<=1000000:=λi=>by
  have:ls.flatten=(ls.take i).flatten++(ls.drop i).flatten:=by rw[<-qc,qo]
  rw[this,uC]at ht;omega
 have hsn: ∀ {i:Nat} {l:List Fld},ls[i]?=some l->(ls.take (i+1)).flatten=(ls.take i).flatten++l:=λh=>by rw[yd h,qc];simp
 refine gO T Tryz.func169 λC hC=>?_
 repeat' first|refine gG ?_|refine gB ?_ ?_<;>intro h
 rw[uk]
 refine zn (λi:Nat=>i<=ls.length) (λi=>([(0,pS (lsP ls)),(9,pS (lsP ls)),(10,I ls.length),(11,I i),(3,I (ls.take i).flatten.length)],[])) (λi=>ls.length - i) hC
  0 (uz _) id gM ?_
 intro i hi;refine zq T hC true 200 rfl ?_;refine zt rfl ?_ ?_<;>intro h
 ·have U:i<ls.length:=by simpa using h
  clear h;obtain⟨l,hl⟩:=zd U;have h1:=J i;have h2:=J (i+1);have h3:=hsn hl;have hll:((ls.take i).flatten.length:Int)+l.length=((ls.take (i+1)).flatten.length:Nat):=by rw[h3,uC];omega
  have hw1:IntKind.i64.wrap (((ls.take i).flatten.length:Int)+((l.map zw).length:Nat))=((ls.take (i+1)).flatten.length:Nat):=by rw[uk,hll,wrap64 ua]
  repeat' first|refine gG ?_|(exfalso;rw[hw1]at h;have h5:=uj h;omega)|refine gB ?_ ?_<;>intro h|(refine xz T hC (row:=[zx l]) rfl rfl rfl (uE _) (by simp only[tD,uK,hl];rfl) rfl rfl ?_)
  rw[wrapN ua,hw1];exact zg (i+1) ua id ua gM
 ·have hge: ¬i<ls.length:=by simpa using h
  clear h;rw[u5 ua];have hG:=zoH ls.flatten.length ht
  repeat' first|refine gG ?_|refine gB ?_ ?_<;>intro h|refine ze ?_|refine gR hG (nm [140]) ?_
  rw[uk]
  refine zn (λi:Nat=>i<=ls.length) (λi=>([(25,pS (lsP ls)),(26,I ls.length),(27,I i),(6,.one (.ar 150))],[(150,some (.arr 2 ((ls.take i).flatten.map zw)))])) (λi=>ls.length - i) hC
   0 (uz _) (ms [(150,140)]) ⟨rfl,⟨rfl,rfl,rfl,rfl,uh⟩,⟨rfl,uh⟩,rfl,xH rfl⟩ ?_
  clear hi hge hG;clear i;intro i hi;refine zq T hC true 200 rfl ?_;refine zt rfl ?_ ?_<;>intro h
  ·have U:i<ls.length:=by simpa using h
   clear h;obtain⟨l,hl⟩:=zd U;have h1:=J (i+1);have h3:=hsn hl;have hll:(ls.take i).flatten.length+l.length=(ls.take (i+1)).flatten.length:=by rw[h3,uC]
   have happ:(ls.take i).flatten.map zw++l.map zw=(ls.take (i+1)).flatten.map zw:=by rw[h3,u6]
   repeat' first|refine gG ?_|refine gB ?_ ?_<;>intro h|(refine xz T hC (row:=[zx l]) rfl rfl rfl (uE _) (by simp only[tD,uK,hl];rfl) rfl rfl ?_)|(refine gY T 151 ((ls.take (i+1)).flatten.map zw) 32 ?_)
   rw[wrapN ua];exact zg (i+1) ua (ms [(150,151)]) ua ⟨rfl,⟨rfl,rfl,rfl,rfl,uh⟩,⟨rfl,uh⟩,rfl,xH rfl⟩
  ·have hge: ¬i<ls.length:=by simpa using h
   clear h;rw[u5 ua];refine gZ 150 [(6,pS (zx ls.flatten))] [] ?_
   repeat' first|refine gG ?_|refine gB ?_ ?_<;>intro h|refine ze ?_
   exact gF
theorem zdh(a b:List Fld)(ha:a.length<=500000)(hb:b.length<=500000):zh Tryz.prog 169 [pS (.sl 1 [[zx a],[zx b]])] [] (pS (zx (a++b))) []:=by
 have h:=zjm [a,b] ue ug;rw[show [a,b].flatten=a++b by simp]at h;exact h
abbrev zwz(r:Option Int):S:= .agg [.p (.k (.bool r.isSome)),.p (ki (r.getD 0))]
def ssE(d:zj)(fuel:Int):An (Option Int×Fr)->End
 | .ok (r,fr) m=> .ok (zwz r) (mcR d fuel m 1 7 8 9++frR fr)
 | .flt e m=> .pn (znM e) (mcR d fuel m 1 7 8 9)
 | .out=> .no
abbrev ztj(d:zj)(fuel:Int)(fr:Fr)(l:List Sm)(m:Mc)(r:An (Option Int×Fr)):Prop:=
 FnX Tryz.prog 233 [.one (.bx 0 0),.one (.bx 5 0),pS (yl l)] (mcR d fuel m 1 2 3 4++frR fr) (ssE d fuel r)
variable {d:zj}{fuel:Int}
set_option maxRecDepth 100000 in
set_option maxHeartbeats 1000000 in
theorem zrJ{k:Nat}(ihS: ∀fr l m,ztj d fuel fr l m (ssV d fuel k fr l m))(p:Pr)(a:List Int)(m:Mc):zu6 d fuel p a m (rnV d fuel (k+1) p a m):=by
 rw[rnV];by_cases h0:m.calls≥200
 ·rw[uv h0];have hf:=vO 19;show ya _ _ _ _ _ _;refine zX T Tryz.func188 ud rfl rfl rfl λC hC=>?_
  repeat' first|refine gG ?_|(exfalso;first|(have h0:=uj h;omega)|(have h0:=um h;omega))|refine gB ?_ ?_<;>intro h|(refine zr hC hf id rfl rfl zqm rfl rfl rfl rfl rfl rfl ?_)
  exact gU (zi ⟨rfl,nm [0,1,2,3,4,5,6,2,3,4],⟨rfl,rfl,rfl,rfl,rfl,uh⟩,rfl,rfl⟩)
 rw[uu h0];obtain⟨fr,hfr⟩: ∃fr:Fr,fr=⟨p.params++p.locs,a++List.replicate p.locs.length 0⟩:=⟨_,rfl⟩;obtain⟨m0,hm0⟩: ∃m0:Mc,m0={ m with calls:=m.calls+1 }:=⟨_,rfl⟩;rw[<-hfr,<-hm0];rcases wx (p:=0<=m.calls/\a.length<=1000000/\p.params.length<=100000/\p.locs.length<=100000) (x:=(ssV d fuel k fr p.body m0).bind λq m=>ifA (0<m.calls/\m.calls<=1000) (.ok (q.1.getD 0) { m with calls:=m.calls - 1 }))with h|⟨⟨hc,hal,hpl,hll⟩,h⟩
 ·rw[h];trivial
 rw[h];clear h;have hS:=ihS fr p.body m0;have hK:=zdh p.params p.locs ua ua;have hC1:=jF a hal;have hw:IntKind.i64.wrap (m.calls+1)=m.calls+1:=wrap64 ua;have hrep:a.map yk++List.replicate p.locs.length [ki 0]=(a++List.replicate p.locs.length 0).map yk:=by simp only[u6,oS,yk]
 subst hfr;cases hr:ssV d fuel k ⟨p.params++p.locs,a++List.replicate p.locs.length 0⟩ p.body m0 with
 |out=>trivial
 |flt er mE=>
  rw[hr]at hS;have hS:ya _ _ _ _ _ _:=hS;subst hm0;show ya _ _ _ _ _ _;refine zX T Tryz.func188 ud rfl rfl rfl λC hC=>?_
  repeat' first|refine gG ?_|(exfalso;first|(have h0:=uj h;omega)|(have h0:=um h;omega))|refine gB ?_ ?_<;>intro h|refine gT ?_|refine gC hK ?_|refine gR hC1 (nm [141]) ?_|(rw[uk];refine zcp T 142 hC (id:=141) (rows:=a.map yk) (row:=[ki 0]) (bytes:=8) ((a++List.replicate p.locs.length 0).map yk) rfl rfl rfl rfl rfl rfl rfl hrep rfl ud (by simp only[uk];omega) (by simp only[uk];omega) rfl rfl rfl ?_)
  rw[hw];refine zr hC hS (nm [0,1,2,3,4,1030,142,107,108,109]) rfl rfl (zH.refl _) rfl rfl rfl rfl rfl rfl ?_;exact gU (zi ⟨rfl,nm [0,1,2,3,4,5,6,107,108,109],⟨rfl,rfl,rfl,rfl,rfl,uh⟩,rfl,rfl⟩)
 |ok q mE=>
  rw[hr]at hS;obtain⟨r,fr2⟩:=q;have hS:zh _ _ _ _ _ _:=hS;simp only[An.bind];rcases wx (p:=0<mE.calls/\mE.calls<=1000) (x:=An.ok (r.getD 0) { mE with calls:=mE.calls - 1 })with h|⟨hc2,h⟩
  ·rw[h];trivial
  rw[h];have hw2:IntKind.i64.wrap (mE.calls - 1)=mE.calls - 1:=wrap64 ua;subst hm0;show zh _ _ _ _ _ _;refine gO T Tryz.func188 λC hC=>?_
  repeat' first|refine gG ?_|(exfalso;first|(have h0:=uj h;omega)|(have h0:=um h;omega))|refine gB ?_ ?_<;>intro h|refine gT ?_|refine gC hK ?_|refine gR hC1 (nm [141]) ?_|(rw[uk];refine zcp T 142 hC (id:=141) (rows:=a.map yk) (row:=[ki 0]) (bytes:=8) ((a++List.replicate p.locs.length 0).map yk) rfl rfl rfl rfl rfl rfl rfl hrep rfl ud (by simp only[uk];omega) (by simp only[uk];omega) rfl rfl rfl ?_)
  rw[hw]
  repeat' first|refine gG ?_|refine gB ?_ ?_<;>intro h|refine gR hS (nm [0,1,2,3,4,1030,142,107,108,109]) ?_
  rw[hw2];exact gW [0,1,2,3,4,5,6,107,108,109]
abbrev zgf(d:zj)(fuel:Int)(fr:Fr)(x:Sm)(m:Mc)(r:An (Option Int×Fr)):Prop:=
 FnX Tryz.prog 260 [.one (.bx 0 0),.one (.bx 5 0),zF (zcL x)] (mcR d fuel m 1 2 3 4++frR fr) (ssE d fuel r)
variable {m:Mc}{res:An (Option Int×Fr)}{x:Sm}
theorem zlH{fr:Fr}{k:Nat}{r:List Sm}(h:ssV d fuel k fr (x::r) m=res)(J:res≠ .out):
 ∃j,k=j+1/\((∃v fr2 m1,sV d fuel j fr x m= .ok (some v,fr2) m1/\res= .ok (some v,fr2) m1)\/(∃fr2 m1,sV d fuel j fr x m= .ok (none,fr2) m1/\ssV d fuel j fr2 r m1=res)\/ ∃er m1,sV d fuel j fr x m= .flt er m1/\res= .flt er m1):=by
 cases k with
 |zero=>rw[ssV]at h;exact absurd h.symm J
 |succ j=>
  refine⟨j,rfl,?_⟩;rw[ssV]at h;cases hx:sV d fuel j fr x m with
  |out=>rw[hx]at h;exact absurd h.symm J
  |flt er m1=>rw[hx]at h;exact .inr (.inr ⟨er,m1,rfl,h.symm⟩)
  |ok q m1=>
   rw[hx]at h;obtain⟨o,fr2⟩:=q;cases o with
   |some v=>exact .inl ⟨v,fr2,m1,rfl,h.symm⟩
   |none=>exact .inr (.inl ⟨fr2,m1,rfl,h⟩)
theorem zqs{fr:Fr}{k:Nat}(h:ssV d fuel k fr [] m=res)(J:res≠ .out):res= .ok (none,fr) m:=by
 cases k with
 |zero=>rw[ssV]at h;exact absurd h.symm J
 |succ j=>rw[ssV]at h;exact h.symm
def ssT(d:zj)(fuel:Int)(l:List Sm)(q:Nat×Nat×Fr×Mc):zf×Tab:=
 ([(0,.one (.bx 0 0)),(1,.one (.bx 5 0)),(10,pS (yl l)),(11,I l.length),(12,I q.1),(6,.one (.bx 1006 0))],
  [(1006,some (.box [.p (.k (.bool false)),.p (ki 0)])),(0,some (.box (mcC d fuel q.2.2.2 1 107 109))),(1,some (.arr 1 (q.2.2.2.g.map yk))),(107,some (.vw [108] 2 (wRows q.2.2.2.ns 0))),(108,some (.bag 1 (j9 q.2.2.2.ns))),(109,some (.arr 3 (q.2.2.2.acc.map zgQ))),
   (5,some (.box [.p (zx q.2.2.1.vs),.ar 6])),(6,some (.arr 1 (q.2.2.1.va.map yk)))])
theorem zrK{k:Nat}(ihS: ∀j,j<=k-> ∀fr x m,zgf d fuel fr x m (sV d fuel j fr x m))(fr:Fr)(l:List Sm)(m:Mc):ztj d fuel fr l m (ssV d fuel (k+1) fr l m):=by
 obtain⟨res,U⟩: ∃res,ssV d fuel (k+1) fr l m=res:=⟨_,rfl⟩;rw[U];cases res with
 |out=>trivial
 |ok q0 mF=>
  obtain⟨o,frF⟩:=q0;show zh _ _ _ _ _ _;refine gO T Tryz.func233 λC hC=>?_;refine wJ 2 rfl λhlen=>?_;rw[uk]at hlen
  repeat' first|refine gG ?_|refine gB ?_ ?_<;>intro h
  rw[uk]
  refine zn (λq:Nat×Nat×Fr×Mc=>q.1<=l.length/\q.2.1<=k+1/\ssV d fuel q.2.1 q.2.2.1 (l.drop q.1) q.2.2.2= .ok (o,frF) mF) (ssT d fuel l) (λq=>l.length - q.1) hC
   (0,k+1,fr,m) ⟨uz _,uF _,U⟩ (ms [(107,2),(108,3),(109,4)]) ⟨rfl,⟨rfl,rfl,rfl,rfl,rfl,rfl,uh⟩,⟨rfl,rfl,rfl,rfl,rfl,rfl,rfl,rfl,uh⟩,rfl,xH rfl⟩ ?_
  clear U;rintro⟨i,k1,fr1,m1⟩ ⟨hi,hk,hv⟩;simp only at hi hk hv;refine zq T hC true 200 rfl ?_;refine zt rfl ?_ ?_<;>intro h
  ·have hlt:i<l.length:=by simpa [ssT]using h
   clear h;obtain⟨x,hx⟩:=zd hlt;rw[drop_at hx]at hv;obtain⟨j,rfl,hcase⟩:=zlH hv ue;have hX:=ihS j ua fr1 x m1;rcases hcase with⟨v,fr2,m2,J,hE⟩|⟨fr2,m2,J,hE⟩|⟨er,m2,J,hE⟩
   ·rw[J]at hX;have hX:zh _ _ _ _ _ _:=hX;cases hE
    repeat' first|refine gG ?_|refine gB ?_ ?_<;>intro h|refine gXT ?_|refine gR hX (nm [0,1,107,108,109,5,6,117,118,119]) ?_|refine zo ?_
    exact gW [0,1,2,3,4,5,6,117,118,119]
   ·rw[J]at hX;have hX:zh _ _ _ _ _ _:=hX
    repeat' first|refine gG ?_|refine gB ?_ ?_<;>intro h|refine gXT ?_|refine gR hX (nm [0,1,107,108,109,5,6,117,118,119]) ?_|refine zo ?_
    rw[wrap64 ua];exact zg (i+1,j,fr2,m2) ⟨by simp only;omega,by simp only;omega,hE⟩ (ms [(107,117),(108,118),(109,119)]) (by simp only;omega) ⟨rfl,⟨rfl,rfl,rfl,rfl,rfl,rfl,uh⟩,⟨rfl,rfl,rfl,rfl,rfl,rfl,rfl,rfl,uh⟩,rfl,xH rfl⟩
   ·cases hE
  ·have hge: ¬i<l.length:=by simpa [ssT]using h
   clear h;rw[uA ua]at hv;cases zqs hv ue
   repeat' first|refine gG ?_|refine gB ?_ ?_<;>intro h|refine ze ?_
   exact gW [0,1,2,3,4,5,6,107,108,109]
 |flt er mF=>
  show ya _ _ _ _ _ _;refine zX T Tryz.func233 ud rfl rfl rfl λC hC=>?_;refine wJ 2 rfl λhlen=>?_;rw[uk]at hlen
  repeat' first|refine gG ?_|refine gB ?_ ?_<;>intro h
  rw[uk]
  refine zn (λq:Nat×Nat×Fr×Mc=>q.1<=l.length/\q.2.1<=k+1/\ssV d fuel q.2.1 q.2.2.1 (l.drop q.1) q.2.2.2= .flt er mF) (ssT d fuel l) (λq=>l.length - q.1) hC
   (0,k+1,fr,m) ⟨uz _,uF _,U⟩ (ms [(107,2),(108,3),(109,4)]) ⟨rfl,⟨rfl,rfl,rfl,rfl,rfl,rfl,uh⟩,⟨rfl,rfl,rfl,rfl,rfl,rfl,rfl,rfl,uh⟩,rfl,xH rfl⟩ ?_
  clear U;rintro⟨i,k1,fr1,m1⟩ ⟨hi,hk,hv⟩;simp only at hi hk hv;refine zq T hC true 200 rfl ?_;refine zt rfl ?_ ?_<;>intro h
  ·have hlt:i<l.length:=by simpa [ssT]using h
   clear h;obtain⟨x,hx⟩:=zd hlt;rw[drop_at hx]at hv;obtain⟨j,rfl,hcase⟩:=zlH hv ue;have hX:=ihS j ua fr1 x m1;rcases hcase with⟨v,fr2,m2,J,hE⟩|⟨fr2,m2,J,hE⟩|⟨er,m2,J,hE⟩
   ·cases hE
   ·rw[J]at hX;have hX:zh _ _ _ _ _ _:=hX
    repeat' first|refine gG ?_|refine gB ?_ ?_<;>intro h|refine gXT ?_|refine gR hX (nm [0,1,107,108,109,5,6,117,118,119]) ?_|refine zo ?_
    rw[wrap64 ua];exact zg (i+1,j,fr2,m2) ⟨by simp only;omega,by simp only;omega,hE⟩ (ms [(107,117),(108,118),(109,119)]) (by simp only;omega) ⟨rfl,⟨rfl,rfl,rfl,rfl,rfl,rfl,uh⟩,⟨rfl,rfl,rfl,rfl,rfl,rfl,rfl,rfl,uh⟩,rfl,xH rfl⟩
   ·rw[J]at hX;have hX:ya _ _ _ _ _ _:=hX;cases hE
    repeat' first|refine gG ?_|refine gB ?_ ?_<;>intro h|refine gXT ?_|(refine zr hC hX (nm [0,1,107,108,109,5,6,117,118,119]) rfl rfl (zH.refl _) rfl rfl rfl rfl rfl rfl ?_)
    exact gU (zdd (gU (zi ⟨rfl,nm [0,1,2,3,4,5,6,117,118,119],⟨rfl,rfl,rfl,rfl,rfl,uh⟩,rfl,rfl⟩)))
  ·have hge: ¬i<l.length:=by simpa [ssT]using h
   clear h;rw[uA ua]at hv;cases zqs hv ue
def Mc.tk(m:Mc):Mc:={ m with ticks:=m.ticks+1 }
variable {m1:Mc}{y:Ex}
section
variable {fr:Fr}
theorem zrL(h:m.ticks≥fuel):zgf d fuel fr x m (.flt 20 m):=by
 have hT:=zlA d fuel m h;show ya _ _ _ _ _ _;refine zX T Tryz.func260 ud rfl rfl rfl λC hC=>?_
 repeat' first|refine gG ?_|refine gB ?_ ?_<;>intro h|(refine zr hC hT id rfl rfl (zH.refl _) rfl rfl rfl rfl rfl rfl ?_)
 exact gU (zi ⟨rfl,nm [0,1,2,3,4,5,6,2,3,4],⟨rfl,rfl,rfl,rfl,rfl,uh⟩,rfl,rfl⟩)
variable (hT:zh Tryz.prog 273 [.one (.bx 0 0)] (mcR d fuel m 1 2 3 4) (.tup []) (mcR d fuel m.tk 1 2 3 4))
include hT
theorem zwA{er:Int}(J:x.op=1\/x.op=2\/x.op=3\/(x.op=5/\x.e.length≠0))(hy:x.e[0]?=some y)(U:wP d fuel fr y m.tk (.flt er m1)):zgf d fuel fr x m (.flt er m1):=by
 have U:ya _ _ _ _ _ _:=U;have hlt:=(uw.1 hy).1;show ya _ _ _ _ _ _;rcases J with J|J|J|⟨J,hne⟩
 all_goals
  refine zX T Tryz.func260 ud rfl rfl rfl λC hC=>?_
  repeat' first|refine gG ?_|(exfalso;first|(have h0:=uj h;omega)|(have h0:=um h;omega))|(exfalso;have h0:=uj h;simp only[uk]at h0;omega)|refine gB ?_ ?_<;>intro h|refine gR hT (nm [0,1,2,3,4]) ?_|(refine gI T (zI hy) ?_)|(refine zr hC U (nm [0,1,2,3,4,5,6,107,108,109]) rfl rfl (zH.refl _) rfl rfl rfl rfl rfl rfl ?_)
  exact gU (zi ⟨rfl,nm [0,1,2,3,4,5,6,107,108,109],⟨rfl,rfl,rfl,rfl,rfl,uh⟩,rfl,rfl⟩)
theorem zwB{a:An Int}(hop:x.op=6)(hy:x.e[0]?=some y)(J:zrE d fuel fr y m.tk a):zgf d fuel fr x m (a.bind λ_ m=> .ok (none,fr) m):=by
 cases a with
 |out=>trivial
 |ok v m1=>
  have J:zh _ _ _ _ _ _:=J;show zh _ _ _ _ _ _;refine gO T Tryz.func260 λC hC=>?_
  repeat' first|refine gG ?_|(exfalso;first|(have U:=uj h;omega)|(have U:=um h;omega))|refine gB ?_ ?_<;>intro h|refine gR hT (nm [0,1,2,3,4]) ?_|(refine gI T (zI hy) ?_)|refine gR J (nm [0,1,2,3,4,5,6,107,108,109]) ?_
  exact gW [0,1,2,3,4,5,6,107,108,109]
 |flt er m1=>
  have J:ya _ _ _ _ _ _:=J;show ya _ _ _ _ _ _;refine zX T Tryz.func260 ud rfl rfl rfl λC hC=>?_
  repeat' first|refine gG ?_|(exfalso;first|(have U:=uj h;omega)|(have U:=um h;omega))|refine gB ?_ ?_<;>intro h|refine gR hT (nm [0,1,2,3,4]) ?_|(refine gI T (zI hy) ?_)|(refine zr hC J (nm [0,1,2,3,4,5,6,107,108,109]) rfl rfl (zH.refl _) rfl rfl rfl rfl rfl rfl ?_)
  exact gU (zi ⟨rfl,nm [0,1,2,3,4,5,6,107,108,109],⟨rfl,rfl,rfl,rfl,rfl,uh⟩,rfl,rfl⟩)
theorem zwC(hop: ¬(x.op=1\/x.op=2\/x.op=3\/x.op=4\/x.op=5\/x.op=6)):zgf d fuel fr x m (.ok (none,fr) m.tk):=by
 show zh _ _ _ _ _ _;refine gO T Tryz.func260 λC hC=>?_
 repeat' first|refine gG ?_|(exfalso;first|(have J:=uj h;omega)|(have J:=um h;omega))|refine gB ?_ ?_<;>intro h|refine gR hT (nm [0,1,2,3,4]) ?_
 exact gW [0,1,2,3,4,5,6,2,3,4]
theorem zvI(hop:x.op=5)(he:x.e.length=0):zgf d fuel fr x m (.ok (some 0,fr) m.tk):=by
 show zh _ _ _ _ _ _;refine gO T Tryz.func260 λC hC=>?_
 repeat' first|refine gG ?_|(exfalso;first|(have J:=uj h;omega)|(have J:=um h;omega))|(exfalso;have J:=um h;simp only[uk]at J;omega)|refine gB ?_ ?_<;>intro h|refine gR hT (nm [0,1,2,3,4]) ?_
 exact gW [0,1,2,3,4,5,6,2,3,4]
theorem zwD{v:Int}(hop:x.op=5)(hy:x.e[0]?=some y)(J:wP d fuel fr y m.tk (.ok v m1)):zgf d fuel fr x m (.ok (some v,fr) m1):=by
 have hlt:=(uw.1 hy).1;have J:zh _ _ _ _ _ _:=J;show zh _ _ _ _ _ _;refine gO T Tryz.func260 λC hC=>?_
 repeat' first|refine gG ?_|(exfalso;first|(have U:=uj h;omega)|(have U:=um h;omega))|(exfalso;have U:=uj h;simp only[uk]at U;omega)|refine gB ?_ ?_<;>intro h|refine gR hT (nm [0,1,2,3,4]) ?_|(refine gI T (zI hy) ?_)|refine gR J (nm [0,1,2,3,4,5,6,107,108,109]) ?_
 exact gW [0,1,2,3,4,5,6,107,108,109]
theorem zwE{v:Int}{a:An (Option Int×Fr)}(hop:x.op=3)(hy:x.e[0]?=some y)(U:wP d fuel fr y m.tk (.ok v m1))(J:ztj d fuel fr (if v=1 then x.l else x.els) m1 a):zgf d fuel fr x m a:=by
 have U:zh _ _ _ _ _ _:=U;by_cases hv:v=1
 all_goals
  first|rw[uv hv]at J|rw[uu hv]at J
  cases a with
  |out=>trivial
  |ok q m2=>
   obtain⟨r,fr2⟩:=q;have J:zh _ _ _ _ _ _:=J;show zh _ _ _ _ _ _;refine gO T Tryz.func260 λC hC=>?_
   repeat' first|refine gG ?_|(exfalso;first|(have h0:=uj h;omega)|(have h0:=um h;omega))|refine gB ?_ ?_<;>intro h|refine gR hT (nm [0,1,2,3,4]) ?_|(refine gI T (zI hy) ?_)|refine gR U (nm [0,1,2,3,4,5,6,107,108,109]) ?_|refine gR J (nm [0,1,107,108,109,5,6,117,118,119]) ?_
   exact gW [0,1,2,3,4,5,6,117,118,119]
  |flt er m2=>
   have J:ya _ _ _ _ _ _:=J;show ya _ _ _ _ _ _;refine zX T Tryz.func260 ud rfl rfl rfl λC hC=>?_
   repeat' first|refine gG ?_|(exfalso;first|(have h0:=uj h;omega)|(have h0:=um h;omega))|refine gB ?_ ?_<;>intro h|refine gR hT (nm [0,1,2,3,4]) ?_|(refine gI T (zI hy) ?_)|refine gR U (nm [0,1,2,3,4,5,6,107,108,109]) ?_|(refine zr hC J (nm [0,1,107,108,109,5,6,117,118,119]) rfl rfl (zH.refl _) rfl rfl rfl rfl rfl rfl ?_)
   exact gU (zi ⟨rfl,nm [0,1,2,3,4,5,6,117,118,119],⟨rfl,rfl,rfl,rfl,rfl,uh⟩,rfl,rfl⟩)
end
theorem zij(l:List Int)(i:Nat)(x y:Int):(l.map yk).set i (setAt (yk y) 0 [ki x])=(l.set i x).map yk:=by
 rw[Un];rfl
def zwh(l:Nat)(field:Int):Prop:=field<0\/(l:Int)<=field
instance (l:Nat) (field:Int):Decidable (zwh l field):=by unfold zwh;infer_instance
section
variable {fr:Fr}
variable (hT:zh Tryz.prog 273 [.one (.bx 0 0)] (mcR d fuel m 1 2 3 4) (.tup []) (mcR d fuel m.tk 1 2 3 4))
include hT
theorem zwF{v:Int}(hop:x.op=1)(hy:x.e[0]?=some y)(U:wP d fuel fr y m.tk (.ok v m1)):zgf d fuel fr x m (stV d fr x.s v m1):=by
 have U:zh _ _ _ _ _ _:=U;unfold stV;cases hi:ixF fr.vs x.s with
 |some i=>
  have hI:=xG hi;simp only;rcases wx (p:=i<fr.va.length) (x:=(.ok (none,{ fr with va:=fr.va.set i v }) m1:An (Option Int×Fr)))with h|⟨J,h⟩
  ·rw[h];trivial
  rw[h];obtain⟨u,hu⟩:=zd J;show zh _ _ _ _ _ _;refine gO T Tryz.func260 λC hC=>?_
  repeat' first|refine gG ?_|(exfalso;first|(have h0:=uj h;omega)|(have h0:=um h;omega))|refine gB ?_ ?_<;>intro h|refine gR hT (nm [0,1,2,3,4]) ?_|(refine gI T (zI hy) ?_)|refine gR U (nm [0,1,2,3,4,5,6,107,108,109]) ?_|refine gC hI ?_|(refine jV T hC (rows:=fr.va.map yk) rfl rfl rfl rfl (uE _) (by rw[uk];omega) rfl rfl ?_)|(refine zd2 T hC i 0 (rows:=fr.va.map yk) (row:=yk u) (us:=[ki v]) (rows':=(fr.va.set i v).map yk) rfl rfl rfl rfl rfl rfl rfl (by rw[uK,hu];rfl) (uF 1) (zij _ _ _ _) rfl ?_)
  exact gW [0,1,2,3,4,5,6,107,108,109]
 |none=>
  have hI:=ve hi;simp only;rcases zdg (o:=ixF d.globals x.s) (f:=λi=>ifA (i<m1.g.length) (zdG m1 2 0 i λm=>(.ok (none,fr) { m with g:=m.g.set i v }:An (Option Int×Fr))))with h|⟨i,hj,h⟩
  ·rw[h];trivial
  rw[h];rcases wx (p:=i<m1.g.length) (x:=zdG m1 2 0 i λm=>(.ok (none,fr) { m with g:=m.g.set i v }:An (Option Int×Fr)))with h|⟨J,h⟩
  ·rw[h];trivial
  rw[h];rcases zco (m:=m1) (k:=2) (n:=0) (f:=i) (c:=λm=>(.ok (none,fr) { m with g:=m.g.set i v }:An (Option Int×Fr)))with h|⟨h7,h⟩
  ·rw[h];trivial
  rw[h];have hJ:=xG hj;have hA:=jv d fuel m1 2 0 i h7;obtain⟨u,hu⟩:=zd J;show zh _ _ _ _ _ _;refine gO T Tryz.func260 λC hC=>?_
  repeat' first|refine gG ?_|(exfalso;first|(have h0:=uj h;omega)|(have h0:=um h;omega))|refine gB ?_ ?_<;>intro h|refine gR hT (nm [0,1,2,3,4]) ?_|(refine gI T (zI hy) ?_)|refine gR U (nm [0,1,2,3,4,5,6,107,108,109]) ?_|refine gC hI ?_|refine gC hJ ?_|refine gR hA (nm [0,1,107,108,109,5,6,7,8,119]) ?_|(refine jV T hC (rows:=m1.g.map yk) rfl rfl rfl rfl (uE _) (by rw[uk];omega) rfl rfl ?_)|(refine zd2 T hC i 0 (rows:=m1.g.map yk) (row:=yk u) (us:=[ki v]) (rows':=(m1.g.set i v).map yk) rfl rfl rfl rfl rfl rfl rfl (by rw[uK,hu];rfl) (uF 1) (zij _ _ _ _) rfl ?_)
  exact gW [0,1,2,3,4,5,6,107,108,119]
theorem zvJ{z:Ex}{m2:Mc}{n er:Int}(hop:x.op=2)(hy:x.e[0]?=some y)(J:wP d fuel fr y m.tk (.ok n m1))(hz:x.e[1]?=some z)(U:wP d fuel fr z m1 (.flt er m2)):zgf d fuel fr x m (.flt er m2):=by
 have J:zh _ _ _ _ _ _:=J;have U:ya _ _ _ _ _ _:=U;show ya _ _ _ _ _ _;refine zX T Tryz.func260 ud rfl rfl rfl λC hC=>?_
 repeat' first|refine gG ?_|(exfalso;first|(have h0:=uj h;omega)|(have h0:=um h;omega))|refine gB ?_ ?_<;>intro h|refine gR hT (nm [0,1,2,3,4]) ?_|(refine gI T (zI hy) ?_)|(refine gI T (yP hz) ?_)|refine gR J (nm [0,1,2,3,4,5,6,107,108,109]) ?_|(refine zr hC U (nm [0,1,107,108,109,5,6,117,118,119]) rfl rfl (zH.refl _) rfl rfl rfl rfl rfl rfl ?_)
 exact gU (zi ⟨rfl,nm [0,1,2,3,4,5,6,117,118,119],⟨rfl,rfl,rfl,rfl,rfl,uh⟩,rfl,rfl⟩)
set_option maxRecDepth 100000 in
set_option maxHeartbeats 1000000 in
theorem zwG{z:Ex}{m2:Mc}{n v:Int}(hop:x.op=2)(hy:x.e[0]?=some y)(hX:wP d fuel fr y m.tk (.ok n m1))(hz:x.e[1]?=some z)(hZ:wP d fuel fr z m1 (.ok v m2)):zgf d fuel fr x m (ptV d fr x.s n v m2):=by
 have hX:zh _ _ _ _ _ _:=hX;have hZ:zh _ _ _ _ _ _:=hZ;unfold ptV;by_cases h0:n=0
 ·rw[uv h0];subst h0;have hf:=vO 17;show ya _ _ _ _ _ _;refine zX T Tryz.func260 ud rfl rfl rfl λC hC=>?_
  repeat' first|refine gG ?_|(exfalso;first|(have h0:=uj h;omega)|(have h0:=um h;omega))|exact gD|refine gB ?_ ?_<;>intro h|refine gR hT (nm [0,1,2,3,4]) ?_|(refine gI T (zI hy) ?_)|(refine gI T (yP hz) ?_)|refine gR hX (nm [0,1,2,3,4,5,6,107,108,109]) ?_|refine gR hZ (nm [0,1,107,108,109,5,6,117,118,119]) ?_|(refine zr hC hf id rfl rfl zqm rfl rfl rfl rfl rfl rfl ?_)
  exact gU (zi ⟨rfl,nm [0,1,2,3,4,5,6,117,118,119],⟨rfl,rfl,rfl,rfl,rfl,uh⟩,rfl,rfl⟩)
 rw[uu h0];rcases zqn (d:=d) (v:=n) (s:=x.s) (m:=m2) (c:=λx i=>ifA (i<x.f.length) (zdG m2 2 n i λm=>(.ok (none,fr) { m with ns:=m.ns.set (n - 1).toNat ⟨x.t,x.f.set i v⟩ }:An (Option Int×Fr))))with h|⟨y1,t,i,h1,h2,h3,h4,h5,h⟩
 ·rw[h];trivial
 rw[h];rcases wx (p:=i<y1.f.length) (x:=zdG m2 2 n i λm=>(.ok (none,fr) { m with ns:=m.ns.set (n - 1).toNat ⟨y1.t,y1.f.set i v⟩ }:An (Option Int×Fr)))with h|⟨hil,h⟩
 ·rw[h];trivial
 rw[h];rcases zco (m:=m2) (k:=2) (n:=n) (f:=i) (c:=λm=>(.ok (none,fr) { m with ns:=m.ns.set (n - 1).toNat ⟨y1.t,y1.f.set i v⟩ }:An (Option Int×Fr)))with h|⟨h7,h⟩
 ·rw[h];trivial
 rw[h];have hF:=zqo (fuel:=fuel) h1.1 h2 h3 h4 h5;have hA:=jv d fuel m2 2 n i h7;have hlt:(n - 1).toNat<m2.ns.length:=(uw.1 h2).1;have hwl:=yw m2.ns 0;have hw1:IntKind.i64.wrap (n - 1)=n - 1:=wrap64 ua;have hset:=zkz m2.ns h2 (y1.f.set i v);have hbs:=zoj m2.ns (n - 1).toNat y1 (y1.f.set i v);show zh _ _ _ _ _ _;refine gO T Tryz.func260 λC hC=>?_
 repeat' first|refine gG ?_|(exfalso;first|(have h0:=uj h;omega)|(have h0:=um h;omega))|refine gB ?_ ?_<;>intro h|refine gR hT (nm [0,1,2,3,4]) ?_|(refine gI T (zI hy) ?_)|(refine gI T (yP hz) ?_)|refine gR hX (nm [0,1,2,3,4,5,6,107,108,109]) ?_|refine gR hZ (nm [0,1,107,108,109,5,6,117,118,119]) ?_|refine gK hF (nm [0,1,117,118,119]) ?_|refine gR hA (nm [0,1,117,118,119,5,6,7,8,129]) ?_|(refine zkv T hC rfl rfl rfl rfl (by rw[hw1];omega) (by rw[hw1,hwl];omega) rfl rfl ?_;rw[hw1])|(refine zgq T hC [.nv 118 (n - 1).toNat] rfl rfl rfl (wF h2) rfl rfl rfl ?_)|(refine zp7 T hC rfl rfl rfl (zbX h2) rfl (uE _) (by rw[uk];omega) rfl rfl ?_)|(refine zn2 T hC ((y1.f.set i v).map yk) (us:=[ki v]) rfl rfl rfl rfl rfl rfl (zbX h2) ue (zdM _) ug (zkA _ _ _) rfl ?_)
 refine zi ⟨.inl rfl,nm [0,1,2,3,4,5,6,117,118,129],_,rfl,.refl _,⟨rfl,rfl,?_,?_,rfl,rfl,rfl,uh⟩,rfl,rfl⟩
 ·exact uX (λr=>some (Res.vw [118] 2 r)) hset.symm
 ·exact uX (λb=>some (Res.bag 1 b)) hbs
end
end Hw.Gm
