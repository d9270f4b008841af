import Derived.Test.YtolghpfockkldaaGreatDoorC4
import Derived.Test.YtolghpfockkldaaGreatDoorC1
import Derived.Sort.Grow
import Derived.Test.YtolghpfockkldaaGreatDoorC2
import Derived.Test.YtolghpfockkldaaGreatDoorProg
import Derived.KernelRfl
import Derived.Shelf.Strconv.Itoa0
import Derived.Shelf.Bits.Mul64
import Derived.Test.YtolghpfockkldaaGreatDoorC3
import Derived.Deep.AppendSrc
set_option linter.defProp false
set_option linter.unusedVariables false
set_option linter.unusedSimpArgs false
set_option linter.unusedSectionVars false
set_option linter.unnecessarySimpa false
namespace Hw
open Go Go.Proofs
def RbF(id id':Nat)(js:List Nat)(ρ:Nat->Value):Prop:= ∃cs ds:List Value,ρ id= .tuple cs.toArray/\ρ id'= .tuple ds.toArray/\ ∀(i q:Nat),js[i]?=some q->ds[i]?=cs[q]?
theorem RbF.nv{id id' i q:Nat}{js:List Nat}(h:js[i]?=some q):RwV (RbF id id' js) (.nv id q) (.nv id' i):=λM ρ x J hr=>by
 obtain⟨cs,ds,h1,h2,h3⟩:=J;simp only[RepV]at hr⊢
 simp_all
variable {C:Ctx}{P:Program}{Q:Exit->St->Prop}{tab:Tab}
variable {af:Array Edge}{ps:String}{x:Operand}
section
variable {d:Option Nat} {ty et:TypeId} {g:Option (Nat×Bool)} {t t':TypeId}
def zuH(U:okc x (.one (.p (.k (.slice none 0 0)))))(hu:P.underlying t=some (.slice et)):
 Snd P ⟨d,.binOp .eql t x (.const (.slice none 0 0)) t',ty,ps,af,g⟩ (rq x (.one (.p (.k (.slice none 0 0))))) [] [] (Bo true) []:=
 zi λC st M ρ a w hH h1 ht=>by
  have J:=hH.k (zq U h1);have hc:a.eval (.const (.slice none 0 0))= .slice none 0 0:=rfl
  have hr:(binOp .eql t (.slice none 0 0) (.slice none 0 0)).run P w= .ok (.bool true) w:=by
   have:binOp .eql t (.slice none 0 0) (.slice none 0 0)=(do pure (.bool (<-Op.equal t (.slice none 0 0) (.slice none 0 0)))):=rfl;rw[this];simp[run_equal_slice_nil w t et none 0 0 hu]
  have hg:(eqGuard .eql t x (.const (.slice none 0 0)) (.slice none 0 0) (.slice none 0 0)).run P w= .ok () w:=rfl;exact⟨.bool true,by simp only[execOp,J,hc,Sem.run_bind,hg,hr,Result.andThen_ok,Sem.run_pure],znS _⟩
end
section
variable {k:List Frm} {n:Nat} {sl:zb} {all:Array Oper} {rest:List Oper}
def zlu{d:Nat}{t t' ty et:TypeId}{g0:Option (Nat×Bool)}{gs:zb}{md:Mode}(hC:C.low)
 (J:ev sl x=some (.one (.p (.k (.slice none 0 0))))) (U:P.underlying t=some (.slice et)) (hm:metL all sl g0=some gs) (hd:Nat.blt d n=true)
 (g:Goal P C (.ops all rest (nx md ⟨some d,gs++rq x (.one (.p (.k (.slice none 0 0)))),[],[],Bo true,[]⟩)) k n ((d,Bo true)::sl) tab Q):
 Goal P C (.ops all (⟨some d,.binOp .eql t x (.const (.slice none 0 0)) t',ty,ps,af,g0⟩::rest) md) k n sl tab Q:=
 gDo hC hm (zuH (t':=t') (ev1 J) U) (ev2 J) trivial rfl hd g
end
section
variable {B:RL}
theorem LnV.sv{id e a m:Nat}{rows:List (List PV)}(hm:(id,.arr e rows)∈B)(hle: ∀r∈rows,r.length=e)(ha:a+m<=rows.length):LnV B (.sv id (a*e) m) (.p (.sl e ((rows.drop a).take m))):=λM ρ w u hH hr=>by
 simp only[RepV,RepPV]at hr⊢;have J:((rows.drop a).take m).length=m:=by rw[u9,tD];omega
 rcases hr with⟨rfl,a',c,rfl⟩|⟨b,o,N,cap,c,h1,rfl,h3,h4⟩
 ·simp_all
 ·refine⟨_,c,by rw[J],ua,by rw[J];omega,.inr ⟨b,_,rfl,?_⟩⟩;have hA:vN M w (ρ id) e rows:=hH.2 id _ hm;obtain⟨av,cap',U,g2,g3,g4⟩:=hA;rw[h1]at U;simp only[Value.slice.injEq]at U;rcases g4 with⟨g4,_⟩|⟨b',o',cs,el,fz,g5,g6,_,_,g8⟩
  ·simp_all
  ·rw[g5]at U;simp only[ui,Addr.mk.injEq]at U;obtain⟨⟨rfl,rfl,_⟩,_⟩:=U;have hb: ∃i r,(i,r)∈B/\Bk (ρ i) b:=⟨id,_,hm,by rw[h1];rfl⟩;have:=RowsIn.mono (M':=lentN M ρ w B) wQ (λi c hc=>zaA hH.1 hb g6 i c hc) _ _ g8;exact(this.drop a).take m
end
end Hw
namespace Hw
open Go Go.Proofs Go.Sort
end Hw
namespace Hw
open Go Go.Proofs
variable {cs:List Value}
def zbi:zcs cs↔cs.Pairwise λx y=> ∀b,blk x=some b->blk y≠some b:=by
 rw[List.pairwise_iff_getElem];constructor
 ·intro h i j hi hj hij b U J;exact h i j b _ _ (th hi) (th hj) ua U J
 ·intro h i j b x y hx hy hne U J
  grind
def zcs.sub{ds:List Value}(h:zcs cs)(J:ds.Sublist cs):zcs ds:=zbi.2 ((zbi.1 h).sublist J)
def zcs.cons{v:Value}(h:zcs cs)(hv: ∀c∈cs,∀b,blk c=some b->blk v≠some b):zcs (v::cs):=
 zbi.2 (List.pairwise_cons.2 ⟨λc U b hb J=>hv c U b J hb,zbi.1 h⟩)
end Hw
namespace Hw
open Go
def TkF.arr{id J id' m n:Nat}(h:n=m):RwV (TkF id J id' m) (.ar J) (.nv id' n):=by subst h;exact TkF.ar
variable {C:Ctx}{P:Program}{Q:Exit->St->Prop}{all:Array Oper}{rest:List Oper}{tab:Tab}
variable {af:Array Edge}{d:Option Nat}{g:Option (Nat×Bool)}{ps:String}{t:TypeId}
variable {tys:Array TypeId}
section
variable {ty:TypeId} {x1 x2:Operand}
def zuI{a b c:Int}(U:(if b<a then b else a)=c)(h1:okc x1 (I a))(h2:okc x2 (I b)):
 Snd P ⟨d,.call ⟨.builtin .min,#[x1,x2],tys⟩,ty,ps,af,g⟩ (rq x1 (I a)++rq x2 (I b)) [] [] (I c) []:=
 zi λC st M ρ act w J h _=>by
  rw[ze]at h;have e1:=J.k (zq h1 h.1);have e2:=J.k (zq h2 h.2);exact⟨.int .i64 c,by rw[<-U];simp[execOp,resolve,invoke,builtin,Builtin.min_,Builtin.min2,e1,e2],zjP _ _⟩
def zuJ{a b c:Int}(U:(if a<b then b else a)=c)(h1:okc x1 (I a))(h2:okc x2 (I b)):
 Snd P ⟨d,.call ⟨.builtin .max,#[x1,x2],tys⟩,ty,ps,af,g⟩ (rq x1 (I a)++rq x2 (I b)) [] [] (I c) []:=
 zi λC st M ρ act w J h _=>by
  rw[ze]at h;have e1:=J.k (zq h1 h.1);have e2:=J.k (zq h2 h.2);exact⟨.int .i64 c,by rw[<-U];simp[execOp,resolve,invoke,builtin,Builtin.max_,Builtin.max2,e1,e2],zjP _ _⟩
end
variable {g0:Option (Nat×Bool)}{gs:zb}{md:Mode}{ts:Array TypeId}
section
variable {k:List Frm} {n:Nat} {sl:zb}
def zlv{d:Nat}{x1 x2:Operand}{ty:TypeId}(hC:C.low){a b:Int}(c:Int)
 (J:ev sl x1=some (I a)) (h2:ev sl x2=some (I b)) (U:(if b<a then b else a)=c) (hm:metL all sl g0=some gs) (hd:Nat.blt d n=true)
 (g:Goal P C (.ops all rest (nx md ⟨some d,gs++(rq x1 (I a)++rq x2 (I b)),[],[],I c,[]⟩)) k n ((d,I c)::sl) tab Q):
 Goal P C (.ops all (⟨some d,.call ⟨.builtin .min,#[x1,x2],ts⟩,ty,ps,af,g0⟩::rest) md) k n sl tab Q:=
 gDo hC hm (zuI U (ev1 J) (ev1 h2)) (okA (ev2 J) (ev2 h2)) trivial rfl hd g
def vK{d:Nat}{x1 x2:Operand}{ty:TypeId}(hC:C.low){a b:Int}(c:Int)
 (J:ev sl x1=some (I a)) (h2:ev sl x2=some (I b)) (U:(if a<b then b else a)=c) (hm:metL all sl g0=some gs) (hd:Nat.blt d n=true)
 (g:Goal P C (.ops all rest (nx md ⟨some d,gs++(rq x1 (I a)++rq x2 (I b)),[],[],I c,[]⟩)) k n ((d,I c)::sl) tab Q):
 Goal P C (.ops all (⟨some d,.call ⟨.builtin .max,#[x1,x2],ts⟩,ty,ps,af,g0⟩::rest) md) k n sl tab Q:=
 gDo hC hm (zuJ U (ev1 J) (ev1 h2)) (okA (ev2 J) (ev2 h2)) trivial rfl hd g
end
variable {M:Mem}{el:TypeId}{i:Int}{rows:List (List PV)}{w:World}{ρ:Nat->Value}
section
variable {ty:TypeId} {x y:Operand} {tx:TypeId}
def zwl(ρ:Nat->Value)(id k e m:Nat)(v:Value):Prop:=(m=0/\ ∃(a:Option Addr) (c:Nat),v= .slice a 0 c)\/ ∃(b o N cap c:Nat),ρ id= .slice (some ⟨b,o,none⟩) N cap/\v= .slice (some ⟨b,o+k*e,none⟩) m c
def zwm(e:Nat)(s:S)(rt:RL)(n:Nat)(rows2:List (List PV)):Prop:=
 ∀(C:Ctx) (st:St) (M:Mem) (ρ:Nat->Value) (a:Act) (w:World) (v:Value),Holds C st M ρ a w->RepS M ρ s v->okT rt st->
  rows2.length=n/\ ∃(ad:Option Addr) (cap:Nat),v= .slice ad n cap/\(n=0\/ ∃(b o:Nat) (gg:Nat->Option Value),ad=some ⟨b,o,none⟩/\(∀i c,gg i=some c->w.cell? ⟨b,i,none⟩=some c)/\RowsIn M gg e rows2 o)
theorem zwm.sl{e:Nat}{rows:List (List PV)}:zwm e (.one (.p (.sl e rows))) [] rows.length rows:=λC st M ρ a w v J hr _=>by
 simp only[RepS,RepV,RepPV]at hr;obtain⟨ad,cap,U,_,_,h4⟩:=hr;refine⟨rfl,ad,cap,U,?_⟩;rcases h4 with h4|⟨b,o,h5,h6⟩
 ·simp_all
 ·exact .inr ⟨b,o,M b,h5,λi c hi=>J.run.imm b i c hi,h6⟩
theorem zwm.sv{id e n:Nat}{rows:List (List PV)}(hn:n<=rows.length):zwm e (.one (.sv id 0 n)) [(id,.arr e rows)] n (rows.take n):=λC st M ρ a w v hH hr ht=>by
 simp only[RepS,RepV]at hr;refine⟨by simp_all,?_⟩;rcases hr with⟨h0,ad,c,h1⟩|⟨b,o,N,cap,c,h1,h2,_,_⟩
 ·simp_all
 ·refine⟨_,c,h2,?_⟩;obtain⟨ad,cap',h3,h4,h5,J⟩:=hH.zz.res id _ ht.1;rw[h1]at h3;simp only[Value.slice.injEq]at h3;rcases J with⟨J,_⟩|⟨b',o',cs,el,fz,J,h7,_,_,h8⟩
  ·omega
  ·rw[J]at h3;have U:b=b'/\o=o':=by have:=h3.1;simp at this;exact this
   obtain⟨rfl,rfl⟩:=U;exact .inr ⟨b,o+0,λi=>cs[i]?,rfl,λi c hi=>by simp only[World.cell?,h7];simpa using hi,by rw[qe];exact h8.take n⟩
theorem zwl.ar{C:Ctx}{st:St}{M:Mem}{ρ:Nat->Value}{a:Act}{w:World}(U:Holds C st M ρ a w){id e:Nat}{rows:List (List PV)}{v:Value}(hT:tg st.tab id=some (.arr e rows))(h:RepS M ρ (.one (.ar id)) v):zwl ρ id 0 e rows.length v:=by
 simp only[RepS,RepV]at h;obtain⟨ad,cap,h3,h4,h5,J⟩:=U.zz.res id _ hT;rcases J with⟨J,h7⟩|⟨b,o,cs,el,fz,J,_⟩
 ·exact .inl ⟨ua,ad,cap,by simp_all⟩
 ·exact .inr ⟨b,o,rows.length,cap,cap,by rw[h3,J],by simp_all⟩
theorem zwl.sv{M:Mem}{ρ:Nat->Value}{id k e m:Nat}{v:Value}(h:RepS M ρ (.one (.sv id (k*e) m)) v):zwl ρ id k e m v:=by
 simp only[RepS,RepV]at h;rcases h with⟨U,ad,c,J⟩|⟨b,o,N,cap,c,J,h2,_,_⟩
 ·exact .inl ⟨U,ad,c,J⟩
 ·exact .inr ⟨b,o,N,cap,c,J,h2⟩
def zlw{id e:Nat}{l h:Nat}{a:Option Addr}{cap:Nat}(hr:zA M ρ w id (.arr e rows))(hv:ρ id= .slice a rows.length cap)(J:l<=h)(h2:h<=rows.length):
 RepV M ρ (.sv id (l*e) (h - l)) (sliced a l h cap e):=
 zuG (hr.zuw []) (by simp_all) J (by simp_all)
def zxV{z:Operand}{id e:Nat}{j:Int}{k':IntKind}(hx:okc x (.one (.ar id)))(hz:okc z (Kk k' j))(he:elemSz P t=some (el,e))(h0:0<=j)(h2:j<=rows.length):
 Snd P ⟨d,.slice t x none (some z) none,ty,ps,af,g⟩ (rq x (.one (.ar id))++rq z (Kk k' j)) [(id,.arr e rows)] [] (.one (.sv id 0 j.toNat)) []:=
 zi λC st M ρ b w J U hT=>by
  rw[ze]at U;have e1:=J.evS (zq hx U.1);have e3:=J.k (zq hz U.2);simp only[RepS,RepV]at e1;have hR:=J.zz.res id _ hT.1;obtain⟨a,cap,f1,f2,f3,_⟩:=J.zz.res id _ hT.1;obtain⟨hu,hsz⟩:=zbr he;have:=zlw hR f1 (uD j.toNat) ua;rw[UD,Nat.sub_zero]at this;refine⟨sliced a 0 j.toNat cap e,?_,by simp only[RepS];exact this⟩;simp only[execOp,e1.1,f1,e3,qc,uG,Sem.run_bind,run_sliceAt_slice w t _ _ _ _ hu,run_slice_h w t a rows.length cap hu k' j h0 ua,hsz,Result.andThen_ok,Sem.run_pure]
def zuK{id e:Nat}{k:IntKind}(hx:okc x (.one (.ar id)))(hy:okc y (Kk k i))(he:elemSz P t=some (el,e))(h0:0<=i)(h2:i<=rows.length):
 Snd P ⟨d,.slice t x (some y) none none,ty,ps,af,g⟩ (rq x (.one (.ar id))++rq y (Kk k i)) [(id,.arr e rows)] [] (.one (.sv id (i.toNat*e) (rows.length - i.toNat))) []:=
 zi λC st M ρ b w J U hT=>by
  rw[ze]at U;have e1:=J.evS (zq hx U.1);have e2:=J.k (zq hy U.2);simp only[RepS,RepV]at e1;have hR:=J.zz.res id _ hT.1;obtain⟨a,cap,f1,f2,f3,_⟩:=J.zz.res id _ hT.1;obtain⟨hu,hsz⟩:=zbr he;refine⟨sliced a i.toNat rows.length cap e,?_,by simp only[RepS];exact zlw hR f1 ua (uM _)⟩;simp only[execOp,e1.1,f1,e2,qc,uG,Sem.run_bind,run_sliceAt_slice w t _ _ _ _ hu,run_slice_l w t a rows.length cap hu k i h0 ua,hsz,Result.andThen_ok,Sem.run_pure]
end
section
variable {k:List Frm} {n:Nat} {sl:zb}
def zuL(T:Ty P){d:Nat}{x y:Operand}{ty:TypeId}(hC:C.low){id e:Nat}{k0:IntKind}
 (J:ev sl x=some (.one (.ar id))) (U:ev sl y=some (Kk k0 i)) (hT:tg tab id=some (.arr e rows)) (he:T.es t=some (el,e)) (h0:0<=i) (h2:i<=rows.length) (hm:metL all sl g0=some gs) (hd:Nat.blt d n=true)
 (g:Goal P C (.ops all rest (nx md ⟨some d,gs++(rq x (.one (.ar id))++rq y (Kk k0 i)),[(id,.arr e rows)],[],.one (.sv id (i.toNat*e) (rows.length - i.toNat)),[]⟩)) k n ((d,.one (.sv id (i.toNat*e) (rows.length - i.toNat)))::sl) tab Q):
 Goal P C (.ops all (⟨some d,.slice t x (some y) none none,ty,ps,af,g0⟩::rest) md) k n sl tab Q:=
 gDo hC hm (zuK (rows:=rows) (ev1 J) (ev1 U) (T.es_ok _ _ he) h0 h2) (okA (ev2 J) (ev2 U)) ⟨hT,uh⟩ rfl hd g
end
end Hw
namespace Hw.Gm
open Go Go.Proofs Hw.M Ps Tryz
def zql{s:S}{l:List S}:yG (s::l) (.un::l):=yG.cons (λ_ _ _ _=>by simp only[RepS]) (yG.refl _)
def zlx(d:zf)(fuel:Int)(m:Mc)(h:m.ticks≥fuel):yH prog 273 [.one (.bx 0 0)] (mcR d fuel m 1 2 3 4) (znI 20) (mcR d fuel m 1 2 3 4):=by
 have hf:=vB 20;have ht:=h;refine gFp func273 λC hC=>?_
 repeat' first|refine gG ?_|(exfalso;have h2:=uo h;omega)|refine gB ?_ ?_<;>intro h|refine gCN hf id ?_ (ha:=zql)
 exact gUn id
def zly(d:zf)(fuel:Int)(m:Mc)(h: ¬m.ticks≥fuel)(h0:0<=m.ticks/\m.ticks<1099511627776):zh prog 273 [.one (.bx 0 0)] (mcR d fuel m 1 2 3 4) (.tup []) (mcR d fuel { m with ticks:=m.ticks+1 } 1 2 3 4):=by
 have ht:=h;refine gFo func273 λC hC=>?_
 repeat' first|refine gG ?_|(exfalso;have h2:=uk h;omega)|refine gB ?_ ?_<;>intro h
 rw[wrap64 ua];exact zK ⟨.inr rfl,id,_,rfl,.refl _,⟨rfl,rfl,rfl,rfl,rfl,uh⟩,rfl,rfl⟩
def zlz(n:Int)(h:inB n):zh prog 298 [I n] [] (I (wP n)) []:=by
 unfold inB at h;have J:IntKind.i64.wrap (0 - n)= -n:=by rw[wrap64 ua];omega
 have U:(if n< -n then -n else n)=wP n:=by unfold wP;split<;>split<;>omega
 refine gFo func298 λC hC=>?_
 repeat' first|refine gG ?_|refine gB ?_ ?_<;>intro h|refine zda hC rfl rfl rfl ?_|(rw[J];refine vK hC (wP n) rfl rfl U rfl rfl ?_)
 exact gF
def zrV(n:Int)(h: ¬(n>1099511627776\/n< -1099511627776)):zh prog 287 [.un,I n] [] (I n) []:=by
 have h0:=h;refine gFo func287 λC hC=>?_
 repeat' first|refine gG ?_|(exfalso;have h2:=uk h;omega)|refine gB ?_ ?_<;>intro h
 exact gF
def zuM(n:Int)(h:n>1099511627776\/n< -1099511627776):yH prog 287 [.un,I n] [] (znI 5) []:=by
 have h0:=h;have hf:=vB 5;refine gFp func287 λC hC=>?_
 repeat' first|refine gG ?_|refine gB ?_ ?_<;>intro h|refine gCN hf id ?_
 all_goals first
  |exact gUn id
  |(exfalso;simp only[uq,uu]at *; omega)
def zuN{a b:Int}(h: ¬a=0/\wP b>Int.tdiv 1099511627776 (wP a)->False): -1099511627776<=a*b/\a*b<=1099511627776:=by
 by_cases U:a=0
 ·subst U;simp
 ·have hA:0<wP a:=by unfold wP;split<;>omega
  have hB:0<=wP b:=by unfold wP;split<;>omega
  have h1:wP b<=Int.tdiv 1099511627776 (wP a):=Int.not_lt.1 λhh=>h ⟨U,hh⟩
  have h2:wP b*wP a<=1099511627776:=by
   rw[Int.tdiv_eq_ediv_of_nonneg ub]at h1;exact Int.le_trans (Int.mul_le_mul_of_nonneg_right h1 (Int.le_of_lt hA)) (Int.ediv_mul_le _ ua)
  have h3:wP b*wP a=wP (a*b):=by
   unfold wP;by_cases ha:a<0
   ·by_cases J:b<0
    ·rw[uw ha,uw J,ur (by have:=Int.mul_pos_of_neg_of_neg ha J;omega),Int.neg_mul_neg,Um]
    ·rw[uw ha,ur J];by_cases hz:b=0
     ·subst hz;simp
     ·rw[uw (Int.mul_neg_of_neg_of_pos ha ua),Int.mul_neg,Um]
   ·by_cases J:b<0
    ·rw[ur ha,uw J,uw (Int.mul_neg_of_pos_of_neg ua J),Int.neg_mul,Um]
    ·rw[ur ha,ur J,ur (by have:=Int.mul_nonneg (show 0<=a by omega) (show 0<=b by omega);omega),Um]
  rw[h3]at h2;unfold wP at h2;split at h2<;>omega
def zhX(a b:Int): -wP a<=a.tdiv b/\a.tdiv b<=wP a:=by
 have h1:=Int.natAbs_tdiv_le_natAbs a b;unfold wP;split<;>omega
def zhY{c:Int}(_h:c≠0):IntKind.i64.wrap (Int.tdiv 1099511627776 c)=Int.tdiv 1099511627776 c:=wrap64 (by
 have:=zhX 1099511627776 c
 simp only[wP]at this;omega)
def zoG{a:Int}(h:inB a)(b:Int):IntKind.i64.wrap (Int.tdiv a b)=Int.tdiv a b:=wrap64 (by
 have:=zhX a b;unfold inB at h;unfold wP at this
 split at this<;>omega)
def anE:An Int->End
 | .ok v _=> .ok (I v) []
 | .flt e _=> .pn (znI e) []
 | .out=> .no
def zuO(m:Mc)(op a b:Int)(ha:inB a)(hb:inB b):FnX prog 290 [.un,I op,I a,I b] [] (anE (znE m op a b)):=by
 have ha0:=ha;have hb0:=hb;unfold inB at ha0 hb0;unfold znE;by_cases h9:op=9
 ·subst h9;rw[uw rfl];unfold vI;have J:IntKind.i64.wrap (a+b)=a+b:=wrap64 ua;split
  ·rename_i h;have hp:=zuM (IntKind.i64.wrap (a+b)) (by rw[J];exact h);refine gFp func290 λC hC=>?_
   repeat' first|refine gG ?_|exact gD|refine gB ?_ ?_<;>intro h|refine gCN hp id ?_
   exact gUn id
  ·rename_i h;have hp:=zrV (IntKind.i64.wrap (a+b)) (by rw[J];exact h);refine gFo func290 λC hC=>?_
   repeat' first|refine gG ?_|exact gD|refine gB ?_ ?_<;>intro h|refine gC hp ?_
   rw[J];exact gF
 rw[ur h9];by_cases h10:op=10
 ·subst h10;rw[uw rfl];unfold vI;have J:IntKind.i64.wrap (a - b)=a - b:=wrap64 ua;split
  ·rename_i h;have hp:=zuM (IntKind.i64.wrap (a - b)) (by rw[J];exact h);refine gFp func290 λC hC=>?_
   repeat' first|refine gG ?_|exact gD|refine gB ?_ ?_<;>intro h|refine gCN hp id ?_
   exact gUn id
  ·rename_i h;have hp:=zrV (IntKind.i64.wrap (a - b)) (by rw[J];exact h);refine gFo func290 λC hC=>?_
   repeat' first|refine gG ?_|exact gD|refine gB ?_ ?_<;>intro h|refine gC hp ?_
   rw[J];exact gF
 rw[ur h10];by_cases h11:op=11
 ·subst h11;rw[uw rfl];have hsa:=zlz a ha;have hsb:=zlz b hb;have hf:=vB 5;split
  ·rename_i h;have U:=h;have hz:wP a≠0:=by unfold wP;split<;>omega
   have hq:=zhY hz;refine gFp func290 λC hC=>?_
   repeat' first|refine gG ?_|exact gD|(exfalso;have h2:=uo h;omega)|(exfalso;simp only[oA,qA,uq]at h;exact U.1 h)|refine gB ?_ ?_<;>intro h|refine gC hsa ?_|refine gC hsb ?_|(refine zek hC rfl rfl hz rfl rfl ?_;rw[hq])|refine gCN hf id ?_
   all_goals first
    |exact gUn id
    |skip
  ·rename_i h;have U:=h;have J:IntKind.i64.wrap (a*b)=a*b:=wrap64 (by have:=zuN (a:=a) (b:=b) (λhh=>U hh);omega);show zh _ _ _ _ _ _;by_cases hz0:a=0
   ·subst hz0;refine gFo func290 λC hC=>?_
    repeat' first|refine gG ?_|exact gD|refine gB ?_ ?_<;>intro h
    rw[J];exact gF
   ·have hz:wP a≠0:=by unfold wP;split<;>omega
    have hq:=zhY hz;have hle: ¬wP b>Int.tdiv 1099511627776 (wP a):=λhh=>U ⟨hz0,hh⟩
    refine gFo func290 λC hC=>?_
    repeat' first|refine gG ?_|exact gD|(exfalso;exact hle (uk h))|(exfalso;simp only[oA,qA,uq]at h;exact hz0 h)|refine gB ?_ ?_<;>intro h|refine gC hsa ?_|refine gC hsb ?_|(refine zek hC rfl rfl hz rfl rfl ?_;rw[hq])
    rw[J];exact gF
 rw[ur h11];by_cases h12:op=12
 ·subst h12;rw[uw rfl];have hf:=vB 18;split
  ·rename_i h;subst h;refine gFp func290 λC hC=>?_
   repeat' first|refine gG ?_|exact gD|refine gB ?_ ?_<;>intro h|refine gCN hf id ?_
   exact gUn id
  ·rename_i h;have U:=h;have hq:=zoG ha b;refine gFo func290 λC hC=>?_
   repeat' first|refine gG ?_|exact gD|(exfalso;exact U (uk h))|refine gB ?_ ?_<;>intro h|(refine zek hC rfl rfl U rfl rfl ?_;rw[hq])
   exact gF
 rw[ur h12];by_cases h13:op=13
 ·subst h13;rw[uw rfl];have hf:=vB 18;split
  ·rename_i h;subst h;refine gFp func290 λC hC=>?_
   repeat' first|refine gG ?_|exact gD|refine gB ?_ ?_<;>intro h|refine gCN hf id ?_
   exact gUn id
  ·rename_i h;have U:=h;refine gFo func290 λC hC=>?_
   repeat' first|refine gG ?_|exact gD|(exfalso;exact U (uk h))|refine gB ?_ ?_<;>intro h|refine znL hC rfl rfl U rfl rfl ?_
   exact gF
 rw[ur h13];by_cases h22:op=22
 ·subst h22;rw[uw rfl];refine gFo func290 λC hC=>?_
  repeat' first|refine gG ?_|exact gD|refine gB ?_ ?_<;>intro h|refine vK hC (if a<b then b else a) rfl rfl rfl rfl rfl ?_
  exact gF
 rw[ur h22];refine gFo func290 λC hC=>?_
 repeat' first|refine gG ?_|(exfalso;first|exact h9 (uk h)|exact h10 (uk h)|exact h11 (uk h)|exact h12 (uk h)|exact h13 (uk h)|exact h22 (uk h))|refine gB ?_ ?_<;>intro h|refine zlv hC (if b<a then b else a) rfl rfl rfl rfl rfl ?_
 exact gF
variable {x:Nd}
theorem wT{l:List Nd}{k b:Nat}(U:l[k]?=some x): ∀(j:Nat) (v:V),([.p (ki x.t)]:List V)[j]?=some v-> ∃p,(wRows l 0).flatten[k*2+j]?=some p/\toV [b] p=v:=by
 have hr:(wRows l 0)[k]?=some [PC.p (ki x.t),PC.n 0 k]:=by rw[xD,U,uG,tJ]
 intro j v J
 match j,J with
 |0,J=>
  simp only[List.getElem?_cons_zero,ui]at J;subst J;exact⟨.p (ki x.t),by rw[vY (wE l 0) ua,hr];rfl,rfl⟩
 |j+1,J=>simp at J
theorem wF{l:List Nd}{k b:Nat}(U:l[k]?=some x): ∀(j:Nat) (v:V),([.nv b k]:List V)[j]?=some v-> ∃p,(wRows l 0).flatten[k*2+1+j]?=some p/\toV [b] p=v:=by
 have hr:(wRows l 0)[k]?=some [PC.p (ki x.t),PC.n 0 k]:=by rw[xD,U,uG,tJ]
 intro j v J
 match j,J with
 |0,J=>
  simp only[List.getElem?_cons_zero,ui]at J;subst J;exact⟨.n 0 k,by rw[qe,vY (wE l 0) ua,hr];rfl,rfl⟩
 |j+1,J=>simp at J
variable {y:zX}
def zoH(d:zf)(fuel:Int)(m:Mc){v:Int}(hv:0<v)(hx:m.ns[(v - 1).toNat]?=some x)(ht:0<=x.t)(hy:d.types[x.t.toNat]?=some y)(s:Str):
 zh prog 277 [.one (.bx 0 0),I v,Sr s] (mcR d fuel m 1 2 3 4) (I (idxI (ixF y.f s))) (mcR d fuel m 1 2 3 4):=by
 have hI:=zdI y.f s;have hlt:(v - 1).toNat<m.ns.length:=(uy.1 hx).1;have J:=yi m.ns 0;refine gFo func277 λC hC=>?_;refine zrn 2 rfl rfl λhl=>?_;have U:IntKind.i64.wrap (v - 1)=v - 1:=wrap64 ua
 repeat' first|refine gG ?_|refine gB ?_ ?_<;>intro h|(rw[U];refine zkC T hC rfl rfl rfl rfl ua (by rw[J];omega) rfl rfl ?_)|refine zgb T hC [.p (ki x.t)] rfl rfl rfl (wT hx) rfl rfl rfl ?_|refine gIt (yQ hy) ?_|refine gC hI ?_
 exact gE
def yB{l:List Ex}{x:Ex}(h:l[1]?=some x):(l.map xk)[(1:Int).toNat]?=some (yg x):=xU (i:=1) h
def zdJ{l:List Ex}{x:Ex}(h:l[2]?=some x):(l.map xk)[(2:Int).toNat]?=some (yg x):=xU (i:=2) h
abbrev frR(fr:Fr):RL:=[(5,.box [.p (zw fr.vs),.ar 6]),(6,.arr 1 (fr.va.map zN))]
variable {i:Nat}
def xm{l:List Fld}{s:Str}(h:ixF l s=some i):zh prog 275 [pS (zw l),Sr s] [] (I i) []:=by
 have J:=zdI l s;rw[h]at J;exact J
def wR{l:List Fld}{s:Str}(h:ixF l s=none):zh prog 275 [pS (zw l),Sr s] [] (I (-1)) []:=by
 have J:=zdI l s;rw[h]at J;exact J
variable {d:zf}
def zhZ(fuel:Int)(m:Mc){s:Str}(h:zry d s=some i):zh prog 286 [.one (.bx 0 0),Sr s] (mcR d fuel m 1 2 3 4) (I i) (mcR d fuel m 1 2 3 4):=by
 have J:=zlt d fuel m s;rw[h]at J;exact J
def zh0{s:Str}(h:zbG d s=some i):zh prog 230 [zn (zr d),Sr s] [] (I i) []:=by
 have J:=zb1 d s;rw[h]at J;exact J
theorem zuP(d:zf)(vs:List Fld)(e:Ex):tyO d vs e=if e.op=4 then(match ixF vs e.s with
 |some i=>(vs[i]?).map (·.t)
 |none=>(ixF d.globals e.s).bind λi=>(d.globals[i]?).map (·.t))
 else if e.op=5 then(match e.l with
  |x::_=>(tyO d vs x).bind λt=>(zry d t).bind λi=>(d.types[i]?).bind λy=>(ixF y.f e.s).bind λj=>(y.f[j]?).map (·.t)
  | []=>none)
 else if e.op=6 then some e.s
 else if e.op=7 then(zbG d e.s).bind λi=>(d.procs[i]?).map (·.res)
 else if e.op=21 then(match e.l with
  |_::y::z::_=>(tyO d vs y).bind λt=>if t=(⟨#[110,105,108]⟩:UI)then tyO d vs z else some t
  |_=>none)
 else if e.op=3 then some (⟨#[110,105,108]⟩:UI)
 else if e.op=2\/e.op=18\/e.op=19\/e.op=20\/e.op=14\/e.op=15\/e.op=16\/e.op=17 then some (⟨#[98,111,111,108]⟩:UI)
 else some (⟨#[105,110,116]⟩:UI):=by
 cases e
 conv=>lhs;unfold tyO
 rfl
theorem zuQ(d:zf)(fuel:Int)(m:Mc)(fr:Fr): ∀(n:Nat) (e:Ex) (t:Str),sizeOf e<n->tyO d fr.vs e=some t->
 zh prog 288 [.one (.bx 0 0),.one (.bx 5 0),zn (yg e)] (mcR d fuel m 1 2 3 4++frR fr) (Sr t) (mcR d fuel m 1 2 3 4++frR fr):=by
 intro n
 induction n with
 |zero=>intro e t h;omega
 |succ n ih=>
 intro e t hn h;rw[zuP]at h
 have hsz: ∀x∈e.l,sizeOf x<n:=λx hx=>by
  have:=qw hx;cases e;simp only[Ex.mk.sizeOf_spec,Ex.l]at hn this;omega
 by_cases h4:e.op=4
 ·have J:=h4;rw[uw h4]at h;cases hv:ixF fr.vs e.s with
  |some i=>
   rw[hv]at h;obtain⟨f,hf,rfl⟩:=uR.1 h;have hI:=xm hv;refine gFo func288 λC hC=>?_
   repeat' first|refine gG ?_|(exfalso;first|(have U:=uk h;omega)|(have U:=uo h;omega))|refine gB ?_ ?_<;>intro h|refine gC hI ?_|refine gIt (zl hf) ?_
   exact gE
  |none=>
   rw[hv]at h;obtain⟨i,hi,h⟩:=tB.1 h;obtain⟨f,hf,rfl⟩:=uR.1 h;have hI:=wR hv;have hJ:=xm hi;refine gFo func288 λC hC=>?_
   repeat' first|refine gG ?_|(exfalso;first|(have U:=uk h;omega)|(have U:=uo h;omega))|refine gB ?_ ?_<;>intro h|refine gC hI ?_|refine gC hJ ?_|refine gIt (zl hf) ?_
   exact gE
 rw[ur h4]at h;by_cases h5:e.op=5
 ·have J:=h5;rw[uw h5]at h;cases hl:e.l with
  |nil=>rw[hl]at h;cases h
  |cons x r=>
   rw[hl]at h hsz;simp only at h;have hx0:e.l[0]?=some x:=by rw[hl];rfl
   obtain⟨t1,h1,h⟩:=tB.1 h;obtain⟨i,hi,h⟩:=tB.1 h;obtain⟨y,hy,h⟩:=tB.1 h;obtain⟨j,hj,h⟩:=tB.1 h;obtain⟨f,hf,rfl⟩:=uR.1 h;have hX:=ih x t1 (hsz x ue) h1;have hI:=zhZ fuel m hi;have hJ:=xm hj;refine gFo func288 λC hC=>?_
   repeat' first|refine gG ?_|(exfalso;first|(have U:=uk h;omega)|(have U:=uo h;omega))|refine gB ?_ ?_<;>intro h|refine gIt (zx hx0) ?_|refine gK hX iH ?_|refine gK hI ir ?_|refine gC hJ ?_|refine gIt (zl hy) ?_|refine gIt (zl hf) ?_
   exact gE
 rw[ur h5]at h;by_cases h6:e.op=6
 ·have J:=h6;rw[uw h6]at h;obtain rfl:=uU h;refine gFo func288 λC hC=>?_
  repeat' first|refine gG ?_|(exfalso;first|(have U:=uk h;omega)|(have U:=uo h;omega))|refine gB ?_ ?_<;>intro h
  exact gE
 rw[ur h6]at h;by_cases h7:e.op=7
 ·have J:=h7;rw[uw h7]at h;obtain⟨i,hi,h⟩:=tB.1 h;obtain⟨p,hp,rfl⟩:=uR.1 h;have hI:=zh0 hi;refine gFo func288 λC hC=>?_
  repeat' first|refine gG ?_|(exfalso;first|(have U:=uk h;omega)|(have U:=uo h;omega))|refine gB ?_ ?_<;>intro h|refine gC hI ?_|refine gIt (zl hp) ?_
  exact gE
 rw[ur h7]at h;by_cases h21:e.op=21
 ·have J:=h21;rw[uw h21]at h
  obtain⟨y,hy1,h⟩: ∃y,e.l[1]?=some y/\ ∃z,e.l[2]?=some z/\y∈e.l/\z∈e.l/\((tyO d fr.vs y).bind λt=>if t=(⟨#[110,105,108]⟩:UI)then tyO d fr.vs z else some t)=some t:=by
   generalize e.l=l at h
   match l,h with
   |w::y::z::r,h=>exact⟨y,rfl,z,rfl,ue,ue,h⟩
  obtain⟨z,hz2,hym,hzm,h⟩:=h
  ·skip
   obtain⟨t1,h1,h⟩:=tB.1 h;have hY:=ih y t1 (hsz y hym) h1;by_cases hnl:t1=(⟨#[110,105,108]⟩:UI)
   ·rw[uw hnl]at h;subst hnl;have hZ:=ih z t (hsz z hzm) h;refine gFo func288 λC hC=>?_
    repeat' first|refine gG ?_|(exfalso;first|(have U:=uk h;omega)|(have U:=uo h;omega))|exact gD|refine gB ?_ ?_<;>intro h|refine gIt (yB hy1) ?_|refine gIt (zdJ hz2) ?_|refine gK hY iH ?_|refine gK hZ iH ?_
    exact gE
   ·rw[ur hnl]at h;obtain rfl:=uU h;refine gFo func288 λC hC=>?_
    repeat' first|refine gG ?_|(exfalso;first|(have U:=uk h;omega)|(have U:=uo h;omega))|(exfalso;simp only[oA,qA,qo,uq,uu,Decidable.not_not]at h;exact hnl h)|refine gB ?_ ?_<;>intro h|refine gIt (yB hy1) ?_|refine gK hY iH ?_
    exact gE
 rw[ur h21]at h;by_cases h3:e.op=3
 ·have J:=h3;rw[uw h3]at h;obtain rfl:=uU h;refine gFo func288 λC hC=>?_
  repeat' first|refine gG ?_|(exfalso;first|(have U:=uk h;omega)|(have U:=uo h;omega))|refine gB ?_ ?_<;>intro h
  exact gE
 rw[ur h3]at h;by_cases hb:e.op=2\/e.op=18\/e.op=19\/e.op=20\/e.op=14\/e.op=15\/e.op=16\/e.op=17
 ·rw[uw hb]at h;obtain rfl:=uU h;rcases hb with J|J|J|J|J|J|J|J
  all_goals
   clear h3 h4 h5 h6 h7 h21;refine gFo func288 λC hC=>?_
   repeat' first|refine gG ?_|(exfalso;first|(have U:=uk h;omega)|(have U:=uo h;omega))|refine gB ?_ ?_<;>intro h
   exact gE
 ·rw[ur hb]at h;obtain rfl:=uU h;refine gFo func288 λC hC=>?_
  repeat' first|refine gG ?_|(exfalso;have U:=uk h;first|exact h4 U|exact h5 U|exact h6 U|exact h7 U|exact h21 U|exact h3 U|exact hb ua)|refine gB ?_ ?_<;>intro h
  all_goals first
   |exact gE
def exE(d:zf)(fuel:Int)(fr:Fr):An Int->End
 | .ok v m=> .ok (I v) (mcR d fuel m 1 7 8 9++frR fr)
 | .flt e m=> .pn (znI e) (mcR d fuel m 1 7 8 9)
 | .out=> .no
def Mc.acd(m:Mc)(k n f:Int):Mc:={ m with acc:=m.acc++[(k,n,f)] }
variable {m:Mc}{β:Type}
def zb2{k n f:Int}{c:Mc->An β}:zcq m k n f c= .out\/(m.acc.length<1099511627776/\zcq m k n f c=c (m.acd k n f)):=by
 unfold zcq ifA;by_cases h:m.acc.length<1099511627776
 ·rw[uw h];exact .inr ⟨h,rfl⟩
 ·rw[ur h];exact .inl rfl
theorem wS{α:Type}{l:List α}{f:α->An β}:atA l i f= .out\/ ∃x,l[i]?=some x/\atA l i f=f x:=by
 unfold atA;cases h:l[i]? with
 |none=>exact .inl rfl
 |some x=>exact .inr ⟨x,rfl,rfl⟩
theorem zcT{α:Type}{o:Option α}{f:α->An β}:opA o f= .out\/ ∃x,o=some x/\opA o f=f x:=by
 unfold opA;cases o with
 |none=>exact .inl rfl
 |some x=>exact .inr ⟨x,rfl,rfl⟩
def x8{p:Prop}[Decidable p]{x:An β}:ifA p x= .out\/(p/\ifA p x=x):=by
 unfold ifA;by_cases h:p
 ·rw[uw h];exact .inr ⟨h,rfl⟩
 ·rw[ur h];exact .inl rfl
def zqm{v:Int}{s:Str}{c:Nd->Nat->An β}:fdA d v s m c= .out\/
 ∃x y i,(0<v/\v<=1000000)/\m.ns[(v - 1).toNat]?=some x/\0<=x.t/\d.types[x.t.toNat]?=some y/\ixF y.f s=some i/\fdA d v s m c=c x i:=by
 unfold fdA;rcases x8 (p:=0<v/\v<=1000000) (x:=atA m.ns (v - 1).toNat λx=>ifA (0<=x.t) (atA d.types x.t.toNat λy=>opA (ixF y.f s) λi=>c x i))with h|⟨J,h⟩
 ·exact .inl h
 rw[h];rcases wS (l:=m.ns) (i:=(v - 1).toNat) (f:=λx=>ifA (0<=x.t) (atA d.types x.t.toNat λy=>opA (ixF y.f s) λi=>c x i))with h|⟨x,h2,h⟩
 ·exact .inl h
 rw[h];rcases x8 (p:=0<=x.t) (x:=atA d.types x.t.toNat λy=>opA (ixF y.f s) λi=>c x i)with h|⟨h3,h⟩
 ·exact .inl h
 rw[h];rcases wS (l:=d.types) (i:=x.t.toNat) (f:=λy=>opA (ixF y.f s) λi=>c x i)with h|⟨y,h4,h⟩
 ·exact .inl h
 rw[h];rcases zcT (o:=ixF y.f s) (f:=λi=>c x i)with h|⟨i,U,h⟩
 ·exact .inl h
 exact .inr ⟨x,y,i,J,h2,h3,h4,U,h⟩
variable {fuel:Int}
def zqn{v:Int}{s:Str}(hv:0<v)(J:m.ns[(v - 1).toNat]?=some x)(U:0<=x.t)(hy:d.types[x.t.toNat]?=some y)(hi:ixF y.f s=some i):
 zh prog 277 [.one (.bx 0 0),I v,Sr s] (mcR d fuel m 1 2 3 4) (I i) (mcR d fuel m 1 2 3 4):=by
 have h:=zoH d fuel m hv J U hy s;rw[hi]at h;exact h
theorem zuR{l:List Int}{u:Int}(h:l[i]?=some u): ∀(j:Nat) (p:PV),([ki u]:List PV)[j]?=some p->(l.map zN).flatten[i*1+j]?=some p:=λj p J=>by
 match j,J with
 |0,J=>
  simp only[List.getElem?_cons_zero,ui]at J;subst J;rw[vY (zdC l) ua,uO,h];rfl
 |j+1,J=>simp at J
def zuS{fr:Fr}{e x:Ex}{m1:Mc}{v:Int}(hop:e.op=5)(hx:e.l[0]?=some x)(hX:zh prog 274 [.one (.bx 0 0),.one (.bx 5 0),zn (yg x)] (mcR d fuel m 1 2 3 4++frR fr) (I v) (mcR d fuel m1 1 7 8 9++frR fr)):
 FnX prog 274 [.one (.bx 0 0),.one (.bx 5 0),zn (yg e)] (mcR d fuel m 1 2 3 4++frR fr) (exE d fuel fr (fdV d v e.s m1)):=by
 unfold fdV;by_cases J:v=0
 ·rw[uw J];subst J;have hf:=vB 17;refine gFp func274 λC hC=>?_
  repeat' first|refine gG ?_|(exfalso;first|(have J:=uk h;omega)|(have J:=uo h;omega))|exact gD|refine gB ?_ ?_<;>intro h|refine gIt (zx hx) ?_|refine gR hX ig ?_|refine gCN hf id ?_ (ha:=zql)
  exact gUn ig
 rw[ur J];rcases zqm (d:=d) (v:=v) (s:=e.s) (m:=m1) (c:=λx i=>atA x.f i λu=>zcq m1 1 v i λm=> .ok u m)with h|⟨y,t,i,h1,h2,h3,h4,h5,h⟩
 ·rw[h];trivial
 rw[h];rcases wS (l:=y.f) (i:=i) (f:=λu=>zcq m1 1 v i λm=>(.ok u m:An Int))with h|⟨u,h6,h⟩
 ·rw[h];trivial
 rw[h];rcases zb2 (m:=m1) (k:=1) (n:=v) (f:=i) (c:=λm=>(.ok u m:An Int))with h|⟨h7,h⟩
 ·rw[h];trivial
 rw[h];show zh _ _ _ _ _ _;have hF:=zqn (fuel:=fuel) h1.1 h2 h3 h4 h5;have hA:=jc d fuel m1 1 v i h7;have hlt:(v - 1).toNat<m1.ns.length:=(uy.1 h2).1;have hwl:=yi m1.ns 0;have U:IntKind.i64.wrap (v - 1)=v - 1:=wrap64 ua;have hil:i<y.f.length:=(uy.1 h6).1;refine gFo func274 λC hC=>?_
 repeat' first|refine gG ?_|(exfalso;first|(have J:=uk h;omega)|(have J:=uo h;omega))|refine gB ?_ ?_<;>intro h|refine gIt (zx hx) ?_|refine gR hX ig ?_|refine gK hF (nm [0,1,107,108,109]) ?_|refine gR hA iQ ?_|(refine zkC T hC rfl rfl rfl rfl (by rw[U];omega) (by rw[U,hwl];omega) rfl rfl ?_;rw[U])|refine zgb T hC [.nv 108 (v - 1).toNat] rfl rfl rfl (wF h2) rfl rfl rfl ?_|refine zp9 T hC rfl rfl rfl (zbO h2) rfl (uL _) (by rw[uj];omega) rfl rfl ?_|refine zrG T hC [ki u] rfl rfl (zbO h2) rfl (zuR h6) rfl rfl rfl ?_
 exact gW [0,1,2,3,4,5,6,107,108,119]
theorem zuT{fr:Fr}{e:Ex}(hop:e.op=4):
 FnX prog 274 [.one (.bx 0 0),.one (.bx 5 0),zn (yg e)] (mcR d fuel m 1 2 3 4++frR fr) (exE d fuel fr (nmV d fr e.s m)):=by
 unfold nmV;cases hi:ixF fr.vs e.s with
 |some i=>
  have J:=xm hi;rcases wS (l:=fr.va) (i:=i) (f:=λv=>(.ok v m:An Int))with h|⟨v,hv,h⟩
  ·simp only[h];trivial
  simp only[h];have U:i<fr.va.length:=(uy.1 hv).1;refine gFo func274 λC hC=>?_
  repeat' first|refine gG ?_|(exfalso;first|(have h0:=uk h;omega)|(have h0:=uo h;omega))|refine gB ?_ ?_<;>intro h|refine gC J ?_|refine jz T hC (rows:=fr.va.map zN) rfl rfl rfl rfl (uL _) (by rw[uj];omega) rfl rfl ?_|refine jd T hC i 0 (rows:=fr.va.map zN) (row:=zN v) rfl rfl rfl rfl (by rw[uO,hv];rfl) rfl rfl rfl ?_
  exact gW [0,1,2,3,4,5,6,2,3,4]
 |none=>
  have J:=wR hi;simp only;rcases zcT (o:=ixF d.globals e.s) (f:=λi=>atA m.g i λv=>zcq m 1 0 i λm=>(.ok v m:An Int))with h|⟨i,hj,h⟩
  ·rw[h];trivial
  rw[h];rcases wS (l:=m.g) (i:=i) (f:=λv=>zcq m 1 0 i λm=>(.ok v m:An Int))with h|⟨v,hv,h⟩
  ·rw[h];trivial
  rw[h];rcases zb2 (m:=m) (k:=1) (n:=0) (f:=i) (c:=λm=>(.ok v m:An Int))with h|⟨h7,h⟩
  ·rw[h];trivial
  rw[h];have hJ:=xm hj;have hA:=jc d fuel m 1 0 i h7;have U:i<m.g.length:=(uy.1 hv).1;refine gFo func274 λC hC=>?_
  repeat' first|refine gG ?_|(exfalso;first|(have h0:=uk h;omega)|(have h0:=uo h;omega))|refine gB ?_ ?_<;>intro h|refine gC J ?_|refine gC hJ ?_|refine gR hA (nm [0,1,2,3,4,5,6,7,8,119]) ?_|refine jz T hC (rows:=m.g.map zN) rfl rfl rfl rfl (uL _) (by rw[uj];omega) rfl rfl ?_|refine jd T hC i 0 (rows:=m.g.map zN) (row:=zN v) rfl rfl rfl rfl (by rw[uO,hv];rfl) rfl rfl rfl ?_
  exact gW [0,1,2,3,4,5,6,2,3,119]
set_option maxRecDepth 100000 in
def zuU{fr:Fr}{e:Ex}(hop:e.op=6):
 FnX prog 274 [.one (.bx 0 0),.one (.bx 5 0),zn (yg e)] (mcR d fuel m 1 2 3 4++frR fr) (exE d fuel fr (nwV d e.s m)):=by
 have J:=yi m.ns 0;unfold nwV;by_cases h0:(m.ns.length:Int)≥4096
 ·rw[uw h0];have hf:=vB 21;refine gFp func274 λC hC=>?_
  repeat' first|refine gG ?_|(exfalso;first|(have h0:=uk h;omega)|(have h0:=uo h;omega))|(exfalso;have h1:=uo h;rw[J]at h1;omega)|refine gB ?_ ?_<;>intro h|refine zkD T hC rfl rfl rfl rfl rfl ?_|refine gCN hf id ?_ (ha:=zql)
  exact gUn iN
 rw[ur h0]
 rcases zcT (o:=zry d e.s) (f:=λt=>atA d.types t λy=>ifA (y.f.length<=1000000)
  (zcq { m with ns:=m.ns++[⟨(t:Nat),List.replicate y.f.length 0⟩] } 3 (m.ns.length+1:Nat) (t:Nat) λm1=>(.ok (m.ns.length+1:Nat) m1:An Int)))with h|⟨t,ht,h⟩
 ·rw[h];trivial
 rw[h]
 rcases wS (l:=d.types) (i:=t) (f:=λy=>ifA (y.f.length<=1000000)
  (zcq { m with ns:=m.ns++[⟨(t:Nat),List.replicate y.f.length 0⟩] } 3 (m.ns.length+1:Nat) (t:Nat) λm1=>(.ok (m.ns.length+1:Nat) m1:An Int)))with h|⟨y,hy,h⟩
 ·rw[h];trivial
 rw[h];rcases x8 (p:=y.f.length<=1000000) (x:=zcq { m with ns:=m.ns++[⟨(t:Nat),List.replicate y.f.length 0⟩] } 3 (m.ns.length+1:Nat) (t:Nat) λm1=>(.ok (m.ns.length+1:Nat) m1:An Int))with h|⟨hyl,h⟩
 ·rw[h];trivial
 rw[h];generalize hm2:({ m with ns:=m.ns++[⟨(t:Nat),List.replicate y.f.length 0⟩] }:Mc)=m2;rcases zb2 (m:=m2) (k:=3) (n:=(m.ns.length+1:Nat)) (f:=(t:Nat)) (c:=λm1=>(.ok (m.ns.length+1:Nat) m1:An Int))with h|⟨h7,h⟩
 ·rw[h];trivial
 rw[h];have hI:=zhZ fuel m ht;have hA:=jc d fuel m2 3 (m.ns.length+1:Nat) (t:Nat) h7;have hj:=zge m.ns (t:Nat) 3 1127;have U:m2.ns=m.ns++[⟨(t:Nat),List.replicate y.f.length 0⟩]:=by rw[<-hm2]
 have hbt:jP m.ns++[List.replicate y.f.length [ki 0]]=jP m2.ns:=by rw[U];exact zkI _ _ _
 have htk:=zgf m.ns ⟨(t:Nat),List.replicate y.f.length 0⟩ 3 1127 121;rw[<-U,<-zdD]at htk;have h1l:((wRows m.ns 0++[[PC.p (ki (t:Nat)),PC.a 1]]).length:Int)=(m.ns.length+1:Nat):=by rw[uQ,J];rfl
 have h2l:((wRows m2.ns 0).length:Int)=(m.ns.length+1:Nat):=by rw[yi,U,uQ];rfl
 have hw2:(wRows m2.ns 0).length=m.ns.length+1:=by rw[yi,U,uQ];rfl
 clear h U;subst hm2;refine gFo func274 λC hC=>?_
 repeat' first|refine gG ?_|(exfalso;first|(have h0:=uk h;omega)|(have h0:=uo h;omega))|(exfalso;have h1:=uk h;rw[J]at h1;omega)|refine gB ?_ ?_<;>intro h|refine zkD T hC rfl rfl rfl rfl rfl ?_|refine gK hI ir ?_|refine gIt (zl hy) ?_|(rw[uj];refine zyg T hC (row:=[ki 0]) y.f.length rfl rfl rfl rfl rfl rfl rfl rfl hyl rfl rfl rfl ?_)|refine zkE T hC [PC.p (ki (t:Nat)),PC.a 0] [1127] rfl rfl rfl rfl rfl rfl rfl rfl rfl rfl rfl rfl ?_|refine zbM T 120 hC (id:=2) (rows:=wRows m.ns 0) (rows2:=[[PC.p (ki (t:Nat)),PC.a 0]]) (ids:=[3]) (ids2:=[1127]) [3,1127] (wRows m.ns 0++[[PC.p (ki (t:Nat)),PC.a 1]]) (bytes:=32) rfl rfl rfl rfl (zol.vw (T.es_ok _ _ rfl)) rfl hj.1 hj.2.1 hj.2.2.1 hj.2.2.2 rfl rfl rfl ud (by rw[J,uP];omega) (by rw[J,uP];omega) rfl rfl rfl ?_
 rw[h1l];refine zkz hC rfl 3 1127 121 rfl rfl rfl rfl [] uh [(120,.vw [121] 2 (wRows (m.ns++[⟨(t:Nat),List.replicate y.f.length 0⟩]) 0))] ⟨⟨_,rfl,rfl,htk⟩,uh⟩ ?_;rw[hbt]
 repeat' first|refine gG ?_|refine gB ?_ ?_<;>intro h|refine gR hA (nm [0,1,120,121,4,5,6,7,8,129]) ?_|refine zkD T hC rfl rfl rfl rfl rfl ?_
 exact gFl (nm [0,1,2,3,4,5,6,120,121,129]) rfl (LeS.of (u7 (λk:Nat=>I (k:Int)) hw2))
end Hw.Gm
namespace Hw.Gm
open Go Go.Proofs Go.Shelf Tryz
def zgC:Go.Shelf.Ren:=⟨λ|129=>203|n=>n,λ|53=>314|3=>3|4=>4|46=>259|5=>5|9=>9|n=>n,λ|n=>n⟩
def zrW:Go.Proofs.Lays.n129 prog zgC where
 mixed:=by kernel_rfl
 f129:=func203.trans (u7 some ud)
 t3:=underlying3
 a3:=isAgg3
 z3:=sizeOf3
 v3:=zeroValue3
 t4:=underlying4
 a4:=isAgg4
 z4:=sizeOf4
 v4:=zeroValue4
 t5:=underlying5
 a5:=isAgg5
 z5:=sizeOf5
 v5:=zeroValue5
 t9:=underlying9
 a9:=isAgg9
 z9:=sizeOf9
 v9:=zeroValue9
 t46:=underlying259
 a46:=isAgg259
 z46:=sizeOf259
 v46:=zeroValue259
 t53:=underlying314
 a53:=isAgg314
 z53:=sizeOf314
 v53:=zeroValue314
end Hw.Gm
namespace Hw.Gm
open Go Go.Proofs Go.Shelf Hw.M Ps Tryz
abbrev u64(n:Int):S:= .one (.p (.k (.int .u64 n)))
def zoI(u:Nat)(h:u<18446744073709551616):zh prog 203 [u64 u] [] (I (Lib.bitLen u)) []:=
 znM (⟨_,func203,ud,ud⟩) (λw=>(Any.bits_Len64 zrW (u:Int) w ua ua).mono λe w' ⟨J,h2⟩=>⟨by simpa using J,h2⟩) rfl
def zlA(u:Nat)(h:u<18446744073709551616):zh prog 143 [u64 u] [] (I (Lib.bitLen u)) []:=by
 have J:=zoI u h;refine gFo func143 λC hC=>?_
 repeat' first|refine gG ?_|exact gD|refine gB ?_ ?_<;>intro h|refine gC J ?_
 exact gF
theorem zai: ∀(f x:Nat),0<x->x<2 ^ f->Lib.bitLenAux f x=Nat.log2 x+1
 |0,x,h0,h=>by simp only[Nat.pow_zero]at h;omega
 |f+1,x,h0,h=>by
  simp only[Lib.bitLenAux];rw[ur ua,Nat.log2_def];by_cases h2:2<=x
  ·rw[uw h2,zai f (x / 2) ua (by rw[UG]at h;omega)];omega
  ·have J:x=1:=by omega
   subst J;rw[ur h2];cases f<;>simp[Lib.bitLenAux]
def zaG{x:Nat}(J:0<x)(h:x<18446744073709551616):Lib.bitLen x=Nat.log2 x+1:=zai 64 x J h
def wq(d:zf)(fuel:Int)(fr:Fr)(e:Ex)(m:Mc)(a:An Int):Prop:=
 FnX prog 274 [.one (.bx 0 0),.one (.bx 5 0),zn (yg e)] (mcR d fuel m 1 2 3 4++frR fr) (exE d fuel fr a)
variable {d:zf}{fuel:Int}{m:Mc}
def zuV{fr:Fr}{e:Ex}(J:e.op=1\/e.op=2):wq d fuel fr e m (.ok e.n m):=by
 show zh _ _ _ _ _ _;rcases J with J|J
 all_goals
  refine gFo func274 λC hC=>?_
  repeat' first|refine gG ?_|(exfalso;first|(have U:=uk h;omega)|(have U:=uo h;omega))|refine gB ?_ ?_<;>intro h
  exact gW [0,1,2,3,4,5,6,2,3,4]
def zuW{fr:Fr}{e:Ex}(hop:e.op=3):wq d fuel fr e m (.ok 0 m):=by
 refine gFo func274 λC hC=>?_
 repeat' first|refine gG ?_|(exfalso;first|(have J:=uk h;omega)|(have J:=uo h;omega))|refine gB ?_ ?_<;>intro h
 exact gW [0,1,2,3,4,5,6,2,3,4]
theorem zuX{fr:Fr}{e:Ex}{a:An Int}(hop:e.op=7)(J:FnX prog 278 [.one (.bx 0 0),.one (.bx 5 0),zn (yg e)] (mcR d fuel m 1 2 3 4++frR fr) (exE d fuel fr a)):wq d fuel fr e m a:=by
 cases a with
 |ok v m1=>
  have J:zh _ _ _ _ _ _:=J;refine gFo func274 λC hC=>?_
  repeat' first|refine gG ?_|(exfalso;first|(have U:=uk h;omega)|(have U:=uo h;omega))|refine gB ?_ ?_<;>intro h|refine gR J ig ?_
  exact gW [0,1,2,3,4,5,6,107,108,109]
 |flt er m1=>
  have J:yH _ _ _ _ _ _:=J;refine gFp func274 λC hC=>?_
  repeat' first|refine gG ?_|(exfalso;first|(have U:=uk h;omega)|(have U:=uo h;omega))|refine gB ?_ ?_<;>intro h|refine gCN J ig ?_
  exact gUn ig
 |out=>trivial
def zqo{fr:Fr}{e x:Ex}{m1:Mc}{er:Int}(hop: ¬(e.op=1\/e.op=2\/e.op=3\/e.op=4\/e.op=6\/e.op=7))(U:e.l[0]?=some x)(J:wq d fuel fr x m (.flt er m1)):wq d fuel fr e m (.flt er m1):=by
 have J:yH _ _ _ _ _ _:=J;refine gFp func274 λC hC=>?_
 repeat' first|refine gG ?_|(exfalso;have h0:=uk h;omega)|refine gB ?_ ?_<;>intro h|refine gIt (zx U) ?_|refine gCN J ig ?_
 all_goals exact gUn ig
def zuY{fr:Fr}{e x:Ex}{m1:Mc}{v:Int}(hop:e.op=8)(hx:e.l[0]?=some x)(J:wq d fuel fr x m (.ok v m1)):wq d fuel fr e m (ifA (inB v) (vI m1 (-v))):=by
 have J:zh _ _ _ _ _ _:=J;rcases x8 (p:=inB v) (x:=vI m1 (-v))with h|⟨hb,h⟩
 ·rw[h];trivial
 rw[h];have U:=hb;unfold inB at U;have hw:IntKind.i64.wrap (0 - v)= -v:=by rw[wrap64 ua];omega
 unfold vI;rw[ur ua];have hp:=zrV (IntKind.i64.wrap (0 - v)) (by rw[hw];omega);refine gFo func274 λC hC=>?_
 repeat' first|refine gG ?_|(exfalso;first|(have h0:=uk h;omega)|(have h0:=uo h;omega))|refine gB ?_ ?_<;>intro h|refine gIt (zx hx) ?_|refine gR J ig ?_|refine zda hC rfl rfl rfl ?_|refine w6 hC hp rfl rfl zql rfl rfl rfl ?_
 rw[hw];exact gW [0,1,2,3,4,5,6,107,108,109]
def zrX{fr:Fr}{e x:Ex}{m1:Mc}{v:Int}(hop:e.op=18)(U:e.l[0]?=some x)(J:wq d fuel fr x m (.ok v m1)):wq d fuel fr e m (ifA (inB v) (.ok (1 - v) m1)):=by
 have J:zh _ _ _ _ _ _:=J;rcases x8 (p:=inB v) (x:=An.ok (1 - v) m1)with h|⟨hb,h⟩
 ·rw[h];trivial
 rw[h];unfold inB at hb;have hw:IntKind.i64.wrap (1 - v)=1 - v:=wrap64 ua;refine gFo func274 λC hC=>?_
 repeat' first|refine gG ?_|(exfalso;first|(have h0:=uk h;omega)|(have h0:=uo h;omega))|refine gB ?_ ?_<;>intro h|refine gIt (zx U) ?_|refine gR J ig ?_
 refine gFl ig rfl (LeS.of (u7 (λk:Int=>I k) hw))
def zrY{fr:Fr}{e x:Ex}{m1:Mc}{v:Int}(hop:e.op=24)(hx:e.l[0]?=some x)(J:wq d fuel fr x m (.ok v m1)):wq d fuel fr e m (ifA (inB v) (.ok (ztB v) m1)):=by
 have J:zh _ _ _ _ _ _:=J;rcases x8 (p:=inB v) (x:=An.ok (ztB v) m1)with h|⟨hb,h⟩
 ·rw[h];trivial
 rw[h];unfold inB at hb;obtain⟨u,U⟩: ∃u:Nat,u=(if v<1 then 1 else v.toNat):=⟨_,rfl⟩;have hu1:0<u/\u<=1099511627776:=by rw[U];split<;>omega
 have hm:(if(1:Int)<v then v else 1)=u:=by rw[U];split<;>split<;>omega
 have hL:=zlA u ua;rw[zaG hu1.1 ua]at hL;have hl:Nat.log2 u<41:=(oM ua).2 (by rw[show(2:Nat) ^ 41=2199023255552 from rfl];omega)
 have hwu:IntKind.u64.wrap (u:Int)=u:=by
  have hq:IntKind.u64.wrap (u:Int)=(u:Int) % 18446744073709551616:=by simp[IntKind.wrap,IntKind.bits,IntKind.signed]
  rw[hq];omega
 have hw:IntKind.i64.wrap (((Nat.log2 u+1:Nat):Int) - 1)=ztB v:=by
  rw[wrap64 ua];unfold ztB;rw[<-U];omega
 refine gFo func274 λC hC=>?_
 repeat' first|refine gG ?_|(exfalso;first|(have h0:=uk h;omega)|(have h0:=uo h;omega))|refine gB ?_ ?_<;>intro h|refine gIt (zx hx) ?_|refine gR J ig ?_|refine vK hC (u:Int) rfl rfl hm rfl rfl ?_|(rw[hwu];refine gC hL ?_)
 exact gFl ig rfl (LeS.of (u7 (λk:Int=>I k) hw))
end Hw.Gm
namespace Hw.Gm
open Go Go.Proofs Go.Shelf Tryz
def zgD:Go.Shelf.Ren:=⟨λ|264=>245|n=>n,λ|53=>314|46=>259|n=>n,λ|n=>n⟩
def zrZ:Go.Proofs.Lays.n264 prog zgD where
 mixed:=by kernel_rfl
 f264:=func245.trans (u7 some ud)
 t46:=underlying259
 a46:=isAgg259
 z46:=sizeOf259
 v46:=zeroValue259
 t53:=underlying314
 a53:=isAgg314
 z53:=sizeOf314
 v53:=zeroValue314
end Hw.Gm
namespace Hw.Gm
open Go Go.Proofs Go.Shelf Hw.M Ps Tryz
abbrev flI(e:Int):Value:= .iface 251 (.agg #[.int .i64 e])
def pE:Bn->End
 | .ok v _=> .ok (I v) []
 | .flt e _=> .pn (flI e) []
 | .out=> .no
def zh1(n:Int)(k:Kn):FnX prog 142 [I n] [] (pE (bdI n k)):=by
 unfold bdI;by_cases J:n< -1099511627776\/1099511627776<n
 ·rw[uw J];refine gFp func142 λC hC=>?_
  repeat' first|refine gG ?_|refine gB ?_ ?_<;>intro h|refine zbC hC [.int .i64 5] rfl ud rfl rfl ?_|refine gPa ?_
  all_goals first
   |exact gUn id
   |exact zK ⟨rfl,id,trivial,rfl,rfl⟩
   |(exfalso;simp only[uq,uu]at *; omega)
 ·rw[ur J];refine gFo func142 λC hC=>?_
  repeat' first|refine gG ?_|(exfalso;have h2:=uk h;omega)|refine gB ?_ ?_<;>intro h
  exact gF
def zaj(b:Bool):zh prog 205 [.bq b] [] (I (zcH b)) []:=by
 cases b
 ·refine gFo func205 λC hC=>?_
  repeat' first|refine gG ?_|exact gD|refine gB ?_ ?_<;>intro h
  all_goals exact gF
 ·refine gFo func205 λC hC=>?_
  repeat' first|refine gG ?_|exact gD|refine gB ?_ ?_<;>intro h
  all_goals exact gF
def zoJ{P:Program}{f:FuncId}{a b v u:Value}(J:ju P f)(h: ∀w:World,Calls P f #[a,b] w λe w'=>e= .returned (.tuple #[v,u])/\w'=w)(U:v.oneCell'=true)(h2:u.oneCell'=true):
 zh P f [.one (.p (.k a)),.one (.p (.k b))] [] (.tup [.one (.p (.k v)),.one (.p (.k u))]) []:=by
 refine⟨J,λM ρ w xs hx _ hI _=>?_⟩;obtain rfl:=zel (av:=[a,b]) hx;refine(h w).mono λe w' ⟨he,hw⟩=>?_;subst hw;refine⟨_,M,ρ,he,by simp only[RepS,RepSs,RepV,RepPV];exact⟨[v,u],rfl,⟨rfl,U⟩,⟨rfl,h2⟩,uh⟩,⟨λ_ _ h=>(by cases h),λ_ _ _ _ _ h=>(by cases h),λ_ _ _ h=>(by cases h)⟩,hI,MLe.refl M,λb o u hu=> .inl hu,λb hb=>?_,λb _ _=>rfl,uM _,rfl,rfl,rfl,λid hid=>rfl⟩;obtain⟨i,r,h,_⟩:=hb;cases h
def zlB(x y:Nat)(J:x<18446744073709551616)(U:y<18446744073709551616):
 zh prog 245 [u64 x,u64 y] [] (.tup [u64 ((x*y / 18446744073709551616:Nat):Int),u64 ((x*y % 18446744073709551616:Nat):Int)]) []:=
 zoJ (⟨_,func245,ud,ud⟩) (λw=>Any.bits_Mul64 zrZ x y J U w) rfl rfl
def ze8(a:Int)(h:zkx a):zh prog 244 [I a] [] (u64 (a.natAbs:Int)) []:=by
 unfold zkx at h;have J:IntKind.i64.wrap (0 - a)= -a:=by rw[wrap64 ua];omega
 have U:(if a< -a then -a else a)=(a.natAbs:Int):=by split<;>omega
 have hc:IntKind.u64.wrap (a.natAbs:Int)=(a.natAbs:Int):=by rw[IntKind.wrap_u64];omega
 refine gFo func244 λC hC=>?_
 repeat' first|refine gG ?_|refine gB ?_ ?_<;>intro h|refine zda hC rfl rfl rfl ?_|(rw[J];refine vK hC (a.natAbs:Int) rfl rfl U rfl rfl ?_)
 rw[hc];exact gF
def zr0(a b:Int)(k:Kn):FnX prog 204 [I a,I b] [] (pE (zof a b k)):=by
 unfold zof;by_cases h:zkx a/\zkx b
 ·rw[uw h];have U:=ze8 a h.1;have hB:=ze8 b h.2;have h1:=h.1;have h2:=h.2;unfold zkx at h1 h2;have J:=zlB a.natAbs b.natAbs ua ua;have hp:((a.natAbs*b.natAbs:Nat):Int)=(a*b).natAbs:=by rw[oy]
  generalize hq:a.natAbs*b.natAbs=q at J hp⊢;by_cases h0:q>1099511627776
  ·rw[uw h0];refine gFp func204 λC hC=>?_
   repeat' first|refine gG ?_|refine gB ?_ ?_<;>intro h|refine gC U ?_|refine gC hB ?_|refine gC J ?_|refine zbC hC [.int .i64 5] rfl ud rfl rfl ?_|refine gPa ?_
   all_goals first
    |exact gUn id
    |exact zK ⟨rfl,id,trivial,rfl,rfl⟩
    |(exfalso;simp only[ux,uE,uq,uu]at *; omega)
  ·rw[ur h0];have hw:IntKind.i64.wrap (a*b)=a*b:=by rw[wrap64 ua]
   refine gFo func204 λC hC=>?_
   repeat' first|refine gG ?_|(exfalso;simp only[ux,uE,uq,uu]at h;omega)|refine gB ?_ ?_<;>intro h|refine gC U ?_|refine gC hB ?_|refine gC J ?_
   rw[hw];exact gF
 ·rw[ur h];trivial
def zr1(op a b:Int)(k:Kn):FnX prog 144 [I op,I a,I b] [] (pE (zjR op a b k)):=by
 have J:=zh1 (IntKind.i64.wrap (a+b)) k;have U:=zh1 (IntKind.i64.wrap (a - b)) k;have hQuo:=zh1 (IntKind.i64.wrap (Int.tdiv a b)) k;have hMul:=zr0 a b k;have hT1:=zaj (decide (a=b));have hT2:=zaj (!decide (a=b));have hT3:=zaj (decide (a<b));have hT4:=zaj (decide (a<=b));unfold zjR;by_cases o9:op=9
 ·subst o9;simp only[Int.reduceEq,uW,uN];cases hr:bdI (IntKind.i64.wrap (a+b)) k with
  |out=>trivial
  |ok v k1=>
   rw[hr]at J;have J:zh _ _ _ _ _ _:=J;refine gFo func144 λC hC=>?_
   repeat' first|refine gG ?_|exact gD|refine gB ?_ ?_<;>intro h|refine gC J ?_
   exact gF
  |flt e k1=>
   rw[hr]at J;have J:yH _ _ _ _ _ _:=J;refine gFp func144 λC hC=>?_
   repeat' first|refine gG ?_|exact gD|refine gB ?_ ?_<;>intro h|refine gCN J id ?_
   exact gUn id
 by_cases o10:op=10
 ·subst o10;simp only[Int.reduceEq,uW,uN];cases hr:bdI (IntKind.i64.wrap (a - b)) k with
  |out=>trivial
  |ok v k1=>
   rw[hr]at U;have U:zh _ _ _ _ _ _:=U;refine gFo func144 λC hC=>?_
   repeat' first|refine gG ?_|exact gD|refine gB ?_ ?_<;>intro h|refine gC U ?_
   exact gF
  |flt e k1=>
   rw[hr]at U;have U:yH _ _ _ _ _ _:=U;refine gFp func144 λC hC=>?_
   repeat' first|refine gG ?_|exact gD|refine gB ?_ ?_<;>intro h|refine gCN U id ?_
   exact gUn id
 by_cases o11:op=11
 ·subst o11;simp only[Int.reduceEq,uW,uN];cases hr:zof a b k with
  |out=>trivial
  |ok v k1=>
   rw[hr]at hMul;have hMul:zh _ _ _ _ _ _:=hMul;refine gFo func144 λC hC=>?_
   repeat' first|refine gG ?_|exact gD|refine gB ?_ ?_<;>intro h|refine gC hMul ?_
   exact gF
  |flt e k1=>
   rw[hr]at hMul;have hMul:yH _ _ _ _ _ _:=hMul;refine gFp func144 λC hC=>?_
   repeat' first|refine gG ?_|exact gD|refine gB ?_ ?_<;>intro h|refine gCN hMul id ?_
   exact gUn id
 by_cases o22:op=22
 ·subst o22;simp only[Int.reduceEq,uW,uN];refine gFo func144 λC hC=>?_
  repeat' first|refine gG ?_|exact gD|refine gB ?_ ?_<;>intro h|refine vK hC (if a<b then b else a) rfl rfl rfl rfl rfl ?_
  exact gF
 by_cases o23:op=23
 ·subst o23;simp only[Int.reduceEq,uW,uN];refine gFo func144 λC hC=>?_
  repeat' first|refine gG ?_|exact gD|refine gB ?_ ?_<;>intro h|refine zlv hC (if b<a then b else a) rfl rfl rfl rfl rfl ?_
  exact gF
 by_cases o14:op=14
 ·subst o14;simp only[Int.reduceEq,uW,uN];refine gFo func144 λC hC=>?_
  repeat' first|refine gG ?_|exact gD|refine gB ?_ ?_<;>intro h|refine gC hT1 ?_
  exact gF
 by_cases o15:op=15
 ·subst o15;simp only[Int.reduceEq,uW,uN];refine gFo func144 λC hC=>?_
  repeat' first|refine gG ?_|exact gD|refine gB ?_ ?_<;>intro h|refine gC hT2 ?_
  exact gF
 by_cases o16:op=16
 ·subst o16;simp only[Int.reduceEq,uW,uN];refine gFo func144 λC hC=>?_
  repeat' first|refine gG ?_|exact gD|refine gB ?_ ?_<;>intro h|refine gC hT3 ?_
  exact gF
 by_cases o17:op=17
 ·subst o17;simp only[Int.reduceEq,uW,uN];refine gFo func144 λC hC=>?_
  repeat' first|refine gG ?_|exact gD|refine gB ?_ ?_<;>intro h|refine gC hT4 ?_
  exact gF
 simp only[o9,o10,o11,o22,o23,o14,o15,o16,o17,uN];by_cases hb:b=0
 ·rw[uw hb];refine gFp func144 λC hC=>?_
  repeat' first|refine gG ?_|(exfalso;have h9:=uk h;omega)|(exfalso;have h9:=uo h;omega)|refine gB ?_ ?_<;>intro h|refine zbC hC [.int .i64 18] rfl ud rfl rfl ?_|refine gPa ?_
  all_goals first
   |exact gUn id
   |exact zK ⟨rfl,id,trivial,rfl,rfl⟩
 ·rw[ur hb];by_cases o12:op=12
  ·rw[uw o12];cases hr:bdI (IntKind.i64.wrap (Int.tdiv a b)) k with
   |out=>trivial
   |ok v k1=>
    rw[hr]at hQuo;have hQuo:zh _ _ _ _ _ _:=hQuo;refine gFo func144 λC hC=>?_
    repeat' first|refine gG ?_|(exfalso;have h9:=uk h;omega)|(exfalso;have h9:=uo h;omega)|refine gB ?_ ?_<;>intro h|refine zek hC rfl rfl hb rfl rfl ?_|refine gC hQuo ?_
    exact gF
   |flt e k1=>
    rw[hr]at hQuo;have hQuo:yH _ _ _ _ _ _:=hQuo;refine gFp func144 λC hC=>?_
    repeat' first|refine gG ?_|(exfalso;have h9:=uk h;omega)|(exfalso;have h9:=uo h;omega)|refine gB ?_ ?_<;>intro h|refine zek hC rfl rfl hb rfl rfl ?_|refine gCN hQuo id ?_
    exact gUn id
  ·rw[ur o12];refine gFo func144 λC hC=>?_
   repeat' first|refine gG ?_|(exfalso;have h9:=uk h;omega)|(exfalso;have h9:=uo h;omega)|refine gB ?_ ?_<;>intro h|refine znL hC rfl rfl hb rfl rfl ?_
   exact gF
end Hw.Gm
namespace Hw.Gm
open Go Go.Proofs Hw.M Ps Tryz
def ze9(b:Bool):zh prog 289 [.bq b] [] (I (zcH b)) []:=by
 refine gFo func289 λC hC=>?_
 repeat' first|refine gG ?_|refine gB ?_ ?_<;>intro h
 all_goals subst h
 all_goals exact gF
variable {d:zf}{fuel:Int}{m m1:Mc}{x y:Ex}
set_option maxRecDepth 100000 in
set_option maxHeartbeats 2000000 in
theorem zh2{fr:Fr}{e:Ex}{v:Int}{a:An Int}(hx:e.l[0]?=some x)(hX:wq d fuel fr x m (.ok v m1))(hY:wq d fuel fr y m1 a)
 (hop:(e.op=19/\v≠0/\e.l[1]?=some y)\/(e.op=20/\v≠1/\e.l[1]?=some y)\/(e.op=21/\v=1/\e.l[1]?=some y)\/(e.op=21/\v≠1/\e.l[2]?=some y)):wq d fuel fr e m a:=by
 have hX:zh _ _ _ _ _ _:=hX;cases a with
 |ok w m2=>
  have hY:zh _ _ _ _ _ _:=hY;show zh _ _ _ _ _ _;rcases hop with⟨hop,hv,hy⟩|⟨hop,hv,hy⟩|⟨hop,hv,hy⟩|⟨hop,hv,hy⟩
  all_goals
   refine gFo func274 λC hC=>?_
   repeat' first|refine gG ?_|(exfalso;first|(have h0:=uk h;omega)|(have h0:=uo h;omega))|refine gB ?_ ?_<;>intro h|refine gIt (zx hx) ?_|refine gIt (yB hy) ?_|refine gIt (zdJ hy) ?_|refine gR hX ig ?_|refine gR hY im ?_
   exact gW [0,1,2,3,4,5,6,117,118,119]
 |flt er m2=>
  have hY:yH _ _ _ _ _ _:=hY;show yH _ _ _ _ _ _;rcases hop with⟨hop,hv,hy⟩|⟨hop,hv,hy⟩|⟨hop,hv,hy⟩|⟨hop,hv,hy⟩
  all_goals
   refine gFp func274 λC hC=>?_
   repeat' first|refine gG ?_|(exfalso;first|(have h0:=uk h;omega)|(have h0:=uo h;omega))|refine gB ?_ ?_<;>intro h|refine gIt (zx hx) ?_|refine gIt (yB hy) ?_|refine gIt (zdJ hy) ?_|refine gR hX ig ?_|refine gCN hY im ?_
   exact gUn iz
 |out=>trivial
def zh3{fr:Fr}{e:Ex}{v:Int}(hx:e.l[0]?=some x)(U:wq d fuel fr x m (.ok v m1))(J:(e.op=19/\v=0)\/(e.op=20/\v=1)):wq d fuel fr e m (.ok v m1):=by
 have U:zh _ _ _ _ _ _:=U;show zh _ _ _ _ _ _;rcases J with⟨J,hv⟩|⟨J,hv⟩
 all_goals
  subst hv;refine gFo func274 λC hC=>?_
  repeat' first|refine gG ?_|(exfalso;first|(have h0:=uk h;omega)|(have h0:=uo h;omega))|exact gD|refine gB ?_ ?_<;>intro h|refine gIt (zx hx) ?_|refine gR U ig ?_
  exact gW [0,1,2,3,4,5,6,107,108,109]
def zjj(op:Int):Prop:= ¬(op=1\/op=2\/op=3\/op=4\/op=5\/op=6\/op=7\/op=8\/op=24\/op=18\/op=19\/op=20\/op=21)
def zr2{fr:Fr}{e:Ex}{m2:Mc}{a er:Int}(J:zjj e.op)(hx:e.l[0]?=some x)(U:wq d fuel fr x m (.ok a m1))(hy:e.l[1]?=some y)(hY:wq d fuel fr y m1 (.flt er m2)):wq d fuel fr e m (.flt er m2):=by
 have U:zh _ _ _ _ _ _:=U;have hY:yH _ _ _ _ _ _:=hY;unfold zjj at J;refine gFp func274 λC hC=>?_
 repeat' first|refine gG ?_|(exfalso;have h0:=uk h;omega)|refine gB ?_ ?_<;>intro h|refine gIt (zx hx) ?_|refine gIt (yB hy) ?_|refine gR U ig ?_|refine gCN hY im ?_
 exact gUn iz
theorem zkW{fr:Fr}{e:Ex}{m2:Mc}{a b:Int}(hop:zjj e.op)(h14: ¬(e.op=14\/e.op=15\/e.op=16\/e.op=17))(hx:e.l[0]?=some x)(U:wq d fuel fr x m (.ok a m1))(hy:e.l[1]?=some y)(hY:wq d fuel fr y m1 (.ok b m2)):
 wq d fuel fr e m (zun m2 e.op a b):=by
 have U:zh _ _ _ _ _ _:=U;have hY:zh _ _ _ _ _ _:=hY;unfold zjj at hop;unfold zun;rcases x8 (p:=inB a/\inB b) (x:=znE m2 e.op a b)with h|⟨⟨ha,hb⟩,h⟩
 ·rw[h];trivial
 rw[h];have J:=zuO m2 e.op a b ha hb
 have hm: ∀c mm,znE m2 e.op a b= .ok c mm->mm=m2:=λc mm h=>by
  unfold znE vI at h
  repeat' split at h
  all_goals first|(cases h;rfl)|cases h
 have hm': ∀c mm,znE m2 e.op a b= .flt c mm->mm=m2:=λc mm h=>by
  unfold znE vI at h
  repeat' split at h
  all_goals first|(cases h;rfl)|cases h
 cases hr:znE m2 e.op a b with
 |ok c mm=>
  obtain rfl:=hm c mm hr;rw[hr]at J;have J:zh _ _ _ _ _ _:=J;refine gFo func274 λC hC=>?_
  repeat' first|refine gG ?_|(exfalso;have h0:=uk h;omega)|refine gB ?_ ?_<;>intro h|refine gIt (zx hx) ?_|refine gIt (yB hy) ?_|refine gR U ig ?_|refine gR hY im ?_|refine w6 hC J rfl rfl zql rfl rfl rfl ?_
  exact gW [0,1,2,3,4,5,6,117,118,119]
 |flt er mm=>
  obtain rfl:=hm' er mm hr;rw[hr]at J;have J:yH _ _ _ _ _ _:=J;refine gFp func274 λC hC=>?_
  repeat' first|refine gG ?_|(exfalso;have h0:=uk h;omega)|refine gB ?_ ?_<;>intro h|refine gIt (zx hx) ?_|refine gIt (yB hy) ?_|refine gR U ig ?_|refine gR hY im ?_|refine gCN J id ?_ (ha:=zql)
  exact gUn iz
 |out=>trivial
set_option maxRecDepth 100000 in
set_option maxHeartbeats 2000000 in
def zqp{fr:Fr}{e:Ex}{m2:Mc}{a b:Int}(c:Bool)(hop:(e.op=16/\c=decide (a<b))\/(e.op=17/\c=decide (a<=b)))(hx:e.l[0]?=some x)(hX:wq d fuel fr x m (.ok a m1))(hy:e.l[1]?=some y)(hY:wq d fuel fr y m1 (.ok b m2)):
 wq d fuel fr e m (znF m2 c):=by
 have hX:zh _ _ _ _ _ _:=hX;have hY:zh _ _ _ _ _ _:=hY;unfold znF;rcases x8 (p:=0<=m2.comps/\m2.comps<1099511627776) (x:=An.ok (zcH c) { m2 with comps:=m2.comps+1 })with h|⟨hc,h⟩
 ·rw[h];trivial
 rw[h];have hw:IntKind.i64.wrap (m2.comps+1)=m2.comps+1:=wrap64 ua;have hT:=ze9 c;show zh _ _ _ _ _ _;rcases hop with⟨hop,rfl⟩|⟨hop,rfl⟩
 all_goals
  refine gFo func274 λC hC=>?_
  repeat' first|refine gG ?_|(exfalso;first|(have h0:=uk h;omega)|(have h0:=uo h;omega))|refine gB ?_ ?_<;>intro h|refine gIt (zx hx) ?_|refine gIt (yB hy) ?_|refine gR hX ig ?_|refine gR hY im ?_|refine gC hT ?_
  rw[hw];exact gW [0,1,2,3,4,5,6,117,118,119]
set_option maxRecDepth 100000 in
set_option maxHeartbeats 2000000 in
def zuZ{fr:Fr}{e:Ex}{m2:Mc}{a b:Int}(hop:e.op=14\/e.op=15)(hx:e.l[0]?=some x)(hX:wq d fuel fr x m (.ok a m1))(hy:e.l[1]?=some y)(hY:wq d fuel fr y m1 (.ok b m2)):
 wq d fuel fr e m (opA (tyO d fr.vs x) λt=>if t=(⟨#[105,110,116]⟩:UI)then znF m2 (decide (decide (a=b)=decide (e.op=14)))else .ok (zcH (decide (decide (a=b)=decide (e.op=14)))) m2):=by
 have hX:zh _ _ _ _ _ _:=hX;have hY:zh _ _ _ _ _ _:=hY;rcases zcT (o:=tyO d fr.vs x) (f:=λt=>if t=(⟨#[105,110,116]⟩:UI)then znF m2 (decide (decide (a=b)=decide (e.op=14)))else .ok (zcH (decide (decide (a=b)=decide (e.op=14)))) m2)with h|⟨t,ht,h⟩
 ·rw[h];trivial
 rw[h];have hT:=zuQ d fuel m2 fr (sizeOf x+1) x t ua ht;have hq:=ze9 (decide (decide (a=b)=decide (e.op=14)));by_cases hi:t=(⟨#[105,110,116]⟩:UI)
 ·rw[uw hi];subst hi;unfold znF;rcases x8 (p:=0<=m2.comps/\m2.comps<1099511627776) (x:=An.ok (zcH (decide (decide (a=b)=decide (e.op=14)))) { m2 with comps:=m2.comps+1 })with h|⟨hc,h⟩
  ·rw[h];trivial
  rw[h];have hw:IntKind.i64.wrap (m2.comps+1)=m2.comps+1:=wrap64 ua;show zh _ _ _ _ _ _;rcases hop with hop|hop
  all_goals
   refine gFo func274 λC hC=>?_
   repeat' first|refine gG ?_|(exfalso;first|(have h0:=uk h;omega)|(have h0:=uo h;omega))|exact gD|refine gB ?_ ?_<;>intro h|refine gIt (zx hx) ?_|refine gIt (yB hy) ?_|refine gR hX ig ?_|refine gR hY im ?_|refine gK hT iR ?_|refine zak hC rfl rfl rfl rfl rfl ?_|refine gC hq ?_
   rw[hw];exact gW [0,1,2,3,4,5,6,117,118,119]
 ·rw[ur hi];show zh _ _ _ _ _ _;rcases hop with hop|hop
  all_goals
   refine gFo func274 λC hC=>?_
   repeat' first|refine gG ?_|(exfalso;first|(have h0:=uk h;omega)|(have h0:=uo h;omega))|(exfalso;exact hi (uk h))|refine gB ?_ ?_<;>intro h|refine gIt (zx hx) ?_|refine gIt (yB hy) ?_|refine gR hX ig ?_|refine gR hY im ?_|refine gK hT iR ?_|refine zak hC rfl rfl rfl rfl rfl ?_|refine gC hq ?_
   exact gW [0,1,2,3,4,5,6,117,118,119]
abbrev zr3(d:zf)(fuel:Int)(fr:Fr)(e:Ex)(m:Mc)(a:An Int):Prop:=
 FnX prog 278 [.one (.bx 0 0),.one (.bx 5 0),zn (yg e)] (mcR d fuel m 1 2 3 4++frR fr) (exE d fuel fr a)
theorem zr4{fr:Fr}{k:Nat}(ihE: ∀e m,wq d fuel fr e m (exV d fuel fr k e m))(ihC: ∀e m,zr3 d fuel fr e m (clV d fuel fr k e m))(e:Ex)(m:Mc):wq d fuel fr e m (exV d fuel fr (k+1) e m):=by
 rw[exV]
 have first: ∀(f:Int->Mc->An Int),¬(e.op=1\/e.op=2\/e.op=3\/e.op=4\/e.op=6\/e.op=7)->(∀x v m1,e.l[0]?=some x->wq d fuel fr x m (.ok v m1)->wq d fuel fr e m (f v m1))->
  wq d fuel fr e m ((atA e.l 0 λx=>exV d fuel fr k x m).bind f):=λf hop hf=>by
  rcases wS (l:=e.l) (i:=0) (f:=λx=>exV d fuel fr k x m)with h|⟨x,U,h⟩
  ·rw[h];trivial
  rw[h];have J:=ihE x m;cases hr:exV d fuel fr k x m with
  |ok v m1=>rw[hr]at J;exact hf x v m1 U J
  |flt er m1=>rw[hr]at J;exact zqo hop U J
  |out=>trivial
 have sub: ∀(i:Nat) m1,(∃y,e.l[i]?=some y/\(atA e.l i λy=>exV d fuel fr k y m1)=exV d fuel fr k y m1)\/(atA e.l i λy=>exV d fuel fr k y m1)= .out:=λi m1=>by
  rcases wS (l:=e.l) (i:=i) (f:=λy=>exV d fuel fr k y m1)with h|⟨y,hy,h⟩
  ·exact .inr h
  ·exact .inl ⟨y,hy,h⟩
 by_cases h1:e.op=1\/e.op=2
 ·rw[uw h1];exact zuV h1
 rw[ur h1];by_cases h3:e.op=3
 ·rw[uw h3];exact zuW h3
 rw[ur h3];by_cases h4:e.op=4
 ·rw[uw h4];exact zuT h4
 rw[ur h4];by_cases h5:e.op=5
 ·rw[uw h5];exact first _ ua λx v m1 U J=>zuS h5 U J
 rw[ur h5];by_cases h6:e.op=6
 ·rw[uw h6];exact zuU h6
 rw[ur h6];by_cases h7:e.op=7
 ·rw[uw h7];exact zuX h7 (ihC e m)
 rw[ur h7];by_cases h8:e.op=8
 ·rw[uw h8];exact first _ ua λx v m1 U J=>zuY h8 U J
 rw[ur h8];by_cases h24:e.op=24
 ·rw[uw h24];exact first _ ua λx v m1 U J=>zrY h24 U J
 rw[ur h24];by_cases h18:e.op=18
 ·rw[uw h18];exact first _ ua λx v m1 U J=>zrX h18 U J
 rw[ur h18];by_cases h19:e.op=19
 ·rw[uw h19];refine first _ ua λx v m1 U J=>?_
  by_cases hv:v=0
  ·rw[uw hv];have:=zh3 U J (.inl ⟨h19,hv⟩);rw[hv]at this;exact this
  ·rw[ur hv];rcases sub 1 m1 with⟨y,hy,h⟩|h
   ·rw[h];exact zh2 U J (ihE y m1) (.inl ⟨h19,hv,hy⟩)
   ·rw[h];trivial
 rw[ur h19];by_cases h20:e.op=20
 ·rw[uw h20];refine first _ ua λx v m1 U J=>?_
  by_cases hv:v=1
  ·rw[uw hv];have:=zh3 U J (.inr ⟨h20,hv⟩);rw[hv]at this;exact this
  ·rw[ur hv];rcases sub 1 m1 with⟨y,hy,h⟩|h
   ·rw[h];exact zh2 U J (ihE y m1) (.inr (.inl ⟨h20,hv,hy⟩))
   ·rw[h];trivial
 rw[ur h20];by_cases h21:e.op=21
 ·rw[uw h21];refine first _ ua λx v m1 U J=>?_
  by_cases hv:v=1
  ·rw[uw hv];rcases sub 1 m1 with⟨y,hy,h⟩|h
   ·rw[h];exact zh2 U J (ihE y m1) (.inr (.inr (.inl ⟨h21,hv,hy⟩)))
   ·rw[h];trivial
  ·rw[ur hv];rcases sub 2 m1 with⟨y,hy,h⟩|h
   ·rw[h];exact zh2 U J (ihE y m1) (.inr (.inr (.inr ⟨h21,hv,hy⟩)))
   ·rw[h];trivial
 rw[ur h21];have hop:zjj e.op:=by unfold zjj;omega
 rcases wS (l:=e.l) (i:=0) (f:=λx=>(exV d fuel fr k x m).bind λa m=>(atA e.l 1 λy=>exV d fuel fr k y m).bind λb m=>ztC d fr x e.op a b m)with h|⟨x,U,h⟩
 ·rw[h];trivial
 rw[h];have J:=ihE x m;cases hr:exV d fuel fr k x m with
 |out=>trivial
 |flt er m1=>rw[hr]at J;exact zqo ua U J
 |ok a m1=>
  rw[hr]at J;simp only[An.bind];rcases sub 1 m1 with⟨y,hy,h⟩|h
  rotate_left
  ·rw[h];trivial
  rw[h];have hY:=ihE y m1;cases hr2:exV d fuel fr k y m1 with
  |out=>trivial
  |flt er m2=>rw[hr2]at hY;exact zr2 hop U J hy hY
  |ok b m2=>
   rw[hr2]at hY;simp only[An.bind];unfold ztC;by_cases h14:e.op=14\/e.op=15
   ·rw[uw h14];exact zuZ h14 U J hy hY
   rw[ur h14];by_cases h16:e.op=16
   ·rw[uw h16];exact zqp _ (.inl ⟨h16,rfl⟩) U J hy hY
   rw[ur h16];by_cases h17:e.op=17
   ·rw[uw h17];exact zqp _ (.inr ⟨h17,rfl⟩) U J hy hY
   rw[ur h17];exact zkW hop ua U J hy hY
def ms(l:List (Nat×Nat))(i:Nat):Nat:=match l.lookup i with
 |some j=>j
 |none=>i
theorem y4: ∀ {l:List (Nat×Nat)},(l.all λp=>Nat.ble 100 p.1)=true-> ∀i,i<100->ms l i=i
 | [],_,_,_=>rfl
 |(a,b)::l,h,i,hi=>by
  simp only[tQ,um]at h;have ha:100<=a:=uS h.1;have:=y4 h.2 i hi;unfold ms at this⊢;rw[List.lookup_cons];rw[show(i==a)=false by simp;omega];exact this
def rnE(d:zf)(fuel:Int):An Int->End
 | .ok v m=> .ok (I v) (mcR d fuel m 1 7 8 9)
 | .flt e m=> .pn (znI e) (mcR d fuel m 1 7 8 9)
 | .out=> .no
abbrev zwn(d:zf)(fuel:Int)(p:Pr)(a:List Int)(m:Mc)(r:An Int):Prop:=
 FnX prog 188 [.one (.bx 0 0),zn (zD p),pS (yx a)] (mcR d fuel m 1 2 3 4) (rnE d fuel r)
variable {res:An (List Int)}{vals:List Int}
theorem zdK{fr:Fr}{k:Nat}{r:List Ex}(h:((exsV d fuel fr k (x::r) m).bind λr m=> .ok (vals++r) m)=res)(J:res≠ .out):
 ∃j,k=j+1/\((∃v m1,exV d fuel fr j x m= .ok v m1/\((exsV d fuel fr j r m1).bind λr m=> .ok ((vals++[v])++r) m)=res)\/ ∃er m1,exV d fuel fr j x m= .flt er m1/\res= .flt er m1):=by
 cases k with
 |zero=>exact absurd h.symm (by simpa [exsV,An.bind]using J)
 |succ j=>
  refine⟨j,rfl,?_⟩;rw[exsV]at h;cases hx:exV d fuel fr j x m with
  |out=>rw[hx]at h;exact absurd h.symm (by simpa [An.bind]using J)
  |flt er m1=>rw[hx]at h;exact .inr ⟨er,m1,rfl,h.symm⟩
  |ok v m1=>
   rw[hx]at h;refine .inl ⟨v,m1,rfl,?_⟩;simp only[An.bind]at h;cases hr:exsV d fuel fr j r m1 with
   |ok l m2=>rw[hr]at h;simp only at h ⊢; rw[<-h];simp only[An.bind,tE,qP]
   |flt er m2=>rw[hr]at h;exact h
   |out=>rw[hr]at h;exact h
theorem zgE{fr:Fr}{k:Nat}(h:((exsV d fuel fr k [] m).bind λr m=> .ok (vals++r) m)=res)(J:res≠ .out):res= .ok vals m:=by
 cases k with
 |zero=>exact absurd h.symm (by simpa [exsV,An.bind]using J)
 |succ j=>rw[exsV]at h;rw[<-h];simp only[An.bind,uV]
def zdL(a:An (List Int)):(a.bind λr m=> .ok ([]++r) m)=a:=by cases a<;>rfl
variable {i:Nat}
def wrapN(h:i+1<=1000001):IntKind.i64.wrap ((i:Int)+1)=((i+1:Nat):Int):=by rw[wrap64 ua];omega
def clT(d:zf)(fuel:Int)(fr:Fr)(e:Ex)(q:Nat×Nat×List Int×Mc):zb×Tab:=
 ([(0,.one (.bx 0 0)),(1,.one (.bx 5 0)),(5,.one (.bx 1005 0)),(11,pS (v8 e.l)),(12,I e.l.length),(13,I q.1),(7,.one (.ar 140))],
  [(1005,some (.box ((yg e).map V.p))),(0,some (.box (mcC d fuel q.2.2.2 1 107 109))),(1,some (.arr 1 (q.2.2.2.g.map zN))),(107,some (.vw [108] 2 (wRows q.2.2.2.ns 0))),(108,some (.bag 1 (jP q.2.2.2.ns))),(109,some (.arr 3 (q.2.2.2.acc.map zgB))),
   (5,some (.box [.p (zw fr.vs),.ar 6])),(6,some (.arr 1 (fr.va.map zN))),(140,some (.arr 1 (q.2.2.1.map zN)))])
def zxa{fr:Fr}{k:Nat}(ihE: ∀j,j<=k-> ∀e m,wq d fuel fr e m (exV d fuel fr j e m)){e:Ex}{mF:Mc}{er:Int}(hl:e.l.length<=1000000)(hr:exsV d fuel fr k e.l m= .flt er mF):zr3 d fuel fr e m (.flt er mF):=by
 refine gFp func278 λC hC=>?_
 repeat' first|refine gG ?_|refine gB ?_ ?_<;>intro h
 refine gA 140 1 [(7,.one (.ar 140))] [] ?_;rw[uj]
 refine zj (λq:Nat×Nat×List Int×Mc=>q.1<=e.l.length/\q.2.1<=k/\q.2.2.1.length=q.1/\((exsV d fuel fr q.2.1 (e.l.drop q.1) q.2.2.2).bind λr m=> .ok (q.2.2.1++r) m)= .flt er mF) (clT d fuel fr e) (λq=>e.l.length - q.1) hC
  (0,k,[],m) ⟨uD _,uM _,rfl,by rw[zdL];exact hr⟩ (ms [(107,2),(108,3),(109,4)]) ⟨rfl,⟨rfl,rfl,rfl,rfl,rfl,rfl,rfl,uh⟩,⟨rfl,rfl,rfl,rfl,rfl,rfl,rfl,rfl,rfl,uh⟩,rfl,y4 rfl⟩ ?_
 rintro⟨i,k1,vals,m1⟩ ⟨hi,hk,hv,J⟩;simp only at hi hk hv J;refine gLc ?_ ?_<;>intro h
 ·have hlt:i<e.l.length:=by simpa [clT]using h
  obtain⟨x,hx⟩:=za hlt;rw[drop_at hx]at J;obtain⟨j,rfl,hcase⟩:=zdK J ue;have U:=ihE j ua x m1;rcases hcase with⟨v,m2,hev,hnx⟩|⟨er1,m2,hev,hE⟩
  ·rw[hev]at U;have U:zh _ _ _ _ _ _:=U;have happ:vals.map zN++[[ki v]]=(vals++[v]).map zN:=by rw[u5];rfl
   repeat' first|refine gG ?_|refine gB ?_ ?_<;>intro h|refine gXE ?_|refine gR U im ?_|refine gT ?_|refine gY T 141 ((vals++[v]).map zN) 8 ?_
   rw[wrapN ua];exact zg (i+1,j,vals++[v],m2) ⟨by simp only;omega,by simp only;omega,by simp only[uQ,uP];omega,hnx⟩ (ms [(107,117),(108,118),(109,119),(140,141)]) (by simp only;omega) ⟨rfl,⟨rfl,rfl,rfl,rfl,rfl,rfl,rfl,uh⟩,⟨rfl,rfl,rfl,rfl,rfl,rfl,rfl,rfl,rfl,uh⟩,rfl,y4 rfl⟩
  ·rw[hev]at U;have U:yH _ _ _ _ _ _:=U;cases hE
   repeat' first|refine gG ?_|refine gB ?_ ?_<;>intro h|refine gXE ?_|refine gCN U im ?_
   refine gU (zcD (gU (zK ⟨rfl,iz,⟨rfl,rfl,rfl,rfl,rfl,uh⟩,rfl,rfl⟩)))
 ·exfalso;have hge: ¬i<e.l.length:=by simpa [clT]using h
  rw[uC ua]at J;cases zgE J ue
theorem zxb{fr:Fr}{k:Nat}(ihE: ∀j,j<=k-> ∀e m,wq d fuel fr e m (exV d fuel fr j e m)){e:Ex}{mF:Mc}{a:List Int}(hl:e.l.length<=1000000)(hr:exsV d fuel fr k e.l m= .ok a mF)
 (hi:zbG d e.s=some i) {p:Pr} (hp:d.procs[i]?=some p) {r:An Int} (hR:zwn d fuel p a mF r):zr3 d fuel fr e m r:=by
 have hI:=zh0 hi;cases r with
 |out=>trivial
 |ok v m2=>
  have hR:zh _ _ _ _ _ _:=hR;refine gFo func278 λC hC=>?_
  repeat' first|refine gG ?_|refine gB ?_ ?_<;>intro h
  refine gA 140 1 [(7,.one (.ar 140))] [] ?_;rw[uj]
  refine zj (λq:Nat×Nat×List Int×Mc=>q.1<=e.l.length/\q.2.1<=k/\q.2.2.1.length=q.1/\((exsV d fuel fr q.2.1 (e.l.drop q.1) q.2.2.2).bind λr m=> .ok (q.2.2.1++r) m)= .ok a mF) (clT d fuel fr e) (λq=>e.l.length - q.1) hC
   (0,k,[],m) ⟨uD _,uM _,rfl,by rw[zdL];exact hr⟩ (ms [(107,2),(108,3),(109,4)]) ⟨rfl,⟨rfl,rfl,rfl,rfl,rfl,rfl,rfl,uh⟩,⟨rfl,rfl,rfl,rfl,rfl,rfl,rfl,rfl,rfl,uh⟩,rfl,y4 rfl⟩ ?_
  clear hr;rintro⟨i1,k1,vals,m1⟩ ⟨hi1,hk,hv,J⟩;simp only at hi1 hk hv J;refine gLc ?_ ?_<;>intro h
  ·have hlt:i1<e.l.length:=by simpa [clT]using h
   obtain⟨x,hx⟩:=za hlt;rw[drop_at hx]at J;obtain⟨j,rfl,U⟩:=zdK J ue;have hX:=ihE j ua x m1;rcases U with⟨v,m2,hev,hnx⟩|⟨er1,m2,hev,hE⟩
   ·rw[hev]at hX;have hX:zh _ _ _ _ _ _:=hX;have happ:vals.map zN++[[ki v]]=(vals++[v]).map zN:=by rw[u5];rfl
    repeat' first|refine gG ?_|refine gB ?_ ?_<;>intro h|refine gXE ?_|refine gR hX im ?_|refine gT ?_|refine gY T 141 ((vals++[v]).map zN) 8 ?_
    rw[wrapN ua];exact zg (i1+1,j,vals++[v],m2) ⟨by simp only;omega,by simp only;omega,by simp only[uQ,uP];omega,hnx⟩ (ms [(107,117),(108,118),(109,119),(140,141)]) (by simp only;omega) ⟨rfl,⟨rfl,rfl,rfl,rfl,rfl,rfl,rfl,uh⟩,⟨rfl,rfl,rfl,rfl,rfl,rfl,rfl,rfl,rfl,uh⟩,rfl,y4 rfl⟩
   ·cases hE
  ·have hge: ¬i1<e.l.length:=by simpa [clT]using h
   rw[uC ua]at J;cases zgE J ue;clear h J;refine gZ 140 [(7,pS (yx a))] [] ?_
   repeat' first|refine gG ?_|refine gB ?_ ?_<;>intro h|refine zd ?_|refine gC hI ?_|refine gIt (zl hp) ?_|refine gR hR im ?_
   exact gW [0,1,2,3,4,5,6,117,118,119]
 |flt er mE=>
  have hR:yH _ _ _ _ _ _:=hR;refine gFp func278 λC hC=>?_
  repeat' first|refine gG ?_|refine gB ?_ ?_<;>intro h
  refine gA 140 1 [(7,.one (.ar 140))] [] ?_;rw[uj]
  refine zj (λq:Nat×Nat×List Int×Mc=>q.1<=e.l.length/\q.2.1<=k/\q.2.2.1.length=q.1/\((exsV d fuel fr q.2.1 (e.l.drop q.1) q.2.2.2).bind λr m=> .ok (q.2.2.1++r) m)= .ok a mF) (clT d fuel fr e) (λq=>e.l.length - q.1) hC
   (0,k,[],m) ⟨uD _,uM _,rfl,by rw[zdL];exact hr⟩ (ms [(107,2),(108,3),(109,4)]) ⟨rfl,⟨rfl,rfl,rfl,rfl,rfl,rfl,rfl,uh⟩,⟨rfl,rfl,rfl,rfl,rfl,rfl,rfl,rfl,rfl,uh⟩,rfl,y4 rfl⟩ ?_
  clear hr;rintro⟨i1,k1,vals,m1⟩ ⟨hi1,hk,hv,J⟩;simp only at hi1 hk hv J;refine gLc ?_ ?_<;>intro h
  ·have hlt:i1<e.l.length:=by simpa [clT]using h
   obtain⟨x,hx⟩:=za hlt;rw[drop_at hx]at J;obtain⟨j,rfl,U⟩:=zdK J ue;have hX:=ihE j ua x m1;rcases U with⟨v,m2,hev,hnx⟩|⟨er1,m2,hev,hE⟩
   ·rw[hev]at hX;have hX:zh _ _ _ _ _ _:=hX;have happ:vals.map zN++[[ki v]]=(vals++[v]).map zN:=by rw[u5];rfl
    repeat' first|refine gG ?_|refine gB ?_ ?_<;>intro h|refine gXE ?_|refine gR hX im ?_|refine gT ?_|refine gY T 141 ((vals++[v]).map zN) 8 ?_
    rw[wrapN ua];exact zg (i1+1,j,vals++[v],m2) ⟨by simp only;omega,by simp only;omega,by simp only[uQ,uP];omega,hnx⟩ (ms [(107,117),(108,118),(109,119),(140,141)]) (by simp only;omega) ⟨rfl,⟨rfl,rfl,rfl,rfl,rfl,rfl,rfl,uh⟩,⟨rfl,rfl,rfl,rfl,rfl,rfl,rfl,rfl,rfl,uh⟩,rfl,y4 rfl⟩
   ·cases hE
  ·have hge: ¬i1<e.l.length:=by simpa [clT]using h
   rw[uC ua]at J;cases zgE J ue;clear h J;refine gZ 140 [(7,pS (yx a))] [] ?_
   repeat' first|refine gG ?_|refine gB ?_ ?_<;>intro h|refine zd ?_|refine gC hI ?_|refine gIt (zl hp) ?_|refine gCD hR im [] ?_
   exact gUn iz
theorem zr5{fr:Fr}{k:Nat}(ihE: ∀j,j<=k-> ∀e m,wq d fuel fr e m (exV d fuel fr j e m))(ihR: ∀p a m,zwn d fuel p a m (rnV d fuel k p a m))(e:Ex)(m:Mc):zr3 d fuel fr e m (clV d fuel fr (k+1) e m):=by
 rw[clV];rcases x8 (p:=e.l.length<=1000000) (x:=(exsV d fuel fr k e.l m).bind λa m=>opA (zbG d e.s) λi=>atA d.procs i λp=>rnV d fuel k p a m)with h|⟨J,h⟩
 ·rw[h];trivial
 rw[h];cases hr:exsV d fuel fr k e.l m with
 |out=>trivial
 |flt er mF=>exact zxa ihE J hr
 |ok a mF=>
  simp only[An.bind];rcases zcT (o:=zbG d e.s) (f:=λi=>atA d.procs i λp=>rnV d fuel k p a mF)with h|⟨i,U,h⟩
  ·rw[h];trivial
  rw[h];rcases wS (l:=d.procs) (i:=i) (f:=λp=>rnV d fuel k p a mF)with h|⟨p,hp,h⟩
  ·rw[h];trivial
  rw[h];exact zxb ihE J hr U hp (ihR p a mF)
end Hw.Gm
namespace Hw
open Go
variable {P:Program}{af:Array Edge}{d:Option Nat}{el t:TypeId}{g:Option (Nat×Bool)}{j:Int}{k':IntKind}{ps:String}{rows:List (List PV)}{x:Operand}
section
variable {ty:TypeId} {z:Operand}
def zr6{id id' e:Nat}(hx:okc x (.one (.ar id)))(hz:okc z (Kk k' j))(he:elemSz P t=some (el,e))(h0:0<=j)(h2:j<=rows.length):
 Snd P ⟨d,.slice t x none (some z) none,ty,ps,af,g⟩ (rq x (.one (.ar id))++rq z (Kk k' j)) [(id,.arr e rows)] [id'] (.one (.ar id')) [(id',some (.arr e (rows.take j.toNat))),(id,none)]:=by
 intro C st M ρ a w hH h1 hT hF hd k Q hk;rw[ze]at h1;have e1:=hH.evS (zq hx h1.1);have e3:=hH.k (zq hz h1.2);simp only[RepS,RepV]at e1;obtain⟨b,cap,f1,f2,f3,f5⟩:=hH.zz.res id _ hT.1;obtain⟨hu,hsz⟩:=zbr he
 have hrun:(execOp a.eval ⟨d,.slice t x none (some z) none,ty,ps,af,g⟩).run P w= .ok (.value (sliced b 0 j.toNat cap e)) w:=by
  simp only[execOp,e1.1,f1,e3,qc,uG,Sem.run_bind,run_sliceAt_slice w t _ _ _ _ hu,run_slice_h w t b rows.length cap hu k' j h0 ua,hsz,Result.andThen_ok,Sem.run_pure]
 have hl:(rows.take j.toNat).length=j.toNat:=by rw[u9];omega
 have hS: ∃b' cap',sliced b 0 j.toNat cap e= .slice b' j.toNat cap'/\j.toNat<=cap'/\cap'<=9223372036854775807/\((b'=none/\cap'=0)\/(b'=b/\cap'=cap)):=by
  by_cases hc:cap=0
  ·subst hc;rcases f5 with⟨rfl,_⟩|⟨b1,o1,cs,J,fz,rfl,_⟩
   ·exact⟨none,0,by simp[sliced],ua,ub,.inl ⟨rfl,rfl⟩⟩
   ·exact⟨_,0,by simp only[sliced,uw];congr 1,ua,ub,.inr ⟨rfl,rfl⟩⟩
  ·rcases f5 with⟨rfl,hc'⟩|⟨b1,o1,cs,J,fz,rfl,_⟩
   ·exact absurd hc' hc
   ·exact⟨some ⟨b1,o1,none⟩,cap,by simp[sliced,ur hc,Addr.add],ua,f3,.inr ⟨rfl,rfl⟩⟩
 obtain⟨b',cap',U,hs2,hs3,hs4⟩:=hS;unfold Oper.wp;simp only[Sem.run_bind,hrun,Result.andThen_ok,Sem.run_pure,Oper.upon_value];refine hk _ _ _ _ (hH.step (some id) (λ_ _ _=>rfl) (uM _) rfl rfl rfl (λb1 hb1=> .inr ⟨id,_,rfl,hT.1,?_⟩) hF.1 ?_ (by simp only[RepS,RepV];exact⟨(zo _ _ _).symm,by rw[U];rfl⟩) hd)
 ·rw[U]at hb1;rcases hs4 with⟨rfl,_⟩|⟨rfl,rfl⟩
  ·simp[Bk,blk]at hb1
  ·rw[f1];simp only[Bk,blk]at hb1 ⊢; grind
 ·refine⟨b',cap',by rw[zo,U,hl],ua,hs3,?_⟩;rcases hs4 with⟨rfl,rfl⟩|⟨rfl,rfl⟩
  ·simp_all
  ·rcases f5 with h|⟨b1,o1,cs,J,fz,rfl,f6,f7,f8,f9⟩
   ·exact .inl h
   ·exact .inr ⟨b1,o1,cs,J,fz,rfl,f6,f7,f8,f9.take _⟩
end
variable {C:Ctx}{Q:Exit->St->Prop}{all:Array Oper}{g0:Option (Nat×Bool)}{gs:zb}{k1:IntKind}{md:Mode}{rest:List Oper}{tab:Tab}
section
variable {k:List Frm} {n:Nat} {sl:zb}
def zlC(T:Ty P){d:Nat}{z:Operand}{ty:TypeId}(id':Nat)(hC:C.low){id e:Nat}{rows':List (List PV)}
 (J:ev sl x=some (.one (.ar id))) (U:ev sl z=some (Kk k1 j)) (hT:tg tab id=some (.arr e rows)) (he:T.es t=some (el,e)) (h0:0<=j) (h2:j<=rows.length) (hr:rows.take j.toNat=rows')
 (hf:allB (λi=>Nat.ble 100 i&&freshB i ⟨n,sl,tab⟩) [id']=true) (hm:metL all sl g0=some gs) (hd:Nat.blt d n=true)
 (g:Goal P C (.ops all rest (nx md ⟨some d,gs++(rq x (.one (.ar id))++rq z (Kk k1 j)),[(id,.arr e rows)],[id'],.one (.ar id'),[(id',some (.arr e rows')),(id,none)]⟩)) k n ((d,.one (.ar id'))::sl) ((id',some (.arr e rows'))::(id,none)::tab) Q):
 Goal P C (.ops all (⟨some d,.slice t x none (some z) none,ty,ps,af,g0⟩::rest) md) k n sl tab Q:=by
 subst hr;exact gDo hC hm (zr6 (id':=id') (rows:=rows) (ev1 J) (ev1 U) (T.es_ok _ _ he) h0 h2) (okA (ev2 J) (ev2 U)) ⟨hT,uh⟩ hf hd g
def zr7{cur:Cur}(U:lst cur=true)(t:Nat){s s':S}(ht:sg sl t=some s)(e:LeS s s')(g:Goal P C cur k n ((t,s')::sl) tab Q):Goal P C cur k n sl tab Q:=
 jv (sl':=(t,s')::sl) (tab':=tab) U (λ{M ρ a w} h=>⟨M,ρ,h.zr8 rfl rfl λj u J=>by
  rw[yk]at J;split at J
  ·rename_i e';subst e';simp only[ui]at J;subst J;exact e _ _ _ (h.slots _ _ ht)
  ·exact h.slots _ _ J⟩) g
end
section
variable (w:World)
def zcx(t tx ty e:TypeId)(i:TypeInfo)(z:Value)(ht:P.underlying t=some (.slice e))(hk:P.underlying tx=some (.int .i64))(hi:P.info? e=some i)(hz:i.zero=some z)(base:Option Addr)(sLen sCap:Nat)(olds:List Value)
 (U:(Builtin.firstCells i.size sLen (.slice base sLen sCap)).run P w.drew= .ok olds.toArray w.drew) (n:Nat) (hzs:z.cells.size=i.size) (hnb:n*i.bytes<=140737488355328) (hn63:n<=9223372036854775807)
 (hg:sCap<sLen+n) (h63:((sLen+n:Nat):Int)<=9223372036854775807) (hfit:Builtin.nextslicecap (sLen+n) sCap*i.bytes<=281474976710656):
 (Builtin.append_ #[t,tx] ty #[.slice base sLen sCap,.int .i64 (n:Int)]).run P w=
   .ok (.slice (some ⟨w.heap.size,0,none⟩) (sLen+n) (grownCap w (sLen+n) sCap e))
    (w.drew.alloc (.cells ((olds++(Builtin.zeroCells z.cells n).toList).toArray++Builtin.zeroCells z.cells (grownCap w (sLen+n) sCap e - (sLen+n))) e)):=by
 have hn: ¬(sLen+n<=sCap):=by omega
 have h63': ¬(9223372036854775807<((sLen:Int)+(n:Int))):=by omega
 have h48': ¬(281474976710656<Builtin.nextslicecap (sLen+n) sCap*i.bytes):=by omega
 have hw:IntKind.i64.wrap (n:Int)=n:=IntWalk.i64_in _ ua;have h0: ¬((n:Int)<0):=by omega
 have hb: ¬(281474976710656<(n:Int)*(i.bytes:Int)):=by
  have:(n:Int)*(i.bytes:Int)=((n*i.bytes:Nat):Int):=by simp
  omega
 by_cases J:n*i.size=0
 ·have hzc:Builtin.zeroCells z.cells n= #[]:=Array.eq_empty_of_size_eq_zero (by simp[Builtin.zeroCells,hzs,J]);simp[Builtin.append_,run_underlying ht,run_underlying hk,Go.sizeOf,typeInfo,zeroValue,hi,hz,hn,h63',h48',Question.forced,U,newRow,grownCap,asInt,asIntOf,hw,h0,hb,J,hzc]
 ·simp[Builtin.append_,run_underlying ht,run_underlying hk,Go.sizeOf,typeInfo,zeroValue,hi,hz,hn,h63',h48',Question.forced,U,newRow,grownCap,asInt,asIntOf,hw,h0,hb,J]
  congr 2
  grind
end
variable {row:List PV}{z:List V}
section
variable {ty:TypeId} {y:Operand}
def zlD{id id' e bytes n:Nat}{tx:TypeId}(hx:okc x (.one (.ar id)))(hy:okc y (I (n:Int)))
 (he:elemSz P t=some (el,e)) (hk:P.underlying tx=some (.int .i64)) (hz:zeroV P el=some z) (hp:pvsOf z=some row) (hzl:row.length=e) (hby:(P.info? el).map (·.bytes)=some bytes) (hb:(rows.length+n)*bytes<=140737488355328) (hlen:rows.length+n<=9223372036854775807):
 Snd P ⟨d,.call ⟨.builtin .append,#[x,y],#[t,tx]⟩,ty,ps,af,g⟩ (rq x (.one (.ar id))++rq y (I (n:Int))) [(id,.arr e rows)] [id'] (.one (.ar id')) [(id',some (.arr e (rows++List.replicate n row))),(id,none)]:=by
 intro C st M ρ a w hH h1 hT hF hd k Q hkk;rw[ze]at h1;have e1:=hH.evS (zq hx h1.1);have e2:=hH.k (zq hy h1.2);obtain⟨b,cap,h2,h3,h4,h5⟩:=hH.zz.res id _ hT.1;simp only[RepS,RepV]at e1;obtain⟨ii,hu,U,hsz⟩:=zp he;obtain⟨i',zv,hi',hzv,hzs⟩:=y5 hz;obtain⟨zv',hz1,hz2,_⟩:=xt hz M ρ w;rw[U]at hi';simp only[ui]at hi';subst hi';have:zv'=zv:=by simp[zeroValue,typeInfo,U,hzv]at hz1;exact hz1.symm
 subst this;rw[U]at hby;simp only[uG,ui]at hby;have hzl':z.length=e:=by rw[wu hp,uj];exact hzl
 have hzc:Builtin.zeroCells zv'.cells n=madeCells zv'.cells (n*e):=by simp only[Builtin.zeroCells,madeCells,hzs,hzl']
 obtain⟨news,hnw⟩: ∃news,news=(Builtin.zeroCells zv'.cells n).toList:=⟨_,rfl⟩;have hnews:RepVs M ρ ((List.replicate n row).flatten.map V.p) news:=by rw[hnw,hzc];exact vC hz2 hzl' n hp
 have hnl:news.length=n*e:=by rw[hnw,hzc];simp[size_madeCells]
 have hlen2:=zgF (n:=n) hzl;have hone: ∀u∈news,u.oneCell'=true:=λu hu=>hnews.one u hu
 have hnb:n*bytes<=140737488355328:=tG (tz _ ua) hb
 have hcall:execOp a.eval ⟨d,.call ⟨.builtin .append,#[x,y],#[t,tx]⟩,ty,ps,af,g⟩=(do pure (.value (<-Builtin.append_ #[t,tx] ty #[a.eval x,a.eval y]))):=by
  simp[execOp,resolve,invoke,builtin]
 have fin: ∀ {val:Value} {w':World},(Builtin.append_ #[t,tx] ty #[a.eval x,a.eval y]).run P w= .ok val w'->
  (∀b',b'<w.heap.size->(∀i r,(some id)=some i->tg st.tab i=some r-> ¬Bk (ρ i) b')->w'.heap[b']?=w.heap[b']?)->w.heap.size<=w'.heap.size->w'.os=w.os->w'.tape=w.tape->w'.output=w.output->
  (∀b',Bk val b'->w.heap.size<=b'\/ ∃i r,(some id)=some i/\tg st.tab i=some r/\Bk (ρ i) b')->zA M (upd ρ id' val) w' id' (.arr e (rows++List.replicate n row))->val.oneCell'=true->
  Oper.wp P ⟨d,.call ⟨.builtin .append,#[x,y],#[t,tx]⟩,ty,ps,af,g⟩ a w k Q:=λ{val w'} J g1 g2 g3 g4 g5 g6 g7 g8=>by
  unfold Oper.wp;rw[hcall];simp only[Sem.run_bind,J,Result.andThen_ok,Sem.run_pure,Oper.upon_value];exact hkk _ _ _ _ (hH.step (some id) g1 g2 g3 g4 g5 g6 hF.1 g7 (by simp only[RepS,RepV];exact⟨(zo _ _ _).symm,g8⟩) hd)
 have hex:a.eval x= .slice b rows.length cap:=e1.1.trans h2;have hwn:IntKind.i64.wrap (n:Int)=n:=IntWalk.i64_in _ ua;have hn0: ¬((n:Int)<0):=by omega
 have hn48: ¬(281474976710656<(n:Int)*(ii.bytes:Int)):=by
  have:(n:Int)*(ii.bytes:Int)=((n*ii.bytes:Nat):Int):=by simp
  rw[this,hby];omega
 rcases tu cap (rows.length+n)with hlt|hge
 · -- a new row
   have hold: ∃olds:List Value,(Builtin.firstCells ii.size rows.length (.slice b rows.length cap)).run P w.drew= .ok olds.toArray w.drew/\RepVs M ρ (rows.flatten.map V.p) olds/\olds.length=rows.length*e/\ ∀r∈rows,r.length=e:=by
    rcases h5 with⟨rfl,hc⟩|⟨b',o,cs,el',fz,rfl,h6,_,_,h8⟩
    ·have:rows=[]:=uY.1 ua;subst this;exact⟨[],run_firstCells_none w.drew _ _ _ _,by simp[RepVs],ue,ue⟩
    ·obtain⟨us,h9,h10,h11⟩:=h8.cells (ρ:=ρ);refine⟨us,?_,h9,h10,h8.len⟩;rw[hsz]
     exact run_firstCells_some w.drew e rows.length ⟨b',o,none⟩ _ cap us h10 (λj u hj=>by
      rw[zT];have:=h11 j u hj;have h6':w.drew.heap[b']?=some (.cells cs el' fz):=h6
      simp[World.cell?,h6',this])
   obtain⟨olds,ho1,ho2,ho3,ho4⟩:=hold;have J:=zcx (P:=P) w t tx ty el ii zv' hu hk U hzv b rows.length cap olds ho1 n (by rw[hzs,hzl',hsz]) (by rw[hby];exact hnb) ua hlt ua (growslice_fits hlt (by rw[hby];exact hb));rw[<-hex,<-e2,<-hnw]at J;have hcap:=grownCap_ge w (rows.length+n) cap el
   refine fin J (λb' hb' _=>z1 w.drew _ b' hb') ue rfl rfl rfl (λb' hb'=> .inl ?_) ⟨some ⟨w.heap.size,0,none⟩,grownCap w (rows.length+n) cap el,by rw[zo];simp,by simpa using hcap,(by have:=grownCap_le_maxLen w (rows.length+n) cap el (by unfold maxLen;omega);unfold maxLen at this;omega),.inr
    ⟨w.heap.size,0,_,el,(0,0),rfl,zJ w.drew _,λi _=>by simp,?_,?_⟩⟩ rfl
   ·simp only[Bk,blk,ui]at hb';omega
   ·simp only[qU,qg,uQ,size_zeroCells,hzs,hzl',ho3,hnl,<-tS,tJ]
    simp_all
   ·refine RowsIn.yb (ρ:=ρ) (cs:=olds++news) (λr hr=>(tp.1 hr).elim (ho4 r) (hlen2 r)) (by simpa [qi]using ho2.append hnews) λj c hj=>?_
    grind
 · -- room
   rcases h5 with⟨rfl,hc⟩|⟨b',o,cs,el',fz,rfl,h6,h6',h7,h8⟩
   ·have e3:n=0:=by omega
    have e4:rows=[]:=uY.1 ua;subst e3;subst e4;subst hc;have hw0:IntKind.i64.wrap 0=0:=IntWalk.i64_in 0 ua
    have J:(Builtin.append_ #[t,tx] ty #[a.eval x,a.eval y]).run P w= .ok (.slice none 0 0) w:=by
     rw[hex,e2];simp[Builtin.append_,run_underlying hu,run_underlying hk,Go.sizeOf,typeInfo,U,hsz,asInt,asIntOf,hw0]
    exact fin J (λ_ _ _=>rfl) (uM _) rfl rfl rfl (λb' hb'=>by simp[Bk,blk]at hb') ⟨none,0,by rw[zo];rfl,ue,ue,.inl ⟨rfl,rfl⟩⟩ rfl
   ·have hfit:o+rows.length*e+0+news.length<=cs.size:=by
     rw[hnl];have:(rows.length+n)*e<=cap*e:=tz _ hge;rw[tS]at this;omega
    have hst:=zG (P:=P) b' (o+rows.length*e) el' fz news 0 cs w h6 h6' hfit hone
    have J:(Builtin.append_ #[t,tx] ty #[a.eval x,a.eval y]).run P w= .ok (.slice (some ⟨b',o,none⟩) (rows.length+n) cap) (w.setRow b' (setAt cs.toList (o+rows.length*e+0) news).toArray):=by
     rw[hex,e2];by_cases hzero:n*ii.size=0
     ·have hn0':news=[]:=tr (by rw[hnl,<-hsz];exact hzero);rw[hn0']at hst⊢;rw[hsz]at hzero;simp[Builtin.append_,run_underlying hu,run_underlying hk,Go.sizeOf,typeInfo,U,hsz,hge,zT,asInt,asIntOf,hwn,hn0,hn48,hzero,hst]
     ·simp[Builtin.append_,run_underlying hu,run_underlying hk,Go.sizeOf,typeInfo,zeroValue,U,hzv,hge,zT,asInt,asIntOf,hwn,hn0,hn48,hzero,<-hnw];rw[hsz,hst];rfl
    have hob:Bk (ρ id) b':=by rw[h2];rfl
    have hsl:(setAt cs.toList (o+rows.length*e+0) news).length=cs.size:=by rw[z8 _ _ _ (by simpa using hfit)];simp
    refine fin J (λb2 hb2 hne=>yW w b' _ b2 λe=>hne id _ rfl hT.1 (e ▸ hob)) (by simp[World.setRow]) rfl rfl rfl
     (λb2 hb2=> .inr ⟨id,_,rfl,hT.1,by simp only[Bk,blk,ui]at hb2;simp_all⟩)
     ⟨some ⟨b',o,none⟩,cap,by rw[zo];simp,by simpa using hge,h4,.inr ⟨b',o,_,el',fz,rfl,setRow_heap w b' cs _ el' fz h6,?_,?_,?_⟩⟩ rfl
    ·simp_all
    ·simp_all
    ·refine RowsIn.append (RowsIn.congr (λj hj=>?_) h8) (RowsIn.yb (ρ:=ρ) hlen2 hnews λj c hj=>?_)
     ·simp only[tl];rw[yh _ _ _ _ ug,uw ua];simp
     ·have hjl:j<news.length:=(uy.1 hj).1;simp only[tl];rw[yh _ _ _ _ ug,ur ua,uw ua]
      simp_all
end
variable {m:Nat}
section
variable {k:List Frm} {n:Nat} {sl:zb}
def zb3(T:Ty P)(id':Nat){d:Nat}{y:Operand}{tx ty:TypeId}(hC:C.low){id e bytes:Nat}(rows3:List (List PV))
 (hx:ev sl x=some (.one (.ar id))) (hy:ev sl y=some (I (m:Int))) (hT:tg tab id=some (.arr e rows)) (he:T.es t=some (el,e)) (hk:P.underlying tx=some (.int .i64)) (hz:T.zs el=some z) (hp:pvsOf z=some row) (hr:rows++List.replicate m row=rows3) (U:Nat.beq row.length e=true) (hby:(P.info? el).map (·.bytes)=some bytes)
 (hb:(rows.length+m)*bytes<=140737488355328) (J:rows.length+m<=9223372036854775807) (hm:metL all sl g0=some gs) (hd:Nat.blt d n=true) (hf:(Nat.ble 100 id'&&freshB id' ⟨n,sl,tab⟩)=true)
 (g:Goal P C (.ops all rest (nx md ⟨some d,gs++(rq x (.one (.ar id))++rq y (I (m:Int))),[(id,.arr e rows)],[id'],.one (.ar id'),[(id',some (.arr e rows3)),(id,none)]⟩)) k n ((d,.one (.ar id'))::sl) ([(id',some (.arr e rows3)),(id,none)]++tab) Q):
 Goal P C (.ops all (⟨some d,.call ⟨.builtin .append,#[x,y],#[t,tx]⟩,ty,ps,af,g0⟩::rest) md) k n sl tab Q:=by
 subst hr;exact gDo hC hm (zlD (id':=id') (rows:=rows) (ev1 hx) (ev1 hy) (T.es_ok _ _ he) hk (T.zs_ok _ _ hz) hp (uA U) hby hb J) (okA (ev2 hx) (ev2 hy)) ⟨hT,uh⟩ (vU hf) hd g
end
section
variable {ty:TypeId} {z:Operand}
def zu0{n:Nat}(J:okc x (.one (.p (.k (.slice none 0 0)))))(U:elemSz P t=some (el,n)):
 Snd P ⟨d,.call ⟨.builtin .cap,#[x],#[t]⟩,ty,ps,af,g⟩ (rq x (.one (.p (.k (.slice none 0 0))))) [] [] (I 0) []:=
 zi λC st M ρ a w hH h1 hT=>by
  have e1:=hH.k (zq J h1);obtain⟨_,hu,_,_⟩:=zp U;exact⟨.int .i64 0,by simp[execOp,resolve,invoke,builtin,Builtin.cap_,run_underlying hu,e1,goInt],by simp only[RepS,RepV,RepPV];exact⟨uh,rfl⟩⟩
def zxc{n:Nat}(hx:okc x (.one (.p (.k (.slice none 0 0)))))(hz:okc z (Kk k' 0))(he:elemSz P t=some (el,n)):
 Snd P ⟨d,.slice t x none (some z) none,ty,ps,af,g⟩ (rq x (.one (.p (.k (.slice none 0 0))))++rq z (Kk k' 0)) [] [] (.one (.p (.k (.slice none 0 0)))) []:=
 zi λC st M ρ a w hH J hT=>by
  rw[ze]at J;have e1:=hH.k (zq hx J.1);have e3:=hH.k (zq hz J.2);obtain⟨hu,U⟩:=zbr he;refine⟨.slice none 0 0,?_,by simp only[RepS,RepV,RepPV];exact⟨uh,rfl⟩⟩;have hr:=run_slice_h w t none 0 0 hu k' 0 ua ua;simp only[execOp,e1,e3,qc,uG,Sem.run_bind,run_sliceAt_slice w t _ _ _ _ hu,hr,U,Result.andThen_ok,Sem.run_pure];simp[sliced]
end
section
variable {k:List Frm} {n:Nat} {sl:zb}
def zqq(T:Ty P){d:Nat}{ty:TypeId}(hC:C.low)
 (J:ev sl x=some (.one (.p (.k (.slice none 0 0))))) (U:T.es t=some (el,m)) (hm:metL all sl g0=some gs) (hd:Nat.blt d n=true)
 (g:Goal P C (.ops all rest (nx md ⟨some d,gs++rq x (.one (.p (.k (.slice none 0 0)))),[],[],I 0,[]⟩)) k n ((d,I 0)::sl) tab Q):
 Goal P C (.ops all (⟨some d,.call ⟨.builtin .cap,#[x],#[t]⟩,ty,ps,af,g0⟩::rest) md) k n sl tab Q:=
 gDo hC hm (zu0 (ev1 J) (T.es_ok _ _ U)) (ev2 J) trivial rfl hd g
def zxd(T:Ty P){d:Nat}{z:Operand}{ty:TypeId}(hC:C.low)
 (J:ev sl x=some (.one (.p (.k (.slice none 0 0))))) (U:ev sl z=some (Kk k1 0)) (he:T.es t=some (el,m)) (hm:metL all sl g0=some gs) (hd:Nat.blt d n=true)
 (g:Goal P C (.ops all rest (nx md ⟨some d,gs++(rq x (.one (.p (.k (.slice none 0 0))))++rq z (Kk k1 0)),[],[],.one (.p (.k (.slice none 0 0))),[]⟩)) k n ((d,.one (.p (.k (.slice none 0 0))))::sl) tab Q):
 Goal P C (.ops all (⟨some d,.slice t x none (some z) none,ty,ps,af,g0⟩::rest) md) k n sl tab Q:=
 gDo hC hm (zxc (ev1 J) (ev1 U) (T.es_ok _ _ he)) (okA (ev2 J) (ev2 U)) trivial rfl hd g
end
end Hw
namespace Hw.Gm
open Go Go.Proofs Hw.M Ps Tryz
set_option maxRecDepth 100000 in
def zoK(m:Nat)(h:m<=1000000):zh prog 219 [.one (.p (.k (.slice none 0 0))),I m] [] (.one (.ar 0)) [(0,.arr 2 [])]:=by
 have J:IntKind.i64.wrap ((m:Int) - IntKind.i64.wrap (0 - 0))=m:=by rw[show IntKind.i64.wrap (0 - 0)=0 from rfl,wrap64 ua];omega
 by_cases U:m=0
 ·refine gFo func219 λC hC=>?_
  repeat' first|refine gG ?_|(exfalso;rw[J]at h;have h1:=uk h;omega)|(exfalso;first|(have U:=uk h;omega)|(have U:=uo h;omega))|refine gB ?_ ?_<;>intro h|refine zqq T hC rfl rfl rfl rfl ?_
  refine gA 101 2 [(4,.one (.ar 101))] [] ?_;exact gW [101]
 ·refine gFo func219 λC hC=>?_
  repeat' first|refine gG ?_|(exfalso;rw[J]at h;have h1:=uo h;omega)|(exfalso;first|(have U:=uk h;omega)|(have U:=uo h;omega))|refine gB ?_ ?_<;>intro h|refine zqq T hC rfl rfl rfl rfl ?_|refine zxd T hC rfl rfl rfl rfl rfl ?_|(rw[J];refine gA 101 2 [(20,.one (.ar 101))] [] ?_;refine zb3 T 102 hC (id:=101) (rows:=[]) (row:=zB ⟨(⟨#[]⟩:UI),(⟨#[]⟩:UI)⟩) (bytes:=32) (List.replicate m (zB ⟨(⟨#[]⟩:UI),(⟨#[]⟩:UI)⟩)) rfl rfl rfl rfl rfl rfl rfl rfl rfl ud (by simp only[tN];omega) (by simp only[tN];omega) rfl rfl rfl ?_)|refine zlC T 103 hC (rows':=[]) rfl rfl rfl rfl ub ue rfl rfl rfl rfl ?_
  exact gW [103]
def lsP(ls:List (List Fld)):PV:= .sl 1 (ls.map λl=>[zw l])
def zjk(ls:List (List Fld))(hn:ls.length<=1000)(ht:ls.flatten.length<=1000000):zh prog 169 [pS (lsP ls)] [] (pS (zw ls.flatten)) []:=by
 have J: ∀i,(ls.take i).flatten.length<=1000000:=λi=>by
  have:ls.flatten=(ls.take i).flatten++(ls.drop i).flatten:=by rw[<-qi,ql]
  rw[this,uQ]at ht;omega
 have hsn: ∀ {i:Nat} {l:List Fld},ls[i]?=some l->(ls.take (i+1)).flatten=(ls.take i).flatten++l:=λh=>by rw[zO h,qi];simp
 refine gFo func169 λC hC=>?_
 repeat' first|refine gG ?_|refine gB ?_ ?_<;>intro h
 rw[uj]
 refine zj (λi:Nat=>i<=ls.length) (λi=>([(0,pS (lsP ls)),(9,pS (lsP ls)),(10,I ls.length),(11,I i),(3,I (ls.take i).flatten.length)],[])) (λi=>ls.length - i) hC
  0 (uD _) id gM ?_
 intro i hi;refine gLc ?_ ?_<;>intro h
 ·have U:i<ls.length:=by simpa using h
  clear h;obtain⟨l,hl⟩:=za U;have h1:=J i;have h2:=J (i+1);have h3:=hsn hl;have hll:((ls.take i).flatten.length:Int)+l.length=((ls.take (i+1)).flatten.length:Nat):=by rw[h3,uQ];omega
  have hw1:IntKind.i64.wrap (((ls.take i).flatten.length:Int)+((l.map zB).length:Nat))=((ls.take (i+1)).flatten.length:Nat):=by rw[uj,hll,wrap64 ua]
  repeat' first|refine gG ?_|(exfalso;rw[hw1]at h;have h5:=uk h;omega)|refine gB ?_ ?_<;>intro h|refine jE T hC (row:=[zw l]) rfl rfl rfl (uL _) (by simp only[tj,uO,hl];rfl) rfl rfl ?_
  rw[wrapN ua,hw1];exact zg (i+1) ua id ua gM
 ·have hge: ¬i<ls.length:=by simpa using h
  clear h;rw[u0 ua];have hG:=zoK ls.flatten.length ht
  repeat' first|refine gG ?_|refine gB ?_ ?_<;>intro h|refine zd ?_|refine gR hG iE ?_
  rw[uj]
  refine zj (λi:Nat=>i<=ls.length) (λi=>([(25,pS (lsP ls)),(26,I ls.length),(27,I i),(6,.one (.ar 150))],[(150,some (.arr 2 ((ls.take i).flatten.map zB)))])) (λi=>ls.length - i) hC
   0 (uD _) (ms [(150,140)]) ⟨rfl,⟨rfl,rfl,rfl,rfl,uh⟩,⟨rfl,uh⟩,rfl,y4 rfl⟩ ?_
  clear hi hge hG;clear i;intro i hi;refine gLc ?_ ?_<;>intro h
  ·have U:i<ls.length:=by simpa using h
   clear h;obtain⟨l,hl⟩:=za U;have h1:=J (i+1);have h3:=hsn hl;have hll:(ls.take i).flatten.length+l.length=(ls.take (i+1)).flatten.length:=by rw[h3,uQ]
   have happ:(ls.take i).flatten.map zB++l.map zB=(ls.take (i+1)).flatten.map zB:=by rw[h3,u5]
   repeat' first|refine gG ?_|refine gB ?_ ?_<;>intro h|refine jE T hC (row:=[zw l]) rfl rfl rfl (uL _) (by simp only[tj,uO,hl];rfl) rfl rfl ?_|refine gY T 151 ((ls.take (i+1)).flatten.map zB) 32 ?_
   rw[wrapN ua];exact zg (i+1) ua (ms [(150,151)]) ua ⟨rfl,⟨rfl,rfl,rfl,rfl,uh⟩,⟨rfl,uh⟩,rfl,y4 rfl⟩
  ·have hge: ¬i<ls.length:=by simpa using h
   clear h;rw[u0 ua];refine gZ 150 [(6,pS (zw ls.flatten))] [] ?_
   repeat' first|refine gG ?_|refine gB ?_ ?_<;>intro h|refine zd ?_
   exact gF
def zcU(a b:List Fld)(ha:a.length<=500000)(hb:b.length<=500000):zh prog 169 [pS (.sl 1 [[zw a],[zw b]])] [] (pS (zw (a++b))) []:=by
 have h:=zjk [a,b] ue ug;rw[show [a,b].flatten=a++b by simp]at h;exact h
abbrev zyh(r:Option Int):S:= .agg [.p (.k (.bool r.isSome)),.p (ki (r.getD 0))]
def ssE(d:zf)(fuel:Int):An (Option Int×Fr)->End
 | .ok (r,fr) m=> .ok (zyh r) (mcR d fuel m 1 7 8 9++frR fr)
 | .flt e m=> .pn (znI e) (mcR d fuel m 1 7 8 9)
 | .out=> .no
abbrev ztH(d:zf)(fuel:Int)(fr:Fr)(l:List Sm)(m:Mc)(r:An (Option Int×Fr)):Prop:=
 FnX prog 233 [.one (.bx 0 0),.one (.bx 5 0),pS (yw l)] (mcR d fuel m 1 2 3 4++frR fr) (ssE d fuel r)
variable {d:zf}{fuel:Int}
set_option maxRecDepth 100000 in
set_option maxHeartbeats 1000000 in
theorem zr9{k:Nat}(ihS: ∀fr l m,ztH d fuel fr l m (ssV d fuel k fr l m))(p:Pr)(a:List Int)(m:Mc):zwn d fuel p a m (rnV d fuel (k+1) p a m):=by
 rw[rnV];by_cases h0:m.calls≥200
 ·rw[uw h0];have hf:=vB 19;refine gFp func188 λC hC=>?_
  repeat' first|refine gG ?_|(exfalso;first|(have h0:=uk h;omega)|(have h0:=uo h;omega))|refine gB ?_ ?_<;>intro h|refine gCN hf id ?_ (ha:=zql)
  exact gUn iN
 rw[ur h0];obtain⟨fr,hfr⟩: ∃fr:Fr,fr=⟨p.params++p.locs,a++List.replicate p.locs.length 0⟩:=⟨_,rfl⟩;obtain⟨m0,hm0⟩: ∃m0:Mc,m0={ m with calls:=m.calls+1 }:=⟨_,rfl⟩;rw[<-hfr,<-hm0];rcases x8 (p:=0<=m.calls/\a.length<=1000000/\p.params.length<=100000/\p.locs.length<=100000) (x:=(ssV d fuel k fr p.body m0).bind λq m=>ifA (0<m.calls/\m.calls<=1000) (.ok (q.1.getD 0) { m with calls:=m.calls - 1 }))with h|⟨⟨hc,hal,hpl,hll⟩,h⟩
 ·rw[h];trivial
 rw[h];clear h;have hS:=ihS fr p.body m0;have hK:=zcU p.params p.locs ua ua;have hC1:=jn a hal;have hw:IntKind.i64.wrap (m.calls+1)=m.calls+1:=wrap64 ua;have hrep:a.map zN++List.replicate p.locs.length [ki 0]=(a++List.replicate p.locs.length 0).map zN:=by simp only[u5,oS,zN]
 subst hfr;cases hr:ssV d fuel k ⟨p.params++p.locs,a++List.replicate p.locs.length 0⟩ p.body m0 with
 |out=>trivial
 |flt er mE=>
  rw[hr]at hS;have hS:yH _ _ _ _ _ _:=hS;subst hm0;refine gFp func188 λC hC=>?_
  repeat' first|refine gG ?_|(exfalso;first|(have h0:=uk h;omega)|(have h0:=uo h;omega))|refine gB ?_ ?_<;>intro h|refine gT ?_|refine gC hK ?_|refine gR hC1 iI ?_|(rw[uj];refine zb3 T 142 hC (id:=141) (rows:=a.map zN) (row:=[ki 0]) (bytes:=8) ((a++List.replicate p.locs.length 0).map zN) rfl rfl rfl rfl rfl rfl rfl hrep rfl ud (by simp only[uj];omega) (by simp only[uj];omega) rfl rfl rfl ?_)
  rw[hw];refine gCN hS iS ?_;exact gUn ig
 |ok q mE=>
  rw[hr]at hS;obtain⟨r,fr2⟩:=q;have hS:zh _ _ _ _ _ _:=hS;simp only[An.bind];rcases x8 (p:=0<mE.calls/\mE.calls<=1000) (x:=An.ok (r.getD 0) { mE with calls:=mE.calls - 1 })with h|⟨hc2,h⟩
  ·rw[h];trivial
  rw[h];have hw2:IntKind.i64.wrap (mE.calls - 1)=mE.calls - 1:=wrap64 ua;subst hm0;refine gFo func188 λC hC=>?_
  repeat' first|refine gG ?_|(exfalso;first|(have h0:=uk h;omega)|(have h0:=uo h;omega))|refine gB ?_ ?_<;>intro h|refine gT ?_|refine gC hK ?_|refine gR hC1 iI ?_|(rw[uj];refine zb3 T 142 hC (id:=141) (rows:=a.map zN) (row:=[ki 0]) (bytes:=8) ((a++List.replicate p.locs.length 0).map zN) rfl rfl rfl rfl rfl rfl rfl hrep rfl ud (by simp only[uj];omega) (by simp only[uj];omega) rfl rfl rfl ?_)
  rw[hw]
  repeat' first|refine gG ?_|refine gB ?_ ?_<;>intro h|refine gR hS iS ?_
  rw[hw2];exact gW [0,1,2,3,4,5,6,107,108,109]
abbrev zfP(d:zf)(fuel:Int)(fr:Fr)(x:Sm)(m:Mc)(r:An (Option Int×Fr)):Prop:=
 FnX prog 260 [.one (.bx 0 0),.one (.bx 5 0),zn (zgp x)] (mcR d fuel m 1 2 3 4++frR fr) (ssE d fuel r)
variable {m:Mc}{res:An (Option Int×Fr)}{x:Sm}
theorem zlE{fr:Fr}{k:Nat}{r:List Sm}(h:ssV d fuel k fr (x::r) m=res)(J:res≠ .out):
 ∃j,k=j+1/\((∃v fr2 m1,sV d fuel j fr x m= .ok (some v,fr2) m1/\res= .ok (some v,fr2) m1)\/(∃fr2 m1,sV d fuel j fr x m= .ok (none,fr2) m1/\ssV d fuel j fr2 r m1=res)\/ ∃er m1,sV d fuel j fr x m= .flt er m1/\res= .flt er m1):=by
 cases k with
 |zero=>rw[ssV]at h;exact absurd h.symm J
 |succ j=>
  refine⟨j,rfl,?_⟩;rw[ssV]at h;cases hx:sV d fuel j fr x m with
  |out=>rw[hx]at h;exact absurd h.symm J
  |flt er m1=>rw[hx]at h;exact .inr (.inr ⟨er,m1,rfl,h.symm⟩)
  |ok q m1=>
   rw[hx]at h;obtain⟨o,fr2⟩:=q;cases o with
   |some v=>exact .inl ⟨v,fr2,m1,rfl,h.symm⟩
   |none=>exact .inr (.inl ⟨fr2,m1,rfl,h⟩)
theorem zqr{fr:Fr}{k:Nat}(h:ssV d fuel k fr [] m=res)(J:res≠ .out):res= .ok (none,fr) m:=by
 cases k with
 |zero=>rw[ssV]at h;exact absurd h.symm J
 |succ j=>rw[ssV]at h;exact h.symm
def ssT(d:zf)(fuel:Int)(l:List Sm)(q:Nat×Nat×Fr×Mc):zb×Tab:=
 ([(0,.one (.bx 0 0)),(1,.one (.bx 5 0)),(10,pS (yw l)),(11,I l.length),(12,I q.1),(6,.one (.bx 1006 0))],
  [(1006,some (.box [.p (.k (.bool false)),.p (ki 0)])),(0,some (.box (mcC d fuel q.2.2.2 1 107 109))),(1,some (.arr 1 (q.2.2.2.g.map zN))),(107,some (.vw [108] 2 (wRows q.2.2.2.ns 0))),(108,some (.bag 1 (jP q.2.2.2.ns))),(109,some (.arr 3 (q.2.2.2.acc.map zgB))),
   (5,some (.box [.p (zw q.2.2.1.vs),.ar 6])),(6,some (.arr 1 (q.2.2.1.va.map zN)))])
theorem zsa{k:Nat}(ihS: ∀j,j<=k-> ∀fr x m,zfP d fuel fr x m (sV d fuel j fr x m))(fr:Fr)(l:List Sm)(m:Mc):ztH d fuel fr l m (ssV d fuel (k+1) fr l m):=by
 obtain⟨res,U⟩: ∃res,ssV d fuel (k+1) fr l m=res:=⟨_,rfl⟩;rw[U];cases res with
 |out=>trivial
 |ok q0 mF=>
  obtain⟨o,frF⟩:=q0;refine gFo func233 λC hC=>?_;refine wG 2 rfl λhlen=>?_;rw[uj]at hlen
  repeat' first|refine gG ?_|refine gB ?_ ?_<;>intro h
  rw[uj]
  refine zj (λq:Nat×Nat×Fr×Mc=>q.1<=l.length/\q.2.1<=k+1/\ssV d fuel q.2.1 q.2.2.1 (l.drop q.1) q.2.2.2= .ok (o,frF) mF) (ssT d fuel l) (λq=>l.length - q.1) hC
   (0,k+1,fr,m) ⟨uD _,uM _,U⟩ (ms [(107,2),(108,3),(109,4)]) ⟨rfl,⟨rfl,rfl,rfl,rfl,rfl,rfl,uh⟩,⟨rfl,rfl,rfl,rfl,rfl,rfl,rfl,rfl,uh⟩,rfl,y4 rfl⟩ ?_
  clear U;rintro⟨i,k1,fr1,m1⟩ ⟨hi,hk,hv⟩;simp only at hi hk hv;refine gLc ?_ ?_<;>intro h
  ·have hlt:i<l.length:=by simpa [ssT]using h
   clear h;obtain⟨x,hx⟩:=za hlt;rw[drop_at hx]at hv;obtain⟨j,rfl,hcase⟩:=zlE hv ue;have hX:=ihS j ua fr1 x m1;rcases hcase with⟨v,fr2,m2,J,hE⟩|⟨fr2,m2,J,hE⟩|⟨er,m2,J,hE⟩
   ·rw[J]at hX;have hX:zh _ _ _ _ _ _:=hX;cases hE
    repeat' first|refine gG ?_|refine gB ?_ ?_<;>intro h|refine gXT ?_|refine gR hX im ?_|refine zk ?_
    exact gW [0,1,2,3,4,5,6,117,118,119]
   ·rw[J]at hX;have hX:zh _ _ _ _ _ _:=hX
    repeat' first|refine gG ?_|refine gB ?_ ?_<;>intro h|refine gXT ?_|refine gR hX im ?_|refine zk ?_
    rw[wrap64 ua];exact zg (i+1,j,fr2,m2) ⟨by simp only;omega,by simp only;omega,hE⟩ (ms [(107,117),(108,118),(109,119)]) (by simp only;omega) ⟨rfl,⟨rfl,rfl,rfl,rfl,rfl,rfl,uh⟩,⟨rfl,rfl,rfl,rfl,rfl,rfl,rfl,rfl,uh⟩,rfl,y4 rfl⟩
   ·cases hE
  ·have hge: ¬i<l.length:=by simpa [ssT]using h
   clear h;rw[uC ua]at hv;cases zqr hv ue
   repeat' first|refine gG ?_|refine gB ?_ ?_<;>intro h|refine zd ?_
   exact gW [0,1,2,3,4,5,6,107,108,109]
 |flt er mF=>
  refine gFp func233 λC hC=>?_;refine wG 2 rfl λhlen=>?_;rw[uj]at hlen
  repeat' first|refine gG ?_|refine gB ?_ ?_<;>intro h
  rw[uj]
  refine zj (λq:Nat×Nat×Fr×Mc=>q.1<=l.length/\q.2.1<=k+1/\ssV d fuel q.2.1 q.2.2.1 (l.drop q.1) q.2.2.2= .flt er mF) (ssT d fuel l) (λq=>l.length - q.1) hC
   (0,k+1,fr,m) ⟨uD _,uM _,U⟩ (ms [(107,2),(108,3),(109,4)]) ⟨rfl,⟨rfl,rfl,rfl,rfl,rfl,rfl,uh⟩,⟨rfl,rfl,rfl,rfl,rfl,rfl,rfl,rfl,uh⟩,rfl,y4 rfl⟩ ?_
  clear U;rintro⟨i,k1,fr1,m1⟩ ⟨hi,hk,hv⟩;simp only at hi hk hv;refine gLc ?_ ?_<;>intro h
  ·have hlt:i<l.length:=by simpa [ssT]using h
   clear h;obtain⟨x,hx⟩:=za hlt;rw[drop_at hx]at hv;obtain⟨j,rfl,hcase⟩:=zlE hv ue;have hX:=ihS j ua fr1 x m1;rcases hcase with⟨v,fr2,m2,J,hE⟩|⟨fr2,m2,J,hE⟩|⟨er,m2,J,hE⟩
   ·cases hE
   ·rw[J]at hX;have hX:zh _ _ _ _ _ _:=hX
    repeat' first|refine gG ?_|refine gB ?_ ?_<;>intro h|refine gXT ?_|refine gR hX im ?_|refine zk ?_
    rw[wrap64 ua];exact zg (i+1,j,fr2,m2) ⟨by simp only;omega,by simp only;omega,hE⟩ (ms [(107,117),(108,118),(109,119)]) (by simp only;omega) ⟨rfl,⟨rfl,rfl,rfl,rfl,rfl,rfl,uh⟩,⟨rfl,rfl,rfl,rfl,rfl,rfl,rfl,rfl,uh⟩,rfl,y4 rfl⟩
   ·rw[J]at hX;have hX:yH _ _ _ _ _ _:=hX;cases hE
    repeat' first|refine gG ?_|refine gB ?_ ?_<;>intro h|refine gXT ?_|refine gCN hX im ?_
    exact gU (zcD (gU (zK ⟨rfl,iz,⟨rfl,rfl,rfl,rfl,rfl,uh⟩,rfl,rfl⟩)))
  ·have hge: ¬i<l.length:=by simpa [ssT]using h
   clear h;rw[uC ua]at hv;cases zqr hv ue
def Mc.tk(m:Mc):Mc:={ m with ticks:=m.ticks+1 }
variable {m1:Mc}{y:Ex}
section
variable {fr:Fr}
def zsb(h:m.ticks≥fuel):zfP d fuel fr x m (.flt 20 m):=by
 have hT:=zlx d fuel m h;refine gFp func260 λC hC=>?_
 repeat' first|refine gG ?_|refine gB ?_ ?_<;>intro h|refine gCN hT id ?_
 exact gUn iN
variable (hT:zh prog 273 [.one (.bx 0 0)] (mcR d fuel m 1 2 3 4) (.tup []) (mcR d fuel m.tk 1 2 3 4))
include hT
def zyi{er:Int}(J:x.op=1\/x.op=2\/x.op=3\/(x.op=5/\x.e.length≠0))(hy:x.e[0]?=some y)(U:wq d fuel fr y m.tk (.flt er m1)):zfP d fuel fr x m (.flt er m1):=by
 have U:yH _ _ _ _ _ _:=U;have hlt:=(uy.1 hy).1;show yH _ _ _ _ _ _;rcases J with J|J|J|⟨J,hne⟩
 all_goals
  refine gFp func260 λC hC=>?_
  repeat' first|refine gG ?_|(exfalso;first|(have h0:=uk h;omega)|(have h0:=uo h;omega))|(exfalso;have h0:=uk h;simp only[uj]at h0;omega)|refine gB ?_ ?_<;>intro h|refine gR hT ir ?_|refine gIt (zx hy) ?_|refine gCN U ig ?_
  exact gUn ig
theorem zyj{a:An Int}(hop:x.op=6)(hy:x.e[0]?=some y)(J:zr3 d fuel fr y m.tk a):zfP d fuel fr x m (a.bind λ_ m=> .ok (none,fr) m):=by
 cases a with
 |out=>trivial
 |ok v m1=>
  have J:zh _ _ _ _ _ _:=J;refine gFo func260 λC hC=>?_
  repeat' first|refine gG ?_|(exfalso;first|(have U:=uk h;omega)|(have U:=uo h;omega))|refine gB ?_ ?_<;>intro h|refine gR hT ir ?_|refine gIt (zx hy) ?_|refine gR J ig ?_
  exact gW [0,1,2,3,4,5,6,107,108,109]
 |flt er m1=>
  have J:yH _ _ _ _ _ _:=J;refine gFp func260 λC hC=>?_
  repeat' first|refine gG ?_|(exfalso;first|(have U:=uk h;omega)|(have U:=uo h;omega))|refine gB ?_ ?_<;>intro h|refine gR hT ir ?_|refine gIt (zx hy) ?_|refine gCN J ig ?_
  exact gUn ig
def zyk(hop: ¬(x.op=1\/x.op=2\/x.op=3\/x.op=4\/x.op=5\/x.op=6)):zfP d fuel fr x m (.ok (none,fr) m.tk):=by
 refine gFo func260 λC hC=>?_
 repeat' first|refine gG ?_|(exfalso;first|(have J:=uk h;omega)|(have J:=uo h;omega))|refine gB ?_ ?_<;>intro h|refine gR hT ir ?_
 exact gW [0,1,2,3,4,5,6,2,3,4]
def zxe(hop:x.op=5)(he:x.e.length=0):zfP d fuel fr x m (.ok (some 0,fr) m.tk):=by
 refine gFo func260 λC hC=>?_
 repeat' first|refine gG ?_|(exfalso;first|(have J:=uk h;omega)|(have J:=uo h;omega))|(exfalso;have J:=uo h;simp only[uj]at J;omega)|refine gB ?_ ?_<;>intro h|refine gR hT ir ?_
 exact gW [0,1,2,3,4,5,6,2,3,4]
def zyl{v:Int}(hop:x.op=5)(hy:x.e[0]?=some y)(J:wq d fuel fr y m.tk (.ok v m1)):zfP d fuel fr x m (.ok (some v,fr) m1):=by
 have hlt:=(uy.1 hy).1;have J:zh _ _ _ _ _ _:=J;refine gFo func260 λC hC=>?_
 repeat' first|refine gG ?_|(exfalso;first|(have U:=uk h;omega)|(have U:=uo h;omega))|(exfalso;have U:=uk h;simp only[uj]at U;omega)|refine gB ?_ ?_<;>intro h|refine gR hT ir ?_|refine gIt (zx hy) ?_|refine gR J ig ?_
 exact gW [0,1,2,3,4,5,6,107,108,109]
def zym{v:Int}{a:An (Option Int×Fr)}(hop:x.op=3)(hy:x.e[0]?=some y)(U:wq d fuel fr y m.tk (.ok v m1))(J:ztH d fuel fr (if v=1 then x.l else x.els) m1 a):zfP d fuel fr x m a:=by
 have U:zh _ _ _ _ _ _:=U;by_cases hv:v=1
 all_goals
  first|rw[uw hv]at J|rw[ur hv]at J
  cases a with
  |out=>trivial
  |ok q m2=>
   obtain⟨r,fr2⟩:=q;have J:zh _ _ _ _ _ _:=J;refine gFo func260 λC hC=>?_
   repeat' first|refine gG ?_|(exfalso;first|(have h0:=uk h;omega)|(have h0:=uo h;omega))|refine gB ?_ ?_<;>intro h|refine gR hT ir ?_|refine gIt (zx hy) ?_|refine gR U ig ?_|refine gR J im ?_
   exact gW [0,1,2,3,4,5,6,117,118,119]
  |flt er m2=>
   have J:yH _ _ _ _ _ _:=J;refine gFp func260 λC hC=>?_
   repeat' first|refine gG ?_|(exfalso;first|(have h0:=uk h;omega)|(have h0:=uo h;omega))|refine gB ?_ ?_<;>intro h|refine gR hT ir ?_|refine gIt (zx hy) ?_|refine gR U ig ?_|refine gCN J im ?_
   exact gUn iz
end
def zh4(l:List Int)(i:Nat)(x y:Int):(l.map zN).set i (setAt (zN y) 0 [ki x])=(l.set i x).map zN:=by
 rw[Ul];rfl
def zxW(l:Nat)(field:Int):Prop:=field<0\/(l:Int)<=field
instance (l:Nat) (field:Int):Decidable (zxW l field):=by unfold zxW;infer_instance
section
variable {fr:Fr}
variable (hT:zh prog 273 [.one (.bx 0 0)] (mcR d fuel m 1 2 3 4) (.tup []) (mcR d fuel m.tk 1 2 3 4))
include hT
theorem zyn{v:Int}(hop:x.op=1)(hy:x.e[0]?=some y)(U:wq d fuel fr y m.tk (.ok v m1)):zfP d fuel fr x m (stV d fr x.s v m1):=by
 have U:zh _ _ _ _ _ _:=U;unfold stV;cases hi:ixF fr.vs x.s with
 |some i=>
  have hI:=xm hi;simp only;rcases x8 (p:=i<fr.va.length) (x:=(.ok (none,{ fr with va:=fr.va.set i v }) m1:An (Option Int×Fr)))with h|⟨J,h⟩
  ·rw[h];trivial
  rw[h];obtain⟨u,hu⟩:=za J;refine gFo func260 λC hC=>?_
  repeat' first|refine gG ?_|(exfalso;first|(have h0:=uk h;omega)|(have h0:=uo h;omega))|refine gB ?_ ?_<;>intro h|refine gR hT ir ?_|refine gIt (zx hy) ?_|refine gR U ig ?_|refine gC hI ?_|refine jz T hC (rows:=fr.va.map zN) rfl rfl rfl rfl (uL _) (by rw[uj];omega) rfl rfl ?_|refine zdM T hC i 0 (rows:=fr.va.map zN) (row:=zN u) (us:=[ki v]) (rows':=(fr.va.set i v).map zN) rfl rfl rfl rfl rfl rfl rfl (by rw[uO,hu];rfl) (uM 1) (zh4 _ _ _ _) rfl ?_
  exact gW [0,1,2,3,4,5,6,107,108,109]
 |none=>
  have hI:=wR hi;simp only;rcases zcT (o:=ixF d.globals x.s) (f:=λi=>ifA (i<m1.g.length) (zcq m1 2 0 i λm=>(.ok (none,fr) { m with g:=m.g.set i v }:An (Option Int×Fr))))with h|⟨i,hj,h⟩
  ·rw[h];trivial
  rw[h];rcases x8 (p:=i<m1.g.length) (x:=zcq m1 2 0 i λm=>(.ok (none,fr) { m with g:=m.g.set i v }:An (Option Int×Fr)))with h|⟨J,h⟩
  ·rw[h];trivial
  rw[h];rcases zb2 (m:=m1) (k:=2) (n:=0) (f:=i) (c:=λm=>(.ok (none,fr) { m with g:=m.g.set i v }:An (Option Int×Fr)))with h|⟨h7,h⟩
  ·rw[h];trivial
  rw[h];have hJ:=xm hj;have hA:=jc d fuel m1 2 0 i h7;obtain⟨u,hu⟩:=za J;refine gFo func260 λC hC=>?_
  repeat' first|refine gG ?_|(exfalso;first|(have h0:=uk h;omega)|(have h0:=uo h;omega))|refine gB ?_ ?_<;>intro h|refine gR hT ir ?_|refine gIt (zx hy) ?_|refine gR U ig ?_|refine gC hI ?_|refine gC hJ ?_|refine gR hA iQ ?_|refine jz T hC (rows:=m1.g.map zN) rfl rfl rfl rfl (uL _) (by rw[uj];omega) rfl rfl ?_|refine zdM T hC i 0 (rows:=m1.g.map zN) (row:=zN u) (us:=[ki v]) (rows':=(m1.g.set i v).map zN) rfl rfl rfl rfl rfl rfl rfl (by rw[uO,hu];rfl) (uM 1) (zh4 _ _ _ _) rfl ?_
  exact gW [0,1,2,3,4,5,6,107,108,119]
def zxf{z:Ex}{m2:Mc}{n er:Int}(hop:x.op=2)(hy:x.e[0]?=some y)(J:wq d fuel fr y m.tk (.ok n m1))(hz:x.e[1]?=some z)(U:wq d fuel fr z m1 (.flt er m2)):zfP d fuel fr x m (.flt er m2):=by
 have J:zh _ _ _ _ _ _:=J;have U:yH _ _ _ _ _ _:=U;refine gFp func260 λC hC=>?_
 repeat' first|refine gG ?_|(exfalso;first|(have h0:=uk h;omega)|(have h0:=uo h;omega))|refine gB ?_ ?_<;>intro h|refine gR hT ir ?_|refine gIt (zx hy) ?_|refine gIt (yB hz) ?_|refine gR J ig ?_|refine gCN U im ?_
 exact gUn iz
set_option maxRecDepth 100000 in
set_option maxHeartbeats 1000000 in
def zyo{z:Ex}{m2:Mc}{n v:Int}(hop:x.op=2)(hy:x.e[0]?=some y)(hX:wq d fuel fr y m.tk (.ok n m1))(hz:x.e[1]?=some z)(hZ:wq d fuel fr z m1 (.ok v m2)):zfP d fuel fr x m (ptV d fr x.s n v m2):=by
 have hX:zh _ _ _ _ _ _:=hX;have hZ:zh _ _ _ _ _ _:=hZ;unfold ptV;by_cases h0:n=0
 ·rw[uw h0];subst h0;have hf:=vB 17;refine gFp func260 λC hC=>?_
  repeat' first|refine gG ?_|(exfalso;first|(have h0:=uk h;omega)|(have h0:=uo h;omega))|exact gD|refine gB ?_ ?_<;>intro h|refine gR hT ir ?_|refine gIt (zx hy) ?_|refine gIt (yB hz) ?_|refine gR hX ig ?_|refine gR hZ im ?_|refine gCN hf id ?_ (ha:=zql)
  exact gUn iz
 rw[ur h0];rcases zqm (d:=d) (v:=n) (s:=x.s) (m:=m2) (c:=λx i=>ifA (i<x.f.length) (zcq m2 2 n i λm=>(.ok (none,fr) { m with ns:=m.ns.set (n - 1).toNat ⟨x.t,x.f.set i v⟩ }:An (Option Int×Fr))))with h|⟨y1,t,i,h1,h2,h3,h4,h5,h⟩
 ·rw[h];trivial
 rw[h];rcases x8 (p:=i<y1.f.length) (x:=zcq m2 2 n i λm=>(.ok (none,fr) { m with ns:=m.ns.set (n - 1).toNat ⟨y1.t,y1.f.set i v⟩ }:An (Option Int×Fr)))with h|⟨hil,h⟩
 ·rw[h];trivial
 rw[h];rcases zb2 (m:=m2) (k:=2) (n:=n) (f:=i) (c:=λm=>(.ok (none,fr) { m with ns:=m.ns.set (n - 1).toNat ⟨y1.t,y1.f.set i v⟩ }:An (Option Int×Fr)))with h|⟨h7,h⟩
 ·rw[h];trivial
 rw[h];have hF:=zqn (fuel:=fuel) h1.1 h2 h3 h4 h5;have hA:=jc d fuel m2 2 n i h7;have hlt:(n - 1).toNat<m2.ns.length:=(uy.1 h2).1;have hwl:=yi m2.ns 0;have hw1:IntKind.i64.wrap (n - 1)=n - 1:=wrap64 ua;have hset:=zkG m2.ns h2 (y1.f.set i v);have hbs:=zon m2.ns (n - 1).toNat y1 (y1.f.set i v);refine gFo func260 λC hC=>?_
 repeat' first|refine gG ?_|(exfalso;first|(have h0:=uk h;omega)|(have h0:=uo h;omega))|refine gB ?_ ?_<;>intro h|refine gR hT ir ?_|refine gIt (zx hy) ?_|refine gIt (yB hz) ?_|refine gR hX ig ?_|refine gR hZ im ?_|refine gK hF (nm [0,1,117,118,119]) ?_|refine gR hA (nm [0,1,117,118,119,5,6,7,8,129]) ?_|(refine zkC T hC rfl rfl rfl rfl (by rw[hw1];omega) (by rw[hw1,hwl];omega) rfl rfl ?_;rw[hw1])|refine zgb T hC [.nv 118 (n - 1).toNat] rfl rfl rfl (wF h2) rfl rfl rfl ?_|refine zp9 T hC rfl rfl rfl (zbO h2) rfl (uL _) (by rw[uj];omega) rfl rfl ?_|refine zoi T hC ((y1.f.set i v).map zN) (us:=[ki v]) rfl rfl rfl rfl rfl rfl (zbO h2) ue (zdC _) ug (zkH _ _ _) rfl ?_
 refine zK ⟨.inl rfl,nm [0,1,2,3,4,5,6,117,118,129],_,rfl,.refl _,⟨rfl,rfl,?_,?_,rfl,rfl,rfl,uh⟩,rfl,rfl⟩
 ·exact u7 (λr=>some (Res.vw [118] 2 r)) hset.symm
 ·exact u7 (λb=>some (Res.bag 1 b)) hbs
end
end Hw.Gm
