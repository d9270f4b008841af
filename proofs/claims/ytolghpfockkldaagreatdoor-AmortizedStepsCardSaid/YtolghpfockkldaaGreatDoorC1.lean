import Derived.Test.YtolghpfockkldaaGreatDoorE3
import Derived.Laws.IdiomCopy
import Derived.Laws.IdiomStrings
import Derived.Laws.Slices
import Derived.Below
import Derived.Laws.StructEq
import Derived.Laws.Strings3
import Derived.Laws.DeepStrings4
import Derived.KernelRfl
import Derived.Test.YtolghpfockkldaaGreatDoorProg
import Derived.Test.YtolghpfockkldaaGreatDoorE2
import Derived.WalkSmall
set_option linter.defProp false
set_option linter.unusedVariables false
set_option linter.unusedSimpArgs false
set_option linter.unusedSectionVars false
set_option linter.unnecessarySimpa false
namespace Hw
open Go
variable {P:Program}{af:Array Edge}{d:Option Nat}{g:Option (Nat×Bool)}{ps:String}{t t':TypeId}{x y:Operand}
section
variable {ty:TypeId}
def zto{k:IntKind}{n m:Int}(J:m≠0)(U:okc x (Kk k n))(hy:okc y (Kk k m)):
 Snd P ⟨d,.binOp .rem t x y t',ty,ps,af,g⟩ (rq x (Kk k n)++rq y (Kk k m)) [] [] (Kk k (n.tmod m)) []:=
 zi0 U hy rfl λw=>⟨rfl,by rw[binOp_rem];simp[Op.intDiv,J]⟩
def ztp{k:IntKind}{n m:Int}(J:m≠0)(U:okc x (Kk k n))(hy:okc y (Kk k m)):
 Snd P ⟨d,.binOp .quo t x y t',ty,ps,af,g⟩ (rq x (Kk k n)++rq y (Kk k m)) [] [] (Kk k (k.wrap (n.tdiv m))) []:=
 zi0 U hy rfl λw=>⟨rfl,by rw[binOp_quo];simp[Op.intDiv,J]⟩
end
variable {C:Ctx}{Q:Exit->St->Prop}{all:Array Oper}{cur:Cur}{g0:Option (Nat×Bool)}{gs:zd}{k0:IntKind}{md:Mode}{rest:List Oper}{tab:Tab}
section
variable {k:List Frm} {n:Nat} {sl:zd}
def zfY{d:Nat}{ty:TypeId}(hC:C.low){a m:Int}
 (J:ev sl x=some (Kk k0 a)) (U:ev sl y=some (Kk k0 m)) (h0:m≠0) (hm:metL all sl g0=some gs) (hd:Nat.blt d n=true)
 (g:Goal P C (.ops all rest (nx md ⟨some d,gs++(rq x (Kk k0 a)++rq y (Kk k0 m)),[],[],Kk k0 (a.tmod m),[]⟩)) k n ((d,Kk k0 (a.tmod m))::sl) tab Q):
 Goal P C (.ops all (⟨some d,.binOp .rem t x y t',ty,ps,af,g0⟩::rest) md) k n sl tab Q:=by
 have e1:=zu (st:=⟨n,sl,tab⟩) J;have e2:=zu (st:=⟨n,sl,tab⟩) U;have:=zj hm (zto (P:=P) (ty:=ty) (ps:=ps) (af:=af) (g:=g0) (d:=some d) (t:=t) (t':=t') h0 e1.1 e2.1) (n:=n) (tab:=tab);exact zN (L:=⟨some d,gs++(rq x (Kk k0 a)++rq y (Kk k0 m)),[],[],Kk k0 (a.tmod m),[]⟩) hC this.1 rfl ⟨by rw[za,za];simp_all,trivial,rfl,hd⟩ g
def zew{d:Nat}{ty:TypeId}(hC:C.low){a m:Int}
 (J:ev sl x=some (Kk k0 a)) (U:ev sl y=some (Kk k0 m)) (h0:m≠0) (hm:metL all sl g0=some gs) (hd:Nat.blt d n=true)
 (g:Goal P C (.ops all rest (nx md ⟨some d,gs++(rq x (Kk k0 a)++rq y (Kk k0 m)),[],[],Kk k0 (k0.wrap (a.tdiv m)),[]⟩)) k n ((d,Kk k0 (k0.wrap (a.tdiv m)))::sl) tab Q):
 Goal P C (.ops all (⟨some d,.binOp .quo t x y t',ty,ps,af,g0⟩::rest) md) k n sl tab Q:=by
 have e1:=zu (st:=⟨n,sl,tab⟩) J;have e2:=zu (st:=⟨n,sl,tab⟩) U;have:=zj hm (ztp (P:=P) (ty:=ty) (ps:=ps) (af:=af) (g:=g0) (d:=some d) (t:=t) (t':=t') h0 e1.1 e2.1) (n:=n) (tab:=tab);exact zN (L:=⟨some d,gs++(rq x (Kk k0 a)++rq y (Kk k0 m)),[],[],Kk k0 (k0.wrap (a.tdiv m)),[]⟩) hC this.1 rfl ⟨by rw[za,za];simp_all,trivial,rfl,hd⟩ g
end
variable {f:FuncId}
theorem znH{a v:Value}(U:jC P f)(h: ∀w:World,Calls P f #[a] w λe w'=>e= .returned v/\w'=w)(h1:v.oneCell'=true):zf P f [.one (.p (.k a))] [] (.one (.p (.k v))) []:=by
 refine⟨U,λM ρ w xs J _ hI _=>?_⟩
 match xs,J with
 | [x],J=>
   simp only[RepSs,RepS,RepV,RepPV]at J;obtain⟨⟨rfl,_⟩,_⟩:=J;refine(h w).mono λe w' ⟨he,hw⟩=>?_;subst hw;refine⟨v,M,ρ,he,by simp only[RepS,RepV,RepPV];exact⟨uh,h1⟩,⟨λ_ _ h=>(by cases h),λ_ _ _ _ _ h=>(by cases h),λ_ _ _ h=>(by cases h)⟩,hI,MLe.refl M,λb o u hu=> .inl hu,λb hb=>?_,λb _ _=>rfl,uJ _,rfl,rfl,rfl,λid hid=>rfl⟩;obtain⟨i,r,h,_⟩:=hb;cases h
 | [],J=>simp[RepSs]at J
 |_::_::_,J=>simp[RepSs]at J
def GOw(w:World):Prop:=GOn w/\(∀b∈G1,∃m:Int,w.cell? ⟨b,0,none⟩=some (.int .i64 m))/\ ∀p∈G2,∃el fz,w.heap[p.1]?=some (.cells p.2 el fz)
variable {M:Mem}{w:World}
def ztq(U:Imm M w)(J:GOk M w):GOw w:=⟨λb o u hu=>U b o u (J.le b o u hu),λb hb=>let ⟨m,hm⟩:=J.op b hb;⟨m,U _ _ _ hm⟩,J.gb⟩
theorem zex{M:Mem}{ρ:Nat->Value}: ∀ {av xs:List Value},RepSs M ρ (av.map λa=> .one (.p (.k a))) xs->xs=av
 | [],[],_=>rfl
 | [],_::_,h=>by simp[RepSs]at h
 |_::_,[],h=>by simp[RepSs]at h
 |a::r,x::xs,h=>by
  simp only[uN,RepSs,RepS,RepV,RepPV]at h;rw[h.1.1,zex h.2]
def zht{av:List Value}{v:Value}(U:jC P f)(h: ∀w:World,GOw w->Calls P f av.toArray w λe w'=>e= .returned v/\w'=w)(h1:v.oneCell'=true):
 zf P f (av.map λa=> .one (.p (.k a))) [] (.one (.p (.k v))) []:=by
 refine⟨U,λM ρ w xs hx _ J hG=>?_⟩;obtain rfl:=zex hx;refine(h w (ztq J hG)).mono λe w' ⟨he,hw⟩=>?_;subst hw;refine⟨v,M,ρ,he,by simp only[RepS,RepV,RepPV];simp_all,⟨λ_ _ h=>(by cases h),λ_ _ _ _ _ h=>(by cases h),λ_ _ _ h=>(by cases h)⟩,J,MLe.refl M,λb o u hu=> .inl hu,λb hb=>?_,λb _ _=>rfl,uJ _,rfl,rfl,rfl,λid hid=>rfl⟩
 simp_all
variable {res:S}{ρ:Nat->Value}
def zj3{w':World}{v:Value}(hI:Imm M w)(J:RowKit.Below w.heap.size w w')(hr:RepS M ρ res v):Ret M ρ w [] res [] v M ρ w':=
 ⟨hr,⟨λ_ _ h=>(by cases h),λ_ _ _ _ _ h=>(by cases h),λ_ _ _ h=>(by cases h)⟩,λb o u U=>by rw[cell_of_heap (J.block b (jK (hI b o u U)))];exact hI b o u U,MLe.refl M,λb o u U=> .inl U,
   λb ⟨_,_,h,_⟩=>(by cases h),λb h _=>J.block b h,J.size,J.os,J.tape,J.output,λ_ _=>rfl⟩
section
variable {ty:TypeId}
theorem zcH.bs{e id n:Nat}{tx el:TypeId}{rows:List (List PV)}{vs:List V}(h:elemSz P tx=some (el,e))(hv:vs.take (n*e)=rows.flatten.map V.p)(hl: ∀r∈rows,r.length=e)(hn:rows.length=n):zcH P e tx (.one (.bs id 0 n)) [(id,.box vs)] rows:=by
 intro C st M ρ a w v hH J hT;obtain⟨_,hu,_,_⟩:=zw h;simp only[RepS,RepV]at J;obtain⟨b,c,f1,rfl,_⟩:=J;obtain⟨b',cs,el',g1,g2,g3⟩:=hH.zH.res id _ hT.1;rw[f1]at g1;simp only[Value.pointer.injEq,ui,Addr.mk.injEq]at g1;obtain⟨rfl,_⟩:=g1;have U:=g3.take (n*e);rw[hv]at U;subst hn;refine⟨cs.take (rows.length*e),Src.ofSlice w hu ⟨b,0,none⟩ rows.length c _ ?_ (λj u hj=>?_) U.one,U,hl⟩
 ·rw[U.length,uk,List.length_flatten]
  have:(rows.map List.length)=List.replicate rows.length e:=by
   rw[List.eq_replicate_iff];exact⟨by rw[uk],λq hq=>by obtain⟨r,J,rfl⟩:=qe.1 hq;exact hl r J⟩
  simp_all
 ·rw[ye,tM];rw[qL]at hj;split at hj
  ·simp[World.cell?,g2,hj]
  ·cases hj
end
section
variable {k:List Frm} {n:Nat} {sl:zd}
def zdi{d:Nat}{ty:TypeId}(hC:C.low){a:Int}
 (J:ev sl x=some (Kk k0 a)) (U:metL all sl g0=some gs) (hd:Nat.blt d n=true)
 (g:Goal P C (.ops all rest (nx md ⟨some d,gs++rq x (Kk k0 a),[],[],Kk k0 (k0.wrap (0 - a)),[]⟩)) k n ((d,Kk k0 (k0.wrap (0 - a)))::sl) tab Q):
 Goal P C (.ops all (⟨some d,.unOp .neg t x,ty,ps,af,g0⟩::rest) md) k n sl tab Q:=by
 have e1:=zu (st:=⟨n,sl,tab⟩) J;have:=zj U (zwc (P:=P) (ty:=ty) (ps:=ps) (af:=af) (g:=g0) (d:=some d) (t:=t) e1.1) (n:=n) (tab:=tab);exact zN (L:=⟨some d,gs++rq x (Kk k0 a),[],[],Kk k0 (k0.wrap (0 - a)),[]⟩) hC this.1 rfl ⟨by rw[za];simp_all,trivial,rfl,hd⟩ g
end
variable {el:TypeId}{ss:List S}{vparts:List (Nat×List V)}
section
variable {ty:TypeId}
def znI{l:List (Nat×Operand)}{zs vs:List V}{len e:Nat}
 (hx:zes (l.map (·.2)) ss) (ht:P.underlying t=some (.array len el)) (he:(P.info? el).map (·.size)=some e) (hz:zeroV P t=some zs) (hv:zipParts (l.map (·.1)) ss=some vparts) (hf:fillV (λi=>some (i*e,e)) zs vparts=some vs):
 Snd P ⟨d,.build t l.toArray,ty,ps,af,g⟩ (rqs (l.map (·.2)) ss) [] [] (.agg vs) []:=
 zk λC st M ρ a w hH h1 _=>by
  have e:=hH.zhu (wU hx h1);obtain⟨h2,h3⟩:=wu hv e;obtain⟨zv,U,hz2,_⟩:=xD hz M ρ w
  have hzip:l.map (λp=>(p.1,a.eval p.2))=(l.map (·.1)).zip ((l.map (·.2)).map a.eval):=by
   rw[q7];simp[oS]
  obtain⟨out,h4,h5⟩:=j3 _ vparts zs vs zv.cells hz2 h2 h3 hf;obtain⟨ii,J,hsz⟩:=uR.1 he;refine⟨.agg out,?_,by simp only[RepS];grind⟩;simp only[execOp,Instr.build,Sem.run_bind,U,Result.andThen_ok,run_underlying ht,run_sizeOf J,hsz]
  simp_all
end
section
variable {k:List Frm} {n:Nat} {sl:zd}
def znJ{d:Nat}{l:List (Nat×Operand)}{ty:TypeId}(hC:C.low){zs vs:List V}{len e:Nat}
 (J:evs sl (l.map (·.2))=some ss) (U:P.underlying t=some (.array len el)) (he:(P.info? el).map (·.size)=some e) (hz:zeroV P t=some zs) (hv:zipParts (l.map (·.1)) ss=some vparts) (hf:fillV (λi=>some (i*e,e)) zs vparts=some vs) (hm:metL all sl g0=some gs) (hd:Nat.blt d n=true)
 (g:Goal P C (.ops all rest (nx md ⟨some d,gs++rqs (l.map (·.2)) ss,[],[],.agg vs,[]⟩)) k n ((d,.agg vs)::sl) tab Q):
 Goal P C (.ops all (⟨some d,.build t l.toArray,ty,ps,af,g0⟩::rest) md) k n sl tab Q:=by
 have e2:=xl (st:=⟨n,sl,tab⟩) J;have:=zj hm (znI (ty:=ty) (ps:=ps) (af:=af) (g:=g0) (d:=some d) e2.1 U he hz hv hf) (n:=n) (tab:=tab);exact zN (L:=⟨some d,gs++rqs (l.map (·.2)) ss,[],[],.agg vs,[]⟩) hC this.1 rfl ⟨by rw[za];simp_all,trivial,rfl,hd⟩ g
end
mutual
inductive LP:PV->PV->Prop
 |refl (p:PV):LP p p
 |nil (e:Nat):LP (.k (.slice none 0 0)) (.sl e [])
 |sl {e:Nat} {rows rows':List (List PV)} (h:LRs rows rows'):LP (.sl e rows) (.sl e rows')
inductive LRs:List (List PV)->List (List PV)->Prop
 |nil:LRs [] []
 |cons {r r':List PV} {rs rs':List (List PV)} (h:LR r r') (hs:LRs rs rs'):LRs (r::rs) (r'::rs')
inductive LR:List PV->List PV->Prop
 |nil:LR [] []
 |cons {p p':PV} {ps ps':List PV} (h:LP p p') (hs:LR ps ps'):LR (p::ps) (p'::ps')
end
theorem LR.len{r r':List PV}:LR r r'->r'.length=r.length
 | .nil=>rfl
 | .cons _ hs=>by rw[uW,uW,LR.len hs]
theorem LRs.len{r r':List (List PV)}:LRs r r'->r'.length=r.length
 | .nil=>rfl
 | .cons _ hs=>by rw[uW,uW,LRs.len hs]
mutual
theorem LP.rep{M:Mem}{p q:PV}{v:Value}:LP p q->RepPV M p v->RepPV M q v
 | .refl _,h=>h
 | .nil e,h=>by
   simp only[RepPV]at h⊢
   simp_all
 | .sl hr,h=>by
   simp only[RepPV]at h⊢;obtain⟨a,cap,h1,h2,h3,h4⟩:=h;rw[hr.len];refine⟨a,cap,h1,h2,h3,?_⟩;rcases h4 with h4|⟨b,o,h4,h5⟩
   ·left;have:=hr.len
    simp_all
   ·exact .inr ⟨b,o,h4,LRs.rep hr h5⟩
theorem LRs.rep{M:Mem}{g:Nat->Option Value}{e o:Nat}{rows rows':List (List PV)}:LRs rows rows'->RowsIn M g e rows o->RowsIn M g e rows' o
 | .nil,h=>h
 | .cons hr hs,h=>by
   simp only[RowsIn]at h⊢;exact⟨hr.len.trans h.1,LR.rep hr h.2.1,LRs.rep hs h.2.2⟩
theorem LR.rep{M:Mem}{g:Nat->Option Value}{o:Nat}{r r':List PV}:LR r r'->RowIn M g r o->RowIn M g r' o
 | .nil,h=>h
 | .cons hp hs,h=>by
   simp only[RowIn]at h⊢;obtain⟨⟨c,c1,c2⟩,h2⟩:=h;exact⟨⟨c,c1,LP.rep hp c2⟩,LR.rep hs h2⟩
end
inductive Sc where
 |i (k:IntKind) (n:Int)
 |s (b:ByteArray)
 deriving DecidableEq
def Sc.v:Sc->Value
 | .i k n=> .int k n
 | .s b=> .string b
def Sc.V(c:Sc):V:= .p (.k c.v)
inductive SK where
 |i (k:IntKind)
 |s
def okSK:SK->Sc->Bool
 | .i k,.i k' _=>decide (k=k')
 | .s,.s _=>true
 |_,_=>false
def okSKs:List SK->List Sc->Bool
 | [],[]=>true
 |k::ks,c::cs=>okSK k c&&okSKs ks cs
 |_,_=>false
def isStc(P:Program)(t:TypeId):Bool:=match P.underlying t with
 |some (.struct _)=>true
 |_=>false
def eqFs(P:Program)(r:TypeId->Option (List SK)):List Field->Nat->Option (List SK)
 | [],_=>some []
 |f::fs,off=>match decide (f.name≠ "_")&&Nat.beq f.offset off with
  |true=>match r f.type with
   |some l=>match !isStc P f.type||decide ((P.info? f.type).map (·.size)=some l.length)with
    |true=>match eqFs P r fs (off+l.length)with
     |some l'=>some (l++l')
     |none=>none
    |false=>none
   |none=>none
  |false=>none
def eqSh(P:Program):Nat->TypeId->Option (List SK)
 |0,_=>none
 |f+1,t=>match P.underlying t with
  |some (.int k)=>some [.i k]
  |some .string=>some [.s]
  |some (.struct fs)=>match P.stoodInHeld t with
   |true=>none
   |false=>eqFs P (eqSh P f) fs.toList 0
  |_=>none
theorem vV: ∀ {l:List SK} {cs:List Sc},okSKs l cs=true->cs.length=l.length
 | [],[],_=>rfl
 | [],_::_,h=>by simp[okSKs]at h
 |_::_,[],h=>by simp[okSKs]at h
 |k::ks,c::cs,h=>by simp only[okSKs,um]at h;simp[vV h.2]
theorem jL: ∀ {l l':List SK} {cs:List Sc},okSKs (l++l') cs=true->okSKs l (cs.take l.length)=true/\okSKs l' (cs.drop l.length)=true
 | [],_,cs,h=>by simp only[tR]at h;simp[okSKs,h]
 |_::_,_,[],h=>by simp[okSKs]at h
 |k::ks,l',c::cs,h=>by
  simp only[uL,okSKs,um]at h;have:=jL h.2;simp only[uW,tW,List.drop_succ_cons,okSKs,h.1,this.1,this.2,Bool.and_self,and_self]
def valSc(P:Program)(t:TypeId)(cs:List Sc):Value:=if isStc P t=true then .agg (cs.map Sc.v).toArray else match cs with
 |c::_=>c.v
 | []=>undef
theorem zi1: ∀(f:Nat) (t:TypeId) (l:List SK),eqSh P f t=some l-> ∀(d:Nat),f<=d-> ∀(a b:List Sc),okSKs l a=true->okSKs l b=true-> ∀w:World,
 (Op.equalIn d t (valSc P t a) (valSc P t b)).run P w= .ok (decide (a=b)) w:=by
 intro f
 induction f with
 |zero=>intro t l h;cases h
 |succ f ih=>
 intro t l h d hd a b U hb w;obtain⟨d,rfl⟩: ∃d',d=d'+1:=⟨d - 1,ua⟩;simp only[eqSh]at h;split at h
 ·rename_i k hu;simp only[ui]at h;subst h
  match a,b,U,hb with
  | [.i k1 x],[.i k2 y],U,hb=>
    simp only[okSKs,okSK,qh,uq]at U hb;subst U;subst hb;have hs:isStc P t=false:=by simp[isStc,hu]
    simp only[valSc,hs,uB,uM,Sc.v];rw[run_equalIn_int w d t k k x y hu];by_cases e:x=y
    ·subst e;simp
    ·simp[e]
  | [.s _],_,U,_=>simp[okSKs,okSK]at U
  | [],_,U,_=>simp[okSKs]at U
  |_::_::_,_,U,_=>simp[okSKs]at U
  | [.i _ _],[.s _],_,hb=>simp[okSKs,okSK]at hb
  | [.i _ _],[],_,hb=>simp[okSKs]at hb
  | [.i _ _],_::_::_,_,hb=>simp[okSKs]at hb
 ·rename_i hu;simp only[ui]at h;subst h
  match a,b,U,hb with
  | [.s x],[.s y],U,hb=>
    have hs:isStc P t=false:=by simp[isStc,hu]
    simp only[valSc,hs,uB,uM,Sc.v];rw[run_equalIn_string w d t x y hu,<-beq_toListBytes,zhv];by_cases e:x=y
    ·subst e;simp
    ·simp[e]
  | [.i _ _],_,U,_=>simp[okSKs,okSK]at U
  | [],_,U,_=>simp[okSKs]at U
  |_::_::_,_,U,_=>simp[okSKs]at U
  | [.s _],[.i _ _],_,hb=>simp[okSKs,okSK]at hb
  | [.s _],[],_,hb=>simp[okSKs]at hb
  | [.s _],_::_::_,_,hb=>simp[okSKs]at hb
 ·rename_i fs hu;split at h
  ·cases h
  ·rename_i hst;have hF:P.fieldsOf t=fs:=by simp[Program.fieldsOf,hu]
   have hs:isStc P t=true:=by simp[isStc,hu]
   simp only[valSc,hs,uX];rw[run_equalIn_agg w d t _ _ (by rw[hF];exact hu) hst,hF]
   -- field by field
   have key: ∀(fl:List Field) (off:Nat) (l':List SK),eqFs P (eqSh P f) fl off=some l'-> ∀a0 b0:List Sc,off<=a0.length->off<=b0.length->okSKs l' (a0.drop off)=true->okSKs l' (b0.drop off)=true->
    (Op.eqFields d (a0.map Sc.v).toArray (b0.map Sc.v).toArray fl).run P w= .ok (decide (a0.drop off=b0.drop off)) w:=by
    intro fl
    induction fl with
    |nil=>
     intro off l' hl a0 b0 _ _ h1 h2;simp only[eqFs,ui]at hl;subst hl;have e1:a0.drop off=[]:=tr (vV h1);have e2:b0.drop off=[]:=tr (vV h2);simp[Op.eqFields,e1,e2]
    |cons fd fl ihf=>
     intro off l' hl a0 b0 ho1 ho2 h1 h2;simp only[eqFs]at hl;split at hl
     ·rename_i hname;simp only[um,uq]at hname;have hoff:=uA hname.2;split at hl
      ·rename_i lf J;split at hl
       ·rename_i hsz;split at hl
        ·rename_i lr hlr;simp only[ui]at hl;subst hl;obtain⟨a1,a2⟩:=jL h1;obtain⟨b1,b2⟩:=jL h2;have al:=vV a1;have bl:=vV b1;simp only[tj,tA]at al bl
         have hpart: ∀c0:List Sc,off+lf.length<=c0.length->okSKs lf ((c0.drop off).take lf.length)=true->(part fd.type (c0.map Sc.v).toArray fd.offset).run P w= .ok (valSc P fd.type ((c0.drop off).take lf.length)) w:=λc0 hc0 hok=>by
          rw[hoff];cases hstr:isStc P fd.type with
          |true=>
           obtain⟨fs',hu'⟩: ∃fs',P.underlying fd.type=some (.struct fs'):=by
            unfold isStc at hstr;split at hstr
            ·rename_i fs' e;exact⟨fs',e⟩
            ·cases hstr
           rw[hstr]at hsz;simp only[qm,tw,uq,uR]at hsz;obtain⟨ii,hii,hsz⟩:=hsz;simp only[part,isAgg,Sem.run_bind,run_underlying hu',Result.andThen_ok,Sem.run_pure,uX,run_sizeOf hii,hsz,valSc,hstr]
           congr 2
           apply Array.ext'
           simp only[Up,oP,qo,oU];rw[Nat.add_sub_cancel_left]
          |false=>
           have hna:(isAgg fd.type).run P w= .ok false w:=by
            cases f with
            |zero=>cases J
            |succ f'=>
             simp only[eqSh]at J;split at J
             ·rename_i hu';simp[isAgg,run_underlying hu']
             ·rename_i hu';simp[isAgg,run_underlying hu']
             ·rename_i hu';simp[isStc,hu']at hstr
             ·cases J
           have h1l:lf.length=1:=by
            cases f with
            |zero=>cases J
            |succ f'=>
             simp only[eqSh]at J;split at J
             ·simp only[ui]at J;subst J;rfl
             ·simp only[ui]at J;subst J;rfl
             ·rename_i hu';simp[isStc,hu']at hstr
             ·cases J
           obtain⟨c,hc⟩: ∃c,c0[off]?=some c:=⟨c0[off]'ua,th ua⟩
           have ht:(c0.drop off).take lf.length=[c]:=by
            rw[h1l,List.take_one,List.head?_drop,hc];rfl
           simp only[part,Sem.run_bind,hna,Result.andThen_ok,uB,uM,tq,uK,hc,uH,Sem.run_pure,ht,valSc,hstr]
         have hq:=ih fd.type lf J d ua _ _ a1 b1 w;simp only[Op.eqFields,uw hname.1,Sem.run_bind,hpart a0 ua a1,hpart b0 ua b1,hq,Result.andThen_ok,Sem.run_ite]
         have hcat: ∀c0:List Sc,c0.drop off=(c0.drop off).take lf.length++c0.drop (off+lf.length):=λc0=>by
          rw[<-tG,tH]
         rw[tG]at a2 b2;by_cases e:(a0.drop off).take lf.length=(b0.drop off).take lf.length
         ·rw[uT e];simp only[qm,uB,uM];rw[ihf _ _ hlr a0 b0 ua ua a2 b2]
          congr 1
          have:(a0.drop off=b0.drop off)↔(a0.drop (off+lf.length)=b0.drop (off+lf.length)):=by
           rw[hcat a0,hcat b0,e];exact⟨λh=>List.append_cancel_left h,λh=>by rw[h]⟩
          exact qZ.2 this.symm
         ·rw[uF e];simp only[qA,uX,Sem.run_pure]
          congr 1
          refine(uF λh=>e ?_).symm;rw[h]
        ·cases hl
       ·cases hl
      ·cases hl
     ·cases hl
   have:=key fs.toList 0 l h a b (uE _) (uE _) (by simpa using U) (by simpa using hb);simpa using this
 ·cases h
section
variable {ty:TypeId}
theorem zj4{M:Mem}{ρ:Nat->Value}: ∀ {a:List Sc} {cs:List Value},RepVs M ρ (a.map Sc.V) cs->cs=a.map Sc.v
 | [],[],_=>rfl
 | [],_::_,h=>by simp only[qv,RepVs]at h
 |_::_,[],h=>by simp only[uN,RepVs]at h
 |c::a,v::cs,h=>by
  simp only[uN,Sc.V,RepVs,RepV,RepPV]at h;rw[h.1.1,zj4 h.2];rfl
def ztr{neg:Bool}{l:List SK}{a b:List Sc}(hx:okc x (.agg (a.map Sc.V)))(hy:okc y (.agg (b.map Sc.V)))(hs:isStc P t=true)(h:eqSh P 8 t=some l)(ha:okSKs l a=true)(hb:okSKs l b=true)(hg:P.eqGuardType P.depth t=false):
 Snd P ⟨d,.binOp (if neg=true then .neq else .eql) t x y t',ty,ps,af,g⟩ (rq x (.agg (a.map Sc.V))++rq y (.agg (b.map Sc.V))) [] [] (.bq (if neg=true then !decide (a=b)else decide (a=b))) []:=
 zk λC st M ρ ac w hH h1 _=>by
  rw[za]at h1;have J:=hH.evS (zt hx h1.1);have U:=hH.evS (zt hy h1.2);simp only[RepS]at J U;obtain⟨cs,J,f1⟩:=J;obtain⟨ds,U,f2⟩:=U;rw[zj4 f1]at J;rw[zj4 f2]at U;have hq:=zi1 8 t l h 10000 ua a b ha hb w;simp only[valSc,hs,uX]at hq;cases neg with
  |true=>
   refine⟨.bool (!decide (a=b)),?_,by simp only[RepS,uX]⟩;simp only[execOp,uX,J,U,Sem.run_bind,run_eqGuard_agg w _ t x y _ _ hg,Result.andThen_ok,run_neq_struct,hq,Sem.run_pure]
  |false=>
   refine⟨.bool (decide (a=b)),?_,by simp only[RepS,uB,uM]⟩;simp only[execOp,uB,uM,J,U,Sem.run_bind,run_eqGuard_agg w _ t x y _ _ hg,Result.andThen_ok,run_eql_struct,hq,Sem.run_pure]
end
section
variable {k:List Frm} {n:Nat} {sl:zd}
def zwd{d:Nat}{ty:TypeId}(hC:C.low)(l:List SK)(a b:List Sc)
 (J:ev sl x=some (.agg (a.map Sc.V))) (U:ev sl y=some (.agg (b.map Sc.V))) (hs:isStc P t=true) (h:eqSh P 8 t=some l) (ha:okSKs l a=true) (hb:okSKs l b=true) (hg:P.eqGuardType P.depth t=false) (hm:metL all sl g0=some gs) (hd:Nat.blt d n=true)
 (g:Goal P C (.ops all rest (nx md ⟨some d,gs++(rq x (.agg (a.map Sc.V))++rq y (.agg (b.map Sc.V))),[],[],.bq (decide (a=b)),[]⟩)) k n ((d,.bq (decide (a=b)))::sl) tab Q):
 Goal P C (.ops all (⟨some d,.binOp .eql t x y t',ty,ps,af,g0⟩::rest) md) k n sl tab Q:=by
 have e1:=zu (st:=⟨n,sl,tab⟩) J;have e2:=zu (st:=⟨n,sl,tab⟩) U;have:=zj hm (ztr (P:=P) (neg:=false) (ty:=ty) (ps:=ps) (af:=af) (g:=g0) (d:=some d) (t':=t') e1.1 e2.1 hs h ha hb hg) (n:=n) (tab:=tab);exact zN (L:=⟨some d,gs++(rq x (.agg (a.map Sc.V))++rq y (.agg (b.map Sc.V))),[],[],.bq (decide (a=b)),[]⟩) hC this.1 rfl ⟨by rw[za,za];simp_all,trivial,rfl,hd⟩ g
def zwe{d:Nat}{ty:TypeId}(hC:C.low)(l:List SK)(a b:List Sc)
 (J:ev sl x=some (.agg (a.map Sc.V))) (U:ev sl y=some (.agg (b.map Sc.V))) (hs:isStc P t=true) (h:eqSh P 8 t=some l) (ha:okSKs l a=true) (hb:okSKs l b=true) (hg:P.eqGuardType P.depth t=false) (hm:metL all sl g0=some gs) (hd:Nat.blt d n=true)
 (g:Goal P C (.ops all rest (nx md ⟨some d,gs++(rq x (.agg (a.map Sc.V))++rq y (.agg (b.map Sc.V))),[],[],.bq (!decide (a=b)),[]⟩)) k n ((d,.bq (!decide (a=b)))::sl) tab Q):
 Goal P C (.ops all (⟨some d,.binOp .neq t x y t',ty,ps,af,g0⟩::rest) md) k n sl tab Q:=by
 have e1:=zu (st:=⟨n,sl,tab⟩) J;have e2:=zu (st:=⟨n,sl,tab⟩) U;have:=zj hm (ztr (P:=P) (neg:=true) (ty:=ty) (ps:=ps) (af:=af) (g:=g0) (d:=some d) (t':=t') e1.1 e2.1 hs h ha hb hg) (n:=n) (tab:=tab);exact zN (L:=⟨some d,gs++(rq x (.agg (a.map Sc.V))++rq y (.agg (b.map Sc.V))),[],[],.bq (!decide (a=b)),[]⟩) hC this.1 rfl ⟨by rw[za,za];simp_all,trivial,rfl,hd⟩ g
end
variable {a:ByteArray}{j:Int}
section
section
variable {ty:TypeId}
def zts{k:IntKind}(hx:okc x (Sr a))(hy:okc y (Kk k j))(U:P.underlying t=some .string)(h0:0<=j)(h1:j<=a.size):
 Snd P ⟨d,.slice t x none (some y) none,ty,ps,af,g⟩ (rq x (Sr a)++rq y (Kk k j)) [] [] (Sr (a.extract 0 j.toNat)) []:=
 zk λC st M ρ b w hH J _=>by
  rw[za]at J;have e1:=hH.k (zt hx J.1);have e2:=hH.k (zt hy J.2);refine⟨.string (a.extract 0 j.toNat),?_,by simp only[RepS,RepV,RepPV];exact⟨uh,rfl⟩⟩;simp only[execOp,e1,e2,tV,uH,Sem.run_bind,run_sliceAt_string w t _ _ _ _ U,run_slice_string_to_if w t a k j U,uw (⟨h0,h1⟩:0<=j/\j<=(a.size:Int)),Result.andThen_ok,Sem.run_pure]
def znK{k:IntKind}(hx:okc x (Sr a))(hy:okc y (Kk k j))(U:P.underlying t=some .string)(h0:0<=j)(h1:j<=a.size):
 Snd P ⟨d,.slice t x (some y) none none,ty,ps,af,g⟩ (rq x (Sr a)++rq y (Kk k j)) [] [] (Sr (a.extract j.toNat a.size)) []:=
 zk λC st M ρ b w hH J _=>by
  rw[za]at J;have e1:=hH.k (zt hx J.1);have e2:=hH.k (zt hy J.2);refine⟨.string (a.extract j.toNat a.size),?_,by simp only[RepS,RepV,RepPV];exact⟨uh,rfl⟩⟩;simp only[execOp,e1,e2,tV,uH,Sem.run_bind,run_sliceAt_string w t _ _ _ _ U,run_slice_string_from_if w t a k j U,uw (⟨h0,h1⟩:0<=j/\j<=(a.size:Int)),Result.andThen_ok,Sem.run_pure]
end
variable {k:List Frm} {n:Nat} {sl:zd}
def ztt{d:Nat}{ty:TypeId}(hC:C.low)
 (J:ev sl x=some (Sr a)) (U:ev sl y=some (Kk k0 j)) (ht:P.underlying t=some .string) (h0:0<=j) (h1:j<=a.size) (hm:metL all sl g0=some gs) (hd:Nat.blt d n=true)
 (g:Goal P C (.ops all rest (nx md ⟨some d,gs++(rq x (Sr a)++rq y (Kk k0 j)),[],[],Sr (a.extract 0 j.toNat),[]⟩)) k n ((d,Sr (a.extract 0 j.toNat))::sl) tab Q):
 Goal P C (.ops all (⟨some d,.slice t x none (some y) none,ty,ps,af,g0⟩::rest) md) k n sl tab Q:=by
 have e1:=zu (st:=⟨n,sl,tab⟩) J;have e2:=zu (st:=⟨n,sl,tab⟩) U;have:=zj hm (zts (P:=P) (ty:=ty) (ps:=ps) (af:=af) (g:=g0) (d:=some d) (t:=t) e1.1 e2.1 ht h0 h1) (n:=n) (tab:=tab);exact zN (L:=⟨some d,gs++(rq x (Sr a)++rq y (Kk k0 j)),[],[],Sr (a.extract 0 j.toNat),[]⟩) hC this.1 rfl ⟨by rw[za,za];simp_all,trivial,rfl,hd⟩ g
def zhw{d:Nat}{ty:TypeId}(hC:C.low)
 (J:ev sl x=some (Sr a)) (U:ev sl y=some (Kk k0 j)) (ht:P.underlying t=some .string) (h0:0<=j) (h1:j<=a.size) (hm:metL all sl g0=some gs) (hd:Nat.blt d n=true)
 (g:Goal P C (.ops all rest (nx md ⟨some d,gs++(rq x (Sr a)++rq y (Kk k0 j)),[],[],Sr (a.extract j.toNat a.size),[]⟩)) k n ((d,Sr (a.extract j.toNat a.size))::sl) tab Q):
 Goal P C (.ops all (⟨some d,.slice t x (some y) none none,ty,ps,af,g0⟩::rest) md) k n sl tab Q:=by
 have e1:=zu (st:=⟨n,sl,tab⟩) J;have e2:=zu (st:=⟨n,sl,tab⟩) U;have:=zj hm (znK (P:=P) (ty:=ty) (ps:=ps) (af:=af) (g:=g0) (d:=some d) (t:=t) e1.1 e2.1 ht h0 h1) (n:=n) (tab:=tab);exact zN (L:=⟨some d,gs++(rq x (Sr a)++rq y (Kk k0 j)),[],[],Sr (a.extract j.toNat a.size),[]⟩) hC this.1 rfl ⟨by rw[za,za];simp_all,trivial,rfl,hd⟩ g
end
variable {i:Int}{rows:List (List PV)}
section
variable {ty:TypeId} {z:Operand}
def zqS{k k':IntKind}(hx:okc x (Sr a))(hy:okc y (Kk k i))(hz:okc z (Kk k' j))(ht:P.underlying t=some .string)(h0:0<=i)(h1:i<=j)(h2:j<=a.size):
 Snd P ⟨d,.slice t x (some y) (some z) none,ty,ps,af,g⟩ (rq x (Sr a)++rq y (Kk k i)++rq z (Kk k' j)) [] [] (Sr (a.extract i.toNat j.toNat)) []:=
 zk λC st M ρ b w U J _=>by
  rw[za,za]at J;have e1:=U.k (zt hx J.1.1);have e2:=U.k (zt hy J.1.2);have e3:=U.k (zt hz J.2);refine⟨.string (a.extract i.toNat j.toNat),?_,by simp only[RepS,RepV,RepPV];exact⟨uh,rfl⟩⟩;simp only[execOp,e1,e2,e3,tV,uH,Sem.run_bind,run_sliceAt_string w t _ _ _ _ ht,run_slice_string_if w t a k k' i j ht,uw (⟨ua,h2⟩:0<=j/\j<=(a.size:Int)),uw (⟨h0,h1⟩:0<=i/\i<=j),Result.andThen_ok,Sem.run_pure]
def zhx{e:Nat}{a:Option Addr}{cap l h:Nat}(U:RepV M ρ (.p (.sl e rows)) (.slice a rows.length cap))(h1:l<=h)(h2:h<=rows.length):RepV M ρ (.p (.sl e ((rows.take h).drop l))) (sliced a l h cap e):=by
 simp only[RepV,RepPV]at U⊢;obtain⟨a',cap',e1,e2,e3,J⟩:=U;simp only[Value.slice.injEq]at e1;obtain⟨rfl,_,rfl⟩:=e1;have hl:((rows.take h).drop l).length=h - l:=by rw[tA,tj];omega
 refine⟨if cap=l then a else a.map (·.add (l*e)),cap - l,by rw[hl];rfl,ua,ua,?_⟩;rcases J with rfl|⟨b,o,rfl,J⟩
 ·simp_all
 ·by_cases hc:cap=l
  ·grind
  ·right;rw[ur hc];exact⟨b,o+l*e,by simp[Addr.add],(J.take h).drop l⟩
def zaE{e:Nat}(h:elemSz P t=some (el,e)):P.underlying t=some (.slice (P.elem t))/\ ∀w:World,(Go.sizeOf (P.elem t)).run P w= .ok e w:=by
 obtain⟨ii,hu,J,U⟩:=zw h;have he:P.elem t=el:=by simp[Program.elem,hu]
 rw[he];exact⟨hu,λw=>by rw[run_sizeOf J,U]⟩
def zqT{e:Nat}{k':IntKind}(hx:okc x (.one (.p (.sl e rows))))(hz:okc z (Kk k' j))(he:elemSz P t=some (el,e))(h0:0<=j)(h2:j<=rows.length):
 Snd P ⟨d,.slice t x none (some z) none,ty,ps,af,g⟩ (rq x (.one (.p (.sl e rows)))++rq z (Kk k' j)) [] [] (.one (.p (.sl e (rows.take j.toNat)))) []:=
 zk λC st M ρ b w hH hs _=>by
  rw[za]at hs;have U:=hH.evS (zt hx hs.1);have e3:=hH.k (zt hz hs.2);simp only[RepS]at U;have J:=U;simp only[RepV,RepPV]at J;obtain⟨a,cap,f1,f2,f3,_⟩:=J;rw[f1]at U;obtain⟨hu,hsz⟩:=zaE he;refine⟨sliced a 0 j.toNat cap e,?_,by simp only[RepS];have:=zhx U (uE j.toNat) ua;simp_all⟩;simp only[execOp,f1,e3,tV,uH,Sem.run_bind,run_sliceAt_slice w t _ _ _ _ hu,run_slice_h w t a rows.length cap hu k' j h0 ua,hsz,Result.andThen_ok,Sem.run_pure]
def zqU{e:Nat}{k:IntKind}(hx:okc x (.one (.p (.sl e rows))))(hy:okc y (Kk k i))(he:elemSz P t=some (el,e))(h0:0<=i)(h2:i<=rows.length):
 Snd P ⟨d,.slice t x (some y) none none,ty,ps,af,g⟩ (rq x (.one (.p (.sl e rows)))++rq y (Kk k i)) [] [] (.one (.p (.sl e (rows.drop i.toNat)))) []:=
 zk λC st M ρ b w hH hs _=>by
  rw[za]at hs;have U:=hH.evS (zt hx hs.1);have e2:=hH.k (zt hy hs.2);simp only[RepS]at U;have J:=U;simp only[RepV,RepPV]at J;obtain⟨a,cap,f1,f2,f3,_⟩:=J;rw[f1]at U;obtain⟨hu,hsz⟩:=zaE he;refine⟨sliced a i.toNat rows.length cap e,?_,by simp only[RepS];have:=zhx U (l:=i.toNat) (h:=rows.length) ua (uJ _);simp_all⟩;simp only[execOp,f1,e2,tV,uH,Sem.run_bind,run_sliceAt_slice w t _ _ _ _ hu,run_slice_l w t a rows.length cap hu k i h0 ua,hsz,Result.andThen_ok,Sem.run_pure]
def znL{vs:List V}{len:Nat}{k:IntKind}{v:V}(hx:okc x (.agg vs))(hy:okc y (Kk k i))(ht:P.underlying t=some (.array len el))(he:(P.info? el).map (·.size)=some 1)(hs:shp P el=some none)(h0:0<=i)(hi:i<len)(hv:vs[i.toNat]?=some v):
 Snd P ⟨d,.index t x y,ty,ps,af,g⟩ (rq x (.agg vs)++rq y (Kk k i)) [] [] (.one v) []:=
 zk λC st M ρ a w hH h1 _=>by
  rw[za]at h1;have U:=hH.evS (zt hx h1.1);have e2:=hH.k (zt hy h1.2);simp only[RepS]at U;obtain⟨cs,U,e3⟩:=U;obtain⟨ii,J,hsz⟩:=uR.1 he;obtain⟨c,c1,c2⟩:=xf e3 hv;refine⟨c,?_,by simp only[RepS];exact c2⟩;simp only[execOp,U,e2,Instr.index,asIntOf,Sem.run_bind,Sem.run_pure,Result.andThen_ok,run_underlying ht];rw[uw ⟨h0,hi⟩];simp[part,j4 hs,run_sizeOf J,hsz,c1]
def isIfc(P:Program)(t:TypeId):Bool:=match P.underlying t with
 |some (.interface _)=>true
 |_=>false
def zaF(h:isIfc P t=true): ∃ms,P.underlying t=some (.interface ms):=by
 unfold isIfc at h
 grind
def zwf{id:Nat}{neg:Bool}(hx:okc x (.one (.ar id)))(U:isIfc P t=true):
 Snd P ⟨d,.binOp (if neg=true then .neq else .eql) t x (.const .nilIface) t',ty,ps,af,g⟩ (rq x (.one (.ar id))) [(id,.ifc)] [] (Bo neg) []:=
 zk λC st M ρ a w hH h1 hT=>by
  obtain⟨ms,U⟩:=zaF U;have J:=hH.evS (zt hx h1);simp only[RepS,RepV]at J;obtain⟨te,pe,hv⟩:=hH.zH.res id _ hT.1;rw[hv]at J;have h: ∀q:Nat,(Op.equalIn (q+1) t (.iface te pe) .nilIface).run P w= .ok false w:=λq=>by simp[Op.equalIn,run_underlying U]
  have e0:a.eval (.const .nilIface)= .nilIface:=rfl;refine⟨.bool neg,?_,ztb neg⟩;cases neg with
  |true=>
   simp only[execOp,uX,J.1,e0,Sem.run_bind];simp[eqGuard,binOp,Op.equal,Op.maxDepth,h 9999,Sem.run_pure]
  |false=>
   simp only[execOp,uB,uM,J.1,e0,Sem.run_bind];simp[eqGuard,binOp,Op.equal,Op.maxDepth,h 9999,Sem.run_pure]
def ztu{neg:Bool}(hx:okc x (.one (.p (.k .nilIface))))(J:isIfc P t=true):
 Snd P ⟨d,.binOp (if neg=true then .neq else .eql) t x (.const .nilIface) t',ty,ps,af,g⟩ (rq x (.one (.p (.k .nilIface)))) [] [] (Bo (!neg)) []:=
 zk λC st M ρ a w hH h1 hT=>by
  obtain⟨ms,J⟩:=zaF J;have U:=hH.evS (zt hx h1);simp only[RepS,RepV,RepPV]at U;have h: ∀q:Nat,(Op.equalIn (q+1) t .nilIface .nilIface).run P w= .ok true w:=λq=>by simp[Op.equalIn,run_underlying J]
  have e0:a.eval (.const .nilIface)= .nilIface:=rfl;refine⟨.bool (!neg),?_,ztb (!neg)⟩;cases neg with
  |true=>
   simp only[execOp,uX,U.1,e0,Sem.run_bind];simp[eqGuard,binOp,Op.equal,Op.maxDepth,h 9999,Sem.run_pure]
  |false=>
   simp only[execOp,uB,uM,U.1,e0,Sem.run_bind];simp[eqGuard,binOp,Op.equal,Op.maxDepth,h 9999,Sem.run_pure]
end
section
variable {k:List Frm} {n:Nat} {sl:zd}
def zdj{d:Nat}{z:Operand}{ty:TypeId}(hC:C.low){k1:IntKind}
 (J:ev sl x=some (Sr a)) (U:ev sl y=some (Kk k0 i)) (hz:ev sl z=some (Kk k1 j)) (ht:P.underlying t=some .string) (h0:0<=i) (h1:i<=j) (h2:j<=a.size) (hm:metL all sl g0=some gs) (hd:Nat.blt d n=true)
 (g:Goal P C (.ops all rest (nx md ⟨some d,gs++(rq x (Sr a)++rq y (Kk k0 i)++rq z (Kk k1 j)),[],[],Sr (a.extract i.toNat j.toNat),[]⟩)) k n ((d,Sr (a.extract i.toNat j.toNat))::sl) tab Q):
 Goal P C (.ops all (⟨some d,.slice t x (some y) (some z) none,ty,ps,af,g0⟩::rest) md) k n sl tab Q:=by
 have e1:=zu (st:=⟨n,sl,tab⟩) J;have e2:=zu (st:=⟨n,sl,tab⟩) U;have e3:=zu (st:=⟨n,sl,tab⟩) hz;have:=zj hm (zqS (P:=P) (ty:=ty) (ps:=ps) (af:=af) (g:=g0) (d:=some d) (t:=t) e1.1 e2.1 e3.1 ht h0 h1 h2) (n:=n) (tab:=tab);exact zN (L:=⟨some d,gs++(rq x (Sr a)++rq y (Kk k0 i)++rq z (Kk k1 j)),[],[],Sr (a.extract i.toNat j.toNat),[]⟩) hC this.1 rfl ⟨by rw[za,za,za];simp_all,trivial,rfl,hd⟩ g
def zhy{d:Nat}{ty:TypeId}(hC:C.low){vs:List V}{len:Nat}{v:V}
 (J:ev sl x=some (.agg vs)) (U:ev sl y=some (Kk k0 i)) (ht:P.underlying t=some (.array len el)) (he:(P.info? el).map (·.size)=some 1) (hs:shp P el=some none) (h0:0<=i) (hi:i<len) (hv:vs[i.toNat]?=some v) (hm:metL all sl g0=some gs) (hd:Nat.blt d n=true)
 (g:Goal P C (.ops all rest (nx md ⟨some d,gs++(rq x (.agg vs)++rq y (Kk k0 i)),[],[],.one v,[]⟩)) k n ((d,.one v)::sl) tab Q):
 Goal P C (.ops all (⟨some d,.index t x y,ty,ps,af,g0⟩::rest) md) k n sl tab Q:=by
 have e1:=zu (st:=⟨n,sl,tab⟩) J;have e2:=zu (st:=⟨n,sl,tab⟩) U;have:=zj hm (znL (P:=P) (ty:=ty) (ps:=ps) (af:=af) (g:=g0) (d:=some d) (t:=t) e1.1 e2.1 ht he hs h0 hi hv) (n:=n) (tab:=tab);exact zN (L:=⟨some d,gs++(rq x (.agg vs)++rq y (Kk k0 i)),[],[],.one v,[]⟩) hC this.1 rfl ⟨by rw[za,za];simp_all,trivial,rfl,hd⟩ g
def jM(T:Ty P){d:Nat}{z:Operand}{ty:TypeId}(hC:C.low){e:Nat}(rows':List (List PV)){k1:IntKind}
 (J:ev sl x=some (.one (.p (.sl e rows)))) (U:ev sl z=some (Kk k1 j)) (he:T.es t=some (el,e)) (h0:0<=j) (h2:j<=rows.length) (hr:rows.take j.toNat=rows') (hm:metL all sl g0=some gs) (hd:Nat.blt d n=true)
 (g:Goal P C (.ops all rest (nx md ⟨some d,gs++(rq x (.one (.p (.sl e rows)))++rq z (Kk k1 j)),[],[],.one (.p (.sl e rows')),[]⟩)) k n ((d,.one (.p (.sl e rows')))::sl) tab Q):
 Goal P C (.ops all (⟨some d,.slice t x none (some z) none,ty,ps,af,g0⟩::rest) md) k n sl tab Q:=by
 subst hr;have e1:=zu (st:=⟨n,sl,tab⟩) J;have e3:=zu (st:=⟨n,sl,tab⟩) U;have:=zj hm (zqT (P:=P) (ty:=ty) (ps:=ps) (af:=af) (g:=g0) (d:=some d) (t:=t) e1.1 e3.1 (T.es_ok _ _ he) h0 h2) (n:=n) (tab:=tab);exact zN (L:=⟨some d,gs++(rq x (.one (.p (.sl e rows)))++rq z (Kk k1 j)),[],[],.one (.p (.sl e (rows.take j.toNat))),[]⟩) hC this.1 rfl ⟨by rw[za,za];simp_all,trivial,rfl,hd⟩ g
def zfZ(T:Ty P){d:Nat}{ty:TypeId}(hC:C.low){e:Nat}(rows':List (List PV))
 (J:ev sl x=some (.one (.p (.sl e rows)))) (U:ev sl y=some (Kk k0 i)) (he:T.es t=some (el,e)) (h0:0<=i) (h2:i<=rows.length) (hr:rows.drop i.toNat=rows') (hm:metL all sl g0=some gs) (hd:Nat.blt d n=true)
 (g:Goal P C (.ops all rest (nx md ⟨some d,gs++(rq x (.one (.p (.sl e rows)))++rq y (Kk k0 i)),[],[],.one (.p (.sl e rows')),[]⟩)) k n ((d,.one (.p (.sl e rows')))::sl) tab Q):
 Goal P C (.ops all (⟨some d,.slice t x (some y) none none,ty,ps,af,g0⟩::rest) md) k n sl tab Q:=by
 subst hr;have e1:=zu (st:=⟨n,sl,tab⟩) J;have e2:=zu (st:=⟨n,sl,tab⟩) U;have:=zj hm (zqU (P:=P) (ty:=ty) (ps:=ps) (af:=af) (g:=g0) (d:=some d) (t:=t) e1.1 e2.1 (T.es_ok _ _ he) h0 h2) (n:=n) (tab:=tab);exact zN (L:=⟨some d,gs++(rq x (.one (.p (.sl e rows)))++rq y (Kk k0 i)),[],[],.one (.p (.sl e (rows.drop i.toNat))),[]⟩) hC this.1 rfl ⟨by rw[za,za];simp_all,trivial,rfl,hd⟩ g
def ztv{d:Nat}{ty:TypeId}(hC:C.low){id:Nat}
 (J:ev sl x=some (.one (.ar id))) (hT:tg tab id=some .ifc) (U:isIfc P t=true) (hm:metL all sl g0=some gs) (hd:Nat.blt d n=true)
 (g:Goal P C (.ops all rest (nx md ⟨some d,gs++rq x (.one (.ar id)),[(id,.ifc)],[],Bo false,[]⟩)) k n ((d,Bo false)::sl) tab Q):
 Goal P C (.ops all (⟨some d,.binOp .eql t x (.const .nilIface) t',ty,ps,af,g0⟩::rest) md) k n sl tab Q:=by
 have e1:=zu (st:=⟨n,sl,tab⟩) J;have:=zj hm (zwf (P:=P) (neg:=false) (ty:=ty) (ps:=ps) (af:=af) (g:=g0) (d:=some d) (t':=t') e1.1 U) (n:=n) (tab:=tab);exact zN (L:=⟨some d,gs++rq x (.one (.ar id)),[(id,.ifc)],[],Bo false,[]⟩) hC this.1 rfl ⟨by rw[za];simp_all,⟨hT,uh⟩,rfl,hd⟩ g
def ztw{d:Nat}{ty:TypeId}(hC:C.low)
 (J:ev sl x=some (.one (.p (.k .nilIface)))) (U:isIfc P t=true) (hm:metL all sl g0=some gs) (hd:Nat.blt d n=true)
 (g:Goal P C (.ops all rest (nx md ⟨some d,gs++rq x (.one (.p (.k .nilIface))),[],[],Bo true,[]⟩)) k n ((d,Bo true)::sl) tab Q):
 Goal P C (.ops all (⟨some d,.binOp .eql t x (.const .nilIface) t',ty,ps,af,g0⟩::rest) md) k n sl tab Q:=by
 have e1:=zu (st:=⟨n,sl,tab⟩) J;have:=zj hm (ztu (P:=P) (neg:=false) (ty:=ty) (ps:=ps) (af:=af) (g:=g0) (d:=some d) (t':=t') e1.1 U) (n:=n) (tab:=tab);exact zN (L:=⟨some d,gs++rq x (.one (.p (.k .nilIface))),[],[],Bo true,[]⟩) hC this.1 rfl ⟨by rw[za];simp_all,trivial,rfl,hd⟩ g
def zj5{d:Nat}{ty:TypeId}(hC:C.low)
 (J:ev sl x=some (.one (.p (.k .nilIface)))) (U:isIfc P t=true) (hm:metL all sl g0=some gs) (hd:Nat.blt d n=true)
 (g:Goal P C (.ops all rest (nx md ⟨some d,gs++rq x (.one (.p (.k .nilIface))),[],[],Bo false,[]⟩)) k n ((d,Bo false)::sl) tab Q):
 Goal P C (.ops all (⟨some d,.binOp .neq t x (.const .nilIface) t',ty,ps,af,g0⟩::rest) md) k n sl tab Q:=by
 have e1:=zu (st:=⟨n,sl,tab⟩) J;have:=zj hm (ztu (P:=P) (neg:=true) (ty:=ty) (ps:=ps) (af:=af) (g:=g0) (d:=some d) (t':=t') e1.1 U) (n:=n) (tab:=tab);exact zN (L:=⟨some d,gs++rq x (.one (.p (.k .nilIface))),[],[],Bo false,[]⟩) hC this.1 rfl ⟨by rw[za];simp_all,trivial,rfl,hd⟩ g
end
section
variable {ty:TypeId}
def zf0{fs l:List Operand}{ssf:List S}{first caps:List V}(hf:zes fs ssf)(J:onesOf ssf=some first)(hx:zes l ss)(hc:onesOf ss=some caps):
 Snd P ⟨d,.makeFunc (.func f) fs.toArray l.toArray,ty,ps,af,g⟩ (rqs fs ssf++rqs l ss) [] [] (.one (.cl f first caps)) []:=
 zk λC st M ρ a w hH U _=>by
  rw[za]at U;have e:=hH.zhu (wU hx U.2);have e':=xG hc e;have e2:=hH.zhu (wU hf U.1);have e2':=xG J e2;exact⟨.func (.func f) (fs.map a.eval).toArray (l.map a.eval).toArray,by simp[execOp,Instr.makeFunc],by simp only[RepS,RepV];grind⟩
end
def Holds.shift{st st':St}{a:Act}(h:Holds C st M ρ a w)(U:st'.n=st.n)(hs:st'.sl=st.sl)(J: ∀i r,tg st'.tab i=some r->tg st.tab i=some r):Holds C st' M ρ a w where
 dfr:=h.dfr
 sz:=by rw[U];exact h.sz
 slots:=by rw[hs];exact h.slots
 zH:=⟨λi r e=>h.zH.res i r (J i r e),λi j ri rj b e1 e2=>h.zH.dis i j ri rj b (J i ri e1) (J j rj e2),λi r b e=>h.zH.own i r b (J i r e)⟩
 ownf:=λi r b e=>h.ownf i r b (J i r e)
 run:=h.run
 keep:=h.keep
theorem zbE{ids:List Nat}{i:Nat}(h:i∉ids):tg (xp ids++tab) i=tg tab i:=by
 induction ids with
 |nil=>rfl
 |cons j ids ih=>
  simp only[uI,oX]at h;show tg ((j,none)::(xp ids++tab)) i=_;rw[zy]
  grind
theorem zj6{X:RL}{ids:List Nat}{i:Nat}{r:Res}(hX: ∀j s,(j,s)∈X->tg tab j=some s)(J:i∈ids->i∈X.ids)(hr:tg tab i=some r):tg (tb X++(xp ids++tab)) i=some r:=by
 induction X with
 |nil=>
  show tg (xp ids++tab) i=some r;rw[zbE (λh=>by cases J h)];exact hr
 |cons x X ih=>
  obtain⟨j,s⟩:=x;show tg ((j,some s)::(tb X++(xp ids++tab))) i=some r;rw[zy];split
  ·grind
  ·rename_i e;refine ih (λj s h=>hX j s (u3 _ h)) λh=>?_;have:=J h;rcases uI.1 this with U|U
   ·omega
   ·exact U
theorem zf1(σ:Nat->Nat): ∀R:RL,(R.ren σ).ids=R.ids.map σ
 | []=>rfl
 |(i,r)::R=>by simp only[RL.ren,RL.ids,uN,zf1 σ R]
variable {R:RL}{args:List S}{ts:Array TypeId}
section
variable {ty:TypeId}
def zqV(h:zf P f args R res R)(σ:Nat->Nat){l:List Operand}{first caps:List V}
 (hx:okc x (.one (.cl f first caps))) (hl:zes l ss) (J:zI (ones first++ss++ones caps) (Ss.ren σ args)) (hi:injB σ R.ids=true)
 (hc:cloS (R.ids++R.ids) res=true) (U:xH (R.ids++R.ids) R=true):
 Snd P ⟨d,.call ⟨.value x,l.toArray,ts⟩,ty,ps,af,g⟩ (rq x (.one (.cl f first caps))++rqs l ss) (R.ren σ) ((zP R R).map σ) (res.ren σ) []:=by
 intro C st M ρ a w hH h1 hT hF hd k Q hk;refine zhz h σ hx hl J hi hi hc U C st M ρ a w hH h1 hT hF hd k Q λa' w' M' ρ' hH'=>hk a' w' M' ρ' ?_
 refine hH'.shift rfl rfl λi r hr=>?_;have hr:tg st.tab i=some r:=hr;show tg ((tb (R.ren σ)++xp (R.ids.map σ))++st.tab) i=some r;rw[tE];exact zj6 (λj s hm=>xi hT hm) (λh=>by rw[zf1];exact h) hr
end
section
variable {k:List Frm} {n:Nat} {sl:zd}
def zqW{l:List Operand}{ty:TypeId}(hC:C.low){first caps:List V}
 (h:zf P f args R res R) (σ:Nat->Nat) (hx:ev sl x=some (.one (.cl f first caps))) (hl:evs sl l=some ss) (ha:zI (ones first++ss++ones caps) (Ss.ren σ args)) (hi:injB σ R.ids=true)
 (hc:cloS (R.ids++R.ids) res=true) (J:xH (R.ids++R.ids) R=true) (hT:rdT tab (R.ren σ)=R.ren σ) (U:allB (λid=>Nat.ble 100 id&&freshB id ⟨n,sl,tab⟩) ((zP R R).map σ)=true) (hm:metL all sl g0=some gs) (hd:dok d n=true)
 (g:Goal P C (.ops all rest (nx md ⟨d,gs++(rq x (.one (.cl f first caps))++rqs l ss),R.ren σ,(zP R R).map σ,res.ren σ,[]⟩)) k n (app d (res.ren σ) ([]) ⟨n,sl,tab⟩).sl ([]++tab) Q):
 Goal P C (.ops all (⟨d,.call ⟨.value x,l.toArray,ts⟩,ty,ps,af,g0⟩::rest) md) k n sl tab Q:=by
 have e1:=zu (st:=⟨n,sl,tab⟩) hx;have e2:=xl (st:=⟨n,sl,tab⟩) hl;have:=zj hm (zqV (ty:=ty) (ps:=ps) (af:=af) (g:=g0) (d:=d) (ts:=ts) h σ e1.1 e2.1 ha hi hc J) (n:=n) (tab:=tab);exact zN (L:=⟨d,gs++(rq x (.one (.cl f first caps))++rqs l ss),R.ren σ,(zP R R).map σ,res.ren σ,[]⟩) hC this.1 rfl ⟨by rw[za,za];simp_all,vW hT,U,hd⟩ g
end
variable {G G':Prop}
def gG(g:G')(h:G'->G:=by first|exact λg=>zny T hC true 400 rfl rfl g|exact λg=>zi2 T hC ud g):G:=h g
def gB{A B:Prop}{b:Bool}(J:b=true->A)(U:b=false->B)
 (h:(b=true->A)->(b=false->B)->G:=by first|exact λJ U=>zp rfl J U|exact λJ U=>j5 J U|exact λJ U=>j6 rfl rfl rfl J U|exact λJ U=>j7 rfl rfl J U):G:=h J U
def gX(g:G')(h:G'->G:=by exact λg=>xX T hC rfl rfl rfl (uD _) (zq uf) rfl rfl g):G:=h g
def gXE(g:G')(h:G'->G:=by exact λg=>xX T hC rfl rfl rfl (uD _) (wh uf) rfl rfl g):G:=h g
def gXT(g:G')(h:G'->G:=by exact λg=>xX T hC rfl rfl rfl (uD _) (jN uf) rfl rfl g):G:=h g
def gXS(g:G')(h:G'->G:=by exact λg=>wV T hC rfl rfl rfl (uD _) uf rfl rfl g):G:=h g
def gQ(g:G')(h:G'->G:=by exact λg=>zhA T (.inl rfl) rfl g):G:=h g
def gL(g:G')(h:G'->G:=by exact λg=>zj7 T (.inl rfl) rfl g):G:=h g
def gN(g:G')(h:G'->G:=by exact λg=>ztx T (.inl rfl) rfl g):G:=h g
def gF(h:G:=by exact zi ⟨.inl rfl,id,_,rfl,.refl _,trivial,rfl,rfl⟩):G:=h
def gE(h:G:=by first|exact zi ⟨.inl rfl,id,_,rfl,.refl _,⟨rfl,uh⟩,rfl,rfl⟩|exact zi ⟨.inl rfl,id,_,rfl,.refl _,by repeat' first|exact uh|exact rfl|refine⟨?_,?_⟩,rfl,rfl⟩):G:=h
def gP{P:Prop}(h:P:=by exfalso;first|(simp only[uq,uu,uk,uy,uG]at *; omega)|(simp at h<;>fail)):P:=h
def gD{P:Prop}(h:P:=by exfalso;simp at h<;>fail):P:=h
def gT(g:G')(h:G'->G:=by exact λg=>zty T hC rfl rfl rfl rfl rfl rfl rfl rfl rfl g):G:=h g
theorem gM{σ:Nat->Nat}{a b:St}(h:Matches σ a b:=by first
 |exact⟨rfl,⟨rfl,rfl,uh⟩,trivial,rfl,λ_ _=>rfl⟩
 |exact⟨rfl,by repeat' first|exact uh|exact rfl|refine⟨?_,?_⟩,by repeat' first|exact uh|exact rfl|refine⟨?_,?_⟩,rfl,λ_ _=>rfl⟩):Matches σ a b:=h
variable {rv:List ResultVar}{z:List V}
section
variable {k:List Frm} {n:Nat} {sl:zd}
def gC{d:Nat}{l:List Operand}{ty:TypeId}{first caps:List V}(h:zf P f args [] res [])(g:Goal P C (.ops all rest (nx md ⟨some d,gs++(rq x (.one (.cl f first caps))++rqs l ss),[],[],res,[]⟩)) k n ((d,res)::sl) tab Q)(hC:C.low:=by assumption)(J:ev sl x=some (.one (.cl f first caps)):=by exact rfl)(U:evs sl l=some ss:=by exact rfl)(ha:zI (ones first++ss++ones caps) args:=by exact zI.refl _)(hc:cloS [] res=true:=by exact rfl)(hm:metL all sl g0=some gs:=by exact rfl)(hd:Nat.blt d n=true:=by exact rfl):
 Goal P C (.ops all (⟨some d,.call ⟨.value x,l.toArray,ts⟩,ty,ps,af,g0⟩::rest) md) k n sl tab Q:=vg hC h J U ha hc hm hd g
def gR{l:List Operand}{ty:TypeId}{first caps:List V}{R':RL}(h:zf P f args R res R')(σ:Nat->Nat)(g:Goal P C (.ops all rest (nx md ⟨d,gs++(rq x (.one (.cl f first caps))++rqs l ss),R.ren σ,(zP R R').map σ,res.ren σ,tb (R'.ren σ)++xp (R.ids.map σ)⟩)) k n (app d (res.ren σ) (tb (R'.ren σ)++xp (R.ids.map σ)) ⟨n,sl,tab⟩).sl ((tb (R'.ren σ)++xp (R.ids.map σ))++tab) Q)(hC:C.low:=by assumption)(hx:ev sl x=some (.one (.cl f first caps)):=by exact rfl)(hl:evs sl l=some ss:=by exact rfl)(ha:zI (ones first++ss++ones caps) (Ss.ren σ args):=by exact zI.refl _)(hi:injB σ R.ids=true:=by exact rfl)(J:injB σ R'.ids=true:=by exact rfl)(hc:cloS (R.ids++R'.ids) res=true:=by exact rfl)(U:xH (R.ids++R'.ids) R'=true:=by exact rfl)(hT:rdT tab (R.ren σ)=R.ren σ:=by exact rfl)(hfr:allB (λid=>Nat.ble 100 id&&freshB id ⟨n,sl,tab⟩) ((zP R R').map σ)=true:=by exact rfl)(hm:metL all sl g0=some gs:=by exact rfl)(hd:dok d n=true:=by exact rfl):
 Goal P C (.ops all (⟨d,.call ⟨.value x,l.toArray,ts⟩,ty,ps,af,g0⟩::rest) md) k n sl tab Q:=yh hC h σ hx hl ha hi J hc U hT hfr hm hd g
def gK{l:List Operand}{ty:TypeId}{first caps:List V}(h:zf P f args R res R)(σ:Nat->Nat)(g:Goal P C (.ops all rest (nx md ⟨d,gs++(rq x (.one (.cl f first caps))++rqs l ss),R.ren σ,(zP R R).map σ,res.ren σ,[]⟩)) k n (app d (res.ren σ) ([]) ⟨n,sl,tab⟩).sl ([]++tab) Q)(hC:C.low:=by assumption)(hx:ev sl x=some (.one (.cl f first caps)):=by exact rfl)(hl:evs sl l=some ss:=by exact rfl)(ha:zI (ones first++ss++ones caps) (Ss.ren σ args):=by exact zI.refl _)(hi:injB σ R.ids=true:=by exact rfl)(hc:cloS (R.ids++R.ids) res=true:=by exact rfl)(J:xH (R.ids++R.ids) R=true:=by exact rfl)(hT:rdT tab (R.ren σ)=R.ren σ:=by exact rfl)(U:allB (λid=>Nat.ble 100 id&&freshB id ⟨n,sl,tab⟩) ((zP R R).map σ)=true:=by exact rfl)(hm:metL all sl g0=some gs:=by exact rfl)(hd:dok d n=true:=by exact rfl):
 Goal P C (.ops all (⟨d,.call ⟨.value x,l.toArray,ts⟩,ty,ps,af,g0⟩::rest) md) k n sl tab Q:=zqW hC h σ hx hl ha hi hc J hT U hm hd g
def gI{d:Nat}{ty:TypeId}{e:Nat}{row:List PV}(T:Ty P)(J:rows[i.toNat]?=some row)(g:Goal P C (.ops all rest (nx md ⟨some d,gs++(rq x (.one (.p (.sl e rows)))++rq y (Kk k0 i)),[],[],.one (.pi row 0),[]⟩)) k n ((d,.one (.pi row 0))::sl) tab Q)(hC:C.low:=by assumption)(U:ev sl x=some (.one (.p (.sl e rows))):=by exact rfl)(hy:ev sl y=some (Kk k0 i):=by exact rfl)(he:T.es t=some (el,e):=by exact rfl)(h0:0<=i:=by first|exact uD _|decide|omega)(hm:metL all sl g0=some gs:=by exact rfl)(hd:Nat.blt d n=true:=by exact rfl):
 Goal P C (.ops all (⟨some d,.indexAddr t x y,ty,ps,af,g0⟩::rest) md) k n sl tab Q:=xX T hC U hy he h0 J hm hd g
def gZ(id:Nat){e:Nat}(ups:zd)(bs:List (Nat×List V))(g:Goal P C cur k n (ups++sl) (zf2 bs++((id,none)::tab)) Q)(U:lst cur=true:=by exact rfl)(J:tg tab id=some (.arr e rows):=by exact rfl)
 (hS:upS (FrS id e rows) sl ups:=by repeat' first|exact uh|exact⟨⟨_,rfl,FrS.ar⟩,uh⟩|refine⟨⟨_,rfl,FrS.agg ?_⟩,?_⟩|exact zcs.nil|refine zcs.cons FrV.ar ?_|refine zcs.cons (FrV.refl _) ?_) (hB:upB (zcs id e rows) id tab bs:=by repeat' first|exact uh|refine⟨⟨_,rfl,ub,?_⟩,?_⟩|exact zcs.nil|refine zcs.cons FrV.ar ?_|refine zcs.cons (FrV.refl _) ?_):Goal P C cur k n sl tab Q:=zdk U J ups hS bs hB g
def gA(id e:Nat)(ups:zd)(bs:List (Nat×List V))(g:Goal P C cur k n (ups++sl) (zf2 bs++((id,some (.arr e []))::tab)) Q)(hC:C.low:=by assumption)(J:lst cur=true:=by exact rfl)(hf:(Nat.ble 100 id&&freshB id ⟨n,sl,tab⟩)=true:=by exact rfl)
 (U:upS (AdS id) sl ups:=by repeat' first|exact uh|exact⟨⟨_,rfl,AdS.nil⟩,uh⟩|refine⟨⟨_,rfl,AdS.agg ?_⟩,?_⟩|exact zcI.nil|refine zcI.cons AdV.nil ?_|refine zcI.cons (AdV.refl _) ?_) (hB:upB (zcI id) id tab bs:=by repeat' first|exact uh|refine⟨⟨_,rfl,ub,?_⟩,?_⟩|exact zcI.nil|refine zcI.cons AdV.nil ?_|refine zcI.cons (AdV.refl _) ?_):Goal P C cur k n sl tab Q:=zj8 hC J id e hf ups U bs hB g
def gY(T:Ty P)(id':Nat){d:Nat}{tx ty:TypeId}{id e:Nat}{rows2:List (List PV)}(rows3:List (List PV))(bytes:Nat){sy:S}{rt2:RL}
 (g:Goal P C (.ops all rest (nx md ⟨some d,gs++(rq x (.one (.ar id))++rq y sy),(id,.arr e rows)::rt2,[id'],.one (.ar id'),[(id',some (.arr e rows3)),(id,none)]⟩)) k n ((d,.one (.ar id'))::sl) ([(id',some (.arr e rows3)),(id,none)]++tab) Q)
 (hC:C.low:=by assumption) (hx:ev sl x=some (.one (.ar id)):=by exact rfl) (hy:ev sl y=some sy:=by exact rfl) (hT:tg tab id=some (.arr e rows):=by exact rfl) (hs:zcH P e tx sy rt2 rows2:=by exact zcH.sl (T.es_ok _ _ rfl)) (U:rdT tab rt2=rt2:=by exact rfl)
 (hr:rows++rows2=rows3:=by first|exact rfl|assumption|(rw[u6];rfl)) (he:T.es t=some (el,e):=by exact rfl) (hz:T.zs el=some z:=by exact rfl) (hzl:Nat.beq z.length e=true:=by exact rfl) (hby:(P.info? el).map (·.bytes)=some bytes:=by kernel_rfl)
 (hb:(rows.length+rows2.length)*bytes<=140737488355328:=by first|(simp only[uk,uU,uW,tS];omega)|(simp only[uk,uU,uW,tS]at *; omega)|(simp<;>fail))
 (J:rows.length+rows2.length<=9223372036854775807:=by first|(simp only[uk,uU,uW,tS];omega)|(simp only[uk,uU,uW,tS]at *; omega)|(simp<;>fail)) (hm:metL all sl g0=some gs:=by exact rfl) (hd:Nat.blt d n=true:=by exact rfl) (hf:(Nat.ble 100 id'&&freshB id' ⟨n,sl,tab⟩)=true:=by exact rfl):
 Goal P C (.ops all (⟨some d,.call ⟨.builtin .append,#[x,y],#[t,tx]⟩,ty,ps,af,g0⟩::rest) md) k n sl tab Q:=znM T id' hC hx hy hT U hs hr he hz hzl hby hb J hm hd hf g
def gH(T:Ty P){d:Nat}{len:Nat}{l:List (Nat×Operand)}{ty:TypeId}(rows:List (List PV)){e:Nat}
 (g:Goal P C (.ops all rest (nx md ⟨some d,gs++rqs (l.map (·.2)) ss,[],[],.one (.p (.sl e rows)),[]⟩)) k n ((d,.one (.p (.sl e rows)))::sl) tab Q) (hC:C.low:=by assumption) (hl:evs sl (l.map (·.2))=some ss:=by exact rfl) (he:T.es t=some (el,e):=by exact rfl) (hz:T.zs el=some z:=by exact rfl)
 (hr:partsR e 0 (l.map (·.1)) ss=some rows:=by first|exact rfl|(simp only[zbj];rfl)|(simp only[zdl];rfl)) (J:Nat.beq l.length len=true:=by exact rfl) (U:Nat.ble (len*e) 16777216=true:=by exact rfl) (hl3:Nat.ble len 16777216=true:=by exact rfl) (hm:metL all sl g0=some gs:=by exact rfl) (hd:Nat.blt d n=true:=by exact rfl):
 Goal P C (.ops all (⟨some d,.buildSlice t len l.toArray,ty,ps,af,g0⟩::rest) md) k n sl tab Q:=zty T hC hl he hz hr J U hl3 hm hd g
def gW(l:List Nat){T:Ty P}{R':RL}{e:Exit}(J:e= .ret\/e= .normal:=by exact .inl rfl)(U:rvsOf T ⟨n,sl,tab⟩ rv=some ss:=by exact rfl)(h2:LeS (tupOf ss) (res.ren (nm l)):=by exact .refl _)(h3:mR (nm l) tab R':=by repeat' first|exact uh|exact rfl|refine⟨?_,?_⟩)(h4:injB (nm l) R'.ids=true:=by exact rfl)(h5:allB (λi=>Nat.beq (nm l i) i) R.ids=true:=by exact rfl):
 Goal P C (.fin e) [] n sl tab (zdm T rv R res R'):=zi ⟨J,nm l,ss,U,h2,h3,h4,h5⟩
def gO{fn:Func}{c:Code}{R':RL}(T:Ty P)(hf:P.funcs[f]?=some fn)(body: ∀C:Ctx,C.low->Goal P C (.code c) [] fn.ntmps (enum 0 args) (tb R) (zdm T rv R res R'))
 (J:(fn.name== "runtime.NumGoroutine")=false:=by kernel_rfl) (hb:fn.body=some c:=by exact rfl) (hrv:fn.results=rv.toArray:=by exact rfl) (U:allB (λi=>Nat.blt i 100) R.ids=true:=by exact rfl)
 (hn:Nat.ble args.length fn.ntmps=true:=by exact rfl):zf P f args R res R':=zqY T hf J hb hrv U hn body
end
end Hw
namespace Hw.Gm
open Go Go.Proofs
def zH:Tabs:=
{ sh:=(.nd (.nd (.nd (.nd (.nd (.nd (.nd (.nd .lf 1 none .lf) 2 none .lf) 3 none (.nd .lf 4 none .lf)) 5 none (.nd (.nd (.nd .lf 9 none .lf) 20 none .lf) 21 none (.nd .lf 22 none .lf))) 23 none (.nd (.nd (.nd (.nd .lf 24 none .lf) 25 none .lf) 26 none (.nd .lf 27 none .lf)) 28 none (.nd (.nd (.nd .lf 30 (some 8) .lf) 31 none .lf) 32 none (.nd .lf 34 (some 2) .lf)))) 35 none (.nd (.nd (.nd (.nd (.nd .lf 39 none .lf) 40 none .lf) 47 (some 4) (.nd .lf 59 none .lf)) 62 none (.nd (.nd (.nd .lf 64 (some 2) .lf) 74 none .lf) 79 none (.nd .lf 83 (some 2) .lf))) 85 none (.nd (.nd (.nd (.nd .lf 87 none .lf) 88 none .lf) 90 (some 5) (.nd .lf 93 none .lf)) 95 (some 12) (.nd (.nd .lf 99 (some 3) .lf) 103 (some 2) (.nd .lf 107 none .lf))))) 115 (some 3) (.nd (.nd (.nd (.nd (.nd (.nd .lf 117 (some 5) .lf) 122 none .lf) 124 (some 4) (.nd .lf 126 (some 5) .lf)) 129 (some 2) (.nd (.nd (.nd .lf 132 none .lf) 133 none .lf) 136 (some 2) (.nd .lf 137 none .lf))) 138 none (.nd (.nd (.nd (.nd .lf 140 none .lf) 143 none .lf) 145 (some 3) (.nd .lf 149 none .lf)) 152 none (.nd (.nd (.nd .lf 154 none .lf) 156 none .lf) 160 (some 7) (.nd .lf 163 (some 6) .lf)))) 165 (some 5) (.nd (.nd (.nd (.nd (.nd .lf 166 none .lf) 167 none .lf) 169 none (.nd .lf 171 (some 3) .lf)) 173 none (.nd (.nd (.nd .lf 175 (some 12) .lf) 177 none .lf) 180 none (.nd .lf 182 (some 15) .lf))) 183 none (.nd (.nd (.nd (.nd .lf 185 (some 13) .lf) 186 none .lf) 189 none (.nd .lf 192 none .lf)) 198 none (.nd (.nd .lf 202 (some 5) .lf) 207 none (.nd .lf 210 none .lf)))))) 217 (some 5) (.nd (.nd (.nd (.nd (.nd (.nd (.nd .lf 218 none .lf) 219 none .lf) 221 (some 10) (.nd .lf 222 none .lf)) 223 none (.nd (.nd (.nd .lf 225 none .lf) 226 none .lf) 228 none (.nd .lf 230 (some 1) .lf))) 235 none (.nd (.nd (.nd (.nd .lf 236 none .lf) 238 (some 12) .lf) 240 none (.nd .lf 242 (some 1) .lf)) 245 none (.nd (.nd (.nd .lf 247 (some 3) .lf) 251 (some 1) .lf) 253 none (.nd .lf 259 none .lf)))) 262 (some 4) (.nd (.nd (.nd (.nd (.nd .lf 268 none .lf) 269 none .lf) 271 none (.nd .lf 274 none .lf)) 276 none (.nd (.nd (.nd .lf 279 none .lf) 281 none .lf) 284 none (.nd .lf 287 none .lf))) 294 (some 1) (.nd (.nd (.nd (.nd .lf 297 (some 3) .lf) 304 none .lf) 308 (some 2) (.nd .lf 310 none .lf)) 312 none (.nd (.nd .lf 314 none .lf) 319 none (.nd .lf 325 none .lf))))) 329 none (.nd (.nd (.nd (.nd (.nd (.nd .lf 331 none .lf) 336 none .lf) 338 (some 2) (.nd .lf 340 (some 2) .lf)) 343 none (.nd (.nd (.nd .lf 344 none .lf) 346 none .lf) 349 none (.nd .lf 351 none .lf))) 356 none (.nd (.nd (.nd (.nd .lf 357 none .lf) 361 (some 2) .lf) 362 none (.nd .lf 365 none .lf)) 367 (some 256) (.nd (.nd .lf 369 none .lf) 373 none (.nd .lf 379 none .lf)))) 381 (some 2) (.nd (.nd (.nd (.nd (.nd .lf 383 none .lf) 387 (some 3) .lf) 392 none (.nd .lf 393 none .lf)) 395 (some 3) (.nd (.nd (.nd .lf 396 none .lf) 398 (some 3) .lf) 401 (some 3) (.nd .lf 404 none .lf))) 405 none (.nd (.nd (.nd (.nd .lf 407 (some 1) .lf) 408 none .lf) 409 none (.nd .lf 411 (some 24) .lf)) 415 (some 20) (.nd (.nd .lf 416 (some 65) .lf) 417 (some 32) (.nd .lf 418 (some 64) .lf)))))))
  fo:=(.nd (.nd (.nd (.nd (.nd (.nd .lf 30 (.nd (.nd (.nd (.nd .lf 0 0 .lf) 1 1 .lf) 2 2 (.nd .lf 3 3 .lf)) 4 4 (.nd (.nd .lf 5 5 .lf) 6 6 (.nd .lf 7 7 .lf))) .lf) 34 (.nd (.nd .lf 0 0 .lf) 1 1 .lf) .lf) 47 (.nd (.nd (.nd .lf 0 0 .lf) 1 1 .lf) 2 2 (.nd .lf 3 3 .lf)) (.nd (.nd .lf 64 (.nd (.nd .lf 0 0 .lf) 1 1 .lf) .lf) 83 (.nd (.nd .lf 0 0 .lf) 1 1 .lf) .lf)) 90 (.nd (.nd (.nd .lf 0 0 .lf) 1 1 .lf) 2 2 (.nd (.nd .lf 3 3 .lf) 4 4 .lf)) (.nd (.nd (.nd .lf 95 (.nd (.nd (.nd .lf 0 0 .lf) 1 8 .lf) 2 9 (.nd (.nd .lf 3 10 .lf) 4 11 .lf)) .lf) 99 (.nd (.nd .lf 0 0 .lf) 1 1 (.nd .lf 2 2 .lf)) .lf) 103 (.nd (.nd .lf 0 0 .lf) 1 1 .lf) (.nd .lf 115 (.nd (.nd .lf 0 0 .lf) 1 1 (.nd .lf 2 2 .lf)) .lf))) 117 (.nd (.nd .lf 0 0 .lf) 1 1 (.nd .lf 2 2 .lf)) (.nd (.nd (.nd (.nd .lf 124 (.nd (.nd (.nd .lf 0 0 .lf) 1 1 .lf) 2 2 (.nd .lf 3 3 .lf)) .lf) 126 (.nd (.nd .lf 0 0 .lf) 1 1 .lf) .lf) 129 (.nd (.nd .lf 0 0 .lf) 1 1 .lf) (.nd (.nd .lf 136 (.nd (.nd .lf 0 0 .lf) 1 1 .lf) .lf) 145 (.nd (.nd .lf 0 0 .lf) 1 1 (.nd .lf 2 2 .lf)) .lf)) 160 (.nd (.nd (.nd .lf 0 0 .lf) 1 1 .lf) 2 2 (.nd .lf 3 3 .lf)) (.nd (.nd (.nd .lf 163 (.nd (.nd .lf 0 0 .lf) 1 1 (.nd .lf 2 2 .lf)) .lf) 165 (.nd (.nd .lf 0 0 .lf) 1 1 .lf) .lf) 171 (.nd (.nd .lf 0 0 .lf) 1 1 (.nd .lf 2 2 .lf)) (.nd .lf 175 (.nd (.nd (.nd .lf 0 0 .lf) 1 8 .lf) 2 10 (.nd .lf 3 11 .lf)) .lf)))) 182 (.nd (.nd (.nd .lf 0 0 .lf) 1 8 (.nd .lf 2 10 .lf)) 3 11 (.nd (.nd .lf 4 12 .lf) 5 13 (.nd .lf 6 14 .lf))) (.nd (.nd (.nd (.nd (.nd .lf 185 (.nd (.nd (.nd .lf 0 0 .lf) 1 8 .lf) 2 10 (.nd (.nd .lf 3 11 .lf) 4 12 .lf)) .lf) 202 (.nd (.nd (.nd .lf 0 0 .lf) 1 1 .lf) 2 2 (.nd .lf 3 3 .lf)) .lf) 217 (.nd (.nd (.nd .lf 0 0 .lf) 1 1 .lf) 2 2 (.nd (.nd .lf 3 3 .lf) 4 4 .lf)) (.nd (.nd .lf 221 (.nd (.nd .lf 0 0 .lf) 1 8 (.nd .lf 2 9 .lf)) .lf) 230 (.nd .lf 0 0 .lf) .lf)) 238 (.nd (.nd (.nd .lf 0 0 .lf) 1 8 .lf) 2 10 (.nd .lf 3 11 .lf)) (.nd (.nd (.nd .lf 242 (.nd .lf 0 0 .lf) .lf) 247 (.nd (.nd .lf 0 0 .lf) 1 1 (.nd .lf 2 2 .lf)) .lf) 251 (.nd .lf 0 0 .lf) (.nd .lf 294 (.nd .lf 0 0 .lf) .lf))) 297 (.nd (.nd .lf 0 0 .lf) 1 1 (.nd .lf 2 2 .lf)) (.nd (.nd (.nd (.nd .lf 308 (.nd (.nd .lf 0 0 .lf) 1 1 .lf) .lf) 338 (.nd (.nd .lf 0 0 .lf) 1 1 .lf) .lf) 340 (.nd (.nd .lf 0 0 .lf) 1 1 .lf) (.nd (.nd .lf 361 (.nd (.nd .lf 0 0 .lf) 1 1 .lf) .lf) 381 (.nd (.nd .lf 0 0 .lf) 1 1 .lf) .lf)) 387 (.nd (.nd .lf 0 0 .lf) 1 1 (.nd .lf 2 2 .lf)) (.nd (.nd (.nd .lf 395 (.nd (.nd .lf 0 0 .lf) 1 1 (.nd .lf 2 2 .lf)) .lf) 398 (.nd (.nd .lf 0 0 .lf) 1 1 (.nd .lf 2 2 .lf)) .lf) 401 (.nd (.nd .lf 0 0 .lf) 1 1 (.nd .lf 2 2 .lf)) (.nd .lf 407 (.nd .lf 0 0 .lf) .lf)))))
  es:=(.nd (.nd (.nd (.nd (.nd .lf 22 (129,2) .lf) 23 (136,2) (.nd .lf 24 (90,5) .lf)) 25 (160,7) (.nd (.nd .lf 26 (163,6) .lf) 27 (126,5) .lf)) 28 (165,5) (.nd (.nd (.nd .lf 31 (3,1) .lf) 32 (83,2) (.nd .lf 35 (64,2) .lf)) 39 (47,4) (.nd (.nd .lf 59 (5,1) .lf) 79 (39,1) .lf))) 88 (217,5) (.nd (.nd (.nd (.nd .lf 122 (124,4) .lf) 138 (99,3) (.nd .lf 140 (202,5) .lf)) 180 (297,3) (.nd (.nd .lf 228 (169,1) .lf) 304 (9,1) .lf)) 325 (23,1) (.nd (.nd (.nd .lf 331 (88,1) .lf) 356 (361,2) (.nd .lf 357 (356,1) .lf)) 379 (381,2) (.nd (.nd .lf 392 (398,3) .lf) 393 (401,3) .lf))))
  zs:=(.nd (.nd (.nd (.nd (.nd (.nd (.nd (.nd .lf 1 [.nfunc] .lf) 2 [(.int .i64)] .lf) 3 [(.int .i64)] (.nd .lf 4 [.bool] .lf)) 5 [(.int .u8)] (.nd (.nd (.nd .lf 9 [.str] .lf) 20 [.nif] .lf) 21 [(.int .i32)] (.nd .lf 22 [.slice] .lf))) 23 [.slice] (.nd (.nd (.nd (.nd .lf 24 [.slice] .lf) 25 [.slice] .lf) 26 [.slice] (.nd .lf 27 [.slice] .lf)) 28 [.slice] (.nd (.nd .lf 30 [.str,.slice,.slice,.slice,.slice,.slice,.slice,.slice] .lf) 31 [.slice] (.nd .lf 32 [.slice] .lf)))) 34 [.slice,.slice] (.nd (.nd (.nd (.nd (.nd .lf 35 [.slice] .lf) 39 [.slice] .lf) 40 [(.int .i64)] (.nd .lf 47 [(.int .i64),(.int .i64),(.int .i64),(.int .i64)] .lf)) 59 [.slice] (.nd (.nd (.nd .lf 62 [.nfunc] .lf) 64 [.str,.slice] .lf) 74 [.nfunc] (.nd .lf 79 [.slice] .lf))) 83 [(.int .i64),.slice] (.nd (.nd (.nd (.nd .lf 85 [.nfunc] .lf) 87 [.nfunc] .lf) 88 [.slice] (.nd .lf 90 [.str,.slice,.str,.slice,.slice] .lf)) 93 [.ptr] (.nd (.nd .lf 95 [.str,.slice,.slice,.slice,.slice,.slice,.slice,.slice,.slice,(.int .i64),.slice,(.int .i64)] .lf) 99 [.str,.str,(.int .i64)] (.nd .lf 103 [(.int .i64),(.int .i64)] .lf))))) 107 [.map] (.nd (.nd (.nd (.nd (.nd (.nd .lf 115 [(.int .i64),(.int .i64),(.int .i64)] .lf) 117 [(.int .i64),(.int .i64),(.int .i64),(.int .i64),(.int .i64)] .lf) 122 [.slice] (.nd .lf 124 [(.int .i64),(.int .i64),.str,.slice] .lf)) 126 [.str,(.int .i64),(.int .i64),.str,.slice] (.nd (.nd (.nd .lf 129 [.str,.slice] .lf) 132 [.nfunc] .lf) 133 [.nfunc] (.nd .lf 136 [.str,.str] .lf))) 137 [.nfunc] (.nd (.nd (.nd (.nd .lf 138 [.slice] .lf) 140 [.slice] .lf) 143 [.ptr] (.nd .lf 145 [.slice,(.int .i64),.bool] .lf)) 149 [.ptr] (.nd (.nd .lf 152 [.nfunc] .lf) 154 [.nfunc] (.nd .lf 156 [.nfunc] .lf)))) 160 [.str,.str,(.int .i64),(.int .i64),(.int .i64),.str,.slice] (.nd (.nd (.nd (.nd (.nd .lf 163 [.str,.str,(.int .i64),(.int .i64),.str,.slice] .lf) 165 [.str,(.int .i64),(.int .i64),.str,.slice] .lf) 166 [.ptr] (.nd .lf 167 [.ptr] .lf)) 169 [.nfunc] (.nd (.nd (.nd .lf 171 [.str,(.int .i64),(.int .i64)] .lf) 173 [.nfunc] .lf) 175 [.str,.slice,.slice,.slice,.slice,.slice,.slice,.slice,.slice,.slice,.slice,.slice] (.nd .lf 177 [.ptr] .lf))) 180 [.slice] (.nd (.nd (.nd (.nd .lf 182 [.str,.slice,.slice,.slice,.slice,.slice,.slice,.slice,.slice,.slice,(.int .i64),(.int .i64),(.int .i64),(.int .i64),.slice] .lf) 183 [.map] .lf) 185 [.str,.slice,.slice,.slice,.slice,.slice,.slice,.slice,.slice,.slice,.slice,.map,(.int .i64)] (.nd .lf 186 [.ptr] .lf)) 189 [.ptr] (.nd (.nd .lf 192 [.nfunc] .lf) 198 [.nfunc] (.nd .lf 202 [(.int .i64),.str,(.int .i64),(.int .i64),(.int .i64)] .lf)))))) 207 [.nfunc] (.nd (.nd (.nd (.nd (.nd (.nd (.nd .lf 210 [.nfunc] .lf) 217 [(.int .i64),.str,.slice,.slice,.slice] .lf) 218 [.map] (.nd .lf 219 [.map] .lf)) 221 [.str,.slice,.slice,.slice,.slice,.slice,.slice,.slice,.map,.map] (.nd (.nd (.nd .lf 222 [.nfunc] .lf) 223 [.nfunc] .lf) 225 [.nfunc] (.nd .lf 226 [.nfunc] .lf))) 228 [.slice] (.nd (.nd (.nd (.nd .lf 230 [(.int .i64)] .lf) 235 [.map] .lf) 236 [.map] (.nd .lf 238 [.str,.slice,.slice,.slice,.slice,.slice,.slice,.slice,.slice,.slice,.map,.map] .lf)) 240 [.ptr] (.nd (.nd .lf 242 [(.int .i64)] .lf) 245 [.map] (.nd .lf 247 [.ptr,.map,.bool] .lf)))) 251 [(.int .i64)] (.nd (.nd (.nd (.nd (.nd .lf 253 [.nfunc] .lf) 259 [(.int .u64)] .lf) 262 [.str,.str,.str,.str] (.nd .lf 268 [.nfunc] .lf)) 269 [.nfunc] (.nd (.nd (.nd .lf 271 [.nfunc] .lf) 274 [.nfunc] .lf) 276 [.nfunc] (.nd .lf 279 [.nfunc] .lf))) 281 [.nfunc] (.nd (.nd (.nd (.nd .lf 284 [.nfunc] .lf) 287 [.ptr] .lf) 294 [(.int .i64)] (.nd .lf 297 [(.int .i64),(.int .i64),(.int .i64)] .lf)) 304 [.slice] (.nd (.nd .lf 308 [(.int .i64),(.int .i64)] .lf) 310 [.nfunc] (.nd .lf 312 [(.int .u32)] .lf))))) 314 [(.int .u64)] (.nd (.nd (.nd (.nd (.nd (.nd .lf 319 [.nif] .lf) 325 [.slice] .lf) 329 [.nfunc] (.nd .lf 331 [.slice] .lf)) 336 [.ptr] (.nd (.nd (.nd .lf 338 [.slice,.slice] .lf) 340 [.bool,(.int .i64)] .lf) 343 [.nfunc] (.nd .lf 344 [.nfunc] .lf))) 346 [.map] (.nd (.nd (.nd (.nd .lf 349 [.nfunc] .lf) 351 [.nfunc] .lf) 356 [.slice] (.nd .lf 357 [.slice] .lf)) 361 [.str,(.int .i64)] (.nd (.nd .lf 362 [.nfunc] .lf) 365 [.nfunc] (.nd .lf 369 [.nfunc] .lf)))) 373 [.ptr] (.nd (.nd (.nd (.nd (.nd .lf 379 [.slice] .lf) 381 [(.int .i64),(.int .i64)] .lf) 383 [.ptr] (.nd .lf 387 [.str,.str,.nif] .lf)) 392 [.slice] (.nd (.nd (.nd .lf 393 [.slice] .lf) 395 [.slice,.slice,(.int .i64)] .lf) 396 [(.int .u16)] (.nd .lf 398 [(.int .u16),(.int .u16),(.int .u16)] .lf))) 401 [(.int .u32),(.int .u32),(.int .u32)] (.nd (.nd (.nd (.nd .lf 404 [.ptr] .lf) 405 [.ptr] .lf) 407 [.str] (.nd .lf 408 [.ptr] .lf)) 409 [.ptr] (.nd (.nd .lf 411 [(.int .u8),(.int .u8),(.int .u8),(.int .u8),(.int .u8),(.int .u8),(.int .u8),(.int .u8),(.int .u8),(.int .u8),(.int .u8),(.int .u8),(.int .u8),(.int .u8),(.int .u8),(.int .u8),(.int .u8),(.int .u8),(.int .u8),(.int .u8),(.int .u8),(.int .u8),(.int .u8),(.int .u8)] .lf) 415 [(.int .u64),(.int .u64),(.int .u64),(.int .u64),(.int .u64),(.int .u64),(.int .u64),(.int .u64),(.int .u64),(.int .u64),(.int .u64),(.int .u64),(.int .u64),(.int .u64),(.int .u64),(.int .u64),(.int .u64),(.int .u64),(.int .u64),(.int .u64)] (.nd .lf 417 [(.int .u8),(.int .u8),(.int .u8),(.int .u8),(.int .u8),(.int .u8),(.int .u8),(.int .u8),(.int .u8),(.int .u8),(.int .u8),(.int .u8),(.int .u8),(.int .u8),(.int .u8),(.int .u8),(.int .u8),(.int .u8),(.int .u8),(.int .u8),(.int .u8),(.int .u8),(.int .u8),(.int .u8),(.int .u8),(.int .u8),(.int .u8),(.int .u8),(.int .u8),(.int .u8),(.int .u8),(.int .u8)] .lf)))))))
  pl:=(.nd (.nd (.nd (.nd (.nd (.nd .lf 30 [(0,1),(1,1),(2,1),(3,1),(4,1),(5,1),(6,1),(7,1)] .lf) 34 [(0,1),(1,1)] .lf) 47 [(0,1),(1,1),(2,1),(3,1)] (.nd (.nd .lf 64 [(0,1),(1,1)] .lf) 83 [(0,1),(1,1)] .lf)) 90 [(0,1),(1,1),(2,1),(3,1),(4,1)] (.nd (.nd (.nd .lf 95 [(0,8),(8,1),(9,1),(10,1),(11,1)] .lf) 99 [(0,1),(1,1),(2,1)] .lf) 103 [(0,1),(1,1)] (.nd .lf 115 [(0,1),(1,1),(2,1)] .lf))) 117 [(0,1),(1,1),(2,3)] (.nd (.nd (.nd (.nd .lf 124 [(0,1),(1,1),(2,1),(3,1)] .lf) 126 [(0,1),(1,4)] .lf) 129 [(0,1),(1,1)] (.nd (.nd .lf 136 [(0,1),(1,1)] .lf) 145 [(0,1),(1,1),(2,1)] .lf)) 160 [(0,1),(1,1),(2,1),(3,4)] (.nd (.nd (.nd .lf 163 [(0,1),(1,1),(2,4)] .lf) 165 [(0,1),(1,4)] .lf) 171 [(0,1),(1,1),(2,1)] (.nd .lf 175 [(0,8),(8,2),(10,1),(11,1)] .lf)))) 182 [(0,8),(8,2),(10,1),(11,1),(12,1),(13,1),(14,1)] (.nd (.nd (.nd (.nd (.nd .lf 185 [(0,8),(8,2),(10,1),(11,1),(12,1)] .lf) 202 [(0,1),(1,1),(2,1),(3,2)] .lf) 217 [(0,1),(1,1),(2,1),(3,1),(4,1)] (.nd (.nd .lf 221 [(0,8),(8,1),(9,1)] .lf) 230 [(0,1)] .lf)) 238 [(0,8),(8,2),(10,1),(11,1)] (.nd (.nd (.nd .lf 242 [(0,1)] .lf) 247 [(0,1),(1,1),(2,1)] .lf) 251 [(0,1)] (.nd .lf 294 [(0,1)] .lf))) 297 [(0,1),(1,1),(2,1)] (.nd (.nd (.nd (.nd .lf 308 [(0,1),(1,1)] .lf) 338 [(0,1),(1,1)] .lf) 340 [(0,1),(1,1)] (.nd (.nd .lf 361 [(0,1),(1,1)] .lf) 381 [(0,1),(1,1)] .lf)) 387 [(0,1),(1,1),(2,1)] (.nd (.nd (.nd .lf 395 [(0,1),(1,1),(2,1)] .lf) 398 [(0,1),(1,1),(2,1)] .lf) 401 [(0,1),(1,1),(2,1)] (.nd .lf 407 [(0,1)] .lf)))))
  str:=(.nd .lf 9 () .lf)
  ik:=(.nd (.nd (.nd (.nd .lf 2 .i64 .lf) 3 .i64 .lf) 5 .u8 (.nd .lf 21 .i32 .lf)) 40 .i64 (.nd (.nd (.nd .lf 259 .u64 .lf) 312 .u32 .lf) 314 .u64 (.nd .lf 396 .u16 .lf))) }
def zqZ:zH.check Tryz.prog=true:=by kernel_rfl
def mixed:Tryz.prog.follows .mixedOrders=true:=by kernel_rfl
noncomputable def T:Ty Tryz.prog:=zH.ty zqZ mixed
end Hw.Gm
namespace Hw.Gm
open Go Go.Proofs Hw.M
structure Mc where
 g:List Int
 ns:List Nd
 ticks:Int
 calls:Int
 comps:Int
 acc:List (Int×Int×Int)
inductive An (α:Type) where
 |ok (v:α) (m:Mc)
 |flt (e:Int) (m:Mc)
 |out
variable {β:Type}
def An.bind{α:Type}:An α->(α->Mc->An β)->An β
 | .ok v m,f=>f v m
 | .flt e m,_=> .flt e m
 | .out,_=> .out
def ixF(l:List Fld)(s:Str):Option Nat:=l.findIdx? λf=>decide (f.n=s)
def zq0(d:zg)(s:Str):Option Nat:=d.types.findIdx? λt=>decide (t.n=s)
def zaZ(d:zg)(s:Str):Option Nat:=d.procs.findIdx? λp=>decide (p.n=s)
def atA{α:Type}(l:List α)(i:Nat)(f:α->An β):An β:=match l[i]? with
 |some x=>f x
 |none=> .out
def opA{α:Type}(o:Option α)(f:α->An β):An β:=match o with
 |some x=>f x
 |none=> .out
def ifA(p:Prop)[Decidable p](x:An β):An β:=if p then x else .out
def inB(n:Int):Prop:= -1099511627776<=n/\n<=1099511627776
instance (n:Int):Decidable (inB n):=by unfold inB;infer_instance
def zct(m:Mc)(k n f:Int)(c:Mc->An β):An β:=ifA (m.acc.length<1099511627776) (c { m with acc:=m.acc++[(k,n,f)] })
def tyO(d:zg)(vs:List Fld):Ex->Option Str
 | .mk op _ s l=>if op=4 then(match ixF vs s with
    |some i=>(vs[i]?).map (·.t)
    |none=>(ixF d.globals s).bind λi=>(d.globals[i]?).map (·.t))
   else if op=5 then(match l with
    |x::_=>(tyO d vs x).bind λt=>(zq0 d t).bind λi=>(d.types[i]?).bind λy=>(ixF y.f s).bind λj=>(y.f[j]?).map (·.t)
    | []=>none)
   else if op=6 then some s
   else if op=7 then(zaZ d s).bind λi=>(d.procs[i]?).map (·.res)
   else if op=21 then(match l with
    |_::y::z::_=>(tyO d vs y).bind λt=>if t=(⟨#[110,105,108]⟩:UB)then tyO d vs z else some t
    |_=>none)
   else if op=3 then some (⟨#[110,105,108]⟩:UB)
   else if op=2\/op=18\/op=19\/op=20\/op=14\/op=15\/op=16\/op=17 then some (⟨#[98,111,111,108]⟩:UB)
   else some (⟨#[105,110,116]⟩:UB)
def vM(m:Mc)(n:Int):An Int:=if n>1099511627776\/n< -1099511627776 then .flt 5 m else .ok n m
def wW(n:Int):Int:=if n<0 then -n else n
def znz(m:Mc)(op a b:Int):An Int:=
 if op=9 then vM m (a+b)else if op=10 then vM m (a - b)
 else if op=11 then(if ¬a=0/\wW b>Int.tdiv 1099511627776 (wW a)then .flt 5 m else .ok (a*b) m)
 else if op=12 then(if b=0 then .flt 18 m else .ok (Int.tdiv a b) m)
 else if op=13 then(if b=0 then .flt 18 m else .ok (Int.tmod a b) m)
 else if op=22 then .ok (if a<b then b else a) m else .ok (if b<a then b else a) m
def ztz(m:Mc)(op a b:Int):An Int:=ifA (inB a/\inB b) (znz m op a b)
def zcJ(b:Bool):Int:=if b then 1 else 0
def ztc(n:Int):Int:=Nat.log2 (if n<1 then 1 else n.toNat)
structure Fr where
 vs:List Fld
 va:List Int
def nmV(d:zg)(fr:Fr)(s:Str)(m:Mc):An Int:=match ixF fr.vs s with
 |some i=>atA fr.va i λv=> .ok v m
 |none=>opA (ixF d.globals s) λi=>atA m.g i λv=>zct m 1 0 i λm=> .ok v m
def fdA(d:zg)(v:Int)(s:Str)(m:Mc)(c:Nd->Nat->An β):An β:=
 ifA (0<v/\v<=1000000) (atA m.ns (v - 1).toNat λx=>ifA (0<=x.t) (atA d.types x.t.toNat λy=>opA (ixF y.f s) λi=>c x i))
def fdV(d:zg)(v:Int)(s:Str)(m:Mc):An Int:=if v=0 then .flt 17 m else fdA d v s m λx i=>atA x.f i λu=>zct m 1 v i λm=> .ok u m
def nwV(d:zg)(s:Str)(m:Mc):An Int:=if(m.ns.length:Int)≥4096 then .flt 21 m else opA (zq0 d s) λt=>atA d.types t λy=>ifA (y.f.length<=1000000)
 (zct { m with ns:=m.ns++[⟨(t:Nat),List.replicate y.f.length 0⟩] } 3 (m.ns.length+1:Nat) (t:Nat) λm1=> .ok (m.ns.length+1:Nat) m1)
def znA(m:Mc)(b:Bool):An Int:=ifA (0<=m.comps/\m.comps<1099511627776) (.ok (zcJ b) { m with comps:=m.comps+1 })
def ztd(d:zg)(fr:Fr)(x:Ex)(op a b:Int)(m:Mc):An Int:=
 if op=14\/op=15 then opA (tyO d fr.vs x) λt=>if t=(⟨#[105,110,116]⟩:UB)then znA m (decide (decide (a=b)=decide (op=14)))else .ok (zcJ (decide (decide (a=b)=decide (op=14)))) m
 else if op=16 then znA m (decide (a<b))else if op=17 then znA m (decide (a<=b))else ztz m op a b
def zbF(fuel:Int)(m:Mc)(c:Mc->An β):An β:=if m.ticks≥fuel then .flt 20 m else ifA (0<=m.ticks/\m.ticks<1099511627776) (c { m with ticks:=m.ticks+1 })
def stV(d:zg)(fr:Fr)(s:Str)(v:Int)(m:Mc):An (Option Int×Fr):=match ixF fr.vs s with
 |some i=>ifA (i<fr.va.length) (.ok (none,{ fr with va:=fr.va.set i v }) m)
 |none=>opA (ixF d.globals s) λi=>ifA (i<m.g.length) (zct m 2 0 i λm=> .ok (none,fr) { m with g:=m.g.set i v })
def ptV(d:zg)(fr:Fr)(s:Str)(n v:Int)(m:Mc):An (Option Int×Fr):=if n=0 then .flt 17 m else fdA d n s m λx i=>
 ifA (i<x.f.length) (zct m 2 n i λm=> .ok (none,fr) { m with ns:=m.ns.set (n - 1).toNat ⟨x.t,x.f.set i v⟩ })
mutual
def exV(d:zg)(fuel:Int)(fr:Fr):Nat->Ex->Mc->An Int
 |0,_,_=> .out
 |k+1,e,m=>
  if e.op=1\/e.op=2 then .ok e.n m else if e.op=3 then .ok 0 m
  else if e.op=4 then nmV d fr e.s m
  else if e.op=5 then(atA e.l 0 λx=>exV d fuel fr k x m).bind λv m=>fdV d v e.s m
  else if e.op=6 then nwV d e.s m
  else if e.op=7 then clV d fuel fr k e m
  else if e.op=8 then(atA e.l 0 λx=>exV d fuel fr k x m).bind λv m=>ifA (inB v) (vM m (-v))
  else if e.op=24 then(atA e.l 0 λx=>exV d fuel fr k x m).bind λv m=>ifA (inB v) (.ok (ztc v) m)
  else if e.op=18 then(atA e.l 0 λx=>exV d fuel fr k x m).bind λv m=>ifA (inB v) (.ok (1 - v) m)
  else if e.op=19 then(atA e.l 0 λx=>exV d fuel fr k x m).bind λv m=>if v=0 then .ok 0 m else atA e.l 1 λy=>exV d fuel fr k y m
  else if e.op=20 then(atA e.l 0 λx=>exV d fuel fr k x m).bind λv m=>if v=1 then .ok 1 m else atA e.l 1 λy=>exV d fuel fr k y m
  else if e.op=21 then(atA e.l 0 λx=>exV d fuel fr k x m).bind λv m=>if v=1 then atA e.l 1 λy=>exV d fuel fr k y m else atA e.l 2 λy=>exV d fuel fr k y m
  else atA e.l 0 λx=>(exV d fuel fr k x m).bind λa m=>(atA e.l 1 λy=>exV d fuel fr k y m).bind λb m=>ztd d fr x e.op a b m
def exsV(d:zg)(fuel:Int)(fr:Fr):Nat->List Ex->Mc->An (List Int)
 |0,_,_=> .out
 |_+1,[],m=> .ok [] m
 |k+1,x::r,m=>(exV d fuel fr k x m).bind λv m=>(exsV d fuel fr k r m).bind λl m=> .ok (v::l) m
def clV(d:zg)(fuel:Int)(fr:Fr):Nat->Ex->Mc->An Int
 |0,_,_=> .out
 |k+1,e,m=>ifA (e.l.length<=1000000) ((exsV d fuel fr k e.l m).bind λa m=>opA (zaZ d e.s) λi=>atA d.procs i λp=>rnV d fuel k p a m)
def rnV(d:zg)(fuel:Int):Nat->Pr->List Int->Mc->An Int
 |0,_,_,_=> .out
 |k+1,p,a,m=>if m.calls≥200 then .flt 19 m else ifA (0<=m.calls/\a.length<=1000000/\p.params.length<=100000/\p.locs.length<=100000)
   ((ssV d fuel k ⟨p.params++p.locs,a++List.replicate p.locs.length 0⟩ p.body { m with calls:=m.calls+1 }).bind λq m=>ifA (0<m.calls/\m.calls<=1000) (.ok (q.1.getD 0) { m with calls:=m.calls - 1 }))
def ssV(d:zg)(fuel:Int):Nat->Fr->List Sm->Mc->An (Option Int×Fr)
 |0,_,_,_=> .out
 |_+1,fr,[],m=> .ok (none,fr) m
 |k+1,fr,x::r,m=>(sV d fuel k fr x m).bind λq m=>match q.1 with
  |some v=> .ok (some v,q.2) m
  |none=>ssV d fuel k q.2 r m
def sV(d:zg)(fuel:Int):Nat->Fr->Sm->Mc->An (Option Int×Fr)
 |0,_,_,_=> .out
 |k+1,fr,x,m=>zbF fuel m λm=>
  if x.op=1 then(atA x.e 0 λy=>exV d fuel fr k y m).bind λv m=>stV d fr x.s v m
  else if x.op=2 then(atA x.e 0 λy=>exV d fuel fr k y m).bind λn m=>(atA x.e 1 λy=>exV d fuel fr k y m).bind λv m=>ptV d fr x.s n v m
  else if x.op=3 then(atA x.e 0 λy=>exV d fuel fr k y m).bind λv m=>if v=1 then ssV d fuel k fr x.l m else ssV d fuel k fr x.els m
  else if x.op=4 then atA x.e 0 λy=>whV d fuel k fr y x.l m
  else if x.op=5 then(if x.e.length=0 then .ok (some 0,fr) m else(atA x.e 0 λy=>exV d fuel fr k y m).bind λv m=> .ok (some v,fr) m)
  else if x.op=6 then(atA x.e 0 λy=>clV d fuel fr k y m).bind λ_ m=> .ok (none,fr) m
  else .ok (none,fr) m
def whV(d:zg)(fuel:Int):Nat->Fr->Ex->List Sm->Mc->An (Option Int×Fr)
 |0,_,_,_,_=> .out
 |k+1,fr,c,l,m=>(exV d fuel fr k c m).bind λv m=>if v=1 then((ssV d fuel k fr l m).bind λq m=>match q.1 with
   |some r=> .ok (some r,q.2) m
   |none=>zbF fuel m λm=>whV d fuel k q.2 c l m)else .ok (none,fr) m
end
end Hw.Gm
namespace Hw
open Go
def chn(v:Value):List PanicEntry:=[{ v:=v,recovered:=false }]
def zU(P:Program)(f:FuncId)(args:List S)(R:RL)(pv:Value)(R':RL):Prop:=
 jC P f/\ ∀(M:Mem) (ρ:Nat->Value) (w:World) (xs:List Value),RepSs M ρ args xs->xY M ρ w (tb R)->Imm M w->GOk M w->
  Calls P f xs.toArray w λe w'=> ∃M' ρ',e= .panicked (chn pv)/\Ret M ρ w R .un R' undef M' ρ' w'
def zpG(P:Program)(all:Array Oper)(o:Oper)(rs:zd)(rt:RL)(fr:List Nat)(pv:Value)(wt:Tab):Prop:=
 ∀(C:Ctx) (st:St) (M:Mem) (ρ:Nat->Value) (a:Act) (w:World),Holds C st M ρ a w->okS rs st->okT rt st->okF C fr st->
  ∀(K:Act->World->Prop) (Q:Exit->Act->World->Prop),(∀M' ρ' w',Holds C ⟨st.n,st.sl,wt++st.tab⟩ M' ρ' a w'->Q (.panic (chn pv)) a w')->
   if Region.wanted o (yielded all a.tmps)then o.wp P a w K Q else K (a.put o.dst undef) w
def PnO(P:Program)(o:Oper)(rs:zd)(rt:RL)(fr:List Nat)(pv:Value)(wt:Tab):Prop:=
 ∀(C:Ctx) (st:St) (M:Mem) (ρ:Nat->Value) (a:Act) (w:World),Holds C st M ρ a w->okS rs st->okT rt st->okF C fr st->
  ∀(K:Act->World->Prop) (Q:Exit->Act->World->Prop),(∀M' ρ' w',Holds C ⟨st.n,st.sl,wt++st.tab⟩ M' ρ' a w'->Q (.panic (chn pv)) a w')->o.wp P a w K Q
variable {P:Program}{af:Array Edge}{all:Array Oper}{d:Option Nat}{g:Option (Nat×Bool)}{gs rs:zd}{ps:String}{pv:Value}{rt:RL}{tab wt:Tab}
theorem zdn{sl:zd}{op:Op}{ty:TypeId}{fr:List Nat}
 (J:metL all sl g=some gs) (hL:PnO P ⟨d,op,ty,ps,af,g⟩ rs rt fr pv wt) {n:Nat} :zpG P all ⟨d,op,ty,ps,af,g⟩ (gs++rs) rt fr pv wt/\okS gs ⟨n,sl,tab⟩:=by
 cases g with
 |none=>
  simp only[metL,ui]at J;subst J;refine⟨λC st M ρ a w U h1 h2 h3 K Q hk=>?_,uh⟩;simp only[Region.wanted,uX];exact hL C st M ρ a w U h1 h2 h3 K Q hk
 |some p=>
  obtain⟨j,want⟩:=p;simp only[metL]at J;split at J
  ·rename_i t ht;split at J
   ·rename_i c hc;split at J
    ·rename_i hw;simp only[ui]at J;subst J;refine⟨λC st M ρ a w U h1 h2 h3 K Q hk=>?_,hc,uh⟩;have hw':=vm.wanted (ops:=all) (o:=⟨d,op,ty,ps,af,some (j,want)⟩) (t:=t) (gs:=Bo c) (b:=zbG want c) ⟨j,want,rfl,ht,.inl ⟨c,rfl,rfl⟩⟩ (U.slots t _ h1.1);rw[hw',hw,uw rfl];exact hL C st M ρ a w U h1.2 h2 h3 K Q hk
    ·cases J
   ·cases J
  ·cases J
variable {args:List S}{f:FuncId}{ts:Array TypeId}{x:Operand}
section
variable {ty:TypeId}
def zf3{R R':RL}(h:zU P f args R pv R')(σ:Nat->Nat){l:List Operand}{first caps:List V}{ss:List S}
 (hx:okc x (.one (.cl f first caps))) (hl:zes l ss) (hle:zI (ones first++ss++ones caps) (Ss.ren σ args)) (hi:injB σ R.ids=true) (hi2:injB σ R'.ids=true)
 (hcR:xH (R.ids++R'.ids) R'=true):
 PnO P ⟨d,.call ⟨.value x,l.toArray,ts⟩,ty,ps,af,g⟩ (rq x (.one (.cl f first caps))++rqs l ss) (R.ren σ) ((zP R R').map σ) pv (tb (R'.ren σ)++xp (R.ids.map σ)):=by
 intro C st M ρ a w J U hT hF K Q hk;rw[za]at U;have e1:=J.evS (zt hx U.1);have e2:=J.zhu (wU hl U.2);simp only[RepS,RepV]at e1;obtain⟨xs,ys,e3,e4,e5⟩:=e1
 have e6:RepSs M (λi=>ρ (σ i)) args (xs++l.map a.eval++ys):=
  (RepSs.ren _ _).1 (hle _ _ _ (yu (yu (yA e4) e2) (yA e5)))
 have tk: ∀i r,tg (tb R) i=some r->tg st.tab (σ i)=some (r.ren σ):=λi r hm=>xi hT (zbH (zK hm))
 have e7:xY M (λi=>ρ (σ i)) w (tb R):=⟨λi r hr=>(J.zH.res _ _ (tk i r hr)).ren,
  λi j ri rj b U h2 hne hb1 hb2=>J.zH.dis _ _ _ _ b (tk i ri U) (tk j rj h2) (yB hi i j (zL (zK U)) (zL (zK h2)) hne) hb1 hb2,
  λi r b U hb=>J.zH.own _ _ b (tk i r U) hb⟩
 unfold Oper.wp;rw[zbk h.1 e3,Oper.upon_enter];refine Calls.mono (h.2 M _ w _ e6 e7 J.run.imm J.gok) λe w' ⟨M',ρ',he,hr⟩=>?_;subst he
 have hi3:injB σ (zP R R')=true:=by
  have key: ∀(l:List Nat) (p:Nat->Bool),injB σ l=true->injB σ (l.filter p)=true:=by
   intro l p
   induction l with
   |nil=>exact λh=>h
   |cons y ys ih=>
    intro h;simp only[injB,um,List.all_eq_true]at h;simp only[qY];split
    ·simp only[injB,um,List.all_eq_true];exact⟨λz hz=>h.1 z (qN.1 hz).1,ih h.2⟩
    ·exact ih h.2
  exact key _ _ hi2
 obtain⟨ρ3,h3⟩:=J.called (d:=none) hr hT hi3 hi2 hF rfl hcR rfl;exact hk _ _ _ h3
def zq1{t:TypeId}{v:Value}(hx:okc x (.one (.p (.k (.iface t v))))):PnO P ⟨d,.panic x,ty,ps,af,g⟩ (rq x (.one (.p (.k (.iface t v))))) [] [] (.iface t v) []:=by
 intro C st M ρ a w U h1 hT hF K Q hk;have e:=U.k (zt hx h1);unfold Oper.wp
 have J:(execOp a.eval ⟨d,.panic x,ty,ps,af,g⟩).run P w= .halt (.panic (.iface t v)) w:=by
  simp[execOp,e,run_panic_iface]
 rw[J,Oper.upon_panic];exact hk M ρ w U
end
def wX(all:Array Oper)(ms:List Nat)(st:St)(l:List Law):Bool:=allLt (checkAt all ms st l) l.length
variable {C:Ctx}{D:Nat->Bool}{K:Act->World->Prop}{L:Law}{M:Mem}{Q:Exit->Act->World->Prop}{a:Act}{i:Nat}{kp:RL}{o:Oper}{st:St}{w:World}{ρ:Nat->Value}
section
variable {l:List Law} {ms:List Nat}
def yC(hc:wX all ms st l=true)(hi:i<l.length): ∃o L,all[i]?=some o/\at? l i=some L/\(∀p∈zS o,p<i)/\
 (∀j,j<i->zbf (nth ms i) j=true-> ∃p∈zS o,p=j\/(j<p/\zbf (nth ms p) j=true))/\
 (∀j X,j<i->at? l j=some X->(zbf (nth ms i) j=true\/(apart X L=true/\apart L X=true))/\ ∀id∈L.fr,noL id X=true)/\
 (∀id∈L.fr,100<=id/\freshB id st=true):=by
 have h:=ym hc i hi;unfold checkAt at h;split at h
 ·rename_i o L ho hL;simp only[um]at h;refine⟨o,L,ho,hL,λp hp=>by have:=zE h.1.1.1 p hp;simp_all,λj J hb=>?_,λj X J hX=>?_,λid U=>?_⟩
  ·have:=ym h.1.1.2 j J;simp only[hb,qm,tw]at this;exact anyB_pred this
  ·have:=ym h.1.2 j J;simp only[hX,um,uO]at this;exact⟨this.1,zE this.2⟩
  ·have:=zE h.2 id U
   simp_all
 ·cases h
where
 anyB_pred {ms:List Nat} {j:Nat}: ∀ {l:List Nat},anyB (λp=>Nat.beq p j||(Nat.blt j p&&zbf (nth ms p) j)) l=true-> ∃p∈l,p=j\/(j<p/\zbf (nth ms p) j=true)
  | [],h=>by cases h
  |y::ys,h=>by
   simp only[anyB,uO,um]at h;rcases h with(h|h)|h
   ·simp_all
   ·simp_all
   ·obtain⟨p,h1,h2⟩:=anyB_pred h;grind
theorem xJ(hc:wX all ms st l=true)(hD:Down all D): ∀(i:Nat),i<l.length-> ∀o,all[i]?=some o->(∀p∈zS o,D p=true)-> ∀j,j<i->zbf (nth ms i) j=true->D j=true:=by
 intro i
 induction i using Nat.strongRecOn with
 |_ i ih=>
  intro hi o ho hp j hj hb;obtain⟨o',L,J,hL,hlt,hbit,_⟩:=yC hc hi;rw[ho]at J;simp only[ui]at J;subst J;obtain⟨p,U,h1⟩:=hbit j hj hb;rcases h1 with rfl|⟨hjp,h1⟩
  ·exact hp p U
  ·have hpi:=hlt p U;obtain⟨op,_,hop,_⟩:=yC hc (i:=p) ua;exact ih p hpi ua _ hop (hD p _ hop (hp p U)) j hjp h1
def jO(hc:wX all ms st l=true)(hD:Down all D)(hi:i<l.length)(ho:all[i]?=some o)(hn:D i=false)(hp: ∀p∈zS o,D p=true)
 (hL:at? l i=some L) {j:Nat} {X:Law} (hX:at? l j=some X) (J:D j≠decide (j<i)) (hji:j≠i):apart X L=true/\apart L X=true:=by
 have hj:j<l.length:=xZ hX;rcases tu j i with h|h
 ·have hDj:D j=false:=by
   cases e:D j
   ·rfl
   ·rw[e,uT h]at J;exact absurd rfl J
  obtain⟨o',L',ho',U,_,_,h3,_⟩:=yC hc hi;rw[hL]at U;simp only[ui]at U;subst U;rcases(h3 j X h hX).1 with h4|h4
  ·have:=xJ hc hD i hi o ho hp j h h4;simp_all
  ·exact h4
 ·have hDj:D j=true:=by
   cases e:D j
   ·rw[e,uF ua]at J;exact absurd rfl J
   ·rfl
  obtain⟨oj,Lj,hoj,hLj,_,_,h3,_⟩:=yC hc hj;rw[hX]at hLj;simp only[ui]at hLj;subst hLj;rcases(h3 i L ua hL).1 with h4|h4
  ·have:=xJ hc hD j hj oj hoj (hD j oj hoj hDj) i ua h4;simp_all
  simp_all
def zj9(hd:wI P all st l)(hc:wX all ms st l=true)(hD:Down all D)(hi:i<l.length)(ho:all[i]?=some o)(hn:D i=false)(hp: ∀p∈zS o,D p=true)
 (hC:C.low) (hH:Holds C (apps st (sel D l)) M ρ a w) 
 (hk: ∀a' w' M' ρ',Holds C (apps st (sel (zfV D i) l)) M' ρ' a' w'->K a' w'):if Region.wanted o (yielded all a.tmps)then o.wp P a w K Q else K (a.put o.dst undef) w:=by
 obtain⟨o',L,J,hL,_,_,h3,h4⟩:=yC hc hi;rw[ho]at J;simp only[ui]at J;subst J;obtain⟨o',J,hstep,hdst,hS,hT,hdk⟩:=hd.at hL;rw[ho]at J;simp only[ui]at J;subst J;have ap: ∀j X,at? l j=some X->D j≠decide (j<i)->j≠i->apart X L=true/\apart L X=true:=λj X U hne hji=>jO hc hD hi ho hn hp hL U hne hji
 have eqi: ∀j X,at? l j=some X->(apart X L=true->False)->D j=decide (j<i):=λj X U hno=>by
  by_cases hji:j=i
  ·subst hji;rw[hn];simp
  ·by_cases hne:D j=decide (j<i)
   ·exact hne
   ·exact(hno (ap j X U hne hji).1).elim
 have hS':okS L.rs (apps st (sel D l)):=jD hS λk hk=>j9 λj X U hw=>eqi j X U λh=>by have:=(wY h hw).1;rw[hk]at this;cases this
 have hT':okT L.rt (apps st (sel D l)):=wZ hT λk hk=>vX λj X U hw=>eqi j X U λh=>by have:=(x8 h hw).1;rw[hk]at this;cases this
 have hF':okF C L.fr (apps st (sel D l)):=by
  have one: ∀id∈L.fr,wv C id (apps st (sel D l)):=λid hid=>by
   refine xK (h4 id hid).2 (by
    cases e:tg C.tab0 id with
    |none=>rfl
    |some r=>have:=hC id r e;have:=(h4 id hid).1;omega) λX U=>?_
   obtain⟨j,hj,hX'⟩:=jP U;rcases tu j i with h|h
   ·exact(h3 j X h hX').2 id hid
   ·have hji:j≠i:=λe=>by subst e;rw[hn]at hj;cases hj
    exact zbl (ap j X hX' (by rw[hj,uF ua];simp) hji).1 id hid
  have: ∀fr:List Nat,(∀id∈fr,wv C id (apps st (sel D l)))->okF C fr (apps st (sel D l)):=λfr=>by
   induction fr with
   |nil=>exact λ_=>trivial
   |cons x xs ih=>exact λh=>⟨h x ue,ih λid hid=>h id (u3 _ hid)⟩
  exact this _ one
 refine hstep C _ M ρ a w hH hS' hT' hF' (by rw[wk,<-hdst];exact hdk) K Q λa' w' M' ρ' hH'=>hk a' w' M' ρ' (hH'.ext ?_ ?_ ?_)
 ·rw[wk];simp only[app,wk]
 ·intro k
  have e0:sg (app o.dst L.v L.wt (apps st (sel D l))).sl k=if wr L k=true then some L.v else sg (apps st (sel D l)).sl k:=by
   rw[<-hdst];exact vb st L (sel D l) k
  rw[e0];by_cases hw:wr L k=true
  ·rw[uw hw]
   exact zdo hL (zY D i) hw λj X U hij hDj=>by
    rw[zz ua]at hDj;cases hx:wr X k with
    |false=>rfl
    |true=>
     have:=(wY (ap j X U (by rw[hDj,uF ua];simp) ua).1 hx).2
     simp_all
  ·rw[ur hw]
   exact j9 λj X U hx=>zz λe=>by
    simp_all
 ·intro k;cases hw:wrT L k with
  |true=>
   simp only[app]
   exact zbm hL (zY D i) hw λj X U hij hDj=>by
    rw[zz ua]at hDj;cases hx:wrT X k with
    |false=>rfl
    |true=>
     have:=(x8 (ap j X U (by rw[hDj,uF ua];simp) ua).1 hx).2
     simp_all
  |false=>
   simp only[app];rw[yR hw]
   exact vX λj X U hx=>zz λe=>by
    simp_all
def checkP(all:Array Oper)(ms:List Nat)(st:St)(l:List Law)(L:Law)(kp:List Nat):Bool:=
 match all[l.length]? with
 |some o=>
  allB (λp=>Nat.blt p l.length) (zS o)&&
  allLt (λj=> !zbf (nth ms l.length) j||anyB (λp=>Nat.beq p j||(Nat.blt j p&&zbf (nth ms p) j)) (zS o)) l.length&&
  allLt (λj=>match at? l j with
   |some X=>(zbf (nth ms l.length) j||(apart X L&& !anyB (λi=>hasB i kp) (keysT X.wt)))&&allB (λid=>noL id X) L.fr
   |none=>false) l.length&&
  allB (λid=>Nat.ble 100 id&&freshB id st) L.fr&&
  allLt (λq=>match all[q+l.length+1]? with
   |some o'=>allB (λp=>Nat.blt p (q+l.length+1)) (zS o')&&anyB (λp=>Nat.ble l.length p) (zS o')
   |none=>true) (all.size - l.length)
 |none=>false
def Holds.drop{st':St}(h:Holds C st M ρ a w)(U:st'.n=st.n)(hs: ∀k s,sg st'.sl k=some s->sg st.sl k=some s)(J: ∀i r,tg st'.tab i=some r->tg st.tab i=some r):Holds C st' M ρ a w where
 dfr:=h.dfr
 sz:=by rw[U];exact h.sz
 slots:=λk s e=>h.slots k s (hs k s e)
 zH:=⟨λi r e=>h.zH.res i r (J i r e),λi j ri rj b e1 e2=>h.zH.dis i j ri rj b (J i ri e1) (J j rj e2),λi r b e=>h.zH.own i r b (J i r e)⟩
 ownf:=λi r b e=>h.ownf i r b (J i r e)
 run:=h.run
 keep:=h.keep
theorem zq2(hc:wX all ms st l=true)(hp:checkP all ms st l L kp.ids=true)(ho:all[l.length]?=some o)(hL:zpG P all o L.rs L.rt L.fr pv L.wt)
 (hS:okS L.rs (apps st l)) (hT:okT L.rt (apps st l)) (hK:okT kp (apps st l)) (hC:C.low) (hD:Down all D) (hpr: ∀p∈zS o,D p=true)
 (hH:Holds C (apps st (sel D l)) M ρ a w) 
 (hQ: ∀a w M ρ,Holds C ⟨st.n,[],L.wt++tb kp⟩ M ρ a w->Q (.panic (chn pv)) a w):if Region.wanted o (yielded all a.tmps)then o.wp P a w K Q else K (a.put o.dst undef) w:=by
 unfold checkP at hp;rw[ho]at hp;simp only[um]at hp;obtain⟨⟨⟨⟨_,h2⟩,h3⟩,h4⟩,_⟩:=hp
 have ran: ∀j,j<l.length->zbf (nth ms l.length) j=true->D j=true:=λj hj hb=>by
  have:=ym h2 j hj;simp only[hb,qm,tw]at this;obtain⟨p,hpm,h⟩:=yC.anyB_pred this;rcases h with rfl|⟨hjp,h⟩
  ·exact hpr p hpm
  ·have hlt:p<l.length:=by
    have:=zE (p:=λp=>Nat.blt p l.length) uf p hpm;simpa [tI]using this
   obtain⟨op,_,hop,_⟩:=yC hc (i:=p) hlt;exact xJ hc hD p hlt op hop (hD p op hop (hpr p hpm)) j hjp h
 have two: ∀j X,at? l j=some X->(zbf (nth ms l.length) j=true\/(apart X L=true/\anyB (λi=>hasB i kp.ids) (keysT X.wt)=false))/\ ∀id∈L.fr,noL id X=true:=λj X J=>by
  have:=ym h3 j (xZ J);simp only[J,um,uO,uy]at this;exact⟨this.1,zE this.2⟩
 have full:sel (λj=>decide (j<l.length)) l=l:=za0 (uJ _)
 have hS':okS L.rs (apps st (sel D l)):=jD hS λk hk=>by
  have e:sg (apps st (sel D l)).sl k=sg (apps st (sel (λj=>decide (j<l.length)) l)).sl k:=j9 λj X J hw=>by
   rw[uT (xZ J)];rcases(two j X J).1 with h|h
   ·exact ran j (xZ J) h
   ·have:=(wY h.1 hw).1;rw[hk]at this;cases this
  rw[full]at e;exact e
 have hT':okT L.rt (apps st (sel D l)):=wZ hT λk hk=>by
  have e:tg (apps st (sel D l)).tab k=tg (apps st (sel (λj=>decide (j<l.length)) l)).tab k:=vX λj X J hw=>by
   rw[uT (xZ J)];rcases(two j X J).1 with h|h
   ·exact ran j (xZ J) h
   ·have:=(x8 h.1 hw).1;rw[hk]at this;cases this
  rw[full]at e;exact e
 have hK':okT kp (apps st (sel D l)):=wZ hK λk hk=>by
  have e:tg (apps st (sel D l)).tab k=tg (apps st (sel (λj=>decide (j<l.length)) l)).tab k:=vX λj X J hw=>by
   rw[uT (xZ J)];rcases(two j X J).1 with h|h
   ·exact ran j (xZ J) h
   ·have:=jq h.2 k hw;rw[hk]at this;cases this
  rw[full]at e;exact e
 have hF':okF C L.fr (apps st (sel D l)):=by
  have one: ∀id∈L.fr,wv C id (apps st (sel D l)):=λid U=>by
   have:=zE h4 id U;simp only[um]at this
   refine xK this.2 (by
    cases e:tg C.tab0 id with
    |none=>rfl
    |some r=>have:=hC id r e;have:=uS (by assumption:Nat.ble 100 id=true/\_).1;omega) λX J=>?_
   obtain⟨j,_,hX'⟩:=jP J;exact(two j X hX').2 id U
  have: ∀fr:List Nat,(∀id∈fr,wv C id (apps st (sel D l)))->okF C fr (apps st (sel D l)):=λfr=>by
   induction fr with
   |nil=>exact λ_=>trivial
   |cons x xs ih=>exact λh=>⟨h x ue,ih λid U=>h id (u3 _ U)⟩
  exact this _ one
 refine hL C _ M ρ a w hH hS' hT' hF' K Q λM' ρ' w' hH'=>hQ a w' M' ρ' (hH'.drop (by rw[wk]) (λk s e=>by cases e) λi r e=>?_)
 cases hk:hasB i (keysT L.wt)with
 |true=>
  have e:tg (L.wt++tb kp) i=some r:=e;show tg (L.wt++(apps st (sel D l)).tab) i=some r;rw[<-e];exact wx hk
 |false=>
  have e:tg (L.wt++tb kp) i=some r:=e;show tg (L.wt++(apps st (sel D l)).tab) i=some r;rw[yR hk]at e⊢;exact xi hK' (zK e)
def zka{id:Nat}(hm:P.follows .mixedOrders=true)(hd:wI P all st l)(hc:wX all ms st l=true)(hp:checkP all ms st l L kp.ids=true)(ho:all[l.length]?=some o)(hL:zpG P all o L.rs L.rt L.fr pv L.wt)
 (hS:okS L.rs (apps st l)) (hT:okT L.rt (apps st l)) (hK:okT kp (apps st l)) (hC:C.low)
 (hQ: ∀a w M ρ,Holds C ⟨st.n,[],L.wt++tb kp⟩ M ρ a w->Q (.panic (chn pv)) a w)
 (hH:Holds C st M ρ a w):(Code.region id all true).wp P Q a w:=by
 have hsz:l.length<all.size:=(tz.1 ho).1;have hp0:=hp;unfold checkP at hp0;rw[ho]at hp0;simp only[um]at hp0;obtain⟨⟨⟨⟨h1,_⟩,_⟩,_⟩,h5⟩:=hp0
 have main: ∀(fuel:Nat) (listed:Array Bool) (M:Mem) (ρ:Nat->Value) (a:Act) (w:World),listed.size=all.size->left (λj=>listed.getD j false) all.size=fuel->Down all (λj=>listed.getD j false)->
  (∀k,l.length<=k->listed.getD k false=false)->Holds C (apps st (sel (λj=>listed.getD j false) l)) M ρ a w->wpAny P .any all Q fuel listed a w:=by
  intro fuel
  induction fuel with
  |zero=>
   intro listed M ρ a w hs hl hD hno hH;have:=vY hl l.length hsz;rw[hno l.length (uJ _)]at this;cases this
  |succ fuel ih=>
   intro listed M ρ a w hs hl hD hno hH;refine⟨λhr=>?_,λi hi=>?_⟩
   ·exfalso
    have fullj: ∀j,j<=l.length->listed.getD j false=true:=by
     intro j
     induction j using Nat.strongRecOn with
     |_ j ih=>
      intro hj;cases e:listed.getD j false with
      |true=>rfl
      |false=>
       obtain⟨oj,hoj,U⟩: ∃oj,all[j]?=some oj/\ ∀p∈zS oj,p<j:=by
        by_cases h:j=l.length
        ·subst h;exact⟨o,ho,λp hp=>by have:=zE h1 p hp;simpa [tI]using this⟩
        ·obtain⟨oj,_,h1,_,h2,_⟩:=yC hc (i:=j) ua;exact⟨oj,h1,h2⟩
       have:j∈Region.ready .any all listed:=mem_ready.2 ⟨by
        have U:j<listed.size:=by omega
        simp only[Array.getD,U,oB]at e ⊢; exact e,oj,hoj,λe' he hb=>ih e'.on (U _ (x9 he hb)) (by have:=U _ (x9 he hb);omega)⟩
       rw[hr]at this;cases this
    have:=fullj l.length (uJ _);rw[hno l.length (uJ _)]at this;cases this
   ·obtain⟨h1,oi,J,hall⟩:=mem_ready.1 hi;have hx:i<all.size:=(tz.1 J).1;have U:i<listed.size:=by omega
    have hn:listed.getD i false=false:=by simp only[Array.getD,U,oB]at h1 ⊢; exact h1
    have hput: ∀j,(listed.setIfInBounds i true).getD j false=zfV (λj=>listed.getD j false) i j:=λj=>by
     by_cases e:j=i
     ·subst e;simp[zY,U]
     ·rw[zz e,getD_set_ne false (λh=>e h.symm)]
    have hput':(λj=>(listed.setIfInBounds i true).getD j false)=zfV (λj=>listed.getD j false) i:=funext hput
    have hpr: ∀p∈zS oi,listed.getD p false=true:=λp hp=>by
     obtain⟨e,he,hb,rfl⟩:=zbn hp;exact hall e he hb
    unfold wpOp;simp only[J]
    have key:if Region.wanted oi (yielded all a.tmps)then oi.wp P a w (wpAny P .any all Q fuel (listed.setIfInBounds i true)) Q else wpAny P .any all Q fuel (listed.setIfInBounds i true) (a.put oi.dst undef) w:=by
     rcases Nat.lt_trichotomy i l.length with h|h|h
     ·refine zj9 hd hc hD h J hn hpr hC hH λa' w' M' ρ' hH'=>?_;refine ih _ M' ρ' a' w' (by simpa using hs) ?_ ?_ ?_ ?_
      ·rw[hput'];have:=zaa (D:=λj=>listed.getD j false) hn (n:=all.size);rw[uw hx]at this;omega
      ·rw[hput'];intro k ok hk hDk p hpk;by_cases e:k=i
       ·subst e;rw[J]at hk;simp only[ui]at hk;subst hk;by_cases e2:p=k
        ·subst e2;exact zY _ _
        ·rw[zz e2];exact hpr p hpk
       ·rw[zz e]at hDk;have:=hD k ok hk hDk p hpk;by_cases e2:p=i
        ·subst e2;exact zY _ _
        ·rw[zz e2];exact this
      ·intro k hk;rw[hput,zz ua];exact hno k hk
      ·rw[hput'];exact hH'
     ·subst h;rw[ho]at J;simp only[ui]at J;subst J;exact zq2 hc hp ho hL hS hT hK hC hD hpr hH hQ
     ·exfalso;have:=ym h5 (i - l.length - 1) ua;rw[show i - l.length - 1+l.length+1=i by omega,J]at this;simp only[um]at this
      have any: ∀ {ps:List Nat},anyB (λp=>Nat.ble l.length p) ps=true-> ∃p∈ps,l.length<=p:=by
       intro ps
       induction ps with
       |nil=>intro h;cases h
       |cons y ys ih=>
        intro h;simp only[anyB,uO]at h;rcases h with h|h
        ·exact⟨y,ue,uS h⟩
        ·obtain⟨p,h1,h2⟩:=ih h;exact⟨p,u3 _ h1,h2⟩
      obtain⟨p,hpm,hge⟩:=any this.2;have:=hpr p hpm;rw[hno p hge]at this;cases this
    split
    ·rename_i hw;rw[uw hw]at key;exact .inl key
    ·rename_i hw;rw[ur hw]at key;exact key
 have h0: ∀j,(Array.replicate all.size false).getD j false=false:=λj=>by
  by_cases h:j<all.size
  ·simp[h]
  ·simp[h]
 have h0':(λj=>(Array.replicate all.size false).getD j false)=λ_=>false:=funext h0
 refine wp_region_any hm (main _ _ M ρ a _ ue ?_ ?_ (λk _=>h0 k) ?_)
 ·rw[h0']
  have: ∀n,left (λ_=>false) n=n:=λn=>by
   induction n with
   |zero=>rfl
   |succ n ih=>simp only[left,ih];omega
  exact this _
 ·rw[h0'];intro i o _ h;cases h
 ·rw[h0',jr λ_ _=>rfl];exact hH.grow (λ_ _=>rfl) (uJ _) rfl rfl rfl
end
variable {done:List Law}{sl0:zd}{tab0:Tab}
section
variable {k:List Frm} {n:Nat} {sl:zd} {Q:Exit->St->Prop} {rest:List Oper}
def pick(tab:Tab):List Nat->RL
 | []=>[]
 |i::l=>match tg tab i with
  |some r=>(i,r)::pick tab l
  |none=>pick tab l
theorem zdp{n:Nat}{sl:zd}{tab:Tab}: ∀ {l:List Nat},okT (pick tab l) ⟨n,sl,tab⟩
 | []=>trivial
 |i::l=>by
  simp only[pick];split
  ·rename_i r h;exact⟨h,zdp⟩
  ·exact zdp
def zwg(T:Ty P){fr:List Nat}(hC:C.low)(ks:List Nat)(hL:zpG P all o rs rt fr pv wt)(hS:okS rs ⟨n,sl,tab⟩)(hT:okT rt ⟨n,sl,tab⟩)
 (hc:wX all (vc all.toList []) ⟨n,sl0,tab0⟩ done=true) (hp:checkP all (vc all.toList []) ⟨n,sl0,tab0⟩ done ⟨none,rs,rt,fr,.un,wt⟩ (pick tab ks).ids=true)
 (g:Goal P C (.fin (.panic (chn pv))) k n [] (wt++tb (pick tab ks)) Q):Goal P C (.ops all (o::rest) (some (sl0,tab0,done))) k n sl tab Q:=by
 intro hD hs U hr M ρ a w id J
 have ho:all[done.length]?=some o:=by
  have:(all.toList.drop done.length)[0]?=some o:=by rw[hr];rfl
  rw[u9]at this;simpa using this
 refine zka (L:=⟨none,rs,rt,fr,.un,wt⟩) (kp:=pick tab ks) T.mix hD hc hp ho hL (jD hS λk _=>(hs k).symm) (wZ hT λi _=>(U i).symm) (wZ (zdp (n:=n) (sl:=sl)) λi _=>(U i).symm) hC (λa w M ρ J=>g M ρ a w J) J
def xq(T:Ty P){l:List Operand}{ty:TypeId}{g0:Option (Nat×Bool)}(hC:C.low){ss:List S}{first caps:List V}{R R':RL}
 (h:zU P f args R pv R') (σ:Nat->Nat) (ks:List Nat) (hx:ev sl x=some (.one (.cl f first caps))) (hl:evs sl l=some ss) (ha:zI (ones first++ss++ones caps) (Ss.ren σ args)) (hi:injB σ R.ids=true) (J:injB σ R'.ids=true)
 (U:xH (R.ids++R'.ids) R'=true) (hT:rdT tab (R.ren σ)=R.ren σ) (hm:metL all sl g0=some gs)
 (hc:wX all (vc all.toList []) ⟨n,sl0,tab0⟩ done=true) (hp:checkP all (vc all.toList []) ⟨n,sl0,tab0⟩ done ⟨none,gs++(rq x (.one (.cl f first caps))++rqs l ss),R.ren σ,(zP R R').map σ,.un,tb (R'.ren σ)++xp (R.ids.map σ)⟩ (pick tab ks).ids=true)
 (g:Goal P C (.fin (.panic (chn pv))) k n [] ((tb (R'.ren σ)++xp (R.ids.map σ))++tb (pick tab ks)) Q):
 Goal P C (.ops all (⟨d,.call ⟨.value x,l.toArray,ts⟩,ty,ps,af,g0⟩::rest) (some (sl0,tab0,done))) k n sl tab Q:=by
 have e1:=zu (st:=⟨n,sl,tab⟩) hx;have e2:=xl (st:=⟨n,sl,tab⟩) hl;have:=zdn hm (zf3 (ty:=ty) (ps:=ps) (af:=af) (g:=g0) (d:=d) (ts:=ts) h σ e1.1 e2.1 ha hi J U) (n:=n) (tab:=tab);exact zwg T hC ks this.1 (by rw[za,za];simp_all) (vW hT) hc hp g
theorem zbI{P:Program}{C:Ctx}{Q:Exit->St->Prop}{ch:List PanicEntry}{st:St}: ∀ {k:List Frm},Q (.panic ch) st->unw P C k Q (.panic ch) st
 | [],h=>h
 | .seq _::k,h=>zbI (k:=k) h
 | .blk _::k,h=>zbI (k:=k) h
end
def zwh(pv:Value)(R R':RL):Exit->St->Prop:=λe st=>e= .panic (chn pv)/\ ∃σ:Nat->Nat,mR σ st.tab R'/\injB σ R'.ids=true/\allB (λi=>Nat.beq (σ i) i) R.ids=true
def zR(_T:Ty P){fn:Func}{c:Code}{R R':RL}(hf:P.funcs[f]?=some fn)
 (hname:(fn.name== "runtime.NumGoroutine")=false) (U:fn.body=some c) (hlow:allB (λi=>Nat.blt i 100) R.ids=true)
 (hn:Nat.ble args.length fn.ntmps=true) (body: ∀C:Ctx,C.low->Goal P C (.code c) [] fn.ntmps (enum 0 args) (tb R) (zwh pv R R')):zU P f args R pv R':=by
 refine⟨⟨fn,hf,hname,by rw[U];rfl⟩,λM ρ w xs hx hT hI hG=>?_⟩;have hlen:=hx.length;have hnn:args.length<=fn.ntmps:=uS hn
 have hgf: ∀p∈G2,¬zbo (tb R) ρ p.1:=λp hp ⟨id,r,h1,h2⟩=>by
  obtain⟨v,hv⟩:=zkb p hp;have:=hG.le _ _ _ hv;rw[hT.own id r p.1 h1 h2 0]at this;cases this
 let C:Ctx:=⟨w,M,ρ,tb R,hG,hgf,[]⟩
 have hC:C.low:=λi r h=>by
  have:=zE hlow i (zL (zK h));simpa [tI]using this
 have hH:Holds C ⟨fn.ntmps,enum 0 args,tb R⟩ M ρ { tmps:=xs.toArray++Array.replicate (fn.ntmps - xs.toArray.size) undef,defers:=[] } w:=by
  refine⟨rfl,ug,λk s hk=>?_,hT,λid r b h1 h2 h3=>h3.2 ⟨id,r,h1,h2⟩,⟨hI,λ_ _=>rfl,uJ _,MLe.refl _,λ_ _ _ h=> .inl h,rfl,rfl,rfl⟩,λ_ _ _=>rfl⟩;have:=(jt (n:=fn.ntmps - xs.toArray.size) hx hk).2;simpa using this
 refine calls_of_wp hf U (wp_mono (body C hC M ρ _ w hH) λe a w' ⟨st,M',ρ',hq,J⟩=>?_);simp only[unw]at hq;obtain⟨he,σ,h3,h4,h5⟩:=hq
 have frb: ∀b,¬C.fr b->w.heap.size<=b\/zbo (tb R) ρ b:=λb U=>by
  rcases tu b w.heap.size with h|h
  ·exact .inr (tC λhn=>U ⟨h,hn⟩)
  ·exact .inl h
 have tk: ∀i r,tg (tb R') i=some r->tg st.tab (σ i)=some (r.ren σ):=λi r h=>zcK h3 (zK h)
 have ti: ∀i r,tg (tb R') i=some r->i∈R'.ids:=λi r h=>zL (zK h)
 subst he;refine⟨J.dfr,M',λi=>ρ' (σ i),rfl,?_⟩
 refine⟨by simp only[RepS],⟨λi r hr=>(J.zH.res _ _ (tk i r hr)).ren,?_,?_⟩,J.run.imm,J.run.base,λb o u hu=>(J.run.newM b o u hu).imp id (frb b),?_,λb U hn=>J.run.fram b ⟨U,hn⟩,
  J.run.size,J.run.os,J.run.tape,J.run.output,?_⟩
 ·intro i j ri rj b e1 e2 hne hb1 hb2;exact J.zH.dis _ _ _ _ b (tk i ri e1) (tk j rj e2) (yB h4 i j (ti i ri e1) (ti j rj e2) hne) hb1 hb2
 ·intro i r b e1 U;exact J.zH.own _ _ b (tk i r e1) U
 ·rintro b ⟨i,r,e1,U⟩;exact frb b (J.ownf _ _ b (tk i r e1) U)
 ·intro id hid;have e:=uA (zE h5 id hid);rw[e];obtain⟨r,hr⟩:=vZ hid;exact J.keep id r hr
inductive End where
 |ok (res:S) (R':RL)
 |pn (pv:Value) (R':RL)
 |no
def FnX(P:Program)(f:FuncId)(args:List S)(R:RL):End->Prop
 | .ok res R'=>zf P f args R res R'
 | .pn pv R'=>zU P f args R pv R'
 | .no=>True
end Hw
