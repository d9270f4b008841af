import Derived.Test.YtolghpfockkldaaGreatDoorE3
import Derived.Laws.IdiomCopy
import Derived.Laws.IdiomStrings
import Derived.Laws.Slices
import Derived.Below
import Derived.Laws.StructEq
import Derived.Laws.Strings3
import Derived.Laws.DeepStrings4
import Derived.KernelRfl
import Derived.Test.YtolghpfockkldaaGreatDoorProg
import Derived.Test.YtolghpfockkldaaGreatDoorE2
set_option linter.unusedVariables false
set_option linter.unusedSimpArgs false
set_option linter.unusedSectionVars false
set_option linter.unnecessarySimpa false
namespace Hw
open Go
variable {P:Program}{af:Array Edge}{d:Option Nat}{g:Option (Nat×Bool)}{ps:String}{t t':TypeId}{x y:Operand}
section
variable {ty:TypeId}
theorem zto{k:IntKind}{n m:Int}(J:m≠0)(U:okc x (Kk k n))(hy:okc y (Kk k m)):
 Snd P ⟨d,.binOp .rem t x y t',ty,ps,af,g⟩ (rq x (Kk k n)++rq y (Kk k m)) [] [] (Kk k (n.tmod m)) []:=
 ziX U hy rfl λw=>⟨rfl,by rw[binOp_rem];simp[Op.intDiv,J]⟩
theorem ztp{k:IntKind}{n m:Int}(J:m≠0)(U:okc x (Kk k n))(hy:okc y (Kk k m)):
 Snd P ⟨d,.binOp .quo t x y t',ty,ps,af,g⟩ (rq x (Kk k n)++rq y (Kk k m)) [] [] (Kk k (k.wrap (n.tdiv m))) []:=
 ziX U hy rfl λw=>⟨rfl,by rw[binOp_quo];simp[Op.intDiv,J]⟩
end
variable {C:Ctx}{Q:Exit->St->Prop}{all:Array Oper}{cur:Cur}{g0:Option (Nat×Bool)}{gs:zf}{k0:IntKind}{md:Mode}{rest:List Oper}{tab:Tab}
section
variable {k:List Frm} {n:Nat} {sl:zf}
theorem zqY{d:Nat}{ty:TypeId}(hC:C.low){a m:Int}
 (hx:ev sl x=some (Kk k0 a)) (hy:ev sl y=some (Kk k0 m)) (h0:m≠0) (hm:metL all sl g0=some gs) (hd:Nat.blt d n=true)
 (g:Goal P C (.ops all rest (nx md ⟨some d,gs++(rq x (Kk k0 a)++rq y (Kk k0 m)),[],[],Kk k0 (a.tmod m),[]⟩)) k n ((d,Kk k0 (a.tmod m))::sl) tab Q):
 Goal P C (.ops all (⟨some d,.binOp .rem t x y t',ty,ps,af,g0⟩::rest) md) k n sl tab Q:=by
 have J:=zB (st:=⟨n,sl,tab⟩) hx;have U:=zB (st:=⟨n,sl,tab⟩) hy;have:=zk hm (zto (P:=P) (ty:=ty) (ps:=ps) (af:=af) (g:=g0) (d:=some d) (t:=t) (t':=t') h0 J.1 U.1) (n:=n) (tab:=tab);exact zT (L:=⟨some d,gs++(rq x (Kk k0 a)++rq y (Kk k0 m)),[],[],Kk k0 (a.tmod m),[]⟩) hC this.1 rfl ⟨by rw[za,za];exact⟨this.2,J.2,U.2⟩,trivial,rfl,hd⟩ g
theorem zeP{d:Nat}{ty:TypeId}(hC:C.low){a m:Int}
 (hx:ev sl x=some (Kk k0 a)) (hy:ev sl y=some (Kk k0 m)) (h0:m≠0) (hm:metL all sl g0=some gs) (hd:Nat.blt d n=true)
 (g:Goal P C (.ops all rest (nx md ⟨some d,gs++(rq x (Kk k0 a)++rq y (Kk k0 m)),[],[],Kk k0 (k0.wrap (a.tdiv m)),[]⟩)) k n ((d,Kk k0 (k0.wrap (a.tdiv m)))::sl) tab Q):
 Goal P C (.ops all (⟨some d,.binOp .quo t x y t',ty,ps,af,g0⟩::rest) md) k n sl tab Q:=by
 have J:=zB (st:=⟨n,sl,tab⟩) hx;have U:=zB (st:=⟨n,sl,tab⟩) hy;have:=zk hm (ztp (P:=P) (ty:=ty) (ps:=ps) (af:=af) (g:=g0) (d:=some d) (t:=t) (t':=t') h0 J.1 U.1) (n:=n) (tab:=tab);exact zT (L:=⟨some d,gs++(rq x (Kk k0 a)++rq y (Kk k0 m)),[],[],Kk k0 (k0.wrap (a.tdiv m)),[]⟩) hC this.1 rfl ⟨by rw[za,za];exact⟨this.2,J.2,U.2⟩,trivial,rfl,hd⟩ g
end
variable {f:FuncId}
theorem znS{a v:Value}(U:jM P f)(h: ∀w:World,Calls P f #[a] w λe w'=>e= .returned v/\w'=w)(h1:v.oneCell'=true):zh P f [.one (.p (.k a))] [] (.one (.p (.k v))) []:=by
 refine⟨U,λM ρ w xs J _ hI _=>?_⟩
 match xs,J with
 | [x],J=>
   simp only[RepSs,RepS,RepV,RepPV]at J;obtain⟨⟨rfl,_⟩,_⟩:=J;refine(h w).mono λe w' ⟨he,hw⟩=>?_;subst hw;refine⟨v,M,ρ,he,by simp only[RepS,RepV,RepPV];exact⟨uh,h1⟩,⟨λ_ _ h=>(by cases h),λ_ _ _ _ _ h=>(by cases h),λ_ _ _ h=>(by cases h)⟩,hI,MLe.refl M,λb o u hu=> .inl hu,λb hb=>?_,λb _ _=>rfl,uF _,rfl,rfl,rfl,λid hid=>rfl⟩;obtain⟨i,r,h,_⟩:=hb;cases h
 | [],J=>simp[RepSs]at J
 |_::_::_,J=>simp[RepSs]at J
def GOw(w:World):Prop:=GOn w/\(∀b∈G1,∃m:Int,w.cell? ⟨b,0,none⟩=some (.int .i64 m))/\ ∀p∈G2,∃el fz,w.heap[p.1]?=some (.cells p.2 el fz)
variable {M:Mem}{w:World}
theorem ztq(U:Imm M w)(J:GOk M w):GOw w:=⟨λb o u hu=>U b o u (J.le b o u hu),λb hb=>let ⟨m,hm⟩:=J.op b hb;⟨m,U _ _ _ hm⟩,J.gb⟩
theorem zeQ{M:Mem}{ρ:Nat->Value}: ∀ {av xs:List Value},RepSs M ρ (av.map λa=> .one (.p (.k a))) xs->xs=av
 | [],[],_=>rfl
 | [],_::_,h=>by simp[RepSs]at h
 |_::_,[],h=>by simp[RepSs]at h
 |a::r,x::xs,h=>by
  simp only[uQ,RepSs,RepS,RepV,RepPV]at h;rw[h.1.1,zeQ h.2]
theorem zhD{av:List Value}{v:Value}(U:jM P f)(h: ∀w:World,GOw w->Calls P f av.toArray w λe w'=>e= .returned v/\w'=w)(h1:v.oneCell'=true):
 zh P f (av.map λa=> .one (.p (.k a))) [] (.one (.p (.k v))) []:=by
 refine⟨U,λM ρ w xs hx _ J hG=>?_⟩;obtain rfl:=zeQ hx;refine(h w (ztq J hG)).mono λe w' ⟨he,hw⟩=>?_;subst hw;refine⟨v,M,ρ,he,by simp only[RepS,RepV,RepPV];exact⟨uh,h1⟩,⟨λ_ _ h=>(by cases h),λ_ _ _ _ _ h=>(by cases h),λ_ _ _ h=>(by cases h)⟩,J,MLe.refl M,λb o u hu=> .inl hu,λb hb=>?_,λb _ _=>rfl,uF _,rfl,rfl,rfl,λid hid=>rfl⟩;obtain⟨i,r,h,_⟩:=hb;cases h
variable {res:S}{ρ:Nat->Value}
theorem zke{w':World}{v:Value}(hI:Imm M w)(J:RowKit.Below w.heap.size w w')(hr:RepS M ρ res v):Ret M ρ w [] res [] v M ρ w':=
 ⟨hr,⟨λ_ _ h=>(by cases h),λ_ _ _ _ _ h=>(by cases h),λ_ _ _ h=>(by cases h)⟩,λb o u U=>by rw[cell_of_heap (J.block b (jY (hI b o u U)))];exact hI b o u U,MLe.refl M,λb o u U=> .inl U,
   λb ⟨_,_,h,_⟩=>(by cases h),λb h _=>J.block b h,J.size,J.os,J.tape,J.output,λ_ _=>rfl⟩
section
variable {ty:TypeId}
theorem zeJ.bs{e id n:Nat}{tx el:TypeId}{rows:List (List PV)}{vs:List V}(h:elemSz P tx=some (el,e))(hv:vs.take (n*e)=rows.flatten.map V.p)(hl: ∀r∈rows,r.length=e)(hn:rows.length=n):zeJ P e tx (.one (.bs id 0 n)) [(id,.box vs)] rows:=by
 intro C st M ρ a w v hH J hT;obtain⟨_,hu,_,_⟩:=zy h;simp only[RepS,RepV]at J;obtain⟨b,c,f1,rfl,_⟩:=J;obtain⟨b',cs,el',g1,g2,g3⟩:=hH.zP.res id _ hT.1;rw[f1]at g1;simp only[Value.pointer.injEq,ui,Addr.mk.injEq]at g1;obtain⟨rfl,_⟩:=g1;have U:=g3.take (n*e);rw[hv]at U;subst hn;refine⟨cs.take (rows.length*e),Src.ofSlice w hu ⟨b,0,none⟩ rows.length c _ ?_ (λj u hj=>?_) U.one,U,hl⟩
 ·rw[U.length,uk,List.length_flatten]
  have:(rows.map List.length)=List.replicate rows.length e:=by
   rw[List.eq_replicate_iff];exact⟨by rw[uk],λq hq=>by obtain⟨r,J,rfl⟩:=tS.1 hq;exact hl r J⟩
  rw[this,List.sum_replicate_nat]
 ·rw[ym,tC];rw[tT]at hj;split at hj
  ·simp[World.cell?,g2,hj]
  ·cases hj
end
section
variable {k:List Frm} {n:Nat} {sl:zf}
theorem zdD{d:Nat}{ty:TypeId}(hC:C.low){a:Int}
 (U:ev sl x=some (Kk k0 a)) (hm:metL all sl g0=some gs) (hd:Nat.blt d n=true)
 (g:Goal P C (.ops all rest (nx md ⟨some d,gs++rq x (Kk k0 a),[],[],Kk k0 (k0.wrap (0 - a)),[]⟩)) k n ((d,Kk k0 (k0.wrap (0 - a)))::sl) tab Q):
 Goal P C (.ops all (⟨some d,.unOp .neg t x,ty,ps,af,g0⟩::rest) md) k n sl tab Q:=by
 have J:=zB (st:=⟨n,sl,tab⟩) U;have:=zk hm (zvl (P:=P) (ty:=ty) (ps:=ps) (af:=af) (g:=g0) (d:=some d) (t:=t) J.1) (n:=n) (tab:=tab);exact zT (L:=⟨some d,gs++rq x (Kk k0 a),[],[],Kk k0 (k0.wrap (0 - a)),[]⟩) hC this.1 rfl ⟨by rw[za];exact⟨this.2,J.2⟩,trivial,rfl,hd⟩ g
end
variable {el:TypeId}{ss:List S}{vparts:List (Nat×List V)}
section
variable {ty:TypeId}
theorem znT{l:List (Nat×Operand)}{zs vs:List V}{len e:Nat}
 (hx:zeK (l.map (·.2)) ss) (ht:P.underlying t=some (.array len el)) (he:(P.info? el).map (·.size)=some e) (hz:zeroV P t=some zs) (hv:zipParts (l.map (·.1)) ss=some vparts) (hf:fillV (λi=>some (i*e,e)) zs vparts=some vs):
 Snd P ⟨d,.build t l.toArray,ty,ps,af,g⟩ (rqs (l.map (·.2)) ss) [] [] (.agg vs) []:=
 zm λC st M ρ a w hH h1 _=>by
  have e:=hH.zhE (w8 hx h1);obtain⟨h2,h3⟩:=wD hv e;obtain⟨zv,hz1,hz2,_⟩:=xQ hz M ρ w
  have J:l.map (λp=>(p.1,a.eval p.2))=(l.map (·.1)).zip ((l.map (·.2)).map a.eval):=by
   rw[q5];simp[Ua]
  obtain⟨out,h4,h5⟩:=zam _ vparts zs vs zv.cells hz2 h2 h3 hf;obtain⟨ii,U,hsz⟩:=uM.1 he;refine⟨.agg out,?_,by simp only[RepS];exact⟨out.toList,ue,h5⟩⟩;simp only[execOp,Instr.build,Sem.run_bind,hz1,Result.andThen_ok,run_underlying ht,run_sizeOf U,hsz];have hl:(l.toArray.map λp=>(p.1,a.eval p.2)).toList=(l.map (·.1)).zip ((l.map (·.2)).map a.eval):=by simpa using J
  rw[hl,h4];rfl
end
section
variable {k:List Frm} {n:Nat} {sl:zf}
theorem znU{d:Nat}{l:List (Nat×Operand)}{ty:TypeId}(hC:C.low){zs vs:List V}{len e:Nat}
 (hl:evs sl (l.map (·.2))=some ss) (U:P.underlying t=some (.array len el)) (he:(P.info? el).map (·.size)=some e) (hz:zeroV P t=some zs) (hv:zipParts (l.map (·.1)) ss=some vparts) (hf:fillV (λi=>some (i*e,e)) zs vparts=some vs) (hm:metL all sl g0=some gs) (hd:Nat.blt d n=true)
 (g:Goal P C (.ops all rest (nx md ⟨some d,gs++rqs (l.map (·.2)) ss,[],[],.agg vs,[]⟩)) k n ((d,.agg vs)::sl) tab Q):
 Goal P C (.ops all (⟨some d,.build t l.toArray,ty,ps,af,g0⟩::rest) md) k n sl tab Q:=by
 have J:=xO (st:=⟨n,sl,tab⟩) hl;have:=zk hm (znT (ty:=ty) (ps:=ps) (af:=af) (g:=g0) (d:=some d) J.1 U he hz hv hf) (n:=n) (tab:=tab);exact zT (L:=⟨some d,gs++rqs (l.map (·.2)) ss,[],[],.agg vs,[]⟩) hC this.1 rfl ⟨by rw[za];exact⟨this.2,J.2⟩,trivial,rfl,hd⟩ g
end
section
variable {K:Type} [DecidableEq K] {ty:TypeId} {u:Operand} {kt et:TypeId}
end
section
variable {k:List Frm} {n:Nat} {sl:zf}
end
section
variable {ty:TypeId}
end
section
variable {k:List Frm} {n:Nat} {sl:zf}
end
mutual
inductive LP:PV->PV->Prop
 |refl (p:PV):LP p p
 |nil (e:Nat):LP (.k (.slice none 0 0)) (.sl e [])
 |sl {e:Nat} {rows rows':List (List PV)} (h:LRs rows rows'):LP (.sl e rows) (.sl e rows')
inductive LRs:List (List PV)->List (List PV)->Prop
 |nil:LRs [] []
 |cons {r r':List PV} {rs rs':List (List PV)} (h:LR r r') (hs:LRs rs rs'):LRs (r::rs) (r'::rs')
inductive LR:List PV->List PV->Prop
 |nil:LR [] []
 |cons {p p':PV} {ps ps':List PV} (h:LP p p') (hs:LR ps ps'):LR (p::ps) (p'::ps')
end
theorem LR.len{r r':List PV}:LR r r'->r'.length=r.length
 | .nil=>rfl
 | .cons _ hs=>by rw[uR,uR,LR.len hs]
theorem LRs.len{r r':List (List PV)}:LRs r r'->r'.length=r.length
 | .nil=>rfl
 | .cons _ hs=>by rw[uR,uR,LRs.len hs]
mutual
theorem LP.rep{M:Mem}{p q:PV}{v:Value}:LP p q->RepPV M p v->RepPV M q v
 | .refl _,h=>h
 | .nil e,h=>by
   simp only[RepPV]at h⊢;exact⟨none,0,h.1,uF _,uz _,.inl trivial⟩
 | .sl hr,h=>by
   simp only[RepPV]at h⊢;obtain⟨a,cap,h1,h2,h3,h4⟩:=h;rw[hr.len];refine⟨a,cap,h1,h2,h3,?_⟩;rcases h4 with h4|⟨b,o,h4,h5⟩
   ·left;have:=hr.len;rw[h4]at this;exact u3.1 this
   ·exact .inr ⟨b,o,h4,LRs.rep hr h5⟩
theorem LRs.rep{M:Mem}{g:Nat->Option Value}{e o:Nat}{rows rows':List (List PV)}:LRs rows rows'->RowsIn M g e rows o->RowsIn M g e rows' o
 | .nil,h=>h
 | .cons hr hs,h=>by
   simp only[RowsIn]at h⊢;exact⟨hr.len.trans h.1,LR.rep hr h.2.1,LRs.rep hs h.2.2⟩
theorem LR.rep{M:Mem}{g:Nat->Option Value}{o:Nat}{r r':List PV}:LR r r'->RowIn M g r o->RowIn M g r' o
 | .nil,h=>h
 | .cons hp hs,h=>by
   simp only[RowIn]at h⊢;obtain⟨⟨c,c1,c2⟩,h2⟩:=h;exact⟨⟨c,c1,LP.rep hp c2⟩,LR.rep hs h2⟩
end
section
variable {ty:TypeId}
end
section
variable {k:List Frm} {n:Nat} {sl:zf}
end
inductive Sc where
 |i (k:IntKind) (n:Int)
 |s (b:ByteArray)
 deriving DecidableEq
def Sc.v:Sc->Value
 | .i k n=> .int k n
 | .s b=> .string b
def Sc.V(c:Sc):V:= .p (.k c.v)
inductive SK where
 |i (k:IntKind)
 |s
def okSK:SK->Sc->Bool
 | .i k,.i k' _=>decide (k=k')
 | .s,.s _=>true
 |_,_=>false
def okSKs:List SK->List Sc->Bool
 | [],[]=>true
 |k::ks,c::cs=>okSK k c&&okSKs ks cs
 |_,_=>false
def isStc(P:Program)(t:TypeId):Bool:=match P.underlying t with
 |some (.struct _)=>true
 |_=>false
def eqFs(P:Program)(r:TypeId->Option (List SK)):List Field->Nat->Option (List SK)
 | [],_=>some []
 |f::fs,off=>match decide (f.name≠ "_")&&Nat.beq f.offset off with
  |true=>match r f.type with
   |some l=>match !isStc P f.type||decide ((P.info? f.type).map (·.size)=some l.length)with
    |true=>match eqFs P r fs (off+l.length)with
     |some l'=>some (l++l')
     |none=>none
    |false=>none
   |none=>none
  |false=>none
def eqSh(P:Program):Nat->TypeId->Option (List SK)
 |0,_=>none
 |f+1,t=>match P.underlying t with
  |some (.int k)=>some [.i k]
  |some .string=>some [.s]
  |some (.struct fs)=>match P.stoodInHeld t with
   |true=>none
   |false=>eqFs P (eqSh P f) fs.toList 0
  |_=>none
theorem je: ∀ {l:List SK} {cs:List Sc},okSKs l cs=true->cs.length=l.length
 | [],[],_=>rfl
 | [],_::_,h=>by simp[okSKs]at h
 |_::_,[],h=>by simp[okSKs]at h
 |k::ks,c::cs,h=>by simp only[okSKs,uo]at h;simp[je h.2]
theorem jZ: ∀ {l l':List SK} {cs:List Sc},okSKs (l++l') cs=true->okSKs l (cs.take l.length)=true/\okSKs l' (cs.drop l.length)=true
 | [],_,cs,h=>by simp only[qg]at h;simp[okSKs,h]
 |_::_,_,[],h=>by simp[okSKs]at h
 |k::ks,l',c::cs,h=>by
  simp only[uN,okSKs,uo]at h;have:=jZ h.2;simp only[uR,tU,List.drop_succ_cons,okSKs,h.1,this.1,this.2,Bool.and_self,and_self]
def valSc(P:Program)(t:TypeId)(cs:List Sc):Value:=if isStc P t=true then .agg (cs.map Sc.v).toArray else match cs with
 |c::_=>c.v
 | []=>undef
theorem ziY: ∀(f:Nat) (t:TypeId) (l:List SK),eqSh P f t=some l-> ∀(d:Nat),f<=d-> ∀(a b:List Sc),okSKs l a=true->okSKs l b=true-> ∀w:World,
 (Op.equalIn d t (valSc P t a) (valSc P t b)).run P w= .ok (decide (a=b)) w:=by
 intro f
 induction f with
 |zero=>intro t l h;cases h
 |succ f ih=>
 intro t l h d hd a b U hb w;obtain⟨d,rfl⟩: ∃d',d=d'+1:=⟨d - 1,ua⟩;simp only[eqSh]at h;split at h
 ·rename_i k hu;simp only[ui]at h;subst h
  match a,b,U,hb with
  | [.i k1 x],[.i k2 y],U,hb=>
    simp only[okSKs,okSK,qk,uq]at U hb;subst U;subst hb;have hs:isStc P t=false:=by simp[isStc,hu]
    simp only[valSc,hs,uy,uL,Sc.v];rw[run_equalIn_int w d t k k x y hu];by_cases e:x=y
    ·subst e;simp
    ·simp[e]
  | [.s _],_,U,_=>simp[okSKs,okSK]at U
  | [],_,U,_=>simp[okSKs]at U
  |_::_::_,_,U,_=>simp[okSKs]at U
  | [.i _ _],[.s _],_,hb=>simp[okSKs,okSK]at hb
  | [.i _ _],[],_,hb=>simp[okSKs]at hb
  | [.i _ _],_::_::_,_,hb=>simp[okSKs]at hb
 ·rename_i hu;simp only[ui]at h;subst h
  match a,b,U,hb with
  | [.s x],[.s y],U,hb=>
    have hs:isStc P t=false:=by simp[isStc,hu]
    simp only[valSc,hs,uy,uL,Sc.v];rw[run_equalIn_string w d t x y hu,<-beq_toListBytes,zhF];by_cases e:x=y
    ·subst e;simp
    ·simp[e]
  | [.i _ _],_,U,_=>simp[okSKs,okSK]at U
  | [],_,U,_=>simp[okSKs]at U
  |_::_::_,_,U,_=>simp[okSKs]at U
  | [.s _],[.i _ _],_,hb=>simp[okSKs,okSK]at hb
  | [.s _],[],_,hb=>simp[okSKs]at hb
  | [.s _],_::_::_,_,hb=>simp[okSKs]at hb
 ·rename_i fs hu;split at h
  ·cases h
  ·rename_i hst;have hF:P.fieldsOf t=fs:=by simp[Program.fieldsOf,hu]
   have hs:isStc P t=true:=by simp[isStc,hu]
   simp only[valSc,hs,uZ];rw[run_equalIn_agg w d t _ _ (by rw[hF];exact hu) hst,hF]
   -- field by field
   have key: ∀(fl:List Field) (off:Nat) (l':List SK),eqFs P (eqSh P f) fl off=some l'-> ∀a0 b0:List Sc,off<=a0.length->off<=b0.length->okSKs l' (a0.drop off)=true->okSKs l' (b0.drop off)=true->
    (Op.eqFields d (a0.map Sc.v).toArray (b0.map Sc.v).toArray fl).run P w= .ok (decide (a0.drop off=b0.drop off)) w:=by
    intro fl
    induction fl with
    |nil=>
     intro off l' hl a0 b0 _ _ h1 h2;simp only[eqFs,ui]at hl;subst hl;have e1:a0.drop off=[]:=tL (je h1);have e2:b0.drop off=[]:=tL (je h2);simp[Op.eqFields,e1,e2]
    |cons fd fl ihf=>
     intro off l' hl a0 b0 ho1 ho2 h1 h2;simp only[eqFs]at hl;split at hl
     ·rename_i hname;simp only[uo,uq]at hname;have hoff:=uH hname.2;split at hl
      ·rename_i lf J;split at hl
       ·rename_i hsz;split at hl
        ·rename_i lr hlr;simp only[ui]at hl;subst hl;obtain⟨a1,a2⟩:=jZ h1;obtain⟨b1,b2⟩:=jZ h2;have al:=je a1;have bl:=je b1;simp only[td,tP]at al bl
         have hpart: ∀c0:List Sc,off+lf.length<=c0.length->okSKs lf ((c0.drop off).take lf.length)=true->(part fd.type (c0.map Sc.v).toArray fd.offset).run P w= .ok (valSc P fd.type ((c0.drop off).take lf.length)) w:=λc0 hc0 hok=>by
          rw[hoff];cases hstr:isStc P fd.type with
          |true=>
           obtain⟨fs',hu'⟩: ∃fs',P.underlying fd.type=some (.struct fs'):=by
            unfold isStc at hstr;split at hstr
            ·rename_i fs' e;exact⟨fs',e⟩
            ·cases hstr
           rw[hstr]at hsz;simp only[qp,tO,uq,uM]at hsz;obtain⟨ii,hii,hsz⟩:=hsz;simp only[part,isAgg,Sem.run_bind,run_underlying hu',Result.andThen_ok,Sem.run_pure,uZ,run_sizeOf hii,hsz,valSc,hstr]
           congr 2
           apply Array.ext'
           simp only[Uw,oU,qR,List.map_drop];rw[Ud]
          |false=>
           have hna:(isAgg fd.type).run P w= .ok false w:=by
            cases f with
            |zero=>cases J
            |succ f'=>
             simp only[eqSh]at J;split at J
             ·rename_i hu';simp[isAgg,run_underlying hu']
             ·rename_i hu';simp[isAgg,run_underlying hu']
             ·rename_i hu';simp[isStc,hu']at hstr
             ·cases J
           have h1l:lf.length=1:=by
            cases f with
            |zero=>cases J
            |succ f'=>
             simp only[eqSh]at J;split at J
             ·simp only[ui]at J;subst J;rfl
             ·simp only[ui]at J;subst J;rfl
             ·rename_i hu';simp[isStc,hu']at hstr
             ·cases J
           obtain⟨c,hc⟩: ∃c,c0[off]?=some c:=⟨c0[off]'ua,ta ua⟩
           have ht:(c0.drop off).take lf.length=[c]:=by
            rw[h1l,List.take_one,List.head?_drop,hc];rfl
           simp only[part,Sem.run_bind,hna,Result.andThen_ok,uy,uL,tu,uK,hc,uO,Sem.run_pure,ht,valSc,hstr]
         have hq:=ih fd.type lf J d ua _ _ a1 b1 w;simp only[Op.eqFields,uv hname.1,Sem.run_bind,hpart a0 ua a1,hpart b0 ua b1,hq,Result.andThen_ok,Sem.run_ite]
         have hcat: ∀c0:List Sc,c0.drop off=(c0.drop off).take lf.length++c0.drop (off+lf.length):=λc0=>by
          rw[<-tv,qo]
         rw[tv]at a2 b2;by_cases e:(a0.drop off).take lf.length=(b0.drop off).take lf.length
         ·rw[uT e];simp only[qp,uy,uL];rw[ihf _ _ hlr a0 b0 ua ua a2 b2]
          congr 1
          have:(a0.drop off=b0.drop off)↔(a0.drop (off+lf.length)=b0.drop (off+lf.length)):=by
           rw[hcat a0,hcat b0,e];exact⟨λh=>List.append_cancel_left h,λh=>by rw[h]⟩
          exact oA.2 this.symm
         ·rw[uJ e];simp only[qE,uZ,Sem.run_pure]
          congr 1
          refine(uJ λh=>e ?_).symm;rw[h]
        ·cases hl
       ·cases hl
      ·cases hl
     ·cases hl
   have:=key fs.toList 0 l h a b (uz _) (uz _) (by simpa using U) (by simpa using hb);simpa using this
 ·cases h
variable {neg:Bool}
section
variable {ty:TypeId}
theorem zkf{M:Mem}{ρ:Nat->Value}: ∀ {a:List Sc} {cs:List Value},RepVs M ρ (a.map Sc.V) cs->cs=a.map Sc.v
 | [],[],_=>rfl
 | [],_::_,h=>by simp only[qt,RepVs]at h
 |_::_,[],h=>by simp only[uQ,RepVs]at h
 |c::a,v::cs,h=>by
  simp only[uQ,Sc.V,RepVs,RepV,RepPV]at h;rw[h.1.1,zkf h.2];rfl
theorem zvm{l:List SK}{a b:List Sc}(hx:okc x (.agg (a.map Sc.V)))(hy:okc y (.agg (b.map Sc.V)))(hs:isStc P t=true)(h:eqSh P 8 t=some l)(ha:okSKs l a=true)(hb:okSKs l b=true)(hg:P.eqGuardType P.depth t=false):
 Snd P ⟨d,.binOp (if neg=true then .neq else .eql) t x y t',ty,ps,af,g⟩ (rq x (.agg (a.map Sc.V))++rq y (.agg (b.map Sc.V))) [] [] (.bq (if neg=true then !decide (a=b)else decide (a=b))) []:=
 zm λC st M ρ ac w hH h1 _=>by
  rw[za]at h1;have J:=hH.evS (zz hx h1.1);have U:=hH.evS (zz hy h1.2);simp only[RepS]at J U;obtain⟨cs,J,f1⟩:=J;obtain⟨ds,U,f2⟩:=U;rw[zkf f1]at J;rw[zkf f2]at U;have hq:=ziY 8 t l h 10000 ua a b ha hb w;simp only[valSc,hs,uZ]at hq;cases neg with
  |true=>
   refine⟨.bool (!decide (a=b)),?_,by simp only[RepS,uZ]⟩;simp only[execOp,uZ,J,U,Sem.run_bind,run_eqGuard_agg w _ t x y _ _ hg,Result.andThen_ok,run_neq_struct,hq,Sem.run_pure]
  |false=>
   refine⟨.bool (decide (a=b)),?_,by simp only[RepS,uy,uL]⟩;simp only[execOp,uy,uL,J,U,Sem.run_bind,run_eqGuard_agg w _ t x y _ _ hg,Result.andThen_ok,run_eql_struct,hq,Sem.run_pure]
end
section
variable {k:List Frm} {n:Nat} {sl:zf}
theorem znV{d:Nat}{ty:TypeId}(hC:C.low)(l:List SK)(a b:List Sc)
 (hx:ev sl x=some (.agg (a.map Sc.V))) (hy:ev sl y=some (.agg (b.map Sc.V))) (hs:isStc P t=true) (h:eqSh P 8 t=some l) (ha:okSKs l a=true) (hb:okSKs l b=true) (hg:P.eqGuardType P.depth t=false) (hm:metL all sl g0=some gs) (hd:Nat.blt d n=true)
 (g:Goal P C (.ops all rest (nx md ⟨some d,gs++(rq x (.agg (a.map Sc.V))++rq y (.agg (b.map Sc.V))),[],[],.bq (decide (a=b)),[]⟩)) k n ((d,.bq (decide (a=b)))::sl) tab Q):
 Goal P C (.ops all (⟨some d,.binOp .eql t x y t',ty,ps,af,g0⟩::rest) md) k n sl tab Q:=by
 have J:=zB (st:=⟨n,sl,tab⟩) hx;have U:=zB (st:=⟨n,sl,tab⟩) hy;have:=zk hm (zvm (P:=P) (neg:=false) (ty:=ty) (ps:=ps) (af:=af) (g:=g0) (d:=some d) (t':=t') J.1 U.1 hs h ha hb hg) (n:=n) (tab:=tab);exact zT (L:=⟨some d,gs++(rq x (.agg (a.map Sc.V))++rq y (.agg (b.map Sc.V))),[],[],.bq (decide (a=b)),[]⟩) hC this.1 rfl ⟨by rw[za,za];exact⟨this.2,J.2,U.2⟩,trivial,rfl,hd⟩ g
end
variable {a:ByteArray}{j:Int}
section
section
variable {ty:TypeId}
theorem ztr{k:IntKind}(hx:okc x (Sr a))(hy:okc y (Kk k j))(U:P.underlying t=some .string)(h0:0<=j)(h1:j<=a.size):
 Snd P ⟨d,.slice t x none (some y) none,ty,ps,af,g⟩ (rq x (Sr a)++rq y (Kk k j)) [] [] (Sr (a.extract 0 j.toNat)) []:=
 zm λC st M ρ b w hH J _=>by
  rw[za]at J;have e1:=hH.k (zz hx J.1);have e2:=hH.k (zz hy J.2);refine⟨.string (a.extract 0 j.toNat),?_,by simp only[RepS,RepV,RepPV];exact⟨uh,rfl⟩⟩;simp only[execOp,e1,e2,qi,uO,Sem.run_bind,run_sliceAt_string w t _ _ _ _ U,run_slice_string_to_if w t a k j U,uv (⟨h0,h1⟩:0<=j/\j<=(a.size:Int)),Result.andThen_ok,Sem.run_pure]
theorem znW{k:IntKind}(hx:okc x (Sr a))(hy:okc y (Kk k j))(U:P.underlying t=some .string)(h0:0<=j)(h1:j<=a.size):
 Snd P ⟨d,.slice t x (some y) none none,ty,ps,af,g⟩ (rq x (Sr a)++rq y (Kk k j)) [] [] (Sr (a.extract j.toNat a.size)) []:=
 zm λC st M ρ b w hH J _=>by
  rw[za]at J;have e1:=hH.k (zz hx J.1);have e2:=hH.k (zz hy J.2);refine⟨.string (a.extract j.toNat a.size),?_,by simp only[RepS,RepV,RepPV];exact⟨uh,rfl⟩⟩;simp only[execOp,e1,e2,qi,uO,Sem.run_bind,run_sliceAt_string w t _ _ _ _ U,run_slice_string_from_if w t a k j U,uv (⟨h0,h1⟩:0<=j/\j<=(a.size:Int)),Result.andThen_ok,Sem.run_pure]
end
variable {k:List Frm} {n:Nat} {sl:zf}
theorem zts{d:Nat}{ty:TypeId}(hC:C.low)
 (hx:ev sl x=some (Sr a)) (hy:ev sl y=some (Kk k0 j)) (ht:P.underlying t=some .string) (h0:0<=j) (h1:j<=a.size) (hm:metL all sl g0=some gs) (hd:Nat.blt d n=true)
 (g:Goal P C (.ops all rest (nx md ⟨some d,gs++(rq x (Sr a)++rq y (Kk k0 j)),[],[],Sr (a.extract 0 j.toNat),[]⟩)) k n ((d,Sr (a.extract 0 j.toNat))::sl) tab Q):
 Goal P C (.ops all (⟨some d,.slice t x none (some y) none,ty,ps,af,g0⟩::rest) md) k n sl tab Q:=by
 have J:=zB (st:=⟨n,sl,tab⟩) hx;have U:=zB (st:=⟨n,sl,tab⟩) hy;have:=zk hm (ztr (P:=P) (ty:=ty) (ps:=ps) (af:=af) (g:=g0) (d:=some d) (t:=t) J.1 U.1 ht h0 h1) (n:=n) (tab:=tab);exact zT (L:=⟨some d,gs++(rq x (Sr a)++rq y (Kk k0 j)),[],[],Sr (a.extract 0 j.toNat),[]⟩) hC this.1 rfl ⟨by rw[za,za];exact⟨this.2,J.2,U.2⟩,trivial,rfl,hd⟩ g
theorem zhG{d:Nat}{ty:TypeId}(hC:C.low)
 (hx:ev sl x=some (Sr a)) (hy:ev sl y=some (Kk k0 j)) (ht:P.underlying t=some .string) (h0:0<=j) (h1:j<=a.size) (hm:metL all sl g0=some gs) (hd:Nat.blt d n=true)
 (g:Goal P C (.ops all rest (nx md ⟨some d,gs++(rq x (Sr a)++rq y (Kk k0 j)),[],[],Sr (a.extract j.toNat a.size),[]⟩)) k n ((d,Sr (a.extract j.toNat a.size))::sl) tab Q):
 Goal P C (.ops all (⟨some d,.slice t x (some y) none none,ty,ps,af,g0⟩::rest) md) k n sl tab Q:=by
 have J:=zB (st:=⟨n,sl,tab⟩) hx;have U:=zB (st:=⟨n,sl,tab⟩) hy;have:=zk hm (znW (P:=P) (ty:=ty) (ps:=ps) (af:=af) (g:=g0) (d:=some d) (t:=t) J.1 U.1 ht h0 h1) (n:=n) (tab:=tab);exact zT (L:=⟨some d,gs++(rq x (Sr a)++rq y (Kk k0 j)),[],[],Sr (a.extract j.toNat a.size),[]⟩) hC this.1 rfl ⟨by rw[za,za];exact⟨this.2,J.2,U.2⟩,trivial,rfl,hd⟩ g
end
section
section
variable {ty:TypeId}
end
variable {k:List Frm} {n:Nat} {sl:zf}
end
variable {i:Int}{rows:List (List PV)}
section
variable {ty:TypeId} {z:Operand}
theorem zqZ{k k':IntKind}(hx:okc x (Sr a))(hy:okc y (Kk k i))(hz:okc z (Kk k' j))(ht:P.underlying t=some .string)(h0:0<=i)(h1:i<=j)(h2:j<=a.size):
 Snd P ⟨d,.slice t x (some y) (some z) none,ty,ps,af,g⟩ (rq x (Sr a)++rq y (Kk k i)++rq z (Kk k' j)) [] [] (Sr (a.extract i.toNat j.toNat)) []:=
 zm λC st M ρ b w U J _=>by
  rw[za,za]at J;have e1:=U.k (zz hx J.1.1);have e2:=U.k (zz hy J.1.2);have e3:=U.k (zz hz J.2);refine⟨.string (a.extract i.toNat j.toNat),?_,by simp only[RepS,RepV,RepPV];exact⟨uh,rfl⟩⟩;simp only[execOp,e1,e2,e3,qi,uO,Sem.run_bind,run_sliceAt_string w t _ _ _ _ ht,run_slice_string_if w t a k k' i j ht,uv (⟨ua,h2⟩:0<=j/\j<=(a.size:Int)),uv (⟨h0,h1⟩:0<=i/\i<=j),Result.andThen_ok,Sem.run_pure]
theorem znX{e:Nat}{a:Option Addr}{cap l h:Nat}(U:RepV M ρ (.p (.sl e rows)) (.slice a rows.length cap))(h1:l<=h)(h2:h<=rows.length):RepV M ρ (.p (.sl e ((rows.take h).drop l))) (sliced a l h cap e):=by
 simp only[RepV,RepPV]at U⊢;obtain⟨a',cap',e1,e2,e3,J⟩:=U;simp only[Value.slice.injEq]at e1;obtain⟨rfl,_,rfl⟩:=e1;have hl:((rows.take h).drop l).length=h - l:=by rw[tP,td];omega
 refine⟨if cap=l then a else a.map (·.add (l*e)),cap - l,by rw[hl];rfl,ua,ua,?_⟩;rcases J with rfl|⟨b,o,rfl,J⟩
 ·left;simp at h2;subst h2;simp
 ·by_cases hc:cap=l
  ·left;exact u3.1 ua
  ·right;rw[uu hc];exact⟨b,o+l*e,by simp[Addr.add],(J.take h).drop l⟩
theorem zbQ{e:Nat}(h:elemSz P t=some (el,e)):P.underlying t=some (.slice (P.elem t))/\ ∀w:World,(Go.sizeOf (P.elem t)).run P w= .ok e w:=by
 obtain⟨ii,hu,J,U⟩:=zy h;have he:P.elem t=el:=by simp[Program.elem,hu]
 rw[he];exact⟨hu,λw=>by rw[run_sizeOf J,U]⟩
theorem zq0{e:Nat}{k':IntKind}(hx:okc x (.one (.p (.sl e rows))))(hz:okc z (Kk k' j))(he:elemSz P t=some (el,e))(h0:0<=j)(h2:j<=rows.length):
 Snd P ⟨d,.slice t x none (some z) none,ty,ps,af,g⟩ (rq x (.one (.p (.sl e rows)))++rq z (Kk k' j)) [] [] (.one (.p (.sl e (rows.take j.toNat)))) []:=
 zm λC st M ρ b w hH hs _=>by
  rw[za]at hs;have U:=hH.evS (zz hx hs.1);have e3:=hH.k (zz hz hs.2);simp only[RepS]at U;have J:=U;simp only[RepV,RepPV]at J;obtain⟨a,cap,f1,f2,f3,_⟩:=J;rw[f1]at U;obtain⟨hu,hsz⟩:=zbQ he;refine⟨sliced a 0 j.toNat cap e,?_,by simp only[RepS];have:=znX U (uz j.toNat) ua;simpa only[qW]using this⟩;simp only[execOp,f1,e3,qi,uO,Sem.run_bind,run_sliceAt_slice w t _ _ _ _ hu,run_slice_h w t a rows.length cap hu k' j h0 ua,hsz,Result.andThen_ok,Sem.run_pure]
theorem znY{vs:List V}{len:Nat}{k:IntKind}{v:V}(hx:okc x (.agg vs))(hy:okc y (Kk k i))(ht:P.underlying t=some (.array len el))(he:(P.info? el).map (·.size)=some 1)(hs:shp P el=some none)(h0:0<=i)(hi:i<len)(hv:vs[i.toNat]?=some v):
 Snd P ⟨d,.index t x y,ty,ps,af,g⟩ (rq x (.agg vs)++rq y (Kk k i)) [] [] (.one v) []:=
 zm λC st M ρ a w hH h1 _=>by
  rw[za]at h1;have U:=hH.evS (zz hx h1.1);have e2:=hH.k (zz hy h1.2);simp only[RepS]at U;obtain⟨cs,U,e3⟩:=U;obtain⟨ii,J,hsz⟩:=uM.1 he;obtain⟨c,c1,c2⟩:=xx e3 hv;refine⟨c,?_,by simp only[RepS];exact c2⟩;simp only[execOp,U,e2,Instr.index,asIntOf,Sem.run_bind,Sem.run_pure,Result.andThen_ok,run_underlying ht];rw[uv ⟨h0,hi⟩];simp[part,zan hs,run_sizeOf J,hsz,c1]
def isIfc(P:Program)(t:TypeId):Bool:=match P.underlying t with
 |some (.interface _)=>true
 |_=>false
theorem zaR(h:isIfc P t=true): ∃ms,P.underlying t=some (.interface ms):=by
 unfold isIfc at h;split at h
 ·rename_i ms e;exact⟨ms,e⟩
 ·cases h
theorem zvn{id:Nat}(hx:okc x (.one (.ar id)))(U:isIfc P t=true):
 Snd P ⟨d,.binOp (if neg=true then .neq else .eql) t x (.const .nilIface) t',ty,ps,af,g⟩ (rq x (.one (.ar id))) [(id,.ifc)] [] (Bo neg) []:=
 zm λC st M ρ a w hH h1 hT=>by
  obtain⟨ms,U⟩:=zaR U;have J:=hH.evS (zz hx h1);simp only[RepS,RepV]at J;obtain⟨te,pe,hv⟩:=hH.zP.res id _ hT.1;rw[hv]at J;have h: ∀q:Nat,(Op.equalIn (q+1) t (.iface te pe) .nilIface).run P w= .ok false w:=λq=>by simp[Op.equalIn,run_underlying U]
  have e0:a.eval (.const .nilIface)= .nilIface:=rfl;refine⟨.bool neg,?_,ztd neg⟩;cases neg with
  |true=>
   simp only[execOp,uZ,J.1,e0,Sem.run_bind];simp[eqGuard,binOp,Op.equal,Op.maxDepth,h 9999,Sem.run_pure]
  |false=>
   simp only[execOp,uy,uL,J.1,e0,Sem.run_bind];simp[eqGuard,binOp,Op.equal,Op.maxDepth,h 9999,Sem.run_pure]
theorem ztt(hx:okc x (.one (.p (.k .nilIface))))(J:isIfc P t=true):
 Snd P ⟨d,.binOp (if neg=true then .neq else .eql) t x (.const .nilIface) t',ty,ps,af,g⟩ (rq x (.one (.p (.k .nilIface)))) [] [] (Bo (!neg)) []:=
 zm λC st M ρ a w hH h1 hT=>by
  obtain⟨ms,J⟩:=zaR J;have U:=hH.evS (zz hx h1);simp only[RepS,RepV,RepPV]at U;have h: ∀q:Nat,(Op.equalIn (q+1) t .nilIface .nilIface).run P w= .ok true w:=λq=>by simp[Op.equalIn,run_underlying J]
  have e0:a.eval (.const .nilIface)= .nilIface:=rfl;refine⟨.bool (!neg),?_,ztd (!neg)⟩;cases neg with
  |true=>
   simp only[execOp,uZ,U.1,e0,Sem.run_bind];simp[eqGuard,binOp,Op.equal,Op.maxDepth,h 9999,Sem.run_pure]
  |false=>
   simp only[execOp,uy,uL,U.1,e0,Sem.run_bind];simp[eqGuard,binOp,Op.equal,Op.maxDepth,h 9999,Sem.run_pure]
end
section
variable {k:List Frm} {n:Nat} {sl:zf}
theorem zdE{d:Nat}{z:Operand}{ty:TypeId}(hC:C.low){k1:IntKind}
 (hx:ev sl x=some (Sr a)) (hy:ev sl y=some (Kk k0 i)) (hz:ev sl z=some (Kk k1 j)) (ht:P.underlying t=some .string) (h0:0<=i) (h1:i<=j) (h2:j<=a.size) (hm:metL all sl g0=some gs) (hd:Nat.blt d n=true)
 (g:Goal P C (.ops all rest (nx md ⟨some d,gs++(rq x (Sr a)++rq y (Kk k0 i)++rq z (Kk k1 j)),[],[],Sr (a.extract i.toNat j.toNat),[]⟩)) k n ((d,Sr (a.extract i.toNat j.toNat))::sl) tab Q):
 Goal P C (.ops all (⟨some d,.slice t x (some y) (some z) none,ty,ps,af,g0⟩::rest) md) k n sl tab Q:=by
 have J:=zB (st:=⟨n,sl,tab⟩) hx;have U:=zB (st:=⟨n,sl,tab⟩) hy;have e3:=zB (st:=⟨n,sl,tab⟩) hz;have:=zk hm (zqZ (P:=P) (ty:=ty) (ps:=ps) (af:=af) (g:=g0) (d:=some d) (t:=t) J.1 U.1 e3.1 ht h0 h1 h2) (n:=n) (tab:=tab);exact zT (L:=⟨some d,gs++(rq x (Sr a)++rq y (Kk k0 i)++rq z (Kk k1 j)),[],[],Sr (a.extract i.toNat j.toNat),[]⟩) hC this.1 rfl ⟨by rw[za,za,za];exact⟨this.2,⟨J.2,U.2⟩,e3.2⟩,trivial,rfl,hd⟩ g
theorem zhH{d:Nat}{ty:TypeId}(hC:C.low){vs:List V}{len:Nat}{v:V}
 (hx:ev sl x=some (.agg vs)) (hy:ev sl y=some (Kk k0 i)) (ht:P.underlying t=some (.array len el)) (he:(P.info? el).map (·.size)=some 1) (hs:shp P el=some none) (h0:0<=i) (hi:i<len) (hv:vs[i.toNat]?=some v) (hm:metL all sl g0=some gs) (hd:Nat.blt d n=true)
 (g:Goal P C (.ops all rest (nx md ⟨some d,gs++(rq x (.agg vs)++rq y (Kk k0 i)),[],[],.one v,[]⟩)) k n ((d,.one v)::sl) tab Q):
 Goal P C (.ops all (⟨some d,.index t x y,ty,ps,af,g0⟩::rest) md) k n sl tab Q:=by
 have J:=zB (st:=⟨n,sl,tab⟩) hx;have U:=zB (st:=⟨n,sl,tab⟩) hy;have:=zk hm (znY (P:=P) (ty:=ty) (ps:=ps) (af:=af) (g:=g0) (d:=some d) (t:=t) J.1 U.1 ht he hs h0 hi hv) (n:=n) (tab:=tab);exact zT (L:=⟨some d,gs++(rq x (.agg vs)++rq y (Kk k0 i)),[],[],.one v,[]⟩) hC this.1 rfl ⟨by rw[za,za];exact⟨this.2,J.2,U.2⟩,trivial,rfl,hd⟩ g
theorem zdF(T:Ty P){d:Nat}{z:Operand}{ty:TypeId}(hC:C.low){e:Nat}(rows':List (List PV)){k1:IntKind}
 (hx:ev sl x=some (.one (.p (.sl e rows)))) (hz:ev sl z=some (Kk k1 j)) (he:T.es t=some (el,e)) (h0:0<=j) (h2:j<=rows.length) (hr:rows.take j.toNat=rows') (hm:metL all sl g0=some gs) (hd:Nat.blt d n=true)
 (g:Goal P C (.ops all rest (nx md ⟨some d,gs++(rq x (.one (.p (.sl e rows)))++rq z (Kk k1 j)),[],[],.one (.p (.sl e rows')),[]⟩)) k n ((d,.one (.p (.sl e rows')))::sl) tab Q):
 Goal P C (.ops all (⟨some d,.slice t x none (some z) none,ty,ps,af,g0⟩::rest) md) k n sl tab Q:=by
 subst hr;have J:=zB (st:=⟨n,sl,tab⟩) hx;have U:=zB (st:=⟨n,sl,tab⟩) hz;have:=zk hm (zq0 (P:=P) (ty:=ty) (ps:=ps) (af:=af) (g:=g0) (d:=some d) (t:=t) J.1 U.1 (T.es_ok _ _ he) h0 h2) (n:=n) (tab:=tab);exact zT (L:=⟨some d,gs++(rq x (.one (.p (.sl e rows)))++rq z (Kk k1 j)),[],[],.one (.p (.sl e (rows.take j.toNat))),[]⟩) hC this.1 rfl ⟨by rw[za,za];exact⟨this.2,J.2,U.2⟩,trivial,rfl,hd⟩ g
theorem ztu{d:Nat}{ty:TypeId}(hC:C.low){id:Nat}
 (U:ev sl x=some (.one (.ar id))) (hT:tg tab id=some .ifc) (ht:isIfc P t=true) (hm:metL all sl g0=some gs) (hd:Nat.blt d n=true)
 (g:Goal P C (.ops all rest (nx md ⟨some d,gs++rq x (.one (.ar id)),[(id,.ifc)],[],Bo false,[]⟩)) k n ((d,Bo false)::sl) tab Q):
 Goal P C (.ops all (⟨some d,.binOp .eql t x (.const .nilIface) t',ty,ps,af,g0⟩::rest) md) k n sl tab Q:=by
 have J:=zB (st:=⟨n,sl,tab⟩) U;have:=zk hm (zvn (P:=P) (neg:=false) (ty:=ty) (ps:=ps) (af:=af) (g:=g0) (d:=some d) (t':=t') J.1 ht) (n:=n) (tab:=tab);exact zT (L:=⟨some d,gs++rq x (.one (.ar id)),[(id,.ifc)],[],Bo false,[]⟩) hC this.1 rfl ⟨by rw[za];exact⟨this.2,J.2⟩,⟨hT,uh⟩,rfl,hd⟩ g
theorem ztv{d:Nat}{ty:TypeId}(hC:C.low)
 (U:ev sl x=some (.one (.p (.k .nilIface)))) (ht:isIfc P t=true) (hm:metL all sl g0=some gs) (hd:Nat.blt d n=true)
 (g:Goal P C (.ops all rest (nx md ⟨some d,gs++rq x (.one (.p (.k .nilIface))),[],[],Bo true,[]⟩)) k n ((d,Bo true)::sl) tab Q):
 Goal P C (.ops all (⟨some d,.binOp .eql t x (.const .nilIface) t',ty,ps,af,g0⟩::rest) md) k n sl tab Q:=by
 have J:=zB (st:=⟨n,sl,tab⟩) U;have:=zk hm (ztt (P:=P) (neg:=false) (ty:=ty) (ps:=ps) (af:=af) (g:=g0) (d:=some d) (t':=t') J.1 ht) (n:=n) (tab:=tab);exact zT (L:=⟨some d,gs++rq x (.one (.p (.k .nilIface))),[],[],Bo true,[]⟩) hC this.1 rfl ⟨by rw[za];exact⟨this.2,J.2⟩,trivial,rfl,hd⟩ g
theorem zkg{d:Nat}{ty:TypeId}(hC:C.low)
 (U:ev sl x=some (.one (.p (.k .nilIface)))) (ht:isIfc P t=true) (hm:metL all sl g0=some gs) (hd:Nat.blt d n=true)
 (g:Goal P C (.ops all rest (nx md ⟨some d,gs++rq x (.one (.p (.k .nilIface))),[],[],Bo false,[]⟩)) k n ((d,Bo false)::sl) tab Q):
 Goal P C (.ops all (⟨some d,.binOp .neq t x (.const .nilIface) t',ty,ps,af,g0⟩::rest) md) k n sl tab Q:=by
 have J:=zB (st:=⟨n,sl,tab⟩) U;have:=zk hm (ztt (P:=P) (neg:=true) (ty:=ty) (ps:=ps) (af:=af) (g:=g0) (d:=some d) (t':=t') J.1 ht) (n:=n) (tab:=tab);exact zT (L:=⟨some d,gs++rq x (.one (.p (.k .nilIface))),[],[],Bo false,[]⟩) hC this.1 rfl ⟨by rw[za];exact⟨this.2,J.2⟩,trivial,rfl,hd⟩ g
end
section
variable {ty:TypeId}
theorem zgh{fs l:List Operand}{ssf:List S}{first caps:List V}(hf:zeK fs ssf)(J:onesOf ssf=some first)(hx:zeK l ss)(hc:onesOf ss=some caps):
 Snd P ⟨d,.makeFunc (.func f) fs.toArray l.toArray,ty,ps,af,g⟩ (rqs fs ssf++rqs l ss) [] [] (.one (.cl f first caps)) []:=
 zm λC st M ρ a w hH U _=>by
  rw[za]at U;have e:=hH.zhE (w8 hx U.2);have e':=xR hc e;have e2:=hH.zhE (w8 hf U.1);have e2':=xR J e2;exact⟨.func (.func f) (fs.map a.eval).toArray (l.map a.eval).toArray,by simp[execOp,Instr.makeFunc],by simp only[RepS,RepV];exact⟨fs.map a.eval,l.map a.eval,rfl,e2',e'⟩⟩
end
section
variable {k:List Frm} {n:Nat} {sl:zf}
theorem znZ{d:Nat}{fs l:List Operand}{ty:TypeId}(hC:C.low){ssf:List S}{first caps:List V}
 (hf:evs sl fs=some ssf) (J:onesOf ssf=some first) (hx:evs sl l=some ss) (hc:onesOf ss=some caps) (hm:metL all sl g0=some gs) (hd:Nat.blt d n=true)
 (g:Goal P C (.ops all rest (nx md ⟨some d,gs++(rqs fs ssf++rqs l ss),[],[],.one (.cl f first caps),[]⟩)) k n ((d,.one (.cl f first caps))::sl) tab Q):
 Goal P C (.ops all (⟨some d,.makeFunc (.func f) fs.toArray l.toArray,ty,ps,af,g0⟩::rest) md) k n sl tab Q:=by
 have U:=xO (st:=⟨n,sl,tab⟩) hf;have e2:=xO (st:=⟨n,sl,tab⟩) hx;have:=zk hm (zgh (P:=P) (ty:=ty) (ps:=ps) (af:=af) (g:=g0) (d:=some d) (f:=f) U.1 J e2.1 hc) (n:=n) (tab:=tab);exact zT (L:=⟨some d,gs++(rqs fs ssf++rqs l ss),[],[],.one (.cl f first caps),[]⟩) hC this.1 rfl ⟨by rw[za,za];exact⟨this.2,U.2,e2.2⟩,trivial,rfl,hd⟩ g
end
theorem Holds.shift{st st':St}{a:Act}(h:Holds C st M ρ a w)(U:st'.n=st.n)(hs:st'.sl=st.sl)(J: ∀i r,tg st'.tab i=some r->tg st.tab i=some r):Holds C st' M ρ a w where
 dfr:=h.dfr
 sz:=by rw[U];exact h.sz
 slots:=by rw[hs];exact h.slots
 zP:=⟨λi r e=>h.zP.res i r (J i r e),λi j ri rj b e1 e2=>h.zP.dis i j ri rj b (J i ri e1) (J j rj e2),λi r b e=>h.zP.own i r b (J i r e)⟩
 ownf:=λi r b e=>h.ownf i r b (J i r e)
 run:=h.run
 keep:=h.keep
theorem zbR{ids:List Nat}{i:Nat}(h:i∉ids):tg (xy ids++tab) i=tg tab i:=by
 induction ids with
 |nil=>rfl
 |cons j ids ih=>
  simp only[uI,Uz]at h;show tg ((j,none)::(xy ids++tab)) i=_;rw[zC];split
  ·rename_i e;exact absurd e.symm (by simpa using h.1)
  ·exact ih h.2
theorem zkh{X:RL}{ids:List Nat}{i:Nat}{r:Res}(U: ∀j s,(j,s)∈X->tg tab j=some s)(hi:i∈ids->i∈X.ids)(hr:tg tab i=some r):tg (tb X++(xy ids++tab)) i=some r:=by
 induction X with
 |nil=>
  show tg (xy ids++tab) i=some r;rw[zbR (λh=>by cases hi h)];exact hr
 |cons x X ih=>
  obtain⟨j,s⟩:=x;show tg ((j,some s)::(tb X++(xy ids++tab))) i=some r;rw[zC];split
  ·rename_i e;subst e;have:=U _ s List.mem_cons_self;rw[hr]at this;simp only[ui]at this;rw[this]
  ·rename_i e;refine ih (λj s h=>U j s (uP _ h)) λh=>?_;have:=hi h;rcases uI.1 this with J|J
   ·exact absurd J.symm (by simpa using e)
   ·exact J
theorem zgi(σ:Nat->Nat): ∀R:RL,(R.ren σ).ids=R.ids.map σ
 | []=>rfl
 |(i,r)::R=>by simp only[RL.ren,RL.ids,uQ,zgi σ R]
variable {R:RL}{args:List S}{ts:Array TypeId}
section
variable {ty:TypeId}
theorem zq1(h:zh P f args R res R)(σ:Nat->Nat){l:List Operand}{first caps:List V}
 (hx:okc x (.one (.cl f first caps))) (hl:zeK l ss) (J:zH (ones first++ss++ones caps) (Ss.ren σ args)) (hi:injB σ R.ids=true)
 (hc:cloS (R.ids++R.ids) res=true) (U:x9 (R.ids++R.ids) R=true):
 Snd P ⟨d,.call ⟨.value x,l.toArray,ts⟩,ty,ps,af,g⟩ (rq x (.one (.cl f first caps))++rqs l ss) (R.ren σ) ((yc R R).map σ) (res.ren σ) []:=by
 intro C st M ρ a w hH h1 hT hF hd k Q hk;refine zki h σ hx hl J hi hi hc U C st M ρ a w hH h1 hT hF hd k Q λa' w' M' ρ' hH'=>hk a' w' M' ρ' ?_
 refine hH'.shift rfl rfl λi r hr=>?_;have hr:tg st.tab i=some r:=hr;show tg ((tb (R.ren σ)++xy (R.ids.map σ))++st.tab) i=some r;rw[tq];exact zkh (λj s hm=>xm hT hm) (λh=>by rw[zgi];exact h) hr
end
section
variable {k:List Frm} {n:Nat} {sl:zf}
theorem zq2{l:List Operand}{ty:TypeId}(hC:C.low){first caps:List V}
 (h:zh P f args R res R) (σ:Nat->Nat) (hx:ev sl x=some (.one (.cl f first caps))) (hl:evs sl l=some ss) (ha:zH (ones first++ss++ones caps) (Ss.ren σ args)) (hi:injB σ R.ids=true)
 (hc:cloS (R.ids++R.ids) res=true) (J:x9 (R.ids++R.ids) R=true) (hT:rdT tab (R.ren σ)=R.ren σ) (U:allB (λid=>Nat.ble 100 id&&freshB id ⟨n,sl,tab⟩) ((yc R R).map σ)=true) (hm:metL all sl g0=some gs) (hd:dok d n=true)
 (g:Goal P C (.ops all rest (nx md ⟨d,gs++(rq x (.one (.cl f first caps))++rqs l ss),R.ren σ,(yc R R).map σ,res.ren σ,[]⟩)) k n (app d (res.ren σ) ([]) ⟨n,sl,tab⟩).sl ([]++tab) Q):
 Goal P C (.ops all (⟨d,.call ⟨.value x,l.toArray,ts⟩,ty,ps,af,g0⟩::rest) md) k n sl tab Q:=by
 have e1:=zB (st:=⟨n,sl,tab⟩) hx;have e2:=xO (st:=⟨n,sl,tab⟩) hl;have:=zk hm (zq1 (ty:=ty) (ps:=ps) (af:=af) (g:=g0) (d:=d) (ts:=ts) h σ e1.1 e2.1 ha hi hc J) (n:=n) (tab:=tab);exact zT (L:=⟨d,gs++(rq x (.one (.cl f first caps))++rqs l ss),R.ren σ,(yc R R).map σ,res.ren σ,[]⟩) hC this.1 rfl ⟨by rw[za,za];exact⟨this.2,e1.2,e2.2⟩,jg hT,U,hd⟩ g
end
variable {G G':Prop}
theorem gG(g:G')(h:G'->G:=by first|exact λg=>znJ T hC true 400 rfl rfl g|exact λg=>zkj T hC ud g):G:=h g
theorem gB{A B:Prop}{b:Bool}(J:b=true->A)(U:b=false->B)
 (h:(b=true->A)->(b=false->B)->G:=by first|exact λJ U=>zt rfl J U|exact λJ U=>zao J U|exact λJ U=>zap rfl rfl rfl J U|exact λJ U=>zaq rfl rfl J U):G:=h J U
theorem gX(g:G')(h:G'->G:=by exact λg=>xz T hC rfl rfl rfl (uE _) (zl uf) rfl rfl g):G:=h g
theorem gXE(g:G')(h:G'->G:=by exact λg=>xz T hC rfl rfl rfl (uE _) (xA uf) rfl rfl g):G:=h g
theorem gXT(g:G')(h:G'->G:=by exact λg=>xz T hC rfl rfl rfl (uE _) (j4 uf) rfl rfl g):G:=h g
theorem gXS(g:G')(h:G'->G:=by exact λg=>w9 T hC rfl rfl rfl (uE _) uf rfl rfl g):G:=h g
theorem gQ(g:G')(h:G'->G:=by exact λg=>zhI T (.inl rfl) rfl g):G:=h g
theorem gL(g:G')(h:G'->G:=by exact λg=>zkk T (.inl rfl) rfl g):G:=h g
theorem gN(g:G')(h:G'->G:=by exact λg=>ztw T (.inl rfl) rfl g):G:=h g
theorem gF(h:G:=by exact zi ⟨.inl rfl,id,_,rfl,.refl _,trivial,rfl,rfl⟩):G:=h
theorem gE(h:G:=by first|exact zi ⟨.inl rfl,id,_,rfl,.refl _,⟨rfl,uh⟩,rfl,rfl⟩|exact zi ⟨.inl rfl,id,_,rfl,.refl _,by repeat' first|exact uh|exact rfl|refine⟨?_,?_⟩,rfl,rfl⟩):G:=h
theorem gP{P:Prop}(h:P:=by exfalso;first|(simp only[uq,ur,uk,ux,uG]at *; omega)|(simp at h<;>fail)):P:=h
theorem gD{P:Prop}(h:P:=by exfalso;simp at h<;>fail):P:=h
theorem gT(g:G')(h:G'->G:=by exact λg=>ztx T hC rfl rfl rfl rfl rfl rfl rfl rfl rfl g):G:=h g
theorem gM{σ:Nat->Nat}{a b:St}(h:Matches σ a b:=by first
 |exact⟨rfl,⟨rfl,rfl,uh⟩,trivial,rfl,λ_ _=>rfl⟩
 |exact⟨rfl,by repeat' first|exact uh|exact rfl|refine⟨?_,?_⟩,by repeat' first|exact uh|exact rfl|refine⟨?_,?_⟩,rfl,λ_ _=>rfl⟩):Matches σ a b:=h
variable {rv:List ResultVar}{z:List V}
section
variable {k:List Frm} {n:Nat} {sl:zf}
theorem gC{d:Nat}{l:List Operand}{ty:TypeId}{first caps:List V}(h:zh P f args [] res [])(g:Goal P C (.ops all rest (nx md ⟨some d,gs++(rq x (.one (.cl f first caps))++rqs l ss),[],[],res,[]⟩)) k n ((d,res)::sl) tab Q)(hC:C.low:=by assumption)(J:ev sl x=some (.one (.cl f first caps)):=by exact rfl)(hl:evs sl l=some ss:=by exact rfl)(U:zH (ones first++ss++ones caps) args:=by exact zH.refl _)(hc:cloS [] res=true:=by exact rfl)(hm:metL all sl g0=some gs:=by exact rfl)(hd:Nat.blt d n=true:=by exact rfl):
 Goal P C (.ops all (⟨some d,.call ⟨.value x,l.toArray,ts⟩,ty,ps,af,g0⟩::rest) md) k n sl tab Q:=vZ hC h J hl U hc hm hd g
theorem gR{l:List Operand}{ty:TypeId}{first caps:List V}{R':RL}(h:zh P f args R res R')(σ:Nat->Nat)(g:Goal P C (.ops all rest (nx md ⟨d,gs++(rq x (.one (.cl f first caps))++rqs l ss),R.ren σ,(yc R R').map σ,res.ren σ,tb (R'.ren σ)++xy (R.ids.map σ)⟩)) k n (app d (res.ren σ) (tb (R'.ren σ)++xy (R.ids.map σ)) ⟨n,sl,tab⟩).sl ((tb (R'.ren σ)++xy (R.ids.map σ))++tab) Q)(hC:C.low:=by assumption)(hx:ev sl x=some (.one (.cl f first caps)):=by exact rfl)(hl:evs sl l=some ss:=by exact rfl)(ha:zH (ones first++ss++ones caps) (Ss.ren σ args):=by exact zH.refl _)(hi:injB σ R.ids=true:=by exact rfl)(J:injB σ R'.ids=true:=by exact rfl)(hc:cloS (R.ids++R'.ids) res=true:=by exact rfl)(U:x9 (R.ids++R'.ids) R'=true:=by exact rfl)(hT:rdT tab (R.ren σ)=R.ren σ:=by exact rfl)(hfr:allB (λid=>Nat.ble 100 id&&freshB id ⟨n,sl,tab⟩) ((yc R R').map σ)=true:=by exact rfl)(hm:metL all sl g0=some gs:=by exact rfl)(hd:dok d n=true:=by exact rfl):
 Goal P C (.ops all (⟨d,.call ⟨.value x,l.toArray,ts⟩,ty,ps,af,g0⟩::rest) md) k n sl tab Q:=zu hC h σ hx hl ha hi J hc U hT hfr hm hd g
theorem gK{l:List Operand}{ty:TypeId}{first caps:List V}(h:zh P f args R res R)(σ:Nat->Nat)(g:Goal P C (.ops all rest (nx md ⟨d,gs++(rq x (.one (.cl f first caps))++rqs l ss),R.ren σ,(yc R R).map σ,res.ren σ,[]⟩)) k n (app d (res.ren σ) ([]) ⟨n,sl,tab⟩).sl ([]++tab) Q)(hC:C.low:=by assumption)(hx:ev sl x=some (.one (.cl f first caps)):=by exact rfl)(hl:evs sl l=some ss:=by exact rfl)(ha:zH (ones first++ss++ones caps) (Ss.ren σ args):=by exact zH.refl _)(hi:injB σ R.ids=true:=by exact rfl)(hc:cloS (R.ids++R.ids) res=true:=by exact rfl)(J:x9 (R.ids++R.ids) R=true:=by exact rfl)(hT:rdT tab (R.ren σ)=R.ren σ:=by exact rfl)(U:allB (λid=>Nat.ble 100 id&&freshB id ⟨n,sl,tab⟩) ((yc R R).map σ)=true:=by exact rfl)(hm:metL all sl g0=some gs:=by exact rfl)(hd:dok d n=true:=by exact rfl):
 Goal P C (.ops all (⟨d,.call ⟨.value x,l.toArray,ts⟩,ty,ps,af,g0⟩::rest) md) k n sl tab Q:=zq2 hC h σ hx hl ha hi hc J hT U hm hd g
theorem gI{d:Nat}{ty:TypeId}{e:Nat}{row:List PV}(T:Ty P)(J:rows[i.toNat]?=some row)(g:Goal P C (.ops all rest (nx md ⟨some d,gs++(rq x (.one (.p (.sl e rows)))++rq y (Kk k0 i)),[],[],.one (.pi row 0),[]⟩)) k n ((d,.one (.pi row 0))::sl) tab Q)(hC:C.low:=by assumption)(U:ev sl x=some (.one (.p (.sl e rows))):=by exact rfl)(hy:ev sl y=some (Kk k0 i):=by exact rfl)(he:T.es t=some (el,e):=by exact rfl)(h0:0<=i:=by first|exact uE _|decide|omega)(hm:metL all sl g0=some gs:=by exact rfl)(hd:Nat.blt d n=true:=by exact rfl):
 Goal P C (.ops all (⟨some d,.indexAddr t x y,ty,ps,af,g0⟩::rest) md) k n sl tab Q:=xz T hC U hy he h0 J hm hd g
theorem gZ(id:Nat){e:Nat}(ups:zf)(bs:List (Nat×List V))(g:Goal P C cur k n (ups++sl) (zgj bs++((id,none)::tab)) Q)(U:lst cur=true:=by exact rfl)(J:tg tab id=some (.arr e rows):=by exact rfl)
 (hS:upS (FrS id e rows) sl ups:=by repeat' first|exact uh|exact⟨⟨_,rfl,FrS.ar⟩,uh⟩|refine⟨⟨_,rfl,FrS.agg ?_⟩,?_⟩|exact zeR.nil|refine zeR.cons FrV.ar ?_|refine zeR.cons (FrV.refl _) ?_) (hB:upB (zeR id e rows) id tab bs:=by repeat' first|exact uh|refine⟨⟨_,rfl,ub,?_⟩,?_⟩|exact zeR.nil|refine zeR.cons FrV.ar ?_|refine zeR.cons (FrV.refl _) ?_):Goal P C cur k n sl tab Q:=zn0 U J ups hS bs hB g
theorem gA(id e:Nat)(ups:zf)(bs:List (Nat×List V))(g:Goal P C cur k n (ups++sl) (zgj bs++((id,some (.arr e []))::tab)) Q)(hC:C.low:=by assumption)(J:lst cur=true:=by exact rfl)(hf:(Nat.ble 100 id&&freshB id ⟨n,sl,tab⟩)=true:=by exact rfl)
 (U:upS (AdS id) sl ups:=by repeat' first|exact uh|exact⟨⟨_,rfl,AdS.nil⟩,uh⟩|refine⟨⟨_,rfl,AdS.agg ?_⟩,?_⟩|exact zcY.nil|refine zcY.cons AdV.nil ?_|refine zcY.cons (AdV.refl _) ?_) (hB:upB (zcY id) id tab bs:=by repeat' first|exact uh|refine⟨⟨_,rfl,ub,?_⟩,?_⟩|exact zcY.nil|refine zcY.cons AdV.nil ?_|refine zcY.cons (AdV.refl _) ?_):Goal P C cur k n sl tab Q:=zkl hC J id e hf ups U bs hB g
theorem gY(T:Ty P)(id':Nat){d:Nat}{tx ty:TypeId}{id e:Nat}{rows2:List (List PV)}(rows3:List (List PV))(bytes:Nat){sy:S}{rt2:RL}
 (g:Goal P C (.ops all rest (nx md ⟨some d,gs++(rq x (.one (.ar id))++rq y sy),(id,.arr e rows)::rt2,[id'],.one (.ar id'),[(id',some (.arr e rows3)),(id,none)]⟩)) k n ((d,.one (.ar id'))::sl) ([(id',some (.arr e rows3)),(id,none)]++tab) Q)
 (hC:C.low:=by assumption) (hx:ev sl x=some (.one (.ar id)):=by exact rfl) (hy:ev sl y=some sy:=by exact rfl) (hT:tg tab id=some (.arr e rows):=by exact rfl) (hs:zeJ P e tx sy rt2 rows2:=by exact zeJ.sl (T.es_ok _ _ rfl)) (U:rdT tab rt2=rt2:=by exact rfl)
 (hr:rows++rows2=rows3:=by first|exact rfl|assumption|(rw[u6];rfl)) (he:T.es t=some (el,e):=by exact rfl) (hz:T.zs el=some z:=by exact rfl) (hzl:Nat.beq z.length e=true:=by exact rfl) (hby:(P.info? el).map (·.bytes)=some bytes:=by kernel_rfl)
 (hb:(rows.length+rows2.length)*bytes<=140737488355328:=by first|(simp only[uk,uD,uR,qh];omega)|(simp only[uk,uD,uR,qh]at *; omega)|(simp<;>fail))
 (J:rows.length+rows2.length<=9223372036854775807:=by first|(simp only[uk,uD,uR,qh];omega)|(simp only[uk,uD,uR,qh]at *; omega)|(simp<;>fail)) (hm:metL all sl g0=some gs:=by exact rfl) (hd:Nat.blt d n=true:=by exact rfl) (hf:(Nat.ble 100 id'&&freshB id' ⟨n,sl,tab⟩)=true:=by exact rfl):
 Goal P C (.ops all (⟨some d,.call ⟨.builtin .append,#[x,y],#[t,tx]⟩,ty,ps,af,g0⟩::rest) md) k n sl tab Q:=zhJ T id' hC hx hy hT U hs hr he hz hzl hby hb J hm hd hf g
theorem gH(T:Ty P){d:Nat}{len:Nat}{l:List (Nat×Operand)}{ty:TypeId}(rows:List (List PV)){e:Nat}
 (g:Goal P C (.ops all rest (nx md ⟨some d,gs++rqs (l.map (·.2)) ss,[],[],.one (.p (.sl e rows)),[]⟩)) k n ((d,.one (.p (.sl e rows)))::sl) tab Q) (hC:C.low:=by assumption) (hl:evs sl (l.map (·.2))=some ss:=by exact rfl) (he:T.es t=some (el,e):=by exact rfl) (hz:T.zs el=some z:=by exact rfl)
 (hr:partsR e 0 (l.map (·.1)) ss=some rows:=by first|exact rfl|(simp only[zhK];rfl)|(simp only[zhL];rfl)) (J:Nat.beq l.length len=true:=by exact rfl) (U:Nat.ble (len*e) 16777216=true:=by exact rfl) (hl3:Nat.ble len 16777216=true:=by exact rfl) (hm:metL all sl g0=some gs:=by exact rfl) (hd:Nat.blt d n=true:=by exact rfl):
 Goal P C (.ops all (⟨some d,.buildSlice t len l.toArray,ty,ps,af,g0⟩::rest) md) k n sl tab Q:=ztx T hC hl he hz hr J U hl3 hm hd g
theorem gW(l:List Nat){T:Ty P}{R':RL}{e:Exit}(J:e= .ret\/e= .normal:=by exact .inl rfl)(U:rvsOf T ⟨n,sl,tab⟩ rv=some ss:=by exact rfl)(h2:LeS (tupOf ss) (res.ren (nm l)):=by exact .refl _)(h3:mR (nm l) tab R':=by repeat' first|exact uh|exact rfl|refine⟨?_,?_⟩)(h4:injB (nm l) R'.ids=true:=by exact rfl)(h5:allB (λi=>Nat.beq (nm l i) i) R.ids=true:=by exact rfl):
 Goal P C (.fin e) [] n sl tab (zeL T rv R res R'):=zi ⟨J,nm l,ss,U,h2,h3,h4,h5⟩
theorem gO{fn:Func}{c:Code}{R':RL}(T:Ty P)(hf:P.funcs[f]?=some fn)(body: ∀C:Ctx,C.low->Goal P C (.code c) [] fn.ntmps (enum 0 args) (tb R) (zeL T rv R res R'))
 (J:(fn.name== "runtime.NumGoroutine")=false:=by kernel_rfl) (hb:fn.body=some c:=by exact rfl) (hrv:fn.results=rv.toArray:=by exact rfl) (U:allB (λi=>Nat.blt i 100) R.ids=true:=by exact rfl)
 (hn:Nat.ble args.length fn.ntmps=true:=by exact rfl):zh P f args R res R':=zty T hf J hb hrv U hn body
end
end Hw
namespace Hw.Gm
open Go Go.Proofs
def zP:Tabs:=
{ sh:=(.nd (.nd (.nd (.nd (.nd (.nd (.nd (.nd .lf 1 none .lf) 2 none .lf) 3 none (.nd .lf 4 none .lf)) 5 none (.nd (.nd (.nd .lf 9 none .lf) 20 none .lf) 21 none (.nd .lf 22 none .lf))) 23 none (.nd (.nd (.nd (.nd .lf 24 none .lf) 25 none .lf) 26 none (.nd .lf 27 none .lf)) 28 none (.nd (.nd (.nd .lf 30 (some 8) .lf) 31 none .lf) 32 none (.nd .lf 34 (some 2) .lf)))) 35 none (.nd (.nd (.nd (.nd (.nd .lf 39 none .lf) 40 none .lf) 47 (some 4) (.nd .lf 59 none .lf)) 62 none (.nd (.nd (.nd .lf 64 (some 2) .lf) 74 none .lf) 79 none (.nd .lf 83 (some 2) .lf))) 85 none (.nd (.nd (.nd (.nd .lf 87 none .lf) 88 none .lf) 90 (some 5) (.nd .lf 93 none .lf)) 95 (some 12) (.nd (.nd .lf 99 (some 3) .lf) 103 (some 2) (.nd .lf 107 none .lf))))) 115 (some 3) (.nd (.nd (.nd (.nd (.nd (.nd .lf 117 (some 5) .lf) 122 none .lf) 124 (some 4) (.nd .lf 126 (some 5) .lf)) 129 (some 2) (.nd (.nd (.nd .lf 132 none .lf) 133 none .lf) 136 (some 2) (.nd .lf 137 none .lf))) 138 none (.nd (.nd (.nd (.nd .lf 140 none .lf) 143 none .lf) 145 (some 3) (.nd .lf 149 none .lf)) 152 none (.nd (.nd (.nd .lf 154 none .lf) 156 none .lf) 160 (some 7) (.nd .lf 163 (some 6) .lf)))) 165 (some 5) (.nd (.nd (.nd (.nd (.nd .lf 166 none .lf) 167 none .lf) 169 none (.nd .lf 171 (some 3) .lf)) 173 none (.nd (.nd (.nd .lf 175 (some 12) .lf) 177 none .lf) 180 none (.nd .lf 182 (some 15) .lf))) 183 none (.nd (.nd (.nd (.nd .lf 185 (some 13) .lf) 186 none .lf) 189 none (.nd .lf 192 none .lf)) 198 none (.nd (.nd .lf 202 (some 5) .lf) 207 none (.nd .lf 210 none .lf)))))) 217 (some 5) (.nd (.nd (.nd (.nd (.nd (.nd (.nd .lf 218 none .lf) 219 none .lf) 221 (some 10) (.nd .lf 222 none .lf)) 223 none (.nd (.nd (.nd .lf 225 none .lf) 226 none .lf) 228 none (.nd .lf 230 (some 1) .lf))) 235 none (.nd (.nd (.nd (.nd .lf 236 none .lf) 238 (some 12) .lf) 240 none (.nd .lf 242 (some 1) .lf)) 245 none (.nd (.nd (.nd .lf 247 (some 3) .lf) 251 (some 1) .lf) 253 none (.nd .lf 259 none .lf)))) 262 (some 4) (.nd (.nd (.nd (.nd (.nd .lf 268 none .lf) 269 none .lf) 271 none (.nd .lf 274 none .lf)) 276 none (.nd (.nd (.nd .lf 279 none .lf) 281 none .lf) 284 none (.nd .lf 287 none .lf))) 294 (some 1) (.nd (.nd (.nd (.nd .lf 297 (some 3) .lf) 304 none .lf) 308 (some 2) (.nd .lf 310 none .lf)) 312 none (.nd (.nd .lf 314 none .lf) 319 none (.nd .lf 325 none .lf))))) 329 none (.nd (.nd (.nd (.nd (.nd (.nd .lf 331 none .lf) 336 none .lf) 338 (some 2) (.nd .lf 340 (some 2) .lf)) 343 none (.nd (.nd (.nd .lf 344 none .lf) 346 none .lf) 349 none (.nd .lf 351 none .lf))) 356 none (.nd (.nd (.nd (.nd .lf 357 none .lf) 361 (some 2) .lf) 362 none (.nd .lf 365 none .lf)) 367 (some 256) (.nd (.nd .lf 369 none .lf) 373 none (.nd .lf 379 none .lf)))) 381 (some 2) (.nd (.nd (.nd (.nd (.nd .lf 383 none .lf) 387 (some 3) .lf) 392 none (.nd .lf 393 none .lf)) 395 (some 3) (.nd (.nd (.nd .lf 396 none .lf) 398 (some 3) .lf) 401 (some 3) (.nd .lf 404 none .lf))) 405 none (.nd (.nd (.nd (.nd .lf 407 (some 1) .lf) 408 none .lf) 409 none (.nd .lf 411 (some 24) .lf)) 415 (some 20) (.nd (.nd .lf 416 (some 65) .lf) 417 (some 32) (.nd .lf 418 (some 64) .lf)))))))
  fo:=(.nd (.nd (.nd (.nd (.nd (.nd .lf 30 (.nd (.nd (.nd (.nd .lf 0 0 .lf) 1 1 .lf) 2 2 (.nd .lf 3 3 .lf)) 4 4 (.nd (.nd .lf 5 5 .lf) 6 6 (.nd .lf 7 7 .lf))) .lf) 34 (.nd (.nd .lf 0 0 .lf) 1 1 .lf) .lf) 47 (.nd (.nd (.nd .lf 0 0 .lf) 1 1 .lf) 2 2 (.nd .lf 3 3 .lf)) (.nd (.nd .lf 64 (.nd (.nd .lf 0 0 .lf) 1 1 .lf) .lf) 83 (.nd (.nd .lf 0 0 .lf) 1 1 .lf) .lf)) 90 (.nd (.nd (.nd .lf 0 0 .lf) 1 1 .lf) 2 2 (.nd (.nd .lf 3 3 .lf) 4 4 .lf)) (.nd (.nd (.nd .lf 95 (.nd (.nd (.nd .lf 0 0 .lf) 1 8 .lf) 2 9 (.nd (.nd .lf 3 10 .lf) 4 11 .lf)) .lf) 99 (.nd (.nd .lf 0 0 .lf) 1 1 (.nd .lf 2 2 .lf)) .lf) 103 (.nd (.nd .lf 0 0 .lf) 1 1 .lf) (.nd .lf 115 (.nd (.nd .lf 0 0 .lf) 1 1 (.nd .lf 2 2 .lf)) .lf))) 117 (.nd (.nd .lf 0 0 .lf) 1 1 (.nd .lf 2 2 .lf)) (.nd (.nd (.nd (.nd .lf 124 (.nd (.nd (.nd .lf 0 0 .lf) 1 1 .lf) 2 2 (.nd .lf 3 3 .lf)) .lf) 126 (.nd (.nd .lf 0 0 .lf) 1 1 .lf) .lf) 129 (.nd (.nd .lf 0 0 .lf) 1 1 .lf) (.nd (.nd .lf 136 (.nd (.nd .lf 0 0 .lf) 1 1 .lf) .lf) 145 (.nd (.nd .lf 0 0 .lf) 1 1 (.nd .lf 2 2 .lf)) .lf)) 160 (.nd (.nd (.nd .lf 0 0 .lf) 1 1 .lf) 2 2 (.nd .lf 3 3 .lf)) (.nd (.nd (.nd .lf 163 (.nd (.nd .lf 0 0 .lf) 1 1 (.nd .lf 2 2 .lf)) .lf) 165 (.nd (.nd .lf 0 0 .lf) 1 1 .lf) .lf) 171 (.nd (.nd .lf 0 0 .lf) 1 1 (.nd .lf 2 2 .lf)) (.nd .lf 175 (.nd (.nd (.nd .lf 0 0 .lf) 1 8 .lf) 2 10 (.nd .lf 3 11 .lf)) .lf)))) 182 (.nd (.nd (.nd .lf 0 0 .lf) 1 8 (.nd .lf 2 10 .lf)) 3 11 (.nd (.nd .lf 4 12 .lf) 5 13 (.nd .lf 6 14 .lf))) (.nd (.nd (.nd (.nd (.nd .lf 185 (.nd (.nd (.nd .lf 0 0 .lf) 1 8 .lf) 2 10 (.nd (.nd .lf 3 11 .lf) 4 12 .lf)) .lf) 202 (.nd (.nd (.nd .lf 0 0 .lf) 1 1 .lf) 2 2 (.nd .lf 3 3 .lf)) .lf) 217 (.nd (.nd (.nd .lf 0 0 .lf) 1 1 .lf) 2 2 (.nd (.nd .lf 3 3 .lf) 4 4 .lf)) (.nd (.nd .lf 221 (.nd (.nd .lf 0 0 .lf) 1 8 (.nd .lf 2 9 .lf)) .lf) 230 (.nd .lf 0 0 .lf) .lf)) 238 (.nd (.nd (.nd .lf 0 0 .lf) 1 8 .lf) 2 10 (.nd .lf 3 11 .lf)) (.nd (.nd (.nd .lf 242 (.nd .lf 0 0 .lf) .lf) 247 (.nd (.nd .lf 0 0 .lf) 1 1 (.nd .lf 2 2 .lf)) .lf) 251 (.nd .lf 0 0 .lf) (.nd .lf 294 (.nd .lf 0 0 .lf) .lf))) 297 (.nd (.nd .lf 0 0 .lf) 1 1 (.nd .lf 2 2 .lf)) (.nd (.nd (.nd (.nd .lf 308 (.nd (.nd .lf 0 0 .lf) 1 1 .lf) .lf) 338 (.nd (.nd .lf 0 0 .lf) 1 1 .lf) .lf) 340 (.nd (.nd .lf 0 0 .lf) 1 1 .lf) (.nd (.nd .lf 361 (.nd (.nd .lf 0 0 .lf) 1 1 .lf) .lf) 381 (.nd (.nd .lf 0 0 .lf) 1 1 .lf) .lf)) 387 (.nd (.nd .lf 0 0 .lf) 1 1 (.nd .lf 2 2 .lf)) (.nd (.nd (.nd .lf 395 (.nd (.nd .lf 0 0 .lf) 1 1 (.nd .lf 2 2 .lf)) .lf) 398 (.nd (.nd .lf 0 0 .lf) 1 1 (.nd .lf 2 2 .lf)) .lf) 401 (.nd (.nd .lf 0 0 .lf) 1 1 (.nd .lf 2 2 .lf)) (.nd .lf 407 (.nd .lf 0 0 .lf) .lf)))))
  es:=(.nd (.nd (.nd (.nd (.nd .lf 22 (129,2) .lf) 23 (136,2) (.nd .lf 24 (90,5) .lf)) 25 (160,7) (.nd (.nd .lf 26 (163,6) .lf) 27 (126,5) .lf)) 28 (165,5) (.nd (.nd (.nd .lf 31 (3,1) .lf) 32 (83,2) (.nd .lf 35 (64,2) .lf)) 39 (47,4) (.nd (.nd .lf 59 (5,1) .lf) 79 (39,1) .lf))) 88 (217,5) (.nd (.nd (.nd (.nd .lf 122 (124,4) .lf) 138 (99,3) (.nd .lf 140 (202,5) .lf)) 180 (297,3) (.nd (.nd .lf 228 (169,1) .lf) 304 (9,1) .lf)) 325 (23,1) (.nd (.nd (.nd .lf 331 (88,1) .lf) 356 (361,2) (.nd .lf 357 (356,1) .lf)) 379 (381,2) (.nd (.nd .lf 392 (398,3) .lf) 393 (401,3) .lf))))
  zs:=(.nd (.nd (.nd (.nd (.nd (.nd (.nd (.nd .lf 1 [.nfunc] .lf) 2 [(.int .i64)] .lf) 3 [(.int .i64)] (.nd .lf 4 [.bool] .lf)) 5 [(.int .u8)] (.nd (.nd (.nd .lf 9 [.str] .lf) 20 [.nif] .lf) 21 [(.int .i32)] (.nd .lf 22 [.slice] .lf))) 23 [.slice] (.nd (.nd (.nd (.nd .lf 24 [.slice] .lf) 25 [.slice] .lf) 26 [.slice] (.nd .lf 27 [.slice] .lf)) 28 [.slice] (.nd (.nd .lf 30 [.str,.slice,.slice,.slice,.slice,.slice,.slice,.slice] .lf) 31 [.slice] (.nd .lf 32 [.slice] .lf)))) 34 [.slice,.slice] (.nd (.nd (.nd (.nd (.nd .lf 35 [.slice] .lf) 39 [.slice] .lf) 40 [(.int .i64)] (.nd .lf 47 [(.int .i64),(.int .i64),(.int .i64),(.int .i64)] .lf)) 59 [.slice] (.nd (.nd (.nd .lf 62 [.nfunc] .lf) 64 [.str,.slice] .lf) 74 [.nfunc] (.nd .lf 79 [.slice] .lf))) 83 [(.int .i64),.slice] (.nd (.nd (.nd (.nd .lf 85 [.nfunc] .lf) 87 [.nfunc] .lf) 88 [.slice] (.nd .lf 90 [.str,.slice,.str,.slice,.slice] .lf)) 93 [.ptr] (.nd (.nd .lf 95 [.str,.slice,.slice,.slice,.slice,.slice,.slice,.slice,.slice,(.int .i64),.slice,(.int .i64)] .lf) 99 [.str,.str,(.int .i64)] (.nd .lf 103 [(.int .i64),(.int .i64)] .lf))))) 107 [.map] (.nd (.nd (.nd (.nd (.nd (.nd .lf 115 [(.int .i64),(.int .i64),(.int .i64)] .lf) 117 [(.int .i64),(.int .i64),(.int .i64),(.int .i64),(.int .i64)] .lf) 122 [.slice] (.nd .lf 124 [(.int .i64),(.int .i64),.str,.slice] .lf)) 126 [.str,(.int .i64),(.int .i64),.str,.slice] (.nd (.nd (.nd .lf 129 [.str,.slice] .lf) 132 [.nfunc] .lf) 133 [.nfunc] (.nd .lf 136 [.str,.str] .lf))) 137 [.nfunc] (.nd (.nd (.nd (.nd .lf 138 [.slice] .lf) 140 [.slice] .lf) 143 [.ptr] (.nd .lf 145 [.slice,(.int .i64),.bool] .lf)) 149 [.ptr] (.nd (.nd .lf 152 [.nfunc] .lf) 154 [.nfunc] (.nd .lf 156 [.nfunc] .lf)))) 160 [.str,.str,(.int .i64),(.int .i64),(.int .i64),.str,.slice] (.nd (.nd (.nd (.nd (.nd .lf 163 [.str,.str,(.int .i64),(.int .i64),.str,.slice] .lf) 165 [.str,(.int .i64),(.int .i64),.str,.slice] .lf) 166 [.ptr] (.nd .lf 167 [.ptr] .lf)) 169 [.nfunc] (.nd (.nd (.nd .lf 171 [.str,(.int .i64),(.int .i64)] .lf) 173 [.nfunc] .lf) 175 [.str,.slice,.slice,.slice,.slice,.slice,.slice,.slice,.slice,.slice,.slice,.slice] (.nd .lf 177 [.ptr] .lf))) 180 [.slice] (.nd (.nd (.nd (.nd .lf 182 [.str,.slice,.slice,.slice,.slice,.slice,.slice,.slice,.slice,.slice,(.int .i64),(.int .i64),(.int .i64),(.int .i64),.slice] .lf) 183 [.map] .lf) 185 [.str,.slice,.slice,.slice,.slice,.slice,.slice,.slice,.slice,.slice,.slice,.map,(.int .i64)] (.nd .lf 186 [.ptr] .lf)) 189 [.ptr] (.nd (.nd .lf 192 [.nfunc] .lf) 198 [.nfunc] (.nd .lf 202 [(.int .i64),.str,(.int .i64),(.int .i64),(.int .i64)] .lf)))))) 207 [.nfunc] (.nd (.nd (.nd (.nd (.nd (.nd (.nd .lf 210 [.nfunc] .lf) 217 [(.int .i64),.str,.slice,.slice,.slice] .lf) 218 [.map] (.nd .lf 219 [.map] .lf)) 221 [.str,.slice,.slice,.slice,.slice,.slice,.slice,.slice,.map,.map] (.nd (.nd (.nd .lf 222 [.nfunc] .lf) 223 [.nfunc] .lf) 225 [.nfunc] (.nd .lf 226 [.nfunc] .lf))) 228 [.slice] (.nd (.nd (.nd (.nd .lf 230 [(.int .i64)] .lf) 235 [.map] .lf) 236 [.map] (.nd .lf 238 [.str,.slice,.slice,.slice,.slice,.slice,.slice,.slice,.slice,.slice,.map,.map] .lf)) 240 [.ptr] (.nd (.nd .lf 242 [(.int .i64)] .lf) 245 [.map] (.nd .lf 247 [.ptr,.map,.bool] .lf)))) 251 [(.int .i64)] (.nd (.nd (.nd (.nd (.nd .lf 253 [.nfunc] .lf) 259 [(.int .u64)] .lf) 262 [.str,.str,.str,.str] (.nd .lf 268 [.nfunc] .lf)) 269 [.nfunc] (.nd (.nd (.nd .lf 271 [.nfunc] .lf) 274 [.nfunc] .lf) 276 [.nfunc] (.nd .lf 279 [.nfunc] .lf))) 281 [.nfunc] (.nd (.nd (.nd (.nd .lf 284 [.nfunc] .lf) 287 [.ptr] .lf) 294 [(.int .i64)] (.nd .lf 297 [(.int .i64),(.int .i64),(.int .i64)] .lf)) 304 [.slice] (.nd (.nd .lf 308 [(.int .i64),(.int .i64)] .lf) 310 [.nfunc] (.nd .lf 312 [(.int .u32)] .lf))))) 314 [(.int .u64)] (.nd (.nd (.nd (.nd (.nd (.nd .lf 319 [.nif] .lf) 325 [.slice] .lf) 329 [.nfunc] (.nd .lf 331 [.slice] .lf)) 336 [.ptr] (.nd (.nd (.nd .lf 338 [.slice,.slice] .lf) 340 [.bool,(.int .i64)] .lf) 343 [.nfunc] (.nd .lf 344 [.nfunc] .lf))) 346 [.map] (.nd (.nd (.nd (.nd .lf 349 [.nfunc] .lf) 351 [.nfunc] .lf) 356 [.slice] (.nd .lf 357 [.slice] .lf)) 361 [.str,(.int .i64)] (.nd (.nd .lf 362 [.nfunc] .lf) 365 [.nfunc] (.nd .lf 369 [.nfunc] .lf)))) 373 [.ptr] (.nd (.nd (.nd (.nd (.nd .lf 379 [.slice] .lf) 381 [(.int .i64),(.int .i64)] .lf) 383 [.ptr] (.nd .lf 387 [.str,.str,.nif] .lf)) 392 [.slice] (.nd (.nd (.nd .lf 393 [.slice] .lf) 395 [.slice,.slice,(.int .i64)] .lf) 396 [(.int .u16)] (.nd .lf 398 [(.int .u16),(.int .u16),(.int .u16)] .lf))) 401 [(.int .u32),(.int .u32),(.int .u32)] (.nd (.nd (.nd (.nd .lf 404 [.ptr] .lf) 405 [.ptr] .lf) 407 [.str] (.nd .lf 408 [.ptr] .lf)) 409 [.ptr] (.nd (.nd .lf 411 [(.int .u8),(.int .u8),(.int .u8),(.int .u8),(.int .u8),(.int .u8),(.int .u8),(.int .u8),(.int .u8),(.int .u8),(.int .u8),(.int .u8),(.int .u8),(.int .u8),(.int .u8),(.int .u8),(.int .u8),(.int .u8),(.int .u8),(.int .u8),(.int .u8),(.int .u8),(.int .u8),(.int .u8)] .lf) 415 [(.int .u64),(.int .u64),(.int .u64),(.int .u64),(.int .u64),(.int .u64),(.int .u64),(.int .u64),(.int .u64),(.int .u64),(.int .u64),(.int .u64),(.int .u64),(.int .u64),(.int .u64),(.int .u64),(.int .u64),(.int .u64),(.int .u64),(.int .u64)] (.nd .lf 417 [(.int .u8),(.int .u8),(.int .u8),(.int .u8),(.int .u8),(.int .u8),(.int .u8),(.int .u8),(.int .u8),(.int .u8),(.int .u8),(.int .u8),(.int .u8),(.int .u8),(.int .u8),(.int .u8),(.int .u8),(.int .u8),(.int .u8),(.int .u8),(.int .u8),(.int .u8),(.int .u8),(.int .u8),(.int .u8),(.int .u8),(.int .u8),(.int .u8),(.int .u8),(.int .u8),(.int .u8),(.int .u8)] .lf)))))))
  pl:=(.nd (.nd (.nd (.nd (.nd (.nd .lf 30 [(0,1),(1,1),(2,1),(3,1),(4,1),(5,1),(6,1),(7,1)] .lf) 34 [(0,1),(1,1)] .lf) 47 [(0,1),(1,1),(2,1),(3,1)] (.nd (.nd .lf 64 [(0,1),(1,1)] .lf) 83 [(0,1),(1,1)] .lf)) 90 [(0,1),(1,1),(2,1),(3,1),(4,1)] (.nd (.nd (.nd .lf 95 [(0,8),(8,1),(9,1),(10,1),(11,1)] .lf) 99 [(0,1),(1,1),(2,1)] .lf) 103 [(0,1),(1,1)] (.nd .lf 115 [(0,1),(1,1),(2,1)] .lf))) 117 [(0,1),(1,1),(2,3)] (.nd (.nd (.nd (.nd .lf 124 [(0,1),(1,1),(2,1),(3,1)] .lf) 126 [(0,1),(1,4)] .lf) 129 [(0,1),(1,1)] (.nd (.nd .lf 136 [(0,1),(1,1)] .lf) 145 [(0,1),(1,1),(2,1)] .lf)) 160 [(0,1),(1,1),(2,1),(3,4)] (.nd (.nd (.nd .lf 163 [(0,1),(1,1),(2,4)] .lf) 165 [(0,1),(1,4)] .lf) 171 [(0,1),(1,1),(2,1)] (.nd .lf 175 [(0,8),(8,2),(10,1),(11,1)] .lf)))) 182 [(0,8),(8,2),(10,1),(11,1),(12,1),(13,1),(14,1)] (.nd (.nd (.nd (.nd (.nd .lf 185 [(0,8),(8,2),(10,1),(11,1),(12,1)] .lf) 202 [(0,1),(1,1),(2,1),(3,2)] .lf) 217 [(0,1),(1,1),(2,1),(3,1),(4,1)] (.nd (.nd .lf 221 [(0,8),(8,1),(9,1)] .lf) 230 [(0,1)] .lf)) 238 [(0,8),(8,2),(10,1),(11,1)] (.nd (.nd (.nd .lf 242 [(0,1)] .lf) 247 [(0,1),(1,1),(2,1)] .lf) 251 [(0,1)] (.nd .lf 294 [(0,1)] .lf))) 297 [(0,1),(1,1),(2,1)] (.nd (.nd (.nd (.nd .lf 308 [(0,1),(1,1)] .lf) 338 [(0,1),(1,1)] .lf) 340 [(0,1),(1,1)] (.nd (.nd .lf 361 [(0,1),(1,1)] .lf) 381 [(0,1),(1,1)] .lf)) 387 [(0,1),(1,1),(2,1)] (.nd (.nd (.nd .lf 395 [(0,1),(1,1),(2,1)] .lf) 398 [(0,1),(1,1),(2,1)] .lf) 401 [(0,1),(1,1),(2,1)] (.nd .lf 407 [(0,1)] .lf)))))
  str:=(.nd .lf 9 () .lf)
  ik:=(.nd (.nd (.nd (.nd .lf 2 .i64 .lf) 3 .i64 .lf) 5 .u8 (.nd .lf 21 .i32 .lf)) 40 .i64 (.nd (.nd (.nd .lf 259 .u64 .lf) 312 .u32 .lf) 314 .u64 (.nd .lf 396 .u16 .lf))) }
theorem zq3:zP.check Tryz.prog=true:=by kernel_rfl
theorem mixed:Tryz.prog.follows .mixedOrders=true:=by kernel_rfl
noncomputable def T:Ty Tryz.prog:=zP.ty zq3 mixed
end Hw.Gm
namespace Hw.Gm
open Go Go.Proofs Hw.M
structure Mc where
 g:List Int
 ns:List Nd
 ticks:Int
 calls:Int
 comps:Int
 acc:List (Int×Int×Int)
inductive An (α:Type) where
 |ok (v:α) (m:Mc)
 |flt (e:Int) (m:Mc)
 |out
variable {β:Type}
def An.bind{α:Type}:An α->(α->Mc->An β)->An β
 | .ok v m,f=>f v m
 | .flt e m,_=> .flt e m
 | .out,_=> .out
def ixF(l:List Fld)(s:Str):Option Nat:=l.findIdx? λf=>decide (f.n=s)
def zte(d:zj)(s:Str):Option Nat:=d.types.findIdx? λt=>decide (t.n=s)
def zcZ(d:zj)(s:Str):Option Nat:=d.procs.findIdx? λp=>decide (p.n=s)
def atA{α:Type}(l:List α)(i:Nat)(f:α->An β):An β:=match l[i]? with
 |some x=>f x
 |none=> .out
def opA{α:Type}(o:Option α)(f:α->An β):An β:=match o with
 |some x=>f x
 |none=> .out
def ifA(p:Prop)[Decidable p](x:An β):An β:=if p then x else .out
def inB(n:Int):Prop:= -1099511627776<=n/\n<=1099511627776
instance (n:Int):Decidable (inB n):=by unfold inB;infer_instance
def zdG(m:Mc)(k n f:Int)(c:Mc->An β):An β:=ifA (m.acc.length<1099511627776) (c { m with acc:=m.acc++[(k,n,f)] })
def tyO(d:zj)(vs:List Fld):Ex->Option Str
 | .mk op _ s l=>if op=4 then(match ixF vs s with
    |some i=>(vs[i]?).map (·.t)
    |none=>(ixF d.globals s).bind λi=>(d.globals[i]?).map (·.t))
   else if op=5 then(match l with
    |x::_=>(tyO d vs x).bind λt=>(zte d t).bind λi=>(d.types[i]?).bind λy=>(ixF y.f s).bind λj=>(y.f[j]?).map (·.t)
    | []=>none)
   else if op=6 then some s
   else if op=7 then(zcZ d s).bind λi=>(d.procs[i]?).map (·.res)
   else if op=21 then(match l with
    |_::y::z::_=>(tyO d vs y).bind λt=>if t=(⟨#[110,105,108]⟩:UH)then tyO d vs z else some t
    |_=>none)
   else if op=3 then some (⟨#[110,105,108]⟩:UH)
   else if op=2\/op=18\/op=19\/op=20\/op=14\/op=15\/op=16\/op=17 then some (⟨#[98,111,111,108]⟩:UH)
   else some (⟨#[105,110,116]⟩:UH)
def jN(m:Mc)(n:Int):An Int:=if n>1099511627776\/n< -1099511627776 then .flt 5 m else .ok n m
def jO(n:Int):Int:=if n<0 then -n else n
def zn1(m:Mc)(op a b:Int):An Int:=
 if op=9 then jN m (a+b)else if op=10 then jN m (a - b)
 else if op=11 then(if ¬a=0/\jO b>Int.tdiv 1099511627776 (jO a)then .flt 5 m else .ok (a*b) m)
 else if op=12 then(if b=0 then .flt 18 m else .ok (Int.tdiv a b) m)
 else if op=13 then(if b=0 then .flt 18 m else .ok (Int.tmod a b) m)
 else if op=22 then .ok (if a<b then b else a) m else .ok (if b<a then b else a) m
def zvo(m:Mc)(op a b:Int):An Int:=ifA (inB a/\inB b) (zn1 m op a b)
def zeS(b:Bool):Int:=if b then 1 else 0
def ztz(n:Int):Int:=Nat.log2 (if n<1 then 1 else n.toNat)
structure Fr where
 vs:List Fld
 va:List Int
def nmV(d:zj)(fr:Fr)(s:Str)(m:Mc):An Int:=match ixF fr.vs s with
 |some i=>atA fr.va i λv=> .ok v m
 |none=>opA (ixF d.globals s) λi=>atA m.g i λv=>zdG m 1 0 i λm=> .ok v m
def fdA(d:zj)(v:Int)(s:Str)(m:Mc)(c:Nd->Nat->An β):An β:=
 ifA (0<v/\v<=1000000) (atA m.ns (v - 1).toNat λx=>ifA (0<=x.t) (atA d.types x.t.toNat λy=>opA (ixF y.f s) λi=>c x i))
def fdV(d:zj)(v:Int)(s:Str)(m:Mc):An Int:=if v=0 then .flt 17 m else fdA d v s m λx i=>atA x.f i λu=>zdG m 1 v i λm=> .ok u m
def nwV(d:zj)(s:Str)(m:Mc):An Int:=if(m.ns.length:Int)≥4096 then .flt 21 m else opA (zte d s) λt=>atA d.types t λy=>ifA (y.f.length<=1000000)
 (zdG { m with ns:=m.ns++[⟨(t:Nat),List.replicate y.f.length 0⟩] } 3 (m.ns.length+1:Nat) (t:Nat) λm1=> .ok (m.ns.length+1:Nat) m1)
def zp6(m:Mc)(b:Bool):An Int:=ifA (0<=m.comps/\m.comps<1099511627776) (.ok (zeS b) { m with comps:=m.comps+1 })
def zvp(d:zj)(fr:Fr)(x:Ex)(op a b:Int)(m:Mc):An Int:=
 if op=14\/op=15 then opA (tyO d fr.vs x) λt=>if t=(⟨#[105,110,116]⟩:UH)then zp6 m (decide (decide (a=b)=decide (op=14)))else .ok (zeS (decide (decide (a=b)=decide (op=14)))) m
 else if op=16 then zp6 m (decide (a<b))else if op=17 then zp6 m (decide (a<=b))else zvo m op a b
def ziZ(fuel:Int)(m:Mc)(c:Mc->An β):An β:=if m.ticks≥fuel then .flt 20 m else ifA (0<=m.ticks/\m.ticks<1099511627776) (c { m with ticks:=m.ticks+1 })
def stV(d:zj)(fr:Fr)(s:Str)(v:Int)(m:Mc):An (Option Int×Fr):=match ixF fr.vs s with
 |some i=>ifA (i<fr.va.length) (.ok (none,{ fr with va:=fr.va.set i v }) m)
 |none=>opA (ixF d.globals s) λi=>ifA (i<m.g.length) (zdG m 2 0 i λm=> .ok (none,fr) { m with g:=m.g.set i v })
def ptV(d:zj)(fr:Fr)(s:Str)(n v:Int)(m:Mc):An (Option Int×Fr):=if n=0 then .flt 17 m else fdA d n s m λx i=>
 ifA (i<x.f.length) (zdG m 2 n i λm=> .ok (none,fr) { m with ns:=m.ns.set (n - 1).toNat ⟨x.t,x.f.set i v⟩ })
mutual
def exV(d:zj)(fuel:Int)(fr:Fr):Nat->Ex->Mc->An Int
 |0,_,_=> .out
 |k+1,e,m=>
  if e.op=1\/e.op=2 then .ok e.n m else if e.op=3 then .ok 0 m
  else if e.op=4 then nmV d fr e.s m
  else if e.op=5 then(atA e.l 0 λx=>exV d fuel fr k x m).bind λv m=>fdV d v e.s m
  else if e.op=6 then nwV d e.s m
  else if e.op=7 then clV d fuel fr k e m
  else if e.op=8 then(atA e.l 0 λx=>exV d fuel fr k x m).bind λv m=>ifA (inB v) (jN m (-v))
  else if e.op=24 then(atA e.l 0 λx=>exV d fuel fr k x m).bind λv m=>ifA (inB v) (.ok (ztz v) m)
  else if e.op=18 then(atA e.l 0 λx=>exV d fuel fr k x m).bind λv m=>ifA (inB v) (.ok (1 - v) m)
  else if e.op=19 then(atA e.l 0 λx=>exV d fuel fr k x m).bind λv m=>if v=0 then .ok 0 m else atA e.l 1 λy=>exV d fuel fr k y m
  else if e.op=20 then(atA e.l 0 λx=>exV d fuel fr k x m).bind λv m=>if v=1 then .ok 1 m else atA e.l 1 λy=>exV d fuel fr k y m
  else if e.op=21 then(atA e.l 0 λx=>exV d fuel fr k x m).bind λv m=>if v=1 then atA e.l 1 λy=>exV d fuel fr k y m else atA e.l 2 λy=>exV d fuel fr k y m
  else atA e.l 0 λx=>(exV d fuel fr k x m).bind λa m=>(atA e.l 1 λy=>exV d fuel fr k y m).bind λb m=>zvp d fr x e.op a b m
def exsV(d:zj)(fuel:Int)(fr:Fr):Nat->List Ex->Mc->An (List Int)
 |0,_,_=> .out
 |_+1,[],m=> .ok [] m
 |k+1,x::r,m=>(exV d fuel fr k x m).bind λv m=>(exsV d fuel fr k r m).bind λl m=> .ok (v::l) m
def clV(d:zj)(fuel:Int)(fr:Fr):Nat->Ex->Mc->An Int
 |0,_,_=> .out
 |k+1,e,m=>ifA (e.l.length<=1000000) ((exsV d fuel fr k e.l m).bind λa m=>opA (zcZ d e.s) λi=>atA d.procs i λp=>rnV d fuel k p a m)
def rnV(d:zj)(fuel:Int):Nat->Pr->List Int->Mc->An Int
 |0,_,_,_=> .out
 |k+1,p,a,m=>if m.calls≥200 then .flt 19 m else ifA (0<=m.calls/\a.length<=1000000/\p.params.length<=100000/\p.locs.length<=100000)
   ((ssV d fuel k ⟨p.params++p.locs,a++List.replicate p.locs.length 0⟩ p.body { m with calls:=m.calls+1 }).bind λq m=>ifA (0<m.calls/\m.calls<=1000) (.ok (q.1.getD 0) { m with calls:=m.calls - 1 }))
def ssV(d:zj)(fuel:Int):Nat->Fr->List Sm->Mc->An (Option Int×Fr)
 |0,_,_,_=> .out
 |_+1,fr,[],m=> .ok (none,fr) m
 |k+1,fr,x::r,m=>(sV d fuel k fr x m).bind λq m=>match q.1 with
  |some v=> .ok (some v,q.2) m
  |none=>ssV d fuel k q.2 r m
def sV(d:zj)(fuel:Int):Nat->Fr->Sm->Mc->An (Option Int×Fr)
 |0,_,_,_=> .out
 |k+1,fr,x,m=>ziZ fuel m λm=>
  if x.op=1 then(atA x.e 0 λy=>exV d fuel fr k y m).bind λv m=>stV d fr x.s v m
  else if x.op=2 then(atA x.e 0 λy=>exV d fuel fr k y m).bind λn m=>(atA x.e 1 λy=>exV d fuel fr k y m).bind λv m=>ptV d fr x.s n v m
  else if x.op=3 then(atA x.e 0 λy=>exV d fuel fr k y m).bind λv m=>if v=1 then ssV d fuel k fr x.l m else ssV d fuel k fr x.els m
  else if x.op=4 then atA x.e 0 λy=>whV d fuel k fr y x.l m
  else if x.op=5 then(if x.e.length=0 then .ok (some 0,fr) m else(atA x.e 0 λy=>exV d fuel fr k y m).bind λv m=> .ok (some v,fr) m)
  else if x.op=6 then(atA x.e 0 λy=>clV d fuel fr k y m).bind λ_ m=> .ok (none,fr) m
  else .ok (none,fr) m
def whV(d:zj)(fuel:Int):Nat->Fr->Ex->List Sm->Mc->An (Option Int×Fr)
 |0,_,_,_,_=> .out
 |k+1,fr,c,l,m=>(exV d fuel fr k c m).bind λv m=>if v=1 then((ssV d fuel k fr l m).bind λq m=>match q.1 with
   |some r=> .ok (some r,q.2) m
   |none=>ziZ fuel m λm=>whV d fuel k q.2 c l m)else .ok (none,fr) m
end
end Hw.Gm
namespace Hw
open Go
variable {L:List (List (List PV))}{q:Nat}{rs:List (List PV)}
theorem zar{M:Mem}{ρ:Nat->Value}{w:World}{id e:Nat}(h:zO M ρ w id (.bag e L))(hq:L[q]?=some rs){v:Value}{xs:List Value}(J:ρ id= .tuple xs.toArray)(hv:xs[q]?=some v):jh M w v e rs:=by
 obtain⟨cs,h2,_,hc,_⟩:=h;rw[h2]at J;simp only[Value.tuple.injEq]at J;have f3:xs=cs:=by have:=uX Array.toList J;simpa using this.symm
 subst f3;obtain⟨c,U,c2⟩:=hc q _ hq;rw[hv]at U;obtain rfl:=uS U;exact c2
variable {P:Program}{af:Array Edge}{el t:TypeId}{i:Int}{ps:String}{us:List PV}{x:Operand}
section
variable {d:Option Nat} {ty:TypeId} {g:Option (Nat×Bool)} {y:Operand}
theorem zgk{id e:Nat}{k:IntKind}(hx:okc x (.one (.nv id q)))(hy:okc y (Kk k i))(hq:L[q]?=some rs)(h:elemSz P t=some (el,e))(h0:0<=i)(hi:i<rs.length):
 Snd P ⟨d,.indexAddr t x y,ty,ps,af,g⟩ (rq x (.one (.nv id q))++rq y (Kk k i)) [(id,.bag e L)] [] (.one (.np id q (i.toNat*e))) []:=
 zm λC st M ρ a w hH h1 ht=>by
  rw[za]at h1;have e1:=hH.evS (zz hx h1.1);have e2:=hH.k (zz hy h1.2);simp only[RepS,RepV]at e1;obtain⟨xs,f1,f2,_⟩:=e1;obtain⟨a',cap,h3,h4,h5,U⟩:=zar (hH.zP.res id _ ht.1) hq f1 f2;obtain⟨ii,hu,J,hsz⟩:=zy h;rcases U with⟨U,h7⟩|⟨b,o,arr,el',fz,U,_⟩
  ·subst h7;omega
  ·subst U;refine⟨.pointer (some ⟨b,o+i.toNat*e,none⟩),?_,by simp only[RepS,RepV];exact⟨_,b,o,_,_,f1,by rw[f2,h3],rfl⟩⟩;simp only[execOp,h3,e2,Instr.indexAt,asIntOf,Sem.run_bind,Sem.run_pure,Result.andThen_ok,run_underlying hu];rw[uv ⟨h0,hi⟩];simp only[Sem.run_bind,Sem.run_pure,Result.andThen_ok,run_sizeOf J,ym,hsz]
theorem zi0{id e kk:Nat}{vs:List PV}{s:Option Nat}{v:S}(hx:okc x (.one (.np id q kk)))(hq:L[q]?=some rs)(h:shp P t=some s)
 (U: ∀j p,vs[j]?=some p->rs.flatten[kk+j]?=some p) (hv:ofCells s (vs.map V.p)=some v):
 Snd P ⟨d,.load t x,ty,ps,af,g⟩ (rq x (.one (.np id q kk))) [(id,.bag e L)] [] v []:=
 zm λC st M ρ a w hH h1 ht=>by
  have e1:=hH.evS (zz hx h1);simp only[RepS,RepV]at e1;obtain⟨xs,b,o,m,cap,f1,f2,e2⟩:=e1;obtain⟨a',cap',h3,h4,h5,J⟩:=zar (hH.zP.res id _ ht.1) hq f1 f2;simp only[Value.slice.injEq]at h3;rcases J with⟨J,_⟩|⟨b',o',arr,el,fz,J,h7,h7',h8,h9⟩
  ·rw[J]at h3;cases h3.1
  ·rw[J]at h3;have hb:b=b'/\o=o':=by have:=h3.1;simp at this;exact this
   obtain⟨rfl,rfl⟩:=hb;obtain⟨us,g1,_,g3⟩:=h9.cells (ρ:=ρ)
   obtain⟨ds,k9,k10⟩:=wE (M:=M) (ρ:=ρ) (vs:=vs.map V.p) (g:=λj=>arr[o+(kk+j)]?) λj u hj=>by
    rw[uK,uM]at hj;obtain⟨p,hp,rfl⟩:=hj;obtain⟨c,hc,hr⟩:=xx g1 (m:=kk+j) (v:= .p p) (by rw[uK,U j p hp];rfl);exact⟨c,g3 _ c hc,hr⟩
   obtain⟨u,hu,hr⟩:=yu (w:=w) (b:=b) (o:=o+kk) h k9 (λq c hc=>by
    have:=k10 q c hc;simp only[<-qf]at this
    simp[World.cell?,h7,this]) hv
   exact⟨u,by simp only[execOp,e2,Sem.run_bind,Instr.loadAt,Instr.sureAddr,Sem.run_pure,Result.andThen_ok,hu],hr⟩
theorem zgl{id e kk:Nat}{rs':List (List PV)}{s:S}{sh:Option Nat}(hx:okc x (.one (.np id q kk)))(hy:okc y s)(h:shp P t=some sh)(hc:cellsOf s=some (us.map V.p))(hl:us.length=sh.getD 1)
 (hq:L[q]?=some rs) (hrl:rs'.length=rs.length) (hre: ∀r∈rs',r.length=e) (hb:kk+us.length<=rs.length*e)
 (hn: ∀m p,rs'.flatten[m]?=some p->(kk<=m/\us[m - kk]?=some p)\/((m<kk\/kk+us.length<=m)/\rs.flatten[m]?=some p)):
 Snd P ⟨d,.store t x y,ty,ps,af,g⟩ (rq x (.one (.np id q kk))++rq y s) [(id,.bag e L)] [] .un [(id,some (.bag e (L.set q rs')))]:=by
 intro C st M ρ a w hH h1 ht _ hd k Q hk;rw[za]at h1;have e0:=hH.evS (zz hx h1.1);have ey:=yV hc (hH.evS (zz hy h1.2));simp only[RepS,RepV]at e0;obtain⟨xs,b,o,m,cap,f1,f2,e2⟩:=e0;obtain⟨cs,g1,gn,gc,gap⟩:=hH.zP.res id _ ht.1;have f1':=f1;rw[g1]at f1;simp only[Value.tuple.injEq]at f1;have f3:xs=cs:=by have:=uX Array.toList f1;simpa using this.symm
 subst f3;obtain⟨c0,c1,c2⟩:=gc q _ hq;rw[f2]at c1;obtain rfl:=uS c1;obtain⟨ai,capi,i1,i2,i3,i6⟩:=c2;simp only[Value.slice.injEq]at i1;rcases i6 with⟨i6,_⟩|⟨b',o',arr,el,fz,i6,i7,i7',i8,i9⟩
 ·rw[i6]at i1;cases i1.1
 rw[i6]at i1;have hbo:b=b'/\o=o':=by have:=i1.1;simp at this;exact this
 obtain⟨rfl,rfl⟩:=hbo;have hm:m=rs.length:=i1.2.1;have hcp:cap=capi:=i1.2.2;subst hm;subst hcp;obtain⟨ii,hinf,hs⟩:=zbv h;have J:(a.eval y).cells.toList.length=us.length:=by rw[ey.length,uk]
 have hie:rs.length*e<=cap*e:=tI e i2;have hst:=z7 (P:=P) b (o+kk) el fz (a.eval y).cells.toList 0 arr w i7 i7' (by rw[J];omega) ey.one
 have hrun:(execOp a.eval ⟨d,.store t x y,ty,ps,af,g⟩).run P w= .ok .skip (w.setRow b (setAt arr.toList (o+kk) (a.eval y).cells.toList).toArray):=by
  have hsz: ¬((a.eval y).cells.size≠ii.size):=by rw[hs,<-hl,<-J];simp
  simp only[execOp,e2,Instr.storeAt,Instr.sureAddr,Sem.run_bind,Sem.run_pure,Result.andThen_ok,storeVar,run_sizeOf hinf,uu hsz];simp only[hst,Result.andThen_ok,tY]
 unfold Oper.wp;rw[hrun,Oper.upon_skip];have hcsl:o+kk+(a.eval y).cells.toList.length<=arr.toList.length:=by rw[J];simp;omega
 have hsz:(setAt arr.toList (o+kk) (a.eval y).cells.toList).toArray.size=arr.size:=by simp[yC _ _ _ hcsl]
 have hget: ∀m:Nat,(setAt arr.toList (o+kk) (a.eval y).cells.toList).toArray[o+m]?=if o+m<o+kk then arr[o+m]? else if o+m<o+kk+us.length then(a.eval y).cells.toList[o+m - (o+kk)]? else arr[o+m]?:=λm=>by
  rw[tu,yQ _ _ _ _ ua,J];simp
 generalize hW:setAt arr.toList (o+kk) (a.eval y).cells.toList=narr at*;have hoB: ∀k:Nat,k≠b->(w.setRow b narr.toArray).heap[k]?=w.heap[k]?:=λk hk=>setRow_other w b k _ hk
 have hnB:(w.setRow b narr.toArray).heap[b]?=some (.cells narr.toArray el fz):=setRow_heap w b _ _ el _ i7
 -- the array anew
 have hinner:jh M (w.setRow b narr.toArray) (.slice (some ⟨b,o,none⟩) rs.length cap) e rs':=by
  refine⟨some ⟨b,o,none⟩,cap,by rw[hrl],ua,i3,.inr ⟨b,o,narr.toArray,el,fz,rfl,hnB,by rw[hsz];exact i7',by rw[hsz];exact i8,?_⟩⟩;obtain⟨u1,u2,_,u4⟩:=i9.cells (ρ:=ρ)
  obtain⟨ds,k9,k10⟩:=wE (M:=M) (ρ:=ρ) (vs:=rs'.flatten.map V.p) (g:=λj=>narr.toArray[o+j]?) λj v U=>by
   rw[uK,uM]at U;obtain⟨p,hp,rfl⟩:=U;rcases hn j p hp with⟨n1,n2⟩|⟨n1,n2⟩
   ·have hlt:j - kk<us.length:=(uw.1 n2).1;obtain⟨c,v1,v2⟩:=xx ey (m:=j - kk) (v:= .p p) (by rw[uK,n2];rfl);refine⟨c,?_,v2⟩;rw[hget,uu ua,uv ua,<-v1];congr 1;omega
   ·obtain⟨c,v1,v2⟩:=xx u2 (m:=j) (v:= .p p) (by rw[uK,n2];rfl);refine⟨c,?_,v2⟩;rw[hget];rcases n1 with n1|n1
    ·rw[uv ua];exact u4 _ c v1
    ·rw[uu ua,uu ua];exact u4 _ c v1
  exact RowsIn.yG (ρ:=ρ) hre k9 λj c hc=>k10 j c hc
 have hblk:blk (.slice (some ⟨b,o,none⟩) rs.length cap)=some b:=rfl
 have hap2: ∀j c,j≠q->xs[j]?=some c-> ∀b2,blk c=some b2->b2≠b:=λj c hne U b2 hb2 e=>by
  subst e;exact gap j q b2 c _ U f2 hne hb2 hblk
 refine hk _ _ M ρ (hH.turn ht.1 (λk hk=>hoB k λe=>hk (by rw[e,g1];exact zkm f2 hblk)) ue rfl rfl rfl
  ⟨xs,g1,by rw[oH];exact gn,λj p U=>?_,gap⟩ (by simp only[RepS]) hd)
 rw[oY]at U;split at U
 ·rename_i hjq;subst hjq;split at U
  ·obtain rfl:=uS U;exact⟨_,f2,hinner⟩
  ·cases U
 ·rename_i hjq;obtain⟨c,v1,v2⟩:=gc j p U;exact⟨c,v1,v2.world λb2 hb2=>hoB b2 (hap2 j c (λe=>hjq e.symm) v1 b2 hb2)⟩
end
variable {C:Ctx}{Q:Exit->St->Prop}{g0:Option (Nat×Bool)}{gs:zf}{md:Mode}{tab:Tab}
section
variable {k:List Frm} {n:Nat} {sl:zf} {all:Array Oper} {rest:List Oper}
theorem zp7(T:Ty P){d:Nat}{y:Operand}{ty:TypeId}(hC:C.low){id e:Nat}{k0:IntKind}
 (hx:ev sl x=some (.one (.nv id q))) (hy:ev sl y=some (Kk k0 i)) (hT:tg tab id=some (.bag e L)) (hq:L[q]?=some rs) (he:T.es t=some (el,e)) (h0:0<=i) (hi:i<rs.length) (hm:metL all sl g0=some gs) (hd:Nat.blt d n=true)
 (g:Goal P C (.ops all rest (nx md ⟨some d,gs++(rq x (.one (.nv id q))++rq y (Kk k0 i)),[(id,.bag e L)],[],.one (.np id q (i.toNat*e)),[]⟩)) k n ((d,.one (.np id q (i.toNat*e)))::sl) tab Q):
 Goal P C (.ops all (⟨some d,.indexAddr t x y,ty,ps,af,g0⟩::rest) md) k n sl tab Q:=by
 have J:=zB (st:=⟨n,sl,tab⟩) hx;have U:=zB (st:=⟨n,sl,tab⟩) hy;have:=zk hm (zgk (e:=e) (L:=L) (ty:=ty) (ps:=ps) (af:=af) (g:=g0) (d:=some d) J.1 U.1 hq (T.es_ok _ _ he) h0 hi) (n:=n) (tab:=tab);exact zT (L:=⟨some d,gs++(rq x (.one (.nv id q))++rq y (Kk k0 i)),[(id,.bag e L)],[],.one (.np id q (i.toNat*e)),[]⟩) hC this.1 rfl ⟨by rw[za,za];exact⟨this.2,J.2,U.2⟩,⟨hT,uh⟩,rfl,hd⟩ g
theorem zq4(T:Ty P){d:Nat}{ty:TypeId}(hC:C.low){id e kk:Nat}(vs:List PV){s:Option Nat}{v:S}
 (hx:ev sl x=some (.one (.np id q kk))) (hT:tg tab id=some (.bag e L)) (hq:L[q]?=some rs) (J:T.sh t=some s) (U: ∀j p,vs[j]?=some p->rs.flatten[kk+j]?=some p) (hv:ofCells s (vs.map V.p)=some v) (hm:metL all sl g0=some gs) (hd:Nat.blt d n=true)
 (g:Goal P C (.ops all rest (nx md ⟨some d,gs++rq x (.one (.np id q kk)),[(id,.bag e L)],[],v,[]⟩)) k n ((d,v)::sl) tab Q):
 Goal P C (.ops all (⟨some d,.load t x,ty,ps,af,g0⟩::rest) md) k n sl tab Q:=by
 have e1:=zB (st:=⟨n,sl,tab⟩) hx;have:=zk hm (zi0 (e:=e) (L:=L) (ty:=ty) (ps:=ps) (af:=af) (g:=g0) (d:=some d) e1.1 hq (T.sh_ok _ _ J) U hv) (n:=n) (tab:=tab);exact zT (L:=⟨some d,gs++rq x (.one (.np id q kk)),[(id,.bag e L)],[],v,[]⟩) hC this.1 rfl ⟨by rw[za];exact⟨this.2,e1.2⟩,⟨hT,uh⟩,rfl,hd⟩ g
theorem zn2(T:Ty P){y:Operand}{ty:TypeId}(hC:C.low){id e kk:Nat}(rs':List (List PV)){s:S}{sh:Option Nat}
 (hx:ev sl x=some (.one (.np id q kk))) (hy:ev sl y=some s) (hT:tg tab id=some (.bag e L)) (J:T.sh t=some sh) (hc:cellsOf s=some (us.map V.p)) (hl:us.length=sh.getD 1)
 (hq:L[q]?=some rs) (U:rs'.length=rs.length) (hre: ∀r∈rs',r.length=e) (hb:kk+us.length<=rs.length*e)
 (hn: ∀m p,rs'.flatten[m]?=some p->(kk<=m/\us[m - kk]?=some p)\/((m<kk\/kk+us.length<=m)/\rs.flatten[m]?=some p)) (hm:metL all sl g0=some gs)
 (g:Goal P C (.ops all rest (nx md ⟨none,gs++(rq x (.one (.np id q kk))++rq y s),[(id,.bag e L)],[],.un,[(id,some (.bag e (L.set q rs')))]⟩)) k n sl ((id,some (.bag e (L.set q rs')))::tab) Q):
 Goal P C (.ops all (⟨none,.store t x y,ty,ps,af,g0⟩::rest) md) k n sl tab Q:=by
 have e1:=zB (st:=⟨n,sl,tab⟩) hx;have e2:=zB (st:=⟨n,sl,tab⟩) hy;have:=zk hm (zgl (ty:=ty) (ps:=ps) (af:=af) (g:=g0) (d:=none) e1.1 e2.1 (T.sh_ok _ _ J) hc hl hq U hre hb hn) (n:=n) (tab:=tab);exact zT (L:=⟨none,gs++(rq x (.one (.np id q kk))++rq y s),[(id,.bag e L)],[],.un,[(id,some (.bag e (L.set q rs')))]⟩) hC this.1 rfl ⟨by rw[za,za];exact⟨this.2,e1.2,e2.2⟩,⟨hT,uh⟩,rfl,rfl⟩ g
end
def RwV(F:(Nat->Value)->Prop)(v v':V):Prop:= ∀M ρ x,F ρ->RepV M ρ v x->RepV M ρ v' x
def zn3(F:(Nat->Value)->Prop)(v v':List V):Prop:= ∀M ρ x,F ρ->RepVs M ρ v x->RepVs M ρ v' x
def RwS(F:(Nat->Value)->Prop)(v v':S):Prop:= ∀M ρ x,F ρ->RepS M ρ v x->RepS M ρ v' x
def RwR(F:(Nat->Value)->Prop)(r r':Res):Prop:= ∀M ρ w i,F ρ->zO M ρ w i r->zO M ρ w i r'
variable {F:(Nat->Value)->Prop}
theorem RwV.refl(v:V):RwV F v v:=λ_ _ _ _ h=>h
theorem zn3.nil:zn3 F [] []:=λ_ _ _ _ h=>h
theorem zn3.refl(v:List V):zn3 F v v:=λ_ _ _ _ h=>h
theorem zn3.cons{v v':V}{vs vs':List V}(h:RwV F v v')(U:zn3 F vs vs'):zn3 F (v::vs) (v'::vs'):=λM ρ x hf J=>by
 cases x with
 |nil=>simp only[RepVs]at J
 |cons c cs=>simp only[RepVs]at J ⊢; exact⟨h _ _ _ hf J.1,U _ _ _ hf J.2⟩
theorem RwS.refl(v:S):RwS F v v:=λ_ _ _ _ h=>h
theorem RwS.one{v v':V}(h:RwV F v v'):RwS F (.one v) (.one v'):=λM ρ x hf J=>by simp only[RepS]at J ⊢; exact h _ _ _ hf J
theorem RwS.agg{v v':List V}(h:zn3 F v v'):RwS F (.agg v) (.agg v'):=λM ρ x hf J=>by
 simp only[RepS]at J ⊢; obtain⟨cs,U,h2⟩:=J;exact⟨cs,U,h _ _ _ hf h2⟩
theorem RwR.refl(r:Res):RwR F r r:=λ_ _ _ _ _ h=>h
theorem RwR.box{vs vs':List V}(h:zn3 F vs vs'):RwR F (.box vs) (.box vs'):=λ_ _ _ _ J ⟨b,cs,el,U,e2,e3⟩=>⟨b,cs,el,U,e2,h _ _ _ J e3⟩
theorem RwR.vw{ids ids':List Nat}{e:Nat}{rows rows':List (List PC)}(hl:rows'.length=rows.length)(U: ∀r∈rows',r.length=e)
 (h: ∀(j:Nat) (J:PC),rows'.flatten[j]?=some J-> ∃x,rows.flatten[j]?=some x/\RwV F (toV ids x) (toV ids' J)):RwR F (.vw ids e rows) (.vw ids' e rows'):=λM ρ w i hF hr=>by
 obtain⟨a,cap,h1,h2,h3,_,h4⟩:=hr;refine⟨a,cap,by rw[hl];exact h1,ua,h3,U,?_⟩;rcases h4 with h4|⟨b,o,cs,el,fz,h5,h6,h6',h7,h8⟩
 ·exact .inl h4
 ·refine .inr ⟨b,o,cs,el,fz,h5,h6,h6',h7,λj J hj=>?_⟩;obtain⟨x,hx,hv⟩:=h j J hj;obtain⟨c,c1,c2⟩:=h8 j x hx;exact⟨c,c1,hv _ _ _ hF c2⟩
def upW(F:(Nat->Value)->Prop)(olds news:List Nat)(tab:Tab):List (Nat×Res)->Prop
 | []=>True
 |(i,r')::l=>(∃r,tg tab i=some r/\((hasB i olds||hasB i news)=false/\RwR F r r'))/\upW F olds news tab l
theorem zp8{F:(Nat->Value)->Prop}{olds news:List Nat}{tab b:Tab}: ∀ {ups:List (Nat×Res)},upW F olds news tab ups-> ∀ {k:Nat} {r:Res},tg (znK ups++b) k=some r->
 tg b k=some r\/ ∃J,tg tab k=some J/\k∉olds/\k∉news/\RwR F J r
 | [],_,k,r,h=> .inl h
 |(t,s')::l,hu,k,r,h=>by
  simp only[znK,uN,zC]at h;split at h
  ·rename_i e;subst e;simp only[ui]at h;subst h;obtain⟨J,h1,h2,h3⟩:=hu.1;simp only[uW]at h2;have n1:t∉olds:=λU=>by have:=zbw U;rw[h2.1]at this;cases this
   have n2:t∉news:=λU=>by have:=zbw U;rw[h2.2]at this;cases this
   exact .inr ⟨J,h1,n1,n2,h3⟩
  ·exact zp8 hu.2 h
structure ztA (M:Mem) (ρ ρ':Nat->Value) (w:World) (tab:Tab) (olds:List Nat) (news:RL):Prop where
 agr: ∀i,i∉news.ids->ρ' i=ρ i
 res: ∀i r,tg (tb news) i=some r->zO M ρ' w i r
 blk: ∀i r b,tg (tb news) i=some r->Bk (ρ' i) b-> ∃j s,j∈olds/\tg tab j=some s/\Bk (ρ j) b
 dis: ∀i j ri rj b,tg (tb news) i=some ri->tg (tb news) j=some rj->i≠j->Bk (ρ' i) b->Bk (ρ' j) b->False
theorem zeT{l:RL}{b:Tab}{i:Nat}{r:Res}(h:tg (tb l++b) i=some r):tg (tb l) i=some r\/(i∉l.ids/\tg b i=some r):=by
 induction l with
 |nil=>exact .inr ⟨by simp[RL.ids],h⟩
 |cons x l U=>
  obtain⟨j,s⟩:=x;simp only[tb,uN,zC]at h⊢;split at h
  ·rename_i e;rw[uv e];exact .inl h
  ·rename_i e;rw[uu e];rcases U h with J|⟨J,h2⟩
   ·exact .inl J
   ·exact .inr ⟨by simp only[RL.ids,uI,Uz];exact⟨λh=>e h.symm,J⟩,h2⟩
section
variable {k:List Frm} {n:Nat} {sl:zf} {cur:Cur}
theorem zhM(hC:C.low)(hc:lst cur=true)(olds:List Nat)(news:RL)(F:(Nat->Value)->Prop)(hf:allB (λid=>Nat.ble 100 id&&freshB id ⟨n,sl,tab⟩) news.ids=true)
 (hmk: ∀ {M ρ w},wc M ρ w tab-> ∃ρ',F ρ'/\ztA M ρ ρ' w tab olds news)
 (ups:zf) (hS:upS (RwS F) sl ups) (bs:List (Nat×Res)) (hB:upW F olds news.ids tab bs) (g:Goal P C cur k n (ups++sl) (znK bs++(tb news++(xy olds++tab))) Q):Goal P C cur k n sl tab Q:=by
 refine zc0 hc (λ{M ρ a w} h=>?_) g;obtain⟨ρ',hF,hR⟩:=hmk h.zP
 have fresh: ∀i∈news.ids,wG C i ⟨n,sl,tab⟩:=λi J=>by
  have:=zM hf i J;simp only[uo]at this;exact vF this.2 (hC.none (uV this.1))
 have hX:zdH (λi=>i∈news.ids) ρ ρ':=λi J=>hR.agr i J
 have hsl: ∀k s,sg sl k=some s->RepS M ρ' s (a.tmps.getD k undef):=λk s hk=>RepS.agree hX _ _ (λi J=>(fresh i J).1 k s hk) (h.slots k s hk)
 have hold: ∀i r,tg tab i=some r->zO M ρ' w i r:=λi r J=>
  (h.zP.res i r J).agree hX (λhm=>((fresh i hm).2.1 i r J).1 rfl) (λj hj=>((fresh j hj).2.1 i r J).2)
 have nn: ∀i r,tg tab i=some r->i∉news.ids:=λi r J hm=>((fresh i hm).2.1 i r J).1 rfl
 -- what an entry of the new table is
 have htab: ∀i r,tg (znK bs++(tb news++(xy olds++tab))) i=some r->(i∈news.ids/\tg (tb news) i=some r)\/(i∉olds/\i∉news.ids/\ ∃r0,tg tab i=some r0/\(r=r0\/RwR F r0 r)):=λi r J=>by
  rcases zp8 hB J with U|⟨r0,U,h2,h3,h4⟩
  ·rcases zeT U with h2|⟨h2,h3⟩
   ·exact .inl ⟨zR (zQ h2),h2⟩
   ·have:=zgm h3;exact .inr ⟨this.1,h2,r,this.2,.inl rfl⟩
  ·exact .inr ⟨h2,h3,r0,U,.inr h4⟩
 have bkold: ∀i,i∉news.ids-> ∀b,Bk (ρ' i) b->Bk (ρ i) b:=λi J b hb=>by rw[hR.agr i J]at hb;exact hb
 have cross: ∀i j ri b,tg (tb news) i=some ri->j∉olds->j∉news.ids->(∃rj,tg tab j=some rj)->Bk (ρ' i) b->Bk (ρ' j) b->False:=λi j ri b J hjo hjn ⟨rj,hj⟩ hbi hbj=>by
  obtain⟨q,s,hq,hs,hbq⟩:=hR.blk i ri b J hbi;exact h.zP.dis q j s rj b hs hj (λe=>hjo (e ▸ hq)) hbq (bkold j hjn b hbj)
 refine⟨M,ρ',h.dfr,h.sz,λk s hk=>?_,⟨λi r J=>?_,λi j ri rj b J hj hne hbi hbj=>?_,λi r b J hb o=>?_⟩,λi r b J hb=>?_,h.run,λi r J=>?_⟩
 ·rcases zeU hS hk with U|⟨s0,U,h2⟩
  ·exact hsl k s U
  ·exact h2 _ _ _ hF (hsl k s0 U)
 ·rcases htab i r J with⟨_,U⟩|⟨_,_,r0,U,h2⟩
  ·exact hR.res i r U
  ·rcases h2 with rfl|h2
   ·exact hold i r U
   ·exact h2 _ _ _ _ hF (hold i r0 U)
 ·rcases htab i ri J with⟨_,U⟩|⟨i1,i2,r0,U,_⟩<;>rcases htab j rj hj with⟨_,h2⟩|⟨j1,j2,s0,h2,_⟩
  ·exact hR.dis i j ri rj b U h2 hne hbi hbj
  ·exact cross i j ri b U j1 j2 ⟨s0,h2⟩ hbi hbj
  ·exact cross j i rj b h2 i1 i2 ⟨r0,U⟩ hbj hbi
  ·exact h.zP.dis i j r0 s0 b U h2 hne (bkold i i2 b hbi) (bkold j j2 b hbj)
 ·rcases htab i r J with⟨_,U⟩|⟨i1,i2,r0,U,_⟩
  ·obtain⟨q,s,_,hs,hbq⟩:=hR.blk i r b U hb;exact h.zP.own q s b hs hbq o
  ·exact h.zP.own i r0 b U (bkold i i2 b hb) o
 ·rcases htab i r J with⟨_,U⟩|⟨i1,i2,r0,U,_⟩
  ·obtain⟨q,s,_,hs,hbq⟩:=hR.blk i r b U hb;exact h.ownf q s b hs hbq
  ·exact h.ownf i r0 b U (bkold i i2 b hb)
 ·rw[hR.agr i λhm=>by have:=(fresh i hm).2.2;rw[J]at this;cases this];exact h.keep i r J
def TkF(id id2 id' m:Nat)(ρ:Nat->Value):Prop:= ∃cs:List Value,ρ id= .tuple cs.toArray/\cs.length=m/\(ρ id2).oneCell'=true/\ρ id'= .tuple (cs++[ρ id2]).toArray
theorem TkF.nv{id J id' m j:Nat}:RwV (TkF id J id' m) (.nv id j) (.nv id' j):=λM ρ x hF hr=>by
 obtain⟨cs,h1,h2,h3,h4⟩:=hF;simp only[RepV]at hr⊢;obtain⟨xs,U,f2,f3⟩:=hr;rw[h1]at U;have:xs=cs:=by simp only[Value.tuple.injEq]at U;have:=uX Array.toList U;simpa using this.symm
 subst this;exact⟨_,h4,by rw[u9 (uw.1 f2).1];exact f2,f3⟩
theorem TkF.ar{id J id' m:Nat}:RwV (TkF id J id' m) (.ar J) (.nv id' m):=λM ρ x hF U=>by
 obtain⟨cs,h1,h2,h3,h4⟩:=hF;simp only[RepV]at U⊢;exact⟨_,h4,by rw[u7 ua,h2,qZ,U.1];rfl,U.2⟩
theorem zi1{cs:List Value}{v:Value}(h:zcJ cs)(hv: ∀(j b:Nat) z,cs[j]?=some z->blk z=some b->blk v≠some b):zcJ (cs++[v]):=by
 have get: ∀(i:Nat) z,(cs++[v])[i]?=some z->cs[i]?=some z\/(i=cs.length/\z=v):=λi z J=>by
  rcases tp i cs.length with hlt|hge
  ·rw[u9 hlt]at J;exact .inl J
  ·rw[u7 hge]at J;have h0:i - cs.length=0:=by have:=(uw.1 J).1;simp at this;omega
   rw[h0]at J;simp only[List.getElem?_cons_zero,ui]at J;exact .inr ⟨ua,J.symm⟩
 intro i j b p q hp hq hne U hbq;rcases get i p hp with hi|⟨rfl,rfl⟩<;>rcases get j q hq with hj|⟨rfl,rfl⟩
 ·exact h i j b p q hi hj hne U hbq
 ·exact hv i b p hi U hbq
 ·exact hv j b q hj hbq U
 ·exact hne rfl
theorem zkn(hC:C.low)(hc:lst cur=true)(id J id':Nat){e:Nat}(hid:tg tab id=some (.bag e L))(U:tg tab J=some (.arr e rs))(hne:Nat.beq id J=false)
 (hf:(Nat.ble 100 id'&&freshB id' ⟨n,sl,tab⟩)=true)
 (ups:zf) (hS:upS (RwS (TkF id J id' L.length)) sl ups) (bs:List (Nat×Res)) (hB:upW (TkF id J id' L.length) [id,J] [id'] tab bs)
 (g:Goal P C cur k n (ups++sl) (znK bs++((id',some (.bag e (L++[rs])))::(id,none)::(J,none)::tab)) Q):Goal P C cur k n sl tab Q:=by
 have hne':id≠J:=λe=>by subst e;rw[wH]at hne;cases hne
 refine zhM hC hc [id,J] [(id',.bag e (L++[rs]))] (TkF id J id' L.length) (by simp only[RL.ids,allB,hf,qk]) (λ{M ρ w} hT=>?_) ups hS bs hB g;simp only[uo]at hf
 have nid: ∀i r,tg tab i=some r->i≠id':=λi r hi e=>by
  have:=(vF (C:=C) hf.2 (hC.none (uV hf.1))).2.1 i r hi;exact this.1 e
 obtain⟨cs,h1,h2,h3,h4⟩:=hT.res id _ hid;have hA:jh M w (ρ J) e rs:=hT.res J _ U;obtain⟨a2,cap2,g1,_⟩:=hA;have hA:jh M w (ρ J) e rs:=hT.res J _ U;have n1:=nid id _ hid;have n2:=nid J _ U;have bk2: ∀q,blk (ρ J)=some q->Bk (ρ J) q:=λq hq=>by rw[g1]at hq ⊢; exact hq
 have only: ∀i r,tg (tb [(id',Res.bag e (L++[rs]))]) i=some r->i=id'/\r= .bag e (L++[rs]):=λi r hi=>by
  simp only[tb,zC]at hi;split at hi
  ·rename_i e;exact⟨e.symm,(uS hi).symm⟩
  ·cases hi
 refine⟨upd ρ id' (.tuple (cs++[ρ J]).toArray),⟨cs,by rw[yi n1];exact h1,h2,by rw[yi n2,g1];rfl,by rw[zG,yi n2]⟩,λi hi=>yi (by simpa [RL.ids]using hi),λi r hi=>?_,λi r b hi hb=>?_,λi j ri rj b hi hj hne _ _=>?_⟩
 ·obtain⟨rfl,rfl⟩:=only i r hi;refine⟨_,zG _ _ _,by simp[h2],λj rs' hj=>?_,zi1 h4 λj b z hj hz hv=>hT.dis id J _ _ b hid U hne' (by rw[h1];exact zkm hj hz) (bk2 b hv)⟩;rcases tp j L.length with hlt|hge
  ·rw[u9 hlt]at hj;obtain⟨c,c1,c2⟩:=h3 j rs' hj;exact⟨c,by rw[u9 ua];exact c1,c2⟩
  ·rw[u7 hge]at hj;have h0:j - L.length=0:=by have:=(uw.1 hj).1;simp at this;omega
   rw[h0]at hj;simp only[List.getElem?_cons_zero,ui]at hj;subst hj;exact⟨ρ J,by rw[u7 ua,show j - cs.length=0 by omega];rfl,hA⟩
 ·obtain⟨rfl,_⟩:=only i r hi;rw[zG]at hb;obtain⟨x,hx,hxb⟩:=hb;have hx':x∈cs\/x=ρ J:=by simpa using hx
  rcases hx' with hx'|rfl
  ·obtain⟨j,hj⟩:=qd.1 hx';exact⟨id,_,ue,hid,by rw[h1];exact zkm hj hxb⟩
  ·exact⟨J,_,ue,U,bk2 b hxb⟩
 ·obtain⟨rfl,_⟩:=only i ri hi;obtain⟨rfl,_⟩:=only j rj hj;exact hne rfl
theorem ztB(hC:C.low)(hc:lst cur=true)(id' e:Nat)(hf:(Nat.ble 100 id'&&freshB id' ⟨n,sl,tab⟩)=true)(g:Goal P C cur k n sl ((id',some (.bag e []))::tab) Q):Goal P C cur k n sl tab Q:=by
 refine zhM hC hc [] [(id',.bag e [])] (λ_=>True) (by simp only[RL.ids,allB,hf,qk]) (λ{M ρ w} hT=>?_) [] uh [] uh g
 have only: ∀i r,tg (tb [(id',Res.bag e [])]) i=some r->i=id'/\r= .bag e []:=λi r J=>by
  simp only[tb,zC]at J;split at J
  ·rename_i e;exact⟨e.symm,(uS J).symm⟩
  ·cases J
 refine⟨upd ρ id' (.tuple ([]:List Value).toArray),trivial,λi J=>yi (by simpa [RL.ids]using J),λi r J=>?_,λi r b J hb=>?_,λi j ri rj b J U hne _ _=>?_⟩
 ·obtain⟨rfl,rfl⟩:=only i r J;exact⟨[],zG _ _ _,rfl,λj rs U=>by simp at U,λi j b x y hx=>by simp at hx⟩
 ·obtain⟨rfl,_⟩:=only i r J;rw[zG]at hb;obtain⟨x,hx,_⟩:=hb;simp at hx
 ·obtain⟨rfl,_⟩:=only i ri J;obtain⟨rfl,_⟩:=only j rj U;exact hne rfl
end
end Hw
