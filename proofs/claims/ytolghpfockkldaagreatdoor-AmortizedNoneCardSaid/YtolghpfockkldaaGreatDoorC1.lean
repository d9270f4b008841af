import Derived.Test.YtolghpfockkldaaGreatDoorE3
import Derived.Laws.IdiomCopy
import Derived.Laws.IdiomStrings
import Derived.Laws.Slices
import Derived.Below
import Derived.Laws.StructEq
import Derived.Laws.Strings3
import Derived.Laws.DeepStrings4
import Derived.KernelRfl
import Derived.Test.YtolghpfockkldaaGreatDoorProg
import Derived.Test.YtolghpfockkldaaGreatDoorE2
import Derived.WalkSmall
set_option linter.defProp false
set_option linter.unusedVariables false
set_option linter.unusedSimpArgs false
set_option linter.unusedSectionVars false
set_option linter.unnecessarySimpa false
namespace Hw
open Go
variable {P:Program}{af:Array Edge}{d:Option Nat}{g:Option (Nat×Bool)}{ps:String}{t t':TypeId}{x y:Operand}
section
variable {ty:TypeId}
def ztK{k:IntKind}{n m:Int}(J:m≠0)(U:okc x (Kk k n))(hy:okc y (Kk k m)):
 Snd P ⟨d,.binOp .rem t x y t',ty,ps,af,g⟩ (rq x (Kk k n)++rq y (Kk k m)) [] [] (Kk k (n.tmod m)) []:=
 ziL U hy rfl λw=>⟨rfl,by rw[binOp_rem];simp[Op.intDiv,J]⟩
def ztL{k:IntKind}{n m:Int}(J:m≠0)(U:okc x (Kk k n))(hy:okc y (Kk k m)):
 Snd P ⟨d,.binOp .quo t x y t',ty,ps,af,g⟩ (rq x (Kk k n)++rq y (Kk k m)) [] [] (Kk k (k.wrap (n.tdiv m))) []:=
 ziL U hy rfl λw=>⟨rfl,by rw[binOp_quo];simp[Op.intDiv,J]⟩
end
variable {C:Ctx}{Q:Exit->St->Prop}{all:Array Oper}{cur:Cur}{g0:Option (Nat×Bool)}{gs:zb}{k0:IntKind}{md:Mode}{rest:List Oper}{tab:Tab}
section
variable {k:List Frm} {n:Nat} {sl:zb}
def znL{d:Nat}{ty:TypeId}(hC:C.low){a m:Int}
 (J:ev sl x=some (Kk k0 a)) (U:ev sl y=some (Kk k0 m)) (h0:m≠0) (hm:metL all sl g0=some gs) (hd:Nat.blt d n=true)
 (g:Goal P C (.ops all rest (nx md ⟨some d,gs++(rq x (Kk k0 a)++rq y (Kk k0 m)),[],[],Kk k0 (a.tmod m),[]⟩)) k n ((d,Kk k0 (a.tmod m))::sl) tab Q):
 Goal P C (.ops all (⟨some d,.binOp .rem t x y t',ty,ps,af,g0⟩::rest) md) k n sl tab Q:=
 gDo hC hm (ztK (t:=t) (t':=t') h0 (ev1 J) (ev1 U)) (okA (ev2 J) (ev2 U)) trivial rfl hd g
def zek{d:Nat}{ty:TypeId}(hC:C.low){a m:Int}
 (J:ev sl x=some (Kk k0 a)) (U:ev sl y=some (Kk k0 m)) (h0:m≠0) (hm:metL all sl g0=some gs) (hd:Nat.blt d n=true)
 (g:Goal P C (.ops all rest (nx md ⟨some d,gs++(rq x (Kk k0 a)++rq y (Kk k0 m)),[],[],Kk k0 (k0.wrap (a.tdiv m)),[]⟩)) k n ((d,Kk k0 (k0.wrap (a.tdiv m)))::sl) tab Q):
 Goal P C (.ops all (⟨some d,.binOp .quo t x y t',ty,ps,af,g0⟩::rest) md) k n sl tab Q:=
 gDo hC hm (ztL (t:=t) (t':=t') h0 (ev1 J) (ev1 U)) (okA (ev2 J) (ev2 U)) trivial rfl hd g
end
variable {f:FuncId}
theorem znM{a v:Value}(U:ju P f)(h: ∀w:World,Calls P f #[a] w λe w'=>e= .returned v/\w'=w)(h1:v.oneCell'=true):zh P f [.one (.p (.k a))] [] (.one (.p (.k v))) []:=by
 refine⟨U,λM ρ w xs J _ hI _=>?_⟩
 match xs,J with
 | [x],J=>
   simp only[RepSs,RepS,RepV,RepPV]at J;obtain⟨⟨rfl,_⟩,_⟩:=J;refine(h w).mono λe w' ⟨he,hw⟩=>?_;subst hw;refine⟨v,M,ρ,he,by simp only[RepS,RepV,RepPV];exact⟨uh,h1⟩,⟨λ_ _ h=>(by cases h),λ_ _ _ _ _ h=>(by cases h),λ_ _ _ h=>(by cases h)⟩,hI,MLe.refl M,λb o u hu=> .inl hu,λb hb=>?_,λb _ _=>rfl,uM _,rfl,rfl,rfl,λid hid=>rfl⟩;obtain⟨i,r,h,_⟩:=hb;cases h
 | [],J=>simp[RepSs]at J
 |_::_::_,J=>simp[RepSs]at J
def GOw(w:World):Prop:=GOn w/\(∀b∈G1,∃m:Int,w.cell? ⟨b,0,none⟩=some (.int .i64 m))/\ ∀p∈G2,∃el fz,w.heap[p.1]?=some (.cells p.2 el fz)
variable {M:Mem}{w:World}
def ztM(U:Imm M w)(J:GOk M w):GOw w:=⟨λb o u hu=>U b o u (J.le b o u hu),λb hb=>let ⟨m,hm⟩:=J.op b hb;⟨m,U _ _ _ hm⟩,J.gb⟩
theorem zel{M:Mem}{ρ:Nat->Value}: ∀ {av xs:List Value},RepSs M ρ (av.map λa=> .one (.p (.k a))) xs->xs=av
 | [],[],_=>rfl
 | [],_::_,h=>by simp[RepSs]at h
 |_::_,[],h=>by simp[RepSs]at h
 |a::r,x::xs,h=>by
  simp only[uH,RepSs,RepS,RepV,RepPV]at h;rw[h.1.1,zel h.2]
def zhh{av:List Value}{v:Value}(U:ju P f)(h: ∀w:World,GOw w->Calls P f av.toArray w λe w'=>e= .returned v/\w'=w)(h1:v.oneCell'=true):
 zh P f (av.map λa=> .one (.p (.k a))) [] (.one (.p (.k v))) []:=by
 refine⟨U,λM ρ w xs hx _ J hG=>?_⟩;obtain rfl:=zel hx;refine(h w (ztM J hG)).mono λe w' ⟨he,hw⟩=>?_;subst hw;refine⟨v,M,ρ,he,by simp only[RepS,RepV,RepPV];simp_all,⟨λ_ _ h=>(by cases h),λ_ _ _ _ _ h=>(by cases h),λ_ _ _ h=>(by cases h)⟩,J,MLe.refl M,λb o u hu=> .inl hu,λb hb=>?_,λb _ _=>rfl,uM _,rfl,rfl,rfl,λid hid=>rfl⟩
 simp_all
variable {res:S}{ρ:Nat->Value}
def zjW{w':World}{v:Value}(hI:Imm M w)(J:RowKit.Below w.heap.size w w')(hr:RepS M ρ res v):Ret M ρ w [] res [] v M ρ w':=
 ⟨hr,⟨λ_ _ h=>(by cases h),λ_ _ _ _ _ h=>(by cases h),λ_ _ _ h=>(by cases h)⟩,λb o u U=>by rw[cell_of_heap (J.block b (jC (hI b o u U)))];exact hI b o u U,MLe.refl M,λb o u U=> .inl U,
   λb ⟨_,_,h,_⟩=>(by cases h),λb h _=>J.block b h,J.size,J.os,J.tape,J.output,λ_ _=>rfl⟩
section
variable {ty:TypeId}
theorem zat.bs{e id n:Nat}{tx el:TypeId}{rows:List (List PV)}{vs:List V}(h:elemSz P tx=some (el,e))(hv:vs.take (n*e)=rows.flatten.map V.p)(hl: ∀r∈rows,r.length=e)(hn:rows.length=n):zat P e tx (.one (.bs id 0 n)) [(id,.box vs)] rows:=by
 intro C st M ρ a w v hH hr hT;obtain⟨_,hu,_,_⟩:=zp h;simp only[RepS,RepV]at hr;obtain⟨b,c,f1,rfl,_⟩:=hr;obtain⟨b',cs,el',g1,g2,g3⟩:=hH.zz.res id _ hT.1;rw[f1]at g1;simp only[Value.pointer.injEq,ui,Addr.mk.injEq]at g1;obtain⟨rfl,_⟩:=g1;have J:=g3.take (n*e);rw[hv]at J;subst hn;refine⟨cs.take (rows.length*e),Src.ofSlice w hu ⟨b,0,none⟩ rows.length c _ ?_ (λj u U=>?_) J.one,J,hl⟩
 ·rw[J.length,uj,List.length_flatten]
  have:(rows.map List.length)=List.replicate rows.length e:=by
   rw[List.eq_replicate_iff];exact⟨by rw[uj],λq hq=>by obtain⟨r,hr,rfl⟩:=tO.1 hq;exact hl r hr⟩
  simp_all
 ·rw[zT,tJ];rw[qv]at U;split at U
  ·simp[World.cell?,g2,U]
  ·cases U
end
section
variable {k:List Frm} {n:Nat} {sl:zb}
def zda{d:Nat}{ty:TypeId}(hC:C.low){a:Int}
 (J:ev sl x=some (Kk k0 a)) (U:metL all sl g0=some gs) (hd:Nat.blt d n=true)
 (g:Goal P C (.ops all rest (nx md ⟨some d,gs++rq x (Kk k0 a),[],[],Kk k0 (k0.wrap (0 - a)),[]⟩)) k n ((d,Kk k0 (k0.wrap (0 - a)))::sl) tab Q):
 Goal P C (.ops all (⟨some d,.unOp .neg t x,ty,ps,af,g0⟩::rest) md) k n sl tab Q:=
 gDo hC U (zwz (t:=t) (ev1 J)) (ev2 J) trivial rfl hd g
end
variable {el:TypeId}{ss:List S}{vparts:List (Nat×List V)}
section
variable {ty:TypeId}
def znN{l:List (Nat×Operand)}{zs vs:List V}{len e:Nat}
 (hx:zcm (l.map (·.2)) ss) (ht:P.underlying t=some (.array len el)) (he:(P.info? el).map (·.size)=some e) (hz:zeroV P t=some zs) (hv:zipParts (l.map (·.1)) ss=some vparts) (hf:fillV (λi=>some (i*e,e)) zs vparts=some vs):
 Snd P ⟨d,.build t l.toArray,ty,ps,af,g⟩ (rqs (l.map (·.2)) ss) [] [] (.agg vs) []:=
 zi λC st M ρ a w hH h1 _=>by
  have e:=hH.zhi (wL hx h1);obtain⟨h2,h3⟩:=wc hv e;obtain⟨zv,U,hz2,_⟩:=xt hz M ρ w
  have hzip:l.map (λp=>(p.1,a.eval p.2))=(l.map (·.1)).zip ((l.map (·.2)).map a.eval):=by
   rw[qM];simp[oZ]
  obtain⟨out,h4,h5⟩:=jX _ vparts zs vs zv.cells hz2 h2 h3 hf;obtain⟨ii,J,hsz⟩:=uR.1 he;refine⟨.agg out,?_,by simp only[RepS];grind⟩;simp only[execOp,Instr.build,Sem.run_bind,U,Result.andThen_ok,run_underlying ht,run_sizeOf J,hsz]
  simp_all
end
section
variable {k:List Frm} {n:Nat} {sl:zb}
def znO{d:Nat}{l:List (Nat×Operand)}{ty:TypeId}(hC:C.low){zs vs:List V}{len e:Nat}
 (J:evs sl (l.map (·.2))=some ss) (U:P.underlying t=some (.array len el)) (he:(P.info? el).map (·.size)=some e) (hz:zeroV P t=some zs) (hv:zipParts (l.map (·.1)) ss=some vparts) (hf:fillV (λi=>some (i*e,e)) zs vparts=some vs) (hm:metL all sl g0=some gs) (hd:Nat.blt d n=true)
 (g:Goal P C (.ops all rest (nx md ⟨some d,gs++rqs (l.map (·.2)) ss,[],[],.agg vs,[]⟩)) k n ((d,.agg vs)::sl) tab Q):
 Goal P C (.ops all (⟨some d,.build t l.toArray,ty,ps,af,g0⟩::rest) md) k n sl tab Q:=
 gDo hC hm (znN (es1 J) U he hz hv hf) (es2 J) trivial rfl hd g
end
mutual
inductive LP:PV->PV->Prop
 |refl (p:PV):LP p p
 |nil (e:Nat):LP (.k (.slice none 0 0)) (.sl e [])
 |sl {e:Nat} {rows rows':List (List PV)} (h:LRs rows rows'):LP (.sl e rows) (.sl e rows')
inductive LRs:List (List PV)->List (List PV)->Prop
 |nil:LRs [] []
 |cons {r r':List PV} {rs rs':List (List PV)} (h:LR r r') (hs:LRs rs rs'):LRs (r::rs) (r'::rs')
inductive LR:List PV->List PV->Prop
 |nil:LR [] []
 |cons {p p':PV} {ps ps':List PV} (h:LP p p') (hs:LR ps ps'):LR (p::ps) (p'::ps')
end
theorem LR.len{r r':List PV}:LR r r'->r'.length=r.length
 | .nil=>rfl
 | .cons _ hs=>by rw[uX,uX,LR.len hs]
theorem LRs.len{r r':List (List PV)}:LRs r r'->r'.length=r.length
 | .nil=>rfl
 | .cons _ hs=>by rw[uX,uX,LRs.len hs]
mutual
theorem LP.rep{M:Mem}{p q:PV}{v:Value}:LP p q->RepPV M p v->RepPV M q v
 | .refl _,h=>h
 | .nil e,h=>by
   simp only[RepPV]at h⊢
   simp_all
 | .sl hr,h=>by
   simp only[RepPV]at h⊢;obtain⟨a,cap,h1,h2,h3,h4⟩:=h;rw[hr.len];refine⟨a,cap,h1,h2,h3,?_⟩;rcases h4 with h4|⟨b,o,h4,h5⟩
   ·left;have:=hr.len
    simp_all
   ·exact .inr ⟨b,o,h4,LRs.rep hr h5⟩
theorem LRs.rep{M:Mem}{g:Nat->Option Value}{e o:Nat}{rows rows':List (List PV)}:LRs rows rows'->RowsIn M g e rows o->RowsIn M g e rows' o
 | .nil,h=>h
 | .cons hr hs,h=>by
   simp only[RowsIn]at h⊢;exact⟨hr.len.trans h.1,LR.rep hr h.2.1,LRs.rep hs h.2.2⟩
theorem LR.rep{M:Mem}{g:Nat->Option Value}{o:Nat}{r r':List PV}:LR r r'->RowIn M g r o->RowIn M g r' o
 | .nil,h=>h
 | .cons hp hs,h=>by
   simp only[RowIn]at h⊢;obtain⟨⟨c,c1,c2⟩,h2⟩:=h;exact⟨⟨c,c1,LP.rep hp c2⟩,LR.rep hs h2⟩
end
inductive Sc where
 |i (k:IntKind) (n:Int)
 |s (b:ByteArray)
 deriving DecidableEq
def Sc.v:Sc->Value
 | .i k n=> .int k n
 | .s b=> .string b
def Sc.V(c:Sc):V:= .p (.k c.v)
inductive SK where
 |i (k:IntKind)
 |s
def okSK:SK->Sc->Bool
 | .i k,.i k' _=>decide (k=k')
 | .s,.s _=>true
 |_,_=>false
def okSKs:List SK->List Sc->Bool
 | [],[]=>true
 |k::ks,c::cs=>okSK k c&&okSKs ks cs
 |_,_=>false
def isStc(P:Program)(t:TypeId):Bool:=match P.underlying t with
 |some (.struct _)=>true
 |_=>false
def eqFs(P:Program)(r:TypeId->Option (List SK)):List Field->Nat->Option (List SK)
 | [],_=>some []
 |f::fs,off=>match decide (f.name≠ "_")&&Nat.beq f.offset off with
  |true=>match r f.type with
   |some l=>match !isStc P f.type||decide ((P.info? f.type).map (·.size)=some l.length)with
    |true=>match eqFs P r fs (off+l.length)with
     |some l'=>some (l++l')
     |none=>none
    |false=>none
   |none=>none
  |false=>none
def eqSh(P:Program):Nat->TypeId->Option (List SK)
 |0,_=>none
 |f+1,t=>match P.underlying t with
  |some (.int k)=>some [.i k]
  |some .string=>some [.s]
  |some (.struct fs)=>match P.stoodInHeld t with
   |true=>none
   |false=>eqFs P (eqSh P f) fs.toList 0
  |_=>none
theorem vO: ∀ {l:List SK} {cs:List Sc},okSKs l cs=true->cs.length=l.length
 | [],[],_=>rfl
 | [],_::_,h=>by simp[okSKs]at h
 |_::_,[],h=>by simp[okSKs]at h
 |k::ks,c::cs,h=>by simp only[okSKs,um]at h;simp[vO h.2]
theorem jD: ∀ {l l':List SK} {cs:List Sc},okSKs (l++l') cs=true->okSKs l (cs.take l.length)=true/\okSKs l' (cs.drop l.length)=true
 | [],_,cs,h=>by simp only[tM]at h;simp[okSKs,h]
 |_::_,_,[],h=>by simp[okSKs]at h
 |k::ks,l',c::cs,h=>by
  simp only[uK,okSKs,um]at h;have:=jD h.2;simp only[uX,tW,List.drop_succ_cons,okSKs,h.1,this.1,this.2,Bool.and_self,and_self]
def valSc(P:Program)(t:TypeId)(cs:List Sc):Value:=if isStc P t=true then .agg (cs.map Sc.v).toArray else match cs with
 |c::_=>c.v
 | []=>undef
theorem ziM: ∀(f:Nat) (t:TypeId) (l:List SK),eqSh P f t=some l-> ∀(d:Nat),f<=d-> ∀(a b:List Sc),okSKs l a=true->okSKs l b=true-> ∀w:World,
 (Op.equalIn d t (valSc P t a) (valSc P t b)).run P w= .ok (decide (a=b)) w:=by
 intro f
 induction f with
 |zero=>intro t l h;cases h
 |succ f ih=>
 intro t l h d hd a b ha U w;obtain⟨d,rfl⟩: ∃d',d=d'+1:=⟨d - 1,ua⟩;simp only[eqSh]at h;split at h
 ·rename_i k hu;simp only[ui]at h;subst h
  match a,b,ha,U with
  | [.i k1 x],[.i k2 y],ha,U=>
    simp only[okSKs,okSK,qj,uq]at ha U;subst ha;subst U;have hs:isStc P t=false:=by simp[isStc,hu]
    simp only[valSc,hs,uB,uN,Sc.v];rw[run_equalIn_int w d t k k x y hu];by_cases e:x=y
    ·subst e;simp
    ·simp[e]
  | [.s _],_,ha,_=>simp[okSKs,okSK]at ha
  | [],_,ha,_=>simp[okSKs]at ha
  |_::_::_,_,ha,_=>simp[okSKs]at ha
  | [.i _ _],[.s _],_,U=>simp[okSKs,okSK]at U
  | [.i _ _],[],_,U=>simp[okSKs]at U
  | [.i _ _],_::_::_,_,U=>simp[okSKs]at U
 ·rename_i hu;simp only[ui]at h;subst h
  match a,b,ha,U with
  | [.s x],[.s y],ha,U=>
    have hs:isStc P t=false:=by simp[isStc,hu]
    simp only[valSc,hs,uB,uN,Sc.v];rw[run_equalIn_string w d t x y hu,<-beq_toListBytes,zhj];by_cases e:x=y
    ·subst e;simp
    ·simp[e]
  | [.i _ _],_,ha,_=>simp[okSKs,okSK]at ha
  | [],_,ha,_=>simp[okSKs]at ha
  |_::_::_,_,ha,_=>simp[okSKs]at ha
  | [.s _],[.i _ _],_,U=>simp[okSKs,okSK]at U
  | [.s _],[],_,U=>simp[okSKs]at U
  | [.s _],_::_::_,_,U=>simp[okSKs]at U
 ·rename_i fs hu;split at h
  ·cases h
  ·rename_i hst;have hF:P.fieldsOf t=fs:=by simp[Program.fieldsOf,hu]
   have hs:isStc P t=true:=by simp[isStc,hu]
   simp only[valSc,hs,uW];rw[run_equalIn_agg w d t _ _ (by rw[hF];exact hu) hst,hF]
   -- field by field
   have key: ∀(fl:List Field) (off:Nat) (l':List SK),eqFs P (eqSh P f) fl off=some l'-> ∀a0 b0:List Sc,off<=a0.length->off<=b0.length->okSKs l' (a0.drop off)=true->okSKs l' (b0.drop off)=true->
    (Op.eqFields d (a0.map Sc.v).toArray (b0.map Sc.v).toArray fl).run P w= .ok (decide (a0.drop off=b0.drop off)) w:=by
    intro fl
    induction fl with
    |nil=>
     intro off l' hl a0 b0 _ _ h1 h2;simp only[eqFs,ui]at hl;subst hl;have e1:a0.drop off=[]:=tr (vO h1);have e2:b0.drop off=[]:=tr (vO h2);simp[Op.eqFields,e1,e2]
    |cons fd fl ihf=>
     intro off l' hl a0 b0 ho1 ho2 h1 h2;simp only[eqFs]at hl;split at hl
     ·rename_i hname;simp only[um,uq]at hname;have hoff:=uA hname.2;split at hl
      ·rename_i lf J;split at hl
       ·rename_i hsz;split at hl
        ·rename_i lr hlr;simp only[ui]at hl;subst hl;obtain⟨a1,a2⟩:=jD h1;obtain⟨b1,b2⟩:=jD h2;have al:=vO a1;have bl:=vO b1;simp only[u9,tD]at al bl
         have hpart: ∀c0:List Sc,off+lf.length<=c0.length->okSKs lf ((c0.drop off).take lf.length)=true->(part fd.type (c0.map Sc.v).toArray fd.offset).run P w= .ok (valSc P fd.type ((c0.drop off).take lf.length)) w:=λc0 hc0 hok=>by
          rw[hoff];cases hstr:isStc P fd.type with
          |true=>
           obtain⟨fs',hu'⟩: ∃fs',P.underlying fd.type=some (.struct fs'):=by
            unfold isStc at hstr;split at hstr
            ·rename_i fs' e;exact⟨fs',e⟩
            ·cases hstr
           rw[hstr]at hsz;simp only[qo,tw,uq,uR]at hsz;obtain⟨ii,hii,hsz⟩:=hsz;simp only[part,isAgg,Sem.run_bind,run_underlying hu',Result.andThen_ok,Sem.run_pure,uW,run_sizeOf hii,hsz,valSc,hstr]
           congr 2
           apply Array.ext'
           simp only[Uv,oV,qG,List.map_drop];rw[Nat.add_sub_cancel_left]
          |false=>
           have hna:(isAgg fd.type).run P w= .ok false w:=by
            cases f with
            |zero=>cases J
            |succ f'=>
             simp only[eqSh]at J;split at J
             ·rename_i hu';simp[isAgg,run_underlying hu']
             ·rename_i hu';simp[isAgg,run_underlying hu']
             ·rename_i hu';simp[isStc,hu']at hstr
             ·cases J
           have h1l:lf.length=1:=by
            cases f with
            |zero=>cases J
            |succ f'=>
             simp only[eqSh]at J;split at J
             ·simp only[ui]at J;subst J;rfl
             ·simp only[ui]at J;subst J;rfl
             ·rename_i hu';simp[isStc,hu']at hstr
             ·cases J
           obtain⟨c,hc⟩: ∃c,c0[off]?=some c:=⟨c0[off]'ua,th ua⟩
           have ht:(c0.drop off).take lf.length=[c]:=by
            rw[h1l,List.take_one,List.head?_drop,hc];rfl
           simp only[part,Sem.run_bind,hna,Result.andThen_ok,uB,uN,tl,uO,hc,uG,Sem.run_pure,ht,valSc,hstr]
         have hq:=ih fd.type lf J d ua _ _ a1 b1 w;simp only[Op.eqFields,uw hname.1,Sem.run_bind,hpart a0 ua a1,hpart b0 ua b1,hq,Result.andThen_ok,Sem.run_ite]
         have hcat: ∀c0:List Sc,c0.drop off=(c0.drop off).take lf.length++c0.drop (off+lf.length):=λc0=>by
          rw[<-tC,ql]
         rw[tC]at a2 b2;by_cases e:(a0.drop off).take lf.length=(b0.drop off).take lf.length
         ·rw[uZ e];simp only[qo,uB,uN];rw[ihf _ _ hlr a0 b0 ua ua a2 b2]
          congr 1
          have:(a0.drop off=b0.drop off)↔(a0.drop (off+lf.length)=b0.drop (off+lf.length)):=by
           rw[hcat a0,hcat b0,e];exact⟨λh=>List.append_cancel_left h,λh=>by rw[h]⟩
          exact q9.2 this.symm
         ·rw[uI e];simp only[qA,uW,Sem.run_pure]
          congr 1
          refine(uI λh=>e ?_).symm;rw[h]
        ·cases hl
       ·cases hl
      ·cases hl
     ·cases hl
   have:=key fs.toList 0 l h a b (uD _) (uD _) (by simpa using ha) (by simpa using U);simpa using this
 ·cases h
section
variable {ty:TypeId}
theorem zjX{M:Mem}{ρ:Nat->Value}: ∀ {a:List Sc} {cs:List Value},RepVs M ρ (a.map Sc.V) cs->cs=a.map Sc.v
 | [],[],_=>rfl
 | [],_::_,h=>by simp only[tI,RepVs]at h
 |_::_,[],h=>by simp only[uH,RepVs]at h
 |c::a,v::cs,h=>by
  simp only[uH,Sc.V,RepVs,RepV,RepPV]at h;rw[h.1.1,zjX h.2];rfl
def zwA{neg:Bool}{l:List SK}{a b:List Sc}(hx:okc x (.agg (a.map Sc.V)))(hy:okc y (.agg (b.map Sc.V)))(hs:isStc P t=true)(h:eqSh P 8 t=some l)(ha:okSKs l a=true)(hb:okSKs l b=true)(hg:P.eqGuardType P.depth t=false):
 Snd P ⟨d,.binOp (if neg=true then .neq else .eql) t x y t',ty,ps,af,g⟩ (rq x (.agg (a.map Sc.V))++rq y (.agg (b.map Sc.V))) [] [] (.bq (if neg=true then !decide (a=b)else decide (a=b))) []:=
 zi λC st M ρ ac w hH h1 _=>by
  rw[ze]at h1;have J:=hH.evS (zq hx h1.1);have U:=hH.evS (zq hy h1.2);simp only[RepS]at J U;obtain⟨cs,J,f1⟩:=J;obtain⟨ds,U,f2⟩:=U;rw[zjX f1]at J;rw[zjX f2]at U;have hq:=ziM 8 t l h 10000 ua a b ha hb w;simp only[valSc,hs,uW]at hq;cases neg with
  |true=>
   refine⟨.bool (!decide (a=b)),?_,by simp only[RepS,uW]⟩;simp only[execOp,uW,J,U,Sem.run_bind,run_eqGuard_agg w _ t x y _ _ hg,Result.andThen_ok,run_neq_struct,hq,Sem.run_pure]
  |false=>
   refine⟨.bool (decide (a=b)),?_,by simp only[RepS,uB,uN]⟩;simp only[execOp,uB,uN,J,U,Sem.run_bind,run_eqGuard_agg w _ t x y _ _ hg,Result.andThen_ok,run_eql_struct,hq,Sem.run_pure]
end
section
variable {k:List Frm} {n:Nat} {sl:zb}
def zwB{d:Nat}{ty:TypeId}(hC:C.low)(l:List SK)(a b:List Sc)
 (J:ev sl x=some (.agg (a.map Sc.V))) (U:ev sl y=some (.agg (b.map Sc.V))) (hs:isStc P t=true) (h:eqSh P 8 t=some l) (ha:okSKs l a=true) (hb:okSKs l b=true) (hg:P.eqGuardType P.depth t=false) (hm:metL all sl g0=some gs) (hd:Nat.blt d n=true)
 (g:Goal P C (.ops all rest (nx md ⟨some d,gs++(rq x (.agg (a.map Sc.V))++rq y (.agg (b.map Sc.V))),[],[],.bq (decide (a=b)),[]⟩)) k n ((d,.bq (decide (a=b)))::sl) tab Q):
 Goal P C (.ops all (⟨some d,.binOp .eql t x y t',ty,ps,af,g0⟩::rest) md) k n sl tab Q:=
 gDo hC hm (zwA (neg:=false) (t':=t') (ev1 J) (ev1 U) hs h ha hb hg) (okA (ev2 J) (ev2 U)) trivial rfl hd g
end
variable {a:ByteArray}{j:Int}
section
section
variable {ty:TypeId}
def ztN{k:IntKind}(hx:okc x (Sr a))(hy:okc y (Kk k j))(U:P.underlying t=some .string)(h0:0<=j)(h1:j<=a.size):
 Snd P ⟨d,.slice t x none (some y) none,ty,ps,af,g⟩ (rq x (Sr a)++rq y (Kk k j)) [] [] (Sr (a.extract 0 j.toNat)) []:=
 zi λC st M ρ b w hH J _=>by
  rw[ze]at J;have e1:=hH.k (zq hx J.1);have e2:=hH.k (zq hy J.2);refine⟨.string (a.extract 0 j.toNat),?_,by simp only[RepS,RepV,RepPV];exact⟨uh,rfl⟩⟩;simp only[execOp,e1,e2,qc,uG,Sem.run_bind,run_sliceAt_string w t _ _ _ _ U,run_slice_string_to_if w t a k j U,uw (⟨h0,h1⟩:0<=j/\j<=(a.size:Int)),Result.andThen_ok,Sem.run_pure]
def znP{k:IntKind}(hx:okc x (Sr a))(hy:okc y (Kk k j))(U:P.underlying t=some .string)(h0:0<=j)(h1:j<=a.size):
 Snd P ⟨d,.slice t x (some y) none none,ty,ps,af,g⟩ (rq x (Sr a)++rq y (Kk k j)) [] [] (Sr (a.extract j.toNat a.size)) []:=
 zi λC st M ρ b w hH J _=>by
  rw[ze]at J;have e1:=hH.k (zq hx J.1);have e2:=hH.k (zq hy J.2);refine⟨.string (a.extract j.toNat a.size),?_,by simp only[RepS,RepV,RepPV];exact⟨uh,rfl⟩⟩;simp only[execOp,e1,e2,qc,uG,Sem.run_bind,run_sliceAt_string w t _ _ _ _ U,run_slice_string_from_if w t a k j U,uw (⟨h0,h1⟩:0<=j/\j<=(a.size:Int)),Result.andThen_ok,Sem.run_pure]
end
variable {k:List Frm} {n:Nat} {sl:zb}
def ztO{d:Nat}{ty:TypeId}(hC:C.low)
 (J:ev sl x=some (Sr a)) (U:ev sl y=some (Kk k0 j)) (ht:P.underlying t=some .string) (h0:0<=j) (h1:j<=a.size) (hm:metL all sl g0=some gs) (hd:Nat.blt d n=true)
 (g:Goal P C (.ops all rest (nx md ⟨some d,gs++(rq x (Sr a)++rq y (Kk k0 j)),[],[],Sr (a.extract 0 j.toNat),[]⟩)) k n ((d,Sr (a.extract 0 j.toNat))::sl) tab Q):
 Goal P C (.ops all (⟨some d,.slice t x none (some y) none,ty,ps,af,g0⟩::rest) md) k n sl tab Q:=
 gDo hC hm (ztN (t:=t) (ev1 J) (ev1 U) ht h0 h1) (okA (ev2 J) (ev2 U)) trivial rfl hd g
def zhk{d:Nat}{ty:TypeId}(hC:C.low)
 (J:ev sl x=some (Sr a)) (U:ev sl y=some (Kk k0 j)) (ht:P.underlying t=some .string) (h0:0<=j) (h1:j<=a.size) (hm:metL all sl g0=some gs) (hd:Nat.blt d n=true)
 (g:Goal P C (.ops all rest (nx md ⟨some d,gs++(rq x (Sr a)++rq y (Kk k0 j)),[],[],Sr (a.extract j.toNat a.size),[]⟩)) k n ((d,Sr (a.extract j.toNat a.size))::sl) tab Q):
 Goal P C (.ops all (⟨some d,.slice t x (some y) none none,ty,ps,af,g0⟩::rest) md) k n sl tab Q:=
 gDo hC hm (znP (t:=t) (ev1 J) (ev1 U) ht h0 h1) (okA (ev2 J) (ev2 U)) trivial rfl hd g
end
variable {i:Int}{rows:List (List PV)}
section
variable {ty:TypeId} {z:Operand}
def zq8{k k':IntKind}(hx:okc x (Sr a))(hy:okc y (Kk k i))(hz:okc z (Kk k' j))(ht:P.underlying t=some .string)(h0:0<=i)(h1:i<=j)(h2:j<=a.size):
 Snd P ⟨d,.slice t x (some y) (some z) none,ty,ps,af,g⟩ (rq x (Sr a)++rq y (Kk k i)++rq z (Kk k' j)) [] [] (Sr (a.extract i.toNat j.toNat)) []:=
 zi λC st M ρ b w U J _=>by
  rw[ze,ze]at J;have e1:=U.k (zq hx J.1.1);have e2:=U.k (zq hy J.1.2);have e3:=U.k (zq hz J.2);refine⟨.string (a.extract i.toNat j.toNat),?_,by simp only[RepS,RepV,RepPV];exact⟨uh,rfl⟩⟩;simp only[execOp,e1,e2,e3,qc,uG,Sem.run_bind,run_sliceAt_string w t _ _ _ _ ht,run_slice_string_if w t a k k' i j ht,uw (⟨ua,h2⟩:0<=j/\j<=(a.size:Int)),uw (⟨h0,h1⟩:0<=i/\i<=j),Result.andThen_ok,Sem.run_pure]
def znQ{e:Nat}{a:Option Addr}{cap l h:Nat}(hr:RepV M ρ (.p (.sl e rows)) (.slice a rows.length cap))(h1:l<=h)(h2:h<=rows.length):RepV M ρ (.p (.sl e ((rows.take h).drop l))) (sliced a l h cap e):=by
 simp only[RepV,RepPV]at hr⊢;obtain⟨a',cap',U,e2,e3,J⟩:=hr;simp only[Value.slice.injEq]at U;obtain⟨rfl,_,rfl⟩:=U;have hl:((rows.take h).drop l).length=h - l:=by rw[tD,u9];omega
 refine⟨if cap=l then a else a.map (·.add (l*e)),cap - l,by rw[hl];rfl,ua,ua,?_⟩;rcases J with rfl|⟨b,o,rfl,J⟩
 ·simp_all
 ·by_cases hc:cap=l
  ·grind
  ·right;rw[ur hc];exact⟨b,o+l*e,by simp[Addr.add],(J.take h).drop l⟩
def zbr{e:Nat}(h:elemSz P t=some (el,e)):P.underlying t=some (.slice (P.elem t))/\ ∀w:World,(Go.sizeOf (P.elem t)).run P w= .ok e w:=by
 obtain⟨ii,hu,J,U⟩:=zp h;have he:P.elem t=el:=by simp[Program.elem,hu]
 rw[he];exact⟨hu,λw=>by rw[run_sizeOf J,U]⟩
def zq9{e:Nat}{k':IntKind}(hx:okc x (.one (.p (.sl e rows))))(hz:okc z (Kk k' j))(he:elemSz P t=some (el,e))(h0:0<=j)(h2:j<=rows.length):
 Snd P ⟨d,.slice t x none (some z) none,ty,ps,af,g⟩ (rq x (.one (.p (.sl e rows)))++rq z (Kk k' j)) [] [] (.one (.p (.sl e (rows.take j.toNat)))) []:=
 zi λC st M ρ b w hH hs _=>by
  rw[ze]at hs;have U:=hH.evS (zq hx hs.1);have e3:=hH.k (zq hz hs.2);simp only[RepS]at U;have J:=U;simp only[RepV,RepPV]at J;obtain⟨a,cap,f1,f2,f3,_⟩:=J;rw[f1]at U;obtain⟨hu,hsz⟩:=zbr he;refine⟨sliced a 0 j.toNat cap e,?_,by simp only[RepS];have:=znQ U (uD j.toNat) ua;simp_all⟩;simp only[execOp,f1,e3,qc,uG,Sem.run_bind,run_sliceAt_slice w t _ _ _ _ hu,run_slice_h w t a rows.length cap hu k' j h0 ua,hsz,Result.andThen_ok,Sem.run_pure]
def znR{vs:List V}{len:Nat}{k:IntKind}{v:V}(hx:okc x (.agg vs))(hy:okc y (Kk k i))(ht:P.underlying t=some (.array len el))(he:(P.info? el).map (·.size)=some 1)(hs:shp P el=some none)(h0:0<=i)(hi:i<len)(hv:vs[i.toNat]?=some v):
 Snd P ⟨d,.index t x y,ty,ps,af,g⟩ (rq x (.agg vs)++rq y (Kk k i)) [] [] (.one v) []:=
 zi λC st M ρ a w hH h1 _=>by
  rw[ze]at h1;have U:=hH.evS (zq hx h1.1);have e2:=hH.k (zq hy h1.2);simp only[RepS]at U;obtain⟨cs,U,e3⟩:=U;obtain⟨ii,J,hsz⟩:=uR.1 he;obtain⟨c,c1,c2⟩:=y9 e3 hv;refine⟨c,?_,by simp only[RepS];exact c2⟩;simp only[execOp,U,e2,Instr.index,asIntOf,Sem.run_bind,Sem.run_pure,Result.andThen_ok,run_underlying ht];rw[uw ⟨h0,hi⟩];simp[part,jY hs,run_sizeOf J,hsz,c1]
def isIfc(P:Program)(t:TypeId):Bool:=match P.underlying t with
 |some (.interface _)=>true
 |_=>false
def zau(h:isIfc P t=true): ∃ms,P.underlying t=some (.interface ms):=by
 unfold isIfc at h
 grind
def zwC{id:Nat}{neg:Bool}(hx:okc x (.one (.ar id)))(U:isIfc P t=true):
 Snd P ⟨d,.binOp (if neg=true then .neq else .eql) t x (.const .nilIface) t',ty,ps,af,g⟩ (rq x (.one (.ar id))) [(id,.ifc)] [] (Bo neg) []:=
 zi λC st M ρ a w hH h1 hT=>by
  obtain⟨ms,U⟩:=zau U;have J:=hH.evS (zq hx h1);simp only[RepS,RepV]at J;obtain⟨te,pe,hv⟩:=hH.zz.res id _ hT.1;rw[hv]at J;have h: ∀q:Nat,(Op.equalIn (q+1) t (.iface te pe) .nilIface).run P w= .ok false w:=λq=>by simp[Op.equalIn,run_underlying U]
  have e0:a.eval (.const .nilIface)= .nilIface:=rfl;refine⟨.bool neg,?_,znS neg⟩;cases neg with
  |true=>
   simp only[execOp,uW,J.1,e0,Sem.run_bind];simp[eqGuard,binOp,Op.equal,Op.maxDepth,h 9999,Sem.run_pure]
  |false=>
   simp only[execOp,uB,uN,J.1,e0,Sem.run_bind];simp[eqGuard,binOp,Op.equal,Op.maxDepth,h 9999,Sem.run_pure]
def ztP{neg:Bool}(hx:okc x (.one (.p (.k .nilIface))))(J:isIfc P t=true):
 Snd P ⟨d,.binOp (if neg=true then .neq else .eql) t x (.const .nilIface) t',ty,ps,af,g⟩ (rq x (.one (.p (.k .nilIface)))) [] [] (Bo (!neg)) []:=
 zi λC st M ρ a w hH h1 hT=>by
  obtain⟨ms,J⟩:=zau J;have U:=hH.evS (zq hx h1);simp only[RepS,RepV,RepPV]at U;have h: ∀q:Nat,(Op.equalIn (q+1) t .nilIface .nilIface).run P w= .ok true w:=λq=>by simp[Op.equalIn,run_underlying J]
  have e0:a.eval (.const .nilIface)= .nilIface:=rfl;refine⟨.bool (!neg),?_,znS (!neg)⟩;cases neg with
  |true=>
   simp only[execOp,uW,U.1,e0,Sem.run_bind];simp[eqGuard,binOp,Op.equal,Op.maxDepth,h 9999,Sem.run_pure]
  |false=>
   simp only[execOp,uB,uN,U.1,e0,Sem.run_bind];simp[eqGuard,binOp,Op.equal,Op.maxDepth,h 9999,Sem.run_pure]
end
section
variable {k:List Frm} {n:Nat} {sl:zb}
def zdb{d:Nat}{z:Operand}{ty:TypeId}(hC:C.low){k1:IntKind}
 (J:ev sl x=some (Sr a)) (U:ev sl y=some (Kk k0 i)) (hz:ev sl z=some (Kk k1 j)) (ht:P.underlying t=some .string) (h0:0<=i) (h1:i<=j) (h2:j<=a.size) (hm:metL all sl g0=some gs) (hd:Nat.blt d n=true)
 (g:Goal P C (.ops all rest (nx md ⟨some d,gs++(rq x (Sr a)++rq y (Kk k0 i)++rq z (Kk k1 j)),[],[],Sr (a.extract i.toNat j.toNat),[]⟩)) k n ((d,Sr (a.extract i.toNat j.toNat))::sl) tab Q):
 Goal P C (.ops all (⟨some d,.slice t x (some y) (some z) none,ty,ps,af,g0⟩::rest) md) k n sl tab Q:=
 gDo hC hm (zq8 (t:=t) (ev1 J) (ev1 U) (ev1 hz) ht h0 h1 h2) (okA (okA (ev2 J) (ev2 U)) (ev2 hz)) trivial rfl hd g
def zhl{d:Nat}{ty:TypeId}(hC:C.low){vs:List V}{len:Nat}{v:V}
 (J:ev sl x=some (.agg vs)) (U:ev sl y=some (Kk k0 i)) (ht:P.underlying t=some (.array len el)) (he:(P.info? el).map (·.size)=some 1) (hs:shp P el=some none) (h0:0<=i) (hi:i<len) (hv:vs[i.toNat]?=some v) (hm:metL all sl g0=some gs) (hd:Nat.blt d n=true)
 (g:Goal P C (.ops all rest (nx md ⟨some d,gs++(rq x (.agg vs)++rq y (Kk k0 i)),[],[],.one v,[]⟩)) k n ((d,.one v)::sl) tab Q):
 Goal P C (.ops all (⟨some d,.index t x y,ty,ps,af,g0⟩::rest) md) k n sl tab Q:=
 gDo hC hm (znR (t:=t) (ev1 J) (ev1 U) ht he hs h0 hi hv) (okA (ev2 J) (ev2 U)) trivial rfl hd g
def zbs(T:Ty P){d:Nat}{z:Operand}{ty:TypeId}(hC:C.low){e:Nat}(rows':List (List PV)){k1:IntKind}
 (J:ev sl x=some (.one (.p (.sl e rows)))) (U:ev sl z=some (Kk k1 j)) (he:T.es t=some (el,e)) (h0:0<=j) (h2:j<=rows.length) (hr:rows.take j.toNat=rows') (hm:metL all sl g0=some gs) (hd:Nat.blt d n=true)
 (g:Goal P C (.ops all rest (nx md ⟨some d,gs++(rq x (.one (.p (.sl e rows)))++rq z (Kk k1 j)),[],[],.one (.p (.sl e rows')),[]⟩)) k n ((d,.one (.p (.sl e rows')))::sl) tab Q):
 Goal P C (.ops all (⟨some d,.slice t x none (some z) none,ty,ps,af,g0⟩::rest) md) k n sl tab Q:=by
 subst hr;exact gDo hC hm (zq9 (t:=t) (ev1 J) (ev1 U) (T.es_ok _ _ he) h0 h2) (okA (ev2 J) (ev2 U)) trivial rfl hd g
def ztQ{d:Nat}{ty:TypeId}(hC:C.low){id:Nat}
 (J:ev sl x=some (.one (.ar id))) (hT:tg tab id=some .ifc) (U:isIfc P t=true) (hm:metL all sl g0=some gs) (hd:Nat.blt d n=true)
 (g:Goal P C (.ops all rest (nx md ⟨some d,gs++rq x (.one (.ar id)),[(id,.ifc)],[],Bo false,[]⟩)) k n ((d,Bo false)::sl) tab Q):
 Goal P C (.ops all (⟨some d,.binOp .eql t x (.const .nilIface) t',ty,ps,af,g0⟩::rest) md) k n sl tab Q:=
 gDo hC hm (zwC (neg:=false) (t':=t') (ev1 J) U) (ev2 J) ⟨hT,uh⟩ rfl hd g
def ztR{d:Nat}{ty:TypeId}(hC:C.low)
 (J:ev sl x=some (.one (.p (.k .nilIface)))) (U:isIfc P t=true) (hm:metL all sl g0=some gs) (hd:Nat.blt d n=true)
 (g:Goal P C (.ops all rest (nx md ⟨some d,gs++rq x (.one (.p (.k .nilIface))),[],[],Bo true,[]⟩)) k n ((d,Bo true)::sl) tab Q):
 Goal P C (.ops all (⟨some d,.binOp .eql t x (.const .nilIface) t',ty,ps,af,g0⟩::rest) md) k n sl tab Q:=
 gDo hC hm (ztP (neg:=false) (t':=t') (ev1 J) U) (ev2 J) trivial rfl hd g
def zjY{d:Nat}{ty:TypeId}(hC:C.low)
 (J:ev sl x=some (.one (.p (.k .nilIface)))) (U:isIfc P t=true) (hm:metL all sl g0=some gs) (hd:Nat.blt d n=true)
 (g:Goal P C (.ops all rest (nx md ⟨some d,gs++rq x (.one (.p (.k .nilIface))),[],[],Bo false,[]⟩)) k n ((d,Bo false)::sl) tab Q):
 Goal P C (.ops all (⟨some d,.binOp .neq t x (.const .nilIface) t',ty,ps,af,g0⟩::rest) md) k n sl tab Q:=
 gDo hC hm (ztP (neg:=true) (t':=t') (ev1 J) U) (ev2 J) trivial rfl hd g
end
section
variable {ty:TypeId}
def zfQ{fs l:List Operand}{ssf:List S}{first caps:List V}(hf:zcm fs ssf)(J:onesOf ssf=some first)(hx:zcm l ss)(hc:onesOf ss=some caps):
 Snd P ⟨d,.makeFunc (.func f) fs.toArray l.toArray,ty,ps,af,g⟩ (rqs fs ssf++rqs l ss) [] [] (.one (.cl f first caps)) []:=
 zi λC st M ρ a w hH U _=>by
  rw[ze]at U;have e:=hH.zhi (wL hx U.2);have e':=xu hc e;have e2:=hH.zhi (wL hf U.1);have e2':=xu J e2;exact⟨.func (.func f) (fs.map a.eval).toArray (l.map a.eval).toArray,by simp[execOp,Instr.makeFunc],by simp only[RepS,RepV];grind⟩
end
def Holds.shift{st st':St}{a:Act}(h:Holds C st M ρ a w)(U:st'.n=st.n)(hs:st'.sl=st.sl)(J: ∀i r,tg st'.tab i=some r->tg st.tab i=some r):Holds C st' M ρ a w where
 dfr:=h.dfr
 sz:=by rw[U];exact h.sz
 slots:=by rw[hs];exact h.slots
 zz:=⟨λi r e=>h.zz.res i r (J i r e),λi j ri rj b e1 e2=>h.zz.dis i j ri rj b (J i ri e1) (J j rj e2),λi r b e=>h.zz.own i r b (J i r e)⟩
 ownf:=λi r b e=>h.ownf i r b (J i r e)
 run:=h.run
 keep:=h.keep
theorem zbt{ids:List Nat}{i:Nat}(h:i∉ids):tg (yF ids++tab) i=tg tab i:=by
 induction ids with
 |nil=>rfl
 |cons j ids ih=>
  simp only[uF,oW]at h;show tg ((j,none)::(yF ids++tab)) i=_;rw[zm]
  grind
theorem zjZ{X:RL}{ids:List Nat}{i:Nat}{r:Res}(hX: ∀j s,(j,s)∈X->tg tab j=some s)(J:i∈ids->i∈X.ids)(hr:tg tab i=some r):tg (tb X++(yF ids++tab)) i=some r:=by
 induction X with
 |nil=>
  show tg (yF ids++tab) i=some r;rw[zbt (λh=>by cases J h)];exact hr
 |cons x X ih=>
  obtain⟨j,s⟩:=x;show tg ((j,some s)::(tb X++(yF ids++tab))) i=some r;rw[zm];split
  ·grind
  ·rename_i e;refine ih (λj s h=>hX j s (u3 _ h)) λh=>?_;have:=J h;rcases uF.1 this with U|U
   ·omega
   ·exact U
theorem zfR(σ:Nat->Nat): ∀R:RL,(R.ren σ).ids=R.ids.map σ
 | []=>rfl
 |(i,r)::R=>by simp only[RL.ren,RL.ids,uH,zfR σ R]
variable {R:RL}{args:List S}{ts:Array TypeId}
section
variable {ty:TypeId}
def zra(h:zh P f args R res R)(σ:Nat->Nat){l:List Operand}{first caps:List V}
 (hx:okc x (.one (.cl f first caps))) (hl:zcm l ss) (J:yG (ones first++ss++ones caps) (Ss.ren σ args)) (hi:injB σ R.ids=true)
 (hc:cloS (R.ids++R.ids) res=true) (U:yM (R.ids++R.ids) R=true):
 Snd P ⟨d,.call ⟨.value x,l.toArray,ts⟩,ty,ps,af,g⟩ (rq x (.one (.cl f first caps))++rqs l ss) (R.ren σ) ((zC R R).map σ) (res.ren σ) []:=by
 intro C st M ρ a w hH h1 hT hF hd k Q hk;refine zhm h σ hx hl J hi hi hc U C st M ρ a w hH h1 hT hF hd k Q λa' w' M' ρ' hH'=>hk a' w' M' ρ' ?_
 refine hH'.shift rfl rfl λi r hr=>?_;have hr:tg st.tab i=some r:=hr;show tg ((tb (R.ren σ)++yF (R.ids.map σ))++st.tab) i=some r;rw[tE];exact zjZ (λj s hm=>xc hT hm) (λh=>by rw[zfR];exact h) hr
end
section
variable {k:List Frm} {n:Nat} {sl:zb}
def zrb{l:List Operand}{ty:TypeId}(hC:C.low){first caps:List V}
 (h:zh P f args R res R) (σ:Nat->Nat) (hx:ev sl x=some (.one (.cl f first caps))) (hl:evs sl l=some ss) (ha:yG (ones first++ss++ones caps) (Ss.ren σ args)) (hi:injB σ R.ids=true)
 (hc:cloS (R.ids++R.ids) res=true) (J:yM (R.ids++R.ids) R=true) (hT:rdT tab (R.ren σ)=R.ren σ) (U:allB (λid=>Nat.ble 100 id&&freshB id ⟨n,sl,tab⟩) ((zC R R).map σ)=true) (hm:metL all sl g0=some gs) (hd:dok d n=true)
 (g:Goal P C (.ops all rest (nx md ⟨d,gs++(rq x (.one (.cl f first caps))++rqs l ss),R.ren σ,(zC R R).map σ,res.ren σ,[]⟩)) k n (app d (res.ren σ) ([]) ⟨n,sl,tab⟩).sl ([]++tab) Q):
 Goal P C (.ops all (⟨d,.call ⟨.value x,l.toArray,ts⟩,ty,ps,af,g0⟩::rest) md) k n sl tab Q:=
 gDo hC hm (zra h σ (ev1 hx) (es1 hl) ha hi hc J) (okA (ev2 hx) (es2 hl)) (wM hT) U hd g
end
variable {G G':Prop}
def gG(g:G')(h:G'->G:=by first|exact λg=>znB T hC true 400 rfl rfl g|exact λg=>ziN T hC ud g):G:=h g
def gB{A B:Prop}{b:Bool}(J:b=true->A)(U:b=false->B)
 (h:(b=true->A)->(b=false->B)->G:=by first|exact λJ U=>zpU rfl J U|exact λJ U=>jZ J U|exact λJ U=>j0 rfl rfl rfl J U|exact λJ U=>j3 rfl rfl J U):G:=h J U
def gX(g:G')(h:G'->G:=by exact λg=>jE T hC rfl rfl rfl (uL _) (zl uf) rfl rfl g):G:=h g
def gXE(g:G')(h:G'->G:=by exact λg=>jE T hC rfl rfl rfl (uL _) (xU uf) rfl rfl g):G:=h g
def gXT(g:G')(h:G'->G:=by exact λg=>jE T hC rfl rfl rfl (uL _) (jF uf) rfl rfl g):G:=h g
def gXS(g:G')(h:G'->G:=by exact λg=>zpV T hC rfl rfl rfl (uL _) uf rfl rfl g):G:=h g
def gQ(g:G')(h:G'->G:=by exact λg=>zhn T (.inl rfl) rfl g):G:=h g
def gL(g:G')(h:G'->G:=by exact λg=>zj0 T (.inl rfl) rfl g):G:=h g
def gN(g:G')(h:G'->G:=by exact λg=>ztS T (.inl rfl) rfl g):G:=h g
def gF(h:G:=by exact zK ⟨.inl rfl,id,_,rfl,.refl _,trivial,rfl,rfl⟩):G:=h
def gE(h:G:=by first|exact zK ⟨.inl rfl,id,_,rfl,.refl _,⟨rfl,uh⟩,rfl,rfl⟩|exact zK ⟨.inl rfl,id,_,rfl,.refl _,by repeat' first|exact uh|exact rfl|refine⟨?_,?_⟩,rfl,rfl⟩):G:=h
def gP{P:Prop}(h:P:=by exfalso;first|(simp only[uq,uu,uj,ux,uE]at *; omega)|(simp at h<;>fail)):P:=h
def gD{P:Prop}(h:P:=by exfalso;simp at h<;>fail):P:=h
def gT(g:G')(h:G'->G:=by exact λg=>ztT T hC rfl rfl rfl rfl rfl rfl rfl rfl rfl g):G:=h g
theorem gM{σ:Nat->Nat}{a b:St}(h:Matches σ a b:=by first
 |exact⟨rfl,⟨rfl,rfl,uh⟩,trivial,rfl,λ_ _=>rfl⟩
 |exact⟨rfl,by repeat' first|exact uh|exact rfl|refine⟨?_,?_⟩,by repeat' first|exact uh|exact rfl|refine⟨?_,?_⟩,rfl,λ_ _=>rfl⟩):Matches σ a b:=h
variable {z:List V}
section
variable {k:List Frm} {n:Nat} {sl:zb}
def gC{d:Nat}{l:List Operand}{ty:TypeId}{first caps:List V}(h:zh P f args [] res [])(g:Goal P C (.ops all rest (nx md ⟨some d,gs++(rq x (.one (.cl f first caps))++rqs l ss),[],[],res,[]⟩)) k n ((d,res)::sl) tab Q)(hC:C.low:=by assumption)(J:ev sl x=some (.one (.cl f first caps)):=by exact rfl)(U:evs sl l=some ss:=by exact rfl)(ha:yG (ones first++ss++ones caps) args:=by exact yG.refl _)(hc:cloS [] res=true:=by exact rfl)(hm:metL all sl g0=some gs:=by exact rfl)(hd:Nat.blt d n=true:=by exact rfl):
 Goal P C (.ops all (⟨some d,.call ⟨.value x,l.toArray,ts⟩,ty,ps,af,g0⟩::rest) md) k n sl tab Q:=w6 hC h J U ha hc hm hd g
def gR{l:List Operand}{ty:TypeId}{first caps:List V}{R':RL}(h:zh P f args R res R')(σ:Nat->Nat)(g:Goal P C (.ops all rest (nx md ⟨d,gs++(rq x (.one (.cl f first caps))++rqs l ss),R.ren σ,(zC R R').map σ,res.ren σ,tb (R'.ren σ)++yF (R.ids.map σ)⟩)) k n (app d (res.ren σ) (tb (R'.ren σ)++yF (R.ids.map σ)) ⟨n,sl,tab⟩).sl ((tb (R'.ren σ)++yF (R.ids.map σ))++tab) Q)(hC:C.low:=by assumption)(hx:ev sl x=some (.one (.cl f first caps)):=by exact rfl)(hl:evs sl l=some ss:=by exact rfl)(ha:yG (ones first++ss++ones caps) (Ss.ren σ args):=by exact yG.refl _)(hi:injB σ R.ids=true:=by exact rfl)(J:injB σ R'.ids=true:=by exact rfl)(hc:cloS (R.ids++R'.ids) res=true:=by exact rfl)(U:yM (R.ids++R'.ids) R'=true:=by exact rfl)(hT:rdT tab (R.ren σ)=R.ren σ:=by exact rfl)(hfr:allB (λid=>Nat.ble 100 id&&freshB id ⟨n,sl,tab⟩) ((zC R R').map σ)=true:=by exact rfl)(hm:metL all sl g0=some gs:=by exact rfl)(hd:dok d n=true:=by exact rfl):
 Goal P C (.ops all (⟨d,.call ⟨.value x,l.toArray,ts⟩,ty,ps,af,g0⟩::rest) md) k n sl tab Q:=wW hC h σ hx hl ha hi J hc U hT hfr hm hd g
def gK{l:List Operand}{ty:TypeId}{first caps:List V}(h:zh P f args R res R)(σ:Nat->Nat)(g:Goal P C (.ops all rest (nx md ⟨d,gs++(rq x (.one (.cl f first caps))++rqs l ss),R.ren σ,(zC R R).map σ,res.ren σ,[]⟩)) k n (app d (res.ren σ) ([]) ⟨n,sl,tab⟩).sl ([]++tab) Q)(hC:C.low:=by assumption)(hx:ev sl x=some (.one (.cl f first caps)):=by exact rfl)(hl:evs sl l=some ss:=by exact rfl)(ha:yG (ones first++ss++ones caps) (Ss.ren σ args):=by exact yG.refl _)(hi:injB σ R.ids=true:=by exact rfl)(hc:cloS (R.ids++R.ids) res=true:=by exact rfl)(J:yM (R.ids++R.ids) R=true:=by exact rfl)(hT:rdT tab (R.ren σ)=R.ren σ:=by exact rfl)(U:allB (λid=>Nat.ble 100 id&&freshB id ⟨n,sl,tab⟩) ((zC R R).map σ)=true:=by exact rfl)(hm:metL all sl g0=some gs:=by exact rfl)(hd:dok d n=true:=by exact rfl):
 Goal P C (.ops all (⟨d,.call ⟨.value x,l.toArray,ts⟩,ty,ps,af,g0⟩::rest) md) k n sl tab Q:=zrb hC h σ hx hl ha hi hc J hT U hm hd g
def gZ(id:Nat){e:Nat}(ups:zb)(bs:List (Nat×List V))(g:Goal P C cur k n (ups++sl) (zfS bs++((id,none)::tab)) Q)(U:lst cur=true:=by exact rfl)(J:tg tab id=some (.arr e rows):=by exact rfl)
 (hS:upS (FrS id e rows) sl ups:=by repeat' first|exact uh|exact⟨⟨_,rfl,FrS.ar⟩,uh⟩|refine⟨⟨_,rfl,FrS.agg ?_⟩,?_⟩|exact zck.nil|refine zck.cons FrV.ar ?_|refine zck.cons (FrV.refl _) ?_) (hB:upB (zck id e rows) id tab bs:=by repeat' first|exact uh|refine⟨⟨_,rfl,ub,?_⟩,?_⟩|exact zck.nil|refine zck.cons FrV.ar ?_|refine zck.cons (FrV.refl _) ?_):Goal P C cur k n sl tab Q:=zdc U J ups hS bs hB g
def gA(id e:Nat)(ups:zb)(bs:List (Nat×List V))(g:Goal P C cur k n (ups++sl) (zfS bs++((id,some (.arr e []))::tab)) Q)(hC:C.low:=by assumption)(J:lst cur=true:=by exact rfl)(hf:(Nat.ble 100 id&&freshB id ⟨n,sl,tab⟩)=true:=by exact rfl)
 (U:upS (AdS id) sl ups:=by repeat' first|exact uh|exact⟨⟨_,rfl,AdS.nil⟩,uh⟩|refine⟨⟨_,rfl,AdS.agg ?_⟩,?_⟩|exact zcB.nil|refine zcB.cons AdV.nil ?_|refine zcB.cons (AdV.refl _) ?_) (hB:upB (zcB id) id tab bs:=by repeat' first|exact uh|refine⟨⟨_,rfl,ub,?_⟩,?_⟩|exact zcB.nil|refine zcB.cons AdV.nil ?_|refine zcB.cons (AdV.refl _) ?_):Goal P C cur k n sl tab Q:=zj1 hC J id e hf ups U bs hB g
def gY(T:Ty P)(id':Nat){d:Nat}{tx ty:TypeId}{id e:Nat}{rows2:List (List PV)}(rows3:List (List PV))(bytes:Nat){sy:S}{rt2:RL}
 (g:Goal P C (.ops all rest (nx md ⟨some d,gs++(rq x (.one (.ar id))++rq y sy),(id,.arr e rows)::rt2,[id'],.one (.ar id'),[(id',some (.arr e rows3)),(id,none)]⟩)) k n ((d,.one (.ar id'))::sl) ([(id',some (.arr e rows3)),(id,none)]++tab) Q)
 (hC:C.low:=by assumption) (hx:ev sl x=some (.one (.ar id)):=by exact rfl) (hy:ev sl y=some sy:=by exact rfl) (hT:tg tab id=some (.arr e rows):=by exact rfl) (hs:zat P e tx sy rt2 rows2:=by exact zat.sl (T.es_ok _ _ rfl)) (U:rdT tab rt2=rt2:=by exact rfl)
 (hr:rows++rows2=rows3:=by first|exact rfl|assumption|(rw[u5];rfl)) (he:T.es t=some (el,e):=by exact rfl) (hz:T.zs el=some z:=by exact rfl) (hzl:Nat.beq z.length e=true:=by exact rfl) (hby:(P.info? el).map (·.bytes)=some bytes:=by kernel_rfl)
 (hb:(rows.length+rows2.length)*bytes<=140737488355328:=by first|(simp only[uj,uP,uX,tN];omega)|(simp only[uj,uP,uX,tN]at *; omega)|(simp<;>fail))
 (J:rows.length+rows2.length<=9223372036854775807:=by first|(simp only[uj,uP,uX,tN];omega)|(simp only[uj,uP,uX,tN]at *; omega)|(simp<;>fail)) (hm:metL all sl g0=some gs:=by exact rfl) (hd:Nat.blt d n=true:=by exact rfl) (hf:(Nat.ble 100 id'&&freshB id' ⟨n,sl,tab⟩)=true:=by exact rfl):
 Goal P C (.ops all (⟨some d,.call ⟨.builtin .append,#[x,y],#[t,tx]⟩,ty,ps,af,g0⟩::rest) md) k n sl tab Q:=zho T id' hC hx hy hT U hs hr he hz hzl hby hb J hm hd hf g
def gH(T:Ty P){d:Nat}{len:Nat}{l:List (Nat×Operand)}{ty:TypeId}(rows:List (List PV)){e:Nat}
 (g:Goal P C (.ops all rest (nx md ⟨some d,gs++rqs (l.map (·.2)) ss,[],[],.one (.p (.sl e rows)),[]⟩)) k n ((d,.one (.p (.sl e rows)))::sl) tab Q) (hC:C.low:=by assumption) (hl:evs sl (l.map (·.2))=some ss:=by exact rfl) (he:T.es t=some (el,e):=by exact rfl) (hz:T.zs el=some z:=by exact rfl)
 (hr:partsR e 0 (l.map (·.1)) ss=some rows:=by first|exact rfl|(simp only[za8];rfl)|(simp only[zdd];rfl)) (J:Nat.beq l.length len=true:=by exact rfl) (U:Nat.ble (len*e) 16777216=true:=by exact rfl) (hl3:Nat.ble len 16777216=true:=by exact rfl) (hm:metL all sl g0=some gs:=by exact rfl) (hd:Nat.blt d n=true:=by exact rfl):
 Goal P C (.ops all (⟨some d,.buildSlice t len l.toArray,ty,ps,af,g0⟩::rest) md) k n sl tab Q:=ztT T hC hl he hz hr J U hl3 hm hd g
def gW(l:List Nat){T:Ty P}{rv:List ResultVar}{R':RL}{e:Exit}(J:e= .ret\/e= .normal:=by exact .inl rfl)(U:rvsOf T ⟨n,sl,tab⟩ rv=some ss:=by exact rfl)(h2:LeS (tupOf ss) (res.ren (nm l)):=by exact .refl _)(h3:mR (nm l) tab R':=by repeat' first|exact uh|exact rfl|refine⟨?_,?_⟩)(h4:injB (nm l) R'.ids=true:=by exact rfl)(h5:allB (λi=>Nat.beq (nm l i) i) R.ids=true:=by exact rfl):
 Goal P C (.fin e) [] n sl tab (zcn T rv R res R'):=zK ⟨J,nm l,ss,U,h2,h3,h4,h5⟩
end
end Hw
namespace Hw.Gm
open Go Go.Proofs Tryz
def zz:Tabs:=
{ sh:=(.nd (.nd (.nd (.nd (.nd (.nd (.nd (.nd .lf 1 none .lf) 2 none .lf) 3 none (.nd .lf 4 none .lf)) 5 none (.nd (.nd (.nd .lf 9 none .lf) 20 none .lf) 21 none (.nd .lf 22 none .lf))) 23 none (.nd (.nd (.nd (.nd .lf 24 none .lf) 25 none .lf) 26 none (.nd .lf 27 none .lf)) 28 none (.nd (.nd (.nd .lf 30 (some 8) .lf) 31 none .lf) 32 none (.nd .lf 34 (some 2) .lf)))) 35 none (.nd (.nd (.nd (.nd (.nd .lf 39 none .lf) 40 none .lf) 47 (some 4) (.nd .lf 59 none .lf)) 62 none (.nd (.nd (.nd .lf 64 (some 2) .lf) 74 none .lf) 79 none (.nd .lf 83 (some 2) .lf))) 85 none (.nd (.nd (.nd (.nd .lf 87 none .lf) 88 none .lf) 90 (some 5) (.nd .lf 93 none .lf)) 95 (some 12) (.nd (.nd .lf 99 (some 3) .lf) 103 (some 2) (.nd .lf 107 none .lf))))) 115 (some 3) (.nd (.nd (.nd (.nd (.nd (.nd .lf 117 (some 5) .lf) 122 none .lf) 124 (some 4) (.nd .lf 126 (some 5) .lf)) 129 (some 2) (.nd (.nd (.nd .lf 132 none .lf) 133 none .lf) 136 (some 2) (.nd .lf 137 none .lf))) 138 none (.nd (.nd (.nd (.nd .lf 140 none .lf) 143 none .lf) 145 (some 3) (.nd .lf 149 none .lf)) 152 none (.nd (.nd (.nd .lf 154 none .lf) 156 none .lf) 160 (some 7) (.nd .lf 163 (some 6) .lf)))) 165 (some 5) (.nd (.nd (.nd (.nd (.nd .lf 166 none .lf) 167 none .lf) 169 none (.nd .lf 171 (some 3) .lf)) 173 none (.nd (.nd (.nd .lf 175 (some 12) .lf) 177 none .lf) 180 none (.nd .lf 182 (some 15) .lf))) 183 none (.nd (.nd (.nd (.nd .lf 185 (some 13) .lf) 186 none .lf) 189 none (.nd .lf 192 none .lf)) 198 none (.nd (.nd .lf 202 (some 5) .lf) 207 none (.nd .lf 210 none .lf)))))) 217 (some 5) (.nd (.nd (.nd (.nd (.nd (.nd (.nd .lf 218 none .lf) 219 none .lf) 221 (some 10) (.nd .lf 222 none .lf)) 223 none (.nd (.nd (.nd .lf 225 none .lf) 226 none .lf) 228 none (.nd .lf 230 (some 1) .lf))) 235 none (.nd (.nd (.nd (.nd .lf 236 none .lf) 238 (some 12) .lf) 240 none (.nd .lf 242 (some 1) .lf)) 245 none (.nd (.nd (.nd .lf 247 (some 3) .lf) 251 (some 1) .lf) 253 none (.nd .lf 259 none .lf)))) 262 (some 4) (.nd (.nd (.nd (.nd (.nd .lf 268 none .lf) 269 none .lf) 271 none (.nd .lf 274 none .lf)) 276 none (.nd (.nd (.nd .lf 279 none .lf) 281 none .lf) 284 none (.nd .lf 287 none .lf))) 294 (some 1) (.nd (.nd (.nd (.nd .lf 297 (some 3) .lf) 304 none .lf) 308 (some 2) (.nd .lf 310 none .lf)) 312 none (.nd (.nd .lf 314 none .lf) 319 none (.nd .lf 325 none .lf))))) 329 none (.nd (.nd (.nd (.nd (.nd (.nd .lf 331 none .lf) 336 none .lf) 338 (some 2) (.nd .lf 340 (some 2) .lf)) 343 none (.nd (.nd (.nd .lf 344 none .lf) 346 none .lf) 349 none (.nd .lf 351 none .lf))) 356 none (.nd (.nd (.nd (.nd .lf 357 none .lf) 361 (some 2) .lf) 362 none (.nd .lf 365 none .lf)) 367 (some 256) (.nd (.nd .lf 369 none .lf) 373 none (.nd .lf 379 none .lf)))) 381 (some 2) (.nd (.nd (.nd (.nd (.nd .lf 383 none .lf) 387 (some 3) .lf) 392 none (.nd .lf 393 none .lf)) 395 (some 3) (.nd (.nd (.nd .lf 396 none .lf) 398 (some 3) .lf) 401 (some 3) (.nd .lf 404 none .lf))) 405 none (.nd (.nd (.nd (.nd .lf 407 (some 1) .lf) 408 none .lf) 409 none (.nd .lf 411 (some 24) .lf)) 415 (some 20) (.nd (.nd .lf 416 (some 65) .lf) 417 (some 32) (.nd .lf 418 (some 64) .lf)))))))
  fo:=(.nd (.nd (.nd (.nd (.nd (.nd .lf 30 (.nd (.nd (.nd (.nd .lf 0 0 .lf) 1 1 .lf) 2 2 (.nd .lf 3 3 .lf)) 4 4 (.nd (.nd .lf 5 5 .lf) 6 6 (.nd .lf 7 7 .lf))) .lf) 34 (.nd (.nd .lf 0 0 .lf) 1 1 .lf) .lf) 47 (.nd (.nd (.nd .lf 0 0 .lf) 1 1 .lf) 2 2 (.nd .lf 3 3 .lf)) (.nd (.nd .lf 64 (.nd (.nd .lf 0 0 .lf) 1 1 .lf) .lf) 83 (.nd (.nd .lf 0 0 .lf) 1 1 .lf) .lf)) 90 (.nd (.nd (.nd .lf 0 0 .lf) 1 1 .lf) 2 2 (.nd (.nd .lf 3 3 .lf) 4 4 .lf)) (.nd (.nd (.nd .lf 95 (.nd (.nd (.nd .lf 0 0 .lf) 1 8 .lf) 2 9 (.nd (.nd .lf 3 10 .lf) 4 11 .lf)) .lf) 99 (.nd (.nd .lf 0 0 .lf) 1 1 (.nd .lf 2 2 .lf)) .lf) 103 (.nd (.nd .lf 0 0 .lf) 1 1 .lf) (.nd .lf 115 (.nd (.nd .lf 0 0 .lf) 1 1 (.nd .lf 2 2 .lf)) .lf))) 117 (.nd (.nd .lf 0 0 .lf) 1 1 (.nd .lf 2 2 .lf)) (.nd (.nd (.nd (.nd .lf 124 (.nd (.nd (.nd .lf 0 0 .lf) 1 1 .lf) 2 2 (.nd .lf 3 3 .lf)) .lf) 126 (.nd (.nd .lf 0 0 .lf) 1 1 .lf) .lf) 129 (.nd (.nd .lf 0 0 .lf) 1 1 .lf) (.nd (.nd .lf 136 (.nd (.nd .lf 0 0 .lf) 1 1 .lf) .lf) 145 (.nd (.nd .lf 0 0 .lf) 1 1 (.nd .lf 2 2 .lf)) .lf)) 160 (.nd (.nd (.nd .lf 0 0 .lf) 1 1 .lf) 2 2 (.nd .lf 3 3 .lf)) (.nd (.nd (.nd .lf 163 (.nd (.nd .lf 0 0 .lf) 1 1 (.nd .lf 2 2 .lf)) .lf) 165 (.nd (.nd .lf 0 0 .lf) 1 1 .lf) .lf) 171 (.nd (.nd .lf 0 0 .lf) 1 1 (.nd .lf 2 2 .lf)) (.nd .lf 175 (.nd (.nd (.nd .lf 0 0 .lf) 1 8 .lf) 2 10 (.nd .lf 3 11 .lf)) .lf)))) 182 (.nd (.nd (.nd .lf 0 0 .lf) 1 8 (.nd .lf 2 10 .lf)) 3 11 (.nd (.nd .lf 4 12 .lf) 5 13 (.nd .lf 6 14 .lf))) (.nd (.nd (.nd (.nd (.nd .lf 185 (.nd (.nd (.nd .lf 0 0 .lf) 1 8 .lf) 2 10 (.nd (.nd .lf 3 11 .lf) 4 12 .lf)) .lf) 202 (.nd (.nd (.nd .lf 0 0 .lf) 1 1 .lf) 2 2 (.nd .lf 3 3 .lf)) .lf) 217 (.nd (.nd (.nd .lf 0 0 .lf) 1 1 .lf) 2 2 (.nd (.nd .lf 3 3 .lf) 4 4 .lf)) (.nd (.nd .lf 221 (.nd (.nd .lf 0 0 .lf) 1 8 (.nd .lf 2 9 .lf)) .lf) 230 (.nd .lf 0 0 .lf) .lf)) 238 (.nd (.nd (.nd .lf 0 0 .lf) 1 8 .lf) 2 10 (.nd .lf 3 11 .lf)) (.nd (.nd (.nd .lf 242 (.nd .lf 0 0 .lf) .lf) 247 (.nd (.nd .lf 0 0 .lf) 1 1 (.nd .lf 2 2 .lf)) .lf) 251 (.nd .lf 0 0 .lf) (.nd .lf 294 (.nd .lf 0 0 .lf) .lf))) 297 (.nd (.nd .lf 0 0 .lf) 1 1 (.nd .lf 2 2 .lf)) (.nd (.nd (.nd (.nd .lf 308 (.nd (.nd .lf 0 0 .lf) 1 1 .lf) .lf) 338 (.nd (.nd .lf 0 0 .lf) 1 1 .lf) .lf) 340 (.nd (.nd .lf 0 0 .lf) 1 1 .lf) (.nd (.nd .lf 361 (.nd (.nd .lf 0 0 .lf) 1 1 .lf) .lf) 381 (.nd (.nd .lf 0 0 .lf) 1 1 .lf) .lf)) 387 (.nd (.nd .lf 0 0 .lf) 1 1 (.nd .lf 2 2 .lf)) (.nd (.nd (.nd .lf 395 (.nd (.nd .lf 0 0 .lf) 1 1 (.nd .lf 2 2 .lf)) .lf) 398 (.nd (.nd .lf 0 0 .lf) 1 1 (.nd .lf 2 2 .lf)) .lf) 401 (.nd (.nd .lf 0 0 .lf) 1 1 (.nd .lf 2 2 .lf)) (.nd .lf 407 (.nd .lf 0 0 .lf) .lf)))))
  es:=(.nd (.nd (.nd (.nd (.nd .lf 22 (129,2) .lf) 23 (136,2) (.nd .lf 24 (90,5) .lf)) 25 (160,7) (.nd (.nd .lf 26 (163,6) .lf) 27 (126,5) .lf)) 28 (165,5) (.nd (.nd (.nd .lf 31 (3,1) .lf) 32 (83,2) (.nd .lf 35 (64,2) .lf)) 39 (47,4) (.nd (.nd .lf 59 (5,1) .lf) 79 (39,1) .lf))) 88 (217,5) (.nd (.nd (.nd (.nd .lf 122 (124,4) .lf) 138 (99,3) (.nd .lf 140 (202,5) .lf)) 180 (297,3) (.nd (.nd .lf 228 (169,1) .lf) 304 (9,1) .lf)) 325 (23,1) (.nd (.nd (.nd .lf 331 (88,1) .lf) 356 (361,2) (.nd .lf 357 (356,1) .lf)) 379 (381,2) (.nd (.nd .lf 392 (398,3) .lf) 393 (401,3) .lf))))
  zs:=(.nd (.nd (.nd (.nd (.nd (.nd (.nd (.nd .lf 1 [.nfunc] .lf) 2 [(.int .i64)] .lf) 3 [(.int .i64)] (.nd .lf 4 [.bool] .lf)) 5 [(.int .u8)] (.nd (.nd (.nd .lf 9 [.str] .lf) 20 [.nif] .lf) 21 [(.int .i32)] (.nd .lf 22 [.slice] .lf))) 23 [.slice] (.nd (.nd (.nd (.nd .lf 24 [.slice] .lf) 25 [.slice] .lf) 26 [.slice] (.nd .lf 27 [.slice] .lf)) 28 [.slice] (.nd (.nd .lf 30 [.str,.slice,.slice,.slice,.slice,.slice,.slice,.slice] .lf) 31 [.slice] (.nd .lf 32 [.slice] .lf)))) 34 [.slice,.slice] (.nd (.nd (.nd (.nd (.nd .lf 35 [.slice] .lf) 39 [.slice] .lf) 40 [(.int .i64)] (.nd .lf 47 [(.int .i64),(.int .i64),(.int .i64),(.int .i64)] .lf)) 59 [.slice] (.nd (.nd (.nd .lf 62 [.nfunc] .lf) 64 [.str,.slice] .lf) 74 [.nfunc] (.nd .lf 79 [.slice] .lf))) 83 [(.int .i64),.slice] (.nd (.nd (.nd (.nd .lf 85 [.nfunc] .lf) 87 [.nfunc] .lf) 88 [.slice] (.nd .lf 90 [.str,.slice,.str,.slice,.slice] .lf)) 93 [.ptr] (.nd (.nd .lf 95 [.str,.slice,.slice,.slice,.slice,.slice,.slice,.slice,.slice,(.int .i64),.slice,(.int .i64)] .lf) 99 [.str,.str,(.int .i64)] (.nd .lf 103 [(.int .i64),(.int .i64)] .lf))))) 107 [.map] (.nd (.nd (.nd (.nd (.nd (.nd .lf 115 [(.int .i64),(.int .i64),(.int .i64)] .lf) 117 [(.int .i64),(.int .i64),(.int .i64),(.int .i64),(.int .i64)] .lf) 122 [.slice] (.nd .lf 124 [(.int .i64),(.int .i64),.str,.slice] .lf)) 126 [.str,(.int .i64),(.int .i64),.str,.slice] (.nd (.nd (.nd .lf 129 [.str,.slice] .lf) 132 [.nfunc] .lf) 133 [.nfunc] (.nd .lf 136 [.str,.str] .lf))) 137 [.nfunc] (.nd (.nd (.nd (.nd .lf 138 [.slice] .lf) 140 [.slice] .lf) 143 [.ptr] (.nd .lf 145 [.slice,(.int .i64),.bool] .lf)) 149 [.ptr] (.nd (.nd .lf 152 [.nfunc] .lf) 154 [.nfunc] (.nd .lf 156 [.nfunc] .lf)))) 160 [.str,.str,(.int .i64),(.int .i64),(.int .i64),.str,.slice] (.nd (.nd (.nd (.nd (.nd .lf 163 [.str,.str,(.int .i64),(.int .i64),.str,.slice] .lf) 165 [.str,(.int .i64),(.int .i64),.str,.slice] .lf) 166 [.ptr] (.nd .lf 167 [.ptr] .lf)) 169 [.nfunc] (.nd (.nd (.nd .lf 171 [.str,(.int .i64),(.int .i64)] .lf) 173 [.nfunc] .lf) 175 [.str,.slice,.slice,.slice,.slice,.slice,.slice,.slice,.slice,.slice,.slice,.slice] (.nd .lf 177 [.ptr] .lf))) 180 [.slice] (.nd (.nd (.nd (.nd .lf 182 [.str,.slice,.slice,.slice,.slice,.slice,.slice,.slice,.slice,.slice,(.int .i64),(.int .i64),(.int .i64),(.int .i64),.slice] .lf) 183 [.map] .lf) 185 [.str,.slice,.slice,.slice,.slice,.slice,.slice,.slice,.slice,.slice,.slice,.map,(.int .i64)] (.nd .lf 186 [.ptr] .lf)) 189 [.ptr] (.nd (.nd .lf 192 [.nfunc] .lf) 198 [.nfunc] (.nd .lf 202 [(.int .i64),.str,(.int .i64),(.int .i64),(.int .i64)] .lf)))))) 207 [.nfunc] (.nd (.nd (.nd (.nd (.nd (.nd (.nd .lf 210 [.nfunc] .lf) 217 [(.int .i64),.str,.slice,.slice,.slice] .lf) 218 [.map] (.nd .lf 219 [.map] .lf)) 221 [.str,.slice,.slice,.slice,.slice,.slice,.slice,.slice,.map,.map] (.nd (.nd (.nd .lf 222 [.nfunc] .lf) 223 [.nfunc] .lf) 225 [.nfunc] (.nd .lf 226 [.nfunc] .lf))) 228 [.slice] (.nd (.nd (.nd (.nd .lf 230 [(.int .i64)] .lf) 235 [.map] .lf) 236 [.map] (.nd .lf 238 [.str,.slice,.slice,.slice,.slice,.slice,.slice,.slice,.slice,.slice,.map,.map] .lf)) 240 [.ptr] (.nd (.nd .lf 242 [(.int .i64)] .lf) 245 [.map] (.nd .lf 247 [.ptr,.map,.bool] .lf)))) 251 [(.int .i64)] (.nd (.nd (.nd (.nd (.nd .lf 253 [.nfunc] .lf) 259 [(.int .u64)] .lf) 262 [.str,.str,.str,.str] (.nd .lf 268 [.nfunc] .lf)) 269 [.nfunc] (.nd (.nd (.nd .lf 271 [.nfunc] .lf) 274 [.nfunc] .lf) 276 [.nfunc] (.nd .lf 279 [.nfunc] .lf))) 281 [.nfunc] (.nd (.nd (.nd (.nd .lf 284 [.nfunc] .lf) 287 [.ptr] .lf) 294 [(.int .i64)] (.nd .lf 297 [(.int .i64),(.int .i64),(.int .i64)] .lf)) 304 [.slice] (.nd (.nd .lf 308 [(.int .i64),(.int .i64)] .lf) 310 [.nfunc] (.nd .lf 312 [(.int .u32)] .lf))))) 314 [(.int .u64)] (.nd (.nd (.nd (.nd (.nd (.nd .lf 319 [.nif] .lf) 325 [.slice] .lf) 329 [.nfunc] (.nd .lf 331 [.slice] .lf)) 336 [.ptr] (.nd (.nd (.nd .lf 338 [.slice,.slice] .lf) 340 [.bool,(.int .i64)] .lf) 343 [.nfunc] (.nd .lf 344 [.nfunc] .lf))) 346 [.map] (.nd (.nd (.nd (.nd .lf 349 [.nfunc] .lf) 351 [.nfunc] .lf) 356 [.slice] (.nd .lf 357 [.slice] .lf)) 361 [.str,(.int .i64)] (.nd (.nd .lf 362 [.nfunc] .lf) 365 [.nfunc] (.nd .lf 369 [.nfunc] .lf)))) 373 [.ptr] (.nd (.nd (.nd (.nd (.nd .lf 379 [.slice] .lf) 381 [(.int .i64),(.int .i64)] .lf) 383 [.ptr] (.nd .lf 387 [.str,.str,.nif] .lf)) 392 [.slice] (.nd (.nd (.nd .lf 393 [.slice] .lf) 395 [.slice,.slice,(.int .i64)] .lf) 396 [(.int .u16)] (.nd .lf 398 [(.int .u16),(.int .u16),(.int .u16)] .lf))) 401 [(.int .u32),(.int .u32),(.int .u32)] (.nd (.nd (.nd (.nd .lf 404 [.ptr] .lf) 405 [.ptr] .lf) 407 [.str] (.nd .lf 408 [.ptr] .lf)) 409 [.ptr] (.nd (.nd .lf 411 [(.int .u8),(.int .u8),(.int .u8),(.int .u8),(.int .u8),(.int .u8),(.int .u8),(.int .u8),(.int .u8),(.int .u8),(.int .u8),(.int .u8),(.int .u8),(.int .u8),(.int .u8),(.int .u8),(.int .u8),(.int .u8),(.int .u8),(.int .u8),(.int .u8),(.int .u8),(.int .u8),(.int .u8)] .lf) 415 [(.int .u64),(.int .u64),(.int .u64),(.int .u64),(.int .u64),(.int .u64),(.int .u64),(.int .u64),(.int .u64),(.int .u64),(.int .u64),(.int .u64),(.int .u64),(.int .u64),(.int .u64),(.int .u64),(.int .u64),(.int .u64),(.int .u64),(.int .u64)] (.nd .lf 417 [(.int .u8),(.int .u8),(.int .u8),(.int .u8),(.int .u8),(.int .u8),(.int .u8),(.int .u8),(.int .u8),(.int .u8),(.int .u8),(.int .u8),(.int .u8),(.int .u8),(.int .u8),(.int .u8),(.int .u8),(.int .u8),(.int .u8),(.int .u8),(.int .u8),(.int .u8),(.int .u8),(.int .u8),(.int .u8),(.int .u8),(.int .u8),(.int .u8),(.int .u8),(.int .u8),(.int .u8),(.int .u8)] .lf)))))))
  pl:=(.nd (.nd (.nd (.nd (.nd (.nd .lf 30 [(0,1),(1,1),(2,1),(3,1),(4,1),(5,1),(6,1),(7,1)] .lf) 34 [(0,1),(1,1)] .lf) 47 [(0,1),(1,1),(2,1),(3,1)] (.nd (.nd .lf 64 [(0,1),(1,1)] .lf) 83 [(0,1),(1,1)] .lf)) 90 [(0,1),(1,1),(2,1),(3,1),(4,1)] (.nd (.nd (.nd .lf 95 [(0,8),(8,1),(9,1),(10,1),(11,1)] .lf) 99 [(0,1),(1,1),(2,1)] .lf) 103 [(0,1),(1,1)] (.nd .lf 115 [(0,1),(1,1),(2,1)] .lf))) 117 [(0,1),(1,1),(2,3)] (.nd (.nd (.nd (.nd .lf 124 [(0,1),(1,1),(2,1),(3,1)] .lf) 126 [(0,1),(1,4)] .lf) 129 [(0,1),(1,1)] (.nd (.nd .lf 136 [(0,1),(1,1)] .lf) 145 [(0,1),(1,1),(2,1)] .lf)) 160 [(0,1),(1,1),(2,1),(3,4)] (.nd (.nd (.nd .lf 163 [(0,1),(1,1),(2,4)] .lf) 165 [(0,1),(1,4)] .lf) 171 [(0,1),(1,1),(2,1)] (.nd .lf 175 [(0,8),(8,2),(10,1),(11,1)] .lf)))) 182 [(0,8),(8,2),(10,1),(11,1),(12,1),(13,1),(14,1)] (.nd (.nd (.nd (.nd (.nd .lf 185 [(0,8),(8,2),(10,1),(11,1),(12,1)] .lf) 202 [(0,1),(1,1),(2,1),(3,2)] .lf) 217 [(0,1),(1,1),(2,1),(3,1),(4,1)] (.nd (.nd .lf 221 [(0,8),(8,1),(9,1)] .lf) 230 [(0,1)] .lf)) 238 [(0,8),(8,2),(10,1),(11,1)] (.nd (.nd (.nd .lf 242 [(0,1)] .lf) 247 [(0,1),(1,1),(2,1)] .lf) 251 [(0,1)] (.nd .lf 294 [(0,1)] .lf))) 297 [(0,1),(1,1),(2,1)] (.nd (.nd (.nd (.nd .lf 308 [(0,1),(1,1)] .lf) 338 [(0,1),(1,1)] .lf) 340 [(0,1),(1,1)] (.nd (.nd .lf 361 [(0,1),(1,1)] .lf) 381 [(0,1),(1,1)] .lf)) 387 [(0,1),(1,1),(2,1)] (.nd (.nd (.nd .lf 395 [(0,1),(1,1),(2,1)] .lf) 398 [(0,1),(1,1),(2,1)] .lf) 401 [(0,1),(1,1),(2,1)] (.nd .lf 407 [(0,1)] .lf)))))
  str:=(.nd .lf 9 () .lf)
  ik:=(.nd (.nd (.nd (.nd .lf 2 .i64 .lf) 3 .i64 .lf) 5 .u8 (.nd .lf 21 .i32 .lf)) 40 .i64 (.nd (.nd (.nd .lf 259 .u64 .lf) 312 .u32 .lf) 314 .u64 (.nd .lf 396 .u16 .lf))) }
def zrc:zz.check prog=true:=by kernel_rfl
def mixed:prog.follows .mixedOrders=true:=by kernel_rfl
noncomputable def T:Ty prog:=zz.ty zrc mixed
end Hw.Gm
namespace Hw
open Go
def chn(v:Value):List PanicEntry:=[{ v:=v,recovered:=false }]
def yH(P:Program)(f:FuncId)(args:List S)(R:RL)(pv:Value)(R':RL):Prop:=
 ju P f/\ ∀(M:Mem) (ρ:Nat->Value) (w:World) (xs:List Value),RepSs M ρ args xs->xJ M ρ w (tb R)->Imm M w->GOk M w->
  Calls P f xs.toArray w λe w'=> ∃M' ρ',e= .panicked (chn pv)/\Ret M ρ w R .un R' undef M' ρ' w'
def zpW(P:Program)(all:Array Oper)(o:Oper)(rs:zb)(rt:RL)(fr:List Nat)(pv:Value)(wt:Tab):Prop:=
 ∀(C:Ctx) (st:St) (M:Mem) (ρ:Nat->Value) (a:Act) (w:World),Holds C st M ρ a w->okS rs st->okT rt st->okF C fr st->
  ∀(K:Act->World->Prop) (Q:Exit->Act->World->Prop),(∀M' ρ' w',Holds C ⟨st.n,st.sl,wt++st.tab⟩ M' ρ' a w'->Q (.panic (chn pv)) a w')->
   if Region.wanted o (yielded all a.tmps)then o.wp P a w K Q else K (a.put o.dst undef) w
def PnO(P:Program)(o:Oper)(rs:zb)(rt:RL)(fr:List Nat)(pv:Value)(wt:Tab):Prop:=
 ∀(C:Ctx) (st:St) (M:Mem) (ρ:Nat->Value) (a:Act) (w:World),Holds C st M ρ a w->okS rs st->okT rt st->okF C fr st->
  ∀(K:Act->World->Prop) (Q:Exit->Act->World->Prop),(∀M' ρ' w',Holds C ⟨st.n,st.sl,wt++st.tab⟩ M' ρ' a w'->Q (.panic (chn pv)) a w')->o.wp P a w K Q
variable {P:Program}{af:Array Edge}{all:Array Oper}{d:Option Nat}{g:Option (Nat×Bool)}{gs rs:zb}{ps:String}{pv:Value}{rt:RL}{tab wt:Tab}
theorem zde{sl:zb}{op:Op}{ty:TypeId}{fr:List Nat}
 (J:metL all sl g=some gs) (hL:PnO P ⟨d,op,ty,ps,af,g⟩ rs rt fr pv wt) {n:Nat} :zpW P all ⟨d,op,ty,ps,af,g⟩ (gs++rs) rt fr pv wt/\okS gs ⟨n,sl,tab⟩:=by
 cases g with
 |none=>
  simp only[metL,ui]at J;subst J;refine⟨λC st M ρ a w U h1 h2 h3 K Q hk=>?_,uh⟩;simp only[Region.wanted,uW];exact hL C st M ρ a w U h1 h2 h3 K Q hk
 |some p=>
  obtain⟨j,want⟩:=p;simp only[metL]at J;split at J
  ·rename_i t ht;split at J
   ·rename_i c hc;split at J
    ·rename_i hw;simp only[ui]at J;subst J;refine⟨λC st M ρ a w U h1 h2 h3 K Q hk=>?_,hc,uh⟩;have hw':=vj.wanted (ops:=all) (o:=⟨d,op,ty,ps,af,some (j,want)⟩) (t:=t) (gs:=Bo c) (b:=zbu want c) ⟨j,want,rfl,ht,.inl ⟨c,rfl,rfl⟩⟩ (U.slots t _ h1.1);rw[hw',hw,uw rfl];exact hL C st M ρ a w U h1.2 h2 h3 K Q hk
    ·cases J
   ·cases J
  ·cases J
variable {args:List S}{f:FuncId}{ts:Array TypeId}{x:Operand}
section
variable {ty:TypeId}
def zfT{R R':RL}(h:yH P f args R pv R')(σ:Nat->Nat){l:List Operand}{first caps:List V}{ss:List S}
 (hx:okc x (.one (.cl f first caps))) (hl:zcm l ss) (hle:yG (ones first++ss++ones caps) (Ss.ren σ args)) (hi:injB σ R.ids=true) (hi2:injB σ R'.ids=true)
 (hcR:yM (R.ids++R'.ids) R'=true):
 PnO P ⟨d,.call ⟨.value x,l.toArray,ts⟩,ty,ps,af,g⟩ (rq x (.one (.cl f first caps))++rqs l ss) (R.ren σ) ((zC R R').map σ) pv (tb (R'.ren σ)++yF (R.ids.map σ)):=by
 intro C st M ρ a w J U hT hF K Q hk;rw[ze]at U;have e1:=J.evS (zq hx U.1);have e2:=J.zhi (wL hl U.2);simp only[RepS,RepV]at e1;obtain⟨xs,ys,e3,e4,e5⟩:=e1
 have e6:RepSs M (λi=>ρ (σ i)) args (xs++l.map a.eval++ys):=
  (RepSs.ren _ _).1 (hle _ _ _ (ym (ym (yr e4) e2) (yr e5)))
 have tk: ∀i r,tg (tb R) i=some r->tg st.tab (σ i)=some (r.ren σ):=λi r hm=>xc hT (zbv (zF hm))
 have e7:xJ M (λi=>ρ (σ i)) w (tb R):=⟨λi r hr=>(J.zz.res _ _ (tk i r hr)).ren,
  λi j ri rj b U h2 hne hb1 hb2=>J.zz.dis _ _ _ _ b (tk i ri U) (tk j rj h2) (yt hi i j (zH (zF U)) (zH (zF h2)) hne) hb1 hb2,
  λi r b U hb=>J.zz.own _ _ b (tk i r U) hb⟩
 unfold Oper.wp;rw[za9 h.1 e3,Oper.upon_enter];refine Calls.mono (h.2 M _ w _ e6 e7 J.run.imm J.gok) λe w' ⟨M',ρ',he,hr⟩=>?_;subst he
 have hi3:injB σ (zC R R')=true:=by
  have key: ∀(l:List Nat) (p:Nat->Bool),injB σ l=true->injB σ (l.filter p)=true:=by
   intro l p
   induction l with
   |nil=>exact λh=>h
   |cons y ys ih=>
    intro h;simp only[injB,um,List.all_eq_true]at h;simp only[q8];split
    ·simp only[injB,um,List.all_eq_true];exact⟨λz hz=>h.1 z (qN.1 hz).1,ih h.2⟩
    ·exact ih h.2
  exact key _ _ hi2
 obtain⟨ρ3,h3⟩:=J.called (d:=none) hr hT hi3 hi2 hF rfl hcR rfl;exact hk _ _ _ h3
def zrd{t:TypeId}{v:Value}(hx:okc x (.one (.p (.k (.iface t v))))):PnO P ⟨d,.panic x,ty,ps,af,g⟩ (rq x (.one (.p (.k (.iface t v))))) [] [] (.iface t v) []:=by
 intro C st M ρ a w U h1 hT hF K Q hk;have e:=U.k (zq hx h1);unfold Oper.wp
 have J:(execOp a.eval ⟨d,.panic x,ty,ps,af,g⟩).run P w= .halt (.panic (.iface t v)) w:=by
  simp[execOp,e,run_panic_iface]
 rw[J,Oper.upon_panic];exact hk M ρ w U
end
def xX(all:Array Oper)(ms:List Nat)(st:St)(l:List Law):Bool:=allLt (checkAt all ms st l) l.length
variable {C:Ctx}{D:Nat->Bool}{K:Act->World->Prop}{L:Law}{M:Mem}{Q:Exit->Act->World->Prop}{a:Act}{i:Nat}{kp:RL}{o:Oper}{st:St}{w:World}{ρ:Nat->Value}
section
variable {l:List Law} {ms:List Nat}
def yu(hc:xX all ms st l=true)(hi:i<l.length): ∃o L,all[i]?=some o/\at? l i=some L/\(∀p∈zM o,p<i)/\
 (∀j,j<i->za4 (nth ms i) j=true-> ∃p∈zM o,p=j\/(j<p/\za4 (nth ms p) j=true))/\
 (∀j X,j<i->at? l j=some X->(za4 (nth ms i) j=true\/(apart X L=true/\apart L X=true))/\ ∀id∈L.fr,noL id X=true)/\
 (∀id∈L.fr,100<=id/\freshB id st=true):=by
 have h:=yc hc i hi;unfold checkAt at h;split at h
 ·rename_i o L ho hL;simp only[um]at h;refine⟨o,L,ho,hL,λp hp=>by have:=zy h.1.1.1 p hp;simp_all,λj J hb=>?_,λj X J hX=>?_,λid U=>?_⟩
  ·have:=yc h.1.1.2 j J;simp only[hb,qo,tw]at this;exact anyB_pred this
  ·have:=yc h.1.2 j J;simp only[hX,um,uJ]at this;exact⟨this.1,zy this.2⟩
  ·have:=zy h.2 id U
   simp_all
 ·cases h
where
 anyB_pred {ms:List Nat} {j:Nat}: ∀ {l:List Nat},anyB (λp=>Nat.beq p j||(Nat.blt j p&&za4 (nth ms p) j)) l=true-> ∃p∈l,p=j\/(j<p/\za4 (nth ms p) j=true)
  | [],h=>by cases h
  |y::ys,h=>by
   simp only[anyB,uJ,um]at h;rcases h with(h|h)|h
   ·simp_all
   ·simp_all
   ·obtain⟨p,h1,h2⟩:=anyB_pred h;grind
theorem xw(hc:xX all ms st l=true)(hD:Down all D): ∀(i:Nat),i<l.length-> ∀o,all[i]?=some o->(∀p∈zM o,D p=true)-> ∀j,j<i->za4 (nth ms i) j=true->D j=true:=by
 intro i
 induction i using Nat.strongRecOn with
 |_ i ih=>
  intro hi o ho hp j hj hb;obtain⟨o',L,J,hL,hlt,hbit,_⟩:=yu hc hi;rw[ho]at J;simp only[ui]at J;subst J;obtain⟨p,U,h1⟩:=hbit j hj hb;rcases h1 with rfl|⟨hjp,h1⟩
  ·exact hp p U
  ·have hpi:=hlt p U;obtain⟨op,_,hop,_⟩:=yu hc (i:=p) ua;exact ih p hpi ua _ hop (hD p _ hop (hp p U)) j hjp h1
def jG(hc:xX all ms st l=true)(hD:Down all D)(hi:i<l.length)(ho:all[i]?=some o)(hn:D i=false)(hp: ∀p∈zM o,D p=true)
 (hL:at? l i=some L) {j:Nat} {X:Law} (hX:at? l j=some X) (J:D j≠decide (j<i)) (hji:j≠i):apart X L=true/\apart L X=true:=by
 have hj:j<l.length:=xK hX;rcases tu j i with h|h
 ·have hDj:D j=false:=by
   cases e:D j
   ·rfl
   ·rw[e,uZ h]at J;exact absurd rfl J
  obtain⟨o',L',ho',U,_,_,h3,_⟩:=yu hc hi;rw[hL]at U;simp only[ui]at U;subst U;rcases(h3 j X h hX).1 with h4|h4
  ·have:=xw hc hD i hi o ho hp j h h4;simp_all
  ·exact h4
 ·have hDj:D j=true:=by
   cases e:D j
   ·rw[e,uI ua]at J;exact absurd rfl J
   ·rfl
  obtain⟨oj,Lj,hoj,hLj,_,_,h3,_⟩:=yu hc hj;rw[hX]at hLj;simp only[ui]at hLj;subst hLj;rcases(h3 i L ua hL).1 with h4|h4
  ·have:=xw hc hD j hj oj hoj (hD j oj hoj hDj) i ua h4;simp_all
  simp_all
def zj2(hd:wv P all st l)(hc:xX all ms st l=true)(hD:Down all D)(hi:i<l.length)(ho:all[i]?=some o)(hn:D i=false)(hp: ∀p∈zM o,D p=true)
 (hC:C.low) (hH:Holds C (apps st (sel D l)) M ρ a w) 
 (hk: ∀a' w' M' ρ',Holds C (apps st (sel (zfO D i) l)) M' ρ' a' w'->K a' w'):if Region.wanted o (yielded all a.tmps)then o.wp P a w K Q else K (a.put o.dst undef) w:=by
 obtain⟨o',L,J,hL,_,_,h3,h4⟩:=yu hc hi;rw[ho]at J;simp only[ui]at J;subst J;obtain⟨o',J,hstep,hdst,hS,hT,hdk⟩:=hd.at hL;rw[ho]at J;simp only[ui]at J;subst J;have ap: ∀j X,at? l j=some X->D j≠decide (j<i)->j≠i->apart X L=true/\apart L X=true:=λj X U hne hji=>jG hc hD hi ho hn hp hL U hne hji
 have eqi: ∀j X,at? l j=some X->(apart X L=true->False)->D j=decide (j<i):=λj X U hno=>by
  by_cases hji:j=i
  ·subst hji;rw[hn];simp
  ·by_cases hne:D j=decide (j<i)
   ·exact hne
   ·exact(hno (ap j X U hne hji).1).elim
 have hS':okS L.rs (apps st (sel D l)):=vP hS λk hk=>j4 λj X U hw=>eqi j X U λh=>by have:=(wN h hw).1;rw[hk]at this;cases this
 have hT':okT L.rt (apps st (sel D l)):=wO hT λk hk=>vQ λj X U hw=>eqi j X U λh=>by have:=(xL h hw).1;rw[hk]at this;cases this
 have hF':okF C L.fr (apps st (sel D l)):=by
  have one: ∀id∈L.fr,we C id (apps st (sel D l)):=λid hid=>by
   refine xx (h4 id hid).2 (by
    cases e:tg C.tab0 id with
    |none=>rfl
    |some r=>have:=hC id r e;have:=(h4 id hid).1;omega) λX U=>?_
   obtain⟨j,hj,hX'⟩:=jH U;rcases tu j i with h|h
   ·exact(h3 j X h hX').2 id hid
   ·have hji:j≠i:=λe=>by subst e;rw[hn]at hj;cases hj
    exact zba (ap j X hX' (by rw[hj,uI ua];simp) hji).1 id hid
  have: ∀fr:List Nat,(∀id∈fr,we C id (apps st (sel D l)))->okF C fr (apps st (sel D l)):=λfr=>by
   induction fr with
   |nil=>exact λ_=>trivial
   |cons x xs ih=>exact λh=>⟨h x ue,ih λid hid=>h id (u3 _ hid)⟩
  exact this _ one
 refine hstep C _ M ρ a w hH hS' hT' hF' (by rw[xY,<-hdst];exact hdk) K Q λa' w' M' ρ' hH'=>hk a' w' M' ρ' (hH'.ext ?_ ?_ ?_)
 ·rw[xY];simp only[app,xY]
 ·intro k
  have e0:sg (app o.dst L.v L.wt (apps st (sel D l))).sl k=if wr L k=true then some L.v else sg (apps st (sel D l)).sl k:=by
   rw[<-hdst];exact wX st L (sel D l) k
  rw[e0];by_cases hw:wr L k=true
  ·rw[uw hw]
   exact zdf hL (zU D i) hw λj X U hij hDj=>by
    rw[zt ua]at hDj;cases hx:wr X k with
    |false=>rfl
    |true=>
     have:=(wN (ap j X U (by rw[hDj,uI ua];simp) ua).1 hx).2
     simp_all
  ·rw[ur hw]
   exact j4 λj X U hx=>zt λe=>by
    simp_all
 ·intro k;cases hw:wrT L k with
  |true=>
   simp only[app]
   exact zbb hL (zU D i) hw λj X U hij hDj=>by
    rw[zt ua]at hDj;cases hx:wrT X k with
    |false=>rfl
    |true=>
     have:=(xL (ap j X U (by rw[hDj,uI ua];simp) ua).1 hx).2
     simp_all
  |false=>
   simp only[app];rw[yN hw]
   exact vQ λj X U hx=>zt λe=>by
    simp_all
def checkP(all:Array Oper)(ms:List Nat)(st:St)(l:List Law)(L:Law)(kp:List Nat):Bool:=
 match all[l.length]? with
 |some o=>
  allB (λp=>Nat.blt p l.length) (zM o)&&
  allLt (λj=> !za4 (nth ms l.length) j||anyB (λp=>Nat.beq p j||(Nat.blt j p&&za4 (nth ms p) j)) (zM o)) l.length&&
  allLt (λj=>match at? l j with
   |some X=>(za4 (nth ms l.length) j||(apart X L&& !anyB (λi=>hasB i kp) (keysT X.wt)))&&allB (λid=>noL id X) L.fr
   |none=>false) l.length&&
  allB (λid=>Nat.ble 100 id&&freshB id st) L.fr&&
  allLt (λq=>match all[q+l.length+1]? with
   |some o'=>allB (λp=>Nat.blt p (q+l.length+1)) (zM o')&&anyB (λp=>Nat.ble l.length p) (zM o')
   |none=>true) (all.size - l.length)
 |none=>false
def Holds.drop{st':St}(h:Holds C st M ρ a w)(U:st'.n=st.n)(hs: ∀k s,sg st'.sl k=some s->sg st.sl k=some s)(J: ∀i r,tg st'.tab i=some r->tg st.tab i=some r):Holds C st' M ρ a w where
 dfr:=h.dfr
 sz:=by rw[U];exact h.sz
 slots:=λk s e=>h.slots k s (hs k s e)
 zz:=⟨λi r e=>h.zz.res i r (J i r e),λi j ri rj b e1 e2=>h.zz.dis i j ri rj b (J i ri e1) (J j rj e2),λi r b e=>h.zz.own i r b (J i r e)⟩
 ownf:=λi r b e=>h.ownf i r b (J i r e)
 run:=h.run
 keep:=h.keep
theorem zre(hc:xX all ms st l=true)(hp:checkP all ms st l L kp.ids=true)(ho:all[l.length]?=some o)(hL:zpW P all o L.rs L.rt L.fr pv L.wt)
 (hS:okS L.rs (apps st l)) (hT:okT L.rt (apps st l)) (hK:okT kp (apps st l)) (hC:C.low) (hD:Down all D) (hpr: ∀p∈zM o,D p=true)
 (hH:Holds C (apps st (sel D l)) M ρ a w) 
 (hQ: ∀a w M ρ,Holds C ⟨st.n,[],L.wt++tb kp⟩ M ρ a w->Q (.panic (chn pv)) a w):if Region.wanted o (yielded all a.tmps)then o.wp P a w K Q else K (a.put o.dst undef) w:=by
 unfold checkP at hp;rw[ho]at hp;simp only[um]at hp;obtain⟨⟨⟨⟨_,h2⟩,h3⟩,h4⟩,_⟩:=hp
 have ran: ∀j,j<l.length->za4 (nth ms l.length) j=true->D j=true:=λj hj hb=>by
  have:=yc h2 j hj;simp only[hb,qo,tw]at this;obtain⟨p,hpm,h⟩:=yu.anyB_pred this;rcases h with rfl|⟨hjp,h⟩
  ·exact hpr p hpm
  ·have hlt:p<l.length:=by
    have:=zy (p:=λp=>Nat.blt p l.length) uf p hpm;simpa [tH]using this
   obtain⟨op,_,hop,_⟩:=yu hc (i:=p) hlt;exact xw hc hD p hlt op hop (hD p op hop (hpr p hpm)) j hjp h
 have two: ∀j X,at? l j=some X->(za4 (nth ms l.length) j=true\/(apart X L=true/\anyB (λi=>hasB i kp.ids) (keysT X.wt)=false))/\ ∀id∈L.fr,noL id X=true:=λj X J=>by
  have:=yc h3 j (xK J);simp only[J,um,uJ,ux]at this;exact⟨this.1,zy this.2⟩
 have full:sel (λj=>decide (j<l.length)) l=l:=zaN (uM _)
 have hS':okS L.rs (apps st (sel D l)):=vP hS λk hk=>by
  have e:sg (apps st (sel D l)).sl k=sg (apps st (sel (λj=>decide (j<l.length)) l)).sl k:=j4 λj X J hw=>by
   rw[uZ (xK J)];rcases(two j X J).1 with h|h
   ·exact ran j (xK J) h
   ·have:=(wN h.1 hw).1;rw[hk]at this;cases this
  rw[full]at e;exact e
 have hT':okT L.rt (apps st (sel D l)):=wO hT λk hk=>by
  have e:tg (apps st (sel D l)).tab k=tg (apps st (sel (λj=>decide (j<l.length)) l)).tab k:=vQ λj X J hw=>by
   rw[uZ (xK J)];rcases(two j X J).1 with h|h
   ·exact ran j (xK J) h
   ·have:=(xL h.1 hw).1;rw[hk]at this;cases this
  rw[full]at e;exact e
 have hK':okT kp (apps st (sel D l)):=wO hK λk hk=>by
  have e:tg (apps st (sel D l)).tab k=tg (apps st (sel (λj=>decide (j<l.length)) l)).tab k:=vQ λj X J hw=>by
   rw[uZ (xK J)];rcases(two j X J).1 with h|h
   ·exact ran j (xK J) h
   ·have:=jh h.2 k hw;rw[hk]at this;cases this
  rw[full]at e;exact e
 have hF':okF C L.fr (apps st (sel D l)):=by
  have one: ∀id∈L.fr,we C id (apps st (sel D l)):=λid U=>by
   have:=zy h4 id U;simp only[um]at this
   refine xx this.2 (by
    cases e:tg C.tab0 id with
    |none=>rfl
    |some r=>have:=hC id r e;have:=uS (by assumption:Nat.ble 100 id=true/\_).1;omega) λX J=>?_
   obtain⟨j,_,hX'⟩:=jH J;exact(two j X hX').2 id U
  have: ∀fr:List Nat,(∀id∈fr,we C id (apps st (sel D l)))->okF C fr (apps st (sel D l)):=λfr=>by
   induction fr with
   |nil=>exact λ_=>trivial
   |cons x xs ih=>exact λh=>⟨h x ue,ih λid U=>h id (u3 _ U)⟩
  exact this _ one
 refine hL C _ M ρ a w hH hS' hT' hF' K Q λM' ρ' w' hH'=>hQ a w' M' ρ' (hH'.drop (by rw[xY]) (λk s e=>by cases e) λi r e=>?_)
 cases hk:hasB i (keysT L.wt)with
 |true=>
  have e:tg (L.wt++tb kp) i=some r:=e;show tg (L.wt++(apps st (sel D l)).tab) i=some r;rw[<-e];exact wg hk
 |false=>
  have e:tg (L.wt++tb kp) i=some r:=e;show tg (L.wt++(apps st (sel D l)).tab) i=some r;rw[yN hk]at e⊢;exact xc hK' (zF e)
def zj3{id:Nat}(hm:P.follows .mixedOrders=true)(hd:wv P all st l)(hc:xX all ms st l=true)(hp:checkP all ms st l L kp.ids=true)(ho:all[l.length]?=some o)(hL:zpW P all o L.rs L.rt L.fr pv L.wt)
 (hS:okS L.rs (apps st l)) (hT:okT L.rt (apps st l)) (hK:okT kp (apps st l)) (hC:C.low)
 (hQ: ∀a w M ρ,Holds C ⟨st.n,[],L.wt++tb kp⟩ M ρ a w->Q (.panic (chn pv)) a w)
 (hH:Holds C st M ρ a w):(Code.region id all true).wp P Q a w:=by
 have hsz:l.length<all.size:=(tA.1 ho).1;have hp0:=hp;unfold checkP at hp0;rw[ho]at hp0;simp only[um]at hp0;obtain⟨⟨⟨⟨h1,_⟩,_⟩,_⟩,h5⟩:=hp0
 have main: ∀(fuel:Nat) (listed:Array Bool) (M:Mem) (ρ:Nat->Value) (a:Act) (w:World),listed.size=all.size->left (λj=>listed.getD j false) all.size=fuel->Down all (λj=>listed.getD j false)->
  (∀k,l.length<=k->listed.getD k false=false)->Holds C (apps st (sel (λj=>listed.getD j false) l)) M ρ a w->wpAny P .any all Q fuel listed a w:=by
  intro fuel
  induction fuel with
  |zero=>
   intro listed M ρ a w hs hl hD hno hH;have:=vR hl l.length hsz;rw[hno l.length (uM _)]at this;cases this
  |succ fuel ih=>
   intro listed M ρ a w hs hl hD hno hH;refine⟨λhr=>?_,λi hi=>?_⟩
   ·exfalso
    have fullj: ∀j,j<=l.length->listed.getD j false=true:=by
     intro j
     induction j using Nat.strongRecOn with
     |_ j ih=>
      intro hj;cases e:listed.getD j false with
      |true=>rfl
      |false=>
       obtain⟨oj,hoj,U⟩: ∃oj,all[j]?=some oj/\ ∀p∈zM oj,p<j:=by
        by_cases h:j=l.length
        ·subst h;exact⟨o,ho,λp hp=>by have:=zy h1 p hp;simpa [tH]using this⟩
        ·obtain⟨oj,_,h1,_,h2,_⟩:=yu hc (i:=j) ua;exact⟨oj,h1,h2⟩
       have:j∈Region.ready .any all listed:=mem_ready.2 ⟨by
        have U:j<listed.size:=by omega
        simp only[Array.getD,U,oJ]at e ⊢; exact e,oj,hoj,λe' he hb=>ih e'.on (U _ (xM he hb)) (by have:=U _ (xM he hb);omega)⟩
       rw[hr]at this;cases this
    have:=fullj l.length (uM _);rw[hno l.length (uM _)]at this;cases this
   ·obtain⟨h1,oi,J,hall⟩:=mem_ready.1 hi;have hx:i<all.size:=(tA.1 J).1;have U:i<listed.size:=by omega
    have hn:listed.getD i false=false:=by simp only[Array.getD,U,oJ]at h1 ⊢; exact h1
    have hput: ∀j,(listed.setIfInBounds i true).getD j false=zfO (λj=>listed.getD j false) i j:=λj=>by
     by_cases e:j=i
     ·subst e;simp[zU,U]
     ·rw[zt e,getD_set_ne false (λh=>e h.symm)]
    have hput':(λj=>(listed.setIfInBounds i true).getD j false)=zfO (λj=>listed.getD j false) i:=funext hput
    have hpr: ∀p∈zM oi,listed.getD p false=true:=λp hp=>by
     obtain⟨e,he,hb,rfl⟩:=zbc hp;exact hall e he hb
    unfold wpOp;simp only[J]
    have key:if Region.wanted oi (yielded all a.tmps)then oi.wp P a w (wpAny P .any all Q fuel (listed.setIfInBounds i true)) Q else wpAny P .any all Q fuel (listed.setIfInBounds i true) (a.put oi.dst undef) w:=by
     rcases Nat.lt_trichotomy i l.length with h|h|h
     ·refine zj2 hd hc hD h J hn hpr hC hH λa' w' M' ρ' hH'=>?_;refine ih _ M' ρ' a' w' (by simpa using hs) ?_ ?_ ?_ ?_
      ·rw[hput'];have:=j5 (D:=λj=>listed.getD j false) hn (n:=all.size);rw[uw hx]at this;omega
      ·rw[hput'];intro k ok hk hDk p hpk;by_cases e:k=i
       ·subst e;rw[J]at hk;simp only[ui]at hk;subst hk;by_cases e2:p=k
        ·subst e2;exact zU _ _
        ·rw[zt e2];exact hpr p hpk
       ·rw[zt e]at hDk;have:=hD k ok hk hDk p hpk;by_cases e2:p=i
        ·subst e2;exact zU _ _
        ·rw[zt e2];exact this
      ·intro k hk;rw[hput,zt ua];exact hno k hk
      ·rw[hput'];exact hH'
     ·subst h;rw[ho]at J;simp only[ui]at J;subst J;exact zre hc hp ho hL hS hT hK hC hD hpr hH hQ
     ·exfalso;have:=yc h5 (i - l.length - 1) ua;rw[show i - l.length - 1+l.length+1=i by omega,J]at this;simp only[um]at this
      have any: ∀ {ps:List Nat},anyB (λp=>Nat.ble l.length p) ps=true-> ∃p∈ps,l.length<=p:=by
       intro ps
       induction ps with
       |nil=>intro h;cases h
       |cons y ys ih=>
        intro h;simp only[anyB,uJ]at h;rcases h with h|h
        ·exact⟨y,ue,uS h⟩
        ·obtain⟨p,h1,h2⟩:=ih h;exact⟨p,u3 _ h1,h2⟩
      obtain⟨p,hpm,hge⟩:=any this.2;have:=hpr p hpm;rw[hno p hge]at this;cases this
    split
    ·rename_i hw;rw[uw hw]at key;exact .inl key
    ·rename_i hw;rw[ur hw]at key;exact key
 have h0: ∀j,(Array.replicate all.size false).getD j false=false:=λj=>by
  by_cases h:j<all.size
  ·simp[h]
  ·simp[h]
 have h0':(λj=>(Array.replicate all.size false).getD j false)=λ_=>false:=funext h0
 refine wp_region_any hm (main _ _ M ρ a _ ue ?_ ?_ (λk _=>h0 k) ?_)
 ·rw[h0']
  have: ∀n,left (λ_=>false) n=n:=λn=>by
   induction n with
   |zero=>rfl
   |succ n ih=>simp only[left,ih];omega
  exact this _
 ·rw[h0'];intro i o _ h;cases h
 ·rw[h0',ji λ_ _=>rfl];exact hH.grow (λ_ _=>rfl) (uM _) rfl rfl rfl
end
variable {done:List Law}{sl0:zb}{tab0:Tab}
section
variable {k:List Frm} {n:Nat} {sl:zb} {Q:Exit->St->Prop} {rest:List Oper}
def pick(tab:Tab):List Nat->RL
 | []=>[]
 |i::l=>match tg tab i with
  |some r=>(i,r)::pick tab l
  |none=>pick tab l
theorem zdg{n:Nat}{sl:zb}{tab:Tab}: ∀ {l:List Nat},okT (pick tab l) ⟨n,sl,tab⟩
 | []=>trivial
 |i::l=>by
  simp only[pick];split
  ·rename_i r h;exact⟨h,zdg⟩
  ·exact zdg
def zwD(T:Ty P){fr:List Nat}(hC:C.low)(ks:List Nat)(hL:zpW P all o rs rt fr pv wt)(hS:okS rs ⟨n,sl,tab⟩)(hT:okT rt ⟨n,sl,tab⟩)
 (hc:xX all (xy all.toList []) ⟨n,sl0,tab0⟩ done=true) (hp:checkP all (xy all.toList []) ⟨n,sl0,tab0⟩ done ⟨none,rs,rt,fr,.un,wt⟩ (pick tab ks).ids=true)
 (g:Goal P C (.fin (.panic (chn pv))) k n [] (wt++tb (pick tab ks)) Q):Goal P C (.ops all (o::rest) (some (sl0,tab0,done))) k n sl tab Q:=by
 intro hD hs U hr M ρ a w id J
 have ho:all[done.length]?=some o:=by
  have:(all.toList.drop done.length)[0]?=some o:=by rw[hr];rfl
  rw[tc]at this;simpa using this
 refine zj3 (L:=⟨none,rs,rt,fr,.un,wt⟩) (kp:=pick tab ks) T.mix hD hc hp ho hL (vP hS λk _=>(hs k).symm) (wO hT λi _=>(U i).symm) (wO (zdg (n:=n) (sl:=sl)) λi _=>(U i).symm) hC (λa w M ρ J=>g M ρ a w J) J
def znT(T:Ty P){l:List Operand}{ty:TypeId}{g0:Option (Nat×Bool)}(hC:C.low){ss:List S}{first caps:List V}{R R':RL}
 (h:yH P f args R pv R') (σ:Nat->Nat) (ks:List Nat) (hx:ev sl x=some (.one (.cl f first caps))) (hl:evs sl l=some ss) (ha:yG (ones first++ss++ones caps) (Ss.ren σ args)) (hi:injB σ R.ids=true) (J:injB σ R'.ids=true)
 (U:yM (R.ids++R'.ids) R'=true) (hT:rdT tab (R.ren σ)=R.ren σ) (hm:metL all sl g0=some gs)
 (hc:xX all (xy all.toList []) ⟨n,sl0,tab0⟩ done=true) (hp:checkP all (xy all.toList []) ⟨n,sl0,tab0⟩ done ⟨none,gs++(rq x (.one (.cl f first caps))++rqs l ss),R.ren σ,(zC R R').map σ,.un,tb (R'.ren σ)++yF (R.ids.map σ)⟩ (pick tab ks).ids=true)
 (g:Goal P C (.fin (.panic (chn pv))) k n [] ((tb (R'.ren σ)++yF (R.ids.map σ))++tb (pick tab ks)) Q):
 Goal P C (.ops all (⟨d,.call ⟨.value x,l.toArray,ts⟩,ty,ps,af,g0⟩::rest) (some (sl0,tab0,done))) k n sl tab Q:=by
 have e1:=xV (st:=⟨n,sl,tab⟩) hx;have e2:=w7 (st:=⟨n,sl,tab⟩) hl;have:=zde hm (zfT (ty:=ty) (ps:=ps) (af:=af) (g:=g0) (d:=d) (ts:=ts) h σ e1.1 e2.1 ha hi J U) (n:=n) (tab:=tab);exact zwD T hC ks this.1 (by rw[ze,ze];simp_all) (wM hT) hc hp g
theorem zbw{P:Program}{C:Ctx}{Q:Exit->St->Prop}{ch:List PanicEntry}{st:St}: ∀ {k:List Frm},Q (.panic ch) st->unw P C k Q (.panic ch) st
 | [],h=>h
 | .seq _::k,h=>zbw (k:=k) h
 | .blk _::k,h=>zbw (k:=k) h
end
def ztU(pv:Value)(R R':RL):Exit->St->Prop:=λe st=>e= .panic (chn pv)/\ ∃σ:Nat->Nat,mR σ st.tab R'/\injB σ R'.ids=true/\allB (λi=>Nat.beq (σ i) i) R.ids=true
def ztV(_T:Ty P){fn:Func}{c:Code}{R R':RL}(hf:P.funcs[f]?=some fn)
 (hname:(fn.name== "runtime.NumGoroutine")=false) (U:fn.body=some c) (hlow:allB (λi=>Nat.blt i 100) R.ids=true)
 (hn:Nat.ble args.length fn.ntmps=true) (body: ∀C:Ctx,C.low->Goal P C (.code c) [] fn.ntmps (enum 0 args) (tb R) (ztU pv R R')):yH P f args R pv R':=by
 refine⟨⟨fn,hf,hname,by rw[U];rfl⟩,λM ρ w xs hx hT hI hG=>?_⟩;have hlen:=hx.length;have hnn:args.length<=fn.ntmps:=uS hn
 have hgf: ∀p∈G2,¬zaO (tb R) ρ p.1:=λp hp ⟨id,r,h1,h2⟩=>by
  obtain⟨v,hv⟩:=zj4 p hp;have:=hG.le _ _ _ hv;rw[hT.own id r p.1 h1 h2 0]at this;cases this
 let C:Ctx:=⟨w,M,ρ,tb R,hG,hgf,[]⟩
 have hC:C.low:=λi r h=>by
  have:=zy hlow i (zH (zF h));simpa [tH]using this
 have hH:Holds C ⟨fn.ntmps,enum 0 args,tb R⟩ M ρ { tmps:=xs.toArray++Array.replicate (fn.ntmps - xs.toArray.size) undef,defers:=[] } w:=by
  refine⟨rfl,ug,λk s hk=>?_,hT,λid r b h1 h2 h3=>h3.2 ⟨id,r,h1,h2⟩,⟨hI,λ_ _=>rfl,uM _,MLe.refl _,λ_ _ _ h=> .inl h,rfl,rfl,rfl⟩,λ_ _ _=>rfl⟩;have:=(jj (n:=fn.ntmps - xs.toArray.size) hx hk).2;simpa using this
 refine calls_of_wp hf U (wp_mono (body C hC M ρ _ w hH) λe a w' ⟨st,M',ρ',hq,J⟩=>?_);simp only[unw]at hq;obtain⟨he,σ,h3,h4,h5⟩:=hq
 have frb: ∀b,¬C.fr b->w.heap.size<=b\/zaO (tb R) ρ b:=λb U=>by
  rcases tu b w.heap.size with h|h
  ·exact .inr (tU λhn=>U ⟨h,hn⟩)
  ·exact .inl h
 have tk: ∀i r,tg (tb R') i=some r->tg st.tab (σ i)=some (r.ren σ):=λi r h=>zcC h3 (zF h)
 have ti: ∀i r,tg (tb R') i=some r->i∈R'.ids:=λi r h=>zH (zF h)
 subst he;refine⟨J.dfr,M',λi=>ρ' (σ i),rfl,?_⟩
 refine⟨by simp only[RepS],⟨λi r hr=>(J.zz.res _ _ (tk i r hr)).ren,?_,?_⟩,J.run.imm,J.run.base,λb o u hu=>(J.run.newM b o u hu).imp id (frb b),?_,λb U hn=>J.run.fram b ⟨U,hn⟩,
  J.run.size,J.run.os,J.run.tape,J.run.output,?_⟩
 ·intro i j ri rj b e1 e2 hne hb1 hb2;exact J.zz.dis _ _ _ _ b (tk i ri e1) (tk j rj e2) (yt h4 i j (ti i ri e1) (ti j rj e2) hne) hb1 hb2
 ·intro i r b e1 U;exact J.zz.own _ _ b (tk i r e1) U
 ·rintro b ⟨i,r,e1,U⟩;exact frb b (J.ownf _ _ b (tk i r e1) U)
 ·intro id hid;have e:=uA (zy h5 id hid);rw[e];obtain⟨r,hr⟩:=vS hid;exact J.keep id r hr
inductive End where
 |ok (res:S) (R':RL)
 |pn (pv:Value) (R':RL)
 |no
def FnX(P:Program)(f:FuncId)(args:List S)(R:RL):End->Prop
 | .ok res R'=>zh P f args R res R'
 | .pn pv R'=>yH P f args R pv R'
 | .no=>True
end Hw
