import Derived.Lib.LaidTab
import Derived.Lib.Fields
import Derived.WalkKit
import Derived.Calls
import Derived.Orders
import Derived.Below
import Derived.Laws.AppendOwn
import Derived.Laws.MakeOwn
import Derived.Laws.OwnMore
import Derived.Lib.FrozenHead
set_option linter.unusedVariables false
set_option linter.unusedSimpArgs false
set_option linter.unusedSectionVars false
set_option linter.unnecessarySimpa false
set_option linter.defProp false
namespace Hw
open Go
def ua{P:Prop}(h:P:=by omega):P:=h
def ub{P:Prop}(h:P:=by decide):P:=h
def ud{P:Prop}(h:P:=by kernel_rfl):P:=h
def ue{P:Prop}(h:P:=by simp):P:=h
def uf{P:Prop}(h:P:=by assumption):P:=h
def ug{P:Prop}(h:P:=by simp;omega):P:=h
def uh:True:=trivial
def ui:=@Option.some.injEq
def uj:=@List.length_map
def uk:=@of_decide_eq_true
def um:=@Bool.and_eq_true
def uo:=@of_decide_eq_false
def uq:=@decide_eq_true_eq
def ur:=@if_neg
def uu:=@decide_eq_false_iff_not
def uv:=@List.mem_of_getElem?
def uw:=@if_pos
def ux:=@Bool.not_eq_true'
def uy:=@List.getElem?_eq_some_iff
def uz:=@Prod.mk.injEq
def uA:=@Nat.eq_of_beq_eq_true
def uB:=@Bool.false_eq_true
def uC:=@List.drop_eq_nil_of_le
def uD:=@Nat.zero_le
def uE:=@Bool.not_eq_false'
def uF:=@List.mem_cons
def uG:=@Option.map_some
def uH:=@List.map_cons
def uI:=@decide_eq_false
def uJ:=@Bool.or_eq_true
def uK:=@List.cons_append
def uL:=@Int.natCast_nonneg
def uM:=@Nat.le_refl
def uN:=@if_false
def uO:=@List.getElem?_map
def uP:=@List.length_singleton
def uQ:=@List.length_append
def uR:=@Option.map_eq_some_iff
def uS:=@Nat.le_of_ble_eq_true
def uT:=@Bool.or_eq_false_iff
def uU:=@Option.some.inj
def uV:=@List.append_nil
def uW:=@if_true
def uX:=@List.length_cons
def uY:=@List.length_eq_zero_iff
def uZ:=@decide_eq_true
def u0:=@List.take_of_length_le
def u3:=@List.mem_cons_of_mem
def u5:=@List.map_append
def u6:=@List.getElem?_cons_succ
def u7:=@congrArg
def u9:=@List.length_take
def tc:=@List.getElem?_drop
def td:=@List.length_zip
def th:=@List.getElem?_eq_getElem
def tj:=@Int.toNat_natCast
def tl:=@List.getElem?_toArray
def tn:=@Bool.true_and
def tp:=@List.mem_append
def tq:=@List.getElem?_zip_eq_some
def tr:=@List.eq_nil_of_length_eq_zero
def tu:=@Nat.lt_or_ge
def tv:=@List.mem_singleton
def tw:=@Bool.false_or
def tz:=@Nat.mul_le_mul_right
def tA:=@Array.getElem?_eq_some_iff
def tB:=@Option.bind_eq_some_iff
def tC:=@List.drop_drop
def tD:=@List.length_drop
def tE:=@List.append_assoc
def tG:=@Nat.le_trans
def tH:=@Nat.blt_eq
def tI:=@List.map_nil
def tJ:=@Nat.zero_add
def tK:=@List.getElem?_of_mem
def tL:=@List.findIdx?_eq_some_iff_getElem
def tM:=@List.nil_append
def tN:=@List.length_nil
def tO:=@List.mem_map
def tP:=@Bool.false_and
def tQ:=@List.all_cons
def tR:=@List.flatten_cons
def tS:=@Nat.add_mul
def tT:=@Array.getElem?_eq_getElem
def tU:=@Classical.byContradiction
def tV:=@List.getElem?_append_left
def tW:=@List.take_succ_cons
def tX:=@List.mem_iff_getElem?
def tY:=@List.getElem?_eq_none
def tZ:=@List.length_replicate
def qa:=@Bool.and_eq_false_iff
def qc:=@Option.map_none
def qd:=@List.mem_of_mem_take
def qe:=@Nat.add_zero
def qf:=@Option.bind_some
def qg:=@List.size_toArray
def qh:=@Array.length_toList
def qi:=@List.flatten_append
def qj:=@Bool.and_true
def qk:=@List.drop_eq_getElem_cons
def ql:=@List.take_append_drop
def qm:=@List.nodup_cons
def qn:=@and_true
def qo:=@Bool.not_true
def qp:=@List.any_cons
def qt:=@List.getElem?_append_right
def qu:=@Array.getElem?_toList
def qv:=@List.getElem?_take
def qw:=@List.sizeOf_lt_of_mem
def qx:=@Bool.true_eq_false
def qy:=@List.length_zipIdx
def qz:=@Int.le_refl
def qA:=@Bool.not_false
def qB:=@List.mem_of_find?_eq_some
def qC:=@List.cons.injEq
def qD:=@Bool.not_eq_false
def qE:=@decide_false
def qF:=@Nat.add_assoc
def qG:=@List.map_take
def qH:=@List.takeWhile_cons
def qI:=@List.drop_length
def qJ:=@Nat.lt_of_lt_of_le
def qK:=@Nat.eq_zero_or_pos
def qL:=@Array.getD_eq_getD_getElem?
def qM:=@List.map_map
def qN:=@List.mem_filter
def qO:=@Bool.or_true
def qP:=@List.singleton_append
def qQ:=@Bool.true_or
def qR:=@List.length_set
def qS:=@List.find?_cons
def qT:=@Classical.not_not
def qU:=@Array.size_append
def qV:=@List.take_add_one
def qW:=@List.find?_append
def qX:=@List.getElem?_set
def qY:=@Int.not_le
def qZ:=@Bool.and_false
def q7:=@List.findIdx?_eq_none_iff
def q8:=@List.filter_cons
def q9:=@decide_eq_decide
def oa:=@List.replicate_succ
def oc:=@Bool.eq_iff_iff
def od:=@Bool.or_false
def oe:=@List.getElem?_replicate
def og:=@List.filter_append
def oh:=@Int.eq_ofNat_of_zero_le
def oo:=@UInt8.toNat_inj
def oq:=@Array.getElem?_eq_none
def ot:=@List.find?_isSome
def ou:=@decide_true
def ow:=@List.drop_zero
def oy:=@Int.natAbs_mul
def oz:=@Nat.add_comm
def oA:=@Bool.not_eq_eq_eq_not
def oB:=@List.length_filter_le
def oC:=@Option.getD_none
def oD:=@List.flatten_nil
def oE:=@Bool.not_eq_true
def oG:=@Array.toArray_toList
def oH:=@List.getElem?_zipIdx
def oI:=@false_or
def oJ:=@dif_pos
def oK:=@Int.natCast_mul
def oL:=@Nat.div_le_self
def oM:=@Nat.log2_lt
def oN:=@List.map_eq_nil_iff
def oO:=@Nat.not_lt_zero
def oP:=@Array.toList_setIfInBounds
def oQ:=@decide_eq_true_iff
def oR:=@Array.foldl_toList
def oS:=@List.map_replicate
def oT:=@or_false
def oU:=@Array.mapM_eq_mapM_toList
def oV:=@List.extract_eq_take_drop
def oW:=@not_or
def oX:=@cond_false
def oY:=@Nat.lt_succ_iff_lt_or_eq
def oZ:=@List.zip_map'
def Ua:=@Nat.lt_irrefl
def Ub:=@List.prefix_iff_eq_take
def Uc:=@Go.ByteArray.toList_eq
def Ud:=@List.drop_of_length_le
def Ue:=@Nat.sub_self
def Uf:=@Array.getElem?_append
def Ug:=@List.modify_zero_cons
def Uh:=@List.modify_succ_cons
def Ui:=@Array.mem_iff_getElem
def Uj:=@Int.natAbs_tdiv
def Uk:=@Int.natAbs_tmod
def Ul:=@List.map_set
def Um:=@Int.mul_comm
def Un:=@cond_true
def Uo:=@List.any_append
def Up:=@Nat.min_eq_left
def Uq:=@true_and
def Ur:=@Prod.ext
def Us:=@Array.mem_toList_iff
def Ut:=@List.getElem?_modify
def Uu:=@List.getElem?_set_ne
def Uv:=@Array.toList_extract
def Uw:=@List.getElem?_append
def Ux:=@Nat.pow_le_pow_right
def Uy:=@List.mapM_cons
def Uz:=@Int.ofNat_tdiv
def UA:=@Nat.one_mul
def UB:=@true_or
def UC:=@Bool.or_self
def UD:=@Nat.zero_mul
def UE:=@Bool.not_and
def UF:=@Bool.not_not
def UG:=@Nat.pow_succ
def UH:=@or_true
abbrev UI:=ByteArray
end Hw
namespace Hw
open Go
def G0(b o:Nat):Option Value:=match Nat.beq b 0 with
 |true=>if o<256 then some (.int .u8 (if Lib.isSp (UInt8.ofNat o)then 1 else 0))else none
 |false=>match Nat.beq b 5 with
  |true=>if o<20 then some (.int .u64 ((10 ^ o:Nat):Int))else none
  |false=>none
def G1:List Nat:=[]
def G3:List Nat:=[3,4]
def G2:List (Nat×Array Value):=[(5,(((List.range 20).map λo=>((10 ^ o:Nat):Int)).map λz=>Value.int .u64 z).toArray)]
def zj4: ∀p∈G2,∃v,G0 p.1 0=some v:=by
 simp[G2,G0]
abbrev Mem:=Nat->Nat->Option Value
inductive PV where
 |k (v:Value)
 |sl (e:Nat) (rows:List (List PV))
 |pr (row:List PV)
inductive V where
 |p (x:PV)
 |pi (row:List PV) (j:Nat)
 |bx (id j:Nat)
 |ar (id:Nat)
 |el (id k:Nat)
 |mp (id:Nat)
 |bs (id k n:Nat)
 |nv (id i:Nat)
 |np (id i k:Nat)
 |sv (id k n:Nat)
 |cl (f:FuncId) (first caps:List V)
inductive PC where
 |p (x:PV)
 |n (k j:Nat)
 |a (k:Nat)
def toV(ids:List Nat):PC->V
 | .p x=> .p x
 | .n k j=>match ids[k]? with
   |some i=> .nv i j
   |none=> .p (.k (.bool false))
 | .a k=>match ids[k]? with
   |some i=> .ar i
   |none=> .p (.k (.bool false))
inductive S where
 |one (v:V)
 |agg (vs:List V)
 |tup (ss:List S)
 |gd (b:Bool) (s:S)
 |bq (b:Bool)
 |un
inductive EV where
 |o (x:PV)
 |g (row:List PV)
inductive Res where
 |box (vs:List V)
 |arr (e:Nat) (rows:List (List PV))
 |map (es:List (PV×PV))
 |arv (e:Nat) (rows:List (List PV)) (x:List (Nat×V))
 |bag (e:Nat) (L:List (List (List PV)))
 |ifc
 |bld (T e:TypeId) (b:Nat) (s:ByteArray)
 |vw (ids:List Nat) (e:Nat) (rows:List (List PC))
 |itr (l:List (PV×PV)) (cur:Option (PV×PV))
 |mpg (es:List (Value×EV))
 |raw (r:Nat) (o:Obj)
 |arc (e:Nat) (rows:List (List PV)) (a:Option Addr) (cap:Nat)
abbrev Tab:=List (Nat×Option Res)
abbrev zb:=List (Nat×S)
structure St where
 n:Nat
 sl:zb
 tab:Tab
def sg:zb->Nat->Option S
 | [],_=>none
 |(k,s)::r,j=>match Nat.beq k j with
  |true=>some s
  |false=>sg r j
def tg:Tab->Nat->Option Res
 | [],_=>none
 |(k,s)::r,j=>match Nat.beq k j with
  |true=>s
  |false=>tg r j
def vq(k:Nat):Nat.beq k k=true:=Nat.beq_refl k
variable {j:Nat}
def xr{k:Nat}(h:k≠j):Nat.beq k j=false:=by
 cases hb:Nat.beq k j
 ·rfl
 simp_all
def zaM(k:Nat)(s:S)(r:zb):sg ((k,s)::r) k=some s:=by simp[sg]
def zbq{k:Nat}(h:k≠j)(s:S)(r:zb):sg ((k,s)::r) j=sg r j:=by simp[sg,xr h]
def zax(k:Nat)(s:Option Res)(r:Tab):tg ((k,s)::r) k=s:=by simp[tg]
def ziE{k:Nat}(h:k≠j)(s:Option Res)(r:Tab):tg ((k,s)::r) j=tg r j:=by simp[tg,xr h]
def yk(k j:Nat)(s:S)(r:zb):sg ((k,s)::r) j=if k=j then some s else sg r j:=by
 by_cases h:k=j
 ·subst h;simp[zaM]
 ·simp[zbq h,h]
def zm(k j:Nat)(s:Option Res)(r:Tab):tg ((k,s)::r) j=if k=j then s else tg r j:=by
 by_cases h:k=j
 ·subst h;simp[zax]
 ·simp[ziE h,h]
mutual
def RepPV(M:Mem):PV->Value->Prop
 | .k x,v=>v=x/\x.oneCell'=true
 | .sl e rows,v=> ∃(a:Option Addr) (cap:Nat),v= .slice a rows.length cap/\rows.length<=cap/\rows.length<=9223372036854775807/\
    (rows=[]\/ ∃b o,a=some ⟨b,o,none⟩/\RowsIn M (M b) e rows o)
 | .pr row,v=> ∃b o,v= .pointer (some ⟨b,o,none⟩)/\RowIn M (M b) row o
def RowsIn(M:Mem)(g:Nat->Option Value)(e:Nat):List (List PV)->Nat->Prop
 | [],_=>True
 |r::rs,o=>r.length=e/\RowIn M g r o/\RowsIn M g e rs (o+e)
def RowIn(M:Mem)(g:Nat->Option Value):List PV->Nat->Prop
 | [],_=>True
 |x::xs,o=>(∃c,g o=some c/\RepPV M x c)/\RowIn M g xs (o+1)
end
mutual
def RepV(M:Mem)(ρ:Nat->Value):V->Value->Prop
 | .p x,v=>RepPV M x v
 | .pi row j,v=> ∃b o,v= .pointer (some ⟨b,o+j,none⟩)/\RowIn M (M b) row o
 | .bx id j,v=> ∃b,ρ id= .pointer (some ⟨b,0,none⟩)/\v= .pointer (some ⟨b,j,none⟩)
 | .ar id,v=>v=ρ id/\v.oneCell'=true
 | .el id k,v=> ∃b o n cap,ρ id= .slice (some ⟨b,o,none⟩) n cap/\v= .pointer (some ⟨b,o+k,none⟩)
 | .mp id,v=>v=ρ id/\v.oneCell'=true
 | .bs id k n,v=> ∃b c,ρ id= .pointer (some ⟨b,0,none⟩)/\v= .slice (some ⟨b,k,none⟩) n c/\n<=c
 | .nv id i,v=> ∃xs:List Value,ρ id= .tuple xs.toArray/\xs[i]?=some v/\v.oneCell'=true
 | .np id i k,v=> ∃(xs:List Value) (b o n c:Nat),ρ id= .tuple xs.toArray/\xs[i]?=some (.slice (some ⟨b,o,none⟩) n c)/\v= .pointer (some ⟨b,o+k,none⟩)
 | .sv id k n,v=>(n=0/\ ∃(a:Option Addr) (c:Nat),v= .slice a 0 c)\/ ∃(b o N cap c:Nat),ρ id= .slice (some ⟨b,o,none⟩) N cap/\v= .slice (some ⟨b,o+k,none⟩) n c/\n<=c/\c<=9223372036854775807
 | .cl f first caps,v=> ∃xs ys:List Value,v= .func (.func f) xs.toArray ys.toArray/\RepVs M ρ first xs/\RepVs M ρ caps ys
def RepVs(M:Mem)(ρ:Nat->Value):List V->List Value->Prop
 | [],[]=>True
 |v::vs,x::xs=>RepV M ρ v x/\RepVs M ρ vs xs
 |_,_=>False
end
mutual
def RepS(M:Mem)(ρ:Nat->Value):S->Value->Prop
 | .one v,x=>RepV M ρ v x
 | .agg vs,x=> ∃cs:List Value,x= .agg cs.toArray/\RepVs M ρ vs cs
 | .tup ss,x=> ∃xs:List Value,x= .tuple xs.toArray/\RepSs M ρ ss xs
 | .gd b s,x=>(b=true->RepS M ρ s x)/\(b=false->x=undef)
 | .bq b,x=>x= .bool b
 | .un,_=>True
def RepSs(M:Mem)(ρ:Nat->Value):List S->List Value->Prop
 | [],[]=>True
 |v::vs,x::xs=>RepS M ρ v x/\RepSs M ρ vs xs
 |_,_=>False
end
def blk:Value->Option Nat
 | .pointer (some a)=>some a.block
 | .slice (some a) _ _=>some a.block
 | .map (some r)=>some r
 |_=>none
def Bk:Value->Nat->Prop
 | .tuple xs,b=> ∃x∈xs.toList,blk x=some b
 |v,b=>blk v=some b
def zas(fz:Nat×Nat)(n:Nat):Prop:= ∀i,i<n->(decide (fz.1<=i)&&decide (i<fz.2))=false
def EntsOf(M:Mem):List (PV×PV)->List MapEntry->Prop
 | [],[]=>True
 |(x,y)::r,m::ms=>RepPV M x m.key/\RepPV M y m.val/\EntsOf M r ms
 |_,_=>False
def RepPVl(M:Mem):List PV->List Value->Prop
 | [],[]=>True
 |x::xs,v::vs=>RepPV M x v/\RepPVl M xs vs
 |_,_=>False
def RepEV(M:Mem):EV->Value->Prop
 | .o x,v=>RepPV M x v
 | .g row,v=> ∃cs:List Value,v= .agg cs.toArray/\RepPVl M row cs
def EntsG(M:Mem):List (Value×EV)->List MapEntry->Prop
 | [],[]=>True
 |(x,y)::r,m::ms=>m.key=x/\RepEV M y m.val/\EntsG M r ms
 |_,_=>False
def xg:List (Nat×V)->Nat->Option V
 | [],_=>none
 |(k,v)::r,j=>if k=j then some v else xg r j
def xv(x:List (Nat×V))(j:Nat)(p:PV):V:=match xg x j with|some v=>v|none=> .p p
theorem zq1: ∀ {x:List (Nat×V)} {j:Nat} {v:V},xg x j=some v->v∈x.map (·.2)
 | [],_,_,h=>by cases h
 |(k,u)::r,j,v,h=>by
  simp only[xg]at h;split at h
  ·simp_all
  ·exact u3 _ (zq1 h)
def vN(M:Mem)(w:World)(v:Value)(e:Nat)(rows:List (List PV)):Prop:= ∃(a:Option Addr) (cap:Nat),v= .slice a rows.length cap/\rows.length<=cap/\cap<=9223372036854775807/\
 ((a=none/\cap=0)\/ ∃(b o:Nat) (cs:Array Value) (el:TypeId) (fz:Nat×Nat),a=some ⟨b,o,none⟩/\w.heap[b]?=some (.cells cs el fz)/\
   zas fz cs.size/\o+cap*e<=cs.size/\RowsIn M (λi=>cs[i]?) e rows o)
def zcs(xs:List Value):Prop:= ∀(i j b:Nat) (x y:Value),xs[i]?=some x->xs[j]?=some y->i≠j->blk x=some b->blk y=some b->False
def zvZ(M:Mem)(ms:Array MapEntry)(clock since c0:Nat)(seen:Array Nat)(l:List (PV×PV))(cur:Option (PV×PV)):Prop:=
 (∀m∈ms.toList,m.born<since)/\(since<=c0/\since<=clock)/\(ms.toList.map (·.born)).Nodup/\EntsOf M l (ms.toList.filter λe=> !seen.contains e.born)/\
   ∀p,cur=some p->c0=clock/\ ∃(e:MapEntry) (s:Array Nat),e∈ms.toList/\seen=s.push e.born/\RepPV M p.1 e.key/\RepPV M p.2 e.val
def zA(M:Mem)(ρ:Nat->Value)(w:World)(id:Nat):Res->Prop
 | .box vs=> ∃(b:Nat) (cs:List Value) (el:TypeId),ρ id= .pointer (some ⟨b,0,none⟩)/\w.heap[b]?=some (.cells cs.toArray el (0,0))/\RepVs M ρ vs cs
 | .arr e rows=> ∃(a:Option Addr) (cap:Nat),ρ id= .slice a rows.length cap/\rows.length<=cap/\cap<=9223372036854775807/\
    ((a=none/\cap=0)\/ ∃(b o:Nat) (cs:Array Value) (el:TypeId) (fz:Nat×Nat),a=some ⟨b,o,none⟩/\w.heap[b]?=some (.cells cs el fz)/\
      zas fz cs.size/\o+cap*e<=cs.size/\RowsIn M (λi=>cs[i]?) e rows o)
 | .map es=> ∃(r:Nat) (ms:Array MapEntry) (clock:Nat),ρ id= .map (some r)/\w.heap[r]?=some (.map ms clock)/\EntsOf M es ms.toList/\(∀m∈ms,m.born<clock)/\(ms.toList.map (·.born)).Nodup
 | .arv e rows x=> ∃(a:Option Addr) (cap:Nat),ρ id= .slice a rows.length cap/\rows.length<=cap/\cap<=9223372036854775807/\(∀r∈rows,r.length=e)/\
    ((a=none/\cap=0)\/ ∃(b o:Nat) (cs:Array Value) (el:TypeId) (fz:Nat×Nat),a=some ⟨b,o,none⟩/\w.heap[b]?=some (.cells cs el fz)/\
      zas fz cs.size/\o+cap*e<=cs.size/\ ∀j p,rows.flatten[j]?=some p-> ∃c,cs[o+j]?=some c/\RepV M ρ (xv x j p) c)
 | .bag e L=> ∃cs:List Value,ρ id= .tuple cs.toArray/\cs.length=L.length/\(∀(j:Nat) rs,L[j]?=some rs-> ∃c,cs[j]?=some c/\vN M w c e rs)/\zcs cs
 | .ifc=> ∃t v,ρ id= .iface t v
 | .bld T e b s=> ∃(p v:Value),ρ id= .tuple [Value.pointer (some ⟨b,0,none⟩),v].toArray/\(p= .pointer none\/p= .pointer (some ⟨b,0,none⟩))/\
    w.heap[b]?=some (.cells #[p,v] T (0,0))/\w.ownsRowF 0 e 1 v (Lib.strCells s).length (Lib.strCells s)/\v.ownBlock≠some b/\(s.size=0->v= .slice none 0 0)
 | .vw ids e rows=> ∃(a:Option Addr) (cap:Nat),ρ id= .slice a rows.length cap/\rows.length<=cap/\cap<=9223372036854775807/\(∀r∈rows,r.length=e)/\
    ((a=none/\cap=0)\/ ∃(b o:Nat) (cs:Array Value) (el:TypeId) (fz:Nat×Nat),a=some ⟨b,o,none⟩/\w.heap[b]?=some (.cells cs el fz)/\
      zas fz cs.size/\o+cap*e<=cs.size/\ ∀j x,rows.flatten[j]?=some x-> ∃c,cs[o+j]?=some c/\RepV M ρ (toV ids x) c)
 | .itr l cur=> ∃(r q:Nat) (ms:Array MapEntry) (clock since c0:Nat) (seen:Array Nat),ρ id= .tuple [Value.map (some r),Value.pointer (some ⟨q,0,none⟩)].toArray/\r≠q/\w.heap[r]?=some (.map ms clock)/\
    w.heap[q]?=some (.mapIter (some r) since seen c0)/\zvZ M ms clock since c0 seen l cur
 | .mpg es=> ∃(r:Nat) (ms:Array MapEntry) (clock:Nat),ρ id= .map (some r)/\w.heap[r]?=some (.map ms clock)/\EntsG M es ms.toList/\(∀m∈ms,m.born<clock)/\(ms.toList.map (·.born)).Nodup/\(es.map (·.1)).Nodup
 | .raw r o=>ρ id= .map (some r)/\w.heap[r]?=some o
 | .arc e rows a cap=>ρ id= .slice a rows.length cap/\vN M w (ρ id) e rows
structure xJ (M:Mem) (ρ:Nat->Value) (w:World) (tab:Tab):Prop where
 res: ∀id r,tg tab id=some r->zA M ρ w id r
 dis: ∀i j ri rj b,tg tab i=some ri->tg tab j=some rj->i≠j->Bk (ρ i) b->Bk (ρ j) b->False
 own: ∀id r b,tg tab id=some r->Bk (ρ id) b-> ∀o,M b o=none
def Imm(M:Mem)(w:World):Prop:= ∀b o v,M b o=some v->w.cell? ⟨b,o,none⟩=some v
def MLe(M M':Mem):Prop:= ∀b o v,M b o=some v->M' b o=some v
structure GOk (M:Mem) (w:World):Prop where
 le:MLe G0 M
 op: ∀b∈G1,∃m:Int,M b 0=some (.int .i64 m)
 er: ∀b∈G3,∃t v,M b 0=some (.iface t v)
 gb: ∀p∈G2,∃el fz,w.heap[p.1]?=some (.cells p.2 el fz)
def zaO(tab:Tab)(ρ:Nat->Value)(b:Nat):Prop:= ∃id r,tg tab id=some r/\Bk (ρ id) b
structure Ctx where
 w0:World
 M0:Mem
 ρ0:Nat->Value
 tab0:Tab
 gl:GOk M0 w0
 gf: ∀p∈G2,¬zaO tab0 ρ0 p.1
 df:List Deferred
def Ctx.fr(C:Ctx)(b:Nat):Prop:=b<C.w0.heap.size/\ ¬zaO C.tab0 C.ρ0 b
structure Run (C:Ctx) (M:Mem) (w:World):Prop where
 imm:Imm M w
 fram: ∀b,C.fr b->w.heap[b]?=C.w0.heap[b]?
 size:C.w0.heap.size<=w.heap.size
 base:MLe C.M0 M
 newM: ∀b o v,M b o=some v->C.M0 b o=some v\/ ¬C.fr b
 os:w.os=C.w0.os
 tape:w.tape=C.w0.tape
 output:w.output=C.w0.output
structure Holds (C:Ctx) (st:St) (M:Mem) (ρ:Nat->Value) (a:Act) (w:World):Prop where
 dfr:a.defers=C.df
 sz:a.tmps.size=st.n
 slots: ∀k s,sg st.sl k=some s->RepS M ρ s (a.tmps.getD k undef)
 zz:xJ M ρ w st.tab
 ownf: ∀id r b,tg st.tab id=some r->Bk (ρ id) b-> ¬C.fr b
 run:Run C M w
 keep: ∀id r,tg C.tab0 id=some r->ρ id=C.ρ0 id
def MLe.refl(M:Mem):MLe M M:=λ_ _ _ h=>h
variable {M M':Mem}
def MLe.trans{M'':Mem}(h:MLe M M')(J:MLe M' M''):MLe M M'':=λb o v x=>J b o v (h b o v x)
variable {w:World}
def GOk.mono(h:GOk M w)(J:MLe M M'):GOk M' w:=⟨h.le.trans J,λb U=>let ⟨m,hm⟩:=h.op b U;⟨m,J _ _ _ hm⟩,λb U=>let ⟨t,v,hm⟩:=h.er b U;⟨t,v,J _ _ _ hm⟩,h.gb⟩
variable {C:Ctx}{a:Act}{st:St}{ρ:Nat->Value}
def Holds.gok(h:Holds C st M ρ a w):GOk M w:=
 ⟨C.gl.le.trans h.run.base,λb J=>let ⟨m,U⟩:=C.gl.op b J;⟨m,h.run.base _ _ _ U⟩,λb J=>let ⟨t,v,U⟩:=C.gl.er b J;⟨t,v,h.run.base _ _ _ U⟩,λp hp=>by
   obtain⟨el,fz,e⟩:=C.gl.gb p hp;refine⟨el,fz,?_⟩;rw[h.run.fram p.1 ⟨?_,C.gf p hp⟩,e]
   grind⟩
mutual
theorem RepPV.mono{M M':Mem}(h:MLe M M'): ∀(x:PV) (v:Value),RepPV M x v->RepPV M' x v
 | .k _,_,hx=>by simpa only[RepPV]using hx
 | .sl e rows,v,hx=>by
   simp only[RepPV]at hx⊢;obtain⟨a,cap,h1,h2,h3,h4⟩:=hx;refine⟨a,cap,h1,h2,h3,?_⟩;rcases h4 with h4|⟨b,o,h5,h6⟩
   ·exact .inl h4
   ·exact .inr ⟨b,o,h5,RowsIn.mono h (λi c hc=>h b i c hc) rows o h6⟩
 | .pr row,v,hx=>by
   simp only[RepPV]at hx⊢;obtain⟨b,o,h1,h2⟩:=hx;exact⟨b,o,h1,RowIn.mono h (λi c hc=>h b i c hc) row o h2⟩
theorem RowsIn.mono{M M':Mem}{g g':Nat->Option Value}{e:Nat}(h:MLe M M')(hg: ∀i c,g i=some c->g' i=some c):
 ∀(rows:List (List PV)) (o:Nat),RowsIn M g e rows o->RowsIn M' g' e rows o
 | [],_,_=>by simp only[RowsIn]
 |r::rs,o,hx=>by
  simp only[RowsIn]at hx⊢;exact⟨hx.1,RowIn.mono h hg r o hx.2.1,RowsIn.mono h hg rs _ hx.2.2⟩
theorem RowIn.mono{M M':Mem}{g g':Nat->Option Value}(h:MLe M M')(hg: ∀i c,g i=some c->g' i=some c):
 ∀(row:List PV) (o:Nat),RowIn M g row o->RowIn M' g' row o
 | [],_,_=>by simp only[RowIn]
 |x::xs,o,hx=>by
  simp only[RowIn]at hx⊢;obtain⟨⟨c,h1,h2⟩,h3⟩:=hx;exact⟨⟨c,hg _ _ h1,RepPV.mono h x c h2⟩,RowIn.mono h hg xs _ h3⟩
end
mutual
theorem RepV.mono{M M':Mem}{ρ:Nat->Value}(h:MLe M M'): ∀(x:V) (v:Value),RepV M ρ x v->RepV M' ρ x v
 | .p x,v,hx=>by simp only[RepV]at hx ⊢; exact RepPV.mono h x v hx
 | .pi row j,v,hx=>by
   simp only[RepV]at hx⊢;obtain⟨b,o,h1,h2⟩:=hx;exact⟨b,o,h1,RowIn.mono h (λi c hc=>h b i c hc) row o h2⟩
 | .bx _ _,_,hx=>by simpa only[RepV]using hx
 | .ar _,_,hx=>by simpa only[RepV]using hx
 | .el _ _,_,hx=>by simpa only[RepV]using hx
 | .mp _,_,hx=>by simpa only[RepV]using hx
 | .bs _ _ _,_,hx=>by simpa only[RepV]using hx
 | .sv _ _ _,_,hx=>by simpa only[RepV]using hx
 | .nv _ _,_,hx=>by simpa only[RepV]using hx
 | .np _ _ _,_,hx=>by simpa only[RepV]using hx
 | .cl f a b,v,hx=>by
   simp only[RepV]at hx⊢;obtain⟨xs,ys,h1,h2,h3⟩:=hx;exact⟨xs,ys,h1,RepVs.mono h a xs h2,RepVs.mono h b ys h3⟩
theorem RepVs.mono{M M':Mem}{ρ:Nat->Value}(h:MLe M M'): ∀(x:List V) (v:List Value),RepVs M ρ x v->RepVs M' ρ x v
 | [],[],_=>by simp only[RepVs]
 | [],_::_,hx=>by simp only[RepVs]at hx
 |_::_,[],hx=>by simp only[RepVs]at hx
 |x::xs,v::vs,hx=>by
  simp only[RepVs]at hx⊢;exact⟨RepV.mono h x v hx.1,RepVs.mono h xs vs hx.2⟩
end
mutual
theorem RepS.mono{M M':Mem}{ρ:Nat->Value}(h:MLe M M'): ∀(x:S) (v:Value),RepS M ρ x v->RepS M' ρ x v
 | .one x,v,hx=>by simp only[RepS]at hx ⊢; exact RepV.mono h x v hx
 | .agg vs,v,hx=>by
   simp only[RepS]at hx⊢;obtain⟨cs,h1,h2⟩:=hx;exact⟨cs,h1,RepVs.mono h vs cs h2⟩
 | .tup ss,v,hx=>by
   simp only[RepS]at hx⊢;obtain⟨cs,h1,h2⟩:=hx;exact⟨cs,h1,RepSs.mono h ss cs h2⟩
 | .gd b s,v,hx=>by
   simp only[RepS]at hx⊢;exact⟨λhb=>RepS.mono h s v (hx.1 hb),hx.2⟩
 | .bq _,_,hx=>by simpa only[RepS]using hx
 | .un,_,_=>by simp only[RepS]
theorem RepSs.mono{M M':Mem}{ρ:Nat->Value}(h:MLe M M'): ∀(x:List S) (v:List Value),RepSs M ρ x v->RepSs M' ρ x v
 | [],[],_=>by simp only[RepSs]
 | [],_::_,hx=>by simp only[RepSs]at hx
 |_::_,[],hx=>by simp only[RepSs]at hx
 |x::xs,v::vs,hx=>by
  simp only[RepSs]at hx⊢;exact⟨RepS.mono h x v hx.1,RepSs.mono h xs vs hx.2⟩
end
theorem EntsOf.mono{M M':Mem}(h:MLe M M'): ∀(x:List (PV×PV)) (v:List MapEntry),EntsOf M x v->EntsOf M' x v
 | [],[],_=>by simp only[EntsOf]
 | [],_::_,hx=>by simp only[EntsOf]at hx
 |_::_,[],hx=>by simp only[EntsOf]at hx
 |(x,y)::xs,v::vs,hx=>by
  simp only[EntsOf]at hx⊢;exact⟨RepPV.mono h _ _ hx.1,RepPV.mono h _ _ hx.2.1,EntsOf.mono h xs vs hx.2.2⟩
theorem RepPVl.mono{M M':Mem}(h:MLe M M'): ∀(x:List PV) (v:List Value),RepPVl M x v->RepPVl M' x v
 | [],[],_=>by simp only[RepPVl]
 | [],_::_,hx=>by simp only[RepPVl]at hx
 |_::_,[],hx=>by simp only[RepPVl]at hx
 |x::xs,v::vs,hx=>by
  simp only[RepPVl]at hx⊢;exact⟨RepPV.mono h _ _ hx.1,RepPVl.mono h xs vs hx.2⟩
theorem RepEV.mono{M M':Mem}(h:MLe M M'): ∀(x:EV) (v:Value),RepEV M x v->RepEV M' x v
 | .o x,v,hx=>RepPV.mono h x v hx
 | .g row,v,⟨cs,h1,h2⟩=>⟨cs,h1,RepPVl.mono h row cs h2⟩
theorem EntsG.mono{M M':Mem}(h:MLe M M'): ∀(x:List (Value×EV)) (v:List MapEntry),EntsG M x v->EntsG M' x v
 | [],[],_=>by simp only[EntsG]
 | [],_::_,hx=>by simp only[EntsG]at hx
 |_::_,[],hx=>by simp only[EntsG]at hx
 |(x,y)::xs,v::vs,hx=>by
  simp only[EntsG]at hx⊢;exact⟨hx.1,RepEV.mono h _ _ hx.2.1,EntsG.mono h xs vs hx.2.2⟩
mutual
def mentV(id:Nat):V->Bool
 | .p _| .pi _ _=>false
 | .bx i _| .ar i| .el i _| .mp i| .bs i _ _| .nv i _| .np i _ _| .sv i _ _=>Nat.beq i id
 | .cl _ a b=>mentVs id a||mentVs id b
def mentVs(id:Nat):List V->Bool
 | []=>false
 |v::vs=>mentV id v||mentVs id vs
end
mutual
def mentS(id:Nat):S->Bool
 | .one v=>mentV id v
 | .agg vs=>mentVs id vs
 | .tup ss=>mentSs id ss
 | .gd _ s=>mentS id s
 | .bq _=>false
 | .un=>false
def mentSs(id:Nat):List S->Bool
 | []=>false
 |v::vs=>mentS id v||mentSs id vs
end
theorem zc3{id:Nat}: ∀ {l:List V},mentVs id l=false-> ∀v∈l,mentV id v=false
 | [],_,v,h=>by cases h
 |u::l,h,v,hv=>by
  simp only[mentVs,uT]at h;rcases uF.1 hv with rfl|hv
  ·exact h.1
  ·exact zc3 h.2 v hv
def ztr{id:Nat}{x:List (Nat×V)}(h:mentVs id (x.map (·.2))=false)(j:Nat)(p:PV):mentV id (xv x j p)=false:=by
 unfold xv;split
 ·rename_i v hv;exact zc3 h v (zq1 hv)
 ·rfl
def mentI(id:Nat):List Nat->Bool
 | []=>false
 |i::l=>Nat.beq i id||mentI id l
theorem zec{id:Nat}: ∀ {l:List Nat} {k i:Nat},mentI id l=false->l[k]?=some i->Nat.beq i id=false
 | [],_,_,_,h=>by simp at h
 |x::l,0,i,h,hk=>by
  simp only[mentI,uT]at h
  simp_all
 |x::l,k+1,i,h,hk=>by
  simp only[mentI,uT]at h;exact zec h.2 (by simpa using hk)
theorem zbg{id:Nat}{ids:List Nat}(h:mentI id ids=false): ∀x:PC,mentV id (toV ids x)=false
 | .p x=>rfl
 | .n k j=>by
   simp only[toV];split
   ·rename_i i J;simp only[mentV];exact zec h J
   ·rfl
 | .a k=>by
   simp only[toV];split
   ·rename_i i J;simp only[mentV];exact zec h J
   ·rfl
def mentR(id:Nat):Res->Bool
 | .vw ids _ _=>mentI id ids
 | .box vs=>mentVs id vs
 | .arv _ _ x=>mentVs id (x.map (·.2))
 |_=>false
def zdz(X:Nat->Prop)(ρ ρ':Nat->Value):Prop:= ∀i,¬X i->ρ' i=ρ i
mutual
theorem RepV.agree{M:Mem}{ρ ρ':Nat->Value}{X:Nat->Prop}(h:zdz X ρ ρ'):
 ∀(x:V) (v:Value),(∀i,X i->mentV i x=false)->RepV M ρ x v->RepV M ρ' x v
 | .p _,_,_,hx=>by simpa only[RepV]using hx
 | .pi _ _,_,_,hx=>by simpa only[RepV]using hx
 | .bx i j,v,hm,hx=>by
   have:ρ' i=ρ i:=h i (λhX=>by have:=hm i hX;simp[mentV]at this);simp only[RepV,this]at hx ⊢; exact hx
 | .ar i,v,hm,hx=>by
   have:ρ' i=ρ i:=h i (λhX=>by have:=hm i hX;simp[mentV]at this);simp only[RepV,this]at hx ⊢; exact hx
 | .el i j,v,hm,hx=>by
   have:ρ' i=ρ i:=h i (λhX=>by have:=hm i hX;simp[mentV]at this);simp only[RepV,this]at hx ⊢; exact hx
 | .mp i,v,hm,hx=>by
   have:ρ' i=ρ i:=h i (λhX=>by have:=hm i hX;simp[mentV]at this);simp only[RepV,this]at hx ⊢; exact hx
 | .bs i _ _,v,hm,hx=>by
   have:ρ' i=ρ i:=h i (λhX=>by have:=hm i hX;simp[mentV]at this);simp only[RepV,this]at hx ⊢; exact hx
 | .nv i _,v,hm,hx=>by
   have:ρ' i=ρ i:=h i (λhX=>by have:=hm i hX;simp[mentV]at this);simp only[RepV,this]at hx ⊢; exact hx
 | .np i _ _,v,hm,hx=>by
   have:ρ' i=ρ i:=h i (λhX=>by have:=hm i hX;simp[mentV]at this);simp only[RepV,this]at hx ⊢; exact hx
 | .sv i _ _,v,hm,hx=>by
   have:ρ' i=ρ i:=h i (λhX=>by have:=hm i hX;simp[mentV]at this);simp only[RepV,this]at hx ⊢; exact hx
 | .cl f a b,v,hm,hx=>by
   simp only[RepV]at hx⊢;obtain⟨xs,ys,h1,h2,h3⟩:=hx;refine⟨xs,ys,h1,RepVs.agree h a xs (λi hi=>?_) h2,RepVs.agree h b ys (λi hi=>?_) h3⟩
   ·have:=hm i hi;simp only[mentV,uT]at this;exact this.1
   ·have:=hm i hi;simp only[mentV,uT]at this;exact this.2
theorem RepVs.agree{M:Mem}{ρ ρ':Nat->Value}{X:Nat->Prop}(h:zdz X ρ ρ'):
 ∀(x:List V) (v:List Value),(∀i,X i->mentVs i x=false)->RepVs M ρ x v->RepVs M ρ' x v
 | [],[],_,_=>by simp only[RepVs]
 | [],_::_,_,hx=>by simp only[RepVs]at hx
 |_::_,[],_,hx=>by simp only[RepVs]at hx
 |x::xs,v::vs,hm,hx=>by
  simp only[RepVs]at hx⊢;refine⟨RepV.agree h x v (λi hi=>?_) hx.1,RepVs.agree h xs vs (λi hi=>?_) hx.2⟩
  ·have:=hm i hi;simp only[mentVs,uT]at this;exact this.1
  ·have:=hm i hi;simp only[mentVs,uT]at this;exact this.2
end
mutual
theorem RepS.agree{M:Mem}{ρ ρ':Nat->Value}{X:Nat->Prop}(h:zdz X ρ ρ'):
 ∀(x:S) (v:Value),(∀i,X i->mentS i x=false)->RepS M ρ x v->RepS M ρ' x v
 | .one x,v,hm,hx=>by
   simp only[RepS]at hx ⊢; exact RepV.agree h x v (λi hi=>by simpa only[mentS]using hm i hi) hx
 | .agg vs,v,hm,hx=>by
   simp only[RepS]at hx⊢;obtain⟨cs,h1,h2⟩:=hx;exact⟨cs,h1,RepVs.agree h vs cs (λi hi=>by simpa only[mentS]using hm i hi) h2⟩
 | .tup ss,v,hm,hx=>by
   simp only[RepS]at hx⊢;obtain⟨cs,h1,h2⟩:=hx;exact⟨cs,h1,RepSs.agree h ss cs (λi hi=>by simpa only[mentS]using hm i hi) h2⟩
 | .gd b s,v,hm,hx=>by
   simp only[RepS]at hx⊢;exact⟨λhb=>RepS.agree h s v (λi hi=>by simpa only[mentS]using hm i hi) (hx.1 hb),hx.2⟩
 | .bq _,_,_,hx=>by simpa only[RepS]using hx
 | .un,_,_,_=>by simp only[RepS]
theorem RepSs.agree{M:Mem}{ρ ρ':Nat->Value}{X:Nat->Prop}(h:zdz X ρ ρ'):
 ∀(x:List S) (v:List Value),(∀i,X i->mentSs i x=false)->RepSs M ρ x v->RepSs M ρ' x v
 | [],[],_,_=>by simp only[RepSs]
 | [],_::_,_,hx=>by simp only[RepSs]at hx
 |_::_,[],_,hx=>by simp only[RepSs]at hx
 |x::xs,v::vs,hm,hx=>by
  simp only[RepSs]at hx⊢;refine⟨RepS.agree h x v (λi hi=>?_) hx.1,RepSs.agree h xs vs (λi hi=>?_) hx.2⟩
  ·have:=hm i hi;simp only[mentSs,uT]at this;exact this.1
  ·have:=hm i hi;simp only[mentSs,uT]at this;exact this.2
end
variable {rows:List (List PV)}{w':World}
def vN.world{v:Value}{e:Nat}(h:vN M w v e rows)(hb: ∀b,blk v=some b->w'.heap[b]?=w.heap[b]?):vN M w' v e rows:=by
 obtain⟨a,cap,U,h2,h3,h4⟩:=h;refine⟨a,cap,U,h2,h3,?_⟩;rcases h4 with h4|⟨b,o,cs,el,fz,h5,h6,J,h7,h8⟩
 ·exact .inl h4
 ·exact .inr ⟨b,o,cs,el,fz,h5,by rw[hb b (by simp[U,h5,blk])];exact h6,J,h7,h8⟩
theorem vN.mono{M M':Mem}{w:World}{v:Value}{e:Nat}{rows:List (List PV)}(U:MLe M M')(h:vN M w v e rows):vN M' w v e rows:=by
 obtain⟨a,cap,h1,h2,h3,h4⟩:=h;refine⟨a,cap,h1,h2,h3,?_⟩;rcases h4 with h4|⟨b,o,cs,el,fz,h5,h6,J,h7,h8⟩
 ·exact .inl h4
 ·exact .inr ⟨b,o,cs,el,fz,h5,h6,J,h7,RowsIn.mono U (λ_ _ h=>h) _ _ h8⟩
def vN.lt{v:Value}{e:Nat}{b:Nat}(h:vN M w v e rows)(J:blk v=some b):b<w.heap.size:=by
 obtain⟨a,cap,U,h2,h3,h4⟩:=h;rcases h4 with⟨h4,_⟩|⟨b',o,cs,el,fz,h5,h6,h6',h7,h8⟩
 ·simp[U,h4,blk]at J
 ·simp[U,h5,blk]at J;grind
variable {xs:List Value}
def zky{y:Value}{b:Nat}(hj:xs[j]?=some y)(h:blk y=some b):Bk (.tuple xs.toArray) b:=⟨y,by grind,h⟩
variable {x:Value}
def zne{b:Nat}(h:blk x=some b):Bk (.tuple (x::xs).toArray) b:=⟨x,ue,h⟩
def zv0{y:Value}{b:Nat}(hj:xs[j]?=some y)(h:blk y=some b):Bk (.tuple (x::xs).toArray) b:=⟨y,by grind,h⟩
theorem zA.world{M:Mem}{ρ:Nat->Value}{w w':World}{id:Nat}{r:Res}(h:zA M ρ w id r)
 (U: ∀b,Bk (ρ id) b->w'.heap[b]?=w.heap[b]?):zA M ρ w' id r:=by
 cases r with
 |box vs=>
  obtain⟨b,cs,el,J,h2,h3⟩:=h;exact⟨b,cs,el,J,by rw[U b (by simp[J,Bk,blk])];exact h2,h3⟩
 |arr e rows=>
  obtain⟨a,cap,J,h2,h3,h4⟩:=h;refine⟨a,cap,J,h2,h3,?_⟩;rcases h4 with h4|⟨b,o,cs,el,fz,h5,h6,h6',h7,h8⟩
  ·exact .inl h4
  ·exact .inr ⟨b,o,cs,el,fz,h5,by rw[U b (by simp[J,h5,Bk,blk])];exact h6,h6',h7,h8⟩
 |map es=>
  obtain⟨r,ms,cl,J,h2,h3⟩:=h;exact⟨r,ms,cl,J,by rw[U r (by simp[J,Bk,blk])];exact h2,h3⟩
 |arv e rows x=>
  obtain⟨a,cap,J,h2,h3,hl,h4⟩:=h;refine⟨a,cap,J,h2,h3,hl,?_⟩;rcases h4 with h4|⟨b,o,cs,el,fz,h5,h6,h6',h7,h8⟩
  ·exact .inl h4
  ·exact .inr ⟨b,o,cs,el,fz,h5,by rw[U b (by simp[J,h5,Bk,blk])];exact h6,h6',h7,h8⟩
 |bag e L=>
  obtain⟨cs,J,hn,hc,hap⟩:=h;rw[J]at U;exact⟨cs,J,hn,λj rs hj=>let ⟨c,c1,c2⟩:=hc j rs hj;⟨c,c1,c2.world λb hb'=>U b (zky c1 hb')⟩,hap⟩
 |ifc=>exact h
 |bld T e b s=>
  obtain⟨p,v,J,hp,h2,h3,h4⟩:=h;rw[J]at U;refine⟨p,v,J,hp,by rw[U b (zne rfl)];exact h2,⟨h3.1,?_⟩,h4⟩;rcases h3.2 with h5|⟨g,cap,cur,fz,rfl,h6,h7,h8⟩
  ·exact .inl h5
  ·exact .inr ⟨g,cap,cur,fz,rfl,h6,by rw[U g (zv0 (j:=0) rfl rfl)];exact h7,h8⟩
 |vw ids e rows=>
  obtain⟨a,cap,J,h2,h3,hl,h4⟩:=h;refine⟨a,cap,J,h2,h3,hl,?_⟩;rcases h4 with h4|⟨b,o,cs,el,fz,h5,h6,h6',h7,h8⟩
  ·exact .inl h4
  ·exact .inr ⟨b,o,cs,el,fz,h5,by rw[U b (by simp[J,h5,Bk,blk])];exact h6,h6',h7,h8⟩
 |arc e rows a cap=>exact⟨h.1,h.2.world λb hb'=>U b (by rw[h.1]at hb' ⊢; exact hb')⟩
 |raw r o=>
  obtain⟨J,h2⟩:=h;exact⟨J,by rw[U r (by simp[J,Bk,blk])];exact h2⟩
 |mpg es=>
  obtain⟨r,ms,cl,J,h2,h3⟩:=h;exact⟨r,ms,cl,J,by rw[U r (by simp[J,Bk,blk])];exact h2,h3⟩
 |itr l cur=>
  obtain⟨r,q,ms,cl,si,c0,seen,J,hne,h2,h3,h4⟩:=h;rw[J]at U;exact⟨r,q,ms,cl,si,c0,seen,J,hne,by rw[U r (zne rfl)];exact h2,by rw[U q (zv0 (j:=0) rfl rfl)];exact h3,h4⟩
theorem zA.mono{M M':Mem}{ρ:Nat->Value}{w:World}{id:Nat}{r:Res}(U:MLe M M')(h:zA M ρ w id r):zA M' ρ w id r:=by
 cases r with
 |box vs=>
  obtain⟨b,cs,el,J,h2,h3⟩:=h;exact⟨b,cs,el,J,h2,RepVs.mono U _ _ h3⟩
 |arr e rows=>
  obtain⟨a,cap,J,h2,h3,h4⟩:=h;refine⟨a,cap,J,h2,h3,?_⟩;rcases h4 with h4|⟨b,o,cs,el,fz,h5,h6,h6',h7,h8⟩
  ·exact .inl h4
  ·exact .inr ⟨b,o,cs,el,fz,h5,h6,h6',h7,RowsIn.mono U (λ_ _ h=>h) _ _ h8⟩
 |map es=>
  obtain⟨r,ms,cl,J,h2,h3,h4⟩:=h;exact⟨r,ms,cl,J,h2,EntsOf.mono U _ _ h3,h4⟩
 |arv e rows x=>
  obtain⟨a,cap,J,h2,h3,hl,h4⟩:=h;refine⟨a,cap,J,h2,h3,hl,?_⟩;rcases h4 with h4|⟨b,o,cs,el,fz,h5,h6,h6',h7,h8⟩
  ·exact .inl h4
  ·exact .inr ⟨b,o,cs,el,fz,h5,h6,h6',h7,λj p hj=>let ⟨c,h9,h10⟩:=h8 j p hj;⟨c,h9,RepV.mono U _ _ h10⟩⟩
 |bag e L=>
  obtain⟨cs,J,hn,hc,hap⟩:=h;exact⟨cs,J,hn,λj rs hj=>let ⟨c,c1,c2⟩:=hc j rs hj;⟨c,c1,c2.mono U⟩,hap⟩
 |ifc=>exact h
 |bld T e b s=>exact h
 |vw ids e rows=>
  obtain⟨a,cap,J,h2,h3,hl,h4⟩:=h;refine⟨a,cap,J,h2,h3,hl,?_⟩;rcases h4 with h4|⟨b,o,cs,el,fz,h5,h6,h6',h7,h8⟩
  ·exact .inl h4
  ·exact .inr ⟨b,o,cs,el,fz,h5,h6,h6',h7,λj p hj=>let ⟨c,h9,h10⟩:=h8 j p hj;⟨c,h9,RepV.mono U _ _ h10⟩⟩
 |arc e rows a cap=>exact⟨h.1,h.2.mono U⟩
 |raw r o=>exact h
 |mpg es=>
  obtain⟨r,ms,cl,J,h2,h3,h4⟩:=h;exact⟨r,ms,cl,J,h2,EntsG.mono U _ _ h3,h4⟩
 |itr l cur=>
  obtain⟨r,q,ms,cl,si,c0,seen,J,hne,h2,h3,g1,g2,g3,g4,g5⟩:=h;exact⟨r,q,ms,cl,si,c0,seen,J,hne,h2,h3,g1,g2,g3,EntsOf.mono U _ _ g4,λp hp=>let ⟨k1,e,s,k2,k3,k4,k5⟩:=g5 p hp;⟨k1,e,s,k2,k3,RepPV.mono U _ _ k4,RepPV.mono U _ _ k5⟩⟩
theorem zA.agree{M:Mem}{ρ ρ':Nat->Value}{X:Nat->Prop}{w:World}{id:Nat}{r:Res}(hX:zdz X ρ ρ')(hid: ¬X id)
 (hm: ∀i,X i->mentR i r=false) (h:zA M ρ w id r):zA M ρ' w id r:=by
 have U:=hX id hid;cases r with
 |box vs=>
  obtain⟨b,cs,el,J,h2,h3⟩:=h;exact⟨b,cs,el,U.trans J,h2,RepVs.agree hX _ _ (λi U=>by simpa only[mentR]using hm i U) h3⟩
 |arr e rows=>
  obtain⟨a,cap,J,h2,h3,h4⟩:=h;exact⟨a,cap,U.trans J,h2,h3,h4⟩
 |map es=>
  obtain⟨r,ms,cl,J,h2,h3,h4⟩:=h;exact⟨r,ms,cl,U.trans J,h2,h3,h4⟩
 |arv e rows x=>
  obtain⟨a,cap,J,h2,h3,hl,h4⟩:=h;refine⟨a,cap,U.trans J,h2,h3,hl,?_⟩;rcases h4 with h4|⟨b,o,cs,el,fz,h5,h6,h6',h7,h8⟩
  ·exact .inl h4
  ·exact .inr ⟨b,o,cs,el,fz,h5,h6,h6',h7,λj p hj=>let ⟨c,h9,h10⟩:=h8 j p hj;⟨c,h9,RepV.agree hX _ _ (λi U=>ztr (by simpa only[mentR]using hm i U) j p) h10⟩⟩
 |bag e L=>
  obtain⟨cs,J,h⟩:=h;exact⟨cs,U.trans J,h⟩
 |ifc=>obtain⟨t,v,J⟩:=h;exact⟨t,v,U.trans J⟩
 |bld T e b s=>obtain⟨p,v,J,h⟩:=h;exact⟨p,v,U.trans J,h⟩
 |vw ids e rows=>
  obtain⟨a,cap,J,h2,h3,hl,h4⟩:=h;refine⟨a,cap,U.trans J,h2,h3,hl,?_⟩;rcases h4 with h4|⟨b,o,cs,el,fz,h5,h6,h6',h7,h8⟩
  ·exact .inl h4
  ·exact .inr ⟨b,o,cs,el,fz,h5,h6,h6',h7,λj p hj=>let ⟨c,h9,h10⟩:=h8 j p hj;⟨c,h9,RepV.agree hX _ _ (λi U=>zbg (by simpa only[mentR]using hm i U) p) h10⟩⟩
 |arc e rows a cap=>exact⟨U.trans h.1,by rw[U];exact h.2⟩
 |raw r o=>
  obtain⟨J,h2⟩:=h;exact⟨U.trans J,h2⟩
 |mpg es=>
  obtain⟨r,ms,cl,J,h2,h3,h4⟩:=h;exact⟨r,ms,cl,U.trans J,h2,h3,h4⟩
 |itr l cur=>
  obtain⟨r,q,ms,cl,si,c0,seen,J,h⟩:=h;exact⟨r,q,ms,cl,si,c0,seen,U.trans J,h⟩
theorem zA.lt{M:Mem}{ρ:Nat->Value}{w:World}{id:Nat}{r:Res}{b:Nat}(h:zA M ρ w id r)(U:Bk (ρ id) b):b<w.heap.size:=by
 have key: ∀o,w.heap[b]?=some o->b<w.heap.size:=λo ho=>by
  rcases tu b w.heap.size with h|h
  ·exact h
  ·simp[oq h]at ho
 cases r with
 |box vs=>
  obtain⟨b',cs,el,J,h2,h3⟩:=h;simp[J,Bk,blk]at U;simp_all
 |arr e rows=>
  obtain⟨a,cap,J,h2,h3,h4⟩:=h;rcases h4 with⟨h4,_⟩|⟨b',o,cs,el,fz,h5,h6,h6',h7,h8⟩
  ·simp[J,h4,Bk,blk]at U
  ·simp[J,h5,Bk,blk]at U;simp_all
 |map es=>
  obtain⟨r,ms,cl,J,h2,h3,h4⟩:=h;simp[J,Bk,blk]at U;simp_all
 |arv e rows x=>
  obtain⟨a,cap,J,h2,h3,hl,h4⟩:=h;rcases h4 with⟨h4,_⟩|⟨b',o,cs,el,fz,h5,h6,h6',h7,h8⟩
  ·simp[J,h4,Bk,blk]at U
  ·simp[J,h5,Bk,blk]at U;simp_all
 |bag e L=>
  obtain⟨cs,J,hn,hc,hap⟩:=h;rw[J]at U;obtain⟨x,hx,hxb⟩:=U;obtain⟨j,hj⟩:=tX.1 (by simpa using hx:x∈cs);have hlt:=(uy.1 hj).1;obtain⟨p,hp⟩: ∃p,L[j]?=some p:=⟨_,th ua⟩;obtain⟨c,c1,c2⟩:=hc j p hp;rw[hj]at c1;obtain rfl:=uU c1;exact c2.lt hxb
 |ifc=>obtain⟨t,v,J⟩:=h;simp[J,Bk,blk]at U
 |bld T e b' s=>
  obtain⟨p,v,J,hp,h2,h3,h4⟩:=h;rw[J]at U;obtain⟨x,hx,hxb⟩:=U;have hx':x=Value.pointer (some ⟨b',0,none⟩)\/x=v:=by simpa using hx
  rcases hx' with rfl|rfl
  ·simp[blk]at hxb;simp_all
  ·rcases h3.2 with⟨rfl,_⟩|⟨g,cap,cur,fz,rfl,h6,h7,h8⟩
   ·simp[blk]at hxb
   ·simp[blk]at hxb;simp_all
 |vw ids e rows=>
  obtain⟨a,cap,J,h2,h3,hl,h4⟩:=h;rcases h4 with⟨h4,_⟩|⟨b',o,cs,el,fz,h5,h6,h6',h7,h8⟩
  ·simp[J,h4,Bk,blk]at U
  ·simp[J,h5,Bk,blk]at U;simp_all
 |arc e rows a cap=>exact h.2.lt (by rw[h.1]at U ⊢; exact U)
 |raw r o=>
  obtain⟨J,h2⟩:=h;simp[J,Bk,blk]at U;simp_all
 |mpg es=>
  obtain⟨r,ms,cl,J,h2,h3,h4⟩:=h;simp[J,Bk,blk]at U;simp_all
 |itr l cur=>
  obtain⟨r,q,ms,cl,si,c0,seen,J,hne,h2,h3,h4⟩:=h;rw[J]at U;obtain⟨x,hx,hxb⟩:=U;have hx':x=Value.map (some r)\/x=Value.pointer (some ⟨q,0,none⟩):=by simpa using hx
  rcases hx' with rfl|rfl
  ·simp[blk]at hxb;simp_all
  ·simp[blk]at hxb;simp_all
abbrev I(n:Int):S:= .one (.p (.k (.int .i64 n)))
abbrev Bo(b:Bool):S:= .one (.p (.k (.bool b)))
abbrev Sr(s:ByteArray):S:= .one (.p (.k (.string s)))
abbrev Kk(k:IntKind)(n:Int):S:= .one (.p (.k (.int k n)))
variable {u:Value}
def yV{d:Nat}(h:d<a.tmps.size):(a.put (some d) x).tmps.getD d u=x:=by
 simp[Act.put,Array.getD,h]
def xH{d k:Nat}(h:k≠d):(a.put (some d) x).tmps.getD k u=a.tmps.getD k u:=by
 simp only[Act.put,qL,Array.getElem?_setIfInBounds]
 grind
theorem Holds.put{C:Ctx}{st:St}{M:Mem}{ρ:Nat->Value}{a:Act}{w:World}(h:Holds C st M ρ a w){d:Nat}{s:S}{x:Value}
 (J:d<st.n) (U:RepS M ρ s x):Holds C ⟨st.n,(d,s)::st.sl,st.tab⟩ M ρ (a.put (some d) x) w where
 dfr:=h.dfr
 sz:=by simp[Act.put,h.sz]
 slots:=by
  intro k s' hk;rw[yk]at hk;split at hk
  ·rename_i e;subst e;simp at hk;subst hk;rw[yV (by rw[h.sz];exact J)];exact U
  ·rename_i e;rw[xH (λh=>e h.symm)];exact h.slots k s' hk
 zz:=h.zz
 ownf:=h.ownf
 run:=h.run
 keep:=h.keep
def cS:Value->Option S
 | .agg cs=>if cs.toList.all Value.oneCell' then some (.agg (cs.toList.map λv=> .p (.k v)))else none
 | .tuple _=>none
 |v=>some (.one (.p (.k v)))
def ev(sl:zb):Operand->Option S
 | .tmp t=>sg sl t
 | .const v=>cS v
 | .func f=>some (.one (.cl f [] []))
 | .global _=>none
def rq:Operand->S->zb
 | .tmp t,s=>[(t,s)]
 |_,_=>[]
def okc:Operand->S->Prop
 | .tmp _,_=>True
 | .const v,s=>cS v=some s
 | .func f,s=>S.one (.cl f [] [])=s
 | .global _,_=>False
def okS:zb->St->Prop
 | [],_=>True
 |(k,s)::r,st=>sg st.sl k=some s/\okS r st
def okT:List (Nat×Res)->St->Prop
 | [],_=>True
 |(k,s)::r,st=>tg st.tab k=some s/\okT r st
theorem ze{a b:zb}:okS (a++b) st↔okS a st/\okS b st:=by
 induction a with
 |nil=>simp[okS]
 |cons x xs ih=>obtain⟨k,s⟩:=x;simp[okS,ih,and_assoc]
theorem zq{x:Operand}{s:S}(h:okc x s)(J:okS (rq x s) st):ev st.sl x=some s:=by
 cases x with
 |tmp t=>exact J.1
 |const v=>exact h
 |global g=>exact h.elim
 |func f=>exact u7 some h
theorem xV{x:Operand}{s:S}(h:ev st.sl x=some s):okc x s/\okS (rq x s) st:=by
 cases x with
 |tmp t=>exact⟨uh,h,uh⟩
 |const v=>exact⟨h,uh⟩
 |global g=>cases h
 |func f=>exact⟨uU h,uh⟩
theorem jg{M:Mem}{ρ:Nat->Value}: ∀(l:List Value),l.all Value.oneCell'=true->RepVs M ρ (l.map λv=> .p (.k v)) l
 | [],_=>by simp only[tI,RepVs]
 |v::l,h=>by
  simp only[tQ,um]at h;simp only[uH,RepVs,RepV,RepPV];exact⟨⟨uh,h.1⟩,jg l h.2⟩
theorem Holds.evS(h:Holds C st M ρ a w){x:Operand}{s:S}
 (J:ev st.sl x=some s):RepS M ρ s (a.eval x):=by
 cases x with
 |tmp t=>exact h.slots t s J
 |const v=>
  simp only[Hw.ev]at J
  match v,J with
  | .agg cs,J=>
    simp only[cS]at J;split at J
    ·rename_i U;simp only[ui]at J;subst J;simp only[Act.eval,RepS];exact⟨cs.toList,ue,jg _ (by simpa using U)⟩
    ·cases J
  | .tuple _,J=>simp[cS]at J
  | .slice _ _ _,J=>simp only[cS,ui]at J;subst J;simp only[Act.eval,RepS,RepV,RepPV];exact⟨uh,rfl⟩
  | .bool _,J=>simp only[cS,ui]at J;subst J;simp only[Act.eval,RepS,RepV,RepPV];exact⟨uh,rfl⟩
  | .int _ _,J=>simp only[cS,ui]at J;subst J;simp only[Act.eval,RepS,RepV,RepPV];exact⟨uh,rfl⟩
  | .float _ _,J=>simp only[cS,ui]at J;subst J;simp only[Act.eval,RepS,RepV,RepPV];exact⟨uh,rfl⟩
  | .complex _ _ _,J=>simp only[cS,ui]at J;subst J;simp only[Act.eval,RepS,RepV,RepPV];exact⟨uh,rfl⟩
  | .string _,J=>simp only[cS,ui]at J;subst J;simp only[Act.eval,RepS,RepV,RepPV];exact⟨uh,rfl⟩
  | .pointer _,J=>simp only[cS,ui]at J;subst J;simp only[Act.eval,RepS,RepV,RepPV];exact⟨uh,rfl⟩
  | .map _,J=>simp only[cS,ui]at J;subst J;simp only[Act.eval,RepS,RepV,RepPV];exact⟨uh,rfl⟩
  | .chan _,J=>simp only[cS,ui]at J;subst J;simp only[Act.eval,RepS,RepV,RepPV];exact⟨uh,rfl⟩
  | .func _ _ _,J=>simp only[cS,ui]at J;subst J;simp only[Act.eval,RepS,RepV,RepPV];exact⟨uh,rfl⟩
  | .nilFunc,J=>simp only[cS,ui]at J;subst J;simp only[Act.eval,RepS,RepV,RepPV];exact⟨uh,rfl⟩
  | .iface _ _,J=>simp only[cS,ui]at J;subst J;simp only[Act.eval,RepS,RepV,RepPV];exact⟨uh,rfl⟩
  | .nilIface,J=>simp only[cS,ui]at J;subst J;simp only[Act.eval,RepS,RepV,RepPV];exact⟨uh,rfl⟩
 |global g=>cases J
 |func f=>simp only[Hw.ev,ui]at J;subst J;simp only[Act.eval,RepS,RepV];exact⟨[],[],rfl,by simp only[RepVs],by simp only[RepVs]⟩
def freshB(id:Nat)(st:St):Bool:=
 st.sl.all (λp=> !mentS id p.2)&&st.tab.all (λp=> !Nat.beq p.1 id&&(match p.2 with|some r=> !mentR id r|none=>true))
def we(C:Ctx)(id:Nat)(st:St):Prop:=
 (∀k s,sg st.sl k=some s->mentS id s=false)/\(∀i r,tg st.tab i=some r->i≠id/\mentR id r=false)/\tg C.tab0 id=none
def okF(C:Ctx):List Nat->St->Prop
 | [],_=>True
 |i::r,st=>we C i st/\okF C r st
theorem zaP{sl:zb}{k:Nat}{s:S}(h:sg sl k=some s):(k,s)∈sl:=by
 induction sl with
 |nil=>cases h
 |cons x xs ih=>
  obtain⟨j,t⟩:=x;rw[yk]at h
  grind
theorem zfd{sl:Tab}{k:Nat}{s:Res}(h:tg sl k=some s):(k,some s)∈sl:=by
 induction sl with
 |nil=>cases h
 |cons x xs ih=>
  obtain⟨j,t⟩:=x;rw[zm]at h
  grind
def vt{id:Nat}(h:freshB id st=true)(J:tg C.tab0 id=none):we C id st:=by
 simp only[freshB,um,List.all_eq_true,ux]at h;refine⟨λk s hk=>h.1 _ (zaP hk),λi r U=>?_,J⟩;have:=h.2 _ (zfd U);simp only at this;exact⟨λe=>by simp_all,by simpa using this.2⟩
def app(d:Option Nat)(v:S)(wt:Tab)(st:St):St:=
 ⟨st.n,(match d with|some d=>(d,v)::st.sl|none=>st.sl),wt++st.tab⟩
def dok(d:Option Nat)(n:Nat):Bool:=match d with|some d=>Nat.blt d n|none=>true
def ziF{d n:Nat}(h:dok (some d) n=true):d<n:=by simpa [dok,tH]using h
def Snd(P:Program)(o:Oper)(rs:zb)(rt:List (Nat×Res))(fr:List Nat)(v:S)(wt:Tab):Prop:=
 ∀(C:Ctx) (st:St) (M:Mem) (ρ:Nat->Value) (a:Act) (w:World),Holds C st M ρ a w->okS rs st->okT rt st->okF C fr st->dok o.dst st.n=true->
  ∀(k:Act->World->Prop) (Q:Exit->Act->World->Prop),(∀a' w' M' ρ',Holds C (app o.dst v wt st) M' ρ' a' w'->k a' w')->o.wp P a w k Q
variable {d:Option Nat}
theorem Holds.jO(h:Holds C st M ρ a w){s:S}
 (J:dok d st.n=true) (U:RepS M ρ s x):Holds C (app d s [] st) M ρ (a.put d x) w:=by
 cases d with
 |none=>exact h
 |some d=>exact h.put (ziF J) U
variable {P:Program}{o:Oper}{rs:zb}{rt:List (Nat×Res)}
def zi{v:S}
 (h: ∀(C:Ctx) (st:St) (M:Mem) (ρ:Nat->Value) (a:Act) (w:World),Holds C st M ρ a w->okS rs st->okT rt st->
   ∃x,(execOp a.eval o).run P w= .ok (.value x) w/\RepS M ρ v x):Snd P o rs rt [] v []:=by
 intro C st M ρ a w J U h2 _ hd k Q hk;obtain⟨x,hr,hx⟩:=h C st M ρ a w J U h2;unfold Oper.wp;rw[hr,Oper.upon_value];exact hk _ _ _ _ (J.jO hd hx)
variable {af:Array Edge}{b:Bool}{i:Nat}{ps:String}{ss:List S}{t:TypeId}
section
variable {ty:TypeId} {g:Option (Nat×Bool)} {x y z:Operand}
def zv1{s:S}(J:okc x s):Snd P ⟨d,.move x,ty,ps,af,g⟩ (rq x s) [] [] s []:=
 zi λC st M ρ a w h U _=>⟨a.eval x,by simp[execOp],h.evS (zq J U)⟩
def zpK{s:S}(J:okc x s):Snd P ⟨d,.assign x,ty,ps,af,g⟩ (rq x s) [] [] s []:=
 zi λC st M ρ a w h U _=>⟨a.eval x,by simp[execOp],h.evS (zq J U)⟩
theorem Holds.bool{C:Ctx}{st:St}{M:Mem}{ρ:Nat->Value}{a:Act}{w:World}(h:Holds C st M ρ a w){x:Operand}{b:Bool}
 (J:ev st.sl x=some (Bo b)):a.eval x= .bool b:=by
 have:=h.evS J;simp only[RepS,RepV,RepPV]at this;exact this.1
theorem Holds.k{C:Ctx}{st:St}{M:Mem}{ρ:Nat->Value}{a:Act}{w:World}(h:Holds C st M ρ a w){x:Operand}{v:Value}
 (J:ev st.sl x=some (.one (.p (.k v)))):a.eval x=v:=by
 have:=h.evS J;simp only[RepS,RepV,RepPV]at this;exact this.1
def znS(b:Bool):RepS M ρ (Bo b) (.bool b):=by simp only[RepS,RepV,RepPV];exact⟨uh,rfl⟩
def zjP(k:IntKind)(n:Int):RepS M ρ (Kk k n) (.int k n):=by simp only[RepS,RepV,RepPV];exact⟨uh,rfl⟩
def znf{x:Value}(h:RepS M ρ (Bo b) x):x= .bool b:=by simp only[RepS,RepV,RepPV]at h;exact h.1
def zpL{s:S}(U:okc x (Bo true))(hy:okc y s):Snd P ⟨d,.pick x y z,ty,ps,af,g⟩ (rq x (Bo true)++rq y s) [] [] s []:=
 zi λC st M ρ a w h J _=>by
  rw[ze]at J;have e:=h.bool (zq U J.1);exact⟨a.eval y,by simp[execOp,e,asBool],h.evS (zq hy J.2)⟩
def zpM{s:S}(U:okc x (Bo false))(hz:okc z s):Snd P ⟨d,.pick x y z,ty,ps,af,g⟩ (rq x (Bo false)++rq z s) [] [] s []:=
 zi λC st M ρ a w h J _=>by
  rw[ze]at J;have e:=h.bool (zq U J.1);exact⟨a.eval z,by simp[execOp,e,asBool],h.evS (zq hz J.2)⟩
def zxB(J:okc x (Bo b)):Snd P ⟨d,.unOp .not t x,ty,ps,af,g⟩ (rq x (Bo b)) [] [] (Bo (!b)) []:=
 zi λC st M ρ a w h U _=>by
  have e:=h.bool (zq J U);exact⟨.bool (!b),by simp[execOp,e,Op.unary],znS _⟩
def zwz{k:IntKind}{n:Int}(J:okc x (Kk k n)):
 Snd P ⟨d,.unOp .neg t x,ty,ps,af,g⟩ (rq x (Kk k n)) [] [] (Kk k (k.wrap (0 - n))) []:=
 zi λC st M ρ a w h U _=>by
  have e:=h.k (zq J U);exact⟨.int k (k.wrap (0 - n)),by simp[execOp,e,Op.unary,Op.intArith],zjP _ _⟩
def ziL{op:BinOp}{t':TypeId}{v r:Value}(U:okc x (.one (.p (.k u))))(hy:okc y (.one (.p (.k v))))
 (h1c:r.oneCell'=true) (hr: ∀w:World,(eqGuard op t x y u v).run P w= .ok () w/\(binOp op t u v).run P w= .ok r w):
 Snd P ⟨d,.binOp op t x y t',ty,ps,af,g⟩ (rq x (.one (.p (.k u)))++rq y (.one (.p (.k v)))) [] [] (.one (.p (.k r))) []:=
 zi λC st M ρ a w h J _=>by
  rw[ze]at J;have e1:=h.k (zq U J.1);have e2:=h.k (zq hy J.2);exact⟨r,by simp[execOp,e1,e2,(hr w).1,(hr w).2],by simp only[RepS,RepV,RepPV];simp_all⟩
def zc4{op:BinOp}{k k':IntKind}{m n:Int}(w:World):(eqGuard op t x y (.int k m) (.int k' n)).run P w= .ok () w:=by
 unfold eqGuard;split<;>rfl
def zed{op:BinOp}{m n:ByteArray}(w:World):(eqGuard op t x y (.string m) (.string n)).run P w= .ok () w:=by
 unfold eqGuard;split<;>rfl
def arith:BinOp->Option (Int->Int->Int)
 | .add=>some (· + ·)
 | .sub=>some (· - ·)
 | .mul=>some (· * ·)
 |_=>none
def cmpI:BinOp->Option (Int->Int->Bool)
 | .eql=>some λm n=>decide (m=n)
 | .neq=>some λm n=> !decide (m=n)
 | .lss=>some λm n=>decide (m<n)
 | .leq=>some λm n=>decide (m<=n)
 | .gtr=>some λm n=>decide (n<m)
 | .geq=>some λm n=>decide (n<=m)
 |_=>none
def zts{op:BinOp}{f:Int->Int->Int}{t':TypeId}{k:IntKind}{m n:Int}(hf:arith op=some f)(J:okc x (Kk k m))(U:okc y (Kk k n)):
 Snd P ⟨d,.binOp op t x y t',ty,ps,af,g⟩ (rq x (Kk k m)++rq y (Kk k n)) [] [] (Kk k (k.wrap (f m n))) []:=
 ziL J U rfl λw=>⟨zc4 w,by
  cases op<;>simp only[arith,ui,reduceCtorEq]at hf<;>subst hf<;>simp[binOp,Op.intArith]⟩
def zxC{op:BinOp}{f:Int->Int->Bool}{t':TypeId}{k:IntKind}{m n:Int}(hf:cmpI op=some f)(J:okc x (Kk k m))(U:okc y (Kk k n)):
 Snd P ⟨d,.binOp op t x y t',ty,ps,af,g⟩ (rq x (Kk k m)++rq y (Kk k n)) [] [] (Bo (f m n)) []:=
 ziL J U rfl λw=>⟨zc4 w,by
  cases op<;>simp only[cmpI,ui,reduceCtorEq]at hf<;>subst hf<;>simp[binOp,Op.intCmp]<;>rfl⟩
def bytes_beq(a b:ByteArray):(a.toList==b.toList)=decide (a=b):=by
 rw[oc,beq_iff_eq,oQ];constructor
 ·intro h;rw[Uc,Uc]at h;cases a;simp_all
 ·rintro rfl;rfl
def zxD:BinOp->Option (ByteArray->ByteArray->Bool)
 | .eql=>some λm n=>decide (m=n)
 | .neq=>some λm n=> !decide (m=n)
 | .lss=>some λm n=>Op.bytesLess m.toList n.toList
 | .leq=>some λm n=>Op.bytesLess m.toList n.toList||decide (m=n)
 | .gtr=>some λm n=> !(Op.bytesLess m.toList n.toList||decide (m=n))
 | .geq=>some λm n=> !Op.bytesLess m.toList n.toList
 |_=>none
def zv2{op:BinOp}{f:ByteArray->ByteArray->Bool}{t':TypeId}{m n:ByteArray}(hf:zxD op=some f)(J:okc x (Sr m))(U:okc y (Sr n)):
 Snd P ⟨d,.binOp op t x y t',ty,ps,af,g⟩ (rq x (Sr m)++rq y (Sr n)) [] [] (Bo (f m n)) []:=
 ziL J U rfl λw=>⟨zed w,by
  cases op<;>simp only[zxD,ui,reduceCtorEq]at hf<;>subst hf<;>simp[binOp,Op.stringOp,bytes_beq]⟩
def zng{s:S}(hx:okc x (.tup ss))(hi:ss[i]?=some s):Snd P ⟨d,.extract x i,ty,ps,af,g⟩ (rq x (.tup ss)) [] [] s []:=
 zi λC st M ρ a w h U _=>by
  have e:=h.evS (zq hx U);simp only[RepS]at e;obtain⟨xs,h2,h3⟩:=e
  have key: ∀(ss:List S) (xs:List Value) (i:Nat) (s:S),RepSs M ρ ss xs->ss[i]?=some s-> ∃v,xs[i]?=some v/\RepS M ρ s v:=by
   intro ss
   induction ss with
   |nil=>intro xs i s _ h;simp at h
   |cons t ts ih=>
    intro xs i s hr J;cases xs with
    |nil=>simp only[RepSs]at hr
    |cons v vs=>
     simp only[RepSs]at hr;cases i with
     |zero=>simp at J;subst J;exact⟨v,ue,hr.1⟩
     |succ i=>simp at J;obtain⟨u,U,h2⟩:=ih vs i s hr.2 J;exact⟨u,by simpa using U,h2⟩
  obtain⟨v,hv,hr⟩:=key ss xs i s h3 hi;exact⟨v,by simp[execOp,h2,Instr.extract,hv],hr⟩
end
theorem RepPV.one{x:PV}{v:Value}(h:RepPV M x v):v.oneCell'=true:=by
 cases x with
 |k y=>simp only[RepPV]at h;simp_all
 |sl e rows=>simp only[RepPV]at h;obtain⟨a,cap,J,_⟩:=h;rw[J];rfl
 |pr row=>simp only[RepPV]at h;obtain⟨b,o,J,_⟩:=h;rw[J];rfl
theorem RepV.one{M:Mem}{ρ:Nat->Value}{x:V}{v:Value}(h:RepV M ρ x v):v.oneCell'=true:=by
 cases x<;>simp only[RepV]at h
 ·exact h.one
 ·obtain⟨b,o,J,_⟩:=h;rw[J];rfl
 ·obtain⟨b,_,J⟩:=h;rw[J];rfl
 ·exact h.2
 ·obtain⟨b,o,n,cap,_,J⟩:=h;rw[J];rfl
 ·exact h.2
 ·obtain⟨b,c,_,J,_⟩:=h;rw[J];rfl
 ·grind
 ·obtain⟨xs,b,o,n,c,_,_,J⟩:=h;rw[J];rfl
 ·rcases h with⟨_,_,_,J⟩|⟨b,o,N,cap,c,_,J,_⟩<;>rw[J]<;>rfl
 ·obtain⟨xs,ys,J,_⟩:=h;rw[J];rfl
theorem RepVs.one{M:Mem}{ρ:Nat->Value}: ∀ {x:List V} {v:List Value},RepVs M ρ x v-> ∀u∈v,u.oneCell'=true
 | [],[],_,u,J=>by cases J
 | [],_::_,h,_,_=>by simp only[RepVs]at h
 |_::_,[],h,_,_=>by simp_all
 |x::xs,v::vs,h,u,J=>by
  simp only[RepVs]at h;rcases uF.1 J with rfl|J
  ·exact h.1.one
  ·exact h.2.one u J
theorem RepVs.length{M:Mem}{ρ:Nat->Value}: ∀ {x:List V} {v:List Value},RepVs M ρ x v->v.length=x.length
 | [],[],_=>rfl
 | [],_::_,h=>by simp only[RepVs]at h
 |_::_,[],h=>by simp only[RepVs]at h
 |x::xs,v::vs,h=>by
  simp only[RepVs]at h;simp[h.2.length]
theorem RepVs.get{M:Mem}{ρ:Nat->Value}: ∀ {x:List V} {v:List Value},RepVs M ρ x v-> ∀ {i:Nat} {y:V},x[i]?=some y-> ∃u,v[i]?=some u/\RepV M ρ y u
 | [],[],_,i,y,hy=>by simp at hy
 | [],_::_,h,_,_,_=>by simp_all
 |_::_,[],h,_,_,_=>by simp only[RepVs]at h
 |x::xs,v::vs,h,i,y,hy=>by
  simp only[RepVs]at h;cases i with
  |zero=>simp_all
  |succ i=>simp at hy;obtain⟨u,h1,h2⟩:=h.2.get hy;simp_all
theorem RepVs.append{M:Mem}{ρ:Nat->Value}: ∀ {x J:List V} {v v':List Value},RepVs M ρ x v->RepVs M ρ J v'->RepVs M ρ (x++J) (v++v')
 | [],_,[],_,_,h'=>by simpa using h'
 | [],_,_::_,_,h,_=>by simp only[RepVs]at h
 |_::_,_,[],_,h,_=>by simp only[RepVs]at h
 |x::xs,_,v::vs,_,h,h'=>by
  simp only[uK,RepVs]at h⊢;exact⟨h.1,h.2.append h'⟩
theorem RepVs.drop{M:Mem}{ρ:Nat->Value}: ∀(j:Nat) {x:List V} {v:List Value},RepVs M ρ x v->RepVs M ρ (x.drop j) (v.drop j)
 |0,_,_,h=>by simpa using h
 |j+1,[],[],_=>by simp[RepVs]
 |j+1,[],_::_,h=>by simp only[RepVs]at h
 |j+1,_::_,[],h=>by simp only[RepVs]at h
 |j+1,x::xs,v::vs,h=>by simp only[RepVs]at h;simpa using h.2.drop j
theorem RepVs.take{M:Mem}{ρ:Nat->Value}: ∀(j:Nat) {x:List V} {v:List Value},RepVs M ρ x v->RepVs M ρ (x.take j) (v.take j)
 |0,_,_,_=>by simp[RepVs]
 |j+1,[],[],_=>by simp[RepVs]
 |j+1,[],_::_,h=>by simp only[RepVs]at h
 |j+1,_::_,[],h=>by simp only[RepVs]at h
 |j+1,x::xs,v::vs,h=>by simp only[RepVs]at h;simp only[tW,RepVs];exact⟨h.1,h.2.take j⟩
theorem RowIn.get{M:Mem}{g:Nat->Option Value}: ∀ {row:List PV} {o:Nat},RowIn M g row o-> ∀ {j:Nat} {x:PV},row[j]?=some x-> ∃c,g (o+j)=some c/\RepPV M x c
 | [],_,_,j,x,hx=>by simp at hx
 |y::ys,o,h,j,x,hx=>by
  simp only[RowIn]at h;cases j with
  |zero=>simp_all
  |succ j=>simp at hx;obtain⟨c,h1,h2⟩:=h.2.get hx;grind
theorem RowIn.drop{M:Mem}{g:Nat->Option Value}: ∀(j:Nat) {row:List PV} {o:Nat},RowIn M g row o->RowIn M g (row.drop j) (o+j)
 |0,_,_,h=>by simpa using h
 |j+1,[],_,_=>by simp[RowIn]
 |j+1,y::ys,o,h=>by
  simp only[RowIn]at h;have:=h.2.drop j
  grind
theorem RowIn.take{M:Mem}{g:Nat->Option Value}: ∀(j:Nat) {row:List PV} {o:Nat},RowIn M g row o->RowIn M g (row.take j) o
 |0,_,_,_=>by simp[RowIn]
 |j+1,[],_,_=>by simp[RowIn]
 |j+1,y::ys,o,h=>by simp only[RowIn]at h;simp only[tW,RowIn];exact⟨h.1,h.2.take j⟩
theorem RowIn.append{M:Mem}{g:Nat->Option Value}: ∀ {r r':List PV} {o:Nat},RowIn M g r o->RowIn M g r' (o+r.length)->RowIn M g (r++r') o
 | [],_,_,_,h'=>by simpa using h'
 |y::ys,r',o,h,h'=>by
  simp only[uK,RowIn]at h⊢;exact⟨h.1,h.2.append (by grind)⟩
theorem RowIn.cells{M:Mem}{ρ:Nat->Value}{g:Nat->Option Value}: ∀ {row:List PV} {o:Nat},RowIn M g row o->
 ∃cs:List Value,RepVs M ρ (row.map V.p) cs/\ ∀j c,cs[j]?=some c->g (o+j)=some c
 | [],_,_=>⟨[],by simp[RepVs],λj c h=>by simp at h⟩
 |y::ys,o,h=>by
  simp only[RowIn]at h;obtain⟨⟨c,h1,h2⟩,h3⟩:=h;obtain⟨cs,h4,h5⟩:=h3.cells (ρ:=ρ);refine⟨c::cs,by simp only[uH,RepVs,RepV];simp_all,λj u hu=>?_⟩
  grind
theorem RowIn.yb{M:Mem}{ρ:Nat->Value}{g:Nat->Option Value}: ∀ {row:List PV} {cs:List Value} {o:Nat},RepVs M ρ (row.map V.p) cs->
 (∀j c,cs[j]?=some c->g (o+j)=some c)->RowIn M g row o
 | [],_,_,_,_=>by simp[RowIn]
 |y::ys,[],_,h,_=>by simp only[uH,RepVs]at h
 |y::ys,c::cs,o,h,hg=>by
  simp only[uH,RepVs,RepV]at h;simp only[RowIn];refine⟨⟨c,by simpa using hg 0 c ue,h.1⟩,RowIn.yb h.2 λj u J=>?_⟩;have:=hg (j+1) u (by simpa using J)
  grind
theorem RowIn.congr{M:Mem}{g J:Nat->Option Value}: ∀ {row:List PV} {o:Nat},(∀j,j<row.length->J (o+j)=g (o+j))->RowIn M g row o->RowIn M J row o
 | [],_,_,_=>by simp[RowIn]
 |y::ys,o,hg,h=>by
  simp only[RowIn]at h⊢;obtain⟨⟨c,h1,h2⟩,h3⟩:=h;refine⟨⟨c,by have:=hg 0 ue;simp_all,h2⟩,RowIn.congr (λj U=>?_) h3⟩;have:=hg (j+1) (by simpa using U)
  grind
theorem RowsIn.get{M:Mem}{g:Nat->Option Value}{e:Nat}: ∀ {rows:List (List PV)} {o:Nat},RowsIn M g e rows o-> ∀ {i:Nat} {r:List PV},rows[i]?=some r->
 r.length=e/\RowIn M g r (o+i*e)
 | [],_,_,i,x,hx=>by simp at hx
 |y::ys,o,h,i,r,hx=>by
  simp only[RowsIn]at h;cases i with
  |zero=>simp_all
  |succ i=>
   simp at hx;have:=h.2.2.get hx
   grind
variable {g:Nat->Option Value}
def RowsIn.len{e:Nat}{o:Nat}(h:RowsIn M g e rows o): ∀r∈rows,r.length=e:=by
 intro r hr;obtain⟨i,J⟩:=tX.1 hr;exact(h.get J).1
theorem RowsIn.append{M:Mem}{g:Nat->Option Value}{e:Nat}: ∀ {rows rows':List (List PV)} {o:Nat},RowsIn M g e rows o->RowsIn M g e rows' (o+rows.length*e)->RowsIn M g e (rows++rows') o
 | [],_,_,_,h'=>by simpa using h'
 |y::ys,rows',o,h,h'=>by
  simp only[uK,RowsIn]at h⊢;refine⟨h.1,h.2.1,h.2.2.append ?_⟩
  grind
theorem RowsIn.take{M:Mem}{g:Nat->Option Value}{e:Nat}: ∀(n:Nat) {rows:List (List PV)} {o:Nat},RowsIn M g e rows o->RowsIn M g e (rows.take n) o
 |0,_,_,_=>by simp[RowsIn]
 |n+1,[],_,_=>by simp[RowsIn]
 |n+1,y::ys,o,h=>by simp only[RowsIn]at h;simp only[tW,RowsIn];exact⟨h.1,h.2.1,h.2.2.take n⟩
theorem RowsIn.drop{M:Mem}{g:Nat->Option Value}{e:Nat}: ∀(n:Nat) {rows:List (List PV)} {o:Nat},RowsIn M g e rows o->RowsIn M g e (rows.drop n) (o+n*e)
 |0,_,_,h=>by simpa using h
 |n+1,[],_,_=>by simp[RowsIn]
 |n+1,y::ys,o,h=>by
  simp only[RowsIn]at h;have:=h.2.2.drop n
  grind
theorem RowsIn.congr{M:Mem}{g J:Nat->Option Value}{e:Nat}: ∀ {rows:List (List PV)} {o:Nat},(∀j,j<rows.length*e->J (o+j)=g (o+j))->RowsIn M g e rows o->RowsIn M J e rows o
 | [],_,_,_=>by simp[RowsIn]
 |y::ys,o,hg,h=>by
  simp only[RowsIn]at h⊢;have U:(ys.length+1)*e=ys.length*e+e:=by rw[tS];omega
  refine⟨h.1,RowIn.congr (λj hj=>hg j ?_) h.2.1,RowsIn.congr (λj hj=>?_) h.2.2⟩
  ·grind
  ·have:=hg (e+j) (by simp only[uX,U];omega)
   grind
theorem RowsIn.cells{M:Mem}{ρ:Nat->Value}{g:Nat->Option Value}{e:Nat}{rows:List (List PV)}{o:Nat}(h:RowsIn M g e rows o):
 ∃cs:List Value,RepVs M ρ (rows.flatten.map V.p) cs/\cs.length=rows.length*e/\ ∀j c,cs[j]?=some c->g (o+j)=some c:=by
 induction rows generalizing o with
 |nil=>exact⟨[],by simp[RepVs],ue,λj c h=>by simp at h⟩
 |cons y ys ih=>
  simp only[RowsIn]at h;obtain⟨c1,J,h2⟩:=h.2.1.cells (ρ:=ρ);obtain⟨c2,h3,h4,h5⟩:=ih h.2.2;have l1:c1.length=e:=by rw[J.length,uj,h.1]
  refine⟨c1++c2,by simp only[tR,u5];exact J.append h3,by grind,λj c hc=>?_⟩
  grind
theorem RowsIn.yb{M:Mem}{ρ:Nat->Value}{g:Nat->Option Value}{e:Nat}: ∀ {rows:List (List PV)} {cs:List Value} {o:Nat},(∀r∈rows,r.length=e)->
 RepVs M ρ (rows.flatten.map V.p) cs->(∀j c,cs[j]?=some c->g (o+j)=some c)->RowsIn M g e rows o
 | [],_,_,_,_,_=>by simp[RowsIn]
 |y::ys,cs,o,hl,h,hg=>by
  have J:y.length=e:=hl y ue;simp only[tR,u5]at h;have U:=h.take e;have h2:=h.drop e;simp only[List.take_append,uj,J,Ue,List.take_zero,uV]at U;rw[u0 (by simp[J])]at U;simp only[List.drop_append,uj,J,Ue,ow]at h2;rw[uC (by simp[J]),tM]at h2;have hlen:=h.length;simp only[RowsIn];refine⟨J,RowIn.yb U λj c hc=>?_,RowsIn.yb (λr hr=>hl r (by simp[hr])) h2 λj c hc=>?_⟩
  ·grind
  grind
def upd(ρ:Nat->Value)(id:Nat)(v:Value):Nat->Value:=λj=>if j=id then v else ρ j
def zo(ρ:Nat->Value)(id:Nat)(v:Value):upd ρ id v id=v:=by simp[upd]
def zP{id:Nat}{v:Value}(h:j≠id):upd ρ id v j=ρ j:=by simp[upd,h]
def yD(ρ:Nat->Value)(id:Nat)(v:Value):zdz (· =id) ρ (upd ρ id v):=λ_ h=>zP h
def cell_of_heap{b o:Nat}(h:w'.heap[b]?=w.heap[b]?):w'.cell? ⟨b,o,none⟩=w.cell? ⟨b,o,none⟩:=by
 simp[World.cell?,h]
def jC{b o:Nat}{v:Value}(h:w.cell? ⟨b,o,none⟩=some v):b<w.heap.size:=by
 rcases tu b w.heap.size with J|J
 ·exact J
 ·simp[World.cell?,oq J]at h
def gone(old:Option Nat):Tab:=match old with|some i=>[(i,none)]|none=>[]
variable {r:Res}{tab:Tab}
theorem znh{old:Option Nat}(h:tg (gone old++tab) j=some r):tg tab j=some r/\old≠some j:=by
 cases old with
 |none=>exact⟨h,ue⟩
 |some i=>
  simp only[gone,uK,tM,zm]at h
  simp_all
variable {r':Res}
def Holds.step(h:Holds C st M ρ a w)(old:Option Nat){id:Nat}{val:Value}
 {v:S} 
 (hheap: ∀b,b<w.heap.size->(∀i r,old=some i->tg st.tab i=some r-> ¬Bk (ρ i) b)->w'.heap[b]?=w.heap[b]?)
 (hsize:w.heap.size<=w'.heap.size) (hos:w'.os=w.os) (htape:w'.tape=w.tape) (hout:w'.output=w.output)
 (hval: ∀b,Bk val b->w.heap.size<=b\/ ∃i r,old=some i/\tg st.tab i=some r/\Bk (ρ i) b)
 (hf:we C id st) (hR:zA M (upd ρ id val) w' id r') (hx:RepS M (upd ρ id val) v x) (hd:dok d st.n=true):
 Holds C (app d v ((id,some r')::gone old) st) M (upd ρ id val) (a.put d x) w':=by
 have hsl: ∀k s,sg st.sl k=some s->RepS M (upd ρ id val) s (a.tmps.getD k undef):=λk s hk=>
  RepS.agree (yD ρ id val) _ _ (λi hi=>by subst hi;exact hf.1 k s hk) (h.slots k s hk)
 -- what an entry of the new table is
 have htab: ∀j r,tg (((id,some r')::gone old)++st.tab) j=some r->(j=id/\r=r')\/(j≠id/\tg st.tab j=some r/\old≠some j):=λj r U=>by
  simp only[uK,zm]at U;split at U
  ·rename_i e;exact .inl ⟨e.symm,(uU U).symm⟩
  ·rename_i e;exact .inr ⟨λh=>e h.symm,(znh U).1,(znh U).2⟩
 have hlt: ∀j r b,tg st.tab j=some r->Bk (ρ j) b->b<w.heap.size:=λj r b U hb=>(h.zz.res j r U).lt hb
 have same: ∀j r b,tg st.tab j=some r->old≠some j->Bk (ρ j) b->w'.heap[b]?=w.heap[b]?:=λj r b U hne hb=>
  hheap b (hlt j r b U hb) λi ri hi hri J=>h.zz.dis i j ri r b hri U (λe=>hne (e ▸ hi)) J hb
 have ne_new: ∀j r b,tg st.tab j=some r->old≠some j->Bk (ρ j) b-> ¬Bk val b:=λj r b U hne hb hv=>by
  rcases hval b hv with h1|⟨i,ri,hi,hri,J⟩
  ·have:=hlt j r b U hb;omega
  ·exact h.zz.dis i j ri r b hri U (λe=>hne (e ▸ hi)) J hb
 have mlt: ∀b o u,M b o=some u->b<w.heap.size:=λb o u hu=>jC (h.run.imm b o u hu)
 have frb: ∀i r b,tg st.tab i=some r->Bk (ρ i) b-> ¬C.fr b:=h.ownf
 have mb: ∀b o u,M b o=some u->w'.heap[b]?=w.heap[b]?:=λb o u hu=>hheap b (mlt b o u hu) λi ri _ hri J=>by
  have:=h.zz.own i ri b hri J o;rw[hu]at this;cases this
 refine⟨by cases d<;>exact h.dfr,?_,?_,⟨?_,?_,?_⟩,?_,⟨?_,?_,?_,h.run.base,h.run.newM,hos.trans h.run.os,htape.trans h.run.tape,hout.trans h.run.output⟩,?_⟩
 ·cases d<;>simp[Act.put,app,h.sz]
 ·intro k s hk;cases d with
  |none=>exact hsl k s hk
  |some d=>
   simp only[app]at hk;rw[yk]at hk;split at hk
   ·rename_i e;subst e;simp at hk;subst hk;rw[yV (by rw[h.sz];exact ziF hd)];exact hx
   ·rename_i e;rw[xH (λh=>e h.symm)];exact hsl k s hk
 ·intro j r U;rcases htab j r U with⟨rfl,rfl⟩|⟨hne,hj',ho⟩
  ·exact hR
  ·exact((h.zz.res j r hj').world (λb hb=>same j r b hj' ho hb)).agree (yD ρ id val) hne (λi hi=>by subst hi;exact(hf.2.1 j r hj').2)
 ·intro i j ri rj b hi U hne J hbj;rcases htab i ri hi with⟨rfl,rfl⟩|⟨hni,hi',hoi⟩<;>rcases htab j rj U with⟨rfl,rfl⟩|⟨hnj,hj',hoj⟩
  ·exact hne rfl
  ·rw[zo]at J;rw[zP hnj]at hbj;grind
  ·rw[zo]at hbj;rw[zP hni]at J;grind
  ·rw[zP hni]at J;rw[zP hnj]at hbj;exact h.zz.dis i j ri rj b hi' hj' hne J hbj
 ·intro j r b U hb o;rcases htab j r U with⟨rfl,rfl⟩|⟨hne,hj',_⟩
  ·rw[zo]at hb;rcases hval b hb with h1|⟨i,ri,_,hri,J⟩
   ·cases hm:M b o with
    |none=>rfl
    |some u=>grind
   ·exact h.zz.own i ri b hri J o
  ·rw[zP hne]at hb;exact h.zz.own j r b hj' hb o
 ·intro j r b U hb;rcases htab j r U with⟨rfl,rfl⟩|⟨hne,hj',_⟩
  ·rw[zo]at hb;rcases hval b hb with h1|⟨i,ri,_,hri,J⟩
   ·intro hfr;have:=hfr.1;have:=h.run.size;omega
   grind
  ·rw[zP hne]at hb;grind
 ·intro b o u hu;rw[cell_of_heap (mb b o u hu)];exact h.run.imm b o u hu
 ·intro b hb;rw[hheap b (qJ hb.1 h.run.size) λi ri _ hri J=>frb i ri b hri J hb];exact h.run.fram b hb
 ·exact tG h.run.size hsize
 ·intro j r U;rw[zP (λe=>by subst e;rw[hf.2.2]at U;cases U)];exact h.keep j r U
def Holds.turn(h:Holds C st M ρ a w){id:Nat}
 {v:S} (hid:tg st.tab id=some r)
 (J: ∀b,¬Bk (ρ id) b->w'.heap[b]?=w.heap[b]?)
 (hsize:w.heap.size<=w'.heap.size) (hos:w'.os=w.os) (htape:w'.tape=w.tape) (hout:w'.output=w.output)
 (hR:zA M ρ w' id r') (hx:RepS M ρ v x) (hd:dok d st.n=true):
 Holds C (app d v [(id,some r')] st) M ρ (a.put d x) w':=by
 have htab: ∀j s,tg ([(id,some r')]++st.tab) j=some s->(j=id/\s=r')\/(j≠id/\tg st.tab j=some s):=λj s U=>by
  simp only[uK,tM,zm]at U;split at U
  ·rename_i e;exact .inl ⟨e.symm,(uU U).symm⟩
  ·rename_i e;exact .inr ⟨λh=>e h.symm,U⟩
 have old: ∀j s,tg ([(id,some r')]++st.tab) j=some s-> ∃s0,tg st.tab j=some s0:=λj s U=>by
  rcases htab j s U with⟨rfl,_⟩|⟨_,h'⟩
  ·exact⟨r,hid⟩
  ·exact⟨s,h'⟩
 have mb: ∀b o u,M b o=some u->w'.heap[b]?=w.heap[b]?:=λb o u hu=>J b λhb=>by
  have:=h.zz.own id r b hid hb o;rw[hu]at this;cases this
 refine⟨by cases d<;>exact h.dfr,?_,?_,⟨?_,?_,?_⟩,?_,⟨?_,?_,?_,h.run.base,h.run.newM,hos.trans h.run.os,htape.trans h.run.tape,hout.trans h.run.output⟩,h.keep⟩
 ·cases d<;>simp[Act.put,app,h.sz]
 ·intro k s hk;cases d with
  |none=>exact h.slots k s hk
  |some d=>
   simp only[app]at hk;rw[yk]at hk;split at hk
   ·rename_i e;subst e;simp at hk;subst hk;rw[yV (by rw[h.sz];exact ziF hd)];exact hx
   ·rename_i e;rw[xH (λh=>e h.symm)];exact h.slots k s hk
 ·intro j s U;rcases htab j s U with⟨rfl,rfl⟩|⟨hne,hj'⟩
  ·exact hR
  ·exact(h.zz.res j s hj').world λb hb=>J b λhbi=>h.zz.dis id j r s b hid hj' (λe=>hne e.symm) hbi hb
 ·intro i j ri rj b hi U hne hbi hbj;obtain⟨si,hsi⟩:=old i ri hi;obtain⟨sj,hsj⟩:=old j rj U;exact h.zz.dis i j si sj b hsi hsj hne hbi hbj
 ·intro j s b U hb o;obtain⟨sj,hsj⟩:=old j s U;exact h.zz.own j sj b hsj hb o
 ·intro j s b U hb;obtain⟨sj,hsj⟩:=old j s U;exact h.ownf j sj b hsj hb
 ·intro b o u hu;rw[cell_of_heap (mb b o u hu)];exact h.run.imm b o u hu
 ·intro b hb;rw[J b λhbi=>h.ownf id r b hid hbi hb];exact h.run.fram b hb
 ·exact tG h.run.size hsize
def Holds.grow(h:Holds C st M ρ a w)
 (J: ∀b,b<w.heap.size->w'.heap[b]?=w.heap[b]?)
 (U:w.heap.size<=w'.heap.size) (hos:w'.os=w.os) (htape:w'.tape=w.tape) (hout:w'.output=w.output):Holds C st M ρ a w' where
 dfr:=h.dfr
 sz:=h.sz
 slots:=h.slots
 zz:=⟨λj s hj=>(h.zz.res j s hj).world λb hb=>J b ((h.zz.res j s hj).lt hb),h.zz.dis,h.zz.own⟩
 ownf:=h.ownf
 run:=⟨λb o u hu=>by rw[cell_of_heap (J b (jC (h.run.imm b o u hu)))];exact h.run.imm b o u hu,
  λb hb=>by rw[J b (qJ hb.1 h.run.size)];exact h.run.fram b hb,tG h.run.size U,h.run.base,h.run.newM,
  hos.trans h.run.os,htape.trans h.run.tape,hout.trans h.run.output⟩
 keep:=h.keep
def shp(P:Program)(t:TypeId):Option (Option Nat):=
 match P.underlying t,P.info? t with
 |some (.struct _),some i=>some (some i.size)
 |some (.array _ _),some i=>some (some i.size)
 |some _,some i=>if i.size=1 then some none else none
 |_,_=>none
def fieldOff(P:Program)(t:TypeId)(f:Nat):Option Nat:=
 match P.underlying t with
 |some (.struct fs)=>match fs[f]? with
  |some fd=>match P.info? fd.type with
   |some i=>if i.size=0 then none else some fd.offset
   |none=>none
  |none=>none
 |_=>none
def elemSz(P:Program)(t:TypeId):Option (TypeId×Nat):=
 match P.underlying t with
 |some (.slice e)=>match P.info? e with
  |some i=>some (e,i.size)
  |none=>none
 |_=>none
def zee{f n:Nat}(h:fieldOff P t f=some n):
 ∃fs fd i,P.underlying t=some (.struct fs)/\fs[f]?=some fd/\P.info? fd.type=some i/\i.size≠0/\fd.offset=n:=by
 unfold fieldOff at h
 grind
def zp{e:TypeId}{n:Nat}(h:elemSz P t=some (e,n)): ∃i,P.underlying t=some (.slice e)/\P.info? e=some i/\i.size=n:=by
 unfold elemSz at h
 grind
def zni(h:shp P t=some none): ∃ds i,P.underlying t=some ds/\P.info? t=some i/\i.size=1/\(∀fs,ds≠ .struct fs)/\(∀n e,ds≠ .array n e):=by
 unfold shp at h
 grind
def ziG{n:Nat}(h:shp P t=some (some n)): ∃ds i,P.underlying t=some ds/\P.info? t=some i/\i.size=n/\((∃fs,ds= .struct fs)\/ ∃k e,ds= .array k e):=by
 unfold shp at h
 grind
def jY(h:shp P t=some none)(w:World):(isAgg t).run P w= .ok false w:=by
 obtain⟨ds,i,J,_,_,U,h2⟩:=zni h;simp only[isAgg,Sem.run_bind,run_underlying J,Result.andThen_ok];cases ds<;>first|rfl|exact absurd rfl (U _)|exact absurd rfl (h2 _ _)
def zcz{n:Nat}(h:shp P t=some (some n))(w:World):(isAgg t).run P w= .ok true w:=by
 obtain⟨ds,i,J,_,_,U⟩:=ziG h;simp only[isAgg,Sem.run_bind,run_underlying J,Result.andThen_ok];rcases U with⟨fs,rfl⟩|⟨k,e,rfl⟩<;>rfl
def run_sizeOf{i:TypeInfo}(h:P.info? t=some i)(w:World):(Go.sizeOf t).run P w= .ok i.size w:=by
 simp[Go.sizeOf,typeInfo,h]
theorem zab{s:Option Nat}(h:shp P t=some s): ∃i,P.info? t=some i/\i.size=s.getD 1:=by
 cases s with
 |none=>obtain⟨_,i,_,J,U,_⟩:=zni h;simp_all
 |some n=>obtain⟨_,i,_,J,U,_⟩:=ziG h;simp_all
def zT(b o n:Nat):(⟨b,o,none⟩:Addr).add n=⟨b,o+n,none⟩:=by
 unfold Addr.add;simp_all
def zcg(h:shp P t=some none){b o:Nat}{v:Value}(J:w.cell? ⟨b,o,none⟩=some v):
 (loadVar t ⟨b,o,none⟩).run P w= .ok v w:=by
 simp[loadVar,jY h,J]
variable {cs:List Value}
def za7{n:Nat}(h:shp P t=some (some n)){b o:Nat}(U:cs.length=n)
 (hc: ∀j v,cs[j]?=some v->w.cell? ⟨b,o+j,none⟩=some v):(loadVar t ⟨b,o,none⟩).run P w= .ok (.agg cs.toArray) w:=by
 obtain⟨i,hi,J⟩:=zab h;have:=run_loadCells_list (P:=P) w ⟨b,o,none⟩ cs (λj v hv=>by rw[zT];exact hc j v hv);simp only[Option.getD_some]at J;simp[loadVar,zcz h,run_sizeOf hi,J,<-U,this]
def ofCells(s:Option Nat)(vs:List V):Option S:=
 match s with
 |none=>match vs with|v::_=>some (.one v)| []=>none
 |some n=>if vs.length<n then none else some (.agg (vs.take n))
theorem yd{s:Option Nat}(h:shp P t=some s){b o:Nat}{vs:List V}{v:S}
 (hr:RepVs M ρ vs cs) (J: ∀j u,cs[j]?=some u->w.cell? ⟨b,o+j,none⟩=some u) (hv:ofCells s vs=some v):
 ∃x,(loadVar t ⟨b,o,none⟩).run P w= .ok x w/\RepS M ρ v x:=by
 cases s with
 |none=>
  cases vs with
  |nil=>simp[ofCells]at hv
  |cons y ys=>
   simp only[ofCells,ui]at hv;subst hv;cases cs with
   |nil=>simp only[RepVs]at hr
   |cons c cs=>
    simp only[RepVs]at hr;exact⟨c,zcg h (by simpa using J 0 c ue),by simp only[RepS];exact hr.1⟩
 |some n=>
  simp only[ofCells]at hv;split at hv
  ·cases hv
  ·rename_i hl;simp only[ui]at hv;subst hv;have hlen:=hr.length;refine⟨.agg (cs.take n).toArray,za7 h ug (λj u hu=>?_),by simp only[RepS];exact⟨cs.take n,rfl,hr.take n⟩⟩
   grind
variable {aZ:Array TypeId}{el:TypeId}{row:List PV}
section
variable {ty:TypeId} {g:Option (Nat×Bool)} {x y z:Operand}
def jW{f n b o:Nat}(h:fieldOff P t f=some n)(w:World):(Instr.fieldAt t (.pointer (some ⟨b,o,none⟩)) f).run P w= .ok (.pointer (some ⟨b,o+n,none⟩)) w:=by
 obtain⟨fs,fd,i,U,J,hi,hs,ho⟩:=zee h;simp[Instr.fieldAt,run_underlying U,J,Instr.sureAddr,fieldPlace,run_sizeOf hi,hs,zT,ho]
def zjD{f n:Nat}(J:okc x (.one (.pi row j)))(h:fieldOff P t f=some n):
 Snd P ⟨d,.fieldAddr t x f,ty,ps,af,g⟩ (rq x (.one (.pi row j))) [] [] (.one (.pi row (j+n))) []:=
 zi λC st M ρ a w U h1 _=>by
  have e:=U.evS (zq J h1);simp only[RepS,RepV]at e;obtain⟨b,o,e1,e2⟩:=e;exact⟨_,by simp only[execOp,e1,Sem.run_bind,jW h,Result.andThen_ok];rfl,by simp only[RepS,RepV];grind⟩
def zjE{id f n:Nat}(J:okc x (.one (.bx id j)))(h:fieldOff P t f=some n):
 Snd P ⟨d,.fieldAddr t x f,ty,ps,af,g⟩ (rq x (.one (.bx id j))) [] [] (.one (.bx id (j+n))) []:=
 zi λC st M ρ a w U h1 _=>by
  have e:=U.evS (zq J h1);simp only[RepS,RepV]at e;obtain⟨b,e1,e2⟩:=e;exact⟨_,by simp only[execOp,e2,Sem.run_bind,jW h,Result.andThen_ok];rfl,by simp only[RepS,RepV];simp_all⟩
def zjF{id k f n:Nat}(J:okc x (.one (.el id k)))(h:fieldOff P t f=some n):
 Snd P ⟨d,.fieldAddr t x f,ty,ps,af,g⟩ (rq x (.one (.el id k))) [] [] (.one (.el id (k+n))) []:=
 zi λC st M ρ a w U h1 _=>by
  have e:=U.evS (zq J h1);simp only[RepS,RepV]at e;obtain⟨b,o,m,cap,e1,e2⟩:=e;exact⟨_,by simp only[execOp,e2,Sem.run_bind,jW h,Result.andThen_ok];rfl,by simp only[RepS,RepV];grind⟩
def znj{s:Option Nat}{v:S}(U:okc x (.one (.pi row j)))(h:shp P t=some s)(hv:ofCells s ((row.drop j).map V.p)=some v):
 Snd P ⟨d,.load t x,ty,ps,af,g⟩ (rq x (.one (.pi row j))) [] [] v []:=
 zi λC st M ρ a w J h1 _=>by
  have e:=J.evS (zq U h1);simp only[RepS,RepV]at e;obtain⟨b,o,e1,e2⟩:=e;obtain⟨cs,h2,h3⟩:=(e2.drop j).cells (ρ:=ρ);obtain⟨u,hu,hr⟩:=yd (w:=w) h h2 (λi c hc=>J.run.imm b (o+j+i) c (h3 i c hc)) hv;exact⟨u,by simp only[execOp,e1,Sem.run_bind,Instr.loadAt,Instr.sureAddr,Sem.run_pure,Result.andThen_ok,hu],hr⟩
def znk{id:Nat}{vs:List V}{s:Option Nat}{v:S}(hx:okc x (.one (.bx id j)))(h:shp P t=some s)(hv:ofCells s (vs.drop j)=some v):
 Snd P ⟨d,.load t x,ty,ps,af,g⟩ (rq x (.one (.bx id j))) [(id,.box vs)] [] v []:=
 zi λC st M ρ a w J h1 ht=>by
  have e:=J.evS (zq hx h1);simp only[RepS,RepV]at e;obtain⟨b,e1,e2⟩:=e;obtain⟨b',cs,el,h2,h3,h4⟩:=J.zz.res id _ ht.1;rw[e1]at h2;simp at h2;subst h2
  obtain⟨u,hu,hr⟩:=yd (w:=w) (b:=b) (o:=j) h (h4.drop j) (λi c U=>by
   rw[tc]at U
   simp[World.cell?,h3,U]) hv
  exact⟨u,by simp only[execOp,e2,Sem.run_bind,Instr.loadAt,Instr.sureAddr,Sem.run_pure,Result.andThen_ok,hu],hr⟩
def znl{id k e:Nat}{s:Option Nat}{v:S}(hx:okc x (.one (.el id k)))(h:shp P t=some s)
 (hk:k=i*e+j) (hi:rows[i]?=some row) (hv:ofCells s ((row.drop j).map V.p)=some v):
 Snd P ⟨d,.load t x,ty,ps,af,g⟩ (rq x (.one (.el id k))) [(id,.arr e rows)] [] v []:=
 zi λC st M ρ a w hH h1 ht=>by
  have e':=hH.evS (zq hx h1);simp only[RepS,RepV]at e';obtain⟨b,o,m,cap,e1,e2⟩:=e';obtain⟨a',cap',h2,h3,h4,J⟩:=hH.zz.res id _ ht.1;rw[e1]at h2;simp only[Value.slice.injEq]at h2;rcases J with⟨J,_⟩|⟨b',o',cs,el,fz,J,h6,h6',h7,h8⟩
  ·simp_all
  ·rw[J]at h2;have hb:b=b'/\o=o':=by have:=h2.1;simp at this;exact this
   obtain⟨rfl,rfl⟩:=hb;obtain⟨ds,h9,U⟩:=((h8.get hi).2.drop j).cells (ρ:=ρ)
   obtain⟨u,hu,hr⟩:=yd (w:=w) (b:=b) (o:=o+i*e+j) h h9 (λq c hc=>by
    have:=U q c hc
    simp[World.cell?,h6,this]) hv
   subst hk;rw[<-qF]at e2;exact⟨u,by simp only[execOp,e2,Sem.run_bind,Instr.loadAt,Instr.sureAddr,Sem.run_pure,Result.andThen_ok,hu],hr⟩
def zef{id:Nat}(J:okc x (.one (.bx id j))):Snd P ⟨d,.nilCheck x,ty,ps,af,g⟩ (rq x (.one (.bx id j))) [] [] (.one (.bx id j)) []:=
 zi λC st M ρ a w U h1 _=>by
  have e:=U.evS (zq J h1);have e':=e;simp only[RepS,RepV]at e;obtain⟨b,e1,e2⟩:=e;exact⟨a.eval x,by simp[execOp,e2],e'⟩
def zeg{id:Nat}(J:okc x (.one (.el id j))):Snd P ⟨d,.nilCheck x,ty,ps,af,g⟩ (rq x (.one (.el id j))) [] [] (.one (.el id j)) []:=
 zi λC st M ρ a w U h1 _=>by
  have e:=U.evS (zq J h1);have e':=e;simp only[RepS,RepV]at e;obtain⟨b,o,m,cap,e1,e2⟩:=e;exact⟨a.eval x,by simp[execOp,e2],e'⟩
def zaI{e:Nat}{i:Int}{k:IntKind}(hx:okc x (.one (.p (.sl e rows))))(hy:okc y (Kk k i))
 (h:elemSz P t=some (el,e)) (h0:0<=i) (hi:rows[i.toNat]?=some row):
 Snd P ⟨d,.indexAddr t x y,ty,ps,af,g⟩ (rq x (.one (.p (.sl e rows)))++rq y (Kk k i)) [] [] (.one (.pi row 0)) []:=
 zi λC st M ρ a w hH h1 _=>by
  rw[ze]at h1;have e':=hH.evS (zq hx h1.1);have e2:=hH.k (zq hy h1.2);simp only[RepS,RepV,RepPV]at e';obtain⟨a',cap,h3,h4,h5,U⟩:=e';obtain⟨ii,hu,J,hsz⟩:=zp h
  have hlt:i.toNat<rows.length:=by
   rcases tu i.toNat rows.length with h'|h'
   ·exact h'
   ·rw[tY h']at hi;cases hi
  rcases U with U|⟨b,o,U,h7⟩
  ·simp_all
  ·subst U;have h8:=h7.get hi;refine⟨.pointer (some ⟨b,o+i.toNat*e,none⟩),?_,by simp only[RepS,RepV];grind⟩;simp only[execOp,h3,e2,Instr.indexAt,asIntOf,Sem.run_bind,Sem.run_pure,Result.andThen_ok,run_underlying hu];rw[uw ⟨h0,ua⟩];simp only[Sem.run_bind,Sem.run_pure,Result.andThen_ok,run_sizeOf J,zT,hsz]
def zjG{id e:Nat}{i:Int}{k:IntKind}(hx:okc x (.one (.ar id)))(hy:okc y (Kk k i))
 (h:elemSz P t=some (el,e)) (h0:0<=i) (hi:i<rows.length):
 Snd P ⟨d,.indexAddr t x y,ty,ps,af,g⟩ (rq x (.one (.ar id))++rq y (Kk k i)) [(id,.arr e rows)] [] (.one (.el id (i.toNat*e))) []:=
 zi λC st M ρ a w hH h1 ht=>by
  rw[ze]at h1;have e':=hH.evS (zq hx h1.1);have e2:=hH.k (zq hy h1.2);simp only[RepS,RepV]at e';obtain⟨a',cap,h3,h4,h5,U⟩:=hH.zz.res id _ ht.1;obtain⟨ii,hu,J,hsz⟩:=zp h;rcases U with⟨U,h7⟩|⟨b,o,cs,el',fz,U,_⟩
  ·subst h7;omega
  ·subst U;refine⟨.pointer (some ⟨b,o+i.toNat*e,none⟩),?_,by simp only[RepS,RepV];simp_all⟩;rw[h3]at e';simp only[execOp,e'.1,e2,Instr.indexAt,asIntOf,Sem.run_bind,Sem.run_pure,Result.andThen_ok,run_underlying hu];rw[uw ⟨h0,hi⟩];simp only[Sem.run_bind,Sem.run_pure,Result.andThen_ok,run_sizeOf J,zT,hsz]
def zhe{s:ByteArray}{i:Int}{k:IntKind}{c:UInt8}(hx:okc x (Sr s))(hy:okc y (Kk k i))(ht:P.underlying t=some .string)(h0:0<=i)(hi:s[i.toNat]?=some c):
 Snd P ⟨d,.index t x y,ty,ps,af,g⟩ (rq x (Sr s)++rq y (Kk k i)) [] [] (Kk .u8 c.toNat) []:=
 zi λC st M ρ a w U J _=>by
  rw[ze]at J;have e1:=U.k (zq hx J.1);have e2:=U.k (zq hy J.2);exact⟨.int .u8 c.toNat,by simp[execOp,e1,e2,Instr.index,asIntOf,run_underlying ht,h0,hi],zjP _ _⟩
def zpN{e:Nat}{n:Nat}(U:okc x (.one (.p (.sl e rows))))(ha:aZ[0]?=some t)(h:elemSz P t=some (el,n)):
 Snd P ⟨d,.call ⟨.builtin .len,#[x],aZ⟩,ty,ps,af,g⟩ (rq x (.one (.p (.sl e rows)))) [] [] (I rows.length) []:=
 zi λC st M ρ a w hH h1 _=>by
  have J:=hH.evS (zq U h1);simp only[RepS,RepV,RepPV]at J;obtain⟨a',cap,h3,h4,h5,h6⟩:=J;obtain⟨ii,hu,hinf,hsz⟩:=zp h;exact⟨.int .i64 rows.length,by simp[execOp,resolve,invoke,builtin,Builtin.len_,ha,h3,run_underlying hu,goInt],zjP _ _⟩
def zpO{id e:Nat}{n:Nat}(hx:okc x (.one (.ar id)))(ha:aZ[0]?=some t)(h:elemSz P t=some (el,n)):
 Snd P ⟨d,.call ⟨.builtin .len,#[x],aZ⟩,ty,ps,af,g⟩ (rq x (.one (.ar id))) [(id,.arr e rows)] [] (I rows.length) []:=
 zi λC st M ρ a w U h1 ht=>by
  have J:=U.evS (zq hx h1);simp only[RepS,RepV]at J;obtain⟨a',cap,h3,h4,h5,h6⟩:=U.zz.res id _ ht.1;obtain⟨ii,hu,hinf,hsz⟩:=zp h;rw[h3]at J;exact⟨.int .i64 rows.length,by simp[execOp,resolve,invoke,builtin,Builtin.len_,ha,J.1,run_underlying hu,goInt],zjP _ _⟩
def znm{n:Nat}(J:okc x (.one (.p (.k (.slice none 0 0)))))(ha:aZ[0]?=some t)(h:elemSz P t=some (el,n)):
 Snd P ⟨d,.call ⟨.builtin .len,#[x],aZ⟩,ty,ps,af,g⟩ (rq x (.one (.p (.k (.slice none 0 0))))) [] [] (I 0) []:=
 zi λC st M ρ a w U h1 _=>by
  have e':=U.k (zq J h1);obtain⟨ii,hu,hinf,hsz⟩:=zp h;exact⟨.int .i64 0,by simp[execOp,resolve,invoke,builtin,Builtin.len_,ha,e',run_underlying hu,goInt],zjP _ _⟩
def znn{s:ByteArray}(J:okc x (Sr s))(ha:aZ[0]?=some t)(h:P.underlying t=some .string):
 Snd P ⟨d,.call ⟨.builtin .len,#[x],aZ⟩,ty,ps,af,g⟩ (rq x (Sr s)) [] [] (I s.size) []:=
 zi λC st M ρ a w U h1 _=>by
  have e':=U.k (zq J h1);exact⟨.int .i64 s.size,by simp[execOp,resolve,invoke,builtin,Builtin.len_,ha,e',run_underlying h,goInt],zjP _ _⟩
end
def cellsOf:S->Option (List V)
 | .one v=>some [v]
 | .agg vs=>some vs
 | .bq b=>some [.p (.k (.bool b))]
 |_=>none
def zno(h:x.oneCell'=true):x.cells= #[x]:=by
 cases x<;>first|rfl|(simp[Value.oneCell']at h)
theorem yz{s:S}{vs:List V}(h:cellsOf s=some vs)(hr:RepS M ρ s x):
 RepVs M ρ vs x.cells.toList:=by
 cases s with
 |one v=>
  simp only[cellsOf,ui]at h;subst h;simp only[RepS]at hr;rw[zno hr.one];simp only[RepVs];simp_all
 |agg ws=>
  simp only[cellsOf,ui]at h;subst h;simp only[RepS]at hr;obtain⟨cs,J,h2⟩:=hr;rw[J];simpa [Value.cells]using h2
 |tup _=>simp[cellsOf]at h
 |gd _ _=>simp[cellsOf]at h
 |bq b=>
  simp only[cellsOf,ui]at h;subst h;simp only[RepS]at hr;subst hr;simp only[Value.cells,RepVs,RepV,RepPV];exact⟨⟨uh,rfl⟩,uh⟩
 |un=>simp[cellsOf]at h
variable {α:Type}
def setAt(vs:List α)(j:Nat)(us:List α):List α:=vs.take j++us++vs.drop (j+us.length)
theorem RepVs.setAt{M:Mem}{ρ:Nat->Value}{vs us:List V}{cs ds:List Value}(h:RepVs M ρ vs cs)(J:RepVs M ρ us ds)(j:Nat):
 RepVs M ρ (setAt vs j us) (setAt cs j ds):=by
 unfold Hw.setAt;rw[J.length];exact((h.take j).append J).append (h.drop _)
theorem zG{P:Program}(g o:Nat)(t:TypeId)(fz:Nat×Nat): ∀(vs:List Value) (i:Nat) (cur:Array Value) (w:World),
 w.heap[g]?=some (.cells cur t fz)->zas fz cur.size->o+i+vs.length<=cur.size->(∀v∈vs,v.oneCell'=true)->
 (storeCells ⟨g,o,none⟩ vs i).run P w= .ok () (w.setRow g (setAt cur.toList (o+i) vs).toArray)
 | [],i,cur,w,hg,_,_,_=>by
   simp only[setAt,storeCells,uV,tN,qe,ql,oG];rw[setRow_self w g cur t fz hg];rfl
 |v::rest,i,cur,w,hg,hu,hl,h1=>by
  have hi:o+i<cur.size:=by simp at hl;omega
  have U:(⟨g,o,none⟩:Addr).add i=⟨g,o+i,none⟩:=zT g o i;have J:w.cell? ⟨g,o+i,none⟩=some cur[o+i]:=by simp[World.cell?,hg,hi]
  have hfro:w.frozen? ⟨g,o+i,none⟩=false:=by
   have:=hu (o+i) hi;simp only[World.frozen?,hg];exact this
  have hst:(store ((⟨g,o,none⟩:Addr).add i) v).run P w= .ok () (w.setRow g (cur.setIfInBounds (o+i) v)):=by
   rw[U,run_store P w _ v _ (h1 v ue),J];simp[hfro,setCell_eq_setRow w g (o+i) cur t fz v hg]
  have ih:=zG (P:=P) g o t fz rest (i+1) (cur.setIfInBounds (o+i) v) (w.setRow g (cur.setIfInBounds (o+i) v)) (setRow_heap w g cur _ t _ hg)
   (by simpa using hu) (by simp at hl ⊢; omega) (λx hx=>h1 x (by simp[hx]))
  simp only[storeCells,Sem.run_bind,hst,Result.andThen_ok,ih,setRow_setRow]
  congr 3
  have e:=list_seg_step cur.toList (o+i) v rest (by simp at hl ⊢; omega);simpa [setAt,oP,qF]using e
def yh(l us:List α)(k j:Nat)(hk:k<=l.length):
 (setAt l k us)[j]?=if j<k then l[j]? else if j<k+us.length then us[j - k]? else l[j]?:=by
 unfold setAt
 grind
def z8(l us:List α)(k:Nat)(hk:k+us.length<=l.length):(setAt l k us).length=l.length:=by
 unfold setAt;simp;omega
variable {pl:List (Nat×Nat)}{sh:Option Nat}
section
variable {ty:TypeId} {g:Option (Nat×Bool)} {x y z:Operand}
def yW(w:World)(b:Nat)(cs:Array Value): ∀k,k≠b->(w.setRow b cs).heap[k]?=w.heap[k]?:=λk hk=>setRow_other w b k cs hk
def zjH{id:Nat}{vs us:List V}{s:S}(hx:okc x (.one (.bx id j)))(hy:okc y s)(h:shp P t=some sh)(hc:cellsOf s=some us)
 (hl:us.length=sh.getD 1) (hb:j+us.length<=vs.length):
 Snd P ⟨d,.store t x y,ty,ps,af,g⟩ (rq x (.one (.bx id j))++rq y s) [(id,.box vs)] [] .un [(id,some (.box (setAt vs j us)))]:=by
 intro C st M ρ a w hH h1 ht _ hd k Q hk;rw[ze]at h1;have e:=hH.evS (zq hx h1.1);have e':=yz hc (hH.evS (zq hy h1.2));simp only[RepS,RepV]at e;obtain⟨b,e1,e2⟩:=e;obtain⟨b',cs,el,h2,h3,h4⟩:=hH.zz.res id _ ht.1;rw[e1]at h2;simp at h2;subst h2;obtain⟨i,hi,hs⟩:=zab h;have J:=e'.length;have hst:=zG (P:=P) b j el (0,0) (a.eval y).cells.toList 0 cs.toArray w h3 (λi _=>by simp) (by rw[J];simp[h4.length];omega) e'.one
 have U:(execOp a.eval ⟨d,.store t x y,ty,ps,af,g⟩).run P w= .ok .skip (w.setRow b (setAt cs j (a.eval y).cells.toList).toArray):=by
  have hsz: ¬((a.eval y).cells.size≠i.size):=by rw[hs,<-hl,<-J];simp
  simp only[execOp,e2,Instr.storeAt,Instr.sureAddr,Sem.run_bind,Sem.run_pure,Result.andThen_ok,storeVar,run_sizeOf hi,ur hsz];simp only[hst,Result.andThen_ok,qe]
 unfold Oper.wp;rw[U,Oper.upon_skip];refine hk _ _ M ρ (hH.turn ht.1 (λk hk=>setRow_other w b k _ (λe=>hk (by simp[e1,Bk,blk,e]))) ue rfl rfl rfl ⟨b,setAt cs j (a.eval y).cells.toList,el,e1,?_,h4.setAt e' j⟩ (by simp only[RepS]) hd);exact setRow_heap w b _ _ el _ h3
def zjI{id kk e:Nat}{us:List PV}{s:S}(hx:okc x (.one (.el id kk)))(hy:okc y s)(h:shp P t=some sh)
 (hc:cellsOf s=some (us.map V.p)) (hl:us.length=sh.getD 1) (hkk:kk=i*e+j) (hi:rows[i]?=some row) (hb:j+us.length<=e):
 Snd P ⟨d,.store t x y,ty,ps,af,g⟩ (rq x (.one (.el id kk))++rq y s) [(id,.arr e rows)] [] .un [(id,some (.arr e (rows.set i (setAt row j us))))]:=by
 intro C st M ρ a w hH h1 ht _ hd k Q hk;rw[ze]at h1;have e0:=hH.evS (zq hx h1.1);have e':=yz hc (hH.evS (zq hy h1.2));simp only[RepS,RepV]at e0;obtain⟨b,o,m,cap,e1,e2⟩:=e0;obtain⟨a',cap',h2,h3,h4,h5⟩:=hH.zz.res id _ ht.1;have h2':=h2;rw[e1]at h2;simp only[Value.slice.injEq]at h2
 have hilt:i<rows.length:=by
  rcases tu i rows.length with h'|h'
  ·exact h'
  ·rw[tY h']at hi;cases hi
 rcases h5 with⟨h5,_⟩|⟨b',o',cs,el,fz,h5,h6,h6',h7,h8⟩
 ·omega
 ·rw[h5]at h2;have hbo:b=b'/\o=o':=by have:=h2.1;simp at this;exact this
  obtain⟨rfl,rfl⟩:=hbo;subst hkk;obtain⟨ii,hinf,hs⟩:=zab h;have U:(a.eval y).cells.toList.length=us.length:=by rw[e'.length,uj]
  have hie:i*e+e<=cap'*e:=by
   have:(i+1)*e<=cap'*e:=tz e ua;rwa [tS,UA]at this
  have hst:=zG (P:=P) b (o+(i*e+j)) el fz (a.eval y).cells.toList 0 cs w h6 h6' (by rw[U];omega) e'.one
  have hrun:(execOp a.eval ⟨d,.store t x y,ty,ps,af,g⟩).run P w= .ok .skip (w.setRow b (setAt cs.toList (o+(i*e+j)) (a.eval y).cells.toList).toArray):=by
   have hsz: ¬((a.eval y).cells.size≠ii.size):=by rw[hs,<-hl,<-U];simp
   simp only[execOp,e2,Instr.storeAt,Instr.sureAddr,Sem.run_bind,Sem.run_pure,Result.andThen_ok,storeVar,run_sizeOf hinf,ur hsz];simp only[hst,Result.andThen_ok,qe]
  unfold Oper.wp;rw[hrun,Oper.upon_skip];have hrowlen:=(h8.get hi).1;have hcsl:o+(i*e+j)+(a.eval y).cells.toList.length<=cs.toList.length:=by rw[U];simp;omega
  -- the new rows
  have hnew:RowsIn M (λq=>(setAt cs.toList (o+(i*e+j)) (a.eval y).cells.toList)[q]?) e (rows.set i (setAt row j us)) o:=by
   have J: ∀q:Nat,(λq:Nat=>(setAt cs.toList (o+(i*e+j)) (a.eval y).cells.toList)[q]?) q=
    if q<o+(i*e+j)then cs[q]? else if q<o+(i*e+j)+us.length then(a.eval y).cells.toList[q - (o+(i*e+j))]? else cs[q]?:=λq=>by
    simp only[];rw[yh _ _ _ _ ua,U];simp
   generalize (λq:Nat=>(setAt cs.toList (o+(i*e+j)) (a.eval y).cells.toList)[q]?)=g' at J⊢
   have hsplit:rows.set i (setAt row j us)=rows.take i++(setAt row j us::rows.drop (i+1)):=by
    rw[List.set_eq_take_append_cons_drop,uw hilt]
   rw[hsplit];have htl:(rows.take i).length=i:=by simp;omega
   refine RowsIn.append (RowsIn.congr (λq hq=>?_) (h8.take i)) ?_
   ·rw[htl]at hq;rw[J,uw ua]
   ·rw[htl];simp only[RowsIn];have hsl:(setAt row j us).length=e:=by rw[z8 _ _ _ ua];exact hrowlen
    refine⟨hsl,?_,RowsIn.congr (λq hq=>?_) (by have:=h8.drop (i+1);rwa [tS,UA,<-qF]at this)⟩
    ·unfold setAt;have hr:=(h8.get hi).2;have p1:RowIn M g' (row.take j) (o+i*e):=RowIn.congr (λq hq=>by simp at hq;rw[J,uw ua]) (hr.take j);have htj:(row.take j).length=j:=by simp;omega
     have p2:RowIn M g' us (o+i*e+j):=RowIn.yb e' λq c hq=>by
      have hql:q<(a.eval y).cells.toList.length:=by
       rcases tu q (a.eval y).cells.toList.length with h'|h'
       ·exact h'
       ·rw[tY h']at hq;cases hq
      rw[J,ur ua,uw ua,<-hq];congr 1;omega
     have p3:RowIn M g' (row.drop (j+us.length)) (o+i*e+(j+us.length)):=
      RowIn.congr (λq hq=>by simp only[tD]at hq;rw[J,ur ua,ur ua]) (hr.drop (j+us.length))
     refine RowIn.append (RowIn.append p1 (by rw[htj];exact p2)) ?_;have:(List.take j row++us).length=j+us.length:=by simp;omega
     rw[this];exact p3
    ·rw[J,ur ua,ur ua]
  refine hk _ _ M ρ (hH.turn ht.1 (λk hk=>setRow_other w b k _ (λe=>hk (by simp[h2',h5,Bk,blk,e]))) ue rfl rfl rfl
   ⟨a',cap',by simp_all,by simpa using h3,by simpa using h4,.inr ⟨b,o,_,el,fz,h5,setRow_heap w b _ _ el _ h6,?_,?_,?_⟩⟩ (by simp only[RepS]) hd)
  ·have:(setAt cs.toList (o+(i*e+j)) (a.eval y).cells.toList).toArray.size=cs.size:=by simp[z8 _ _ _ hcsl]
   simp_all
  ·have:(setAt cs.toList (o+(i*e+j)) (a.eval y).cells.toList).toArray.size=cs.size:=by simp[z8 _ _ _ hcsl]
   omega
  ·simpa using hnew
def zJ(w:World)(o:Obj):(w.alloc o).heap[w.heap.size]?=some o:=by
 show(w.heap.push o)[w.heap.size]?=_;simp
def z1(w:World)(o:Obj)(b:Nat)(h:b<w.heap.size):(w.alloc o).heap[b]?=w.heap[b]?:=by
 show(w.heap.push o)[b]?=_;grind
theorem Holds.alloc{C:Ctx}{st:St}{M:Mem}{ρ:Nat->Value}{a:Act}{w:World}(h:Holds C st M ρ a w){id:Nat}{val:Value}{r':Res}{o:Obj}
 {v:S} {u:Value} (hval: ∀b,Bk val b->b=w.heap.size) (hf:we C id st) (U:zA M (upd ρ id val) (w.alloc o) id r')
 (hx:RepS M (upd ρ id val) v u) (hd:dok d st.n=true):Holds C (app d v [(id,some r')] st) M (upd ρ id val) (a.put d u) (w.alloc o):=
 h.step none (λb J _=>z1 w o b J) ue rfl rfl rfl (λb J=> .inl (by grind)) hf U hx hd
def zxE{id:Nat}{s:S}{vs:List V}(J:okc x s)(U:cellsOf s=some vs):
 Snd P ⟨d,.box t x,ty,ps,af,g⟩ (rq x s) [] [id] (.one (.bx id 0)) [(id,some (.box vs))]:=by
 intro C st M ρ a w hH h1 _ hf hd k Q hk;have e:=hH.evS (zq J h1);have e':=yz U e
 have hrun:(execOp a.eval ⟨d,.box t x,ty,ps,af,g⟩).run P w= .ok (.value (.pointer (some ⟨w.heap.size,0,none⟩))) (w.alloc (.cells (a.eval x).cells t)):=by
  simp[execOp,Instr.box,newVar,newRow]
 unfold Oper.wp;rw[hrun,Oper.upon_value]
 have hm:mentVs id vs=false:=by
  have:=RepS.agree (M:=M) (ρ:=ρ) (yD ρ id .nilFunc) s (a.eval x);cases x with
  |tmp tt=>
   have h2:=hf.1.1 tt s h1.1;cases s<;>simp[cellsOf]at U
   ·subst U;simp only[mentS]at h2;simp[mentVs,h2]
   ·subst U;simpa only[mentS]using h2
   ·subst U;simp[mentVs,mentV]
  |const vv=>
   simp only[okc]at J
   cases vv<;>simp only[cS]at J<;>first
    |(cases J;done)
    |(simp only[ui]at J;subst J;simp[cellsOf]at U;subst U;simp[mentVs,mentV];done)
    |skip
   split at J
   ·simp only[ui]at J;subst J;simp only[cellsOf,ui]at U;subst U;rename_i cs _;generalize cs.toList=l
    induction l with
    |nil=>simp[mentVs]
    |cons q qs ih=>simp[mentVs,mentV,ih]
   ·cases J
  |global _=>exact J.elim
  |func f=>simp only[okc]at J;subst J;simp[cellsOf]at U;subst U;simp[mentVs,mentV]
 refine hk _ _ M _ (hH.alloc (λb hb=>by simpa [Bk,blk]using hb.symm) hf.1 ⟨w.heap.size,(a.eval x).cells.toList,t,zo _ _ _,by simpa using zJ w _,?_⟩ ?_ hd)
 ·exact RepVs.agree (yD ρ id _) _ _ (λi hi=>by subst hi;exact hm) e'
 ·simp only[RepS,RepV];exact⟨w.heap.size,zo _ _ _,rfl⟩
def zeroV(P:Program)(t:TypeId):Option (List V):=
 match P.info? t with
 |some i=>match i.zero with
  |some z=>if z.cells.toList.all Value.oneCell' then some (z.cells.toList.map λv=> .p (.k v))else none
  |none=>none
 |none=>none
def xt{vs:List V}(h:zeroV P t=some vs)(M:Mem)(ρ:Nat->Value)(w:World):
 ∃z,(zeroValue t).run P w= .ok z w/\RepVs M ρ vs z.cells.toList/\ ∀id,mentVs id vs=false:=by
 unfold zeroV at h;split at h
 ·rename_i i J;split at h
  ·rename_i z U;split at h
   ·rename_i hc;simp only[ui]at h;subst h;refine⟨z,by simp[zeroValue,typeInfo,J,U],jg _ hc,λid=>?_⟩;generalize z.cells.toList=l
    induction l with
    |nil=>simp[mentVs]
    |cons q qs ih=>simp[mentVs,mentV,ih]
   ·cases h
  ·cases h
 ·cases h
def ztt{id:Nat}{vs:List V}(hz:zeroV P t=some vs):
 Snd P ⟨d,.alloc t,ty,ps,af,g⟩ [] [] [id] (.one (.bx id 0)) [(id,some (.box vs))]:=by
 intro C st M ρ a w hH _ _ hf hd k Q hk;obtain⟨zv,U,hz2,hz3⟩:=xt hz M ρ w
 have J:(execOp a.eval ⟨d,.alloc t,ty,ps,af,g⟩).run P w= .ok (.value (.pointer (some ⟨w.heap.size,0,none⟩))) (w.alloc (.cells zv.cells t)):=by
  simp[execOp,Instr.alloc,newVar,newRow,U]
 unfold Oper.wp;rw[J,Oper.upon_value];refine hk _ _ M _ (hH.alloc (λb hb=>by simpa [Bk,blk]using hb.symm) hf.1 ⟨w.heap.size,zv.cells.toList,t,zo _ _ _,by simpa using zJ w _,?_⟩ ?_ hd)
 ·exact RepVs.agree (yD ρ id _) _ _ (λi hi=>by simp_all) hz2
 ·simp only[RepS,RepV];exact⟨w.heap.size,zo _ _ _,rfl⟩
def rqs:List Operand->List S->zb
 |x::xs,s::ss=>rq x s++rqs xs ss
 |_,_=>[]
def zcm:List Operand->List S->Prop
 | [],[]=>True
 |x::xs,s::ss=>okc x s/\zcm xs ss
 |_,_=>False
def evs(sl:zb):List Operand->Option (List S)
 | []=>some []
 |x::xs=>match ev sl x,evs sl xs with
  |some s,some ss=>some (s::ss)
  |_,_=>none
theorem wL{st:St}: ∀ {xs:List Operand} {ss:List S},zcm xs ss->okS (rqs xs ss) st->evs st.sl xs=some ss
 | [],[],_,_=>rfl
 | [],_::_,h,_=>h.elim
 |_::_,[],h,_=>h.elim
 |x::xs,s::ss,h,h'=>by
  simp only[rqs,ze]at h';simp[evs,zq h.1 h'.1,wL h.2 h'.2]
theorem w7{st:St}: ∀ {xs:List Operand} {ss:List S},evs st.sl xs=some ss->zcm xs ss/\okS (rqs xs ss) st
 | [],ss,h=>by simp[evs]at h;subst h;exact⟨uh,uh⟩
 |x::xs,ss,h=>by
  simp only[evs]at h;split at h
  ·rename_i s ss' J h2;simp only[ui]at h;subst h;have:=w7 h2;exact⟨⟨(xV J).1,this.1⟩,by simp only[rqs,ze];exact⟨(xV J).2,this.2⟩⟩
  ·cases h
theorem Holds.zhi{C:Ctx}{st:St}{M:Mem}{ρ:Nat->Value}{a:Act}{w:World}(h:Holds C st M ρ a w): ∀ {xs:List Operand} {ss:List S},
 evs st.sl xs=some ss->RepSs M ρ ss (xs.map a.eval)
 | [],ss,hx=>by simp[evs]at hx;subst hx;simp only[tI,RepSs]
 |x::xs,ss,hx=>by
  simp only[evs]at hx;split at hx
  ·rename_i s ss' J h2;simp only[ui]at hx;subst hx;simp only[uH,RepSs];exact⟨h.evS J,h.zhi h2⟩
  ·cases hx
def onesOf:List S->Option (List V)
 | []=>some []
 | .one v::r=>match onesOf r with
   |some vs=>some (v::vs)
   |none=>none
 |_::_=>none
theorem xu{M:Mem}{ρ:Nat->Value}: ∀ {ss:List S} {vs:List V} {xs:List Value},onesOf ss=some vs->RepSs M ρ ss xs->RepVs M ρ vs xs
 | [],vs,xs,h,hr=>by
   simp[onesOf]at h;subst h;cases xs with
   |nil=>simp only[RepVs]
   |cons _ _=>simp only[RepSs]at hr
 |s::ss,vs,xs,h,hr=>by
  cases xs with
  |nil=>simp only[RepSs]at hr
  |cons c cs=>
   simp only[RepSs]at hr;cases s<;>simp only[onesOf]at h<;>first|(cases h;done)|skip
   split at h
   ·rename_i vs' hv;simp only[ui]at h;subst h;simp only[RepS]at hr;simp only[RepVs];exact⟨hr.1,xu hv hr.2⟩
   ·cases h
def zjJ{f:FuncId}{l:List Operand}{caps:List V}(J:zcm l ss)(U:onesOf ss=some caps):
 Snd P ⟨d,.makeFunc (.func f) #[] l.toArray,ty,ps,af,g⟩ (rqs l ss) [] [] (.one (.cl f [] caps)) []:=
 zi λC st M ρ a w hH h1 _=>by
  have e:=hH.zhi (wL J h1);have e':=xu U e;exact⟨.func (.func f) #[] (l.map a.eval).toArray,by simp[execOp,Instr.makeFunc],by simp only[RepS,RepV];exact⟨[],l.map a.eval,rfl,by simp only[RepVs],e'⟩⟩
def fillV(place:Nat->Option (Nat×Nat))(cells:List V):List (Nat×List V)->Option (List V)
 | []=>some cells
 |(i,vs)::rest=>match place i with
  |none=>none
  |some (off,size)=>if vs.length≠size\/cells.length<off+vs.length then none else fillV place (setAt cells off vs) rest
theorem vu(cells:Array Value)(off:Nat): ∀(vs:List Value) (k:Nat) (cur:Array Value),off+k+vs.length<=cur.size->
 (vs.zipIdx k).foldl (λcs (p:Value×Nat)=>cs.setIfInBounds (off+p.2) p.1) cur=(setAt cur.toList (off+k) vs).toArray
 | [],k,cur,_=>by simp[setAt]
 |v::vs,k,cur,h=>by
  simp only[List.zipIdx_cons,List.foldl_cons];rw[vu cells off vs (k+1) _ (by simp at h ⊢; omega)]
  congr 1
  have e:=list_seg_step cur.toList (off+k) v vs (by simp at h ⊢; omega);simpa [setAt,oP,qF]using e
theorem jX{M:Mem}{ρ:Nat->Value}{place:Nat->Option (Nat×Nat)}: ∀(parts:List (Nat×Value)) (vparts:List (Nat×List V)) (zs vs:List V) (cells:Array Value),
 RepVs M ρ zs cells.toList->parts.map (·.1)=vparts.map (·.1)->(∀(i:Nat) (p:Nat×Value) (q:Nat×List V),parts[i]?=some p->vparts[i]?=some q->RepVs M ρ q.2 p.2.cells.toList)->
 fillV place zs vparts=some vs-> ∃out,Instr.fill place cells parts=some out/\RepVs M ρ vs out.toList
 | [],[],zs,vs,cells,hz,_,_,hf=>by
   simp only[fillV,ui]at hf;subst hf;exact⟨cells,by simp[Instr.fill],hz⟩
 | [],_::_,_,_,_,_,h,_,_=>by simp at h
 |_::_,[],_,_,_,_,h,_,_=>by simp at h
 |(i,v)::parts,(j,us)::vparts,zs,vs,cells,hz,hn,hp,hf=>by
  simp only[uH,qC]at hn;obtain⟨rfl,hn⟩:=hn;simp only[fillV]at hf;have hv:=hp 0 (i,v) (i,us) ue ue;simp only at hv;split at hf
  ·cases hf
  ·rename_i off size hpl;split at hf
   ·cases hf
   ·rename_i hc;have J:=hv.length;have hzl:=hz.length
    have hcond: ¬(v.cells.size≠size||off+v.cells.size>cells.size)=true:=by
     simp at J hzl;simp only[ne_eq,uJ,uq];intro h;rcases h with h|h
     ·exact hc (.inl ua)
     ·exact hc (.inr ua)
    have U:=vu cells off v.cells.toList 0 cells (by simp at J hzl ⊢; omega)
    have hfold':v.cells.zipIdx.foldl (λcs (p:Value×Nat)=>cs.setIfInBounds (off+p.2) p.1) cells=(setAt cells.toList off v.cells.toList).toArray:=by
     rw[<-oR];simpa using U
    obtain⟨out,h1,h2⟩:=jX parts vparts _ vs (setAt cells.toList off v.cells.toList).toArray (by simpa using hz.setAt hv off) hn
     (λk p q hk hq=>hp (k+1) p q (by simpa using hk) (by simpa using hq)) hf
    refine⟨out,?_,h2⟩;simp only[Instr.fill,hpl]
    simp_all
def zipParts:List Nat->List S->Option (List (Nat×List V))
 | [],[]=>some []
 |i::is,s::ss=>match cellsOf s,zipParts is ss with
  |some vs,some r=>some ((i,vs)::r)
  |_,_=>none
 |_,_=>none
theorem wc{M:Mem}{ρ:Nat->Value}: ∀ {is:List Nat} {ss:List S} {vparts:List (Nat×List V)} {xs:List Value},zipParts is ss=some vparts->RepSs M ρ ss xs->
 (is.zip xs).map (·.1)=vparts.map (·.1)/\ ∀(i:Nat) (p:Nat×Value) (q:Nat×List V),(is.zip xs)[i]?=some p->vparts[i]?=some q->RepVs M ρ q.2 p.2.cells.toList
 | [],[],vparts,xs,h,_=>by simp[zipParts]at h;subst h;simp
 | [],_::_,_,_,h,_=>by simp[zipParts]at h
 |_::_,[],_,_,h,_=>by simp[zipParts]at h
 |i::is,s::ss,vparts,xs,h,hr=>by
  cases xs with
  |nil=>simp only[RepSs]at hr
  |cons c cs=>
   simp only[RepSs]at hr;simp only[zipParts]at h;split at h
   ·rename_i vs r h1 h2;simp only[ui]at h;subst h;obtain⟨h3,h4⟩:=wc h2 hr.2;refine⟨by simp[h3],λk p q J U=>?_⟩;cases k with
    |zero=>simp at J U;subst J U;exact yz h1 hr.1
    |succ k=>grind
   ·cases h
def places(P:Program)(t:TypeId):Option (List (Nat×Nat)):=
 match P.underlying t with
 |some (.struct fs)=>fs.toList.mapM λf=>match P.info? f.type with
  |some i=>some (f.offset,i.size)
  |none=>none
 |_=>none
theorem zch{fs:List Field}(w:World)
 (h:(fs.mapM λf=>match P.info? f.type with|some i=>some (f.offset,i.size)|none=>none)=some pl):
 (fs.mapM λf=>(do pure (f.offset,<-Go.sizeOf f.type):Sem (Nat×Nat))).run P w= .ok pl w:=by
 induction fs generalizing pl with
 |nil=>simp_all
 |cons f fs ih=>
  simp only[Uy,Option.bind_eq_bind,tB,Option.pure_def,ui]at h;obtain⟨q,J,r,hr,rfl⟩:=h;split at J
  ·rename_i i U;simp only[ui]at J;subst J;simp only[Uy,Sem.run_bind,run_sizeOf U,Result.andThen_ok,Sem.run_pure,ih hr]
  ·cases J
def ztu{l:List (Nat×Operand)}{vparts:List (Nat×List V)}{zs vs:List V}
 (hx:zcm (l.map (·.2)) ss) (J:places P t=some pl) (hz:zeroV P t=some zs) (hv:zipParts (l.map (·.1)) ss=some vparts) (hf:fillV (pl[·]?) zs vparts=some vs):
 Snd P ⟨d,.build t l.toArray,ty,ps,af,g⟩ (rqs (l.map (·.2)) ss) [] [] (.agg vs) []:=
 zi λC st M ρ a w hH h1 _=>by
  have e:=hH.zhi (wL hx h1);obtain⟨h2,h3⟩:=wc hv e;obtain⟨zv,U,hz2,_⟩:=xt hz M ρ w
  have hzip:l.map (λp=>(p.1,a.eval p.2))=(l.map (·.1)).zip ((l.map (·.2)).map a.eval):=by
   rw[qM];simp[oZ]
  obtain⟨out,h4,h5⟩:=jX _ vparts zs vs zv.cells hz2 h2 h3 hf;unfold places at J;split at J
  ·rename_i fs hu;have hm:=zch (P:=P) w J;refine⟨.agg out,?_,by simp only[RepS];grind⟩
   have hmA:(fs.mapM λf=>(do pure (f.offset,<-Go.sizeOf f.type):Sem (Nat×Nat))).run P w= .ok pl.toArray w:=by
    rw[oU];simp only[Functor.map];show((fs.toList.mapM λf=>(do pure (f.offset,<-Go.sizeOf f.type):Sem (Nat×Nat))).bind (λx=>Sem.pure (List.toArray x))).run P w=_;have:=Sem.run_bind (P:=P) (w:=w) (fs.toList.mapM λf=>(do pure (f.offset,<-Go.sizeOf f.type):Sem (Nat×Nat))) (λx=>(Sem.pure (List.toArray x)));exact this.trans (by rw[hm];rfl)
   simp only[execOp,Instr.build,Sem.run_bind,U,Result.andThen_ok,run_underlying hu,hmA]
   simp_all
  ·cases J
end
mutual
def V.ren(σ:Nat->Nat):V->V
 | .p x=> .p x
 | .pi r j=> .pi r j
 | .bx i j=> .bx (σ i) j
 | .ar i=> .ar (σ i)
 | .el i k=> .el (σ i) k
 | .mp i=> .mp (σ i)
 | .bs i k n=> .bs (σ i) k n
 | .nv i k=> .nv (σ i) k
 | .np i j k=> .np (σ i) j k
 | .sv i j k=> .sv (σ i) j k
 | .cl f a b=> .cl f (Vs.ren σ a) (Vs.ren σ b)
def Vs.ren(σ:Nat->Nat):List V->List V
 | []=>[]
 |v::vs=>v.ren σ::Vs.ren σ vs
end
mutual
def S.ren(σ:Nat->Nat):S->S
 | .one v=> .one (v.ren σ)
 | .agg vs=> .agg (Vs.ren σ vs)
 | .tup ss=> .tup (Ss.ren σ ss)
 | .gd b s=> .gd b (s.ren σ)
 | .bq b=> .bq b
 | .un=> .un
def Ss.ren(σ:Nat->Nat):List S->List S
 | []=>[]
 |v::vs=>v.ren σ::Ss.ren σ vs
end
def xren(σ:Nat->Nat):List (Nat×V)->List (Nat×V)
 | []=>[]
 |(k,v)::r=>(k,v.ren σ)::xren σ r
theorem znp(σ:Nat->Nat)(p:PV)(j:Nat): ∀(x:List (Nat×V)),xv (xren σ x) j p=(xv x j p).ren σ
 | []=>rfl
 |(k,v)::r=>by
  have J:=znp σ p j r;unfold xv at J⊢;simp only[xren,xg]
  grind
def Res.ren(σ:Nat->Nat):Res->Res
 | .box vs=> .box (Vs.ren σ vs)
 | .arr e rows=> .arr e rows
 | .map es=> .map es
 | .bag e L=> .bag e L
 | .ifc=> .ifc
 | .bld T e b s=> .bld T e b s
 | .vw ids e rows=> .vw (ids.map σ) e rows
 | .itr l cur=> .itr l cur
 | .mpg es=> .mpg es
 | .raw r o=> .raw r o
 | .arc e rows a cap=> .arc e rows a cap
 | .arv e rows x=> .arv e rows (xren σ x)
def Tab.ren(σ:Nat->Nat):Tab->Tab
 | []=>[]
 |(i,some r)::t=>(σ i,some (r.ren σ))::Tab.ren σ t
 |(i,none)::t=>(σ i,none)::Tab.ren σ t
mutual
theorem RepV.ren{M:Mem}{ρ:Nat->Value}{σ:Nat->Nat}: ∀(v:V) (x:Value),RepV M ρ (v.ren σ) x↔RepV M (λi=>ρ (σ i)) v x
 | .p _,_=>by simp only[V.ren,RepV]
 | .pi _ _,_=>by simp only[V.ren,RepV]
 | .bx _ _,_=>by simp only[V.ren,RepV]
 | .ar _,_=>by simp only[V.ren,RepV]
 | .el _ _,_=>by simp only[V.ren,RepV]
 | .mp _,_=>by simp only[V.ren,RepV]
 | .bs _ _ _,_=>by simp only[V.ren,RepV]
 | .nv _ _,_=>by simp only[V.ren,RepV]
 | .np _ _ _,_=>by simp only[V.ren,RepV]
 | .sv _ _ _,_=>by simp only[V.ren,RepV]
 | .cl f a b,x=>by
   simp only[V.ren,RepV];constructor
   ·rintro⟨xs,ys,h1,h2,h3⟩;exact⟨xs,ys,h1,(RepVs.ren a xs).1 h2,(RepVs.ren b ys).1 h3⟩
   ·rintro⟨xs,ys,h1,h2,h3⟩;exact⟨xs,ys,h1,(RepVs.ren a xs).2 h2,(RepVs.ren b ys).2 h3⟩
theorem RepVs.ren{M:Mem}{ρ:Nat->Value}{σ:Nat->Nat}: ∀(v:List V) (x:List Value),RepVs M ρ (Vs.ren σ v) x↔RepVs M (λi=>ρ (σ i)) v x
 | [],[]=>by simp only[Vs.ren,RepVs]
 | [],_::_=>by simp only[Vs.ren,RepVs]
 |_::_,[]=>by simp only[Vs.ren,RepVs]
 |v::vs,x::xs=>by simp only[Vs.ren,RepVs,RepV.ren v x,RepVs.ren vs xs]
end
mutual
theorem RepS.ren{M:Mem}{ρ:Nat->Value}{σ:Nat->Nat}: ∀(v:S) (x:Value),RepS M ρ (v.ren σ) x↔RepS M (λi=>ρ (σ i)) v x
 | .one v,x=>by simp only[S.ren,RepS];exact RepV.ren v x
 | .agg vs,x=>by
   simp only[S.ren,RepS];constructor
   ·rintro⟨cs,h1,h2⟩;exact⟨cs,h1,(RepVs.ren vs cs).1 h2⟩
   ·rintro⟨cs,h1,h2⟩;exact⟨cs,h1,(RepVs.ren vs cs).2 h2⟩
 | .tup ss,x=>by
   simp only[S.ren,RepS];constructor
   ·rintro⟨cs,h1,h2⟩;exact⟨cs,h1,(RepSs.ren ss cs).1 h2⟩
   ·rintro⟨cs,h1,h2⟩;exact⟨cs,h1,(RepSs.ren ss cs).2 h2⟩
 | .gd b s,x=>by simp only[S.ren,RepS,RepS.ren s x]
 | .bq _,_=>by simp only[S.ren,RepS]
 | .un,_=>by simp only[S.ren,RepS]
theorem RepSs.ren{M:Mem}{ρ:Nat->Value}{σ:Nat->Nat}: ∀(v:List S) (x:List Value),RepSs M ρ (Ss.ren σ v) x↔RepSs M (λi=>ρ (σ i)) v x
 | [],[]=>by simp only[Ss.ren,RepSs]
 | [],_::_=>by simp only[Ss.ren,RepSs]
 |_::_,[]=>by simp only[Ss.ren,RepSs]
 |v::vs,x::xs=>by simp only[Ss.ren,RepSs,RepS.ren v x,RepSs.ren vs xs]
end
theorem znq(σ:Nat->Nat)(ids:List Nat)(x:PC):toV (ids.map σ) x=(toV ids x).ren σ:=by
 cases x with
 |p x=>rfl
 |n k j=>
  simp only[toV,uO];cases ids[k]?<;>rfl
 |a k=>
  simp only[toV,uO];cases ids[k]?<;>rfl
theorem zA.ren{M:Mem}{ρ:Nat->Value}{σ:Nat->Nat}{w:World}{id:Nat}{r:Res}(h:zA M ρ w (σ id) (r.ren σ)):zA M (λi=>ρ (σ i)) w id r:=by
 cases r with
 |box vs=>obtain⟨b,cs,el,h1,h2,h3⟩:=h;exact⟨b,cs,el,h1,h2,(RepVs.ren vs cs).1 h3⟩
 |arr e rows=>exact h
 |map es=>exact h
 |bag e L=>exact h
 |ifc=>exact h
 |bld T e b s=>exact h
 |vw ids e rows=>
  obtain⟨a,cap,h1,h2,h3,hl,h4⟩:=h;refine⟨a,cap,h1,h2,h3,hl,?_⟩;rcases h4 with h4|⟨b,o,cs,el,fz,h5,h6,U,h7,h8⟩
  ·exact .inl h4
  ·exact .inr ⟨b,o,cs,el,fz,h5,h6,U,h7,λj p hj=>let ⟨c,h9,J⟩:=h8 j p hj;⟨c,h9,by rw[znq]at J;exact(RepV.ren _ c).1 J⟩⟩
 |itr l cur=>exact h
 |mpg es=>exact h
 |raw r o=>exact h
 |arc _ _ _ _=>exact h
 |arv e rows x=>
  obtain⟨a,cap,h1,h2,h3,hl,h4⟩:=h;refine⟨a,cap,h1,h2,h3,hl,?_⟩;rcases h4 with h4|⟨b,o,cs,el,fz,h5,h6,U,h7,h8⟩
  ·exact .inl h4
  ·exact .inr ⟨b,o,cs,el,fz,h5,h6,U,h7,λj p hj=>let ⟨c,h9,J⟩:=h8 j p hj;⟨c,h9,by rw[znp]at J;exact(RepV.ren _ c).1 J⟩⟩
def lift(C:Ctx)(Q:Exit->St->Prop):Exit->Act->World->Prop:=λe a w=> ∃st M ρ,Q e st/\Holds C st M ρ a w
def Tri(P:Program)(C:Ctx)(c:Code)(st:St)(Q:Exit->St->Prop):Prop:= ∀M ρ a w,Holds C st M ρ a w->c.wp P (lift C Q) a w
def zxF(P:Program)(C:Ctx)(ops:Array Oper)(rest:List Oper)(st:St)(Q:Exit->St->Prop):Prop:= ∀M ρ a w,Holds C st M ρ a w->wpList P ops (lift C Q) rest a w
def yC(P:Program)(ops:Array Oper)(o:Oper)(rs:zb)(rt:List (Nat×Res))(fr:List Nat)(v:S)(wt:Tab):Prop:=
 ∀(C:Ctx) (st:St) (M:Mem) (ρ:Nat->Value) (a:Act) (w:World),Holds C st M ρ a w->okS rs st->okT rt st->okF C fr st->dok o.dst st.n=true->
  ∀(k:Act->World->Prop) (Q:Exit->Act->World->Prop),(∀a' w' M' ρ',Holds C (app o.dst v wt st) M' ρ' a' w'->k a' w')->
   if Region.wanted o (yielded ops a.tmps)then o.wp P a w k Q else k (a.put o.dst undef) w
variable {ops:Array Oper}{wt:Tab}
def yC.plain{fr:List Nat}{v:S}(J:o.guard=none)
 (h:Snd P o rs rt fr v wt):yC P ops o rs rt fr v wt:=by
 intro C st M ρ a w U h1 h2 h3 hd k Q hk;simp only[Region.wanted,J,uW];exact h C st M ρ a w U h1 h2 h3 hd k Q hk
def Holds.zr8{st':St}(h:Holds C st M ρ a w)(U:st'.n=st.n)(J:st'.tab=st.tab)
 (hs: ∀k s,sg st'.sl k=some s->RepS M ρ s (a.tmps.getD k undef)):Holds C st' M ρ a w where
 dfr:=h.dfr
 sz:=by rw[U];exact h.sz
 slots:=hs
 zz:=by rw[J];exact h.zz
 ownf:=by rw[J];exact h.ownf
 run:=h.run
 keep:=h.keep
def zbu:Bool->Bool->Bool
 |true,c=>c
 |false,c=> !c
def vj(ops:Array Oper)(o:Oper)(t:Nat)(gs:S)(b:Bool):Prop:=
 ∃j want,o.guard=some (j,want)/\(ops[j]?).bind (·.dst)=some t/\
  ((∃c,gs=Bo c/\b=zbu want c)\/(∃c0 c,gs= .gd c0 (Bo c)/\b=(c0&&zbu want c)))
theorem vj.wanted{ops:Array Oper}{o:Oper}{t:Nat}{gs:S}{b:Bool}(h:vj ops o t gs b){M:Mem}{ρ:Nat->Value}{a:Act}(hr:RepS M ρ gs (a.tmps.getD t undef)):
 Region.wanted o (yielded ops a.tmps)=b:=by
 obtain⟨j,want,h1,h2,h3⟩:=h
 have known: ∀c,a.tmps.getD t undef= .bool c->yielded ops a.tmps j=some c:=λc U=>by
  have J:t<a.tmps.size:=by
   rcases tu t a.tmps.size with h|h
   ·exact h
   ·simp[Array.getD,Nat.not_lt.2 h,undef]at U
  have:a.tmps[t]?=some (.bool c):=by
   simp only[Array.getD,J,oJ]at U;rw[tT J];exact u7 some U
  simp[yielded,h2,this]
 simp only[Region.wanted,h1];rcases h3 with⟨c,rfl,hb⟩|⟨c0,c,rfl,hb⟩
 ·rw[known c (znf hr),hb];cases want<;>cases c<;>rfl
 ·simp only[RepS]at hr;cases c0 with
  |true=>
   have U:=known c (znf (M:=M) (ρ:=ρ) (by simpa only[RepS]using hr.1 rfl));rw[U,hb];cases want<;>cases c<;>rfl
  |false=>
   have hu:=hr.2 rfl
   have:yielded ops a.tmps j=none:=by
    simp only[yielded,h2,qf];cases hx:a.tmps[t]? with
    |none=>rfl
    |some x=>
     have J:t<a.tmps.size:=by
      rcases tu t a.tmps.size with h|h
      ·exact h
      ·rw[oq h]at hx;cases hx
     have:a.tmps.getD t undef=x:=by
      rw[tT J]at hx;simp only[Array.getD,J,oJ];exact uU hx
     rw[hu]at this;subst this;rfl
   rw[this,hb];rfl
def gdl(b:Bool):zb->zb
 | []=>[]
 |(k,s)::r=>(k,.gd b s)::gdl b r
variable {Q:Exit->St->Prop}{c:Operand}
section
variable {rest:List Oper}
def zv3{fr:List Nat}{v:S}(h:yC P ops o rs rt fr v wt)(U:okS rs st)(h2:okT rt st)(h3:okF C fr st)
 (hd:dok o.dst st.n=true) (k:zxF P C ops rest (app o.dst v wt st) Q):zxF P C ops (o::rest) st Q:=
 λM ρ a w hH=>wpList_step λK hK=>h C st M ρ a w hH U h2 h3 hd K _ λa' w' M' ρ' J=>hK _ _ (k M' ρ' a' w' J)
def zpD(P:Program)(C:Ctx)(y:Code)(Q:Exit->St->Prop):Exit->St->Prop
 | .normal,st=>Tri P C y st Q
 |e,st=>Q e st
def blockQ(id:Nat)(Q:Exit->St->Prop):Exit->St->Prop
 | .exit i,st=>match Nat.beq i id with
   |true=>Q .normal st
   |false=>Q (.exit i) st
 |e,st=>Q e st
def zvW{x y:Code}(h:Tri P C x st (zpD P C y Q)):Tri P C (.seq x y) st Q:=λM ρ a w hH=>
 wp_seq (wp_mono (h M ρ a w hH) λe a w ⟨st',M',ρ',U,J⟩=>by
  cases e<;>first
   |exact U M' ρ' a w J
   |exact⟨st',M',ρ',U,J⟩)
def ziH{x y:Code}(U:ev st.sl c=some (Bo b))(ht:b=true->Tri P C x st Q)(hf:b=false->Tri P C y st Q):Tri P C (.cond c x y) st Q:=
 λM ρ a w J=>wp_cond_split (J.bool U) (λh=>ht h M ρ a w J) (λh=>hf h M ρ a w J)
def zm1{x y:Code}(J:ev st.sl c=some (Bo true))(h:Tri P C x st Q):Tri P C (.cond c x y) st Q:=
 ziH J (λ_=>h) (λh=>by cases h)
def zm2{x y:Code}(J:ev st.sl c=some (Bo false))(h:Tri P C y st Q):Tri P C (.cond c x y) st Q:=
 ziH J (λh=>by cases h) (λ_=>h)
def zm0{id:Nat}{c:Code}(h:Tri P C c st (blockQ id Q)):Tri P C (.block id c) st Q:=λM ρ a w hH=>
 wp_block (wp_mono (h M ρ a w hH) λe a w ⟨st',M',ρ',U,J⟩=>by
  cases e with
  |exit i=>
   simp only[blockQ]at U;simp only[Exit.inBlock];by_cases e:i=id
   ·subst e;rw[vq]at U;rw[uw rfl];exact⟨st',M',ρ',U,J⟩
   ·rw[xr e]at U;rw[ur e];exact⟨st',M',ρ',U,J⟩
  |_=>exact⟨st',M',ρ',U,J⟩)
end
def mS(σ:Nat->Nat)(st:St):zb->Prop
 | []=>True
 |(k,s)::r=>sg st.sl k=some (s.ren σ)/\mS σ st r
def mT(σ:Nat->Nat)(st:St):Tab->Prop
 | []=>True
 |(i,some r)::t=>tg st.tab (σ i)=some (r.ren σ)/\mT σ st t
 |(_,none)::t=>mT σ st t
def injB(σ:Nat->Nat):List Nat->Bool
 | []=>true
 |i::r=>r.all (λj=>Nat.beq i j|| !Nat.beq (σ i) (σ j))&&injB σ r
def Matches(σ:Nat->Nat)(st T:St):Prop:=
 T.n=st.n/\mS σ st T.sl/\mT σ st T.tab/\injB σ (T.tab.map (·.1))=true/\ ∀i,i<100->σ i=i
theorem zeo{σ:Nat->Nat}{st:St}: ∀ {l:zb},mS σ st l-> ∀ {k s},(k,s)∈l->sg st.sl k=some (s.ren σ)
 | [],_,_,_,h=>by cases h
 |(k0,s0)::r,h,k,s,J=>by
  rcases uF.1 J with e|J
  ·simp only[uz]at e;obtain⟨rfl,rfl⟩:=e;exact h.1
  ·exact zeo h.2 J
theorem znr{σ:Nat->Nat}{st:St}: ∀ {l:Tab},mT σ st l-> ∀ {i r},(i,some r)∈l->tg st.tab (σ i)=some (r.ren σ)
 | [],_,_,_,h=>by cases h
 |(k0,some s0)::r,h,k,s,J=>by
  rcases uF.1 J with e|J
  ·simp only[uz,ui]at e;obtain⟨rfl,rfl⟩:=e;exact h.1
  ·exact znr h.2 J
 |(k0,none)::r,h,k,s,J=>by
  rcases uF.1 J with e|J
  ·simp at e
  ·exact znr (l:=r) h J
theorem yt{σ:Nat->Nat}: ∀ {l:List Nat},injB σ l=true-> ∀i j,i∈l->j∈l->i≠j->σ i≠σ j
 | [],_,_,_,h,_,_=>by cases h
 |x::xs,h,i,j,hi,U,J=>by
  simp only[injB,um,List.all_eq_true,uJ,ux]at h
  have one: ∀j∈xs,x≠j->σ x≠σ j:=λj U J e=>by
   rcases h.1 j U with h1|h1
   ·exact J (uA h1)
   ·rw[e,vq]at h1;cases h1
  rcases uF.1 hi with rfl|hi<;>rcases uF.1 U with rfl|U
  ·omega
  ·exact one j U J
  ·grind
  ·exact yt h.2 i j hi U J
def Ctx.low(C:Ctx):Prop:= ∀i r,tg C.tab0 i=some r->i<100
variable {σ:Nat->Nat}
def Holds.matches(hC:C.low){T:St}(h:Holds C st M ρ a w)(hm:Matches σ st T):
 Holds C T M (λi=>ρ (σ i)) a w:=by
 obtain⟨hn,hs,ht,hi,U⟩:=hm;have tk: ∀i r,tg T.tab i=some r->tg st.tab (σ i)=some (r.ren σ):=λi r h=>znr ht (zfd h)
 have ti: ∀i r,tg T.tab i=some r->i∈T.tab.map (·.1):=λi r h=>tO.2 ⟨_,zfd h,rfl⟩
 refine⟨h.dfr,by rw[hn];exact h.sz,λk s hk=>(RepS.ren s _).1 (h.slots k _ (zeo hs (zaP hk))),⟨λi r hr=>(h.zz.res _ _ (tk i r hr)).ren,?_,?_⟩,?_,h.run,?_⟩
 ·intro i j ri rj b J h2 hne hb1 hb2;exact h.zz.dis _ _ _ _ b (tk i ri J) (tk j rj h2) (yt hi i j (ti i ri J) (ti j rj h2) hne) hb1 hb2
 ·intro i r b J hb;exact h.zz.own _ _ b (tk i r J) hb
 ·intro i r b J hb;exact h.ownf _ _ b (tk i r J) hb
 ·intro i r hr;rw[U i (hC i r hr)];exact h.keep i r hr
def zv4(T:α->St)(μ:α->Nat)(n:Nat)(Q:Exit->St->Prop):Exit->St->Prop
 | .normal,st=> ∃(y:α) (σ:Nat->Nat),μ y<n/\Matches σ st (T y)
 |e,st=>Q e st
def zv5(T:α->St)(μ:α->Nat){c:Code}(hC:C.low)(x:α)(σ:Nat->Nat)(h0:Matches σ st (T x))(h: ∀y,Tri P C c (T y) (zv4 T μ (μ y) Q)):
 Tri P C (.loop c) st Q:=by
 intro M ρ a w hH;intro b k cs
 have key: ∀n (y:α),μ y=n-> ∀M ρ a w,Holds C (T y) M ρ a w->
  ∃e a' w',lift C Q e a' w'/\Arrives P (lone (b.at a (.code c:: .inLoop c::k)) cs w) b k cs e a' w':=by
  intro n
  induction n using Nat.strongRecOn with
  |_ n ih=>
   intro y hy M ρ a w hH;obtain⟨e,a₁,w₁,⟨st',M',ρ',hq,U⟩,J⟩:=h y M ρ a w hH b (.inLoop c::k) cs;cases e with
   |normal=>
    obtain⟨z,σ',hlt,hm⟩:=hq;obtain⟨e₂,a₂,w₂,hq₂,harr₂⟩:=ih (μ z) (hy ▸ hlt) z rfl M' _ a₁ w₁ (U.matches hC hm);exact⟨e₂,a₂,w₂,hq₂,.of_steps (Steps.trans J (.one step_inLoop)) harr₂⟩
   |exit id=>exact⟨_,a₁,w₁,⟨st',M',ρ',hq,U⟩,.pass (x:= .inLoop c) rfl (λ_ _=> .inl ue) J⟩
   |goto l=>exact⟨_,a₁,w₁,⟨st',M',ρ',hq,U⟩,.pass (x:= .inLoop c) rfl (λ_ _=> .inl ue) J⟩
   |ret=>exact⟨_,a₁,w₁,⟨st',M',ρ',hq,U⟩,.pass (x:= .inLoop c) rfl (λ_ _=> .inl ue) J⟩
   |panic ch=>exact⟨_,a₁,w₁,⟨st',M',ρ',hq,U⟩,.pass (x:= .inLoop c) rfl (λ_ _=> .inl ue) J⟩
   |outgrown=>exact⟨_,a₁,w₁,⟨st',M',ρ',hq,U⟩,.pass (x:= .inLoop c) rfl (λ_ _=> .inl ue) J⟩
 obtain⟨e,a',w',hq,J⟩:=key _ x rfl M _ a w (hH.matches hC h0);exact⟨e,a',w',hq,.of_steps (.one step_loop) J⟩
abbrev RL:=List (Nat×Res)
def tb:RL->Tab
 | []=>[]
 |(i,r)::l=>(i,some r)::tb l
def RL.ren(σ:Nat->Nat):RL->RL
 | []=>[]
 |(i,r)::l=>(σ i,r.ren σ)::RL.ren σ l
def RL.ids:RL->List Nat
 | []=>[]
 |(i,_)::l=>i::RL.ids l
def allB(p:Nat->Bool):List Nat->Bool
 | []=>true
 |i::l=>p i&&allB p l
theorem zy{p:Nat->Bool}: ∀ {l:List Nat},allB p l=true-> ∀i∈l,p i=true
 | [],_,_,h=>by cases h
 |x::xs,h,i,J=>by
  simp only[allB,um]at h;rcases uF.1 J with rfl|J
  ·exact h.1
  ·exact zy h.2 i J
def hasB(i:Nat):List Nat->Bool
 | []=>false
 |j::l=>Nat.beq j i||hasB i l
theorem zW{i:Nat}: ∀ {l:List Nat},hasB i l=true->i∈l
 | [],h=>by cases h
 |x::xs,h=>by
  simp only[hasB,uJ]at h;rcases h with h|h
  ·simp_all
  ·exact u3 _ (zW h)
theorem zbf{i:Nat}: ∀ {l:List Nat},i∈l->hasB i l=true
 | [],h=>by cases h
 |x::xs,h=>by
  simp only[hasB,uJ];rcases uF.1 h with rfl|h
  ·simp_all
  ·exact .inr (zbf h)
theorem zF: ∀ {l:RL} {i:Nat} {r:Res},tg (tb l) i=some r->(i,r)∈l
 | [],_,_,h=>by cases h
 |(j,s)::l,i,r,h=>by
  simp only[tb,zm]at h;split at h
  ·simp_all
  ·exact u3 _ (zF h)
theorem zH: ∀ {l:RL} {i:Nat} {r:Res},(i,r)∈l->i∈l.ids
 | [],_,_,h=>by cases h
 |(j,s)::l,i,r,h=>by
  rcases uF.1 h with e|h
  ·simp only[uz]at e;simp[RL.ids,e.1]
  ·simp only[RL.ids,uF];exact .inr (zH h)
theorem vS: ∀ {l:RL} {i:Nat},i∈l.ids-> ∃r,tg (tb l) i=some r
 | [],_,h=>by cases h
 |(j,s)::l,i,h=>by
  simp only[tb,zm];by_cases e:j=i
  ·simp_all
  ·rw[ur e];simp only[RL.ids,uF]at h;exact vS (h.resolve_left (λh=>e h.symm))
theorem zq2{σ:Nat->Nat}: ∀ {l:RL},(∀i j,i∈l.ids->j∈l.ids->i≠j->σ i≠σ j)-> ∀ {i:Nat} {r:Res},tg (tb (l.ren σ)) i=some r-> ∃j s,tg (tb l) j=some s/\i=σ j/\r=s.ren σ
 | [],_,_,_,h=>by cases h
 |(j,s)::l,hinj,i,r,h=>by
  simp only[RL.ren,tb,zm]at h;split at h
  ·rename_i e;simp only[ui]at h;exact⟨j,s,by simp[tb,zax],e.symm,h.symm⟩
  ·rename_i e;obtain⟨J,s',U,h2,h3⟩:=zq2 (l:=l) (λa b ha hb=>hinj a b (by simp[RL.ids,ha]) (by simp[RL.ids,hb])) h;refine⟨J,s',?_,h2,h3⟩;simp only[tb];rw[ziE (λe'=>e (by rw[e'];exact h2.symm))];exact U
def Holds.ext{st':St}(h:Holds C st M ρ a w)(U:st'.n=st.n)
 (hs: ∀k,sg st'.sl k=sg st.sl k) (ht: ∀i,tg st'.tab i=tg st.tab i):Holds C st' M ρ a w where
 dfr:=h.dfr
 sz:=by rw[U];exact h.sz
 slots:=λk s hk=>h.slots k s (by simp_all)
 zz:=⟨λi r J=>h.zz.res i r (by simp_all),λi j ri rj b J hj=>h.zz.dis i j ri rj b (by simp_all) (by simp_all),
  λi r b J=>h.zz.own i r b (by simp_all)⟩
 ownf:=λi r b J=>h.ownf i r b (by simp_all)
 run:=h.run
 keep:=h.keep
def Holds.more(h:Holds C st M ρ a w)
 (J: ∀b,b<w.heap.size->w'.heap[b]?=w.heap[b]?) (hsize:w.heap.size<=w'.heap.size) (hos:w'.os=w.os) (htape:w'.tape=w.tape) (hout:w'.output=w.output)
 (hle:MLe M M') (himm:Imm M' w') (U: ∀b o u,M' b o=some u->M b o=some u\/(¬C.fr b/\ ∀i r,tg st.tab i=some r-> ¬Bk (ρ i) b)):Holds C st M' ρ a w' where
 dfr:=h.dfr
 sz:=h.sz
 slots:=λk s hk=>RepS.mono hle _ _ (h.slots k s hk)
 zz:=⟨λj s hj=>((h.zz.res j s hj).world λb hb=>J b ((h.zz.res j s hj).lt hb)) |> zA.mono hle,h.zz.dis,λi r b hi hb o=>by
  cases hm:M' b o with
  |none=>rfl
  |some u=>
   rcases U b o u hm with h1|⟨_,h1⟩
   ·rw[h.zz.own i r b hi hb o]at h1;cases h1
   simp_all⟩
 ownf:=h.ownf
 run:=⟨himm,λb hb=>by rw[J b (qJ hb.1 h.run.size)];exact h.run.fram b hb,tG h.run.size hsize,h.run.base.trans hle,
  λb o u hu=>(U b o u hu).elim (λh1=>h.run.newM b o u h1) (λh1=> .inr h1.1),hos.trans h.run.os,htape.trans h.run.tape,hout.trans h.run.output⟩
 keep:=h.keep
def LeV(v v':V):Prop:= ∀M ρ x,RepV M ρ v x->RepV M ρ v' x
def znD(v v':List V):Prop:= ∀M ρ x,RepVs M ρ v x->RepVs M ρ v' x
def LeS(v v':S):Prop:= ∀M ρ x,RepS M ρ v x->RepS M ρ v' x
def yG(v v':List S):Prop:= ∀M ρ x,RepSs M ρ v x->RepSs M ρ v' x
def LeV.refl(v:V):LeV v v:=λ_ _ _ h=>h
def LeS.refl(v:S):LeS v v:=λ_ _ _ h=>h
def LeS.of{v v':S}(h:v=v'):LeS v v':=h ▸ LeS.refl v
def znD.refl(v:List V):znD v v:=λ_ _ _ h=>h
def yG.refl(v:List S):yG v v:=λ_ _ _ h=>h
def LeS.trans{a b c:S}(h:LeS a b)(J:LeS b c):LeS a c:=λM ρ x U=>J M ρ x (h M ρ x U)
def LeV.nil(e:Nat):LeV (.p (.k (.slice none 0 0))) (.p (.sl e [])):=λ_ _ _ hr=>by
 simp only[RepV,RepPV]at hr⊢
 simp_all
def znD.nil:znD [] []:=λ_ _ _ h=>h
theorem znD.cons{v v':V}{vs vs':List V}(h:LeV v v')(J:znD vs vs'):znD (v::vs) (v'::vs'):=λM ρ x hr=>by
 cases x with
 |nil=>simp only[RepVs]at hr
 |cons c cs=>simp only[RepVs]at hr ⊢; exact⟨h _ _ _ hr.1,J _ _ _ hr.2⟩
theorem LeS.one{v v':V}(h:LeV v v'):LeS (.one v) (.one v'):=λM ρ x hr=>by simp only[RepS]at hr ⊢; exact h _ _ _ hr
theorem LeS.agg{v v':List V}(h:znD v v'):LeS (.agg v) (.agg v'):=λM ρ x hr=>by
 simp only[RepS]at hr ⊢; obtain⟨cs,J,h2⟩:=hr;exact⟨cs,J,h _ _ _ h2⟩
theorem LeS.tup{v v':List S}(h:yG v v'):LeS (.tup v) (.tup v'):=λM ρ x hr=>by
 simp only[RepS]at hr ⊢; obtain⟨cs,J,h2⟩:=hr;exact⟨cs,J,h _ _ _ h2⟩
def yG.nil:yG [] []:=λ_ _ _ h=>h
theorem yG.cons{v v':S}{vs vs':List S}(h:LeS v v')(J:yG vs vs'):yG (v::vs) (v'::vs'):=λM ρ x hr=>by
 cases x with
 |nil=>simp only[RepSs]at hr
 |cons c cs=>simp only[RepSs]at hr ⊢; exact⟨h _ _ _ hr.1,J _ _ _ hr.2⟩
theorem LeS.bq{b b':Bool}(h:b=b'):LeS (.bq b) (Bo b'):=λM ρ x hr=>by
 subst h;simp only[RepS,RepV,RepPV]at hr ⊢; exact⟨hr,rfl⟩
def LeS.qb{b':Bool}(h:b=b'):LeS (Bo b) (.bq b'):=λM ρ x hr=>by
 subst h;simp only[RepS,RepV,RepPV]at hr ⊢; exact hr.1
def LeS.qq{b':Bool}(h:b=b'):LeS (.bq b) (.bq b'):=LeS.of (by rw[h])
theorem Snd.sub{rt:RL}{fr:List Nat}{v v':S}(h:Snd P o rs rt fr v wt)(hl:LeS v v'):Snd P o rs rt fr v' wt:=by
 intro C st M ρ a w hH h1 h2 h3 hd k Q hk;refine h C st M ρ a w hH h1 h2 h3 hd k Q λa' w' M' ρ' J=>hk a' w' M' ρ' ?_
 cases hdst:o.dst with
 |none=>rw[hdst]at J;exact J
 |some d=>
  rw[hdst]at J;refine J.zr8 rfl rfl λj s U=>?_;simp only[app]at U;rw[yk]at U;split at U
  ·rename_i e;subst e;simp only[ui]at U;subst U;exact hl _ _ _ (J.slots d v (by simp only[app];exact zaM _ _ _))
  ·rename_i e;exact J.slots j s (by simp only[app];rw[zbq e];exact U)
theorem yC.sub{rt:RL}{fr:List Nat}{v v':S}(h:yC P ops o rs rt fr v wt)(hl:LeS v v'):yC P ops o rs rt fr v' wt:=by
 intro C st M ρ a w hH h1 h2 h3 hd k Q hk;refine h C st M ρ a w hH h1 h2 h3 hd k Q λa' w' M' ρ' J=>hk a' w' M' ρ' ?_
 cases hdst:o.dst with
 |none=>rw[hdst]at J;exact J
 |some d=>
  rw[hdst]at J;refine J.zr8 rfl rfl λj s U=>?_;simp only[app]at U;rw[yk]at U;split at U
  ·rename_i e;subst e;simp only[ui]at U;subst U;exact hl _ _ _ (J.slots d v (by simp only[app];exact zaM _ _ _))
  ·rename_i e;exact J.slots j s (by simp only[app];rw[zbq e];exact U)
def zv6{ty:TypeId}{g:Option (Nat×Bool)}{x:Operand}(J:okc x (.bq b)):
 Snd P ⟨d,.unOp .not t x,ty,ps,af,g⟩ (rq x (.bq b)) [] [] (.bq (!b)) []:=
 zi λC st M ρ a w h U _=>by
  have e:=h.evS (zq J U);simp only[RepS]at e;exact⟨.bool (!b),by simp[execOp,e,Op.unary],by simp only[RepS]⟩
structure Ret (M:Mem) (ρ:Nat->Value) (w:World) (R:RL) (res:S) (R':RL) (v:Value) (M':Mem) (ρ':Nat->Value) (w':World):Prop where
 rep:RepS M' ρ' res v
 zz:xJ M' ρ' w' (tb R')
 imm:Imm M' w'
 mle:MLe M M'
 newM: ∀b o u,M' b o=some u->M b o=some u\/w.heap.size<=b\/zaO (tb R) ρ b
 own: ∀b,zaO (tb R') ρ' b->w.heap.size<=b\/zaO (tb R) ρ b
 fram: ∀b,b<w.heap.size-> ¬zaO (tb R) ρ b->w'.heap[b]?=w.heap[b]?
 size:w.heap.size<=w'.heap.size
 os:w'.os=w.os
 tape:w'.tape=w.tape
 output:w'.output=w.output
 keep: ∀id,id∈R.ids->ρ' id=ρ id
def ju(P:Program)(f:FuncId):Prop:= ∃fn,P.funcs[f]?=some fn/\(fn.name== "runtime.NumGoroutine")=false/\fn.body.isNone=false
def zh(P:Program)(f:FuncId)(args:List S)(R:RL)(res:S)(R':RL):Prop:=
 ju P f/\ ∀(M:Mem) (ρ:Nat->Value) (w:World) (xs:List Value),RepSs M ρ args xs->xJ M ρ w (tb R)->Imm M w->GOk M w->
  Calls P f xs.toArray w λe w'=> ∃v M' ρ',e= .returned v/\Ret M ρ w R res R' v M' ρ' w'
def zC(R R':RL):List Nat:=R'.ids.filter λi=> !hasB i R.ids
def idx?(σ:Nat->Nat)(i:Nat):List Nat->Option Nat
 | []=>none
 |j::l=>match Nat.beq (σ j) i with
  |true=>some j
  |false=>idx? σ i l
theorem xm{σ:Nat->Nat}{i j:Nat}: ∀ {l:List Nat},idx? σ i l=some j->j∈l/\σ j=i
 | [],h=>by cases h
 |x::xs,h=>by
  simp only[idx?]at h;split at h
  ·simp_all
  ·have:=xm h;simp_all
theorem wR{σ:Nat->Nat}{i:Nat}: ∀ {l:List Nat},idx? σ i l=none-> ∀j∈l,σ j≠i
 | [],_,_,h=>by cases h
 |x::xs,h,j,J=>by
  simp only[idx?]at h;split at h
  ·cases h
  ·rename_i e;rcases uF.1 J with rfl|J
   ·intro e';simp_all
   ·exact wR h j J
mutual
def cloV(l:List Nat):V->Bool
 | .p _| .pi _ _=>true
 | .bx i _| .ar i| .el i _| .mp i| .bs i _ _| .nv i _| .np i _ _| .sv i _ _=>hasB i l
 | .cl _ a b=>cloVs l a&&cloVs l b
def cloVs(l:List Nat):List V->Bool
 | []=>true
 |v::vs=>cloV l v&&cloVs l vs
end
mutual
def cloS(l:List Nat):S->Bool
 | .one v=>cloV l v
 | .agg vs=>cloVs l vs
 | .tup ss=>cloSs l ss
 | .gd _ s=>cloS l s
 | .bq _=>true
 | .un=>true
def cloSs(l:List Nat):List S->Bool
 | []=>true
 |v::vs=>cloS l v&&cloSs l vs
end
def zwo(l:List Nat):Res->Bool
 | .box vs=>cloVs l vs
 | .arv _ _ x=>cloVs l (x.map (·.2))
 | .vw ids _ _=>allB (λi=>hasB i l) ids
 |_=>true
def yM(l:List Nat):RL->Bool
 | []=>true
 |(_,r)::rs=>zwo l r&&yM l rs
mutual
theorem zfJ{l:List Nat}{i:Nat}(hi:i∉l): ∀(v:V),cloV l v=true->mentV i v=false
 | .p _,_=>rfl
 | .pi _ _,_=>rfl
 | .bx j _,h=>xr λe=>hi (by simp only[cloV]at h;rw[<-e];exact zW h)
 | .ar j,h=>xr λe=>hi (by simp only[cloV]at h;rw[<-e];exact zW h)
 | .el j _,h=>xr λe=>hi (by simp only[cloV]at h;rw[<-e];exact zW h)
 | .mp j,h=>xr λe=>hi (by simp only[cloV]at h;rw[<-e];exact zW h)
 | .bs j _ _,h=>xr λe=>hi (by simp only[cloV]at h;rw[<-e];exact zW h)
 | .nv j _,h=>xr λe=>hi (by simp only[cloV]at h;rw[<-e];exact zW h)
 | .np j _ _,h=>xr λe=>hi (by simp only[cloV]at h;rw[<-e];exact zW h)
 | .sv j _ _,h=>xr λe=>hi (by simp only[cloV]at h;rw[<-e];exact zW h)
 | .cl _ a b,h=>by
   simp only[cloV,um]at h;simp only[mentV,xz hi a h.1,xz hi b h.2,UC]
theorem xz{l:List Nat}{i:Nat}(hi:i∉l): ∀(v:List V),cloVs l v=true->mentVs i v=false
 | [],_=>rfl
 |v::vs,h=>by
  simp only[cloVs,um]at h;simp only[mentVs,zfJ hi v h.1,xz hi vs h.2,UC]
end
mutual
theorem zal{l:List Nat}{i:Nat}(hi:i∉l): ∀(v:S),cloS l v=true->mentS i v=false
 | .one v,h=>zfJ hi v h
 | .agg vs,h=>xz hi vs h
 | .tup ss,h=>zc5 hi ss h
 | .gd _ s,h=>zal hi s h
 | .bq _,_=>rfl
 | .un,_=>rfl
theorem zc5{l:List Nat}{i:Nat}(hi:i∉l): ∀(v:List S),cloSs l v=true->mentSs i v=false
 | [],_=>rfl
 |v::vs,h=>by
  simp only[cloSs,um]at h;simp only[mentSs,zal hi v h.1,zc5 hi vs h.2,UC]
end
theorem zns{l:List Nat}(U:i∉l): ∀(r:Res),zwo l r=true->mentR i r=false
 | .box vs,h=>xz U vs h
 | .arr _ _,_=>rfl
 | .map _,_=>rfl
 | .bag _ _,_=>rfl
 | .ifc,_=>rfl
 | .bld _ _ _ _,_=>rfl
 | .itr _ _,_=>rfl
 | .mpg _,_=>rfl
 | .raw _ _,_=>rfl
 | .arc _ _ _ _,_=>rfl
 | .vw ids _ _,h=>by
   have J:allB (λj=>hasB j l) ids=true:=h;simp only[mentR];clear h
   induction ids with
   |nil=>rfl
   |cons x xs ih=>
    simp only[allB,um]at J;simp only[mentI,ih J.2,od];exact xr λe=>U (by rw[<-e];exact zW J.1)
 | .arv _ _ x,h=>(by have J:cloVs l (x.map (·.2))=true:=h;exact xz U _ J)
theorem zfK{l:List Nat}: ∀ {R:RL},yM l R=true-> ∀ {i r},(i,r)∈R->zwo l r=true
 | [],_,_,_,h=>by cases h
 |(j,s)::R,h,i,r,J=>by
  simp only[yM,um]at h;rcases uF.1 J with e|J
  ·simp_all
  ·exact zfK h.2 J
def yF:List Nat->Tab
 | []=>[]
 |i::l=>(i,none)::yF l
theorem zf9{l:List Nat}(h:tg (yF l++tab) i=some r):i∉l/\tg tab i=some r:=by
 induction l with
 |nil=>exact⟨ue,h⟩
 |cons x xs ih=>
  simp only[yF,uK,zm]at h
  grind
theorem zlK{a b:Tab}(h: ∀r,(i,r)∉a):tg (a++b) i=tg b i:=by
 induction a with
 |nil=>rfl
 |cons x xs ih=>
  obtain⟨j,s⟩:=x;simp only[uK,zm]
  grind
theorem znt{l:RL}{b:Tab}(h:tg (tb l++b) i=some r):tg (tb l) i=some r\/(i∉l.ids/\tg b i=some r):=by
 induction l with
 |nil=>exact .inr ⟨by simp[RL.ids],h⟩
 |cons x xs J=>
  obtain⟨j,s⟩:=x;simp only[tb,uK,zm]at h⊢;by_cases e:j=i
  ·simp_all
  ·rw[ur e]at h⊢;rcases J h with h|h
   ·exact .inl h
   ·exact .inr ⟨by simp only[RL.ids,uF,oW];grind,h.2⟩
theorem xc{l:List (Nat×Res)}(h:okT l st): ∀ {i r},(i,r)∈l->tg st.tab i=some r:=by
 induction l with
 |nil=>simp_all
 |cons x xs ih=>
  obtain⟨j,s⟩:=x;intro i r J;rcases uF.1 J with e|J
  ·simp only[uz]at e;obtain⟨rfl,rfl⟩:=e;exact h.1
  ·exact ih h.2 J
theorem zbv{σ:Nat->Nat}: ∀ {l:RL} {i:Nat} {r:Res},(i,r)∈l->(σ i,r.ren σ)∈l.ren σ
 | [],_,_,h=>by cases h
 |(j,s)::l,i,r,h=>by
  rcases uF.1 h with e|h
  ·simp only[uz]at e;simp[RL.ren,e.1,e.2]
  ·simp only[RL.ren,uF];exact .inr (zbv h)
theorem zmT{σ:Nat->Nat}: ∀ {l:RL},(l.ren σ).ids=l.ids.map σ
 | []=>rfl
 |(j,s)::l=>by simp only[RL.ren,RL.ids,uH,zmT (l:=l)]
theorem ztv{l:List Nat}(h:okF C l st): ∀i∈l,we C i st:=by
 induction l with
 |nil=>intro i h;cases h
 |cons x xs ih=>
  intro i J;rcases uF.1 J with rfl|J
  ·exact h.1
  ·exact ih h.2 i J
theorem zA.zxG{id:Nat}(h:zA M (λi=>ρ (σ i)) w id r):zA M ρ w (σ id) (r.ren σ):=by
 cases r with
 |box vs=>obtain⟨b,cs,el,h1,h2,h3⟩:=h;exact⟨b,cs,el,h1,h2,(RepVs.ren vs cs).2 h3⟩
 |arr e rows=>exact h
 |map es=>exact h
 |bag e L=>exact h
 |ifc=>exact h
 |bld T e b s=>exact h
 |vw ids e rows=>
  obtain⟨a,cap,h1,h2,h3,hl,h4⟩:=h;refine⟨a,cap,h1,h2,h3,hl,?_⟩;rcases h4 with h4|⟨b,o,cs,el,fz,h5,h6,J,h7,h8⟩
  ·exact .inl h4
  ·exact .inr ⟨b,o,cs,el,fz,h5,h6,J,h7,λj p hj=>let ⟨c,h9,U⟩:=h8 j p hj;⟨c,h9,by rw[znq];exact(RepV.ren _ c).2 U⟩⟩
 |itr l cur=>exact h
 |mpg es=>exact h
 |raw r o=>exact h
 |arc _ _ _ _=>exact h
 |arv e rows x=>
  obtain⟨a,cap,h1,h2,h3,hl,h4⟩:=h;refine⟨a,cap,h1,h2,h3,hl,?_⟩;rcases h4 with h4|⟨b,o,cs,el,fz,h5,h6,J,h7,h8⟩
  ·exact .inl h4
  ·exact .inr ⟨b,o,cs,el,fz,h5,h6,J,h7,λj p hj=>let ⟨c,h9,U⟩:=h8 j p hj;⟨c,h9,by rw[znp];exact(RepV.ren _ c).2 U⟩⟩
variable {res:S}{ρ':Nat->Value}
def Holds.called2(h:Holds C st M ρ a w){R R':RL}{v:Value}
 (hr:Ret M (λi=>ρ (σ i)) w R res R' v M' ρ' w') (hT:okT (R.ren σ) st) (U:injB σ (zC R R')=true) (hiR:injB σ R'.ids=true) (hF:okF C ((zC R R').map σ) st) (hc:cloS (R.ids++R'.ids) res=true)
 (hcR:yM (R.ids++R'.ids) R'=true) (hd:dok d st.n=true):
 ∃ρ3,Holds C (app d (res.ren σ) (tb (R'.ren σ)++yF (R.ids.map σ)) st) M' ρ3 (a.put d v) w'/\ ∀i r,tg st.tab i=some r->ρ3 i=ρ i:=by
 have tk: ∀i r,(i,r)∈R->tg st.tab (σ i)=some (r.ren σ):=λi r hm=>xc hT (zbv hm)
 have tk': ∀i,i∈R.ids-> ∃r,tg st.tab (σ i)=some r:=λi hm=>by
  obtain⟨r,hr⟩:=vS hm;exact⟨_,tk i r (zF hr)⟩
 have fr: ∀j,j∈zC R R'->we C (σ j) st:=λj hj=>ztv hF _ (tO.2 ⟨j,hj,rfl⟩)
 let ρ3:Nat->Value:=λi=>match idx? σ i (zC R R')with|some j=>ρ' j|none=>ρ i
 have r3n: ∀j,j∈zC R R'->ρ3 (σ j)=ρ' j:=λj hj=>by
  simp only[ρ3];cases e:idx? σ (σ j) (zC R R')with
  |none=>exact absurd rfl (wR e j hj)
  |some k=>
   obtain⟨hk,e2⟩:=xm e;by_cases hkj:k=j
   ·subst hkj;rfl
   ·exact absurd e2 (yt U k j hk hj hkj)
 have r3o: ∀i,(∀j∈zC R R',σ j≠i)->ρ3 i=ρ i:=λi U=>by
  simp only[ρ3];cases e:idx? σ i (zC R R')with
  |none=>rfl
  |some k=>obtain⟨hk,e2⟩:=xm e;exact absurd e2 (U k hk)
 have told: ∀i r,tg st.tab i=some r->ρ3 i=ρ i:=λi r U=>r3o i λj hj e=>(fr j hj).2.1 i r U |>.1 e.symm
 have agr:zdz (λi=> ∃j∈zC R R',σ j=i) ρ ρ3:=λi U=>r3o i λj hj e=>U ⟨j,hj,e⟩
 -- the callee's reading, for the ids that count
 have r3s: ∀j,j∈R.ids++R'.ids->ρ3 (σ j)=ρ' j:=λj hj=>by
  by_cases hR:j∈R.ids
  ·obtain⟨r,hr'⟩:=tk' j hR;rw[told _ _ hr',hr.keep j hR]
  ·have:j∈zC R R':=by
    simp only[zC,qN,ux];refine⟨(tp.1 hj).resolve_left hR,?_⟩;cases e:hasB j R.ids
    ·rfl
    ·exact absurd (zW e) hR
   exact r3n j this
 have agr':zdz (λi=>i∉R.ids++R'.ids) ρ' (λi=>ρ3 (σ i)):=λi U=>r3s i (qT.1 U)
 have owns: ∀b,zaO (tb R) (λi=>ρ (σ i)) b-> ∃i r,tg st.tab i=some r/\Bk (ρ i) b/\i∈R.ids.map σ:=λb ⟨i,r,J,h2⟩=>
  ⟨σ i,_,tk i r (zF J),h2,tO.2 ⟨i,zH (zF J),rfl⟩⟩
 have notfr: ∀b,(w.heap.size<=b\/zaO (tb R) (λi=>ρ (σ i)) b)-> ¬C.fr b:=λb hb hfr=>by
  rcases hb with hb|hb
  ·have:=hfr.1;have:=h.run.size;omega
  ·obtain⟨i,r,J,h2,_⟩:=owns b hb;exact h.ownf i r b J h2 hfr
 -- an entry of the new table
 have htab: ∀i r,tg (tb (R'.ren σ)++yF (R.ids.map σ)++st.tab) i=some r->
  (∃j s,tg (tb R') j=some s/\i=σ j/\r=s.ren σ)\/(i∉R.ids.map σ/\tg st.tab i=some r):=λi r U=>by
  rw[tE]at U;rcases znt U with J|⟨_,J⟩
  ·exact .inl (zq2 (yt hiR) J)
  ·exact .inr (zf9 J)
 have frame: ∀i r b,i∉R.ids.map σ->tg st.tab i=some r->Bk (ρ i) b->b<w.heap.size/\ ¬zaO (tb R) (λi=>ρ (σ i)) b:=λi r b hn U hb=>
  ⟨(h.zz.res i r U).lt hb,λho=>by
    obtain⟨j,s,J,h2,h3⟩:=owns b ho
    exact h.zz.dis i j r s b U J (λe=>hn (e ▸ h3)) hb h2⟩
 refine⟨ρ3,⟨?_,?_,?_,⟨?_,?_,?_⟩,?_,⟨hr.imm,?_,tG h.run.size hr.size,h.run.base.trans hr.mle,?_,hr.os.trans h.run.os,hr.tape.trans h.run.tape,hr.output.trans h.run.output⟩,?_⟩,told⟩
 ·cases d<;>exact h.dfr
 ·cases d<;>simp[Act.put,app,h.sz]
 ·intro k s hk
  have old: ∀s,sg st.sl k=some s->RepS M' ρ3 s (a.tmps.getD k undef):=λs hs=>
   RepS.mono hr.mle _ _ (RepS.agree agr _ _ (λi ⟨j,hj,e⟩=>by rw[<-e];exact(fr j hj).1 k s hs) (h.slots k s hs))
  cases d with
  |none=>exact old s hk
  |some d=>
   simp only[app]at hk;rw[yk]at hk;split at hk
   ·rename_i e;subst e;simp only[ui]at hk;subst hk;rw[yV (by rw[h.sz];exact ziF hd)];exact(RepS.ren _ _).2 (RepS.agree agr' _ _ (λi U=>zal U _ hc) hr.rep)
   ·rename_i e;rw[xH (λh=>e h.symm)];exact old s hk
 ·intro i r U;rcases htab i r U with⟨j,s,J,rfl,rfl⟩|⟨hn,J⟩
  ·have hres:=hr.zz.res j s J;have:=hres.agree agr' (λhx=>hx (tp.2 (.inr (zH (zF J))))) (λi U=>zns U _ (zfK hcR (zF J)));exact zA.zxG this
  ·have h2:=h.zz.res i r J
   have h3:=(h2.world (w':=w') λb hb=>by
    obtain⟨hlt,hno⟩:=frame i r b hn J hb
    exact hr.fram b hlt hno) |> zA.mono hr.mle
   exact h3.agree agr (λ⟨j,hj,e⟩=>(fr j hj).2.1 i r J |>.1 e.symm) (λk ⟨j,hj,e⟩=>by rw[<-e];exact((fr j hj).2.1 i r J).2)
 ·intro i j ri rj b U hj hne hbi hbj;rcases htab i ri U with⟨i',s,J,rfl,rfl⟩|⟨hni,J⟩<;>rcases htab j rj hj with⟨j',s',h2,rfl,rfl⟩|⟨hnj,h2⟩
  ·rw[r3s _ (tp.2 (.inr (zH (zF J))))]at hbi;rw[r3s _ (tp.2 (.inr (zH (zF h2))))]at hbj;exact hr.zz.dis i' j' s s' b J h2 (λe=>hne (by rw[e])) hbi hbj
  ·rw[r3s _ (tp.2 (.inr (zH (zF J))))]at hbi;rw[told _ _ h2]at hbj;obtain⟨hlt,hno⟩:=frame j rj b hnj h2 hbj;rcases hr.own b ⟨i',s,J,hbi⟩with h3|h3
   ·omega
   ·exact hno h3
  ·rw[r3s _ (tp.2 (.inr (zH (zF h2))))]at hbj;rw[told _ _ J]at hbi;obtain⟨hlt,hno⟩:=frame i ri b hni J hbi;rcases hr.own b ⟨j',s',h2,hbj⟩with h3|h3
   ·omega
   ·exact hno h3
  ·rw[told _ _ J]at hbi;rw[told _ _ h2]at hbj;exact h.zz.dis i j ri rj b J h2 hne hbi hbj
 ·intro i r b U hb o;rcases htab i r U with⟨j,s,J,rfl,rfl⟩|⟨hn,J⟩
  ·rw[r3s _ (tp.2 (.inr (zH (zF J))))]at hb;exact hr.zz.own j s b J hb o
  ·rw[told _ _ J]at hb;obtain⟨hlt,hno⟩:=frame i r b hn J hb;cases hm:M' b o with
   |none=>rfl
   |some u=>
    rcases hr.newM b o u hm with h2|h2|h2
    ·rw[h.zz.own i r b J hb o]at h2;cases h2
    ·omega
    simp_all
 ·intro i r b U hb;rcases htab i r U with⟨j,s,J,rfl,rfl⟩|⟨hn,J⟩
  ·rw[r3s _ (tp.2 (.inr (zH (zF J))))]at hb;exact notfr b (hr.own b ⟨j,s,J,hb⟩)
  ·rw[told _ _ J]at hb;exact h.ownf i r b J hb
 ·intro b hb;rw[hr.fram b (qJ hb.1 h.run.size) (λho=>notfr b (.inr ho) hb)];exact h.run.fram b hb
 ·intro b o u hu;rcases hr.newM b o u hu with h2|h2
  ·exact h.run.newM b o u h2
  simp_all
 ·intro i r U
  rw[r3o i λj hj e=>by
   have:=(fr j hj).2.2
   rw[e,U]at this;cases this]
  exact h.keep i r U
def Holds.called(h:Holds C st M ρ a w){R R':RL}{v:Value}
 (hr:Ret M (λi=>ρ (σ i)) w R res R' v M' ρ' w') (hT:okT (R.ren σ) st) (hi:injB σ (zC R R')=true) (J:injB σ R'.ids=true) (hF:okF C ((zC R R').map σ) st) (hc:cloS (R.ids++R'.ids) res=true)
 (U:yM (R.ids++R'.ids) R'=true) (hd:dok d st.n=true):
 ∃ρ3,Holds C (app d (res.ren σ) (tb (R'.ren σ)++yF (R.ids.map σ)) st) M' ρ3 (a.put d v) w':=
 let ⟨ρ3,h3,_⟩:=h.called2 hr hT hi J hF hc U hd
 ⟨ρ3,h3⟩
end Hw
