/- The engine and the contracts. -/
import Derived.Test.YtgcfmjlnapcioaaGreatDoorC7
import Derived.Test.YtgcfmjlnapcioaaGreatDoorC4
import Derived.Test.YtgcfmjlnapcioaaGreatDoorC3
import Derived.Lib.ItoaMem
import Derived.Test.YtgcfmjlnapcioaaGreatDoorProg
import Derived.KernelRfl
import Derived.Shelf.Strconv.Itoa3
import Derived.Test.YtgcfmjlnapcioaaGreatDoorC1
import Derived.Shelf.Strings.BuilderK
import Derived.Shelf.Strings.Cut
import Derived.Test.YtgcfmjlnapcioaaGreatDoorE3
import Derived.Lib.SliceRun
import Derived.Test.YtgcfmjlnapcioaaGreatDoorC6
import Derived.Shelf.Spec.SlicesInsertGrow
import Derived.Shelf.SlicesE.Delete
set_option linter.unusedVariables false
set_option linter.unusedSimpArgs false
namespace Hw.Fr
open Go Go.Proofs Go.Shelf Hw.M Md
def opsOf:Code→List Oper
 | .region _ ops _=>ops.toList
 | .seq a b=>opsOf a++opsOf b
 |_=>[]
def rowOf(o:Oper):List (Str×Str×Int):=match o.op with
 | .build _ ps=>match ps.toList with
   | [(_,.const (.string n)),(_,.const (.string x)),(_,.const (.int _ k))]=>[(n,x,k)]
   |_=>[]
 |_=>[]
noncomputable def zqS:List (Str×Str×Int):=match Tryz.f105.body with
 |some c=>(opsOf c).flatMap rowOf
 |none=>[]
def zdn(x:Str×Str×Int):List PV:=[ks x.1,ks x.2.1,ki x.2.2]
theorem zr3:zj Tryz.prog 105 [] [] (pS (.sl 3 (zqS.map zdn))) []:=by
 refine gO T Tryz.func105 fun C hC=>?_
 repeat' first|refine gG ?_|refine gB (fun h=>?_) (fun h=>?_)|refine ya T hC rfl rfl rfl rfl rfl rfl rfl rfl rfl ?_
 exact gF
end Hw.Fr
namespace Hw.Fr
open Go Go.Proofs Go.Shelf Hw.M Md
def noS:Str×Str×Int:=((⟨#[]⟩:ByteArray),(⟨#[]⟩:ByteArray),0)
noncomputable def zb9(s:Str):Option (Str×Str×Int):=zqS.find? fun x=>decide (x.1=s)
theorem znq:zqS.length=11:=by kernel_rfl
theorem zha(s:Str):zj Tryz.prog 71 [Sr s] [] (.tup [zz (zdn ((zb9 s).getD noS)),I (if(zb9 s).isSome then 0 else 9)]) []:=by
 have hA:=zr3
 have hL:=znq
 unfold zb9
 generalize zqS=L at hA hL
 refine gO T Tryz.func71 fun C hC=>?_
 repeat' first|refine gG ?_|refine gB (fun h=>?_) (fun h=>?_)|refine gC hA ?_
 rw[List.length_map]
 refine zy (fun i:Nat=>i≤L.length∧(L.take i).any (fun x=>decide (x.1=s))=false) (fun i=>([(0,Sr s),(2,.one (.bx 1002 0)),(6,pS (.sl 3 (L.map zdn))),(7,I L.length),(8,I i)],[(1002,some (Res.box ((zdn noS).map V.p)))])) (fun i=>L.length - i) hC
  0 ⟨Nat.zero_le _,by simp⟩ id gM ?_
 rintro i ⟨hi,hn⟩
 refine zI T hC true 200 rfl ?_
 refine zP rfl (fun h=>?_) (fun h=>?_)
 ·have hlt:i<L.length:=by simpa using h
  clear h
  obtain⟨x,hx⟩:=zf hlt
  repeat' first|refine gG ?_|refine gB (fun h=>?_) (fun h=>?_)|refine gX ?_|refine zT ?_
  ·have e:L.find? (fun x=>decide (x.1=s))=some x:=Ps.zfJ hx (by assumption) hn
   rw[e]
   exact gF
  ·rw[wV (by omega)]
   refine zh (i+1) ⟨by omega,?_⟩ id (by omega) gM
   rw[List.take_add_one,hx,List.any_append,hn]
   simpa using h
 ·have hge:L.length=i:=by have:=of_decide_eq_false h;omega
  rw[←hge,List.take_length]at hn
  rw[Ps.zfK hn]
  clear h
  repeat' first|refine gG ?_|refine gB (fun h=>?_) (fun h=>?_)|refine zp ?_
  exact gF
noncomputable def zr4(s:Str):Int:=((zb9 s).getD noS).2.2
theorem znr(s:Str):zj Tryz.prog 39 [Sr s] [] (.tup [I (zr4 s),I (if(zb9 s).isSome then 0 else 9)]) []:=by
 have hF:=zha s
 refine gO T Tryz.func39 fun C hC=>?_
 repeat' first|refine gG ?_|refine gB (fun h=>?_) (fun h=>?_)|refine gC hF ?_
 exact gF
theorem zkT:zqS.all (fun x=>decide (1≤x.2.2)&&decide (x.2.2≤4)&&decide (x.2.1.size≤65536))=true:=by kernel_rfl
theorem zcx{s:Str}{x:Str×Str×Int}(h:zb9 s=some x):x.1=s∧(1≤x.2.2∧x.2.2≤4)∧x.2.1.size≤65536:=by
 have h1:=List.mem_of_find?_eq_some h
 have h2:=List.find?_some h
 have h3:=List.all_eq_true.1 zkT x h1
 simp only[Bool.and_eq_true,decide_eq_true_eq]at h3
 exact⟨of_decide_eq_true h2,h3.1,h3.2⟩
end Hw.Fr
namespace Hw.Fr
open Go Go.Proofs Go.Shelf Hw.M Md
structure StT where
 kind:Int
 time:Int
 o:OpT
def zah(s:StT):List PV:=[ki s.kind,ki s.time]++opR s.o
def zns(s:StT):Bool:=decide (70<(s.o.args.length:Int))
theorem zp1(s:StT):zj Tryz.prog 38 [zz (zah s)] [] (.bq (zns s)) []:=by
 refine gO T Tryz.func38 fun C hC=>?_
 repeat' first|refine gG ?_|refine gB (fun h=>?_) (fun h=>?_)|refine gQ ?_|refine gL ?_
 all_goals (try simp only[List.length_map]at*)
 all_goals first
  |rfl
  |(simp;done)
  |(simp_all;done)
  |(simp_all;omega)
  |(intros;simp_all<;>omega)
theorem znt(f:FuncId)(l:List StT)(p:StT→Unit→Bool)(nx:StT→Unit→Unit)(inv:Unit→Prop)
 (hf: ∀x∈l,∀s:Unit,inv s→zj Tryz.prog f [zz (zah x)] [] (.bq (p x s)) ((fun s:Unit=>[]) (nx x s))∧(p x s=false→inv (nx x s))) (s:Unit) (hs:inv s):
 zj Tryz.prog 70 [pS (.sl 4 (l.map zah)),.one (.cl f [] [])] [] (I (idxR p nx l 0 s).1) ((fun s:Unit=>[]) (idxR p nx l 0 s).2):=by
 refine gO T Tryz.func70 fun C hC=>?_
 have hs0:=hs
 refine w9 0 rfl fun hl=>?_
 rw[List.length_map]at hl
 repeat' first|refine gG ?_|refine gB (fun h=>?_) (fun h=>?_)
 rw[List.length_map]
 refine zy (fun q:Nat×Unit=>q.1≤l.length∧inv q.2∧idxR p nx (l.drop q.1) q.1 q.2=idxR p nx l 0 s) (fun q=>(fun s:Unit=>([(0,pS (.sl 4 (l.map zah))),(1,.one (.cl f [] [])),(7,I l.length),(8,I q.1)],[])) q.2) (fun q=>l.length - q.1) hC
  (0,s) ⟨Nat.zero_le _,hs,rfl⟩ id gM ?_
 generalize idxR p nx l 0 s=res
 clear hs hs0
 rintro⟨i,s⟩ ⟨hi,hv,hn⟩
 simp only at hi hv hn
 refine zI T hC true 200 rfl ?_
 refine zP rfl (fun hh=>?_) (fun hh=>?_)
 ·have hlt:i<l.length:=by simpa using hh
  clear hh
  obtain⟨x,hx⟩:=zf hlt
  rw[drop_at hx]at hn
  simp only[idxR]at hn
  have hv2:=(hf x (List.mem_of_getElem? hx) s hv).2
  repeat' first|refine gG ?_|refine gB (fun h=>?_) (fun h=>?_)|refine gI T (zu hx) ?_|refine zr hC (hf x (List.mem_of_getElem? hx) s hv).1 id rfl rfl (yJ.refl _) rfl rfl rfl rfl rfl rfl rfl rfl ?_|refine zT ?_
  ·rw[if_pos (by assumption)]at hn
   subst hn
   exact gF
  ·have hpf:p x s=false:=by assumption
   rw[hpf]at hn
   simp only[Bool.false_eq_true,if_false]at hn
   rw[wrap64 (by omega)]
   exact zh (i+1,nx x s) ⟨by simp only;omega,hv2 hpf,hn⟩ id (by simp only;omega) gM
 ·have hge: ¬i<l.length:=by simpa using hh
  rw[List.drop_eq_nil_of_le (by omega)]at hn
  simp only[idxR]at hn
  subst hn
  repeat' first|refine gG ?_|refine gB (fun h=>?_) (fun h=>?_)|refine zp ?_
  exact gF
theorem znu(f:FuncId)(l:List StT)(p:StT→Unit→Bool)(nx:StT→Unit→Unit)(inv:Unit→Prop)
 (hf: ∀x∈l,∀s:Unit,inv s→zj Tryz.prog f [zz (zah x)] [] (.bq (p x s)) ((fun s:Unit=>[]) (nx x s))∧(p x s=false→inv (nx x s))) (s:Unit) (hs:inv s):
 zj Tryz.prog 37 [pS (.sl 4 (l.map zah)),.one (.cl f [] [])] [] (.bq (anyR p nx l s).1) ((fun s:Unit=>[]) (anyR p nx l s).2):=by
 refine gO T Tryz.func37 fun C hC=>?_
 repeat' first|refine gG ?_|refine gB (fun h=>?_) (fun h=>?_)|refine gR (znt f l p nx inv hf s hs) (nm []) ?_
 exact zg ⟨.inl rfl,id,_,rfl,.qq (jo p nx l 0 s),by rw[←jq p nx l 0 s];exact trivial,rfl,rfl⟩
theorem zkU{α:Type}(p:α→Bool): ∀l:List α,(anyR (fun(x:α) (_:Unit)=>p x) (fun _ s=>s) l ()).1=l.any p
 | []=>rfl
 |x::l=>by
  simp only[anyR,List.any_cons]
  cases p x with
  |true=>rfl
  |false=>simp[zkU p l]
theorem znv(f:FuncId)(l:List StT)(p:StT→Bool)(hf: ∀x∈l,zj Tryz.prog f [zz (zah x)] [] (.bq (p x)) []):zj Tryz.prog 37 [pS (.sl 4 (l.map zah)),.one (.cl f [] [])] [] (.bq (l.any p)) []:=by
 have:=znu f l (fun x _=>p x) (fun _ s=>s) (fun _=>True) (fun x hx s _=>⟨hf x hx,fun _=>trivial⟩) () trivial
 rw[zkU]at this
 exact this
def zfW(l:List StT):Bool:=decide ((l.length:Int)≤25)&& !l.any zns
theorem zbS(l:List StT):zj Tryz.prog 11 [pS (.sl 4 (l.map zah))] [] (.bq (zfW l)) []:=by
 have hX:=znv 38 l zns fun o _=>zp1 o
 unfold zfW
 generalize l.any zns=q at hX⊢
 refine gO T Tryz.func11 fun C hC=>?_
 repeat' first|refine gG ?_|refine gB (fun h=>?_) (fun h=>?_)|refine gC hX ?_|refine gQ ?_|refine gL ?_
 all_goals (clear hX;try simp only[List.length_map]at*)
 all_goals first
  |rfl
  |(simp;done)
  |(simp_all;done)
  |(simp_all;omega)
  |(intros;simp_all<;>omega)
theorem zbe{l:List StT}(h:zfW l=true):l.length≤25:=by
 unfold zfW at h
 rw[Bool.and_eq_true]at h
 have:=of_decide_eq_true h.1
 omega
def rkL:List (Str×Int):=[((⟨#[108,105,115,116]⟩:ByteArray),1),((⟨#[98,115,116]⟩:ByteArray),1),((⟨#[115,112,108,97,121]⟩:ByteArray),1),((⟨#[116,114,101,97,112]⟩:ByteArray),1),((⟨#[119,101,105,103,104,116,98,97,108,97,110,99,101,100]⟩:ByteArray),1),((⟨#[115,107,101,119,104,101,97,112]⟩:ByteArray),2),((⟨#[108,101,102,116,105,115,116]⟩:ByteArray),2),((⟨#[112,97,105,114,105,110,103]⟩:ByteArray),2),((⟨#[117,110,105,111,110,102,105,110,100]⟩:ByteArray),4),((⟨#[114,111,112,101]⟩:ByteArray),3),((⟨#[103,97,112]⟩:ByteArray),3)]
def rkF(s:Str):Int:=bif decide (s=(⟨#[108,105,115,116]⟩:ByteArray))then 1 else bif decide (s=(⟨#[98,115,116]⟩:ByteArray))then 1 else bif decide (s=(⟨#[115,112,108,97,121]⟩:ByteArray))then 1 else bif decide (s=(⟨#[116,114,101,97,112]⟩:ByteArray))then 1 else bif decide (s=(⟨#[119,101,105,103,104,116,98,97,108,97,110,99,101,100]⟩:ByteArray))then 1 else bif decide (s=(⟨#[115,107,101,119,104,101,97,112]⟩:ByteArray))then 2 else bif decide (s=(⟨#[108,101,102,116,105,115,116]⟩:ByteArray))then 2 else bif decide (s=(⟨#[112,97,105,114,105,110,103]⟩:ByteArray))then 2 else bif decide (s=(⟨#[117,110,105,111,110,102,105,110,100]⟩:ByteArray))then 4 else bif decide (s=(⟨#[114,111,112,101]⟩:ByteArray))then 3 else bif decide (s=(⟨#[103,97,112]⟩:ByteArray))then 3 else 0
theorem wc(s:Str):zj Tryz.prog 13 [Sr s] [] (I (rkF s)) []:=by
 unfold rkF
 refine gO T Tryz.func13 fun C hC=>?_
 repeat' first|refine gG ?_|(exfalso;rename_i h2;exact absurd (h.symm.trans h2) (by decide))|refine gB (fun h=>?_) (fun h=>?_)
 all_goals
  simp only[*,cond_true,cond_false]
  exact gF
theorem zkV:zqS.map (fun x=>(x.1,x.2.2))=rkL:=by kernel_rfl
theorem zp2(s:Str):(rkL.find? fun p=>decide (p.1=s)).map (·.2)=if rkF s=0 then none else some (rkF s):=by
 have hs: ∀a:Str,decide (a=s)=decide (s=a):=fun a=>decide_eq_decide.2 eq_comm
 unfold rkL rkF
 simp only[List.find?,hs]
 repeat' first|rfl|(generalize decide (s=_)=b;cases b<;>simp only[cond_true,cond_false])
theorem zp3(s:Str):(zb9 s).map (·.2.2)=if rkF s=0 then none else some (rkF s):=by
 rw[←zp2 s,←zkV]
 unfold zb9
 rw[List.find?_map,Option.map_map]
 rfl
end Hw.Fr
namespace Hw.Fr.Ps
open Go Go.Proofs Go.Shelf Hw.M
def zqT(u:Nat):Str:=⟨(Lib.decDigits u).toArray⟩
def zaC(n:Int):Str:=⟨(Lib.itoa n).toArray⟩
theorem zeB(u:Nat):(zqT u).size=Lib.nDigits u:=by
 rw[←Lib.decDigits_length];simp[zqT,ByteArray.size]
theorem zcy{u:Nat}(h:u<18446744073709551616):Lib.nDigits u≤20:=by
 rcases Nat.eq_zero_or_pos u with rfl|h1
 ·rw[Lib.nDigits_small (by omega)];omega
 ·have:=Lib.numDigits_eq u h1 h
  split at this<;>omega
theorem zeC{n:Int}(h:0≤n):zaC n=zqT n.toNat:=by simp only[zaC,Lib.itoa,if_neg (show ¬n<0 by omega),zqT]
theorem zkW{n:Int}(h:n<0):zaC n=(⟨#[45]⟩:Str)++zqT n.natAbs:=by
 simp only[zaC,Lib.itoa,if_pos h,zqT]
 apply ByteArray.ext
 rw[ByteArray.data_append]
 apply Array.toList_inj.1
 simp
theorem zr5{f:FuncId}{fn:Func}(h:Tryz.prog.funcs[f]?=some fn)(h1:(fn.name== "runtime.NumGoroutine")=false)(h2:fn.body.isNone=false):ji Tryz.prog f:=⟨fn,h,h1,h2⟩
end Hw.Fr.Ps
/- The library's functions at this program: their numbers. -/
namespace Hw.Fr
open Go Go.Proofs Go.Shelf
def zeD:Go.Shelf.Ren:=⟨fun|171=>143|243=>168|246=>216|283=>260|284=>261|285=>262|286=>263|129=>200|317=>287|318=>288|319=>289|320=>290|337=>310|338=>311|n=>n,fun|3=>3|9=>9|2=>2|4=>4|171=>338|0=>0|53=>286|37=>41|5=>5|173=>340|212=>359|51=>284|20=>20|213=>360|46=>178|232=>385|233=>386|n=>n,fun|17=>1|18=>3|19=>4|n=>n⟩
theorem znw:Go.Proofs.LaysM.n171 Tryz.prog zeD where
 mixed:=by kernel_rfl
 f129:=Tryz.func200.trans (congrArg some (by kernel_rfl))
 f171:=Tryz.func143.trans (congrArg some (by kernel_rfl))
 f243:=Tryz.func168.trans (congrArg some (by kernel_rfl))
 f246:=Tryz.func216.trans (congrArg some (by kernel_rfl))
 f283:=Tryz.func260.trans (congrArg some (by kernel_rfl))
 f284:=Tryz.func261.trans (congrArg some (by kernel_rfl))
 f285:=Tryz.func262.trans (congrArg some (by kernel_rfl))
 f286:=Tryz.func263.trans (congrArg some (by kernel_rfl))
 f317:=Tryz.func287.trans (congrArg some (by kernel_rfl))
 f318:=Tryz.func288.trans (congrArg some (by kernel_rfl))
 f319:=Tryz.func289.trans (congrArg some (by kernel_rfl))
 f320:=Tryz.func290.trans (congrArg some (by kernel_rfl))
 f337:=Tryz.func310.trans (congrArg some (by kernel_rfl))
 f338:=Tryz.func311.trans (congrArg some (by kernel_rfl))
 t0:=Tryz.underlying0
 a0:=Tryz.isAgg0
 z0:=Tryz.sizeOf0
 v0:=Tryz.zeroValue0
 t2:=Tryz.underlying2
 a2:=Tryz.isAgg2
 z2:=Tryz.sizeOf2
 v2:=Tryz.zeroValue2
 t3:=Tryz.underlying3
 a3:=Tryz.isAgg3
 z3:=Tryz.sizeOf3
 v3:=Tryz.zeroValue3
 t4:=Tryz.underlying4
 a4:=Tryz.isAgg4
 z4:=Tryz.sizeOf4
 v4:=Tryz.zeroValue4
 t5:=Tryz.underlying5
 a5:=Tryz.isAgg5
 z5:=Tryz.sizeOf5
 v5:=Tryz.zeroValue5
 t9:=Tryz.underlying9
 a9:=Tryz.isAgg9
 z9:=Tryz.sizeOf9
 v9:=Tryz.zeroValue9
 t20:=Tryz.underlying20
 a20:=Tryz.isAgg20
 z20:=Tryz.sizeOf20
 v20:=Tryz.zeroValue20
 t37:=Tryz.underlying41
 a37:=Tryz.isAgg41
 z37:=Tryz.sizeOf41
 v37:=Tryz.zeroValue41
 t46:=Tryz.underlying178
 a46:=Tryz.isAgg178
 z46:=Tryz.sizeOf178
 v46:=Tryz.zeroValue178
 t51:=Tryz.underlying284
 a51:=Tryz.isAgg284
 z51:=Tryz.sizeOf284
 v51:=Tryz.zeroValue284
 t53:=Tryz.underlying286
 a53:=Tryz.isAgg286
 z53:=Tryz.sizeOf286
 v53:=Tryz.zeroValue286
 t171:=Tryz.underlying338
 a171:=Tryz.isAgg338
 z171:=Tryz.sizeOf338
 v171:=Tryz.zeroValue338
 t173:=Tryz.underlying340
 a173:=Tryz.isAgg340
 z173:=Tryz.sizeOf340
 v173:=Tryz.zeroValue340
 t212:=Tryz.underlying359
 a212:=Tryz.isAgg359
 z212:=Tryz.sizeOf359
 v212:=Tryz.zeroValue359
 t213:=Tryz.underlying360
 a213:=Tryz.isAgg360
 z213:=Tryz.sizeOf360
 t232:=Tryz.underlying385
 a232:=Tryz.isAgg385
 z232:=Tryz.sizeOf385
 v232:=Tryz.zeroValue385
 t233:=Tryz.underlying386
 a233:=Tryz.isAgg386
 z233:=Tryz.sizeOf386
 v233:=Tryz.zeroValue386
 g17:=by kernel_rfl
 g18:=by kernel_rfl
 g19:=by kernel_rfl
 i0:=by kernel_rfl
 i2:=by kernel_rfl
 i3:=by kernel_rfl
 i4:=by kernel_rfl
 i5:=by kernel_rfl
 i9:=by kernel_rfl
 i20:=by kernel_rfl
 i37:=by kernel_rfl
 i46:=by kernel_rfl
 i51:=by kernel_rfl
 i53:=by kernel_rfl
 i171:=by kernel_rfl
 i173:=by kernel_rfl
 i212:=by kernel_rfl
 i232:=by kernel_rfl
 i233:=by kernel_rfl
 m17:=by kernel_rfl
 m18:=by kernel_rfl
 m19:=by kernel_rfl
end Hw.Fr
namespace Hw.Fr.Ps
open Go Go.Proofs Go.Shelf Hw.M
theorem zp4(n:Int)(h0: -9223372036854775808≤n)(h1:n≤9223372036854775807):zj Tryz.prog 143 [I n] [] (Sr (zaC n)) []:=
 @ziU _ _ [.int .i64 n] _ (zr5 Tryz.func143 (by kernel_rfl) (by kernel_rfl)) (fun w hw=>by
  obtain⟨el,fz,hb⟩:=hw.2.2 _ (List.mem_cons_self ..)
  have htab:Lib.TabIs Tryz.prog w "internal/strconv.uint64pow10" .u64 Lib.pow10Tab:=by
   unfold Lib.TabIs World.var?
   rw[show(Tryz.prog).globalNamed "internal/strconv.uint64pow10" =some 1 by kernel_rfl]
   simp only[Option.bind_some]
   rw[hb]
   rfl
  refine(Any.strconv_Itoa znw n h0 h1 w htab).mono ?_
  rintro e w' ⟨he,k,os,rfl⟩
  exact⟨he,⟨rfl,rfl,rfl,by show w.heap.size≤(w.heap++os).size;simp,fun b hb=>by show(w.heap++os)[b]?=_;rw[Array.getElem?_append_left hb]⟩⟩) rfl
end Hw.Fr.Ps
/- The engine, part BM: strings.Builder: what its functions do to its block and its buffer's, and nothing else. -/
namespace Hw
open Go Go.Proofs Go.Shelf Go.RowKit
def wX(T e:TypeId)(b:Nat)(p v:Value)(s:ByteArray)(w:World):Prop:=
 w.heap[b]?=some (.cells #[p,v] T (0,0))∧w.ownsRowF 0 e 1 v (Lib.strCells s).length (Lib.strCells s)∧v.ownBlock≠some b∧(s.size=0→v= .slice none 0 0)
structure Kp (b:Nat) (v v':Value) (w w':World):Prop where
 block: ∀c,c<w.heap.size→c≠b→v.ownBlock≠some c→w'.heap[c]?=w.heap[c]?
 size:w.heap.size≤w'.heap.size
 os:w'.os=w.os
 tape:w'.tape=w.tape
 output:w'.output=w.output
 own: ∀g,v'.ownBlock=some g→w.heap.size≤g∨v.ownBlock=some g
theorem Kp.refl(b:Nat)(v:Value)(w:World):Kp b v v w w:=⟨fun _ _ _ _=>rfl,Nat.le_refl _,rfl,rfl,rfl,fun _ h=> .inr h⟩
theorem Kp.trans{b:Nat}{v v' v2:Value}{w w' w2:World}(h:Kp b v v' w w')(h2:Kp b v' v2 w' w2):Kp b v v2 w w2:=
 ⟨fun c hc hb hv=>(h2.block c (Nat.lt_of_lt_of_le hc h.size) hb fun e=>(h.own c e).elim (fun h3=>by omega) hv).trans (h.block c hc hb hv),Nat.le_trans h.size h2.size,h2.os.trans h.os,h2.tape.trans h.tape,h2.output.trans h.output,
   fun g hg=>(h2.own g hg).elim (fun h3=> .inl (Nat.le_trans h.size h3)) (h.own g)⟩
theorem Kp.set{b:Nat}(v:Value)(w:World)(j:Nat)(u:Value):Kp b v v w (w.setCell ⟨b,j,none⟩ u):=
 ⟨fun c _ hb _=>Below.heap_setCell _ _ _ _ hb,by simp[World.setCell],rfl,rfl,rfl,fun _ h=> .inr h⟩
theorem Kp.grown{b:Nat}{v v':Value}{w w':World}(h:w.grownBy w' v.ownBlock)(hv: ∀g,v'.ownBlock=some g→w.heap.size≤g∨v.ownBlock=some g):Kp b v v' w w':=
 ⟨fun c hc _ hne=>h.block c hc fun e=>hne e.symm,h.size,h.os,h.tape,h.output,hv⟩
theorem Kp.alloc(b:Nat)(v:Value)(w:World)(o:Obj):Kp b v v w (w.alloc o):=
 ⟨fun c hc _ _=>Lib.alloc_old w o c hc,by simp,rfl,rfl,rfl,fun _ h=> .inr h⟩
theorem wX.atF{T e:TypeId}{b:Nat}{p v:Value}{s:ByteArray}{w:World}(h:wX T e b p v s w):Lib.BuilderAtF T e 0 b p (Lib.strCells s) w:=⟨Nat.zero_le _,v,h.1,h.2.1,h.2.2.1⟩
theorem wX.lt{T e:TypeId}{b:Nat}{p v:Value}{s:ByteArray}{w:World}(h:wX T e b p v s w):b<w.heap.size:=h.atF.lt
theorem wX.used{T e:TypeId}{b:Nat}{p v:Value}{s:ByteArray}{w:World}(h:wX T e b p v s w)(q:Value):wX T e b q v s (w.setCell ⟨b,0,none⟩ q):=by
 obtain⟨hb,hown,hne,hn0⟩:=h
 refine⟨?_,?_,hne,hn0⟩
 ·simp[World.setCell,Array.getElem?_modify,hb]
 ·exact hown.kept (row:=some b) ⟨rfl,rfl,rfl,by simp[World.setCell],fun k _ hk=>Below.heap_setCell _ _ _ _ (fun e=>hk (by simp[e]))⟩ (Or.inr hne)
theorem wX.put{T e:TypeId}{b:Nat}{p v v':Value}{s:ByteArray}{w:World}(hb:w.heap[b]?=some (.cells #[p,v] T (0,0)))(hown:w.ownsRowF 0 e 1 v' (Lib.strCells s).length (Lib.strCells s))(hTe:T≠e)(hn0:s.size=0→v'= .slice none 0 0):
 wX T e b p v' s (w.setCell ⟨b,1,none⟩ v'):=by
 have hne:=Lib.ownBlock_neF hown hb hTe
 refine⟨?_,?_,hne,hn0⟩
 ·simp[World.setCell,Array.getElem?_modify,hb]
 ·exact hown.kept (row:=some b) ⟨rfl,rfl,rfl,by simp[World.setCell],fun k _ hk=>Below.heap_setCell _ _ _ _ (fun e=>hk (by simp[e]))⟩ (Or.inr hne)
theorem znx{P:Program}(w:World)(t u ty e:TypeId)(i:TypeInfo)(ht:P.underlying t=some (.slice e))(hu:P.underlying u=some .string)(hi:P.info? e=some i)(hz:i.zero=some (.int .u8 0))
 (hsize:i.size=1) (hby:i.bytes=1) (v:Value) (n:Nat) (xs:List Value) (hown:w.ownsRowF 0 e 1 v n xs) (s:ByteArray) (h63:n+s.size≤maxLen) (hbytes:n+s.size≤140737488355328):
 ∃v' w',(Builtin.append_ #[t,u] ty #[v,.string s]).run P w= .ok v' w'∧w'.ownsRowF 0 e 1 v' (n+s.size) (xs++Lib.strCells s)∧w.grownBy w' v.ownBlock∧(∀g,v'.ownBlock=some g→w.heap.size≤g∨v.ownBlock=some g)∧(v= .slice none 0 0→s.size=0→v'= .slice none 0 0):=by
 obtain⟨v',w',r1,r2,r3,r4⟩:=Lib.run_append_own_stringF (P:=P) w 0 t u ty e i ht hu hi hz hsize hby v n xs hown s h63 hbytes (Nat.zero_le _)
 refine⟨v',w',r1,r2,r3,?_,fun x y=>r4.2 ⟨x,y⟩⟩
 rcases hown.2 with⟨rfl,rfl⟩|⟨g,cap,cur,fz,rfl,hbg,hg,hfz,hnc,hcm,hcs,htake⟩
 ·obtain⟨v2,w2,q1,q2,_⟩:=Lib.run_append_own_stringF (P:=P) w w.heap.size t u ty e i ht hu hi hz hsize hby _ 0 xs ⟨hown.1,.inl ⟨rfl,rfl⟩⟩ s h63 hbytes (Nat.le_refl _)
  rw[r1]at q1
  simp only[Result.ok.injEq]at q1
  obtain⟨rfl,rfl⟩:=q1
  exact fun g hg=> .inl (q2.lt g hg).1
 ·by_cases hroom:n+s.size≤cap
  ·have hr:=Lib.run_append_room_stringF (P:=P) w t u ty e i ht hu hi hsize g n cap cur fz hg (by simpa using hfz) s hroom (by omega)
   rw[r1]at hr
   simp only[Result.ok.injEq]at hr
   obtain⟨rfl,_⟩:=hr
   exact fun g' hg'=> .inr hg'
  ·have hr:=Lib.run_append_grow_string (P:=P) w t u ty e i (.int .u8 0) ht hu hi hz ⟨g,0,none⟩ n cap xs (by rw[hsize];simpa using hown.1) (hown.cells (g:=g) rfl) s (by omega) (by simp only[maxLen]at h63;omega) (by rw[hby];exact growslice_fits (by omega) (by omega))
   rw[r1]at hr
   simp only[Result.ok.injEq]at hr
   obtain⟨rfl,_⟩:=hr
   intro g' hg'
   simp only[Value.ownBlock,Option.some.injEq]at hg'
   exact .inl (by omega)
section
variable {P:Program} {ρ:Ren}
structure ztC (P:Program) (ρ:Ren):Prop extends Lays.n169 P ρ where
 f166:P.funcs[ρ.f 166]?=some (Body.n166 ρ)
 e240: ∀args w,(callFunc (ρ.f 240) args).run P w= .ok (.enter (ρ.f 240) args) w
 chk: ∀ {b:Nat} {p v:Value} {s:ByteArray} {w:World},(p= .pointer none∨p= .pointer (some ⟨b,0,none⟩))→wX (ρ.t 72) (ρ.t 5) b p v s w→
  Calls P (ρ.f 240) #[.pointer (some ⟨b,0,none⟩)] w fun e w'=>e= .returned (.tuple #[])∧wX (ρ.t 72) (ρ.t 5) b (.pointer (some ⟨b,0,none⟩)) v s w'∧Kp b v v w w'
 t4:P.underlying (ρ.t 4)=some (TypeDesc.bool)
 a4: ∀w,(isAgg (ρ.t 4)).run P w= .ok false w
 z4: ∀w,(Go.sizeOf (ρ.t 4)).run P w= .ok 1 w
 v4: ∀w,(zeroValue (ρ.t 4)).run P w= .ok (Value.bool false) w
 t164:P.underlying (ρ.t 164)=some (TypeDesc.unsafePointer)
 a164: ∀w,(isAgg (ρ.t 164)).run P w= .ok false w
 z164: ∀w,(Go.sizeOf (ρ.t 164)).run P w= .ok 1 w
 v164: ∀w,(zeroValue (ρ.t 164)).run P w= .ok (Value.pointer none) w
theorem zio(w:World){ops:Array Oper}{rest:List Oper}{o:Oper}{a:Act}{Q:Exit→Act→World→Prop}(hgd:o.guard=none)(sl x:Operand)(t u:TypeId)
 (ho:o.op= .call { callee:= .builtin .append,args:= #[sl,x],argTypes:= #[t,u] }) (e:TypeId) (i:TypeInfo) (ht:P.underlying t=some (.slice e)) (hu:P.underlying u=some .string) (hi:P.info? e=some i) (hz:i.zero=some (.int .u8 0))
 (hsize:i.size=1) (hby:i.bytes=1) (v:Value) (n:Nat) (xs:List Value) (hs:a.eval sl=v) (hown:w.ownsRowF 0 e 1 v n xs) (s:ByteArray) (hx:a.eval x= .string s) (h63:n+s.size≤maxLen) (hbytes:n+s.size≤140737488355328)
 (h: ∀v' w',w'.ownsRowF 0 e 1 v' (n+s.size) (xs++Lib.strCells s)→w.grownBy w' v.ownBlock→(∀g,v'.ownBlock=some g→w.heap.size≤g∨v.ownBlock=some g)→(v= .slice none 0 0→s.size=0→v'= .slice none 0 0)→wpList P ops Q rest (a.put o.dst v') w'):wpList P ops Q (o::rest) a w:=by
 refine wpList_plain hgd fun K hK=>?_
 obtain⟨v',w',hr,h2,h3,h4,h5⟩:=znx (P:=P) w t u o.type e i ht hu hi hz hsize hby v n xs hown s h63 hbytes
 unfold Oper.wp execOp
 simp only[ho,resolve,invoke,builtin,Sem.run_bind,Sem.run_pure,Result.andThen_ok,List.map_toArray,List.map_cons,List.map_nil,hs,hx,hr]
 exact hK _ _ (h v' w' h2 h3 h4 h5)
theorem zt3{s t:ByteArray}(h:(s++t).size=0):s.size=0∧t.size=0:=by rw[vS]at h;omega
theorem zeE(s t:ByteArray):Lib.strCells (s++t)=Lib.strCells s++Lib.strCells t:=by
 simp[Lib.strCells,ByteArray.data_append]
set_option maxHeartbeats 2000000 in
set_option maxRecDepth 100000 in
theorem zr6(L:ztC P ρ)(X:Builder.Extra P ρ){b:Nat}{p v:Value}{s:ByteArray}{w:World}(hp:p= .pointer none∨p= .pointer (some ⟨b,0,none⟩))(h:wX (ρ.t 72) (ρ.t 5) b p v s w)(t:ByteArray)(hlen:s.size+t.size≤140737488355328):
 Calls P (ρ.f 166) #[.pointer (some ⟨b,0,none⟩),.string t] w fun e w'=>e= .returned (.tuple #[.int .i64 t.size,.nilIface])∧ ∃v',wX (ρ.t 72) (ρ.t 5) b (.pointer (some ⟨b,0,none⟩)) v' (s++t) w'∧Kp b v v' w w':=by
 obtain⟨i0,hi,hz0,hz1,hz2⟩:=info_parts X.infoByte
 have mixed:=L.mixed
 have t72:=L.t72;have a72:=L.a72;have z72:=L.z72;have v72:=L.v72;have u72:=run_underlying L.t72
 have t70:=L.t70;have a70:=L.a70;have z70:=L.z70;have v70:=L.v70;have u70:=run_underlying L.t70
 have t37:=L.t37;have a37:=L.a37;have z37:=L.z37;have v37:=L.v37;have u37:=run_underlying L.t37
 have t3:=L.t3;have a3:=L.a3;have z3:=L.z3;have v3:=L.v3;have u3:=run_underlying L.t3
 have t9:=L.t9;have a9:=L.a9;have z9:=L.z9;have v9:=L.v9;have u9:=run_underlying L.t9
 have t4:=L.t4;have a4:=L.a4;have z4:=L.z4;have v4:=L.v4;have u4:=run_underlying L.t4
 have t164:=L.t164;have a164:=L.a164;have z164:=L.z164;have v164:=L.v164;have u164:=run_underlying L.t164
 have t5:=X.t5;have a5:=X.a5;have z5:=X.z5;have v5:=X.v5;have u5:=run_underlying X.t5
 have e240:=L.e240
 go_enter L.f166,Body.n166_ntmps ρ
 go_wp2_with (go_at_fn (ρ.f 240);refine(L.chk hp h).mono ?_)
 rintro e w1 ⟨rfl,h1,k1⟩
 have hlt:=h1.lt
 obtain⟨hbk,hown,hne,hn0⟩:=h1
 have c0:w1.cell? ⟨b,0,none⟩=some (.pointer (some ⟨b,0,none⟩)):=by rw[Lib.cell_of_heap hbk];rfl
 have c1:w1.cell? ⟨b,1,none⟩=some v:=by rw[Lib.cell_of_heap hbk];rfl
 go_wp2_with (at_builtin;refine zio _ rfl _ _ (ρ.t 37) (ρ.t 9) rfl (ρ.t 5) i0 L.t37 L.t9 hi hz0 hz1 hz2 _ _ _ rfl hown t rfl ?c3 ?c4 ?_)
 case c3=>unfold maxLen;rw[Lib.strCells_length];omega
 case c4=>rw[Lib.strCells_length];omega
 intro v' w2 hown' hgrow hv' hv0
 have hb2:w2.heap[b]?=some (.cells #[.pointer (some ⟨b,0,none⟩),v] (ρ.t 72) (0,0)):=by
  rw[hgrow.block b hlt (fun e=>hne e.symm)]
  exact hbk
 have d0:w2.cell? ⟨b,0,none⟩=some (.pointer (some ⟨b,0,none⟩)):=by rw[Lib.cell_of_heap hb2];rfl
 have d1:w2.cell? ⟨b,1,none⟩=some v:=by rw[Lib.cell_of_heap hb2];rfl
 have f1:w2.frozen? ⟨b,1,none⟩=false:=Lib.frozen_of_heap hb2 1
 have k2:Kp b v v' w1 w2:=Kp.grown hgrow hv'
 obtain⟨ao,n',cap,rfl⟩: ∃ao n' cap,v'= .slice ao n' cap:=by
  rcases hown'.2 with⟨hv,_⟩|⟨g,cap,cur,fz,hv,_⟩
  ·exact⟨_,_,_,hv⟩
  ·exact⟨_,_,_,hv⟩
 go_wp2
 go_ret2
 refine⟨rfl,_,wX.put hb2 (s:=s++t) ?_ X.neB5 (fun h0=>hv0 (hn0 (zt3 h0).1) (ByteArray.size_eq_zero_iff.1 (zt3 h0).2)),(k1.trans k2).trans (Kp.set _ _ _ _)⟩
 rw[zeE,List.length_append,Lib.strCells_length t]
 exact hown'
theorem Kp.freeze{b g:Nat}{v:Value}(hv:v.ownBlock=some g)(w:World)(n:Nat):Kp b v v w (w.drew.freeze ⟨g,0,none⟩ n):=by
 unfold World.freeze
 split
 ·exact⟨fun _ _ _ _=>rfl,Nat.le_refl _,rfl,rfl,rfl,fun _ h=> .inr h⟩
 ·refine⟨fun c _ _ hne=>?_,by rw[Array.size_modify];exact Nat.le_refl _,rfl,rfl,rfl,fun _ h=> .inr h⟩
  rw[hv]at hne
  simp only[Array.getElem?_modify]
  rw[if_neg (fun e=>hne (by rw[e]))]
  rfl
set_option maxHeartbeats 1000000 in
set_option maxRecDepth 100000 in
theorem zp5(L:ztC P ρ)(X:Builder.Extra P ρ){b:Nat}{p v:Value}{s:ByteArray}{w:World}(h:wX (ρ.t 72) (ρ.t 5) b p v s w):
 Calls P (ρ.f 169) #[.pointer (some ⟨b,0,none⟩)] w fun e w'=>e= .returned (.string s)∧Kp b v v w w':=by
 obtain⟨hbk,hown,hne,hn0⟩:=h
 by_cases h0:s.size=0
 ·have hv:=hn0 h0
  subst hv
  have hs:s=⟨#[]⟩:=ByteArray.size_eq_zero_iff.1 h0
  refine(Any.Builder_String_nil L.ton169 X w.heap.size b p w hbk).mono ?_
  rintro e w' ⟨rfl,hb⟩
  exact⟨by rw[hs],fun c hc _ _=>hb.block c hc,hb.size,hb.os,hb.tape,hb.output,fun _ h=> .inr h⟩
 have hl:s.data.toList≠ []:=fun e=>h0 (by rw[←Lib.strCells_length,Lib.strCells,e];rfl)
 have hsz:s.data.toList.length=s.size:=by rw[Array.length_toList];rfl
 rw[Lib.strCells_length]at hown
 obtain⟨g,cap,cur,fz,rfl,hg,hfz,hnc,hcm,hcs,htake⟩: ∃g cap cur fz,v= .slice (some ⟨g,0,none⟩) s.size cap∧w.heap[g]?=some (.cells cur (ρ.t 5) fz)∧fz.2≤s.size*1∧s.size≤cap∧cap≤maxLen∧cur.size=cap*1∧cur.toList.take (s.size*1)=Lib.strCells s:=by
  rcases hown.2 with⟨_,hz⟩|⟨g,cap,cur,fz,hv,_,r⟩
  ·exact absurd hz h0
  ·exact⟨g,cap,cur,fz,hv,r⟩
 have c1:w.drew.cell? ⟨b,1,none⟩=some (.slice (some ⟨g,0,none⟩) s.size cap):=by
  have:w.drew.heap[b]?=some (.cells #[p,.slice (some ⟨g,0,none⟩) s.size cap] (ρ.t 72) (0,0)):=hbk
  rw[Lib.cell_of_heap this];rfl
 have hSD:(Builtin.unsafeSliceData_ #[(ρ.t 37)] (ρ.t 127) #[.slice (some ⟨g,0,none⟩) s.size cap]).run P w.drew= .ok (.pointer (some ⟨g,0,none⟩)) w.drew:=
  Lib.run_unsafeSliceData_row _ _ _ _ _ _ (by omega)
 have hUS:(Builtin.unsafeString_ #[(ρ.t 127),(ρ.t 3)] (ρ.t 9) #[.pointer (some ⟨g,0,none⟩),.int .i64 s.size]).run P w.drew= .ok (.string s) (w.drew.freeze ⟨g,0,none⟩ s.size):=by
  have:=Lib.run_unsafeString_row (P:=P) w.drew (ρ.t 127) (ρ.t 3) (ρ.t 9) (ρ.t 5) L.t127 X.cellsByte g cur.size (by have hg':w.drew.heap[g]?=some (.cells cur (ρ.t 5) fz):=hg;simp[World.shape?,hg']) s.data.toList hl (by omega) (by unfold maxLen at hcm;omega) (fun j x hx=>by
   have:=hown.cells (g:=g) rfl j (.int .u8 x.toNat) (by simp[Lib.strCells,hx])
   exact this)
  rw[hsz]at this
  exact this
 have mixed:=L.mixed
 have t72:=L.t72;have a72:=L.a72;have z72:=L.z72;have v72:=L.v72;have u72:=run_underlying L.t72
 have t70:=L.t70;have a70:=L.a70;have z70:=L.z70;have v70:=L.v70;have u70:=run_underlying L.t70
 have t37:=L.t37;have a37:=L.a37;have z37:=L.z37;have v37:=L.v37;have u37:=run_underlying L.t37
 have t127:=L.t127;have a127:=L.a127;have z127:=L.z127;have v127:=L.v127;have u127:=run_underlying L.t127
 have t3:=L.t3;have a3:=L.a3;have z3:=L.z3;have v3:=L.v3;have u3:=run_underlying L.t3
 have t9:=L.t9;have a9:=L.a9;have z9:=L.z9;have v9:=L.v9;have u9:=run_underlying L.t9
 have t5:=X.t5;have a5:=X.a5;have z5:=X.z5;have v5:=X.v5;have u5:=run_underlying X.t5
 go_enter L.f169,Body.n169_ntmps ρ
 go_wp2
 go_region_o
 all_goals (go_wp2;go_ret;exact⟨rfl,Kp.freeze rfl w _⟩)
end
theorem zp6(v:Value)(h: ∃(a:Option Addr) (n c:Nat),v= .slice a n c):blk v=v.ownBlock:=by
 obtain⟨a,n,c,rfl⟩:=h
 cases a<;>rfl
theorem zdo{w:World}{e:TypeId}{v:Value}{n:Nat}{xs:List Value}(h:w.ownsRowF 0 e 1 v n xs): ∃(a:Option Addr) (n c:Nat),v= .slice a n c:=by
 rcases h.2 with⟨hv,_⟩|⟨g,cap,cur,fz,hv,_⟩
 ·exact⟨_,_,_,hv⟩
 ·exact⟨_,_,_,hv⟩
theorem zeF{b:Nat}{v:Value}{c:Nat}(hv: ∃(a:Option Addr) (n c:Nat),v= .slice a n c):Bk (.tuple [Value.pointer (some ⟨b,0,none⟩),v].toArray) c↔c=b∨v.ownBlock=some c:=by
 rw[←zp6 v hv]
 constructor
 ·rintro⟨x,hx,hb⟩
  have hx':x=Value.pointer (some ⟨b,0,none⟩)∨x=v:=by simpa using hx
  rcases hx' with rfl|rfl
  ·simp only[blk,Option.some.injEq]at hb;exact .inl hb.symm
  ·exact .inr hb
 ·rintro(rfl|h)
  ·exact⟨Value.pointer (some ⟨c,0,none⟩),by simp,rfl⟩
  ·exact⟨v,by simp,h⟩
theorem zr7{P:Program}{f:FuncId}{T e:TypeId}{b:Nat}{s s':ByteArray}{av:List Value}{r:Value}(hc:ji P f)
 (h: ∀(p v:Value) (w:World),GOw w→(p= .pointer none∨p= .pointer (some ⟨b,0,none⟩))→wX T e b p v s w→Calls P f (.pointer (some ⟨b,0,none⟩)::av).toArray w fun x w'=>x= .returned r∧
   ∃p' v',(p'= .pointer none∨p'= .pointer (some ⟨b,0,none⟩))∧wX T e b p' v' s' w'∧Kp b v v' w w')
 {res:S} (hr: ∀M ρ,RepS M ρ res r):zj P f (.one (.p (.k (.pointer (some ⟨b,0,none⟩))))::av.map fun a=> .one (.p (.k a))) [(0,.bld T e b s)] res [(1,.bld T e b s')]:=by
 refine⟨hc,fun M ρ w xs hx ht hI hG=>?_⟩
 match xs,hx with
 | [],hx=>simp[RepSs]at hx
 |x::xs,hx=>
  simp only[RepSs,RepS,RepV,RepPV]at hx
  obtain⟨⟨rfl,_⟩,hxs⟩:=hx
  obtain rfl:=zbl hxs
  obtain⟨p,v,h1,hp,hb⟩:=ht.res 0 (.bld T e b s) (by simp[tb,tg])
  have hv:=zdo hb.2.1
  have hown: ∀c,zb8 (tb [(0,.bld T e b s)]) ρ c↔c=b∨v.ownBlock=some c:=fun c=>by
   rw[←zeF hv,←h1]
   constructor
   ·rintro⟨i,r,hi,hbk⟩
    simp only[tb,yc]at hi
    split at hi
    ·rename_i e;rw[e];exact hbk
    ·cases hi
   ·exact fun hbk=>⟨0,.bld T e b s,by simp[tb,tg],hbk⟩
  refine(h p v w (zdF hI hG) hp hb).mono fun ex w' ⟨he,p',v',hp',hb',hk⟩=>?_
  have hv':=zdo hb'.2.1
  have w1:upd ρ 1 (.tuple [Value.pointer (some ⟨b,0,none⟩),v'].toArray) 1= .tuple [Value.pointer (some ⟨b,0,none⟩),v'].toArray:=zt _ _ _
  have one: ∀i q,tg (tb [(1,.bld T e b s')]) i=some q→i=1∧q= .bld T e b s':=fun i q hi=>by
   simp only[tb,yc]at hi
   split at hi
   ·rename_i e;exact⟨e.symm,(Option.some.inj hi).symm⟩
   ·cases hi
  have mI: ∀c o u,M c o=some u→c≠b∧v.ownBlock≠some c:=fun c o u hu=>by
   have hn: ¬zb8 (tb [(0,.bld T e b s)]) ρ c:=fun⟨i,q,hi,hbk⟩=>by rw[ht.own i q c hi hbk o]at hu;cases hu
   rw[hown]at hn
   exact⟨fun e=>hn (.inl e),fun e=>hn (.inr e)⟩
  have nowM: ∀c,c=b∨v'.ownBlock=some c→ ∀o,M c o=none:=fun c hc o=>by
   cases hm:M c o with
   |none=>rfl
   |some u=>
    have:=mI c o u hm
    have hlt:=xp (hI c o u hm)
    rcases hc with rfl|hc
    ·exact absurd rfl this.1
    ·rcases hk.own c hc with h3|h3
     ·omega
     ·exact absurd h3 this.2
  refine⟨r,M,upd ρ 1 (.tuple [Value.pointer (some ⟨b,0,none⟩),v'].toArray),he,hr _ _,⟨fun i q hi=>?_,fun i j ri rj c hi hj hne=>?_,fun i q c hi hc o=>?_⟩,fun c o u hu=>?_,MLe.refl M,fun c o u hu=> .inl hu,fun c hc=>?_,fun c hc hn=>?_,hk.size,hk.os,hk.tape,hk.output,fun id hid=>?_⟩
  ·obtain⟨rfl,rfl⟩:=one i q hi
   exact⟨p',v',w1,hp',hb'⟩
  ·exact absurd ((one i ri hi).1.trans (one j rj hj).1.symm) hne
  ·obtain⟨rfl,rfl⟩:=one i q hi
   rw[w1,zeF hv']at hc
   exact nowM c hc o
  ·rw[cell_of_heap (hk.block c (xp (hI c o u hu)) (mI c o u hu).1 (mI c o u hu).2)];exact hI c o u hu
  ·obtain⟨i,q,hi,hbk⟩:=hc
   obtain⟨rfl,rfl⟩:=one i q hi
   rw[w1,zeF hv']at hbk
   rw[hown]
   rcases hbk with h3|h3
   ·exact .inr (.inl h3)
   ·exact(hk.own c h3).imp id .inr
  ·rw[hown]at hn
   exact hk.block c hc (fun e=>hn (.inl e)) fun e=>hn (.inr e)
  ·simp only[RL.ids,List.mem_cons,List.mem_nil_iff,or_false]at hid
   subst hid;exact zN (by decide)
theorem zp7{P:Program}{f:FuncId}{T e:TypeId}{b:Nat}{s:ByteArray}{r:Value}(hc:ji P f)
 (h: ∀(p v:Value) (w:World),GOw w→(p= .pointer none∨p= .pointer (some ⟨b,0,none⟩))→wX T e b p v s w→Calls P f #[.pointer (some ⟨b,0,none⟩)] w fun x w'=>x= .returned r∧Kp b v v w w')
 {res:S} (hr: ∀M ρ,RepS M ρ res r):zj P f [.one (.p (.k (.pointer (some ⟨b,0,none⟩))))] [(0,.bld T e b s)] res []:=by
 refine⟨hc,fun M ρ w xs hx ht hI hG=>?_⟩
 match xs,hx with
 | [],hx=>simp[RepSs]at hx
 |_::_::_,hx=>simp[RepSs]at hx
 | [x],hx=>
   simp only[RepSs,RepS,RepV,RepPV]at hx
   obtain⟨⟨rfl,_⟩,_⟩:=hx
   obtain⟨p,v,h1,hp,hb⟩:=ht.res 0 (.bld T e b s) (by simp[tb,tg])
   have hv:=zdo hb.2.1
   have hown: ∀c,zb8 (tb [(0,.bld T e b s)]) ρ c↔c=b∨v.ownBlock=some c:=fun c=>by
    rw[←zeF hv,←h1]
    constructor
    ·rintro⟨i,r,hi,hbk⟩
     simp only[tb,yc]at hi
     split at hi
     ·rename_i e;rw[e];exact hbk
     ·cases hi
    ·exact fun hbk=>⟨0,.bld T e b s,by simp[tb,tg],hbk⟩
   have mI: ∀c o u,M c o=some u→c≠b∧v.ownBlock≠some c:=fun c o u hu=>by
    have hn: ¬zb8 (tb [(0,.bld T e b s)]) ρ c:=fun⟨i,q,hi,hbk⟩=>by rw[ht.own i q c hi hbk o]at hu;cases hu
    rw[hown]at hn
    exact⟨fun e=>hn (.inl e),fun e=>hn (.inr e)⟩
   refine(h p v w (zdF hI hG) hp hb).mono fun ex w' ⟨he,hk⟩=>?_
   refine⟨r,M,ρ,he,hr _ _,⟨fun i q hi=>(by cases hi),fun i j ri rj c hi=>(by cases hi),fun i q c hi=>(by cases hi)⟩,fun c o u hu=>?_,MLe.refl M,fun c o u hu=> .inl hu,fun c hc=>?_,fun c hc hn=>?_,hk.size,hk.os,hk.tape,hk.output,fun id hid=>rfl⟩
   ·rw[cell_of_heap (hk.block c (xp (hI c o u hu)) (mI c o u hu).1 (mI c o u hu).2)];exact hI c o u hu
   ·obtain⟨i,q,hi,_⟩:=hc;cases hi
   ·rw[hown]at hn
    exact hk.block c hc (fun e=>hn (.inl e)) fun e=>hn (.inr e)
abbrev Bp(b:Nat):S:= .one (.p (.k (.pointer (some ⟨b,0,none⟩))))
section
variable {P:Program} {C:Ctx} {k:List Frm} {n:Nat} {sl:zi} {tab:Tab} {Q:Exit→St→Prop} {all:Array Oper} {rest:List Oper}
theorem zny{d:Nat}{t ty:TypeId}{ps:String}{af:Array Edge}(hC:C.low)(e:TypeId)(hz:zeroV P t=some [.p (.k (.pointer none)),.p (.k (.slice none 0 0))])(hd:Nat.blt d n=true)(hf:freshB (1000+d) ⟨n,sl,tab⟩=true)
 (g: ∀b:Nat,Goal P C (.ops all rest none) k n ((d,Bp b)::sl) ((1000+d,some (.bld t e b ByteArray.empty))::tab) Q):Goal P C (.ops all (⟨some d,.alloc t,ty,ps,af,none⟩::rest) none) k n sl tab Q:=by
 refine fun M ρ a w hH=>wpList_step fun K hK=>?_
 simp only[Region.wanted,if_true]
 have hfr:zar C (1000+d) ⟨n,sl,tab⟩:=x8 hf (hC.none (by omega))
 obtain⟨zv,hz1,hz2,_⟩:=vT hz M ρ w
 have hz4:zv.cells= #[Value.pointer none,.slice none 0 0]:=by
  generalize hL:zv.cells.toList=L at hz2
  match L,hz2 with
  | [],hz2=>simp[RepVs]at hz2
  | [_],hz2=>simp[RepVs]at hz2
  |_::_::_::_,hz2=>simp[RepVs]at hz2
  | [x,y],hz2=>
    simp only[RepVs,RepV,RepPV]at hz2
    rw[hz2.1.1,hz2.2.1.1]at hL
    rw[←Array.toArray_toList (xs:=zv.cells),hL]
 have hrun:(execOp a.eval ⟨some d,.alloc t,ty,ps,af,none⟩).run P w= .ok (.value (.pointer (some ⟨w.heap.size,0,none⟩))) (w.alloc (.cells zv.cells t)):=by
  simp[execOp,Instr.alloc,newVar,newRow,hz1]
 unfold Oper.wp
 rw[hrun,Oper.upon_value]
 refine hK _ _ (g w.heap.size M _ _ _ (hH.alloc (st:=⟨n,sl,tab⟩) (d:=some d) (v:=Bp w.heap.size) (id:=1000+d) (r':= .bld t e w.heap.size ByteArray.empty) (val:= .tuple [Value.pointer (some ⟨w.heap.size,0,none⟩),.slice none 0 0].toArray) (fun b hb=>?_) hfr
  ⟨.pointer none,.slice none 0 0,zt _ _ _,.inl rfl,by rw[hz4];exact zW w _,⟨rfl,.inl ⟨rfl,rfl⟩⟩,by simp[Value.ownBlock],fun _=>rfl⟩ ?_ hd))
 ·rw[zeF ⟨_,_,_,rfl⟩]at hb
  rcases hb with rfl|hb
  ·rfl
  ·cases hb
 ·simp only[RepS,RepV,RepPV];exact⟨trivial,rfl⟩
end
end Hw
namespace Hw.Fr.Ps
open Go Go.Proofs Go.Shelf Hw.M
def zp8:Go.Shelf.Ren:=⟨fun|166=>142|169=>144|240=>167|n=>n,fun|75=>208|0=>0|3=>3|4=>4|5=>5|9=>9|37=>41|70=>204|72=>206|127=>243|164=>296|n=>n,fun n=>n⟩
theorem zsR:Builder.Extra Tryz.prog zp8 where
 sizeBuilder:=by kernel_rfl
 liesBuilder:=by kernel_rfl
 t5:=Tryz.underlying5
 a5:=Tryz.isAgg5
 z5:=Tryz.sizeOf5
 v5:=Tryz.zeroValue5
 infoByte:=by kernel_rfl
 cellsByte:=by kernel_rfl
 sizeByte:=by kernel_rfl
 neB5:=by decide
set_option maxHeartbeats 1000000 in
set_option maxRecDepth 100000 in
theorem zp9{b:Nat}{p v:Value}{s:ByteArray}{w:World}(hp:p= .pointer none∨p= .pointer (some ⟨b,0,none⟩))(h:wX (zp8.t 72) (zp8.t 5) b p v s w):
 Calls Tryz.prog (zp8.f 240) #[.pointer (some ⟨b,0,none⟩)] w fun e w'=>e= .returned (.tuple #[])∧wX (zp8.t 72) (zp8.t 5) b (.pointer (some ⟨b,0,none⟩)) v s w'∧Kp b v v w w':=by
 obtain⟨j,hj,hjs⟩:=Option.map_eq_some_iff.1 zsR.sizeBuilder
 rcases hp with rfl|rfl
 ·have h0:=h.atF.cell0
  have hsh:=h.atF.shape
  have hfz:=h.atF.frozen0
  refine Calls.mono (R:=fun e w'=>e= .returned (.tuple #[])∧w'=w.setCell ⟨b,0,none⟩ (.pointer (some ⟨b,0,none⟩))) ?_ ?_
  ·go_enter Tryz.func167,Tryz.ntmps167
   go_wp2
   rw[Lib.run_to_unsafe w ⟨b,0,none⟩ Tryz.underlying204 Tryz.underlying296 hj (by rw[hjs];decide) hsh (Nat.zero_lt_succ 1)]
   simp only[Result.andThen]
   rw[Oper.upon_value]
   go_wp2
   rw[run_callFunc_extern Tryz.func215 (by kernel_rfl) (by kernel_rfl) (by kernel_rfl) (e:=Extern.AbiNoEscape.same) (by kernel_rfl)]
   rw[Lib.run_noEscape]
   simp only[Result.andThen]
   rw[Oper.upon_value]
   go_wp2
   rw[Lib.run_from_unsafe w ⟨b,0,none⟩ Tryz.underlying296 Tryz.underlying204 hj hsh zsR.liesBuilder]
   simp only[Result.andThen]
   rw[Oper.upon_value]
   go_wp2
   go_end0
   exact⟨rfl,rfl⟩
  ·rintro e w' ⟨rfl,rfl⟩
   exact⟨rfl,h.used _,Kp.set _ _ _ _⟩
 ·have h0:=h.atF.cell0
  refine Calls.mono (R:=fun e w'=>e= .returned (.tuple #[])∧w'=w) ?_ ?_
  ·go_enter Tryz.func167,Tryz.ntmps167
   go_wp2
   rw[Lib.run_neq_ptr_same w _ Tryz.underlying204 hj]
   go_wp2
   go_end0
   exact⟨rfl,rfl⟩
  ·rintro e w' ⟨rfl,rfl⟩
   exact⟨rfl,h,Kp.refl _ _ _⟩
theorem zt4:ztC Tryz.prog zp8 where
 mixed:=by kernel_rfl
 f169:=Tryz.func144.trans (congrArg some (by kernel_rfl))
 f166:=Tryz.func142.trans (congrArg some (by kernel_rfl))
 e240:=enters_of Tryz.func167 (by kernel_rfl) rfl
 chk:=zp9
 t0:=Tryz.underlying0
 a0:=Tryz.isAgg0
 z0:=Tryz.sizeOf0
 v0:=Tryz.zeroValue0
 t3:=Tryz.underlying3
 a3:=Tryz.isAgg3
 z3:=Tryz.sizeOf3
 v3:=Tryz.zeroValue3
 t4:=Tryz.underlying4
 a4:=Tryz.isAgg4
 z4:=Tryz.sizeOf4
 v4:=Tryz.zeroValue4
 t9:=Tryz.underlying9
 a9:=Tryz.isAgg9
 z9:=Tryz.sizeOf9
 v9:=Tryz.zeroValue9
 t37:=Tryz.underlying41
 a37:=Tryz.isAgg41
 z37:=Tryz.sizeOf41
 v37:=Tryz.zeroValue41
 t70:=Tryz.underlying204
 a70:=Tryz.isAgg204
 z70:=Tryz.sizeOf204
 v70:=Tryz.zeroValue204
 t72:=Tryz.underlying206
 a72:=Tryz.isAgg206
 z72:=Tryz.sizeOf206
 v72:=Tryz.zeroValue206
 t127:=Tryz.underlying243
 a127:=Tryz.isAgg243
 z127:=Tryz.sizeOf243
 v127:=Tryz.zeroValue243
 t164:=Tryz.underlying296
 a164:=Tryz.isAgg296
 z164:=Tryz.sizeOf296
 v164:=Tryz.zeroValue296
abbrev Bd(b:Nat)(s:ByteArray):Res:= .bld 206 5 b s
theorem zr8(b:Nat)(s t:Str)(h:s.size+t.size≤140737488355328):zj Tryz.prog 142 [Bp b,Sr t] [(0,Bd b s)] (.tup [I t.size,.one (.p (.k .nilIface))]) [(1,Bd b (s++t))]:=
 zr7 (av:=[.string t]) (jD Tryz.func142 (by kernel_rfl) (by kernel_rfl)) (fun p v w _ hp hb=>(zr6 zt4 zsR hp hb t h).mono fun e w' ⟨he,v',h1,h2⟩=>⟨he,_,v',.inr rfl,h1,h2⟩)
  fun M ρ=>by simp only[RepS];exact⟨_,rfl,by simp only[RepSs,RepS,RepV,RepPV];exact⟨⟨trivial,rfl⟩,⟨trivial,rfl⟩,trivial⟩⟩
theorem ztD(b:Nat)(s:ByteArray):zj Tryz.prog 144 [Bp b] [(0,Bd b s)] (Sr s) []:=
 zp7 (jD Tryz.func144 (by kernel_rfl) (by kernel_rfl)) (fun p v w _ _ hb=>zp5 zt4 zsR hb)
  fun M ρ=>by simp only[RepS,RepV,RepPV];exact⟨trivial,rfl⟩
end Hw.Fr.Ps
namespace Hw.Fr.Md
open Go Go.Proofs Go.Shelf Hw.M Ps
theorem ziq{n:Int}(h0: -4611686018427387904≤n)(h1:n≤4611686018427387904):(zaC n).size≤21:=by
 by_cases h:n<0
 ·rw[zkW h,vS,zeB]
  have:=zcy (u:=n.natAbs) (by omega)
  have:ByteArray.size ⟨#[45]⟩=1:=rfl
  omega
 ·rw[zeC (by omega),zeB]
  have:=zcy (u:=n.toNat) (by omega)
  omega
def nameS(k c:Int):Str:=match(yL k)[(c - 1).toNat]? with
 |some w=>w.1
 |none=>(⟨#[]⟩:ByteArray)
def accT:List Int→Str→Str
 | [],a=>a
 |n::r,a=>accT r (a++((⟨#[32]⟩:ByteArray)++zaC n))
def znz(k:Int)(o:OpT):Str:=accT o.args (nameS k o.code)
theorem jd{k:Int}{o:OpT}(h:okOp k o=true):(1≤k∧k≤6)∧1≤o.code∧(∃w,(yL k)[(o.code - 1).toNat]?=some w)∧o.args.length≤64∧ ∀n∈o.args, -1048576≤n∧n≤1048576:=by
 have hk:1≤k∧k≤6:=by
  by_cases hk:1≤k∧k≤6
  ·exact hk
  ·unfold okOp at h;rw[zbM hk]at h;simp at h
 unfold okOp at h
 simp only[Bool.and_eq_true,decide_eq_true_eq]at h
 obtain⟨h1,h2⟩:=h
 cases hw:(yL k)[(o.code - 1).toNat]? with
 |none=>rw[hw]at h2;cases h2
 |some w=>
  rw[hw]at h2
  simp only at h2
  have har: ∀w∈yL k,w.2.1≤4:=by
   rcases kinds hk with rfl|rfl|rfl|rfl|rfl|rfl<;>decide
  have hw4:=har w (List.mem_of_getElem? hw)
  split at h2
  ·simp only[Bool.and_eq_true,decide_eq_true_eq,List.all_eq_true]at h2
   refine⟨hk,h1,⟨w,rfl⟩,h2.1.2,fun n hn=>?_⟩
   have:=h2.2 n hn
   simp only[zdE,Bool.and_eq_true,decide_eq_true_eq]at this
   exact⟨by omega,by omega⟩
  ·simp only[Bool.and_eq_true,decide_eq_true_eq,List.all_eq_true]at h2
   refine⟨hk,h1,⟨w,rfl⟩,by omega,fun n hn=>?_⟩
   have:=h2.2 n hn
   simp only[vC,Bool.and_eq_true,decide_eq_true_eq]at this
   omega
theorem zeG(k c:Int):(nameS k c).size≤20:=by
 by_cases hk:1≤k∧k≤6
 ·have: ∀w∈yL k,w.1.size≤20:=by rcases kinds hk with rfl|rfl|rfl|rfl|rfl|rfl<;>decide
  unfold nameS
  split
  ·rename_i w hw;exact this w (List.mem_of_getElem? hw)
  ·decide
 ·unfold nameS;rw[zbM hk];simp;decide
theorem zcz{n:Int}(h: -1048576≤n∧n≤1048576):((⟨#[32]⟩:ByteArray)++zaC n).size≤22:=by
 rw[vS]
 have:=ziq (n:=n) (by omega) (by omega)
 have:ByteArray.size (⟨#[32]⟩:ByteArray)=1:=rfl
 omega
theorem zkX(s:Str):((⟨#[]⟩:ByteArray):Str)++s=s:=ByteArray.empty_append
theorem znA(k:Int)(o:OpT)(ho:okOp k o=false):zj Tryz.prog 112 [I k,zz (opR o)] [] (.tup [Sr (⟨#[]⟩:ByteArray),I 1]) []:=by
 have hV:=wQ k o
 rw[ho]at hV
 refine gO T Tryz.func112 fun C hC=>?_
 repeat' first|refine gG ?_|(exfalso;simp at h;done)|refine gB (fun h=>?_) (fun h=>?_)|refine gC hV ?_
 all_goals first
  |exact gF
theorem zkY(k:Int)(o:OpT)(ho:okOp k o=true):zj Tryz.prog 112 [I k,zz (opR o)] [] (.tup [Sr (znz k o),I 0]) []:=by
 have hV:=wQ k o
 obtain⟨hk,hc,⟨w,hw⟩,hl,hn⟩:=jd ho
 have hW:=zbb hk
 have hlt:=(List.getElem?_eq_some_iff.1 hw).1
 have h8:=zbN (k:=k)
 have w1:IntKind.i64.wrap (o.code - 1)=o.code - 1:=wrap64 (by omega)
 have hnm:nameS k o.code=w.1:=by unfold nameS;rw[hw]
 have hns:=zeG k o.code
 rw[ho]at hV
 refine gO T Tryz.func112 fun C hC=>?_
 have ws0: ∀b,zj Tryz.prog 142 [Bp b,Sr w.1] [(0,Bd b (⟨#[]⟩:ByteArray))] (.tup [I w.1.size,.one (.p (.k .nilIface))]) [(1,Bd b w.1)]:=fun b=>by
  have:=zr8 b (⟨#[]⟩:ByteArray) w.1 (by rw[←hnm];have:ByteArray.size (⟨#[]⟩:ByteArray)=0:=rfl;omega)
  rw[zkX]at this
  exact this
 repeat' first|refine gG ?_|(exfalso;simp at h;done)|refine gB (fun h=>?_) (fun h=>?_)|refine gC hV ?_|(refine zny hC 5 (by kernel_rfl) rfl rfl (fun b=>?_))|refine gC hW ?_|(rw[w1];refine yh T hC rfl rfl rfl (by omega) (xA (f:=zee) hw) rfl rfl ?_)|refine gR (ws0 b) (nm [1006,100]) ?_
 rw[List.length_map]
 refine zy (fun q:Nat×Str=>q.1≤o.args.length∧accT (o.args.drop q.1) q.2=znz k o∧q.2.size≤20+22*q.1) (fun q=>([(23,pS (zA o.args)),(24,I o.args.length),(25,I q.1),(6,Bp b)],[(101,some (Bd b q.2))])) (fun q=>o.args.length - q.1) hC
  (0,w.1) ⟨Nat.zero_le _,by unfold znz;rw[hnm];rfl,by rw[←hnm];simp only;omega⟩ (mvU 101 100) ⟨rfl,⟨rfl,rfl,rfl,rfl,trivial⟩,⟨rfl,trivial⟩,rfl,fun i hi=>yg (by omega) hi⟩ ?_
 clear h
 rintro⟨j,a⟩ ⟨hj,ha,hz⟩
 simp only at hj ha hz
 refine zI T hC true 200 rfl ?_
 refine zP rfl (fun h=>?_) (fun h=>?_)
 rotate_left
 ·have hge: ¬j<o.args.length:=by have:=of_decide_eq_false h;omega
  rw[List.drop_of_length_le (by omega)]at ha
  rw[←ha]
  have hS:=ztD b a
  repeat' first|refine gG ?_|refine gB (fun h=>?_) (fun h=>?_)|refine zp ?_|refine gR hS (nm [101]) ?_
  exact gF
 have hlt:j<o.args.length:=by have:=of_decide_eq_true h;omega
 clear h
 obtain⟨n,hn'⟩:=zf hlt
 have hnb:=hn n (List.mem_of_getElem? hn')
 rw[drop_at hn']at ha
 have hp:=zcz hnb
 have hD:=zp4 n (by omega) (by omega)
 have hWs:=zr8 b a ((⟨#[32]⟩:ByteArray)++zaC n) (by omega)
 have hz2:(a++((⟨#[32]⟩:ByteArray)++zaC n)).size≤20+22*(j+1):=by rw[vS];omega
 have hi1:((⟨#[32]⟩:ByteArray):Str).size+(zaC n).size≤9223372036854775807:=by rw[←vS];omega
 repeat' first|refine gG ?_|refine gB (fun h=>?_) (fun h=>?_)|refine gX ?_|refine gC hD ?_|(refine zsW hC rfl rfl hi1 rfl rfl ?_)|refine gR hWs (nm [101,102]) ?_|refine zT ?_
 rw[yq (by omega)]
 exact zh (j+1,a++((⟨#[32]⟩:ByteArray)++zaC n)) ⟨by simp only;omega,ha,hz2⟩ (mvU 101 102) (by simp only;omega) ⟨rfl,⟨rfl,rfl,rfl,rfl,trivial⟩,⟨rfl,trivial⟩,rfl,fun i hi=>yg (by omega) hi⟩
end Hw.Fr.Md
/- The library's functions at this program: their numbers. -/
namespace Hw.Fr
open Go Go.Proofs Go.Shelf
def zgb:Go.Shelf.Ren:=⟨fun|145=>113|220=>145|219=>169|217=>217|225=>218|224=>219|267=>220|266=>264|314=>265|n=>n,fun|9=>9|4=>4|59=>167|3=>3|5=>5|46=>178|146=>342|51=>284|n=>n,fun|1=>0|n=>n⟩
theorem zqa:Go.Proofs.Lays.n145 Tryz.prog zgb where
 mixed:=by kernel_rfl
 f145:=Tryz.func113.trans (congrArg some (by kernel_rfl))
 f217:=Tryz.func217.trans (congrArg some (by kernel_rfl))
 f219:=Tryz.func169.trans (congrArg some (by kernel_rfl))
 f220:=Tryz.func145.trans (congrArg some (by kernel_rfl))
 f224:=Tryz.func219.trans (congrArg some (by kernel_rfl))
 f225:=Tryz.func218.trans (congrArg some (by kernel_rfl))
 f266:=Tryz.func264.trans (congrArg some (by kernel_rfl))
 f267:=Tryz.func220.trans (congrArg some (by kernel_rfl))
 f314:=Tryz.func265.trans (congrArg some (by kernel_rfl))
 t3:=Tryz.underlying3
 a3:=Tryz.isAgg3
 z3:=Tryz.sizeOf3
 v3:=Tryz.zeroValue3
 t4:=Tryz.underlying4
 a4:=Tryz.isAgg4
 z4:=Tryz.sizeOf4
 v4:=Tryz.zeroValue4
 t5:=Tryz.underlying5
 a5:=Tryz.isAgg5
 z5:=Tryz.sizeOf5
 v5:=Tryz.zeroValue5
 t9:=Tryz.underlying9
 a9:=Tryz.isAgg9
 z9:=Tryz.sizeOf9
 v9:=Tryz.zeroValue9
 t46:=Tryz.underlying178
 a46:=Tryz.isAgg178
 z46:=Tryz.sizeOf178
 v46:=Tryz.zeroValue178
 t51:=Tryz.underlying284
 a51:=Tryz.isAgg284
 z51:=Tryz.sizeOf284
 v51:=Tryz.zeroValue284
 t59:=Tryz.underlying167
 a59:=Tryz.isAgg167
 z59:=Tryz.sizeOf167
 v59:=Tryz.zeroValue167
 t146:=Tryz.underlying342
 a146:=Tryz.isAgg342
 z146:=Tryz.sizeOf342
 v146:=Tryz.zeroValue342
 g1:=by kernel_rfl
end Hw.Fr
namespace Hw.Fr
open Go Go.Proofs Go.Shelf Hw.M Md
noncomputable def ztE(s:Str):List UInt8×List UInt8×Bool:=Lib.cut s.data.toList ((⟨#[32]⟩:ByteArray):Str).data.toList
noncomputable def zsS(s:Str):Str:=⟨(ztE s).1.toArray⟩
theorem zr9(s:Str)(hs:s.size≤1000000):zj Tryz.prog 113 [Sr s,Sr (⟨#[32]⟩:ByteArray)] [] (.tup [Sr (zsS s),Sr ⟨(ztE s).2.1.toArray⟩,Bo (ztE s).2.2]) []:=by
 refine⟨Ps.jD Tryz.func113 (by kernel_rfl) (by kernel_rfl),fun M ρ w xs hx _ hI hG=>?_⟩
 obtain rfl:=zbl (av:=[.string s,.string (⟨#[32]⟩:ByteArray)]) hx
 obtain⟨m,hm⟩:=(zdF hI hG).2.1 0 (by decide)
 refine(Any.strings_Cut zqa s (⟨#[32]⟩:ByteArray) m w (by omega) hm).mono ?_
 rintro e w' ⟨he,n,rfl⟩
 refine⟨_,M,ρ,he,zbm hI ⟨rfl,rfl,rfl,Nat.le_refl _,fun _ _=>rfl⟩ ?_⟩
 simp only[RepS,RepSs,RepV,RepPV]
 exact⟨_,rfl,⟨rfl,rfl⟩,⟨rfl,rfl⟩,⟨rfl,rfl⟩,trivial⟩
end Hw.Fr
/- The engine, part BX: an owned array is cut short (s = s[:n]); pointers that are plain values. -/
namespace Hw
open Go
section
variable {P:Program} {d:Option Nat} {ty:TypeId} {ps:String} {af:Array Edge} {g:Option (Nat×Bool)} {x z:Operand} {t:TypeId}
theorem zqb{id id' e:Nat}{rows:List (List PV)}{j:Int}{k':IntKind}{el:TypeId}(hx:okc x (.one (.ar id)))(hz:okc z (Kk k' j))(he:elemSz P t=some (el,e))(h0:0≤j)(h2:j≤rows.length):
 Snd P ⟨d,.slice t x none (some z) none,ty,ps,af,g⟩ (rq x (.one (.ar id))++rq z (Kk k' j)) [(id,.arr e rows)] [id'] (.one (.ar id')) [(id',some (.arr e (rows.take j.toNat))),(id,none)]:=by
 intro C st M ρ a w hH h1 hT hF hd k Q hk
 rw[zd]at h1
 have e1:=hH.evS (zM hx h1.1)
 have e3:=hH.k (zM hz h1.2)
 simp only[RepS,RepV]at e1
 obtain⟨b,cap,f1,f2,f3,f5⟩:=hH.yn.res id _ hT.1
 obtain⟨hu,hsz⟩:=zcN he
 have hrun:(execOp a.eval ⟨d,.slice t x none (some z) none,ty,ps,af,g⟩).run P w= .ok (.value (sliced b 0 j.toNat cap e)) w:=by
  simp only[execOp,e1.1,f1,e3,Option.map_none,Option.map_some,Sem.run_bind,run_sliceAt_slice w t _ _ _ _ hu,run_slice_h w t b rows.length cap hu k' j h0 (by omega),hsz,Result.andThen_ok,Sem.run_pure]
 have hl:(rows.take j.toNat).length=j.toNat:=by rw[List.length_take];omega
 have hS: ∃b' cap',sliced b 0 j.toNat cap e= .slice b' j.toNat cap'∧j.toNat≤cap'∧cap'≤9223372036854775807∧((b'=none∧cap'=0)∨(b'=b∧cap'=cap)):=by
  by_cases hc:cap=0
  ·subst hc
   rcases f5 with⟨rfl,_⟩|⟨b1,o1,cs,el1,fz,rfl,_⟩
   ·exact⟨none,0,by simp[sliced],by omega,by decide,.inl ⟨rfl,rfl⟩⟩
   ·exact⟨_,0,by simp only[sliced,if_pos];congr 1,by omega,by decide,.inr ⟨rfl,rfl⟩⟩
  ·rcases f5 with⟨rfl,hc'⟩|⟨b1,o1,cs,el1,fz,rfl,_⟩
   ·exact absurd hc' hc
   ·exact⟨some ⟨b1,o1,none⟩,cap,by simp[sliced,if_neg hc,Addr.add],by omega,f3,.inr ⟨rfl,rfl⟩⟩
 obtain⟨b',cap',hs1,hs2,hs3,hs4⟩:=hS
 unfold Oper.wp
 simp only[Sem.run_bind,hrun,Result.andThen_ok,Sem.run_pure,Oper.upon_value]
 refine hk _ _ _ _ (hH.step (some id) (fun _ _ _=>rfl) (Nat.le_refl _) rfl rfl rfl (fun b1 hb1=> .inr ⟨id,_,rfl,hT.1,?_⟩) hF.1 ?_ (by simp only[RepS,RepV];exact⟨(zt _ _ _).symm,by rw[hs1];rfl⟩) hd)
 ·rw[hs1]at hb1
  rcases hs4 with⟨rfl,_⟩|⟨rfl,rfl⟩
  ·simp[Bk,blk]at hb1
  ·rw[f1];simp only[Bk,blk]at hb1 ⊢; cases b'<;>first|(simp at hb1;done)|simpa using hb1
 ·refine⟨b',cap',by rw[zt,hs1,hl],by rw[hl];exact hs2,hs3,?_⟩
  rcases hs4 with⟨rfl,rfl⟩|⟨rfl,rfl⟩
  ·exact .inl ⟨rfl,rfl⟩
  ·rcases f5 with h|⟨b1,o1,cs,el1,fz,rfl,f6,f7,f8,f9⟩
   ·exact .inl h
   ·exact .inr ⟨b1,o1,cs,el1,fz,rfl,f6,f7,f8,f9.take _⟩
end
section
variable {P:Program} {C:Ctx} {k:List Frm} {n:Nat} {sl:zi} {tab:Tab} {Q:Exit→St→Prop} {all:Array Oper} {rest:List Oper}
theorem zqc(T:Ty P){d:Nat}{x z:Operand}{t ty:TypeId}{ps:String}{af:Array Edge}{g0:Option (Nat×Bool)}{gs:zi}{md:Mode}(id':Nat)(hC:C.low){id e:Nat}{rows rows':List (List PV)}{j:Int}{k1:IntKind}{el:TypeId}
 (hx:ev sl x=some (.one (.ar id))) (hz:ev sl z=some (Kk k1 j)) (hT:tg tab id=some (.arr e rows)) (he:T.es t=some (el,e)) (h0:0≤j) (h2:j≤rows.length) (hr:rows.take j.toNat=rows')
 (hf:allB (fun i=>Nat.ble 100 i&&freshB i ⟨n,sl,tab⟩) [id']=true) (hm:metL all sl g0=some gs) (hd:Nat.blt d n=true)
 (g:Goal P C (.ops all rest (nx md ⟨some d,gs++(rq x (.one (.ar id))++rq z (Kk k1 j)),[(id,.arr e rows)],[id'],.one (.ar id'),[(id',some (.arr e rows')),(id,none)]⟩)) k n ((d,.one (.ar id'))::sl) ((id',some (.arr e rows'))::(id,none)::tab) Q):
 Goal P C (.ops all (⟨some d,.slice t x none (some z) none,ty,ps,af,g0⟩::rest) md) k n sl tab Q:=by
 subst hr
 have e1:=zX (st:=⟨n,sl,tab⟩) hx
 have e3:=zX (st:=⟨n,sl,tab⟩) hz
 have:=zq hm (zqb (P:=P) (ty:=ty) (ps:=ps) (af:=af) (g:=g0) (d:=some d) (id':=id') (rows:=rows) e1.1 e3.1 (T.es_ok _ _ he) h0 h2) (n:=n) (tab:=tab)
 exact yr (L:=⟨some d,gs++(rq x (.one (.ar id))++rq z (Kk k1 j)),[(id,.arr e rows)],[id'],.one (.ar id'),[(id',some (.arr e (rows.take j.toNat))),(id,none)]⟩) hC this.1 rfl ⟨by rw[zd,zd];exact⟨this.2,e1.2,e3.2⟩,⟨hT,trivial⟩,hf,hd⟩ g
theorem zqd{cur:Cur}(hc:lst cur=true)(t:Nat){s s':S}(ht:sg sl t=some s)(e:LeS s s')(g:Goal P C cur k n ((t,s')::sl) tab Q):Goal P C cur k n sl tab Q:=
 zcp (sl':=(t,s')::sl) (tab':=tab) hc (fun {M ρ a w} h=>⟨M,ρ,h.zqe rfl rfl fun j u hj=>by
  rw[y5]at hj
  split at hj
  ·rename_i e';subst e';simp only[Option.some.injEq]at hj;subst hj;exact e _ _ _ (h.slots _ _ ht)
  ·exact h.slots _ _ hj⟩) g
end
end Hw
/- The engine, part BZ: an append to nil; pointers that are plain values, checked. -/
namespace Hw
open Go
section
variable {P:Program} {d:Option Nat} {ty:TypeId} {ps:String} {af:Array Edge} {g:Option (Nat×Bool)} {x y:Operand} {t:TypeId}
theorem zkZ{id' e bytes:Nat}{rows2:List (List PV)}{sy:S}{rt2:RL}{tx el:TypeId}{z:List V}(hx:okc x (.one (.p (.k (.slice none 0 0)))))(hy:okc y sy)(hs:xj P e tx sy rt2 rows2)
 (he:elemSz P t=some (el,e)) (hz:zeroV P el=some z) (hzl:z.length=e) (hby:(P.info? el).map (·.bytes)=some bytes) (hb:rows2.length*bytes≤140737488355328) (hlen:rows2.length≤9223372036854775807):
 Snd P ⟨d,.call ⟨.builtin .append,#[x,y],#[t,tx]⟩,ty,ps,af,g⟩ (rq x (.one (.p (.k (.slice none 0 0))))++rq y sy) rt2 [id'] (.one (.ar id')) [(id',some (.arr e rows2))]:=by
 intro C st M ρ a w hH h1 hT hF hd k Q hk
 rw[zd]at h1
 have e1:=hH.evS (zM hx h1.1)
 have e2:=hH.evS (zM hy h1.2)
 simp only[RepS,RepV,RepPV]at e1
 obtain⟨ii,hu,hinf,hsz⟩:=zF he
 obtain⟨news,hsrc,hnews,hlen2⟩:=hs C st M ρ a w _ hH e2 hT
 obtain⟨i',zv,hi',hzv,hzs⟩:=wj hz
 rw[hinf]at hi';simp only[Option.some.injEq]at hi';subst hi'
 rw[hinf]at hby;simp only[Option.map_some,Option.some.injEq]at hby
 have hnl:news.length=rows2.length*e:=hsrc.newsLen
 have hcall:execOp a.eval ⟨d,.call ⟨.builtin .append,#[x,y],#[t,tx]⟩,ty,ps,af,g⟩=(do pure (.value (←Builtin.append_ #[t,tx] ty #[a.eval x,a.eval y]))):=by
  simp[execOp,resolve,invoke,builtin]
 have fin: ∀ {val:Value} {w':World},(Builtin.append_ #[t,tx] ty #[a.eval x,a.eval y]).run P w= .ok val w'→
  (∀b',b'<w.heap.size→w'.heap[b']?=w.heap[b']?)→w.heap.size≤w'.heap.size→w'.os=w.os→w'.tape=w.tape→w'.output=w.output→
  (∀b',Bk val b'→w.heap.size≤b')→zJ M (upd ρ id' val) w' id' (.arr e rows2)→val.oneCell'=true→
  Oper.wp P ⟨d,.call ⟨.builtin .append,#[x,y],#[t,tx]⟩,ty,ps,af,g⟩ a w k Q:=fun {val w'} hrun g1 g2 g3 g4 g5 g6 g7 g8=>by
  unfold Oper.wp
  rw[hcall]
  simp only[Sem.run_bind,hrun,Result.andThen_ok,Sem.run_pure,Oper.upon_value]
  exact hk _ _ _ _ (hH.step none (fun b' hb' _=>g1 b' hb') g2 g3 g4 g5 (fun b' hb'=> .inl (g6 b' hb')) hF.1 g7 (by simp only[RepS,RepV];exact⟨(zt _ _ _).symm,g8⟩) hd)
 have hex:a.eval x= .slice none 0 0:=e1.1
 rcases Nat.eq_zero_or_pos rows2.length with h0|h0
 ·have e3:rows2=[]:=List.length_eq_zero_iff.1 h0
  subst e3
  have hn0:news=[]:=List.eq_nil_of_length_eq_zero (by simpa using hnl)
  subst hn0
  have hrun:(Builtin.append_ #[t,tx] ty #[a.eval x,a.eval y]).run P w= .ok (.slice none 0 0) w:=by
   rw[hex]
   have hl:(Builtin.lenOf (a.eval y)).run P w= .ok 0 w:=hsrc.len w
   have hc:(Builtin.firstCells e 0 (a.eval y)).run P w= .ok #[] w:=hsrc.cells
   rcases hsrc.kind with⟨e',hk'⟩|hk'<;>simp[Builtin.append_,run_underlying hu,run_underlying hk',Go.sizeOf,typeInfo,hinf,hl,hsz,hc]
  exact fin hrun (fun _ _=>rfl) (Nat.le_refl _) rfl rfl rfl (fun b' hb'=>by simp[Bk,blk]at hb') ⟨none,0,by rw[zt];rfl,by simp,by simp,.inl ⟨rfl,rfl⟩⟩ rfl
 ·have hrun:=run_append_grow_src (P:=P) w t tx ty el ii zv hu hinf hzv none 0 0 [] (run_firstCells_none w.drew _ _ _ _) (a.eval y) rows2.length news (by rw[hsz];exact hsrc) (by omega) (by omega) (growslice_fits (by omega) (by rw[hby,Nat.zero_add];exact hb))
  rw[←hex,Nat.zero_add]at hrun
  have hcap:=grownCap_ge w rows2.length 0 el
  refine fin hrun (fun b' hb'=>yf w.drew _ b' hb') (by simp) rfl rfl rfl (fun b' hb'=>?_) ⟨some ⟨w.heap.size,0,none⟩,grownCap w rows2.length 0 el,by rw[zt],hcap,(by have:=grownCap_le_maxLen w rows2.length 0 el (by unfold maxLen;omega);unfold maxLen at this;omega),.inr
   ⟨w.heap.size,0,_,el,(0,0),rfl,zW w.drew _,fun i _=>by simp,?_,?_⟩⟩ rfl
  ·simp only[Bk,blk,Option.some.injEq]at hb';omega
  ·simp only[Array.size_append,List.size_toArray,List.nil_append,size_zeroCells,hzs,hzl,hnl,Nat.zero_add]
   rw[←Nat.add_mul]
   apply Nat.mul_le_mul_right;omega
  ·refine RowsIn.yA (ρ:=ρ) (cs:=news) hlen2 hnews fun j c hj=>?_
   have hjl:j<news.length:=(List.getElem?_eq_some_iff.1 hj).1
   rw[Nat.zero_add,Array.getElem?_append_left (by simpa using hjl)]
   simpa using hj
theorem zdp{row:List PV}(hx:okc x (.one (.p (.pr row)))):Snd P ⟨d,.nilCheck x,ty,ps,af,g⟩ (rq x (.one (.p (.pr row)))) [] [] (.one (.pi row 0)) []:=
 zo fun C st M ρ a w hH h1 _=>by
  have e:=hH.evS (zM hx h1)
  simp only[RepS,RepV,RepPV]at e
  obtain⟨b,o,e1,e2⟩:=e
  exact⟨a.eval x,by simp[execOp,e1],by simp only[RepS,RepV];exact⟨b,o,e1,e2⟩⟩
end
section
variable {P:Program} {C:Ctx} {k:List Frm} {n:Nat} {sl:zi} {tab:Tab} {Q:Exit→St→Prop} {all:Array Oper} {rest:List Oper}
theorem zeH(T:Ty P)(id':Nat){d:Nat}{x y:Operand}{t tx ty:TypeId}{ps:String}{af:Array Edge}{g0:Option (Nat×Bool)}{gs:zi}{md:Mode}(hC:C.low){e bytes:Nat}{rows2:List (List PV)}{sy:S}{rt2:RL}{el:TypeId}{z:List V}
 (hx:ev sl x=some (.one (.p (.k (.slice none 0 0))))) (hy:ev sl y=some sy) (hT2:rdT tab rt2=rt2) (hs:xj P e tx sy rt2 rows2) (he:T.es t=some (el,e)) (hz:T.zs el=some z) (hzl:Nat.beq z.length e=true) (hby:(P.info? el).map (·.bytes)=some bytes)
 (hb:rows2.length*bytes≤140737488355328) (hlen:rows2.length≤9223372036854775807) (hm:metL all sl g0=some gs) (hd:Nat.blt d n=true) (hf:(Nat.ble 100 id'&&freshB id' ⟨n,sl,tab⟩)=true)
 (g:Goal P C (.ops all rest (nx md ⟨some d,gs++(rq x (.one (.p (.k (.slice none 0 0))))++rq y sy),rt2,[id'],.one (.ar id'),[(id',some (.arr e rows2))]⟩)) k n ((d,.one (.ar id'))::sl) ([(id',some (.arr e rows2))]++tab) Q):
 Goal P C (.ops all (⟨some d,.call ⟨.builtin .append,#[x,y],#[t,tx]⟩,ty,ps,af,g0⟩::rest) md) k n sl tab Q:=by
 have e1:=zX (st:=⟨n,sl,tab⟩) hx
 have e2:=zX (st:=⟨n,sl,tab⟩) hy
 have:=zq hm (zkZ (P:=P) (ty:=ty) (ps:=ps) (af:=af) (g:=g0) (d:=some d) (id':=id') e1.1 e2.1 hs (T.es_ok _ _ he) (T.zs_ok _ _ hz) (Nat.eq_of_beq_eq_true hzl) hby hb hlen) (n:=n) (tab:=tab)
 exact yr (L:=⟨some d,gs++(rq x (.one (.p (.k (.slice none 0 0))))++rq y sy),rt2,[id'],.one (.ar id'),[(id',some (.arr e rows2))]⟩) hC this.1 rfl
  ⟨by rw[zd,zd];exact⟨this.2,e1.2,e2.2⟩,zbI hT2,zcc hf,hd⟩ g
theorem zsa{d:Nat}{x:Operand}{ty:TypeId}{ps:String}{af:Array Edge}{g0:Option (Nat×Bool)}{gs:zi}{md:Mode}(hC:C.low){row:List PV}(hx:ev sl x=some (.one (.p (.pr row))))(hm:metL all sl g0=some gs)(hd:Nat.blt d n=true)
 (g:Goal P C (.ops all rest (nx md ⟨some d,gs++rq x (.one (.p (.pr row))),[],[],.one (.pi row 0),[]⟩)) k n ((d,.one (.pi row 0))::sl) tab Q):
 Goal P C (.ops all (⟨some d,.nilCheck x,ty,ps,af,g0⟩::rest) md) k n sl tab Q:=by
 have e1:=zX (st:=⟨n,sl,tab⟩) hx
 have:=zq hm (zdp (P:=P) (ty:=ty) (ps:=ps) (af:=af) (g:=g0) (d:=some d) e1.1) (n:=n) (tab:=tab)
 exact yr (L:=⟨some d,gs++rq x (.one (.p (.pr row))),[],[],.one (.pi row 0),[]⟩) hC this.1 rfl ⟨by rw[zd];exact⟨this.2,e1.2⟩,trivial,rfl,hd⟩ g
end
end Hw
namespace Hw.Fr
open Go Go.Proofs Go.Shelf Hw.M Md
theorem zeI: ∀(l:List Int) (a:Str),(∀n∈l, -1048576≤n∧n≤1048576)→(accT l a).size≤a.size+22*l.length
 | [],a,_=>by simp[accT]
 |n::r,a,h=>by
  have h1:=zeI r (a++((⟨#[32]⟩:ByteArray)++Ps.zaC n)) fun x hx=>h x (List.mem_cons_of_mem _ hx)
  have h2:=zcz (h n (List.mem_cons_self ..))
  simp only[accT,List.length_cons]
  refine Nat.le_trans h1 ?_
  rw[vS]
  omega
noncomputable def zeJ(k:Int)(o:OpT):Str:=if zsS (znz k o)=(⟨#[109,105,110]⟩:ByteArray)then(⟨#[109,105,110,95,107,101,121]⟩:ByteArray)else zsS (znz k o)
noncomputable def zk0(s:Str)(o:OpT):Int:=match zb9 s with
 |none=>9
 |some x=>if okOp x.2.2 o=true then(if(Ps.xI x.2.1).2.2=0 then(if Ps.xV (Ps.xI x.2.1).1=true∧(Ps.zfI (Ps.xI x.2.1).1 (zeJ x.2.2 o)).isSome=true then 0 else 12)else(Ps.xI x.2.1).2.2)else 1
theorem ze(s:Str)(o:OpT): ∃a b:PV,zj Tryz.prog 76 [Sr s,zz (opR o)] [] (.tup [zz [a,b],I (zk0 s o)]) []:=by
 have hF:=zha s
 unfold zk0
 cases hx:zb9 s with
 |none=>
  rw[hx]at hF
  simp only[Option.getD_none,Option.isSome_none,Bool.false_eq_true,if_false]at hF
  refine⟨ks (⟨#[]⟩:ByteArray),.sl 1 [],?_⟩
  refine gO T Tryz.func76 fun C hC=>?_
  repeat' first|refine gG ?_|(exfalso;simp at h;done)|refine gB (fun h=>?_) (fun h=>?_)|refine gC hF ?_
  exact zg ⟨.inl rfl,id,_,rfl,LeS.tup (.cons (LeS.agg (.cons (.refl _) (.cons (.nil 1) .nil))) (.cons (.refl _) .nil)),trivial,rfl,rfl⟩
 |some x=>
  rw[hx]at hF
  simp only[Option.getD_some,Option.isSome_some,if_true]at hF
  obtain⟨_,hk,hs⟩:=zcx hx
  clear hx
  obtain⟨nm,tx,k⟩:=x
  simp only at hF hk hs⊢
  by_cases ho:okOp k o=true
  rotate_left
  ·rw[if_neg ho]
   rw[Bool.not_eq_true]at ho
   have hT:=znA k o ho
   refine⟨ks (⟨#[]⟩:ByteArray),.sl 1 [],?_⟩
   refine gO T Tryz.func76 fun C hC=>?_
   repeat' first|refine gG ?_|(exfalso;simp at h;done)|refine gB (fun h=>?_) (fun h=>?_)|refine gC hF ?_|refine gC hT ?_
   exact zg ⟨.inl rfl,id,_,rfl,LeS.tup (.cons (LeS.agg (.cons (.refl _) (.cons (.nil 1) .nil))) (.cons (.refl _) .nil)),trivial,rfl,rfl⟩
  rw[if_pos ho]
  have hT:=zkY k o ho
  have hz:(znz k o).size≤1000000:=by
   obtain⟨_,_,_,hl,hn⟩:=jd ho
   have:=zeI o.args (nameS k o.code) hn
   have:=zeG k o.code
   unfold znz;omega
  have hCu:=zr9 (znz k o) hz
  have hP:=Ps.zb7 tx (by omega)
  generalize hw:zeJ k o=wd
  unfold zeJ at hw
  generalize zsS (znz k o)=ca at hCu hw
  generalize hd:Ps.xI tx=dt at hP⊢
  obtain⟨d,⟨p1,p2⟩,e⟩:=dt
  simp only at hP⊢
  by_cases he:e=0
  rotate_left
  ·rw[if_neg he]
   refine⟨ks (⟨#[]⟩:ByteArray),.sl 1 [],?_⟩
   refine gO T Tryz.func76 fun C hC=>?_
   repeat' first|refine gG ?_|(exfalso;simp at h;done)|(exfalso;exact he (by simpa using h))|refine gB (fun h=>?_) (fun h=>?_)|refine gC hF ?_|refine gC hT ?_|refine gC hCu ?_|refine gC hP ?_
   all_goals exact zg ⟨.inl rfl,id,_,rfl,LeS.tup (.cons (LeS.agg (.cons (.refl _) (.cons (.nil 1) .nil))) (.cons (.refl _) .nil)),trivial,rfl,rfl⟩
  subst he
  rw[if_pos rfl]
  by_cases hv:Ps.xV d=true
  ·have hwp: ∀p∈d.procs,Ps.WP p:=by
    have:=Ps.zh9 (s:=tx) (by rw[hd];exact hv)
    rw[hd]at this
    exact this
   have hPr:=Ps.zmN wd hv hwp
   cases hf:Ps.zfI d wd with
   |none=>
    rw[hf]at hPr
    simp only[Option.getD_none,Option.isSome_none,Bool.false_eq_true,if_false,and_false]at hPr⊢
    refine⟨ks (⟨#[]⟩:ByteArray),.sl 1 [],?_⟩
    by_cases hm:ca=(⟨#[109,105,110]⟩:ByteArray)
    ·rw[if_pos hm]at hw;subst hw
     refine gO T Tryz.func76 fun C hC=>?_
     repeat' first|refine gG ?_|(exfalso;simp at h;done)|(exfalso;exact absurd hm (of_decide_eq_false h))|refine gB (fun h=>?_) (fun h=>?_)|refine gC hF ?_|refine gC hT ?_|refine gC hCu ?_|refine gC hP ?_|refine gC hPr ?_
     all_goals exact zg ⟨.inl rfl,id,_,rfl,LeS.tup (.cons (LeS.agg (.cons (.refl _) (.cons (.nil 1) .nil))) (.cons (.refl _) .nil)),trivial,rfl,rfl⟩
    ·rw[if_neg hm]at hw;subst hw
     refine gO T Tryz.func76 fun C hC=>?_
     repeat' first|refine gG ?_|(exfalso;simp at h;done)|(exfalso;exact hm (of_decide_eq_true h))|refine gB (fun h=>?_) (fun h=>?_)|refine gC hF ?_|refine gC hT ?_|refine gC hCu ?_|refine gC hP ?_|refine gC hPr ?_
     all_goals exact zg ⟨.inl rfl,id,_,rfl,LeS.tup (.cons (LeS.agg (.cons (.refl _) (.cons (.nil 1) .nil))) (.cons (.refl _) .nil)),trivial,rfl,rfl⟩
   |some pr=>
    rw[hf]at hPr
    simp only[Option.getD_some,Option.isSome_some,if_true,and_self,hv]at hPr⊢
    refine⟨ks wd,zA o.args,?_⟩
    have hal:(o.args.map zS).length=o.args.length:=List.length_map _
    have hal2:=(jd ho).2.2.2.1
    by_cases hm:ca=(⟨#[109,105,110]⟩:ByteArray)
    ·rw[if_pos hm]at hw;subst hw
     refine gO T Tryz.func76 fun C hC=>?_
     repeat' first|refine gG ?_|(exfalso;simp at h;done)|(exfalso;exact absurd hm (of_decide_eq_false h))|refine gB (fun h=>?_) (fun h=>?_)|refine gC hF ?_|refine gC hT ?_|refine gC hCu ?_|refine gC hP ?_|refine gC hPr ?_|refine zeH T 102 hC (rows2:=o.args.map zS) (bytes:=8) rfl rfl rfl (xj.sl (T.es_ok _ _ rfl)) rfl rfl rfl (by kernel_rfl) (by rw[hal];omega) (by rw[hal];omega) rfl rfl rfl ?_
     refine zm rfl (id:=102) (e:=1) (rows:=o.args.map zS) rfl [] trivial [(1004,[.p (ks _),.p (zA o.args)])] ⟨⟨_,rfl,by decide,.cons (.refl _) (.cons .ar .nil)⟩,trivial⟩ ?_
     exact gF
    ·rw[if_neg hm]at hw;subst hw
     refine gO T Tryz.func76 fun C hC=>?_
     repeat' first|refine gG ?_|(exfalso;simp at h;done)|(exfalso;exact hm (of_decide_eq_true h))|refine gB (fun h=>?_) (fun h=>?_)|refine gC hF ?_|refine gC hT ?_|refine gC hCu ?_|refine gC hP ?_|refine gC hPr ?_|refine zeH T 102 hC (rows2:=o.args.map zS) (bytes:=8) rfl rfl rfl (xj.sl (T.es_ok _ _ rfl)) rfl rfl rfl (by kernel_rfl) (by rw[hal];omega) (by rw[hal];omega) rfl rfl rfl ?_
     refine zm rfl (id:=102) (e:=1) (rows:=o.args.map zS) rfl [] trivial [(1004,[.p (ks _),.p (zA o.args)])] ⟨⟨_,rfl,by decide,.cons (.refl _) (.cons .ar .nil)⟩,trivial⟩ ?_
     exact gF
  ·rw[if_neg (fun h=>hv h.1)]
   rw[Bool.not_eq_true]at hv
   have hPr:=Ps.zpu wd hv
   refine⟨ks (⟨#[]⟩:ByteArray),.sl 1 [],?_⟩
   by_cases hm:ca=(⟨#[109,105,110]⟩:ByteArray)
   ·rw[if_pos hm]at hw;subst hw
    refine gO T Tryz.func76 fun C hC=>?_
    repeat' first|refine gG ?_|(exfalso;simp at h;done)|(exfalso;exact absurd hm (of_decide_eq_false h))|refine gB (fun h=>?_) (fun h=>?_)|refine gC hF ?_|refine gC hT ?_|refine gC hCu ?_|refine gC hP ?_|refine gC hPr ?_
    all_goals exact zg ⟨.inl rfl,id,_,rfl,LeS.tup (.cons (LeS.agg (.cons (.refl _) (.cons (.nil 1) .nil))) (.cons (.refl _) .nil)),trivial,rfl,rfl⟩
   ·rw[if_neg hm]at hw;subst hw
    refine gO T Tryz.func76 fun C hC=>?_
    repeat' first|refine gG ?_|(exfalso;simp at h;done)|(exfalso;exact hm (of_decide_eq_true h))|refine gB (fun h=>?_) (fun h=>?_)|refine gC hF ?_|refine gC hT ?_|refine gC hCu ?_|refine gC hP ?_|refine gC hPr ?_
    all_goals exact zg ⟨.inl rfl,id,_,rfl,LeS.tup (.cons (LeS.agg (.cons (.refl _) (.cons (.nil 1) .nil))) (.cons (.refl _) .nil)),trivial,rfl,rfl⟩
end Hw.Fr
/- The engine, part BY: copy and clear at elements of any size. -/
namespace Hw
open Go
section
variable {P:Program}
theorem xC(w:World)(dT sT ty elem:TypeId)(k b o dLen dCap:Nat)(a:Addr)(sLen sCap:Nat)(cs:List Value)
 (hu:P.underlying dT=some (.slice elem)) (hs:(P.info? elem).map (·.size)=some k) (hn:cs.length=Nat.min sLen dLen*k)
 (hsrc: ∀j v,cs[j]?=some v→w.cell? (a.add j)=some v) (hc: ∀j,j<cs.length→(w.cell? ⟨b,o+j,none⟩).isSome=true) (hf: ∀j,j<cs.length→w.frozen? ⟨b,o+j,none⟩=false) (h1: ∀v∈cs,v.oneCell'=true):
 (Builtin.copy_ #[dT,sT] ty #[.slice (some ⟨b,o,none⟩) dLen dCap,.slice (some a) sLen sCap]).run P w= .ok (goInt (Nat.min sLen dLen)) (w.setCells b o cs):=by
 have hl:=run_loadCells_list (P:=P) w a cs hsrc
 have hst:=run_storeCells_cells (P:=P) b o cs 0 w (by simpa using hc) (by simpa using hf) h1
 cases hq:P.info? elem with
 |none=>simp[hq]at hs
 |some i=>
  have hi:i.size=k:=by simpa [hq]using hs
  simp[Builtin.copy_,run_underlying hu,Builtin.lenOf,Builtin.firstCells,Go.sizeOf,typeInfo,hq,hi,←hn,hl,hst]
theorem zaX(w:World)(t e ty:TypeId)(z:Value)(ht:P.underlying t=some (.slice e))(hv: ∀w,(zeroValue e).run P w= .ok z w)(k:Nat)(hz:z.cells.size=k)(h1: ∀v∈z.cells.toList,v.oneCell'=true)(b o n c:Nat)(hn:0<n)
 (hc: ∀j,j<n*k→(w.cell? ⟨b,o+j,none⟩).isSome=true) (hf: ∀j,j<n*k→w.frozen? ⟨b,o+j,none⟩=false):
 (Builtin.clear_ #[t] ty #[.slice (some ⟨b,o,none⟩) n c]).run P w= .ok (.tuple #[]) (w.setCells b o (Builtin.zeroCells z.cells n).toList):=by
 have hl:(Builtin.zeroCells z.cells n).toList.length=n*k:=by simp[Builtin.zeroCells,hz]
 have hst:=run_storeCells_cells (P:=P) b o (Builtin.zeroCells z.cells n).toList 0 w (by simpa [hl]using hc) (by simpa [hl]using hf) (by
  intro v hv'
  simp only[Builtin.zeroCells]at hv'
  simp at hv'
  obtain⟨j,hj,rfl⟩:=hv'
  apply h1
  have hlt:j % z.cells.size<z.cells.size:=Nat.mod_lt _ (by rcases Nat.eq_zero_or_pos z.cells.size with e|e; ·rw[e]at hj;omega
                                                           ·exact e)
  simp[hlt])
 simp only[Nat.add_zero]at hst
 obtain⟨m,rfl⟩: ∃m,n=m+1:=⟨n - 1,by omega⟩
 simp[Builtin.clear_,run_underlying ht,hv,hst]
end
end Hw
namespace Hw.Fr
open Go Go.Proofs Go.Shelf Go.RowKit Go.Lib Hw.M
theorem info_mo: ∃i0,Tryz.prog.info? 102=some i0∧i0.size=4∧(∃z,i0.zero=some z∧z.cells.size=4∧ ∀v∈z.cells.toList,v.oneCell'=true)∧i0.bytes=48:=by
 have h:(Tryz.prog.info? 102).map (fun i=>(decide (i.size=4)&&decide (i.bytes=48)&&(match i.zero with|some z=>decide (z.cells.size=4)&&z.cells.toList.all (fun v=>v.oneCell')|none=>false)))=some true:=by kernel_rfl
 obtain⟨i0,h1,h2⟩:=Option.map_eq_some_iff.1 h
 simp only[Bool.and_eq_true,decide_eq_true_eq]at h2
 refine⟨i0,h1,h2.1.1,?_,h2.1.2⟩
 have h3:=h2.2
 cases hz:i0.zero with
 |none=>rw[hz]at h3;cases h3
 |some z=>
  rw[hz]at h3
  simp only[Bool.and_eq_true,decide_eq_true_eq,List.all_eq_true]at h3
  exact⟨z,rfl,h3⟩
set_option maxHeartbeats 4000000 in
set_option maxRecDepth 100000 in
theorem zhb(a:Option Addr)(n c vb vc:Nat)(v':Value)(w w':World)(hnc:n≤c)(hc63:c≤9223372036854775807)
 (hrun: ∀ty,(Builtin.append_ #[84,84] ty #[.slice a n c,.slice (some ⟨vb,0,none⟩) 1 vc]).run Tryz.prog w= .ok v' w'):
 Calls Tryz.prog 51 #[.slice a n c,.int .i64 n,.slice (some ⟨vb,0,none⟩) 1 vc] w fun e w2=>e= .returned v'∧w2=w':=by
 have t3:=Tryz.underlying3;have a3:=Tryz.isAgg3;have z3:=Tryz.sizeOf3;have v3:=Tryz.zeroValue3
 have t4:=Tryz.underlying4;have a4:=Tryz.isAgg4;have z4:=Tryz.sizeOf4;have v4:=Tryz.zeroValue4
 have t22:=Tryz.underlying84;have a22:=Tryz.isAgg84;have z22:=Tryz.sizeOf84;have v22:=Tryz.zeroValue84
 have u3:=run_underlying Tryz.underlying3;have u4:=run_underlying Tryz.underlying4;have u22:=run_underlying Tryz.underlying84
 have mixed:Tryz.prog.follows .mixedOrders=true:=by kernel_rfl
 go_enter Tryz.func51,Tryz.ntmps51
 cases a with
 |none=>
  go_wp2_with (at_builtin;refine Lib.wpList_append_run _ rfl _ _ _ _ rfl _ _ rfl rfl _ _ (hrun _) ?_)
  all_goals (go_ret;exact⟨rfl,rfl⟩)
 |some ad=>
  obtain⟨ab,ao,asp⟩:=ad
  go_wp2_with (at_builtin;refine Lib.wpList_append_run _ rfl _ _ _ _ rfl _ _ rfl rfl _ _ (hrun _) ?_)
  all_goals (go_ret;exact⟨rfl,rfl⟩)
set_option maxHeartbeats 4000000 in
set_option maxRecDepth 100000 in
theorem zir(b off n c i vb vc:Nat)(xs vs:List Value)(w:World)(hi:i<n)(hroom:n+1≤c)(hc63:c≤9223372036854775807)(hvb:vb≠b)(hcl:xs.length=n*4)(hvl:vs.length=4)
 (hcs: ∀(j:Nat) u,xs[j]?=some u→w.cell? ⟨b,off+j,none⟩=some u) (hsp: ∀j,j<(n+1)*4→(w.cell? ⟨b,off+j,none⟩).isSome=true) (hfz: ∀j,j<(n+1)*4→w.frozen? ⟨b,off+j,none⟩=false)
 (hv: ∀(j:Nat) u,vs[j]?=some u→w.cell? ⟨vb,j,none⟩=some u) (h1c: ∀u∈xs,u.oneCell'=true) (h1v: ∀u∈vs,u.oneCell'=true)
 (tA tB:TypeId) (kA kB:Nat) (hsa:w.shape? vb=some (tA,kA)) (hsb:w.shape? b=some (tB,kB)) (hkB:kB≠0) (hfa:w.frozen? ⟨vb,0,none⟩=false) (hfe:w.frozen? ⟨vb,kA,none⟩=false):
 Calls Tryz.prog 51 #[.slice (some ⟨b,off,none⟩) n c,.int .i64 i,.slice (some ⟨vb,0,none⟩) 1 vc] w fun e w'=>
  e= .returned (.slice (some ⟨b,off,none⟩) (n+1) c)∧w'=(w.drew.setCells b (off+(i+1)*4) (xs.drop (i*4))).setCells b (off+i*4) vs:=by
 have t3:=Tryz.underlying3;have a3:=Tryz.isAgg3;have z3:=Tryz.sizeOf3;have v3:=Tryz.zeroValue3
 have t4:=Tryz.underlying4;have a4:=Tryz.isAgg4;have z4:=Tryz.sizeOf4;have v4:=Tryz.zeroValue4
 have t22:=Tryz.underlying84;have a22:=Tryz.isAgg84;have z22:=Tryz.sizeOf84;have v22:=Tryz.zeroValue84
 have zE:=Tryz.sizeOf102
 have u3:=run_underlying Tryz.underlying3;have u4:=run_underlying Tryz.underlying4;have u22:=run_underlying Tryz.underlying84
 have mixed:Tryz.prog.follows .mixedOrders=true:=by kernel_rfl
 obtain⟨i0,hi0,hz1,_,_⟩:=info_mo
 have hsz:(Tryz.prog.info? 102).map (·.size)=some 4:=by rw[hi0,←hz1];rfl
 have hn1: ¬((i:Int)=(n:Int)):=by omega
 have hov: ∀lb cb,(callFunc 79 #[.slice (some ⟨vb,0,none⟩) 1 vc,.slice (some ⟨b,off+(i+1)*4,none⟩) lb cb]).run Tryz.prog w= .ok (.value (.bool false)) w:=fun lb cb=>by
  rw[run_callFunc_extern Tryz.func79 (by kernel_rfl) (by kernel_rfl) (by kernel_rfl) (e:=Extern.SlicesOverlaps.overlaps #[84,84] #[4]) (by kernel_rfl),
   Lib.run_overlaps_apart w 84 4 102 Tryz.underlying84 4 Tryz.sizeOf102 ⟨vb,0,none⟩ ⟨b,off+(i+1)*4,none⟩ 1 vc lb cb hvb tA tB kA kB hsa hsb hkB hfa hfe]
  rfl
 have hdl:(xs.drop (i*4)).length=(n - i)*4:=by rw[List.length_drop,hcl];omega
 have hb1:(0:Int)≤(i:Int)+1:=by omega
 have hin:i≤n:=by omega
 have htn:((i:Int)+1).toNat=i+1:=by omega
 have hwr:IntKind.i64.wrap ((i:Int)+1)=(i:Int)+1:=by rw[IntKind.wrap_i64];omega
 have hb2: ¬(c=i+1):=by omega
 have hb3:(i:Int)≤(n:Int)+1:=by omega
 have hb4: ¬(c=i):=by omega
 have hcp1: ∀ty dc sc,(Builtin.copy_ #[84,84] ty #[.slice (some ⟨b,off+(i+1)*4,none⟩) (n - i) dc,.slice (some ⟨b,off+i*4,none⟩) (n+1 - i) sc]).run Tryz.prog w.drew= .ok (goInt (n - i:Nat)) (w.drew.setCells b (off+(i+1)*4) (xs.drop (i*4))):=fun ty dc sc=>by
  have hm:Nat.min (n+1 - i) (n - i)=n - i:=by simp only[Nat.min_def];split<;>omega
  have:=xC w.drew 84 84 ty 102 4 b (off+(i+1)*4) (n - i) dc ⟨b,off+i*4,none⟩ (n+1 - i) sc (xs.drop (i*4)) Tryz.underlying84 hsz (by rw[hdl,hm])
   (fun j u hj=>by rw[Addr.add_lit,Nat.add_assoc];exact hcs (i*4+j) u (by rwa [List.getElem?_drop]at hj))
   (fun j hj=>by rw[Nat.add_assoc];exact hsp _ (by omega)) (fun j hj=>by rw[Nat.add_assoc];exact hfz _ (by omega)) (fun u hu=>h1c u (List.mem_of_mem_drop hu))
  rw[hm]at this
  exact this
 obtain⟨W1,hW1⟩: ∃W1,W1=w.drew.setCells b (off+(i+1)*4) (xs.drop (i*4)):=⟨_,rfl⟩
 have hsp1: ∀k,k<(n+1)*4→(W1.cell? ⟨b,off+k,none⟩).isSome=true:=fun k hk=>by
  rw[hW1]
  exact isSome_setCells b _ _ _ (fun j hj=>by rw[Nat.add_assoc];exact hsp _ (by omega)) _ (hsp k hk)
 have hcp2: ∀(W:World),(∀x,W.cell? x=W1.cell? x)→(∀x,W.frozen? x=W1.frozen? x)→ ∀ty dc,(Builtin.copy_ #[84,84] ty #[.slice (some ⟨b,off+i*4,none⟩) (n+1 - i) dc,.slice (some ⟨vb,0,none⟩) 1 vc]).run Tryz.prog W= .ok (goInt (1:Nat)) (W.setCells b (off+i*4) vs):=fun W hWc hWf ty dc=>by
  have hm:Nat.min 1 (n+1 - i)=1:=by simp only[Nat.min_def];split<;>omega
  have:=xC W 84 84 ty 102 4 b (off+i*4) (n+1 - i) dc ⟨vb,0,none⟩ 1 vc vs Tryz.underlying84 hsz (by rw[hvl,hm])
   (fun j u hj=>by
     rw[Addr.add_lit,Nat.zero_add,hWc,hW1,World.cell?_setCells_out b _ _ _ _ (fun h _=>absurd h hvb)]
     exact hv j u hj)
   (fun j hj=>by rw[hWc,Nat.add_assoc];exact hsp1 _ (by omega)) (fun j hj=>by rw[hWf,hW1,World.frozen?_setCells,Nat.add_assoc];exact hfz _ (by omega)) h1v
  rw[hm]at this
  exact this
 rw[←hW1]at hcp1
 go_enter Tryz.func51,Tryz.ntmps51
 go_wp2_with (simp only[hov])
 go_region_law_o (refine step_copy_runI rfl _ _ 84 84 rfl _ _ (by simp[Act.eval,Act.put]) (by simp[Act.eval,Act.put]) (hcp1 _ _ _) ?_)
 go_wp2_with (at_builtin;refine wpList_copy_runI _ rfl _ _ 84 84 rfl _ _ rfl rfl (hcp2 _ (fun _=>rfl) (fun _=>rfl) _ _) ?_)
 go_ret
 first|exact⟨rfl,rfl⟩|exact⟨rfl,by rw[hW1]⟩
set_option maxHeartbeats 4000000 in
set_option maxRecDepth 100000 in
theorem zk1(b off n c i vb vc:Nat)(xs vs:List Value)(w:World)(hi:i<n)(hnc:n≤c)(hroom:c<n+1)(hbig:(n+1)*48≤140737488355328)(hcl:xs.length=n*4)(hvl:vs.length=4)
 (i0:TypeInfo) (z:Value) (hi0:Tryz.prog.info? 102=some i0) (hzs:i0.size=4) (hz0:i0.zero=some z) (hzc:z.cells.size=4) (hzb:i0.bytes=48)
 (hcs: ∀(j:Nat) u,xs[j]?=some u→w.cell? ⟨b,off+j,none⟩=some u) (hv: ∀(j:Nat) u,vs[j]?=some u→w.cell? ⟨vb,j,none⟩=some u) (h1c: ∀u∈xs,u.oneCell'=true) (h1v: ∀u∈vs,u.oneCell'=true):
 Calls Tryz.prog 51 #[.slice (some ⟨b,off,none⟩) n c,.int .i64 i,.slice (some ⟨vb,0,none⟩) 1 vc] w fun e w'=>
  e= .returned (.slice (some ⟨w.heap.size,0,none⟩) (n+1) (grownCap w (n+1) c 102))∧
  w'=(((w.alloc (.cells ((xs.take (i*4)).toArray++Builtin.zeroCells z.cells (n+1 - i)++Builtin.zeroCells z.cells (grownCap w (n+1) c 102 - (n+1))) 102)).drew.setCells w.heap.size (i*4) vs).drew).setCells w.heap.size ((i+1)*4) (xs.drop (i*4)):=by
 have t3:=Tryz.underlying3;have a3:=Tryz.isAgg3;have z3:=Tryz.sizeOf3;have v3:=Tryz.zeroValue3
 have t4:=Tryz.underlying4;have a4:=Tryz.isAgg4;have z4:=Tryz.sizeOf4;have v4:=Tryz.zeroValue4
 have t22:=Tryz.underlying84;have a22:=Tryz.isAgg84;have z22:=Tryz.sizeOf84;have v22:=Tryz.zeroValue84
 have zE:=Tryz.sizeOf102
 have u3:=run_underlying Tryz.underlying3;have u4:=run_underlying Tryz.underlying4;have u22:=run_underlying Tryz.underlying84
 have mixed:Tryz.prog.follows .mixedOrders=true:=by kernel_rfl
 have hn1: ¬((i:Int)=(n:Int)):=by omega
 have hn2:(c:Int)<(n:Int)+1:=by omega
 have hsz:(Tryz.prog.info? 102).map (·.size)=some 4:=by rw[hi0,←hzs];rfl
 have hbw:b<w.heap.size:=block_lt_of_cell (hcs 0 _ (List.getElem?_eq_getElem (by omega)))
 have hvw:vb<w.heap.size:=block_lt_of_cell (hv 0 _ (List.getElem?_eq_getElem (by omega)))
 have hkk:(n:Int)+1 - (i:Int)=((n+1 - i:Nat):Int):=by omega
 have hik:i+(n+1 - i)=n+1:=by omega
 have hold:(Builtin.firstCells i0.size i (.slice (some ⟨b,off,none⟩) i c)).run Tryz.prog w.drew= .ok (xs.take (i*4)).toArray w.drew:=by
  rw[hzs]
  exact run_firstCells_some w.drew 4 i ⟨b,off,none⟩ i c (xs.take (i*4)) (by rw[List.length_take];omega) (fun j u hj=>by
   rw[Addr.add_lit]
   rw[List.getElem?_take]at hj
   split at hj
   ·exact hcs j u hj
   ·cases hj)
 have hrz: ∀ty,(Builtin.append_ #[84,3] ty #[.slice (some ⟨b,off,none⟩) i c,.int .i64 ((n:Int)+1 - (i:Int))]).run Tryz.prog w=
  .ok (.slice (some ⟨w.heap.size,0,none⟩) (n+1) (grownCap w (n+1) c 102)) (w.drew.alloc (.cells ((xs.take (i*4)).toArray++Builtin.zeroCells z.cells (n+1 - i)++Builtin.zeroCells z.cells (grownCap w (n+1) c 102 - (n+1))) 102)):=fun ty=>by
  have h:=Lib.run_append_grow_zeros w 84 3 ty 102 i0 _ .i64 .i64 Tryz.underlying84 Tryz.underlying3 hi0 hz0 (some ⟨b,off,none⟩) i c (xs.take (i*4)) hold (n+1 - i) (by omega) (by omega) (by omega) (by omega) (by rw[hzb];omega) (by rw[hzb,hik];exact growslice_fits hroom hbig)
  rw[hik]at h
  rw[hkk]
  exact h
 obtain⟨G,hG⟩: ∃G,G=grownCap w (n+1) c 102:=⟨_,rfl⟩
 obtain⟨ROW,hROW⟩: ∃ROW:Array Value,ROW=(xs.take (i*4)).toArray++Builtin.zeroCells z.cells (n+1 - i)++Builtin.zeroCells z.cells (G - (n+1)):=⟨_,rfl⟩
 rw[←hG]at hrz⊢
 rw[←hROW]at hrz⊢
 have hRl:(n+1)*4≤ROW.size:=by
  rw[hROW]
  simp[Builtin.zeroCells,hzc]
  omega
 obtain⟨W1,hW1⟩: ∃W1,W1=w.drew.alloc (.cells ROW 102):=⟨_,rfl⟩
 rw[←hW1]at hrz
 have hN: ∀j,j<(n+1)*4→(W1.cell? ⟨w.heap.size,j,none⟩).isSome=true:=fun j hj=>by
  rw[hW1,World.cell?_alloc_at (w:=w.drew) ROW _ w.heap.size j rfl,Array.getElem?_eq_getElem (by omega)];rfl
 have hNf: ∀j,W1.frozen? ⟨w.heap.size,j,none⟩=false:=fun j=>by rw[hW1];exact World.frozen?_alloc_at (w:=w.drew) ROW _ w.heap.size j rfl
 have hOb: ∀j u,w.cell? ⟨b,j,none⟩=some u→W1.cell? ⟨b,j,none⟩=some u:=fun j u h=>by rw[hW1,World.cell?_alloc_past (w:=w.drew) _ b j hbw];exact h
 have hOv: ∀j u,w.cell? ⟨vb,j,none⟩=some u→W1.cell? ⟨vb,j,none⟩=some u:=fun j u h=>by rw[hW1,World.cell?_alloc_past (w:=w.drew) _ vb j hvw];exact h
 have hcpA: ∀(W:World),(∀x,W.cell? x=W1.cell? x)→(∀x,W.frozen? x=W1.frozen? x)→ ∀ty dc,(Builtin.copy_ #[84,84] ty #[.slice (some ⟨w.heap.size,i*4,none⟩) (n+1 - i) dc,.slice (some ⟨vb,0,none⟩) 1 vc]).run Tryz.prog W= .ok (goInt (1:Nat)) (W.setCells w.heap.size (i*4) vs):=fun W hWc hWf ty dc=>by
  have hm:Nat.min 1 (n+1 - i)=1:=by simp only[Nat.min_def];split<;>omega
  have:=xC W 84 84 ty 102 4 w.heap.size (i*4) (n+1 - i) dc ⟨vb,0,none⟩ 1 vc vs Tryz.underlying84 hsz (by rw[hvl,hm])
   (fun j u hj=>by rw[Addr.add_lit,Nat.zero_add,hWc];exact hOv _ _ (hv j u hj))
   (fun j hj=>by rw[hWc];exact hN _ (by omega)) (fun j hj=>by rw[hWf];exact hNf _) h1v
  rw[hm]at this
  exact this
 have hGn:n+1≤G:=by rw[hG];exact grownCap_ge w _ _ _
 have hG63:G≤9223372036854775807:=by
  have:=grownCap_le_maxLen w (n+1) c 102 (by unfold maxLen;omega)
  rw[←hG]at this
  unfold maxLen at this
  omega
 have hGi: ¬(G=i):=by omega
 have hGim: ¬(G=i+1):=by omega
 have hci: ¬(c=i):=by omega
 have hbN:b≠w.heap.size:=by omega
 have hdl:(xs.drop (i*4)).length=(n - i)*4:=by rw[List.length_drop,hcl];omega
 have hcpB: ∀(W:World),(∀x,W.cell? x=(W1.setCells w.heap.size (i*4) vs).cell? x)→(∀x,W.frozen? x=(W1.setCells w.heap.size (i*4) vs).frozen? x)→ ∀ty dc sc,(Builtin.copy_ #[84,84] ty #[.slice (some ⟨w.heap.size,(i+1)*4,none⟩) (n+1 - (i+1)) dc,.slice (some ⟨b,off+i*4,none⟩) (n - i) sc]).run Tryz.prog W= .ok (goInt (n - i:Nat)) (W.setCells w.heap.size ((i+1)*4) (xs.drop (i*4))):=fun W hWc hWf ty dc sc=>by
  have hm:Nat.min (n - i) (n+1 - (i+1))=n - i:=by simp only[Nat.min_def];split<;>omega
  have:=xC W 84 84 ty 102 4 w.heap.size ((i+1)*4) (n+1 - (i+1)) dc ⟨b,off+i*4,none⟩ (n - i) sc (xs.drop (i*4)) Tryz.underlying84 hsz (by rw[hdl,hm])
   (fun j u hj=>by
     rw[Addr.add_lit,hWc,World.cell?_setCells_out _ _ _ _ _ (fun h _=>absurd h hbN),Nat.add_assoc]
     exact hOb _ u (hcs (i*4+j) u (by rwa [List.getElem?_drop]at hj)))
   (fun j hj=>by rw[hWc];exact isSome_setCells _ _ _ _ (fun t ht=>hN _ (by omega)) _ (hN _ (by omega)))
   (fun j hj=>by rw[hWf,World.frozen?_setCells];exact hNf _) (fun u hu=>h1c u (List.mem_of_mem_drop hu))
  rw[hm]at this
  exact this
 subst hW1
 have hE1: ∀x,((w.alloc (.cells ROW 102)).drew).cell? x=(w.drew.alloc (.cells ROW 102)).cell? x:=fun x=>rfl
 have hE2: ∀x,((w.alloc (.cells ROW 102)).drew).frozen? x=(w.drew.alloc (.cells ROW 102)).frozen? x:=fun x=>rfl
 have hF1: ∀x,(((w.alloc (.cells ROW 102)).drew.setCells w.heap.size (i*4) vs).drew).cell? x=((w.drew.alloc (.cells ROW 102)).setCells w.heap.size (i*4) vs).cell? x:=fun x=>rfl
 have hF2: ∀x,(((w.alloc (.cells ROW 102)).drew.setCells w.heap.size (i*4) vs).drew).frozen? x=((w.drew.alloc (.cells ROW 102)).setCells w.heap.size (i*4) vs).frozen? x:=fun x=>rfl
 have hb1:(0:Int)≤(i:Int)+1:=by omega
 have hin:i≤n:=by omega
 have htn:((i:Int)+1).toNat=i+1:=by omega
 have hwr:IntKind.i64.wrap ((i:Int)+1)=(i:Int)+1:=by rw[IntKind.wrap_i64];omega
 have hb3:(i:Int)≤(n:Int):=by omega
 clear hkk hik hold hROW hG hRl
 go_enter Tryz.func51,Tryz.ntmps51
 go_wp2_with (first
  |(at_builtin;refine Lib.wpList_append_run _ rfl _ _ _ _ rfl _ _ rfl rfl _ _ (hrz _) ?_)
  |(at_builtin;refine wpList_copy_runI _ rfl _ _ 84 84 rfl _ _ rfl rfl (hcpA _ hE1 hE2 _ _) ?_)
  |(at_builtin;refine wpList_copy_runI _ rfl _ _ 84 84 rfl _ _ rfl rfl (hcpB _ (fun _=>rfl) (fun _=>rfl) _ _ _) ?_))
 go_region_law_o (refine step_copy_runI rfl _ _ 84 84 rfl (.slice (some ⟨w.heap.size,(i+1)*4,none⟩) (n+1 - (i+1)) (G - (i+1))) (.slice (some ⟨b,off+i*4,none⟩) (n - i) (c - i)) (by simp[Act.eval,Act.put]) (by simp[Act.eval,Act.put]) (hcpB _ hF1 hF2 3 (G - (i+1)) (c - i)) ?_)
 go_wp2
 go_ret
 exact⟨rfl,rfl⟩
end Hw.Fr
namespace Hw.Fr
open Go Go.Proofs Go.Shelf Go.RowKit Hw.M
def jJ{α:Type}(l:List α)(i:Nat)(x:α):List α:=l.take i++x::l.drop i
theorem zbf{α:Type}{l:List α}{i:Nat}{x:α}(h:i≤l.length):(jJ l i x).length=l.length+1:=by simp only[jJ,List.length_append,List.length_take,List.length_cons,List.length_drop];omega
theorem zaD{α:Type}{e:Nat}: ∀ {rows:List (List α)} (i:Nat),(∀r∈rows,r.length=e)→(rows.take i).flatten=rows.flatten.take (i*e)
 |_,0,_=>by simp
 | [],i+1,_=>by simp
 |r::rs,i+1,h=>by
  have hr:=h r (List.mem_cons_self ..)
  rw[List.take_succ_cons,List.flatten_cons,List.flatten_cons,zaD i fun r hr=>h r (List.mem_cons_of_mem _ hr),List.take_append,hr,List.take_of_length_le (l:=r) (by rw[hr,Nat.add_mul];omega)]
  congr 2
  rw[Nat.add_mul];omega
theorem zaE{α:Type}{e:Nat}: ∀ {rows:List (List α)} (i:Nat),(∀r∈rows,r.length=e)→(rows.drop i).flatten=rows.flatten.drop (i*e)
 |_,0,_=>by simp
 | [],i+1,_=>by simp
 |r::rs,i+1,h=>by
  have hr:=h r (List.mem_cons_self ..)
  rw[List.drop_succ_cons,List.flatten_cons,zaE i fun r hr=>h r (List.mem_cons_of_mem _ hr),List.drop_append,hr,List.drop_of_length_le (l:=r) (by rw[hr,Nat.add_mul];omega),List.nil_append]
  congr 1
  rw[Nat.add_mul];omega
theorem zqf{M:Mem}{ρ:Nat→Value}{rows:List (List PV)}{t:List PV}{us vs:List Value}{e:Nat}(i:Nat)(hl: ∀r∈rows,r.length=e)(h:RepVs M ρ (rows.flatten.map V.p) us)(ht:RepVs M ρ (t.map V.p) vs):
 RepVs M ρ ((jJ rows i t).flatten.map V.p) (us.take (i*e)++(vs++us.drop (i*e))):=by
 simp only[jJ,List.flatten_append,List.flatten_cons,List.map_append]
 rw[zaD i hl,zaE i hl,List.map_take,List.map_drop]
 exact(h.take _).append (ht.append (h.drop _))
theorem zgc{us vs:List Value}{k:Nat}(hk:k≤us.length){j:Nat}{c:Value}(hj:(us.take k++(vs++us.drop k))[j]?=some c):
 (j<k∧us[j]?=some c)∨(k≤j∧j<k+vs.length∧vs[j - k]?=some c)∨(k+vs.length≤j∧us[j - vs.length]?=some c):=by
 have htl:(us.take k).length=k:=by rw[List.length_take];omega
 rcases Nat.lt_or_ge j k with h1|h1
 ·rw[List.getElem?_append_left (by omega),List.getElem?_take,if_pos h1]at hj
  exact .inl ⟨h1,hj⟩
 ·rw[List.getElem?_append_right (by omega),htl]at hj
  rcases Nat.lt_or_ge (j - k) vs.length with h2|h2
  ·rw[List.getElem?_append_left h2]at hj
   exact .inr (.inl ⟨h1,by omega,hj⟩)
  ·rw[List.getElem?_append_right h2,List.getElem?_drop]at hj
   exact .inr (.inr ⟨by omega,by rw[show j - vs.length=k+(j - k - vs.length) by omega];exact hj⟩)
theorem zqg(rows:List (List PV))(i:Nat)(a b c d:PV)(hi:i≤rows.length)(hl:rows.length≤1000000):
 zj Tryz.prog 51 [.one (.ar 0),I i,.one (.bs 1 0 1)] [(0,.arr 4 rows),(1,.box [.p a,.p b,.p c,.p d])] (.one (.ar 2)) [(2,.arr 4 (jJ rows i [a,b,c,d]))]:=by
 have him:(jJ rows i [a,b,c,d]).length=rows.length+1:=zbf hi
 obtain⟨i0,hi0,hzs,⟨z,hz0,hzc,_⟩,hzb⟩:=info_mo
 refine⟨⟨_,Tryz.func51,by kernel_rfl,by kernel_rfl⟩,fun M ρ w xs hx hT hI hG=>?_⟩
 match xs,hx with
 | [x0,x1,x2],hx=>
   simp only[RepSs,RepS,RepV,RepPV]at hx
   obtain⟨⟨h00,_⟩,⟨rfl,_⟩,⟨vb,c2,hb1,rfl,_⟩,_⟩:=hx
   subst h00
   obtain⟨ad,cap,e0,e1,e2,e3⟩:=hT.res 0 _ rfl
   obtain⟨vb',vs,el2,f1,f2,f3⟩:=hT.res 1 _ rfl
   rw[hb1]at f1
   simp only[Value.pointer.injEq,Option.some.injEq,Addr.mk.injEq]at f1
   obtain⟨rfl,_⟩:=f1
   have hvl:vs.length=4:=f3.length
   have h1v: ∀v∈vs,v.oneCell'=true:=f3.one
   have hvs: ∀(j:Nat) v,vs[j]?=some v→w.cell? ⟨vb,j,none⟩=some v:=fun j v hj=>by simp[World.cell?,f2,hj]
   rw[e0]
   have hR:tg (tb [(0,Res.arr 4 rows),(1,Res.box [.p a,.p b,.p c,.p d])]) 0=some (.arr 4 rows):=rfl
   have hid:2∉RL.ids [(0,Res.arr 4 rows),(1,Res.box [.p a,.p b,.p c,.p d])]:=by simp[RL.ids]
   -- the cells of the rows
   obtain⟨us,hu1,hu2,hu3,hu4⟩: ∃us:List Value,RepVs M ρ (rows.flatten.map V.p) us∧us.length=rows.length*4∧(∀r∈rows,r.length=4)∧
    ∀b o cs el fz,ad=some ⟨b,o,none⟩→w.heap[b]?=some (.cells cs el fz)→ ∀(j:Nat) u,us[j]?=some u→cs[o+j]?=some u:=by
    rcases e3 with⟨ha,hc⟩|⟨b,o,cs,el,fz,ha,h6,_,_,h8⟩
    ·have h0:rows=[]:=List.length_eq_zero_iff.1 (by omega)
     subst h0
     exact⟨[],by simp[RepVs],rfl,by simp,fun b o cs el fz h=>by rw[ha]at h;cases h⟩
    ·obtain⟨us,g1,g2,g3⟩:=h8.cells (ρ:=ρ)
     refine⟨us,g1,g2,h8.len,fun b' o' cs' el' fz' h h' j u hj=>?_⟩
     rw[ha]at h
     simp only[Option.some.injEq,Addr.mk.injEq]at h
     obtain⟨rfl,rfl,_⟩:=h
     rw[h6]at h'
     simp only[Option.some.injEq,Obj.cells.injEq]at h'
     obtain⟨rfl,_⟩:=h'
     exact g3 j u hj
   have h1u: ∀v∈us,v.oneCell'=true:=hu1.one
   have hrep:=zqf i hu3 hu1 (t:=[a,b,c,d]) f3
   have hrl: ∀r∈jJ rows i [a,b,c,d],r.length=4:=fun r hr=>by
    simp only[jJ,List.mem_append,List.mem_cons]at hr
    rcases hr with h|rfl|h
    ·exact hu3 r (List.mem_of_mem_take h)
    ·rfl
    ·exact hu3 r (List.mem_of_mem_drop h)
   have done: ∀ {B o cap':Nat} {cs:Array Value} {el:TypeId} {fz:Nat×Nat} {e:Ending} {w':World},e= .returned (.slice (some ⟨B,o,none⟩) (rows.length+1) cap')→w'.heap[B]?=some (.cells cs el fz)→xa fz cs.size→o+cap'*4≤cs.size→rows.length+1≤cap'→cap'≤9223372036854775807→
    (∀(j:Nat) c,(us.take (i*4)++(vs++us.drop (i*4)))[j]?=some c→cs[o+j]?=some c)→(w.heap.size≤B∨blk (ρ 0)=some B)→(∀k,k<w.heap.size→blk (ρ 0)≠some k→w'.heap[k]?=w.heap[k]?)→w.heap.size≤w'.heap.size→w'.os=w.os→w'.tape=w.tape→w'.output=w.output→
    ∃v M' ρ',e= .returned v∧Ret M ρ w [(0,Res.arr 4 rows),(1,Res.box [.p a,.p b,.p c,.p d])] (.one (.ar 2)) [(2,.arr 4 (jJ rows i [a,b,c,d]))] v M' ρ' w':=fun {B o cap' cs el fz e w'} he g1 g2 g3 g4 g5 g6 g7 g8 g9 g10 g11 g12=>by
    have hB0: ∀k,Bk (ρ 0) k↔blk (ρ 0)=some k:=fun k=>by rw[e0];rfl
    have:=ziT (rows:=jJ rows i [a,b,c,d]) (cap:=cap') (e:=4) hR hT hI hid g1 g2 g3 (by rw[him];exact g4) g5 (RowsIn.yA hrl hrep g6) (g7.imp id fun h=>(hB0 B).2 h) (fun k h1 h2=>g8 k h1 fun h=>h2 ((hB0 k).2 h)) g9 g10 g11 g12
    rw[him]at this
    exact⟨_,_,_,he,this⟩
   have hsrc:Src Tryz.prog 4 84 (.slice (some ⟨vb,0,none⟩) 1 c2) 1 vs w:=Src.ofSlice w Tryz.underlying84 ⟨vb,0,none⟩ 1 c2 vs (by rw[hvl]) (fun j u hj=>by rw[Addr.add_lit,Nat.zero_add];exact hvs j u hj) h1v
   rcases Nat.lt_or_ge cap (rows.length+1)with hlt|hge
   · -- no room
     have hcap:=grownCap_ge w (rows.length+1) cap 102
     have hmx:=grownCap_le_maxLen w (rows.length+1) cap 102 (by unfold maxLen;omega)
     unfold maxLen at hmx
     rcases Nat.eq_or_lt_of_le hi with rfl|hil2
     · -- at the end
       have hold:(Builtin.firstCells i0.size rows.length (.slice ad rows.length cap)).run Tryz.prog w.drew= .ok us.toArray w.drew:=by
        rw[hzs]
        rcases e3 with⟨rfl,hc⟩|⟨b,o,cs,el,fz,rfl,k1,k2,k3,k4⟩
        ·have h0:rows=[]:=List.length_eq_zero_iff.1 (by omega)
         subst h0
         have h1:us=[]:=List.length_eq_zero_iff.1 (by simpa using hu2)
         subst h1
         exact run_firstCells_none w.drew 4 0 0 cap
        ·exact run_firstCells_some w.drew 4 rows.length ⟨b,o,none⟩ rows.length cap us hu2 (fun j u hj=>by
          rw[Addr.add_lit]
          have k1':w.drew.heap[b]?=some (.cells cs el fz):=k1
          simp[World.cell?,k1',hu4 b o cs el fz rfl k1 j u hj])
       have hrun: ∀ty,(Builtin.append_ #[84,84] ty #[.slice ad rows.length cap,.slice (some ⟨vb,0,none⟩) 1 c2]).run Tryz.prog w=_:=fun ty=>
        run_append_grow_src w 84 84 ty 102 i0 _ Tryz.underlying84 hi0 hz0 ad rows.length cap us hold _ 1 vs (by rw[hzs];exact hsrc) hlt (by omega) (by rw[hzb];exact growslice_fits hlt (by omega))
       refine(zhb ad rows.length cap vb c2 _ w _ e1 e2 hrun).mono ?_
       rintro e w' ⟨he,rfl⟩
       refine done he (zW w.drew _) (fun i _=>by simp) ?_ hcap (by omega) (fun j c hj=>?_) (.inl (Nat.le_refl _)) (fun k hk _=>yf w.drew _ k hk) (by simp) rfl rfl rfl
       ·simp only[Array.size_append,List.size_toArray,List.length_append,size_zeroCells,hu2,hvl,hzc]
        omega
       ·have e5:us.take (rows.length*4)++(vs++us.drop (rows.length*4))=us++vs:=by rw[←hu2,List.take_length,List.drop_length,List.append_nil]
        rw[e5]at hj
        have hjl:=(List.getElem?_eq_some_iff.1 hj).1
        rw[Nat.zero_add,Array.getElem?_append_left (by simpa using hjl)]
        simpa using hj
     · -- within
       rcases e3 with⟨_,h⟩|⟨b,o,cs,el,fz,rfl,h6,h6',h7,h8⟩
       ·omega
       ·refine(zk1 b o rows.length cap i vb c2 us vs w hil2 e1 hlt (by omega) hu2 hvl i0 z hi0 hzs hz0 hzc hzb (fun j v hj=>by simp[World.cell?,h6,hu4 b o cs el fz rfl h6 j v hj]) hvs h1u h1v).mono ?_
        rintro e w' ⟨he,rfl⟩
        generalize hG3:grownCap w (rows.length+1) cap 102=G at*
        have htk:(us.take (i*4)).length=i*4:=by rw[List.length_take,hu2];omega
        generalize hcur:((us.take (i*4)).toArray++Builtin.zeroCells z.cells (rows.length+1 - i)++Builtin.zeroCells z.cells (G - (rows.length+1)))=cur
        have hcs:cur.size=G*4:=by
         rw[←hcur];simp only[Array.size_append,List.size_toArray,htk,size_zeroCells,hzc];omega
        have hcl: ∀j,j<i*4→cur[j]?=us[j]?:=fun j hj=>by
         rw[←hcur,Array.getElem?_append_left (by simp only[Array.size_append,List.size_toArray,htk];omega),Array.getElem?_append_left (by simp only[List.size_toArray,htk];exact hj),List.getElem?_toArray,List.getElem?_take,if_pos hj]
        have w1:(w.alloc (.cells cur 102)).drew.heap[w.heap.size]?=some (.cells cur 102 (0,0)):=zW w _
        have r1:=yl w.heap.size _ (0,0) vs (i*4) cur _ w1 (by rw[hcs,hvl];omega)
        rw[r1]
        have hs1:(setAt cur.toList (i*4) vs).length=G*4:=by rw[zL _ _ _ (by simp only[Array.length_toList,hcs,hvl];omega)];simpa using hcs
        have w2:((w.alloc (.cells cur 102)).drew.setRow w.heap.size (setAt cur.toList (i*4) vs).toArray).drew.heap[w.heap.size]?=some (.cells (setAt cur.toList (i*4) vs).toArray 102 (0,0)):=setRow_heap _ _ cur _ _ _ w1
        have hdl:(us.drop (i*4)).length=(rows.length - i)*4:=by rw[List.length_drop,hu2];omega
        have r2:=yl w.heap.size _ (0,0) (us.drop (i*4)) ((i+1)*4) _ _ w2 (by simp only[List.size_toArray,hs1,hdl];omega)
        rw[r2]
        have hs2:(setAt (setAt cur.toList (i*4) vs) ((i+1)*4) (us.drop (i*4))).length=G*4:=by rw[zL _ _ _ (by rw[hs1,hdl];omega)];exact hs1
        refine done he (setRow_heap _ _ _ _ _ _ w2) (fun i _=>by simp) (by simp only[List.size_toArray,hs2];omega) (by omega) (by omega) (fun j c hj=>?_) (.inl (Nat.le_refl _)) (fun k hk _=>?_) ?_ rfl rfl rfl
        ·simp only[List.getElem?_toArray,Nat.zero_add]
         rw[yb _ _ _ _ (by rw[hs1];omega),yb _ _ _ _ (by simp only[Array.length_toList,hcs];omega)]
         simp only[hvl,hdl]
         rcases zgc (by omega) hj with⟨k1,k2⟩|⟨k0,k1,k2⟩|⟨k1,k2⟩
         ·rw[if_pos (by omega),if_pos k1];rw[←hcl j k1]at k2;simpa using k2
         ·rw[if_pos (by omega),if_neg (by omega),if_pos (by omega)];exact k2
         ·have:=(List.getElem?_eq_some_iff.1 k2).1
          rw[hvl]at k2 k1 this
          rw[hu2]at this
          rw[if_neg (by omega),if_pos (by omega),List.getElem?_drop,show i*4+(j - (i+1)*4)=j - 4 by omega];exact k2
        ·rw[setRow_other _ _ _ _ (by omega)]
         show((w.alloc (.cells cur 102)).drew.setRow w.heap.size (setAt cur.toList (i*4) vs).toArray).heap[k]?=_
         rw[setRow_other _ _ _ _ (by omega)]
         exact yf w _ k hk
        ·simp[World.setRow]
   · -- room
     rcases e3 with⟨_,h⟩|⟨b,o,cs,el,fz,rfl,h6,h6',h7,h8⟩
     ·omega
     ·have hob:blk (ρ 0)=some b:=by rw[e0];rfl
      have hvb:vb≠b:=fun h=>hT.dis 0 1 _ _ b rfl rfl (by decide) (by rw[e0];rfl) (by rw[hb1,h];rfl)
      have hsp: ∀j,j<cap*4→(w.cell? ⟨b,o+j,none⟩).isSome=true:=fun j hj=>by
       simp[World.cell?,h6];omega
      have hfz: ∀j,j<cap*4→w.frozen? ⟨b,o+j,none⟩=false:=fun j hj=>by
       simp only[World.frozen?,h6];exact h6' _ (by omega)
      have hcl:=hu4 b o cs el fz rfl h6
      rcases Nat.eq_or_lt_of_le hi with rfl|hil2
      ·have hrun: ∀ty,(Builtin.append_ #[84,84] ty #[.slice (some ⟨b,o,none⟩) rows.length cap,.slice (some ⟨vb,0,none⟩) 1 c2]).run Tryz.prog w= .ok (.slice (some ⟨b,o,none⟩) (rows.length+1) cap) (w.setCells b (o+rows.length*i0.size) vs):=fun ty=>
        run_append_room_cells w 84 ty 102 i0 Tryz.underlying84 hi0 b o rows.length cap ⟨vb,0,none⟩ 1 c2 vs (by rw[hvl,hzs]) (fun j u hj=>by rw[Addr.add_lit,Nat.zero_add];exact hvs j u hj) h1v hge (fun j hj=>by rw[Nat.add_assoc];exact hsp _ (by rw[hzs];omega)) (fun j hj=>by rw[Nat.add_assoc];exact hfz _ (by rw[hzs];omega))
       rw[hzs]at hrun
       refine(zhb (some ⟨b,o,none⟩) rows.length cap vb c2 _ w _ e1 e2 hrun).mono ?_
       rintro e w' ⟨he,rfl⟩
       have r1:=yl b _ fz vs (o+rows.length*4) cs w h6 (by rw[hvl];omega)
       rw[r1]
       have hs1:(setAt cs.toList (o+rows.length*4) vs).length=cs.size:=by rw[zL _ _ _ (by simp only[Array.length_toList,hvl];omega)];simp
       refine done he (setRow_heap w b cs _ _ _ h6) (by simp only[List.size_toArray,hs1];exact h6') (by simp only[List.size_toArray,hs1];exact h7) hge e2 (fun j c hj=>?_) (.inr hob) (fun k hk hne=>setRow_other w b k _ (fun e=>hne (by rw[hob,e]))) (by simp[World.setRow]) rfl rfl rfl
       simp only[List.getElem?_toArray]
       rw[yb _ _ _ _ (by simp only[Array.length_toList];omega)]
       simp only[hvl]
       rcases zgc (by omega) hj with⟨k1,k2⟩|⟨k0,k1,k2⟩|⟨k1,k2⟩
       ·rw[if_pos (by omega)];simpa using hcl j c k2
       ·rw[hvl]at k1
        rw[if_neg (by omega),if_pos (by omega),show o+j - (o+rows.length*4)=j - rows.length*4 by omega];exact k2
       ·have:=(List.getElem?_eq_some_iff.1 k2).1
        omega
      ·refine(zir b o rows.length cap i vb c2 us vs w hil2 hge e2 hvb hu2 hvl (fun j v hj=>by simp[World.cell?,h6,hcl j v hj]) (fun j hj=>hsp j (by omega)) (fun j hj=>hfz j (by omega)) hvs h1u h1v el2 el 4 cs.size
        (by simp[World.shape?,f2,hvl]) (by simp[World.shape?,h6]) (by omega) (by simp[World.frozen?,f2]) (by simp[World.frozen?,f2])).mono ?_
       rintro e w' ⟨he,rfl⟩
       have hdl:(us.drop (i*4)).length=(rows.length - i)*4:=by rw[List.length_drop,hu2];omega
       have w1:w.drew.heap[b]?=some (.cells cs el fz):=h6
       have r1:=yl b _ fz (us.drop (i*4)) (o+(i+1)*4) cs _ w1 (by rw[hdl];omega)
       rw[r1]
       have hs1:(setAt cs.toList (o+(i+1)*4) (us.drop (i*4))).length=cs.size:=by rw[zL _ _ _ (by have hcz:cs.toList.length=cs.size:=Array.length_toList;rw[hdl,hcz];omega)];simp
       have w2:=setRow_heap w.drew b cs (setAt cs.toList (o+(i+1)*4) (us.drop (i*4))).toArray _ _ w1
       have r2:=yl b _ fz vs (o+i*4) _ _ w2 (by simp only[List.size_toArray,hs1,hvl];omega)
       rw[r2]
       have hs2:(setAt (setAt cs.toList (o+(i+1)*4) (us.drop (i*4))) (o+i*4) vs).length=cs.size:=by rw[zL _ _ _ (by rw[hs1,hvl];omega)];exact hs1
       refine done he (setRow_heap _ b _ _ _ _ w2) (by simp only[List.size_toArray,hs2];exact h6') (by simp only[List.size_toArray,hs2];exact h7) hge e2 (fun j c hj=>?_) (.inr hob) (fun k hk hne=>?_) (by simp[World.setRow]) rfl rfl rfl
       ·simp only[List.getElem?_toArray]
        rw[yb _ _ _ _ (by rw[hs1];omega),yb _ _ _ _ (by simp only[Array.length_toList];omega)]
        simp only[hvl,hdl]
        rcases zgc (by omega) hj with⟨k1,k2⟩|⟨k0,k1,k2⟩|⟨k1,k2⟩
        ·rw[if_pos (by omega),if_pos (by omega)];simpa using hcl j c k2
        ·rw[hvl]at k1
         rw[if_neg (by omega),if_pos (by omega),show o+j - (o+i*4)=j - i*4 by omega];exact k2
        ·have:=(List.getElem?_eq_some_iff.1 k2).1
         rw[hvl]at k2 k1 this
         rw[hu2]at this
         rw[if_neg (by omega),if_neg (by omega),if_neg (by omega),if_pos (by omega),List.getElem?_drop,show i*4+(o+j - (o+(i+1)*4))=j - 4 by omega];exact k2
       ·have hkb:k≠b:=fun e=>hne (by rw[hob,e])
        rw[setRow_other _ _ _ _ hkb,setRow_other _ _ _ _ hkb];rfl
 | [],hx=>simp[RepSs]at hx
 | [_],hx=>simp[RepSs]at hx
 | [_,_],hx=>simp[RepSs]at hx
 |_::_::_::_::_,hx=>simp[RepSs]at hx
end Hw.Fr
namespace Hw.Fr
open Go Go.Proofs Go.Shelf Go.RowKit Go.Lib Hw.M
set_option maxHeartbeats 4000000 in
set_option maxRecDepth 1000000 in
theorem znB(b off n c i:Nat)(xs:List Value)(w:World)(z:Value)(i0:TypeInfo)(hi0:Tryz.prog.info? 102=some i0)(hz1:i0.size=4)(hi:i<n)(hnc:n≤c)(hc63:c≤9223372036854775807)(hcl:xs.length=n*4)
 (v23: ∀w,(zeroValue 102).run Tryz.prog w= .ok z w) (hzc:z.cells.size=4) (hzo: ∀v∈z.cells.toList,v.oneCell'=true)
 (hcs: ∀(j:Nat) u,xs[j]?=some u→w.cell? ⟨b,off+j,none⟩=some u) (hfz: ∀j,j<n*4→w.frozen? ⟨b,off+j,none⟩=false) (h1c: ∀u∈xs,u.oneCell'=true):
 Calls Tryz.prog 60 #[.slice (some ⟨b,off,none⟩) n c,.int .i64 i,.int .i64 ((i+1:Nat):Int)] w fun e w'=>
  e= .returned (.slice (some ⟨b,off,none⟩) (n - 1) c)∧w'=(w.drew.setCells b (off+i*4) (xs.drop ((i+1)*4))).setCells b (off+(n - 1)*4) (Builtin.zeroCells z.cells 1).toList:=by
 obtain⟨zc,rfl⟩: ∃cs,z= .agg cs:=by cases z<;>first|exact⟨_,rfl⟩|(simp[Value.cells]at hzc)
 have mixed:Tryz.prog.follows .mixedOrders=true:=by kernel_rfl
 have t3:=Tryz.underlying3;have a3:=Tryz.isAgg3;have z3:=Tryz.sizeOf3;have v3:=Tryz.zeroValue3
 have t4:=Tryz.underlying4;have a4:=Tryz.isAgg4;have z4:=Tryz.sizeOf4;have v4:=Tryz.zeroValue4
 have t22:=Tryz.underlying84;have a22:=Tryz.isAgg84;have z22:=Tryz.sizeOf84;have v22:=Tryz.zeroValue84
 have zE:=Tryz.sizeOf102
 have u3:=run_underlying Tryz.underlying3;have u4:=run_underlying Tryz.underlying4;have u22:=run_underlying Tryz.underlying84
 obtain⟨news,hnews⟩: ∃news,news=xs.drop ((i+1)*4):=⟨_,rfl⟩
 have hlen:news.length=(n - (i+1))*4:=by rw[hnews,List.length_drop,hcl];omega
 have hsome: ∀j,j<n*4→(w.cell? ⟨b,off+j,none⟩).isSome=true:=fun j hj=>by rw[hcs j _ (List.getElem?_eq_getElem (by omega))];rfl
 obtain⟨A,hA,hsrc⟩: ∃A:Addr,(if c=i+1 then(some ⟨b,off,none⟩:Option Addr)else some ⟨b,off+(i+1)*4,none⟩)=some A∧Hid (∀(t:Nat) u,news[t]?=some u→w.drew.cell? (A.add t)=some u):=by
  by_cases h:c=i+1
  ·refine⟨⟨b,off,none⟩,by simp[h],fun t u hu=>?_⟩
   have h0:news.length=0:=by rw[hlen];omega
   rw[List.length_eq_zero_iff.1 h0]at hu
   simp at hu
  ·refine⟨⟨b,off+(i+1)*4,none⟩,by simp[h],fun t u hu=>?_⟩
   rw[hnews,List.getElem?_drop]at hu
   rw[Addr.add_lit,Nat.add_assoc]
   exact hcs _ u hu
 have s1:Hid (news.length=(n - (i+1))*4):=hlen
 have s2:Hid (∀u∈news,u.oneCell'=true):=fun u hu=>by rw[hnews]at hu;exact h1c u (List.mem_of_mem_drop hu)
 have s3:Hid (∀t,t<news.length→(w.drew.cell? ⟨b,off+i*4+t,none⟩).isSome=true∧w.drew.frozen? ⟨b,off+i*4+t,none⟩=false):=fun t ht=>by
  rw[hlen]at ht
  rw[Nat.add_assoc]
  exact⟨hsome _ (by omega),hfz _ (by omega)⟩
 obtain⟨W1,hW1⟩: ∃W1,W1=w.drew.setCells b (off+i*4) news:=⟨_,rfl⟩
 have hcz: ∀ty,(Builtin.clear_ #[84] ty #[.slice (some ⟨b,off+(i+(n - (i+1)))*4,none⟩) (n - (i+(n - (i+1)))) (c - (i+(n - (i+1))))]).run Tryz.prog W1= .ok (.tuple #[]) (W1.setCells b (off+(i+(n - (i+1)))*4) (Builtin.zeroCells (Value.agg zc).cells (n - (i+(n - (i+1))))).toList):=fun ty=>
  zaX W1 _ 102 ty (.agg zc) Tryz.underlying84 v23 4 hzc hzo b (off+(i+(n - (i+1)))*4) _ _ (by omega)
   (fun t ht=>by rw[hW1];exact isSome_setCells b news _ _ (fun j hj=>by rw[Nat.add_assoc];exact hsome _ (by omega)) _ (by rw[Nat.add_assoc];exact hsome _ (by omega)))
   (fun t ht=>by rw[hW1,World.frozen?_setCells,Nat.add_assoc];exact hfz _ (by omega))
 have hW:Hid (W1=w.drew.setCells b (off+i*4) news):=hW1
 have hN:Hid (news=xs.drop ((i+1)*4)):=hnews
 have hic:i≤c:=by omega
 have hjc:i+1≤c:=by omega
 have hij: ¬(i=i+1):=by omega
 have hb1:(0:Int)≤(i:Int)+1:=by omega
 have hb2:(i:Int)+1≤(n:Int):=by omega
 have htn:((i:Int)+1).toNat=i+1:=by omega
 clear hW1 hnews hlen hcs hfz hsome
 go_enter Tryz.func60,Tryz.ntmps60
 go_wp2_with fail
 go_region_law_o (refine step_append_room rfl (.tmp 22) (.tmp 25) 84 rfl 102 i0 4 Tryz.underlying84 hi0 hz1 b off i c (by simp[Act.eval,Act.put]) A (n - (i+1)) (c - (i+1)) news (by simp[Act.eval,Act.put]) s1.out hsrc.out s2.out (by omega) s3.out ?_;rw[←hW.out])
 go_wp2
 go_ret
 refine⟨by rw[show n - 1=i+(n - (i+1)) by omega];rfl,?_⟩
 rw[hW.out,hN.out,show i+(n - (i+1))=n - 1 by omega,show n - (n - 1)=1 by omega]
 rfl
end Hw.Fr
namespace Hw.Fr
open Go Go.Proofs Go.Shelf Go.RowKit Hw.M
theorem zqh{M:Mem}{ρ:Nat→Value}{rows:List (List PV)}{us:List Value}{e:Nat}(i:Nat)(hl: ∀r∈rows,r.length=e)(h:RepVs M ρ (rows.flatten.map V.p) us):
 RepVs M ρ ((rows.eraseIdx i).flatten.map V.p) (us.take (i*e)++us.drop ((i+1)*e)):=by
 rw[List.eraseIdx_eq_take_drop_succ,List.flatten_append,List.map_append,zaD i hl,zaE (i+1) hl,List.map_take,List.map_drop]
 exact(h.take _).append (h.drop _)
theorem zqi{us:List Value}{k m:Nat}(hk:k≤us.length){j:Nat}{c:Value}(hj:(us.take k++us.drop m)[j]?=some c):
 (j<k∧us[j]?=some c)∨(k≤j∧us[m+(j - k)]?=some c):=by
 have htl:(us.take k).length=k:=by rw[List.length_take];omega
 rcases Nat.lt_or_ge j k with h1|h1
 ·rw[List.getElem?_append_left (by omega),List.getElem?_take,if_pos h1]at hj
  exact .inl ⟨h1,hj⟩
 ·rw[List.getElem?_append_right (by omega),htl,List.getElem?_drop]at hj
  exact .inr ⟨h1,hj⟩
theorem zqj(rows:List (List PV))(i:Nat)(hi:i<rows.length):
 zj Tryz.prog 60 [.one (.ar 0),I i,I ((i+1:Nat):Int)] [(0,.arr 4 rows)] (.one (.ar 2)) [(2,.arr 4 (rows.eraseIdx i))]:=by
 have him:(rows.eraseIdx i).length=rows.length - 1:=by rw[List.length_eraseIdx,if_pos hi]
 obtain⟨i0,hi0,hzs,_,_⟩:=info_mo
 obtain⟨z,v23,hzc,hzo⟩: ∃z,(∀w,(zeroValue 102).run Tryz.prog w= .ok z w)∧z.cells.size=4∧ ∀v∈z.cells.toList,v.oneCell'=true:=
  ⟨_,Tryz.zeroValue102,rfl,by decide⟩
 refine⟨⟨_,Tryz.func60,by kernel_rfl,by kernel_rfl⟩,fun M ρ w xs hx hT hI hG=>?_⟩
 match xs,hx with
 | [x0,x1,x2],hx=>
   simp only[RepSs,RepS,RepV,RepPV]at hx
   obtain⟨⟨h00,_⟩,⟨rfl,_⟩,⟨rfl,_⟩,_⟩:=hx
   subst h00
   obtain⟨ad,cap,e0,e1,e2,e3⟩:=hT.res 0 _ rfl
   have hR:tg (tb [(0,Res.arr 4 rows)]) 0=some (.arr 4 rows):=rfl
   have hid:2∉RL.ids [(0,Res.arr 4 rows)]:=by simp[RL.ids]
   rcases e3 with⟨_,h⟩|⟨b,o,cs,el,fz,rfl,h6,h6',h7,h8⟩
   ·omega
   obtain⟨us,hu1,hu2,hu4⟩:=h8.cells (ρ:=ρ)
   have hu3:=h8.len
   rw[e0]
   have hob:blk (ρ 0)=some b:=by rw[e0];rfl
   refine(znB b o rows.length cap i us w z i0 hi0 hzs hi e1 e2 hu2 v23 hzc hzo (fun j v hj=>by simp[World.cell?,h6,hu4 j v hj]) (fun j hj=>by simp only[World.frozen?,h6];exact h6' _ (by omega)) hu1.one).mono ?_
   rintro e w' ⟨he,rfl⟩
   have hdl:(us.drop ((i+1)*4)).length=(rows.length - (i+1))*4:=by rw[List.length_drop,hu2];omega
   have hzl:(Builtin.zeroCells z.cells 1).toList.length=4:=by simp[Builtin.zeroCells,hzc]
   have w1:w.drew.heap[b]?=some (.cells cs el fz):=h6
   have r1:=yl b _ fz (us.drop ((i+1)*4)) (o+i*4) cs _ w1 (by rw[hdl];omega)
   rw[r1]
   have hcz:cs.toList.length=cs.size:=Array.length_toList
   have hs1:(setAt cs.toList (o+i*4) (us.drop ((i+1)*4))).length=cs.size:=by rw[zL _ _ _ (by rw[hdl,hcz];omega)];simp
   have w2:=setRow_heap w.drew b cs (setAt cs.toList (o+i*4) (us.drop ((i+1)*4))).toArray _ _ w1
   have r2:=yl b _ fz (Builtin.zeroCells z.cells 1).toList (o+(rows.length - 1)*4) _ _ w2 (by simp only[List.size_toArray,hs1,hzl];omega)
   rw[r2]
   have hs2:(setAt (setAt cs.toList (o+i*4) (us.drop ((i+1)*4))) (o+(rows.length - 1)*4) (Builtin.zeroCells z.cells 1).toList).length=cs.size:=by rw[zL _ _ _ (by rw[hs1,hzl];omega)];exact hs1
   have hrl: ∀r∈rows.eraseIdx i,r.length=4:=fun r hr=>hu3 r (List.mem_of_mem_eraseIdx hr)
   have hB:=setRow_heap _ b _ (setAt (setAt cs.toList (o+i*4) (us.drop ((i+1)*4))) (o+(rows.length - 1)*4) (Builtin.zeroCells z.cells 1).toList).toArray _ _ w2
   have:=ziT (rows:=rows.eraseIdx i) (B:=b) (o:=o) (cap:=cap) (e:=4) hR hT hI hid hB (by simp only[List.size_toArray,hs2];exact h6') (by simp only[List.size_toArray,hs2];exact h7) (by rw[him];omega) e2
    (RowsIn.yA hrl (zqh i hu3 hu1) fun j c hj=>by
      have hjl:=(List.getElem?_eq_some_iff.1 hj).1
      simp only[List.length_append,List.length_take,hdl,hu2]at hjl
      simp only[List.getElem?_toArray]
      rw[yb _ _ _ _ (by rw[hs1];omega),if_pos (by omega),yb _ _ _ _ (by rw[hcz];omega)]
      simp only[hdl]
      rcases zqi (by omega) hj with⟨k1,k2⟩|⟨k1,k2⟩
      ·rw[if_pos (by omega)];simpa using hu4 j c k2
      ·rw[if_neg (by omega),if_pos (by omega),List.getElem?_drop,show(i+1)*4+(o+j - (o+i*4))=(i+1)*4+(j - i*4) by omega];exact k2)
    (.inr (by rw[e0];rfl)) (fun k hk hne=>by
      have hkb:k≠b:=fun e=>hne (by rw[e0,e];rfl)
      rw[setRow_other _ _ _ _ hkb,setRow_other _ _ _ _ hkb];rfl) (by simp[World.setRow]) rfl rfl rfl
   rw[him]at this
   exact⟨_,_,_,he,this⟩
 | [],hx=>simp[RepSs]at hx
 | [_],hx=>simp[RepSs]at hx
 | [_,_],hx=>simp[RepSs]at hx
 |_::_::_::_::_,hx=>simp[RepSs]at hx
end Hw.Fr
namespace Hw.Fr
open Go Go.Proofs Go.Shelf Hw.M Md
theorem zbg{sn:Str}{x:Str×Str×Int}(h:zb9 sn=some x):zj Tryz.prog 12 [Sr sn] [] (.tup [.one (.bx 0 0),I 0]) (tlR sn x.2.2 0 [] [] []):=by
 have hK:=znr sn
 unfold zr4 at hK
 rw[h]at hK
 simp only[Option.isSome_some,Option.getD_some,if_true]at hK
 refine gO T Tryz.func12 fun C hC=>?_
 repeat' first|refine gG ?_|(exfalso;simp at h;done)|refine gB (fun h=>?_) (fun h=>?_)|refine gC hK ?_
 refine yo hC rfl 111 4 rfl [] trivial [(1017,[.p (ks sn),.p (ki x.2.2),.ar 111,.p (.k (.slice none 0 0)),.p (ki 0)])] ⟨⟨_,rfl,by decide,.cons (.refl _) (.cons (.refl _) (.cons .nil (.cons (.refl _) (.cons (.refl _) .nil))))⟩,trivial⟩ ?_
 refine yo hC rfl 112 1 rfl [] trivial [(1017,[.p (ks sn),.p (ki x.2.2),.ar 111,.ar 112,.p (ki 0)])] ⟨⟨_,rfl,by decide,.cons (.refl _) (.cons (.refl _) (.cons (.refl _) (.cons .nil (.cons (.refl _) .nil))))⟩,trivial⟩ ?_
 exact zg ⟨.inl rfl,nm [1017,111,112],_,rfl,.refl _,⟨rfl,rfl,rfl,trivial⟩,rfl,rfl⟩
def zsT(k c:Int):Bool:=match(yL k)[(c - 1).toNat]? with
 |some w=>w.2.2
 |none=>false
noncomputable def zb3(sn:Str)(k:Int)(o:OpT)(u:Bool):Int:=if okOp k o=true then(if zsT k o.code=u then zk0 sn o else 30)else 1
theorem zac(sn:Str)(k r:Int)(ms:List Mt)(fl:List Bool)(ps:List Rws)(o:OpT)(u:Bool):
 zj Tryz.prog 48 [.one (.bx 0 0),zz (opR o),Bo u] (tlR sn k r ms fl ps) (I (zb3 sn k o u)) (tlR sn k r ms fl ps):=by
 have hV:=wQ k o
 unfold zb3
 by_cases ho:okOp k o=true
 rotate_left
 ·rw[if_neg ho]
  rw[Bool.not_eq_true]at ho
  rw[ho]at hV
  refine gO T Tryz.func48 fun C hC=>?_
  repeat' first|refine gG ?_|(exfalso;simp at h;done)|refine gB (fun h=>?_) (fun h=>?_)|refine gC hV ?_
  exact zg ⟨.inl rfl,id,_,rfl,.refl _,⟨rfl,rfl,rfl,trivial⟩,rfl,rfl⟩
 rw[if_pos ho]
 rw[ho]at hV
 obtain⟨hk,hc,⟨w,hw⟩,_,_⟩:=jd ho
 have hU:=zfV hk hc hw
 have hu:zsT k o.code=w.2.2:=by unfold zsT;rw[hw]
 rw[hu]
 obtain⟨a,b,hB⟩:=ze sn o
 refine gO T Tryz.func48 fun C hC=>?_
 repeat' first|refine gG ?_|(exfalso;simp at h;done)|refine gB (fun h=>?_) (fun h=>?_)|refine gC hV ?_|refine gC hU ?_|refine gC hB ?_|(refine zqd rfl 29 rfl (LeS.qb (b':=u) rfl) ?_;refine zqk hC rfl rfl (by kernel_rfl) rfl rfl ?_)
 ·have hn: ¬w.2.2=u:=by simpa using h
  rw[if_neg hn]
  exact zg ⟨.inl rfl,id,_,rfl,.refl _,⟨rfl,rfl,rfl,trivial⟩,rfl,rfl⟩
 ·have hn:w.2.2=u:=by simpa using h
  rw[if_pos hn]
  exact zg ⟨.inl rfl,id,_,rfl,.refl _,⟨rfl,rfl,rfl,trivial⟩,rfl,rfl⟩
end Hw.Fr
namespace Hw.Fr
open Go Go.Proofs Go.Shelf Hw.M Md
theorem zsb{i:Nat}(h:i≤1000):IntKind.i64.wrap ((i:Int).tdiv 16)=((i / 16:Nat):Int):=by
 have e:(i:Int).tdiv 16=((i / 16:Nat):Int):=by
  rw[Int.tdiv_eq_ediv_of_nonneg (by omega)];omega
 rw[e]
 exact wrap64 (by omega)
theorem zeK(sn:Str){k r:Int}{ms:List Mt}(fl:List Bool){ps:List Rws}{i:Nat}(hk:1≤k∧k≤6)(hi:i≤1000)(hpl:ps.length≤1000)(hps: ∀(j:Nat) R,ps[j]?=some R→j<i / 16→R=stO k [] (ms.take (16*(j+1)))):
 zj Tryz.prog 81 [.one (.bx 0 0),I i] (tlR sn k r ms fl ps) (.tup [zz (stR k (stO k [] (ms.take (16*min (i / 16) ps.length)))),I ((16*min (i / 16) ps.length:Nat):Int)]) (tlR sn k r ms fl ps):=by
 have hq:=zsb hi
 have hl:(jM k ps).length=ps.length:=List.length_map _
 have hmn:(if(((jM k ps).length:Nat):Int)<((i / 16:Nat):Int)then(((jM k ps).length:Nat):Int)else((i / 16:Nat):Int))=((min (i / 16) ps.length:Nat):Int):=by
  rw[hl];split<;>omega
 have hNw:=zov hk
 generalize hm:min (i / 16) ps.length=m at*
 cases m with
 |zero=>
  rw[Nat.mul_zero,List.take_zero]
  refine gO T Tryz.func81 fun C hC=>?_
  repeat' first|refine gG ?_|(exfalso;simp at h;done)|refine gB (fun h=>?_) (fun h=>?_)|(refine zoP hC rfl rfl (by decide) rfl rfl ?_;rw[hq])|refine zox hC _ rfl rfl hmn rfl rfl ?_|refine gC hNw ?_
  exact zg ⟨.inl rfl,id,_,rfl,.refl _,⟨rfl,rfl,rfl,trivial⟩,rfl,rfl⟩
 |succ q=>
  obtain⟨R,hR⟩:=zf (l:=ps) (i:=q) (by omega)
  have hRe:=hps q R hR (by omega)
  rw[←hRe]
  have hw:IntKind.i64.wrap (((q+1:Nat):Int) - 1)=(q:Int):=by rw[show((q+1:Nat):Int) - 1=(q:Int) by omega];exact wrap64 (by omega)
  have hw2:IntKind.i64.wrap (((q+1:Nat):Int)*16)=((16*(q+1):Nat):Int):=by rw[show((q+1:Nat):Int)*16=((16*(q+1):Nat):Int) by omega];exact wrap64 (by omega)
  have hrow:(jM k ps)[q]?=some [.pr (stR k R)]:=by unfold jM;rw[List.getElem?_map,hR];rfl
  refine gO T Tryz.func81 fun C hC=>?_
  repeat' first|refine gG ?_|(exfalso;have h2:=of_decide_eq_true h;omega)|refine gB (fun h=>?_) (fun h=>?_)|(refine zoP hC rfl rfl (by decide) rfl rfl ?_;rw[hq])|refine zox hC _ rfl rfl hmn rfl rfl ?_|(rw[hw];refine zeL T hC (rows:=jM k ps) rfl rfl rfl rfl (Int.natCast_nonneg _) (by rw[hl];omega) rfl rfl ?_)|(refine zaF T hC q 0 (rows:=jM k ps) (row:=[.pr (stR k R)]) rfl rfl rfl (by simp) hrow rfl rfl rfl ?_;refine zsa hC rfl rfl rfl ?_)|(rw[hw2])
  exact zg ⟨.inl rfl,id,_,rfl,.refl _,⟨rfl,rfl,rfl,trivial⟩,rfl,rfl⟩
end Hw.Fr
namespace Hw.Fr
open Go Go.Proofs Go.Shelf Hw.M Md
abbrev tlX(a b:Nat)(sn:Str)(k r:Int)(ms:List Mt)(fl:List Bool)(ps:List Rws):RL:=[(0,.box [.p (ks sn),.p (ki k),.ar a,.ar b,.p (ki r)]),(a,.arr 4 (yD ms fl)),(b,.arr 1 (jM k ps))]
theorem znC{ms:List Mt}{fl:List Bool}{q:Nat}{m:Mt}{b:Bool}(hf:fl.length=ms.length)(hm:ms[q]?=some m):(yD ms fl).set q (zin m b)=yD ms (fl.set q b):=by
 have hlt:=(List.getElem?_eq_some_iff.1 hm).1
 apply List.ext_getElem?
 intro j
 unfold yD
 rw[List.getElem?_set,List.getElem?_zipWith,List.getElem?_zipWith,List.getElem?_set]
 by_cases e:q=j
 ·subst e
  rw[if_pos rfl,if_pos rfl,if_pos (by rw[List.length_zipWith,hf];omega),if_pos (by omega),hm]
 ·rw[if_neg e,if_neg e]
theorem zql{F fl:List Bool}{q:Nat}{b:Bool}(hF:F[q]?=some b)(hl:fl.length=F.length):(F.take q++fl.drop q).set q b=F.take (q+1)++fl.drop (q+1):=by
 have hq:=(List.getElem?_eq_some_iff.1 hF).1
 have htl:(F.take q).length=q:=by rw[List.length_take];omega
 rw[List.drop_eq_getElem_cons (show q<fl.length by omega),List.set_append_right _ _ (by omega),htl,Nat.sub_self,List.set_cons_zero,List.take_add_one,hF,Option.toList_some,List.append_assoc]
 rfl
theorem zqm{F fl:List Bool}{q:Nat}(hl:fl.length=F.length)(hq:q≤F.length):(F.take q++fl.drop q).length=F.length:=by
 rw[List.length_append,List.length_take,List.length_drop];omega
theorem zqn(k:Int)(a b:List Rws):jM k (a++b)=jM k a++jM k b:=List.map_append
theorem zhc(sn:Str){k r:Int}{ms:List Mt}{fl:List Bool}{ps:List Rws}{i:Nat}(hk:TLk k ms)(hf:fl.length=ms.length)(hi:i≤ms.length)(hpl:ps.length≤1000)
 (hps: ∀(j:Nat) R,ps[j]?=some R→j<i / 16→R=stO k [] (ms.take (16*(j+1)))) (hfl:fl.take (16*min (i / 16) ps.length)=(flO k [] ms).take (16*min (i / 16) ps.length)):
 zj Tryz.prog 53 [.one (.bx 0 0),I i] (tlR sn k r ms fl ps) (.tup []) (tlX 1 4 sn k (((ms.length - 16*min (i / 16) ps.length:Nat)):Int) ms (flO k [] ms) (ptO k ms)):=by
 have hlen:=hk.len
 have hS:=zeK sn (r:=r) (ms:=ms) fl (ps:=ps) (i:=i) hk.k6 (by omega) hpl hps
 have hFl:(flO k [] ms).length=ms.length:=xi k ms []
 have hat:16*min (i / 16) ps.length≤i:=by omega
 have hdiv:16*min (i / 16) ps.length / 16=min (i / 16) ps.length:=by omega
 have htk:(jM k ps).take (((16*min (i / 16) ps.length / 16:Nat):Int)).toNat=jM k (ptO k (ms.take (16*min (i / 16) ps.length))):=by
  have e:ps.take (min (i / 16) ps.length)=ptO k (ms.take (16*min (i / 16) ps.length)):=by
   apply List.ext_getElem?
   intro j
   rw[List.getElem?_take]
   split
   ·rename_i hj
    obtain⟨R,hR⟩:=zf (l:=ps) (i:=j) (by omega)
    rw[hR,hps j R hR (by omega),zkR (by rw[List.length_take];omega),List.take_take,Nat.min_eq_left (by omega)]
   ·rw[List.getElem?_eq_none]
    rw[zaA,List.length_take];omega
  rw[hdiv]
  show(jM k ps).take (min (i / 16) ps.length)=_
  unfold jM
  rw[←List.map_take,e]
 have hpsl:(jM k ps).length=ps.length:=List.length_map _
 have htk':True:=trivial
 have hfe:(flO k [] ms).take (16*min (i / 16) ps.length)++fl.drop (16*min (i / 16) ps.length)=fl:=by rw[←hfl,List.take_append_drop]
 generalize hA:16*min (i / 16) ps.length=A at*
 have hq2:=zsb (i:=A) (by omega)
 have hsub:IntKind.i64.wrap (((ms.length:Nat):Int) - (A:Int))=((ms.length - A:Nat):Int):=by rw[show((ms.length:Nat):Int) - (A:Int)=((ms.length - A:Nat):Int) by omega];exact wrap64 (by omega)
 obtain⟨g,hgl,rfl⟩: ∃g,g.length=(flO k [] ms).length∧fl=(flO k [] ms).take A++g.drop A:=⟨fl,by omega,hfe.symm⟩
 clear hfe hfl hps htk'
 refine gO T Tryz.func53 fun C hC=>?_
 repeat' first|refine gG ?_|refine gB (fun h=>?_) (fun h=>?_)|refine gR hS (nm [0,1,2]) ?_|(refine zoP hC rfl rfl (by decide) rfl rfl ?_;rw[hq2])|refine zqc T 121 hC rfl rfl rfl rfl (Int.natCast_nonneg _) (by rw[hpsl];omega) htk rfl rfl rfl ?_|(rw[xB hf,hsub])
 refine zy (fun q:Nat=>A≤q∧q≤ms.length) (fun q=>([(0,.one (.bx 0 0)),(4,.one (.bx 1004 0)),(6,I q)],
  [(0,some (Res.box [.p (ks sn),.p (ki k),.ar 1,.ar 102,.p (ki ((ms.length - A:Nat):Int))])),(1,some (.arr 4 (yD ms ((flO k [] ms).take q++g.drop q)))),(102,some (.arr 1 (jM k (ptO k (ms.take q))))),(1004,some (Res.box [.p (ki k),.p (z8 (stO k [] (ms.take q)))]))])) (fun q=>ms.length - q) hC
  A ⟨Nat.le_refl _,by omega⟩ (mvU 102 121) ⟨rfl,⟨rfl,rfl,rfl,trivial⟩,⟨rfl,rfl,rfl,rfl,trivial⟩,rfl,fun i hi=>yg (by omega) hi⟩ ?_
 rintro q ⟨hq1,hq⟩
 have hfq:=zqm (q:=q) hgl (by omega)
 refine zI T hC true 200 rfl ?_
 rw[xB (hfq.trans hFl)]
 refine zP rfl (fun h=>?_) (fun h=>?_)
 ·have hlt:q<ms.length:=by have:=of_decide_eq_true h;omega
  clear h
  obtain⟨m,hm⟩:=zf hlt
  have hv:zU k (stO k [] (ms.take q))=true:=vM hk.kind.2 (vN hk.k6) fun x hx=>hk.ok x (List.mem_of_mem_take hx)
  have hAp:=zaz k (stO k [] (ms.take q)) m.2 hv (hk.ok m (List.mem_of_getElem? hm)) hk.kind.2
  obtain⟨f,_,hrow⟩:=zaB (hfq.trans hFl) hm
  have hst:=zg9 (k:=k) hm
  have hfa:=zr1 (k:=k) hm
  have hpn:=znp (k:=k) hlt
  rw[hst]at hpn
  generalize xn k (stO k [] (ms.take q)) m.2=z at hAp hst hfa hpn
  obtain⟨R2,x⟩:=z
  simp only at hAp hst hfa hpn
  have hset: ∀b:Bool,(!decide (x.e=0))=b→(yD ms ((flO k [] ms).take q++g.drop q)).set q (setAt (zin m f) 3 [.k (.bool b)])=yD ms ((flO k [] ms).take (q+1)++g.drop (q+1)):=fun b hb=>by
   rw[hb]at hfa
   rw[←zql hfa hgl,←znC (hfq.trans hFl) hm];rfl
  have hrem:(IntKind.i64.wrap ((q:Int)+1)).tmod 16=(((q+1) % 16:Nat):Int):=by
   rw[wV (by omega),Int.tmod_eq_emod_of_nonneg (by omega)];omega
  have happ:decide ((((q+1) % 16:Nat):Int)=0)=true→jM k (ptO k (ms.take q))++[[.pr (stR k R2)]]=jM k (ptO k (ms.take (q+1))):=fun h=>by
   have:=of_decide_eq_true h
   rw[hpn,if_pos (by omega),zqn];rfl
  have hppl:(jM k (ptO k (ms.take q))).length≤140:=by
   rw[show(jM k (ptO k (ms.take q))).length=(ptO k (ms.take q)).length from List.length_map _,zaA,List.length_take];omega
  have hml:=xB (hfq.trans hFl)
  repeat' first|refine gG ?_|(exfalso;simp at h;done)|refine gB (fun h=>?_) (fun h=>?_)|refine zeL T hC (rows:=yD ms ((flO k [] ms).take q++g.drop q)) rfl rfl rfl rfl (Int.natCast_nonneg _) (by rw[hml];omega) rfl rfl ?_|refine zaF T hC q 1 (rows:=yD ms ((flO k [] ms).take q++g.drop q)) (row:=zin m f) rfl rfl rfl (by simp) hrow rfl rfl rfl ?_|refine gC hAp ?_|refine zhd T hC q 3 (rows:=yD ms ((flO k [] ms).take q++g.drop q)) (row:=zin m f) (us:=[.k (.bool true)]) (rows':=yD ms ((flO k [] ms).take (q+1)++g.drop (q+1))) rfl rfl rfl rfl rfl rfl (by simp) hrow (by decide) (hset true (by assumption)) rfl ?_|refine zhd T hC q 3 (rows:=yD ms ((flO k [] ms).take q++g.drop q)) (row:=zin m f) (us:=[.k (.bool false)]) (rows':=yD ms ((flO k [] ms).take (q+1)++g.drop (q+1))) rfl rfl rfl rfl rfl rfl (by simp) hrow (by decide) (hset false (by assumption)) rfl ?_|(refine zsV hC rfl rfl (by decide) rfl rfl ?_;rw[hrem])|(refine zk2 rfl (id:=1010) (stR k R2) rfl [(10,.one (.p (.pr (stR k R2))))] ⟨⟨_,rfl,FpS.bx⟩,trivial⟩ ?_)|refine ya T hC rfl rfl rfl rfl rfl rfl rfl rfl rfl ?_|refine zC T 122 hC (rows:=jM k (ptO k (ms.take q))) (rows2:=[[.pr (stR k R2)]]) (rows3:=jM k (ptO k (ms.take (q+1)))) (bytes:=8) rfl rfl rfl rfl (xj.sl (T.es_ok _ _ rfl)) (happ (by assumption)) rfl rfl rfl (by kernel_rfl) (by simp only[List.length_singleton];omega) (by simp only[List.length_singleton];omega) rfl rfl rfl ?_
  all_goals rw[wV (by omega)]
  all_goals first
   |(have h16:=of_decide_eq_true h
     refine zh (q+1) ⟨by omega,by omega⟩ (mvU 102 122) (by omega) ?_
     simp only[hst]
     exact⟨rfl,⟨rfl,rfl,rfl,trivial⟩,⟨rfl,rfl,rfl,rfl,trivial⟩,rfl,fun i hi=>yg (by omega) hi⟩)
   |(have h16:=of_decide_eq_false h
     rw[if_neg (by omega)]at hpn
     refine zh (q+1) ⟨by omega,by omega⟩ id (by omega) ?_
     simp only[hst,hpn]
     exact gM)
 ·have hge:q=ms.length:=by have:=of_decide_eq_false h;omega
  subst hge
  rw[List.take_length,show(flO k [] ms).take ms.length++g.drop ms.length=flO k [] ms by rw[←hFl,List.take_length,List.drop_of_length_le (by omega),List.append_nil]]
  repeat' first|refine gG ?_|refine gB (fun h=>?_) (fun h=>?_)|refine zp ?_
  exact zg ⟨.inr rfl,mvU 4 102,_,rfl,.refl _,⟨rfl,rfl,rfl,trivial⟩,rfl,rfl⟩
end Hw.Fr
/- The engine, part Ca: pointers held against nil. -/
namespace Hw
open Go
section
variable {P:Program} {d:Option Nat} {ty:TypeId} {ps:String} {af:Array Edge} {g:Option (Nat×Bool)} {x:Operand} {t t':TypeId}
theorem znD(w:World){te:TypeId}(hp:P.underlying t=some (.pointer te))(a:Option Addr):(binOp .eql t (.pointer a) (.pointer none)).run P w= .ok (.bool a.isNone) w:=by
 have h: ∀d:Nat,(Op.equalIn (d+1) t (.pointer a) (.pointer none)).run P w= .ok a.isNone w:=fun d=>by
  cases a<;>simp[Op.equalIn,run_underlying hp]
 simp only[binOp]
 simp[Op.equal,Op.maxDepth,h 9999]
def ptrB:S→Option Bool
 | .one (.bx _ _)=>some false
 | .one (.p (.k (.pointer none)))=>some true
 |_=>none
theorem zqo{C:Ctx}{st:St}{M:Mem}{ρ:Nat→Value}{a:Act}{w:World}{s:S}{b:Bool}{v:Value}(hH:Holds C st M ρ a w)(hs:ptrB s=some b)(hr:RepS M ρ s v): ∃q:Option Addr,v= .pointer q∧q.isNone=b:=by
 unfold ptrB at hs
 split at hs
 ·simp only[RepS,RepV]at hr
  obtain⟨b',_,h2⟩:=hr
  cases hs
  exact⟨_,h2,rfl⟩
 ·simp only[RepS,RepV,RepPV]at hr
  cases hs
  exact⟨_,hr.1,rfl⟩
 ·cases hs
theorem zsc{te:TypeId}{s:S}{b:Bool}(hx:okc x s)(hs:ptrB s=some b)(hp:P.underlying t=some (.pointer te)):
 Snd P ⟨d,.binOp .eql t x (.const (.pointer none)) t',ty,ps,af,g⟩ (rq x s) [] [] (Bo b) []:=
 zo fun C st M ρ a w hH h1 _=>by
  obtain⟨q,e1,rfl⟩:=zqo hH hs (hH.evS (zM hx h1))
  have hc:a.eval (.const (.pointer none))= .pointer none:=rfl
  have hg:(eqGuard .eql t x (.const (.pointer none)) (.pointer q) (.pointer none)).run P w= .ok () w:=by cases q<;>rfl
  exact⟨.bool q.isNone,by simp only[execOp,e1,hc,Sem.run_bind,hg,znD w hp,Result.andThen_ok,Sem.run_pure],by simp only[RepS,RepV,RepPV];exact⟨trivial,rfl⟩⟩
end
section
variable {P:Program} {C:Ctx} {k:List Frm} {n:Nat} {sl:zi} {tab:Tab} {Q:Exit→St→Prop} {all:Array Oper} {rest:List Oper}
theorem yI{d:Nat}{x:Operand}{t t' ty:TypeId}{ps:String}{af:Array Edge}{g0:Option (Nat×Bool)}{gs:zi}{md:Mode}(hC:C.low){te:TypeId}{s:S}{b:Bool}(hx:ev sl x=some s)(hs:ptrB s=some b)(hp:P.underlying t=some (.pointer te))(hm:metL all sl g0=some gs)(hd:Nat.blt d n=true)
 (g:Goal P C (.ops all rest (nx md ⟨some d,gs++rq x s,[],[],Bo b,[]⟩)) k n ((d,Bo b)::sl) tab Q):
 Goal P C (.ops all (⟨some d,.binOp .eql t x (.const (.pointer none)) t',ty,ps,af,g0⟩::rest) md) k n sl tab Q:=by
 have e1:=zX (st:=⟨n,sl,tab⟩) hx
 have:=zq hm (zsc (P:=P) (ty:=ty) (ps:=ps) (af:=af) (g:=g0) (d:=some d) (t':=t') e1.1 hs hp) (n:=n) (tab:=tab)
 exact yr (L:=⟨some d,gs++rq x s,[],[],Bo b,[]⟩) hC this.1 rfl ⟨by rw[zd];exact⟨this.2,e1.2⟩,trivial,rfl,hd⟩ g
end
end Hw
namespace Hw.Fr
open Go Go.Proofs Go.Shelf Hw.M Md
theorem vO{t:Int}: ∀ {ms:List Mt},(ms.Pairwise fun a b=>a.1<b.1)→(∀m∈ms.take (xo ms t),m.1<t)∧ ∀m∈ms.drop (xo ms t),t≤m.1
 | [],_=>⟨fun m h=>by simp at h,fun m h=>by simp at h⟩
 |a::l,h=>by
  obtain⟨ha,hl⟩:=List.pairwise_cons.1 h
  by_cases hat:a.1<t
  ·have e:xo (a::l) t=xo l t+1:=by simp[xo,List.takeWhile,hat]
   obtain⟨h1,h2⟩:=vO (t:=t) hl
   rw[e,List.take_succ_cons,List.drop_succ_cons]
   refine⟨fun m hm=>?_,h2⟩
   rcases List.mem_cons.1 hm with rfl|hm
   ·exact hat
   ·exact h1 m hm
  ·have e:xo (a::l) t=0:=by simp[xo,List.takeWhile,hat]
   rw[e,List.take_zero,List.drop_zero]
   refine⟨fun m hm=>(by cases hm),fun m hm=>?_⟩
   rcases List.mem_cons.1 hm with rfl|hm
   ·omega
   ·have:=ha m hm;omega
theorem zk3{ms:List Mt}{t:Int}(h:ms.Pairwise fun a b=>a.1<b.1)(hn:hasT ms t=false): ∀m∈ms.drop (xo ms t),t<m.1:=by
 intro m hm
 have h1:=(vO (t:=t) h).2
 unfold hasT at hn
 cases hd:ms.drop (xo ms t)with
 |nil=>rw[hd]at hm;cases hm
 |cons a l=>
  have h0:ms[xo ms t]?=some a:=by
   have:(ms.drop (xo ms t))[0]?=some a:=by rw[hd];rfl
   rwa [List.getElem?_drop,Nat.add_zero]at this
  rw[h0]at hn
  have hne:=of_decide_eq_false hn
  have hp:(a::l).Pairwise fun a b=>a.1<b.1:=by rw[←hd];exact h.sublist (List.drop_sublist ..)
  rw[hd]at hm h1
  have h2:=h1 a (List.mem_cons_self ..)
  rcases List.mem_cons.1 hm with rfl|hm
  ·omega
  ·have:=(List.pairwise_cons.1 hp).1 m hm;omega
theorem zqp{k:Int}{ms:List Mt}{t:Int}{o:OpT}(hk:TLk k ms)(h1:ms.length<140)(ht:wW t=true)(ho:okOp k o=true)(hn:hasT ms t=false):TLk k (jJ ms (xo ms t) (t,o)):=by
 have hlo:=(vO (t:=t) hk.asc).1
 have hhi:=zk3 hk.asc hn
 have hmem: ∀m∈jJ ms (xo ms t) (t,o),m∈ms∨m=(t,o):=fun m hm=>by
  simp only[jJ,List.mem_append,List.mem_cons]at hm
  rcases hm with h|h|h
  ·exact .inl (List.mem_of_mem_take h)
  ·exact .inr h
  ·exact .inl (List.mem_of_mem_drop h)
 refine⟨hk.kind,by rw[zbf (jI ms t)];omega,?_,fun m hm=>?_,fun m hm=>?_⟩
 ·unfold jJ
  refine List.pairwise_append.2 ⟨hk.asc.sublist (List.take_sublist ..),List.pairwise_cons.2 ⟨fun b hb=>hhi b hb,hk.asc.sublist (List.drop_sublist ..)⟩,fun a ha b hb=>?_⟩
  have h3:=hlo a ha
  rcases List.mem_cons.1 hb with rfl|hb
  ·exact h3
  ·have:=hhi b hb;omega
 ·rcases hmem m hm with h|rfl
  ·exact hk.tm m h
  ·exact y9.1 ht
 ·rcases hmem m hm with h|rfl
  ·exact hk.ok m h
  ·exact ho
theorem zeM{α:Type}{l:List α}{i n:Nat}{x:α}(hn:n≤i)(hi:i≤l.length):(jJ l i x).take n=l.take n:=by
 unfold jJ
 rw[List.take_append_of_le_length (by rw[List.length_take];omega),List.take_take,Nat.min_eq_left hn]
theorem znE{ms:List Mt}{fl:List Bool}{i:Nat}{m:Mt}{b:Bool}(hf:fl.length=ms.length):jJ (yD ms fl) i (zin m b)=yD (jJ ms i m) (jJ fl i b):=by
 unfold jJ yD
 rw[List.zipWith_append (by rw[List.length_take,List.length_take,hf]),List.zipWith_cons_cons,List.take_zipWith,List.drop_zipWith]
theorem zhe{k:Int}{ms ms':List Mt}{i:Nat}(h: ∀n,n≤i→ms'.take n=ms.take n):
 (∀(j:Nat) R,(ptO k ms)[j]?=some R→j<i / 16→R=stO k [] (ms'.take (16*(j+1))))∧ ∀n,n≤i→(flO k [] ms').take n=(flO k [] ms).take n:=by
 refine⟨fun j R hR hj=>?_,fun n hn=>by rw[zg8,zg8,h n hn]⟩
 have hlt:=(List.getElem?_eq_some_iff.1 hR).1
 rw[zaA]at hlt
 rw[zkR hlt]at hR
 rw[h _ (by omega)]
 exact(Option.some.inj hR).symm
theorem zbT(v:List Int)(hv:v.length≤1000000):zj Tryz.prog 52 [pS (zA v)] [] (pS (zA v)) []:=by
 refine gO T Tryz.func52 fun C hC=>?_
 have hl:(v.map zS).length=v.length:=List.length_map _
 repeat' first|refine gG ?_|refine gB (fun h=>?_) (fun h=>?_)
 refine zbG (rows:=v.map zS) (e:=1) (et:=3) rfl (by kernel_rfl) rfl (fun b hb=>?_)
 repeat' first|refine gG ?_|refine gB (fun h=>?_) (fun h=>?_)
 ·have hv0:v=[]:=List.map_eq_nil_iff.1 (hb h)
  subst hv0
  exact zg ⟨.inl rfl,id,_,rfl,LeS.one (.nil 1),trivial,rfl,rfl⟩
 ·refine zka T hC rfl rfl rfl rfl rfl ?_
  repeat' first|refine gG ?_|refine gB (fun h=>?_) (fun h=>?_)|refine zC T 102 hC (rows:=[]) (rows2:=v.map zS) (rows3:=v.map zS) (bytes:=8) rfl rfl rfl rfl (xj.sl (T.es_ok _ _ rfl)) rfl rfl rfl rfl (by kernel_rfl) (by simp only[List.length_nil,hl];omega) (by simp only[List.length_nil,hl];omega) rfl rfl rfl ?_
  refine zm rfl (id:=102) (e:=1) (rows:=v.map zS) rfl [(2,pS (zA v))] ⟨⟨_,rfl,FrS.ar⟩,trivial⟩ [] trivial ?_
  exact gF
abbrev tlC(sn:Str)(k r:Int)(ms:List Mt):RL:=tlR sn k r ms (flO k [] ms) (ptO k ms)
noncomputable def zbU(sn:Str)(k:Int)(ms:List Mt)(t:Int)(o:OpT):Int:=
 if zb3 sn k o true=0 then(if wW t=true then(if hasT ms t=true then 15 else if 140≤ms.length then 4 else 0)else 2)else zb3 sn k o true
theorem zdq(sn:Str){k:Int}(r:Int){ms:List Mt}(t:Int)(o:OpT)(hk:TLk k ms)(hn:zbU sn k ms t o≠0):
 zj Tryz.prog 17 [.one (.bx 0 0),I t,zz (opR o)] (tlC sn k r ms) (I (zbU sn k ms t o)) (tlC sn k r ms):=by
 have hCk:=zac sn k r ms (flO k [] ms) (ptO k ms) o true
 have hTm:=jc t
 have hml:=xB (xi k ms [])
 unfold zbU at hn⊢
 by_cases h0:zb3 sn k o true=0
 rotate_left
 ·rw[if_neg h0]
  generalize zb3 sn k o true=e at hCk h0
  refine gO T Tryz.func17 fun C hC=>?_
  repeat' first|refine gG ?_|(exfalso;simp at h;done)|(exfalso;exact h0 (by simpa using h))|refine gB (fun h=>?_) (fun h=>?_)|refine yI (te:=87) hC rfl rfl (by kernel_rfl) rfl rfl ?_|refine gR hCk (nm [0,1,2]) ?_
  exact zg ⟨.inl rfl,id,_,rfl,.refl _,⟨rfl,rfl,rfl,trivial⟩,rfl,rfl⟩
 rw[if_pos h0]at hn⊢
 rw[h0]at hCk
 by_cases h1:wW t=true
 rotate_left
 ·rw[if_neg h1]
  rw[Bool.not_eq_true]at h1
  rw[h1]at hTm
  refine gO T Tryz.func17 fun C hC=>?_
  repeat' first|refine gG ?_|(exfalso;simp at h;done)|refine gB (fun h=>?_) (fun h=>?_)|refine yI (te:=87) hC rfl rfl (by kernel_rfl) rfl rfl ?_|refine gR hCk (nm [0,1,2]) ?_|refine gC hTm ?_
  exact zg ⟨.inl rfl,id,_,rfl,.refl _,⟨rfl,rfl,rfl,trivial⟩,rfl,rfl⟩
 rw[if_pos h1]at hn⊢
 have hFd:=zbd (sn:=sn) (r:=r) (ps:=ptO k ms) (t:=t) hk (xi k ms []) (y9.1 h1)
 rw[h1]at hTm
 by_cases h2:hasT ms t=true
 ·rw[if_pos h2]
  rw[h2]at hFd
  refine gO T Tryz.func17 fun C hC=>?_
  repeat' first|refine gG ?_|(exfalso;simp at h;done)|refine gB (fun h=>?_) (fun h=>?_)|refine yI (te:=87) hC rfl rfl (by kernel_rfl) rfl rfl ?_|refine gR hCk (nm [0,1,2]) ?_|refine gC hTm ?_|refine gR hFd (nm [0,1,2]) ?_
  exact zg ⟨.inl rfl,id,_,rfl,.refl _,⟨rfl,rfl,rfl,trivial⟩,rfl,rfl⟩
 ·rw[if_neg h2]at hn⊢
  rw[Bool.not_eq_true]at h2
  rw[h2]at hFd
  have h3:140≤ms.length:=by
   rcases Nat.lt_or_ge ms.length 140 with h|h
   ·rw[if_neg (by omega)]at hn;exact absurd rfl hn
   ·exact h
  rw[if_pos h3]
  refine gO T Tryz.func17 fun C hC=>?_
  repeat' first|refine gG ?_|(exfalso;simp at h;done)|(exfalso;have h2:=of_decide_eq_false h;rw[hml]at h2;omega)|refine gB (fun h=>?_) (fun h=>?_)|refine yI (te:=87) hC rfl rfl (by kernel_rfl) rfl rfl ?_|refine gR hCk (nm [0,1,2]) ?_|refine gC hTm ?_|refine gR hFd (nm [0,1,2]) ?_
  exact zg ⟨.inl rfl,id,_,rfl,.refl _,⟨rfl,rfl,rfl,trivial⟩,rfl,rfl⟩
end Hw.Fr
namespace Hw.Fr
open Go Go.Proofs Go.Shelf Hw.M Md
theorem wY{sn:Str}{k:Int}{ms:List Mt}{t:Int}{o:OpT}(h:zbU sn k ms t o=0):zb3 sn k o true=0∧wW t=true∧hasT ms t=false∧ms.length<140:=by
 unfold zbU at h
 by_cases h0:zb3 sn k o true=0
 rotate_left
 ·rw[if_neg h0]at h;exact absurd h h0
 rw[if_pos h0]at h
 by_cases h1:wW t=true
 rotate_left
 ·rw[if_neg h1]at h;exact absurd h (by decide)
 rw[if_pos h1]at h
 by_cases h2:hasT ms t=true
 ·rw[if_pos h2]at h;exact absurd h (by decide)
 rw[if_neg h2]at h
 by_cases h3:140≤ms.length
 ·rw[if_pos h3]at h;exact absurd h (by decide)
 exact⟨h0,h1,by simpa using h2,by omega⟩
theorem zk4{sn:Str}{k:Int}{o:OpT}{u:Bool}(h:zb3 sn k o u=0):okOp k o=true:=by
 unfold zb3 at h
 by_cases ho:okOp k o=true
 ·exact ho
 ·rw[if_neg ho]at h;exact absurd h (by decide)
def jN(ms:List Mt)(t:Int)(o:OpT):List Mt:=jJ ms (xo ms t) (t,o)
theorem zaG{sn:Str}{k:Int}{ms:List Mt}{t:Int}{o:OpT}(hk:TLk k ms)(h:zbU sn k ms t o=0):TLk k (jN ms t o):=by
 obtain⟨h0,h1,h2,h3⟩:=wY h
 exact zqp hk h3 h1 (zk4 h0) h2
def zlZ(n i p:Nat):Int:=((n - 16*min (i / 16) p:Nat):Int)
theorem vt(sn:Str){k:Int}(r:Int){ms:List Mt}(t:Int)(o:OpT)(hk:TLk k ms)(hn:zbU sn k ms t o=0):
 zj Tryz.prog 17 [.one (.bx 0 0),I t,zz (opR o)] (tlC sn k r ms) (I 0) (tlX 3 4 sn k (zlZ (jN ms t o).length (xo ms t) (ptO k ms).length) (jN ms t o) (flO k [] (jN ms t o)) (ptO k (jN ms t o))):=by
 obtain⟨h0,h1,h2,h3⟩:=wY hn
 have hk':=zaG hk hn
 have hoa:o.args.length≤64:=(jd (zk4 h0)).2.2.2.1
 have hCk:=zac sn k r ms (flO k [] ms) (ptO k ms) o true
 have hTm:=jc t
 have hml:=xB (xi k ms [])
 have hFl:=xi k ms []
 have hFd:=zbd (sn:=sn) (r:=r) (ps:=ptO k ms) (t:=t) hk (xi k ms []) (y9.1 h1)
 have hCl:=zbT o.args (by omega)
 have hpos:=jI ms t
 have hIn:=zqg (yD ms (flO k [] ms)) (xo ms t) (ki t) (ki o.code) (zA o.args) (.k (.bool false)) (by rw[hml];exact hpos) (by rw[hml];omega)
 have hmi:jJ (yD ms (flO k [] ms)) (xo ms t) [ki t,ki o.code,zA o.args,.k (.bool false)]=yD (jN ms t o) (jJ (flO k [] ms) (xo ms t) false):=znE (m:=(t,o)) hFl
 rw[hmi]at hIn
 obtain⟨hp1,hp2⟩:=zhe (k:=k) (ms:=ms) (ms':=jN ms t o) (i:=xo ms t) fun n hn=>zeM hn hpos
 have hal:(jN ms t o).length=ms.length+1:=zbf hpos
 have hRe:=zhc sn (r:=r) (fl:=jJ (flO k [] ms) (xo ms t) false) (ps:=ptO k ms) (i:=xo ms t) hk' (by rw[zbf (by omega),hFl,hal]) (by omega) (by rw[zaA];omega) hp1
  (by rw[zeM (by omega) (by omega),hp2 _ (by omega)])
 rw[h0]at hCk
 rw[h1]at hTm
 rw[h2]at hFd
 generalize jN ms t o=ms' at hIn hRe⊢
 refine gO T Tryz.func17 fun C hC=>?_
 repeat' first|refine gG ?_|(exfalso;simp at h;done)|(exfalso;have h2:=of_decide_eq_true h;rw[hml]at h2;omega)|refine gB (fun h=>?_) (fun h=>?_)|refine yI (te:=87) hC rfl rfl (by kernel_rfl) rfl rfl ?_|refine gR hCk (nm [0,1,2]) ?_|refine gC hTm ?_|refine gR hFd (nm [0,1,2]) ?_|refine gC hCl ?_|refine zgi T hC rfl rfl rfl rfl rfl rfl rfl rfl rfl rfl rfl ?_|refine gR hIn (nm [1,1050,103]) ?_|refine gR hRe (nm [0,103,2,99,104]) ?_
 exact zg ⟨.inl rfl,nm [0,1,2,103,104],_,rfl,.refl _,⟨rfl,rfl,rfl,trivial⟩,rfl,rfl⟩
end Hw.Fr
namespace Hw.Fr
open Go Go.Proofs Go.Shelf Hw.M Md
def ju(ms:List Mt)(t:Int):Nat:=if hasT ms t=true then xo ms t+1 else xo ms t
theorem zk5(ms:List Mt)(t:Int):ju ms t≤ms.length:=by
 unfold ju
 split
 ·rename_i h
  unfold hasT at h
  split at h
  ·rename_i m hm;exact(List.getElem?_eq_some_iff.1 hm).1
  ·cases h
 ·exact jI ms t
noncomputable def stA(k:Int)(ms:List Mt)(t:Int):Rws:=stO k [] (ms.take (ju ms t))
theorem zoz(sn:Str){k:Int}(r:Int){ms:List Mt}{t:Int}(hk:TLk k ms)(ht:wW t=true):
 zj Tryz.prog 54 [.one (.bx 0 0),I t] (tlC sn k r ms) (zz (stR k (stA k ms t))) (tlC sn k (zlZ (ju ms t) (ju ms t) (ptO k ms).length) ms):=by
 have hFl:=xi k ms []
 have hml:=xB hFl
 have hlen:=hk.len
 have hpl:=zaA k ms
 have hFd:=zbd (sn:=sn) (r:=r) (ps:=ptO k ms) (t:=t) hk hFl (y9.1 ht)
 have hn:=zk5 ms t
 have hpos:=jI ms t
 have hS:=zeK sn (r:=r) (ms:=ms) (flO k [] ms) (ps:=ptO k ms) (i:=ju ms t) hk.k6 (by omega) (by omega) fun j R hR hj=>by
  have hlt:=(List.getElem?_eq_some_iff.1 hR).1
  rw[hpl]at hlt
  rw[zkR hlt]at hR
  exact(Option.some.inj hR).symm
 unfold stA zlZ
 have hA:16*min (ju ms t / 16) (ptO k ms).length≤ju ms t:=by omega
 generalize 16*min (ju ms t / 16) (ptO k ms).length=A at hS hA⊢
 have hc1:hasT ms t=true→IntKind.i64.wrap ((xo ms t:Int)+1)=(ju ms t:Int):=fun h=>by
  rw[wV (by omega)];unfold ju;rw[if_pos h]
 have hc0:hasT ms t=false→xo ms t=ju ms t:=fun h=>by unfold ju;rw[if_neg (by rw[h];decide)]
 generalize ju ms t=n at*
 have hsub:IntKind.i64.wrap ((n:Int) - (A:Int))=((n - A:Nat):Int):=by rw[show(n:Int) - (A:Int)=((n - A:Nat):Int) by omega];exact wrap64 (by omega)
 cases hh:hasT ms t
 all_goals rw[hh]at hFd
 any_goals rw[hc0 hh]at hFd
 all_goals
  refine gO T Tryz.func54 fun C hC=>?_
  repeat' first|refine gG ?_|(exfalso;simp at h;done)|refine gB (fun h=>?_) (fun h=>?_)|refine gR hFd (nm [0,1,2]) ?_|(rw[hc1 hh])|refine gR hS (nm [0,1,2]) ?_|(rw[hsub])|(refine zrT T hC rfl rfl rfl rfl rfl (Int.natCast_nonneg _) (by omega) (by rw[hml];omega) rfl rfl ?_;rw[show((A:Nat):Int).toNat*4=A*4 by rw[Int.toNat_natCast],show((n:Nat):Int).toNat - ((A:Nat):Int).toNat=n - A by rw[Int.toNat_natCast,Int.toNat_natCast]])|refine zoq T hC rfl rfl rfl rfl ?_
  refine zy (fun j:Nat=>j≤n - A) (fun j=>([(7,.one (.bx 1007 0)),(4,.one (.bx 1004 0)),(38,.one (.sv 1 (A*4) (n - A))),(39,I (n - A:Nat)),(40,I j)],[(0,some (Res.box [.p (ks sn),.p (ki k),.ar 1,.ar 2,.p (ki ((n - A:Nat):Int))])),(1,some (.arr 4 (yD ms (flO k [] ms)))),(2,some (.arr 1 (jM k (ptO k ms)))),(1007,some (Res.box [.p (ki k),.p (z8 (stO k [] (ms.take (A+j))))])),(1004,some (Res.box (zV [ZK.int .i64,ZK.slice])))])) (fun j=>n - A - j) hC
   0 (Nat.zero_le _) id gM ?_
  intro j hj
  refine zI T hC true 200 rfl ?_
  refine zP rfl (fun h=>?_) (fun h=>?_)
  ·have hlt:j<n - A:=by have:=of_decide_eq_true h;omega
   clear h
   obtain⟨m,hm⟩:=zf (l:=ms) (i:=A+j) (by omega)
   obtain⟨f,_,hrow⟩:=zaB hFl hm
   have hv:zU k (stO k [] (ms.take (A+j)))=true:=vM hk.kind.2 (vN hk.k6) fun x hx=>hk.ok x (List.mem_of_mem_take hx)
   have hAp:=zaz k (stO k [] (ms.take (A+j))) m.2 hv (hk.ok m (List.mem_of_getElem? hm)) hk.kind.2
   have hst:=zg9 (k:=k) hm
   repeat' first|refine gG ?_|(exfalso;simp at h;done)|refine gB (fun h=>?_) (fun h=>?_)|(refine zkj T hC rfl rfl rfl (Int.natCast_nonneg _) (by omega) rfl rfl ?_;rw[show A*4+((j:Nat):Int).toNat*4=(A+j)*4 by rw[Int.toNat_natCast];omega])|refine zaF T hC (A+j) 0 (rows:=yD ms (flO k [] ms)) (row:=zin m f) rfl rfl rfl (by simp) hrow rfl rfl rfl ?_|refine gC hAp ?_
   rw[wV (by omega)]
   refine zh (j+1) (by omega) id (by omega) ?_
   simp only[show A+(j+1)=A+j+1 from rfl,hst]
   exact gM
  ·have hge:A+j=n:=by have:=of_decide_eq_false h;omega
   rw[hge]
   repeat' first|refine gG ?_|refine gB (fun h=>?_) (fun h=>?_)|refine zp ?_
   exact zg ⟨.inl rfl,id,_,rfl,.refl _,⟨rfl,rfl,rfl,trivial⟩,rfl,rfl⟩
end Hw.Fr
namespace Hw.Fr
open Go Go.Proofs Go.Shelf Hw.M Md
noncomputable def zk6(sn:Str)(k t:Int)(o:OpT):Int:=if zb3 sn k o false=0 then(if wW t=true then 0 else 2)else zb3 sn k o false
theorem zqq(sn:Str){k:Int}(r:Int){ms:List Mt}(t:Int)(o:OpT)(hn:zk6 sn k t o≠0):
 zj Tryz.prog 31 [.one (.bx 0 0),I t,zz (opR o)] (tlC sn k r ms) (.tup [zz (rsR ⟨0,0⟩),I (zk6 sn k t o)]) (tlC sn k r ms):=by
 have hCk:=zac sn k r ms (flO k [] ms) (ptO k ms) o false
 have hTm:=jc t
 unfold zk6 at hn⊢
 by_cases h0:zb3 sn k o false=0
 rotate_left
 ·rw[if_neg h0]
  generalize zb3 sn k o false=e at hCk h0
  refine gO T Tryz.func31 fun C hC=>?_
  repeat' first|refine gG ?_|(exfalso;simp at h;done)|(exfalso;exact h0 (by simpa using h))|refine gB (fun h=>?_) (fun h=>?_)|refine yI (te:=87) hC rfl rfl (by kernel_rfl) rfl rfl ?_|refine gR hCk (nm [0,1,2]) ?_
  exact zg ⟨.inl rfl,id,_,rfl,.refl _,⟨rfl,rfl,rfl,trivial⟩,rfl,rfl⟩
 rw[if_pos h0]at hn⊢
 rw[h0]at hCk
 by_cases h1:wW t=true
 ·rw[if_pos h1]at hn;exact absurd rfl hn
 rw[if_neg h1]
 rw[Bool.not_eq_true]at h1
 rw[h1]at hTm
 refine gO T Tryz.func31 fun C hC=>?_
 repeat' first|refine gG ?_|(exfalso;simp at h;done)|refine gB (fun h=>?_) (fun h=>?_)|refine yI (te:=87) hC rfl rfl (by kernel_rfl) rfl rfl ?_|refine gR hCk (nm [0,1,2]) ?_|refine gC hTm ?_
 exact zg ⟨.inl rfl,id,_,rfl,.refl _,⟨rfl,rfl,rfl,trivial⟩,rfl,rfl⟩
theorem zis{sn:Str}{k t:Int}{o:OpT}(h:zk6 sn k t o=0):zb3 sn k o false=0∧wW t=true:=by
 unfold zk6 at h
 by_cases h0:zb3 sn k o false=0
 ·rw[if_pos h0]at h
  by_cases h1:wW t=true
  ·exact⟨h0,h1⟩
  ·rw[if_neg h1]at h;exact absurd h (by decide)
 ·rw[if_neg h0]at h;exact absurd h h0
theorem zdr(sn:Str){k:Int}(r:Int){ms:List Mt}(t:Int)(o:OpT)(hk:TLk k ms)(hn:zk6 sn k t o=0):
 zj Tryz.prog 31 [.one (.bx 0 0),I t,zz (opR o)] (tlC sn k r ms) (.tup [zz (rsR (xn k (stA k ms t) o).2),I 0]) (tlC sn k (zlZ (ju ms t) (ju ms t) (ptO k ms).length) ms):=by
 obtain⟨h0,h1⟩:=zis hn
 have hCk:=zac sn k r ms (flO k [] ms) (ptO k ms) o false
 have hTm:=jc t
 have hAt:=zoz sn r hk h1
 have hv:zU k (stA k ms t)=true:=vM hk.kind.2 (vN hk.k6) fun x hx=>hk.ok x (List.mem_of_mem_take hx)
 have hAp:=zaz k (stA k ms t) o hv (zk4 h0) hk.kind.2
 rw[h0]at hCk
 rw[h1]at hTm
 refine gO T Tryz.func31 fun C hC=>?_
 repeat' first|refine gG ?_|(exfalso;simp at h;done)|refine gB (fun h=>?_) (fun h=>?_)|refine yI (te:=87) hC rfl rfl (by kernel_rfl) rfl rfl ?_|refine gR hCk (nm [0,1,2]) ?_|refine gC hTm ?_|refine gR hAt (nm [0,1,2]) ?_|refine gC hAp ?_
 exact zg ⟨.inl rfl,id,_,rfl,.refl _,⟨rfl,rfl,rfl,trivial⟩,rfl,rfl⟩
theorem zk7(sn:Str)(k r:Int)(ms:List Mt):zj Tryz.prog 19 [.one (.bx 0 0)] (tlC sn k r ms) (I ms.length) (tlC sn k r ms):=by
 have hml:=xB (xi k ms [])
 refine gO T Tryz.func19 fun C hC=>?_
 repeat' first|refine gG ?_|refine gB (fun h=>?_) (fun h=>?_)|refine yI (te:=87) hC rfl rfl (by kernel_rfl) rfl rfl ?_
 rw[hml]
 exact zg ⟨.inl rfl,id,_,rfl,.refl _,⟨rfl,rfl,rfl,trivial⟩,rfl,rfl⟩
def failL:List Mt→List Bool→List Int
 |m::ms,true::fl=>m.1::failL ms fl
 |_::ms,false::fl=>failL ms fl
 |_,_=>[]
theorem zcA: ∀ {ms:List Mt} {fl:List Bool} {j:Nat} {m:Mt} {f:Bool},ms[j]?=some m→fl[j]?=some f→failL (ms.take (j+1)) (fl.take (j+1))=failL (ms.take j) (fl.take j)++(if f=true then [m.1]else [])
 | [],_,_,_,_,h,_=>by simp at h
 |_::_,[],_,_,_,_,h=>by simp at h
 |x::ms,g::fl,0,m,f,h,h'=>by
  simp only[List.getElem?_cons_zero,Option.some.injEq]at h h'
  subst h;subst h'
  cases g<;>simp[failL]
 |x::ms,g::fl,j+1,m,f,h,h'=>by
  simp only[List.getElem?_cons_succ]at h h'
  have ih:=zcA h h'
  cases g<;>simp only[List.take_succ_cons,failL,ih,List.cons_append]
theorem zeN: ∀(ms:List Mt) (fl:List Bool),(failL ms fl).length≤ms.length
 | [],fl=>by simp[failL]
 |_::_,[]=>by simp[failL]
 |x::ms,g::fl=>by have:=zeN ms fl;cases g<;>simp[failL]<;>omega
theorem znF(sn:Str)(k r:Int)(ms:List Mt)(hl:ms.length≤140):zj Tryz.prog 36 [.one (.bx 0 0)] (tlC sn k r ms) (pS (zA (failL ms (flO k [] ms)))) (tlC sn k r ms):=by
 have hFl:=xi k ms []
 have hml:=xB hFl
 refine gO T Tryz.func36 fun C hC=>?_
 repeat' first|refine gG ?_|refine gB (fun h=>?_) (fun h=>?_)|refine yI (te:=87) hC rfl rfl (by kernel_rfl) rfl rfl ?_
 rw[hml]
 refine yo hC rfl 113 1 rfl [(3,.one (.ar 113))] ⟨⟨_,rfl,AdS.nil⟩,trivial⟩ [] trivial ?_
 refine zy (fun j:Nat=>j≤ms.length) (fun j=>([(11,.one (.ar 1)),(12,I ms.length),(13,I j),(3,.one (.ar 103))],[(0,some (Res.box [.p (ks sn),.p (ki k),.ar 1,.ar 2,.p (ki r)])),(1,some (.arr 4 (yD ms (flO k [] ms)))),(2,some (.arr 1 (jM k (ptO k ms)))),(103,some (.arr 1 ((failL (ms.take j) ((flO k [] ms).take j)).map zS)))])) (fun j=>ms.length - j) hC
  0 (Nat.zero_le _) (mvU 103 113) ⟨rfl,⟨rfl,rfl,rfl,rfl,trivial⟩,⟨rfl,rfl,rfl,rfl,trivial⟩,rfl,fun i hi=>yg (by omega) hi⟩ ?_
 intro j hj
 refine zI T hC true 200 rfl ?_
 refine zP rfl (fun h=>?_) (fun h=>?_)
 ·have hlt:j<ms.length:=by have:=of_decide_eq_true h;omega
  clear h
  obtain⟨m,hm⟩:=zf hlt
  obtain⟨f,hf,hrow⟩:=zaB hFl hm
  have hnx:=zcA hm hf
  have hfl:=zeN (ms.take j) ((flO k [] ms).take j)
  rw[List.length_take]at hfl
  have hrl:((failL (ms.take j) ((flO k [] ms).take j)).map zS).length=(failL (ms.take j) ((flO k [] ms).take j)).length:=List.length_map _
  cases f with
  |true=>
   rw[if_pos rfl]at hnx
   repeat' first|refine gG ?_|refine gB (fun h=>?_) (fun h=>?_)|refine zeL T hC (rows:=yD ms (flO k [] ms)) rfl rfl rfl rfl (Int.natCast_nonneg _) (by rw[hml];omega) rfl rfl ?_|refine zaF T hC j 0 (rows:=yD ms (flO k [] ms)) (row:=zin m true) rfl rfl rfl (by simp) hrow rfl rfl rfl ?_|refine ya T hC rfl rfl rfl rfl rfl rfl rfl rfl rfl ?_|refine zC T 123 hC (rows:=(failL (ms.take j) ((flO k [] ms).take j)).map zS) (rows2:=[zS m.1]) (rows3:=(failL (ms.take (j+1)) ((flO k [] ms).take (j+1))).map zS) (bytes:=8) rfl rfl rfl rfl (xj.sl (T.es_ok _ _ rfl)) (by rw[hnx,List.map_append];rfl) rfl rfl rfl (by kernel_rfl) (by simp only[List.length_singleton];omega) (by simp only[List.length_singleton];omega) rfl rfl rfl ?_
   rw[wV (by omega)]
   exact zh (j+1) (by omega) (mvU 103 123) (by omega) ⟨rfl,⟨rfl,rfl,rfl,rfl,trivial⟩,⟨rfl,rfl,rfl,rfl,trivial⟩,rfl,fun i hi=>yg (by omega) hi⟩
  |false=>
   rw[if_neg (by decide),List.append_nil]at hnx
   repeat' first|refine gG ?_|refine gB (fun h=>?_) (fun h=>?_)|refine zeL T hC (rows:=yD ms (flO k [] ms)) rfl rfl rfl rfl (Int.natCast_nonneg _) (by rw[hml];omega) rfl rfl ?_|refine zaF T hC j 0 (rows:=yD ms (flO k [] ms)) (row:=zin m false) rfl rfl rfl (by simp) hrow rfl rfl rfl ?_
   rw[wV (by omega)]
   refine zh (j+1) (by omega) id (by omega) ?_
   simp only[hnx]
   exact gM
 ·have hge:j=ms.length:=by have:=of_decide_eq_false h;omega
  subst hge
  rw[List.take_length,←hFl,List.take_length]
  repeat' first|refine gG ?_|refine gB (fun h=>?_) (fun h=>?_)|refine zp ?_
  refine zm rfl (id:=103) (e:=1) (rows:=(failL ms (flO k [] ms)).map zS) rfl [(2,pS (zA (failL ms (flO k [] ms))))] ⟨⟨_,rfl,FrS.ar⟩,trivial⟩ [] trivial ?_
  exact zg ⟨.inl rfl,id,_,rfl,.refl _,⟨rfl,rfl,rfl,trivial⟩,rfl,rfl⟩
end Hw.Fr
namespace Hw.Fr
open Go Go.Proofs Go.Shelf Hw.M Md
theorem zhf:((zb9 (⟨#[108,105,115,116]⟩:ByteArray)).isSome&&decide (((zb9 (⟨#[108,105,115,116]⟩:ByteArray)).getD noS).2.2=1))=true:=by kernel_rfl
def zt5(dt:xk×(Int×Int)×Int):Bool:=decide (dt.2.2=0)&&Ps.xV dt.1&& [(⟨#[112,117,116]⟩:ByteArray),(⟨#[114,101,109,111,118,101]⟩:ByteArray),(⟨#[103,101,116]⟩:ByteArray)].all fun w=>(Ps.zfI dt.1 w).isSome
theorem zk8:zt5 (Ps.xI ((zb9 (⟨#[108,105,115,116]⟩:ByteArray)).getD noS).2.1)=true:=by kernel_rfl
theorem zk9{o:OpT}(ho:okOp 1 o=true)(hw:zeJ 1 o∈[(⟨#[112,117,116]⟩:ByteArray),(⟨#[114,101,109,111,118,101]⟩:ByteArray),(⟨#[103,101,116]⟩:ByteArray)]):zk0 (⟨#[108,105,115,116]⟩:ByteArray) o=0:=by
 have h1:=zhf
 have h2:=zk8
 unfold zk0
 cases hx:zb9 (⟨#[108,105,115,116]⟩:ByteArray)with
 |none=>rw[hx]at h1;cases h1
 |some x=>
  rw[hx]at h1 h2
  simp only[Option.isSome_some,Bool.true_and,Option.getD_some,decide_eq_true_eq]at h1 h2
  simp only[h1]
  unfold zt5 at h2
  simp only[Bool.and_eq_true,decide_eq_true_eq,List.all_eq_true]at h2
  rw[if_pos ho,if_pos h2.1.1,if_pos ⟨h2.1.2,h2.2 _ hw⟩]
end Hw.Fr
namespace Hw.Fr
open Go Go.Proofs Go.Shelf Hw.M Md
abbrev znG:S:= .one (.p (.k (.pointer none)))
abbrev zuq:S:= .one (.p (.k (.slice none 0 0)))
theorem zqr(t:Int)(o:OpT):zj Tryz.prog 17 [znG,I t,zz (opR o)] [] (I 1) []:=by
 refine gO T Tryz.func17 fun C hC=>?_
 repeat' first|refine gG ?_|refine gB (fun h=>?_) (fun h=>?_)|refine yI (te:=87) hC rfl rfl (by kernel_rfl) rfl rfl ?_
 exact gF
theorem zit(t:Int):zj Tryz.prog 29 [znG,I t] [] (I 1) []:=by
 refine gO T Tryz.func29 fun C hC=>?_
 repeat' first|refine gG ?_|refine gB (fun h=>?_) (fun h=>?_)|refine yI (te:=87) hC rfl rfl (by kernel_rfl) rfl rfl ?_
 exact gF
theorem zla(t:Int)(o:OpT):zj Tryz.prog 31 [znG,I t,zz (opR o)] [] (.tup [zz (rsR ⟨0,0⟩),I 1]) []:=by
 refine gO T Tryz.func31 fun C hC=>?_
 repeat' first|refine gG ?_|refine gB (fun h=>?_) (fun h=>?_)|refine yI (te:=87) hC rfl rfl (by kernel_rfl) rfl rfl ?_
 exact gF
theorem zlb(t:Int):zj Tryz.prog 20 [znG,I t] [] (.tup [zz (stR 0 []),I 1]) []:=by
 refine gO T Tryz.func20 fun C hC=>?_
 repeat' first|refine gG ?_|refine gB (fun h=>?_) (fun h=>?_)|refine yI (te:=87) hC rfl rfl (by kernel_rfl) rfl rfl ?_
 exact zg ⟨.inl rfl,id,_,rfl,LeS.tup (.cons (LeS.emp 0) (.cons (.refl _) .nil)),trivial,rfl,rfl⟩
theorem zqs:zj Tryz.prog 32 [znG] [] (.tup [pS (.sl 1 []),pS (.sl 2 [])]) []:=by
 refine gO T Tryz.func32 fun C hC=>?_
 repeat' first|refine gG ?_|refine gB (fun h=>?_) (fun h=>?_)|refine yI (te:=87) hC rfl rfl (by kernel_rfl) rfl rfl ?_
 exact zg ⟨.inl rfl,id,_,rfl,LeS.tup (.cons (LeS.one (.nil 1)) (.cons (LeS.one (.nil 2)) .nil)),trivial,rfl,rfl⟩
theorem zqt:zj Tryz.prog 19 [znG] [] (I 0) []:=by
 refine gO T Tryz.func19 fun C hC=>?_
 repeat' first|refine gG ?_|refine gB (fun h=>?_) (fun h=>?_)|refine yI (te:=87) hC rfl rfl (by kernel_rfl) rfl rfl ?_
 exact gF
theorem znH:zj Tryz.prog 36 [znG] [] (pS (.sl 1 [])) []:=by
 refine gO T Tryz.func36 fun C hC=>?_
 repeat' first|refine gG ?_|refine gB (fun h=>?_) (fun h=>?_)|refine yI (te:=87) hC rfl rfl (by kernel_rfl) rfl rfl ?_
 exact zg ⟨.inl rfl,id,_,rfl,LeS.one (.nil 1),trivial,rfl,rfl⟩
theorem zqu:zj Tryz.prog 18 [znG] [] (I 0) []:=by
 refine gO T Tryz.func18 fun C hC=>?_
 repeat' first|refine gG ?_|refine gB (fun h=>?_) (fun h=>?_)|refine yI (te:=87) hC rfl rfl (by kernel_rfl) rfl rfl ?_
 exact gF
theorem zqv:zj Tryz.prog 24 [znG] [] (pS (.sl 1 [])) []:=by
 refine gO T Tryz.func24 fun C hC=>?_
 repeat' first|refine gG ?_|refine gB (fun h=>?_) (fun h=>?_)|refine yI (te:=87) hC rfl rfl (by kernel_rfl) rfl rfl ?_
 exact zg ⟨.inl rfl,id,_,rfl,LeS.one (.nil 1),trivial,rfl,rfl⟩
end Hw.Fr
namespace Hw.Fr
open Go Go.Proofs Go.Shelf Hw.M Md
def opP:OpT:=⟨1,[1,10]⟩
def opD:OpT:=⟨3,[1]⟩
def opG:OpT:=⟨2,[1]⟩
theorem zds{o:OpT}{u:Bool}(ho:okOp 1 o=true)(hu:zsT 1 o.code=u)(hw:zeJ 1 o∈[(⟨#[112,117,116]⟩:ByteArray),(⟨#[114,101,109,111,118,101]⟩:ByteArray),(⟨#[103,101,116]⟩:ByteArray)]):zb3 (⟨#[108,105,115,116]⟩:ByteArray) 1 o u=0:=by
 unfold zb3
 rw[if_pos ho,if_pos hu,zk9 ho hw]
theorem zsd:zeJ 1 opP=(⟨#[112,117,116]⟩:ByteArray):=by kernel_rfl
theorem zse:zeJ 1 opD=(⟨#[114,101,109,111,118,101]⟩:ByteArray):=by kernel_rfl
theorem zsf:zeJ 1 opG=(⟨#[103,101,116]⟩:ByteArray):=by kernel_rfl
theorem ztF:zb3 (⟨#[108,105,115,116]⟩:ByteArray) 1 opP true=0:=zds (by decide) (by decide) (by rw[zsd];exact .head _)
theorem ztG:zb3 (⟨#[108,105,115,116]⟩:ByteArray) 1 opD true=0:=zds (by decide) (by decide) (by rw[zse];exact .tail _ (.head _))
theorem zsg:zb3 (⟨#[108,105,115,116]⟩:ByteArray) 1 opG false=0:=zds (by decide) (by decide) (by rw[zsf];exact .tail _ (.tail _ (.head _)))
def aw1:List Mt:=[(5,opP)]
def aw2:List Mt:=[(5,opP),(9,opD)]
theorem zdt{k:Int}(hk:1≤k∧k≤KM):TLk k []:=⟨hk,by decide,.nil,fun _ h=>(by cases h),fun _ h=>(by cases h)⟩
theorem yw:zj Tryz.prog 10 [] [] (.bq true) []:=by
 have h1:=zhf
 obtain⟨x,hx,hx1⟩: ∃x,zb9 (⟨#[108,105,115,116]⟩:ByteArray)=some x∧x.2.2=1:=by
  cases hx:zb9 (⟨#[108,105,115,116]⟩:ByteArray)with
  |none=>rw[hx]at h1;cases h1
  |some x=>
   rw[hx]at h1
   simp only[Option.isSome_some,Bool.true_and,Option.getD_some,decide_eq_true_eq]at h1
   exact⟨x,rfl,h1⟩
 have hN:=zbg hx
 rw[hx1]at hN
 have e1:zbU (⟨#[108,105,115,116]⟩:ByteArray) 1 [] 5 opP=0:=by unfold zbU;rw[if_pos ztF,if_pos (by decide),if_neg (by decide),if_neg (by decide)]
 have hA1:=vt (⟨#[108,105,115,116]⟩:ByteArray) 0 5 opP (zdt (k:=1) (by decide)) e1
 have hk1:TLk 1 aw1:=zaG (zdt (k:=1) (by decide)) e1
 have hA1':jN [] 5 opP=aw1:=rfl
 rw[hA1']at hA1
 have e2:zbU (⟨#[108,105,115,116]⟩:ByteArray) 1 aw1 9 opD=0:=by unfold zbU;rw[if_pos ztG,if_pos (by decide),if_neg (by decide),if_neg (by decide)]
 have hA2:=fun r=>vt (⟨#[108,105,115,116]⟩:ByteArray) r 9 opD hk1 e2
 have hk2:TLk 1 aw2:=zaG hk1 e2
 have hA2':jN aw1 9 opD=aw2:=rfl
 simp only[hA2']at hA2
 have q1:zk6 (⟨#[108,105,115,116]⟩:ByteArray) 1 7 opG=0:=by unfold zk6;rw[if_pos zsg,if_pos (by decide)]
 have q2:zk6 (⟨#[108,105,115,116]⟩:ByteArray) 1 9 opG=0:=by unfold zk6;rw[if_pos zsg,if_pos (by decide)]
 have hQ1:=fun r=>zdr (⟨#[108,105,115,116]⟩:ByteArray) r 7 opG hk2 q1
 have hQ2:=fun r=>zdr (⟨#[108,105,115,116]⟩:ByteArray) r 9 opG hk2 q2
 have v1:(xn 1 (stA 1 aw2 7) opG).2=⟨0,10⟩:=by decide
 have v2:(xn 1 (stA 1 aw2 9) opG).2=⟨12,0⟩:=by decide
 simp only[v1]at hQ1
 simp only[v2]at hQ2
 have hL:=fun r=>zk7 (⟨#[108,105,115,116]⟩:ByteArray) 1 r aw2
 have hF:=fun r=>znF (⟨#[108,105,115,116]⟩:ByteArray) 1 r aw2 (by decide)
 have v3:failL aw2 (flO 1 [] aw2)=[]:=by decide
 simp only[v3]at hF
 refine gO T Tryz.func10 fun C hC=>?_
 repeat' first|refine gG ?_|(exfalso;simp at h;done)|(exfalso;revert h;decide)|refine gB (fun h=>?_) (fun h=>?_)|refine yI (te:=87) hC rfl rfl (by kernel_rfl) rfl rfl ?_|refine ya T hC rfl rfl rfl rfl rfl rfl rfl rfl rfl ?_|refine gR hN (nm [120,121,122]) ?_|refine gR hA1 (nm [120,121,122,123,124]) ?_|refine gR (hA2 _) (nm [120,123,124,125,126]) ?_|refine gR (hQ1 _) (nm [120,125,126]) ?_|refine gR (hQ2 _) (nm [120,125,126]) ?_|refine gR (hL _) (nm [120,125,126]) ?_|refine gR (hF _) (nm [120,125,126]) ?_
 exact zg ⟨.inl rfl,id,_,rfl,.qq (by decide),trivial,rfl,rfl⟩
end Hw.Fr
namespace Hw.Fr
open Go Go.Proofs Go.Shelf Hw.M Md
abbrev tlT(a b c:Nat)(sn:Str)(k r:Int)(ms:List Mt):List (Nat×Option Res):=[(a,some (.box [.p (ks sn),.p (ki k),.ar b,.ar c,.p (ki r)])),(b,some (.arr 4 (yD ms (flO k [] ms)))),(c,some (.arr 1 (jM k (ptO k ms))))]
abbrev Ts:=List Mt×Int
noncomputable def zl0(sn:Str)(k:Int)(z:Ts)(s:StT):Ts:=if zbU sn k z.1 s.time s.o=0 then(jN z.1 s.time s.o,zlZ (jN z.1 s.time s.o).length (xo z.1 s.time) (ptO k z.1).length)else z
theorem zqw{sn:Str}{k:Int}{z:Ts}{s:StT}(hk:TLk k z.1):TLk k (zl0 sn k z s).1:=by
 unfold zl0
 split
 ·rename_i h;exact zaG hk h
 ·exact hk
noncomputable def wz(sn:Str)(k:Int)(l:List StT):Ts:=l.foldl (zl0 sn k) ([],0)
theorem zlc{sn:Str}{k:Int}{l:List StT}{j:Nat}{s:StT}(h:l[j]?=some s):wz sn k (l.take (j+1))=zl0 sn k (wz sn k (l.take j)) s:=by
 unfold wz
 rw[List.take_add_one,h,Option.toList_some,List.foldl_append];rfl
theorem zbh{sn:Str}{k:Int}(hk:1≤k∧k≤KM)(l:List StT):TLk k (wz sn k l).1:=by
 have: ∀(l:List StT) (z:Ts),TLk k z.1→TLk k (l.foldl (zl0 sn k) z).1:=by
  intro l
  induction l with
  |nil=>exact fun z h=>h
  |cons s l ih=>exact fun z h=>ih _ (zqw h)
 exact this l _ (zdt hk)
theorem zgd{sn:Str}{x:Str×Str×Int}(h:zb9 sn=some x)(hx:1≤x.2.2∧x.2.2≤KM)(l:List StT)(hl:l.length≤25):
 zj Tryz.prog 25 [Sr sn,pS (.sl 4 (l.map zah))] [] (.one (.bx 0 0)) (tlC sn x.2.2 (wz sn x.2.2 l).2 (wz sn x.2.2 l).1):=by
 have hN:=zbg h
 generalize x.2.2=k at hN hx⊢
 replace hN:zj Tryz.prog 12 [Sr sn] [] (.tup [.one (.bx 0 0),I 0]) (tlC sn k (wz sn k (l.take 0)).2 (wz sn k (l.take 0)).1):=by rw[show wz sn k (l.take 0)=([],0) from rfl];exact hN
 refine gO T Tryz.func25 fun C hC=>?_
 repeat' first|refine gG ?_|(exfalso;simp at h;done)|refine gB (fun h=>?_) (fun h=>?_)|refine gR hN (nm [120,121,122]) ?_
 rw[List.length_map]
 refine zy (fun j:Nat=>j≤l.length) (fun j=>([(5,.one (.bx 120 0)),(16,pS (.sl 4 (l.map zah))),(17,I l.length),(18,I j)],tlT 120 121 122 sn k (wz sn k (l.take j)).2 (wz sn k (l.take j)).1)) (fun j=>l.length - j) hC
  0 (Nat.zero_le _) id gM ?_
 intro j hj
 refine zI T hC true 200 rfl ?_
 refine zP rfl (fun h=>?_) (fun h=>?_)
 ·have hlt:j<l.length:=by have:=of_decide_eq_true h;omega
  clear h
  obtain⟨s,hs⟩:=zf hlt
  have hk:=zbh (sn:=sn) hx (l.take j)
  have hsn:=zlc (sn:=sn) (k:=k) hs
  generalize wz sn k (l.take j)=z at hk hsn⊢
  obtain⟨ms,r⟩:=z
  simp only at hk⊢
  by_cases h0:zbU sn k ms s.time s.o=0
  ·have hA:=vt sn r s.time s.o hk h0
   unfold zl0 at hsn
   simp only[h0,if_true]at hsn
   repeat' first|refine gG ?_|(exfalso;simp at h;done)|refine gB (fun h=>?_) (fun h=>?_)|refine gI T (zu hs) ?_|refine gR hA (nm [120,121,122,123,124]) ?_
   rw[wV (by omega)]
   refine zh (j+1) (by omega) (fun i=>mvU 121 123 (mvU 122 124 i)) (by omega) ?_
   simp only[hsn]
   exact⟨rfl,⟨rfl,rfl,rfl,rfl,trivial⟩,⟨rfl,rfl,rfl,trivial⟩,rfl,fun i hi=>(congrArg (mvU _ _) (yg (by omega) hi)).trans (yg (by omega) hi)⟩
  ·have hA:=zdq sn r s.time s.o hk h0
   unfold zl0 at hsn
   simp only[h0,if_false]at hsn
   repeat' first|refine gG ?_|(exfalso;simp at h;done)|refine gB (fun h=>?_) (fun h=>?_)|refine gI T (zu hs) ?_|refine gR hA (nm [120,121,122]) ?_
   rw[wV (by omega)]
   refine zh (j+1) (by omega) id (by omega) ?_
   simp only[hsn]
   exact gM
 ·have hge:j=l.length:=by have:=of_decide_eq_false h;omega
  subst hge
  rw[List.take_length]
  repeat' first|refine gG ?_|refine gB (fun h=>?_) (fun h=>?_)|refine zp ?_
  exact zg ⟨.inl rfl,nm [120,121,122],_,rfl,.refl _,⟨rfl,rfl,rfl,trivial⟩,rfl,rfl⟩
theorem zhg{sn:Str}{x:Str×Str×Int}(h:zb9 sn=some x):
 zj Tryz.prog 25 [Sr sn,zuq] [] (.one (.bx 0 0)) (tlC sn x.2.2 0 []):=by
 have hN:=zbg h
 generalize x.2.2=k at hN⊢
 refine gO T Tryz.func25 fun C hC=>?_
 repeat' first|refine gG ?_|(exfalso;simp at h;done)|refine gB (fun h=>?_) (fun h=>?_)|refine gR hN (nm [120,121,122]) ?_
 refine zy (fun _:Unit=>True) (fun _=>([(5,.one (.bx 120 0)),(17,I 0),(18,I 0)],tlT 120 121 122 sn k 0 [])) (fun _=>0) hC () trivial id gM ?_
 rintro⟨⟩ _
 repeat' first|refine gG ?_|(exfalso;simp at h;done)|refine gB (fun h=>?_) (fun h=>?_)|refine zp ?_
 exact zg ⟨.inl rfl,nm [120,121,122],_,rfl,.refl _,⟨rfl,rfl,rfl,trivial⟩,rfl,rfl⟩
end Hw.Fr