/- The engine and the contracts. -/
import Derived.Test.YtgcfmjlnapcioaaGreatDoorC1
import Derived.Shelf.Strconv.AtoiAll
import Derived.Test.YtgcfmjlnapcioaaGreatDoorE3
set_option linter.unusedVariables false
set_option linter.unusedSimpArgs false
namespace Hw.Fr.Ps
open Go Go.Proofs Hw.M
structure Tok where
 k:Int
 t:Str
 n:Int
 ln:Int
 cl:Int
 deriving DecidableEq
def zal(t:Tok):List PV:=[ki t.k,ks t.t,ki t.n,ki t.ln,ki t.cl]
def zmh(l:List Tok):PV:= .sl 5 (l.map zal)
abbrev By:=List UInt8
def strOf(l:By):Str:=⟨l.toArray⟩
def lst(s:Str):By:=s.data.toList
theorem zcS(s:Str):strOf (lst s)=s:=by cases s;simp[strOf,lst]
theorem zi8(l:By):lst (strOf l)=l:=by simp[strOf,lst]
theorem va(s:Str):(lst s).length=s.size:=by simp only[lst,Array.length_toList];rfl
def wB(b:UInt8):Bool:=isWord b.toNat
def dB(b:UInt8):Bool:=isDigit b.toNat
def blB(b:UInt8):Bool:=decide (xl b.toNat=1)
def numV:By→Int→Int
 | [],a=>a
 |b::r,a=>numV r (a*10+((b.toNat:Int) - 48))
def zcT(w:By):Bool:= !decide (w=[])&& !(decide (1<w.length)&&decide (w.head?=some 48))&&w.all dB&&decide (numV w 0≤1099511627776)
def zmi(w:By):Option (Int×Str×Int):=if y6 (strOf w)=true then some (3,strOf w,0)else if isName (strOf w)=true then some (1,strOf w,0)else if zcT w=true then some (2,(⟨#[]⟩:ByteArray),numV w 0)else none
def syms:List Str:=[(⟨#[61,61]⟩:ByteArray),(⟨#[33,61]⟩:ByteArray),(⟨#[60,61]⟩:ByteArray),(⟨#[45,62]⟩:ByteArray),(⟨#[40]⟩:ByteArray),(⟨#[41]⟩:ByteArray),⟨#[123]⟩,⟨#[125]⟩,(⟨#[91]⟩:ByteArray),(⟨#[93]⟩:ByteArray),(⟨#[44]⟩:ByteArray),(⟨#[59]⟩:ByteArray),(⟨#[58]⟩:ByteArray),(⟨#[46]⟩:ByteArray),(⟨#[61]⟩:ByteArray),(⟨#[60]⟩:ByteArray),(⟨#[43]⟩:ByteArray),(⟨#[45]⟩:ByteArray),(⟨#[42]⟩:ByteArray),(⟨#[47]⟩:ByteArray),(⟨#[37]⟩:ByteArray)]
def ziP(l:By):Option Str:=syms.find? fun y=>(lst y).isPrefixOf l
def tk:By→Option (Nat×Option (Int×Str×Int))
 | []=>none
 |c::r=>if blB c=true then some (1,none)
  else if c=35 then some (((c::r).takeWhile fun b=>decide (b≠10)).length,none)
  else if wB c=true then(zmi ((c::r).takeWhile wB)).map fun t=>(((c::r).takeWhile wB).length,some t)
  else(ziP (c::r)).map fun y=>(y.size,some (4,y,0))
def mv(p:Int×Int)(c:UInt8):Int×Int:=if c=10 then(p.1+1,1)else(p.1,p.2+1)
def xt(p:Int×Int)(t:Int×Str×Int):Tok:=⟨t.1,t.2.1,t.2.2,p.1,p.2⟩
def lx:Nat→By→Int×Int→List Tok→List Tok×(Int×Int)×Int
 |0,_,_,_=>([],(0,0),0)
 |_+1,[],p,out=>(out++[⟨5,(⟨#[]⟩:ByteArray),0,p.1,p.2⟩],(0,0),0)
 |f+1,c::r,p,out=>match tk (c::r)with
  |none=>([],p,7)
  |some (n,o)=>lx f ((c::r).drop n) (((c::r).take n).foldl mv p) (out++(o.map (xt p)).toList)
theorem vd{p:UInt8→Bool}: ∀l:By,(l.takeWhile p).length≤l.length
 | []=>by simp
 |c::r=>by
  rw[List.takeWhile_cons]
  split
  ·simp only[List.length_cons];have:=vd (p:=p) r;omega
  ·simp
theorem vE: ∀ {a l:By},a.isPrefixOf l=true→a.length≤l.length
 | [],_,_=>by simp
 |_::_,[],h=>by simp[List.isPrefixOf]at h
 |x::a,y::l,h=>by
  simp only[List.isPrefixOf,Bool.and_eq_true]at h
  have:=vE h.2
  simp only[List.length_cons];omega
theorem zdL: ∀y∈syms,1≤y.size∧y.size≤2:=by decide
theorem zgq{l:By}{y:Str}(h:ziP l=some y):y∈syms∧(lst y).isPrefixOf l=true:=⟨List.mem_of_find?_eq_some h,by have:=List.find?_some h;exact this⟩
theorem zi9{l:By}{n:Nat}{o:Option (Int×Str×Int)}(h:tk l=some (n,o)):1≤n∧n≤l.length:=by
 cases l with
 |nil=>cases h
 |cons c r=>
  simp only[tk]at h
  split at h
  ·simp only[Option.some.injEq,Prod.mk.injEq]at h;obtain⟨rfl,_⟩:=h;simp
  ·split at h
   ·rename_i hc
    simp only[Option.some.injEq,Prod.mk.injEq]at h
    obtain⟨rfl,_⟩:=h
    refine⟨?_,vd _⟩
    rw[List.takeWhile_cons,if_pos (by rw[hc];decide)];simp
   ·split at h
    ·rename_i hw
     rw[Option.map_eq_some_iff]at h
     obtain⟨t,_,h⟩:=h
     simp only[Prod.mk.injEq]at h
     obtain⟨rfl,_⟩:=h
     refine⟨?_,vd _⟩
     rw[List.takeWhile_cons,if_pos hw];simp
    ·rw[Option.map_eq_some_iff]at h
     obtain⟨y,hy,h⟩:=h
     simp only[Prod.mk.injEq]at h
     obtain⟨rfl,_⟩:=h
     obtain⟨h1,h2⟩:=zgq hy
     refine⟨(zdL y h1).1,?_⟩
     have:=vE h2
     rwa [va]at this
theorem zn6: ∀(f g:Nat) (l:By) (p:Int×Int) (out:List Tok),l.length<f→l.length<g→lx f l p out=lx g l p out
 |0,_,_,_,_,h,_=>by omega
 |_+1,0,_,_,_,_,h=>by omega
 |_+1,_+1,[],_,_,_,_=>rfl
 |f+1,g+1,c::r,p,out,h,h'=>by
  simp only[lx]
  cases e:tk (c::r)with
  |none=>rfl
  |some q=>
   obtain⟨n,o⟩:=q
   have hp:=zi9 e
   simp only[List.length_cons]at h h' hp
   simp only
   have hl:((c::r).drop n).length=r.length+1 - n:=by rw[List.length_drop,List.length_cons]
   exact zn6 f g _ _ _ (by omega) (by omega)
theorem zo1(f:Nat)(l:By)(p:Int×Int)(out:List Tok)(h:l.length<f):lx f l p out=lx (l.length+1) l p out:=zn6 _ _ _ _ _ h (Nat.lt_succ_self _)
def lxx(l:By)(p:Int×Int)(out:List Tok):List Tok×(Int×Int)×Int:=lx (l.length+1) l p out
theorem zo2(p:Int×Int)(out:List Tok):lxx [] p out=(out++[⟨5,(⟨#[]⟩:ByteArray),0,p.1,p.2⟩],(0,0),0):=rfl
theorem zja{c:UInt8}{r:By}(p:Int×Int)(out:List Tok)(h:tk (c::r)=none):lxx (c::r) p out=([],p,7):=by
 unfold lxx;simp only[lx,h]
theorem za3{l:By}{n:Nat}{o:Option (Int×Str×Int)}(p:Int×Int)(out:List Tok)(h:tk l=some (n,o)):lxx l p out=lxx (l.drop n) ((l.take n).foldl mv p) (out++(o.map (xt p)).toList):=by
 cases l with
 |nil=>cases h
 |cons c r=>
  have hp:=zi9 h
  unfold lxx
  simp only[lx,h]
  simp only[List.length_cons]at hp
  exact zo1 _ _ _ _ (by rw[List.length_drop,List.length_cons];omega)
def yR(s:Str):List Tok×(Int×Int)×Int:=if 65536<s.size then([],(0,0),4)else lxx (lst s) (1,1) []
theorem zfc: ∀(l:By) (p:Int×Int),(∀b∈l,b≠10)→l.foldl mv p=(p.1,p.2+l.length)
 | [],p,_=>by simp
 |b::r,p,h=>by
  have hb:b≠10:=h b (by simp)
  rw[List.foldl_cons,zfc r _ fun x hx=>h x (by simp[hx])]
  simp only[mv,if_neg hb,List.length_cons,Prod.mk.injEq,true_and]
  omega
def natV:By→Nat→Nat
 | [],a=>a
 |b::r,a=>natV r (a*10+(b.toNat - 48))
theorem zgr{b:UInt8}:dB b=true↔48≤b.toNat∧b.toNat≤57:=by
 unfold dB isDigit
 simp only[Bool.and_eq_true,decide_eq_true_eq]
 omega
theorem zcU: ∀(l:By) (a:Nat),l.all dB=true→numV l a=(natV l a:Int)
 | [],a,_=>rfl
 |b::r,a,h=>by
  simp only[List.all_cons,Bool.and_eq_true]at h
  have hb:=zgr.1 h.1
  have e:((a:Int)*10+((b.toNat:Int) - 48))=((a*10+(b.toNat - 48):Nat):Int):=by omega
  simp only[numV,natV]
  rw[e]
  exact zcU r _ h.2
theorem zjb: ∀(l:By) (a:Nat),a≤natV l a
 | [],a=>Nat.le_refl a
 |b::r,a=>by
  have:=zjb r (a*10+(b.toNat - 48))
  simp only[natV];omega
theorem zaM: ∀(l:By) (acc:Nat),l.all dB=true→acc<18446744073709551616→Lib.parseUint10 acc l=if natV l acc<18446744073709551616 then .ok (natV l acc)else .range
 | [],acc,_,ha=>by
   show Lib.NumEnd.ok acc=if acc<_ then _ else _
   rw[if_pos ha];rfl
 |c::r,acc,h,ha=>by
  simp only[List.all_cons,Bool.and_eq_true]at h
  have hc:=zgr.1 h.1
  have hg:=zjb r (acc*10+(c.toNat - 48))
  simp only[Lib.parseUint10,natV,if_pos hc]
  by_cases h1:1844674407370955162≤acc
  ·rw[if_pos h1];exact(if_neg (by omega)).symm
  ·rw[if_neg h1]
   by_cases h2:18446744073709551616≤acc*10+(c.toNat - 48)
   ·rw[if_pos h2];exact(if_neg (by omega)).symm
   ·rw[if_neg h2]
    exact zaM r _ h.2 (by omega)
theorem zfd{w:By}(hne:w≠ [])(hd:w.all dB=true):Lib.atoiAll w=if numV w 0≤9223372036854775807 then .ok (numV w 0)else .range:=by
 cases w with
 |nil=>exact absurd rfl hne
 |cons c r=>
  have hc:=zgr.1 (by simp only[List.all_cons,Bool.and_eq_true]at hd;exact hd.1)
  rw[Lib.atoiAll_plain c r (by omega) (by omega),Lib.parseMag,if_neg (by simp),zaM _ _ hd (by omega)]
  have hn:=zcU (c::r) 0 hd
  rw[show((0:Nat):Int)=0 from rfl]at hn
  by_cases h1:natV (c::r) 0<18446744073709551616
  ·rw[if_pos h1]
   simp only[Lib.signless]
   by_cases h2:9223372036854775808≤natV (c::r) 0
   ·rw[if_pos h2,if_neg (by omega)]
   ·rw[if_neg h2,if_pos (by omega),hn]
  ·rw[if_neg h1,if_neg (by omega)]
   rfl
def zo3(w:By):Int:=if numV w 0≤9223372036854775807 then numV w 0 else 9223372036854775807
end Hw.Fr.Ps
namespace Hw.Fr.Ps
open Go Go.Proofs Hw.M
inductive PA (α:Type) where
 |ok (x:α) (i:Nat)
 |no (i:Nat)
 |out
def PA.bind{α β:Type}(r:PA α)(f:α→Nat→PA β):PA β:=match r with
 | .ok x i=>f x i
 | .no i=> .no i
 | .out=> .out
section
variable (l:List Tok)
def isA(i:Nat)(s:Str):Bool:=match l[i]? with
 |some t=>(decide (t.k=3)||decide (t.k=4))&&decide (t.t=s)
 |none=>false
def jz(s:Str)(i:Nat):PA Unit:=if isA l i s=true then .ok () (i+1)else .no i
def wq(i:Nat):PA Str:=match l[i]? with
 |some t=>if t.k=1 then .ok t.t (i+1)else .no i
 |none=> .no i
def zo4(i:Nat):PA Int:=match l[i]? with
 |some t=>if t.k=2 then .ok t.n (i+1)else .no i
 |none=> .no i
def zn7(i:Nat):PA Str:=if isA l i (⟨#[105,110,116]⟩:ByteArray)=true then .ok (⟨#[105,110,116]⟩:ByteArray) (i+1)else if isA l i (⟨#[98,111,111,108]⟩:ByteArray)=true then .ok (⟨#[98,111,111,108]⟩:ByteArray) (i+1)else wq l i
def wu(i:Nat):PA Fld:=(wq l i).bind fun n i=>(zn7 l i).bind fun t i=> .ok ⟨n,t⟩ i
def listA{α:Type}(sep fin:Str)(one:Nat→PA α):Nat→Nat→List α→PA (List α)
 |0,_,_=> .out
 |f+1,i,acc=>if isA l i fin=true then .ok acc (i+1)
  else(if acc.length=0 then PA.ok () i else jz l sep i).bind fun _ i=>(one i).bind fun x i=>listA sep fin one f i (acc++[x])
def opsA(n:Nat):List (Str×Int):=match n with
 |0=>[((⟨#[111,114]⟩:ByteArray),20)]
 |1=>[((⟨#[97,110,100]⟩:ByteArray),19)]
 |3=>[((⟨#[61,61]⟩:ByteArray),14),((⟨#[33,61]⟩:ByteArray),15),((⟨#[60,61]⟩:ByteArray),17),((⟨#[60]⟩:ByteArray),16)]
 |4=>[((⟨#[43]⟩:ByteArray),9),((⟨#[45]⟩:ByteArray),10)]
 |5=>[((⟨#[42]⟩:ByteArray),11),((⟨#[47]⟩:ByteArray),12),((⟨#[37]⟩:ByteArray),13)]
 |_=>[]
def opA(i n:Nat):Option Int:=((opsA n).find? fun p=>isA l i p.1).map (·.2)
mutual
def exprA:Nat→Nat→Nat→PA Ex
 |0,_,_=> .out
 |f+1,n,i=>
  if n=2 then if isA l i (⟨#[110,111,116]⟩:ByteArray)=true then(exprA f 2 (i+1)).bind fun x i=> .ok (.mk 18 0 (⟨#[]⟩:ByteArray) [x]) i else exprA f 3 i
  else if n=6 then if isA l i (⟨#[45]⟩:ByteArray)=true then(exprA f 6 (i+1)).bind fun x i=> .ok (.mk 8 0 (⟨#[]⟩:ByteArray) [x]) i else postA f i
  else(exprA f (n+1) i).bind fun x i=>moreA f n x i
def moreA:Nat→Nat→Ex→Nat→PA Ex
 |0,_,_,_=> .out
 |f+1,n,x,i=>match opA l i n with
  |none=> .ok x i
  |some op=>(exprA f (n+1) (i+1)).bind fun y i=>if n=3 then .ok (.mk op 0 (⟨#[]⟩:ByteArray) [x,y]) i else moreA f n (.mk op 0 (⟨#[]⟩:ByteArray) [x,y]) i
def postA:Nat→Nat→PA Ex
 |0,_=> .out
 |f+1,i=>(primA f i).bind fun x i=>dotsA f x i
def dotsA:Nat→Ex→Nat→PA Ex
 |0,_,_=> .out
 |f+1,x,i=>if isA l i (⟨#[46]⟩:ByteArray)=true then(wq l (i+1)).bind fun s i=>dotsA f (.mk 5 0 s [x]) i else .ok x i
def argsP:Nat→Nat→List Ex→PA (List Ex)
 |0,_,_=> .out
 |f+1,i,acc=>if isA l i (⟨#[41]⟩:ByteArray)=true then .ok acc (i+1)
  else(if acc.length=0 then PA.ok () i else jz l (⟨#[44]⟩:ByteArray) i).bind fun _ i=>(exprA f 0 i).bind fun x i=>argsP f i (acc++[x])
def partsA:Nat→Nat→Nat→List Ex→PA (List Ex)
 |0,_,_,_=> .out
 |f+1,k,i,acc=>if k=0 then(jz l (⟨#[41]⟩:ByteArray) i).bind fun _ i=> .ok acc i
  else(jz l (if acc.length=0 then(⟨#[40]⟩:ByteArray)else(⟨#[44]⟩:ByteArray)) i).bind fun _ i=>(exprA f 0 i).bind fun x i=>partsA f (k - 1) i (acc++[x])
def primA:Nat→Nat→PA Ex
 |0,_=> .out
 |f+1,i=>match l[i]? with
  |none=> .no i
  |some t=>
   if t.k=2 then .ok (.mk 1 t.n (⟨#[]⟩:ByteArray) []) (i+1)
   else if t.k=1 then if isA l (i+1) (⟨#[40]⟩:ByteArray)=true then(argsP f (i+2) []).bind fun a i=> .ok (.mk 7 0 t.t a) i else .ok (.mk 4 0 t.t []) (i+1)
   else if isA l i (⟨#[116,114,117,101]⟩:ByteArray)=true then .ok (.mk 2 1 (⟨#[]⟩:ByteArray) []) (i+1)
   else if isA l i (⟨#[102,97,108,115,101]⟩:ByteArray)=true then .ok (.mk 2 0 (⟨#[]⟩:ByteArray) []) (i+1)
   else if isA l i (⟨#[110,105,108]⟩:ByteArray)=true then .ok (.mk 3 0 (⟨#[]⟩:ByteArray) []) (i+1)
   else if isA l i (⟨#[116,104,105,115]⟩:ByteArray)=true then .ok (.mk 4 0 (⟨#[116,104,105,115]⟩:ByteArray) []) (i+1)
   else if isA l i (⟨#[110,101,119]⟩:ByteArray)=true then(wq l (i+1)).bind fun s i=> .ok (.mk 6 0 s []) i
   else if isA l i (⟨#[105,102]⟩:ByteArray)=true then(partsA f 3 (i+1) []).bind fun a i=> .ok (.mk 21 0 (⟨#[]⟩:ByteArray) a) i
   else if isA l i (⟨#[109,97,120]⟩:ByteArray)=true then(partsA f 2 (i+1) []).bind fun a i=> .ok (.mk 22 0 (⟨#[]⟩:ByteArray) a) i
   else if isA l i (⟨#[109,105,110]⟩:ByteArray)=true then(partsA f 2 (i+1) []).bind fun a i=> .ok (.mk 23 0 (⟨#[]⟩:ByteArray) a) i
   else if isA l i (⟨#[108,111,103]⟩:ByteArray)=true then(partsA f 1 (i+1) []).bind fun a i=> .ok (.mk 24 0 (⟨#[]⟩:ByteArray) a) i
   else if isA l i (⟨#[40]⟩:ByteArray)=true then(exprA f 0 (i+1)).bind fun x i=>(jz l (⟨#[41]⟩:ByteArray) i).bind fun _ i=> .ok x i
   else .no i
end
mutual
def stmtsA:Nat→Nat→List Sm→PA (List Sm)
 |0,_,_=> .out
 |f+1,i,acc=>if isA l i ⟨#[125]⟩=true then .ok acc (i+1)else(zaU f i).bind fun s i=>stmtsA f i (acc++[s])
def wG:Nat→Nat→PA (List Sm)
 |0,_=> .out
 |f+1,i=>(jz l ⟨#[123]⟩ i).bind fun _ i=>stmtsA f i []
def zaU:Nat→Nat→PA Sm
 |0,_=> .out
 |f+1,i=>
  if isA l i (⟨#[105,102]⟩:ByteArray)=true then(exprA l f 0 (i+1)).bind fun x i=>(wG f i).bind fun a i=>
   if isA l i (⟨#[101,108,115,101]⟩:ByteArray)=true then(wG f (i+1)).bind fun b i=> .ok (.mk 3 (⟨#[]⟩:ByteArray) [x] a b) i else .ok (.mk 3 (⟨#[]⟩:ByteArray) [x] a []) i
  else if isA l i (⟨#[119,104,105,108,101]⟩:ByteArray)=true then(exprA l f 0 (i+1)).bind fun x i=>(wG f i).bind fun a i=> .ok (.mk 4 (⟨#[]⟩:ByteArray) [x] a []) i
  else if isA l i (⟨#[114,101,116,117,114,110]⟩:ByteArray)=true then
   if isA l (i+1) (⟨#[59]⟩:ByteArray)=true then .ok (.mk 5 (⟨#[]⟩:ByteArray) [] [] []) (i+2)
   else(exprA l f 0 (i+1)).bind fun x i=>(jz l (⟨#[59]⟩:ByteArray) i).bind fun _ i=> .ok (.mk 5 (⟨#[]⟩:ByteArray) [x] [] []) i
  else(postA l f i).bind fun x i=>
   if isA l i (⟨#[61]⟩:ByteArray)=true∧x.op=4∧x.s≠(⟨#[116,104,105,115]⟩:ByteArray)then(exprA l f 0 (i+1)).bind fun y i=>(jz l (⟨#[59]⟩:ByteArray) i).bind fun _ i=> .ok (.mk 1 x.s [y] [] []) i
   else if isA l i (⟨#[61]⟩:ByteArray)=true∧x.op=5 then(exprA l f 0 (i+1)).bind fun y i=>(jz l (⟨#[59]⟩:ByteArray) i).bind fun _ i=> .ok (.mk 2 x.s (x.l.take 1++[y]) [] []) i
   else if x.op=7 then(jz l (⟨#[59]⟩:ByteArray) i).bind fun _ i=> .ok (.mk 6 (⟨#[]⟩:ByteArray) [x] [] []) i
   else .no i
end
def locsA:Nat→Nat→List Fld→PA (List Fld)
 |0,_,_=> .out
 |f+1,i,acc=>if isA l i (⟨#[108,111,99,97,108]⟩:ByteArray)=true then(wu l (i+1)).bind fun x i=>(jz l (⟨#[59]⟩:ByteArray) i).bind fun _ i=>locsA f i (acc++[x])else .ok acc i
def zcV(f i:Nat):PA Pr:=(wq l i).bind fun n i=>(jz l (⟨#[40]⟩:ByteArray) i).bind fun _ i=>(listA l (⟨#[44]⟩:ByteArray) (⟨#[41]⟩:ByteArray) (wu l) f i []).bind fun ps i=>
 (if isA l i ⟨#[123]⟩=true then PA.ok (⟨#[]⟩:ByteArray) i else zn7 l i).bind fun r i=>(jz l ⟨#[123]⟩ i).bind fun _ i=>(locsA l f i []).bind fun ls i=>
 (stmtsA l f i []).bind fun b i=> .ok ⟨n,ps,r,ls,b⟩ i
def xc(f i:Nat):PA Ex:=(jz l (⟨#[61]⟩:ByteArray) i).bind fun _ i=>exprA l f 0 i
def x5(f i:Nat):PA Ms:=(wq l i).bind fun n i=>(jz l (⟨#[40]⟩:ByteArray) i).bind fun _ i=>(wq l i).bind fun t i=>(jz l (⟨#[41]⟩:ByteArray) i).bind fun _ i=>(jz l (⟨#[110,105,108]⟩:ByteArray) i).bind fun _ i=>
 (zo4 l (if isA l i (⟨#[45]⟩:ByteArray)=true then i+1 else i)).bind fun z i'=>(xc l f i').bind fun x j=> .ok ⟨n,t,if isA l i (⟨#[45]⟩:ByteArray)=true then -z else z,x⟩ j
def zcW(f i:Nat)(d:xk):PA xk:=
 if isA l i (⟨#[116,121,112,101]⟩:ByteArray)=true then(wq l (i+1)).bind fun n i=>(jz l ⟨#[123]⟩ i).bind fun _ i=>(listA l (⟨#[59]⟩:ByteArray) ⟨#[125]⟩ (wu l) f i []).bind fun fs i=> .ok { d with types:=d.types++[⟨n,fs⟩] } i
 else if isA l i (⟨#[118,97,114]⟩:ByteArray)=true then(wu l (i+1)).bind fun x i=> .ok { d with globals:=d.globals++[x] } i
 else if isA l i (⟨#[112,114,111,99]⟩:ByteArray)=true then(zcV l f (i+1)).bind fun p i=> .ok { d with procs:=d.procs++[p] } i
 else if isA l i (⟨#[109,101,97,115,117,114,101]⟩:ByteArray)=true then(x5 l f (i+1)).bind fun m i=> .ok { d with measures:=d.measures++[m] } i
 else if isA l i (⟨#[105,110,118,97,114,105,97,110,116]⟩:ByteArray)=true then(wq l (i+1)).bind fun n i=>
  (if isA l i (⟨#[40]⟩:ByteArray)=true then(wq l (i+1)).bind fun t i=>(jz l (⟨#[41]⟩:ByteArray) i).bind fun _ i=> .ok t i else PA.ok (⟨#[]⟩:ByteArray) i).bind fun t i=>(xc l f i).bind fun x i=> .ok { d with invs:=d.invs++[⟨n,t,x⟩] } i
 else if isA l i (⟨#[112,111,116,101,110,116,105,97,108]⟩:ByteArray)=true then(if isA l (i+1) (⟨#[61]⟩:ByteArray)=true then PA.ok (⟨#[]⟩:ByteArray) (i+1)else wq l (i+1)).bind fun t i=>(xc l f i).bind fun x i=> .ok { d with pots:=d.pots++[⟨t,x⟩] } i
 else if isA l i (⟨#[98,111,117,110,100]⟩:ByteArray)=true then(wq l (i+1)).bind fun n i=>(xc l f i).bind fun x i=> .ok { d with bounds:=d.bounds++[⟨n,x⟩] } i
 else .no i
def itemsA(f:Nat):Nat→Nat→xk→PA xk
 |0,_,_=> .out
 |g+1,i,d=>if isA l i ⟨#[125]⟩=true then .ok d (i+1)else(zcW l f i d).bind fun d i=>itemsA f g i d
def zcX(f:Nat):PA xk:=(jz l (⟨#[100,101,115,99]⟩:ByteArray) 0).bind fun _ i=>(wq l i).bind fun n i=>(jz l ⟨#[123]⟩ i).bind fun _ i=>itemsA l f f i ⟨n,[],[],[],[],[],[],[]⟩
end
end Hw.Fr.Ps
namespace Hw.Fr.Ps
open Go Go.Proofs Hw.M
theorem ze{α β:Type}{r:PA α}{f:α→Nat→PA β}{x:β}{j:Nat}(h:r.bind f= .ok x j): ∃y k,r= .ok y k∧f y k= .ok x j:=by
 cases r with
 |ok y k=>exact⟨y,k,rfl,h⟩
 |no k=>cases h
 |out=>cases h
theorem zw{α:Type}{c:Prop}[Decidable c]{a b:PA α}{x:α}{j:Nat}(h:(if c then a else b)= .ok x j):(c∧a= .ok x j)∨(¬c∧b= .ok x j):=by
 by_cases hc:c
 ·rw[if_pos hc]at h;exact .inl ⟨hc,h⟩
 ·rw[if_neg hc]at h;exact .inr ⟨hc,h⟩
section
variable {l:List Tok}
theorem zZ{s:Str}{i j:Nat}{u:Unit}(h:jz l s i= .ok u j):j=i+1∧isA l i s=true:=by
 unfold jz at h
 split at h
 ·rename_i h1;cases h;exact⟨rfl,h1⟩
 ·cases h
theorem yF{i:Nat}{s:Str}(h:isA l i s=true):i<l.length:=by
 unfold isA at h
 split at h
 ·rename_i t ht;exact(List.getElem?_eq_some_iff.1 ht).1
 ·cases h
theorem zo5{i j:Nat}{s:Str}(h:wq l i= .ok s j):i<l.length:=by
 unfold wq at h
 split at h
 ·rename_i t ht;exact(List.getElem?_eq_some_iff.1 ht).1
 ·cases h
theorem ym{i j:Nat}{s:Str}(h:wq l i= .ok s j):j=i+1:=by
 unfold wq at h
 split at h
 ·split at h
  ·cases h;rfl
  ·cases h
 ·cases h
theorem zfe{i j:Nat}{s:Str}(h:zn7 l i= .ok s j):j=i+1:=by
 unfold zn7 at h
 split at h
 ·cases h;rfl
 ·split at h
  ·cases h;rfl
  ·exact ym h
theorem wv{i j:Nat}{x:Fld}(h:wu l i= .ok x j):i<j:=by
 unfold wu at h
 obtain⟨n,k,h1,h⟩:=ze h
 obtain⟨t,k2,h2,h⟩:=ze h
 have e1:=ym h1
 have e2:=zfe h2
 cases h
 omega
theorem zam{s:Str}{i j:Nat}{u:Unit}{n:Nat}(h:(if n=0 then PA.ok () i else jz l s i)= .ok u j):i≤j:=by
 split at h
 ·cases h;exact Nat.le_refl _
 ·have:=(zZ h).1;omega
theorem jR: ∀f:Nat,(∀n i x j,exprA l f n i= .ok x j→i<j∧i<l.length)∧(∀n y i x j,moreA l f n y i= .ok x j→i≤j)∧(∀i x j,postA l f i= .ok x j→i<j∧i<l.length)∧(∀y i x j,dotsA l f y i= .ok x j→i≤j)∧
 (∀i a x j,argsP l f i a= .ok x j→i<j)∧(∀k i a x j,partsA l f k i a= .ok x j→i<j)∧(∀i x j,primA l f i= .ok x j→i<j∧i<l.length):=by
 intro f
 induction f with
 |zero=>
  refine⟨fun n i x j h=>?_,fun n y i x j h=>?_,fun i x j h=>?_,fun y i x j h=>?_,fun i a x j h=>?_,fun k i a x j h=>?_,fun i x j h=>?_⟩
  all_goals simp only[exprA,moreA,postA,dotsA,argsP,partsA,primA,reduceCtorEq]at h
 |succ f ih=>
  obtain⟨iE,iM,iP,iD,iA,iK,iR⟩:=ih
  refine⟨fun n i x j h=>?_,fun n y i x j h=>?_,fun i x j h=>?_,fun y i x j h=>?_,fun i a x j h=>?_,fun k i a x j h=>?_,fun i x j h=>?_⟩
  ·unfold exprA at h
   split at h
   ·split at h
    ·rename_i hi
     obtain⟨y,k,h1,h⟩:=ze h
     have:=iE _ _ _ _ h1
     have:=yF hi
     cases h;omega
    ·exact iE _ _ _ _ h
   ·split at h
    ·split at h
     ·rename_i hi
      obtain⟨y,k,h1,h⟩:=ze h
      have:=iE _ _ _ _ h1
      have:=yF hi
      cases h;omega
     ·exact iP _ _ _ h
    ·obtain⟨y,k,h1,h⟩:=ze h
     have:=iE _ _ _ _ h1
     have:=iM _ _ _ _ _ h
     omega
  ·unfold moreA at h
   split at h
   ·cases h;exact Nat.le_refl _
   ·obtain⟨z,k,h1,h⟩:=ze h
    have:=iE _ _ _ _ h1
    split at h
    ·cases h;omega
    ·have:=iM _ _ _ _ _ h
     omega
  ·unfold postA at h
   obtain⟨y,k,h1,h⟩:=ze h
   have:=iR _ _ _ h1
   have:=iD _ _ _ _ h
   omega
  ·unfold dotsA at h
   split at h
   ·obtain⟨s,k,h1,h⟩:=ze h
    have:=ym h1
    have:=iD _ _ _ _ h
    omega
   ·cases h;exact Nat.le_refl _
  ·unfold argsP at h
   split at h
   ·cases h;omega
   ·obtain⟨u,k,h1,h⟩:=ze h
    obtain⟨y,k2,h2,h⟩:=ze h
    have:=zam h1
    have:=iE _ _ _ _ h2
    have:=iA _ _ _ _ h
    omega
  ·unfold partsA at h
   split at h
   ·obtain⟨u,k,h1,h⟩:=ze h
    have:=(zZ h1).1
    cases h;omega
   ·obtain⟨u,k,h1,h⟩:=ze h
    obtain⟨y,k2,h2,h⟩:=ze h
    have:=(zZ h1).1
    have:=iE _ _ _ _ h2
    have:=iK _ _ _ _ _ h
    omega
  ·unfold primA at h
   cases hl:l[i]? with
   |none=>rw[hl]at h;cases h
   |some t=>
   have hL:=(List.getElem?_eq_some_iff.1 hl).1
   rw[hl]at h
   simp only at h
   rcases zw h with⟨_,h⟩|⟨_,h⟩
   ·cases h;omega
   rcases zw h with⟨_,h⟩|⟨_,h⟩
   ·rcases zw h with⟨_,h⟩|⟨_,h⟩
    ·obtain⟨a,k,h1,h⟩:=ze h;have:=iA _ _ _ _ h1;cases h;omega
    ·cases h;omega
   rcases zw h with⟨_,h⟩|⟨_,h⟩
   ·cases h;omega
   rcases zw h with⟨_,h⟩|⟨_,h⟩
   ·cases h;omega
   rcases zw h with⟨_,h⟩|⟨_,h⟩
   ·cases h;omega
   rcases zw h with⟨_,h⟩|⟨_,h⟩
   ·cases h;omega
   rcases zw h with⟨_,h⟩|⟨_,h⟩
   ·obtain⟨a,k,h1,h⟩:=ze h;have:=ym h1;cases h;omega
   rcases zw h with⟨_,h⟩|⟨_,h⟩
   ·obtain⟨a,k,h1,h⟩:=ze h;have:=iK _ _ _ _ _ h1;cases h;omega
   rcases zw h with⟨_,h⟩|⟨_,h⟩
   ·obtain⟨a,k,h1,h⟩:=ze h;have:=iK _ _ _ _ _ h1;cases h;omega
   rcases zw h with⟨_,h⟩|⟨_,h⟩
   ·obtain⟨a,k,h1,h⟩:=ze h;have:=iK _ _ _ _ _ h1;cases h;omega
   rcases zw h with⟨_,h⟩|⟨_,h⟩
   ·obtain⟨a,k,h1,h⟩:=ze h;have:=iK _ _ _ _ _ h1;cases h;omega
   rcases zw h with⟨_,h⟩|⟨_,h⟩
   ·obtain⟨a,k,h1,h⟩:=ze h;have:=iE _ _ _ _ h1;obtain⟨u,k2,h2,h⟩:=ze h;have:=(zZ h2).1;cases h;omega
   ·cases h
theorem zk{α β:Type}{r:PA α}{f:α→Nat→PA β}(h1:r≠ .out)(h2: ∀y k,r= .ok y k→f y k≠ .out):r.bind f≠ .out:=by
 cases r with
 |ok y k=>exact h2 y k rfl
 |no k=>intro h;cases h
 |out=>exact absurd rfl h1
theorem z6{α:Type}{c:Prop}[Decidable c]{a b:PA α}(h1:c→a≠ .out)(h2: ¬c→b≠ .out):(if c then a else b)≠ .out:=by
 by_cases hc:c
 ·rw[if_pos hc];exact h1 hc
 ·rw[if_neg hc];exact h2 hc
theorem yG(s:Str)(i:Nat):jz l s i≠ .out:=by unfold jz;split<;>intro h<;>cases h
theorem yY(i:Nat):wq l i≠ .out:=by
 unfold wq;split
 ·split<;>intro h<;>cases h
 ·intro h;cases h
theorem zjc{i n:Nat}{s:Str}:(if n=0 then PA.ok () i else jz l s i)≠ .out:=by
 split
 ·intro h;cases h
 ·exact yG _ _
theorem zdM: ∀f:Nat,(∀n i,n≤6→10*(l.length - i)+13 - n≤f→exprA l f n i≠ .out)∧(∀n y i,n≤5→10*(l.length - i)+4≤f→moreA l f n y i≠ .out)∧(∀i,10*(l.length - i)+6≤f→postA l f i≠ .out)∧(∀y i,10*(l.length - i)+1≤f→dotsA l f y i≠ .out)∧
 (∀i a,10*(l.length - i)+14≤f→argsP l f i a≠ .out)∧(∀k i a,10*(l.length - i)+4≤f→partsA l f k i a≠ .out)∧(∀i,10*(l.length - i)+5≤f→primA l f i≠ .out):=by
 intro f
 induction f with
 |zero=>exact⟨fun n i h1 h=>by omega,fun n y i _ h=>by omega,fun i h=>by omega,fun y i h=>by omega,fun i a h=>by omega,fun k i a h=>by omega,fun i h=>by omega⟩
 |succ f ih=>
  obtain⟨iE,iM,iP,iD,iA,iK,iR⟩:=ih
  obtain⟨fE,fM,fP,fD,fA,fK,fR⟩:=jR (l:=l) f
  have zY: ∀ {α:Type} (x:α) (j:Nat),PA.ok x j≠ .out:=fun _ _ h=>by cases h
  refine⟨fun n i h1 h=>?_,fun n y i h1 h=>?_,fun i h=>?_,fun y i h=>?_,fun i a h=>?_,fun k i a h=>?_,fun i h=>?_⟩
  ·unfold exprA
   split
   ·split
    ·rename_i hn hi
     have:=yF hi
     exact zk (iE _ _ (by omega) (by omega)) fun _ _ _=>zY _ _
    ·exact iE _ _ (by omega) (by omega)
   ·split
    ·split
     ·rename_i hn hi
      have:=yF hi
      exact zk (iE _ _ (by omega) (by omega)) fun _ _ _=>zY _ _
     ·exact iP _ (by omega)
    ·exact zk (iE _ _ (by omega) (by omega)) fun y k hk=>iM _ _ _ (by omega) (by have:=fE _ _ _ _ hk;omega)
  ·unfold moreA
   split
   ·exact zY _ _
   ·rename_i op ho
    have hi:i<l.length:=by
     unfold opA at ho
     cases hf:(opsA n).find? (fun p=>isA l i p.1)with
     |none=>rw[hf]at ho;cases ho
     |some p=>
      have hh:isA l i p.1=true:=List.find?_some (p:=fun p:Str×Int=>isA l i p.1) hf
      exact yF hh
    refine zk (iE _ _ (by omega) (by omega)) fun y k hk=>?_
    split
    ·exact zY _ _
    ·exact iM _ _ _ h1 (by have:=fE _ _ _ _ hk;omega)
  ·unfold postA
   exact zk (iR _ (by omega)) fun y k hk=>iD _ _ (by have:=fR _ _ _ hk;omega)
  ·unfold dotsA
   split
   ·rename_i hi
    have:=yF hi
    exact zk (yY _) fun s k hk=>iD _ _ (by have:=ym hk;omega)
   ·exact zY _ _
  ·unfold argsP
   split
   ·exact zY _ _
   ·refine zk zjc fun u k hk=>zk (iE _ _ (by omega) (by have:=zam hk;omega)) fun y k2 hk2=>iA _ _ ?_
    have:=zam hk
    have:=fE _ _ _ _ hk2
    omega
  ·unfold partsA
   split
   ·exact zk (yG _ _) fun _ _ _=>zY _ _
   ·refine zk (yG _ _) fun u k hk=>zk (iE _ _ (by omega) ?_) fun y k2 hk2=>iK _ _ _ ?_
    ·have:=zZ hk
     have:=yF this.2
     omega
    ·have:=zZ hk
     have:=yF this.2
     have:=fE _ _ _ _ hk2
     omega
  ·unfold primA
   cases hl:l[i]? with
   |none=>intro h;cases h
   |some t=>
   have hL:=(List.getElem?_eq_some_iff.1 hl).1
   show(if t.k=2 then _ else _)≠PA.out
   refine z6 (fun _=>zY _ _) fun _=>?_
   refine z6 (fun _=>z6 (fun hi=>?_) fun _=>zY _ _) fun _=>?_
   ·have:=yF hi
    exact zk (iA _ _ (by omega)) fun _ _ _=>zY _ _
   refine z6 (fun _=>zY _ _) fun _=>?_
   refine z6 (fun _=>zY _ _) fun _=>?_
   refine z6 (fun _=>zY _ _) fun _=>?_
   refine z6 (fun _=>zY _ _) fun _=>?_
   refine z6 (fun _=>zk (yY _) fun _ _ _=>zY _ _) fun _=>?_
   refine z6 (fun _=>zk (iK _ _ _ (by omega)) fun _ _ _=>zY _ _) fun _=>?_
   refine z6 (fun _=>zk (iK _ _ _ (by omega)) fun _ _ _=>zY _ _) fun _=>?_
   refine z6 (fun _=>zk (iK _ _ _ (by omega)) fun _ _ _=>zY _ _) fun _=>?_
   refine z6 (fun _=>zk (iK _ _ _ (by omega)) fun _ _ _=>zY _ _) fun _=>?_
   refine z6 (fun _=>zk (iE _ _ (by omega) (by omega)) fun _ _ _=>zk (yG _ _) fun _ _ _=>zY _ _) fun _=>?_
   intro h;cases h
end
end Hw.Fr.Ps
namespace Hw.Fr.Ps
open Go Go.Proofs Hw.M
section
variable {l:List Tok}
theorem zcY: ∀f:Nat,(∀i a x j,stmtsA l f i a= .ok x j→i<j)∧(∀i x j,wG l f i= .ok x j→i<j)∧(∀i x j,zaU l f i= .ok x j→i<j∧i<l.length):=by
 intro f
 induction f with
 |zero=>
  refine⟨fun i a x j h=>?_,fun i x j h=>?_,fun i x j h=>?_⟩
  all_goals simp only[stmtsA,wG,zaU,reduceCtorEq]at h
 |succ f ih=>
  obtain⟨iT,iB,iS⟩:=ih
  obtain⟨fE,fM,fP,fD,fA,fK,fR⟩:=jR (l:=l) f
  refine⟨fun i a x j h=>?_,fun i x j h=>?_,fun i x j h=>?_⟩
  ·unfold stmtsA at h
   rcases zw h with⟨_,h⟩|⟨_,h⟩
   ·cases h;omega
   ·obtain⟨s,k,h1,h⟩:=ze h
    have:=iS _ _ _ h1
    have:=iT _ _ _ _ h
    omega
  ·unfold wG at h
   obtain⟨u,k,h1,h⟩:=ze h
   have:=zZ h1
   have:=iT _ _ _ _ h
   omega
  ·unfold zaU at h
   rcases zw h with⟨hi,h⟩|⟨_,h⟩
   ·have:=yF hi
    obtain⟨y,k,h1,h⟩:=ze h
    obtain⟨b,k2,h2,h⟩:=ze h
    have:=fE _ _ _ _ h1
    have:=iB _ _ _ h2
    rcases zw h with⟨_,h⟩|⟨_,h⟩
    ·obtain⟨b2,k3,h3,h⟩:=ze h
     have:=iB _ _ _ h3
     cases h;omega
    ·cases h;omega
   rcases zw h with⟨hi,h⟩|⟨_,h⟩
   ·have:=yF hi
    obtain⟨y,k,h1,h⟩:=ze h
    obtain⟨b,k2,h2,h⟩:=ze h
    have:=fE _ _ _ _ h1
    have:=iB _ _ _ h2
    cases h;omega
   rcases zw h with⟨hi,h⟩|⟨_,h⟩
   ·have:=yF hi
    rcases zw h with⟨_,h⟩|⟨_,h⟩
    ·cases h;omega
    ·obtain⟨y,k,h1,h⟩:=ze h
     obtain⟨b,k2,h2,h⟩:=ze h
     have:=fE _ _ _ _ h1
     have:=zZ h2
     cases h;omega
   obtain⟨y,k,h1,h⟩:=ze h
   have:=fP _ _ _ h1
   rcases zw h with⟨_,h⟩|⟨_,h⟩
   ·obtain⟨z,k1,h2,h⟩:=ze h
    obtain⟨b,k2,h3,h⟩:=ze h
    have:=fE _ _ _ _ h2
    have:=zZ h3
    cases h;omega
   rcases zw h with⟨_,h⟩|⟨_,h⟩
   ·obtain⟨z,k1,h2,h⟩:=ze h
    obtain⟨b,k2,h3,h⟩:=ze h
    have:=fE _ _ _ _ h2
    have:=zZ h3
    cases h;omega
   rcases zw h with⟨_,h⟩|⟨_,h⟩
   ·obtain⟨b,k2,h3,h⟩:=ze h
    have:=zZ h3
    cases h;omega
   ·cases h
theorem zjd: ∀f:Nat,(∀i a,10*(l.length - i)+8≤f→stmtsA l f i a≠ .out)∧(∀i,10*(l.length - i)+1≤f→wG l f i≠ .out)∧(∀i,10*(l.length - i)+7≤f→zaU l f i≠ .out):=by
 intro f
 induction f with
 |zero=>exact⟨fun i a h=>by omega,fun i h=>by omega,fun i h=>by omega⟩
 |succ f ih=>
  obtain⟨iT,iB,iS⟩:=ih
  obtain⟨gT,gB,gS⟩:=zcY (l:=l) f
  obtain⟨fE,fM,fP,fD,fA,fK,fR⟩:=jR (l:=l) f
  obtain⟨uE,uM,uP,uD,uA,uK,uR⟩:=zdM (l:=l) f
  have zY: ∀ {α:Type} (x:α) (j:Nat),PA.ok x j≠ .out:=fun _ _ h=>by cases h
  refine⟨fun i a h=>?_,fun i h=>?_,fun i h=>?_⟩
  ·unfold stmtsA
   refine z6 (fun _=>zY _ _) fun _=>zk (iS _ (by omega)) fun y k hk=>iT _ _ ?_
   have:=gS _ _ _ hk
   omega
  ·unfold wG
   refine zk (yG _ _) fun u k hk=>iT _ _ ?_
   have:=zZ hk
   have:=yF this.2
   omega
  ·unfold zaU
   refine z6 (fun hi=>?_) fun _=>?_
   ·have:=yF hi
    refine zk (uE _ _ (by omega) (by omega)) fun y k hk=>?_
    have:=fE _ _ _ _ hk
    refine zk (iB _ (by omega)) fun b k2 hk2=>z6 (fun _=>zk (iB _ ?_) fun _ _ _=>zY _ _) fun _=>zY _ _
    have:=gB _ _ _ hk2
    omega
   refine z6 (fun hi=>?_) fun _=>?_
   ·have:=yF hi
    refine zk (uE _ _ (by omega) (by omega)) fun y k hk=>?_
    have:=fE _ _ _ _ hk
    exact zk (iB _ (by omega)) fun _ _ _=>zY _ _
   refine z6 (fun hi=>?_) fun _=>?_
   ·have:=yF hi
    exact z6 (fun _=>zY _ _) fun _=>zk (uE _ _ (by omega) (by omega)) fun _ _ _=>zk (yG _ _) fun _ _ _=>zY _ _
   refine zk (uP _ (by omega)) fun y k hk=>?_
   have:=fP _ _ _ hk
   refine z6 (fun hc=>?_) fun _=>z6 (fun hc=>?_) fun _=>z6 (fun _=>zk (yG _ _) fun _ _ _=>zY _ _) fun _ h=>by cases h
   ·have:=yF hc.1
    exact zk (uE _ _ (by omega) (by omega)) fun _ _ _=>zk (yG _ _) fun _ _ _=>zY _ _
   ·have:=yF hc.1
    exact zk (uE _ _ (by omega) (by omega)) fun _ _ _=>zk (yG _ _) fun _ _ _=>zY _ _
end
end Hw.Fr.Ps
namespace Hw.Fr.Ps
open Go Go.Proofs Hw.M
section
variable {l:List Tok}
theorem zY{α:Type}(x:α)(j:Nat):PA.ok x j≠ .out:=fun h=>by cases h
theorem zje{i j:Nat}{z:Int}(h:zo4 l i= .ok z j):j=i+1:=by
 unfold zo4 at h
 split at h
 ·split at h
  ·cases h;rfl
  ·cases h
 ·cases h
theorem zo6(i:Nat):zo4 l i≠ .out:=by
 unfold zo4;split
 ·split<;>intro h<;>cases h
 ·intro h;cases h
theorem zjf(i:Nat):zn7 l i≠ .out:=by
 unfold zn7
 exact z6 (fun _=>zY _ _) fun _=>z6 (fun _=>zY _ _) fun _=>yY _
theorem zbs(i:Nat):wu l i≠ .out:=by
 unfold wu
 exact zk (yY _) fun _ _ _=>zk (zjf _) fun _ _ _=>zY _ _
theorem zmj{i j:Nat}{x:Fld}(h:wu l i= .ok x j):i<l.length:=by
 unfold wu at h
 obtain⟨n,k,h1,h⟩:=ze h
 exact zo5 h1
theorem jS{sep fin:Str}: ∀(f i:Nat) (a x:List Fld) (j:Nat),listA l sep fin (wu l) f i a= .ok x j→i<j
 |0,i,a,x,j,h=>by simp only[listA,reduceCtorEq]at h
 |f+1,i,a,x,j,h=>by
  unfold listA at h
  rcases zw h with⟨_,h⟩|⟨_,h⟩
  ·cases h;omega
  ·obtain⟨u,k,h1,h⟩:=ze h
   obtain⟨y,k2,h2,h⟩:=ze h
   have:=zam h1
   have:=wv h2
   have:=jS f _ _ _ _ h
   omega
theorem zbt{sep fin:Str}: ∀(f i:Nat) (a:List Fld),(l.length - i)+1≤f→listA l sep fin (wu l) f i a≠ .out
 |0,i,a,h=>by omega
 |f+1,i,a,h=>by
  unfold listA
  refine z6 (fun _=>zY _ _) fun _=>zk zjc fun u k hk=>zk (zbs _) fun y k2 hk2=>zbt f _ _ ?_
  have:=zam hk
  have:=wv hk2
  have:=zmj hk2
  omega
theorem zcZ: ∀(f i:Nat) (a x:List Fld) (j:Nat),locsA l f i a= .ok x j→i≤j
 |0,i,a,x,j,h=>by simp only[locsA,reduceCtorEq]at h
 |f+1,i,a,x,j,h=>by
  unfold locsA at h
  rcases zw h with⟨_,h⟩|⟨_,h⟩
  ·obtain⟨y,k,h1,h⟩:=ze h
   obtain⟨u,k2,h2,h⟩:=ze h
   have:=wv h1
   have:=zZ h2
   have:=zcZ f _ _ _ _ h
   omega
  ·cases h;exact Nat.le_refl _
theorem zdN: ∀(f i:Nat) (a:List Fld),(l.length - i)+1≤f→locsA l f i a≠ .out
 |0,i,a,h=>by omega
 |f+1,i,a,h=>by
  unfold locsA
  refine z6 (fun hi=>zk (zbs _) fun y k hk=>zk (yG _ _) fun u k2 hk2=>zdN f _ _ ?_) fun _=>zY _ _
  have:=yF hi
  have:=wv hk
  have:=zZ hk2
  omega
theorem ve{f i j:Nat}{x:Ex}(h:xc l f i= .ok x j):i<j:=by
 unfold xc at h
 obtain⟨u,k,h1,h⟩:=ze h
 have:=zZ h1
 have:=(jR (l:=l) f).1 _ _ _ _ h
 omega
theorem vf{f:Nat}(hf:10*l.length+13≤f)(i:Nat):xc l f i≠ .out:=by
 unfold xc
 exact zk (yG _ _) fun _ _ _=>(zdM f).1 _ _ (by omega) (by omega)
theorem zmk{f i j:Nat}{x:Pr}(h:zcV l f i= .ok x j):i<j:=by
 unfold zcV at h
 obtain⟨n,k1,h1,h⟩:=ze h
 obtain⟨u,k2,h2,h⟩:=ze h
 obtain⟨ps,k3,h3,h⟩:=ze h
 obtain⟨r,k4,h4,h⟩:=ze h
 obtain⟨u2,k5,h5,h⟩:=ze h
 obtain⟨ls,k6,h6,h⟩:=ze h
 obtain⟨b,k7,h7,h⟩:=ze h
 have:=ym h1
 have:=zZ h2
 have:=jS _ _ _ _ _ h3
 have:k3≤k4:=by
  rcases zw h4 with⟨_,h4⟩|⟨_,h4⟩
  ·cases h4;exact Nat.le_refl _
  ·have:=zfe h4;omega
 have:=zZ h5
 have:=zcZ _ _ _ _ _ h6
 have:=(zcY (l:=l) f).1 _ _ _ _ h7
 cases h;omega
theorem zml{f:Nat}(hf:10*l.length+13≤f)(i:Nat):zcV l f i≠ .out:=by
 unfold zcV
 exact zk (yY _) fun _ _ _=>zk (yG _ _) fun _ _ _=>zk (zbt _ _ _ (by omega)) fun _ _ _=>zk (z6 (fun _=>zY _ _) fun _=>zjf _) fun _ _ _=>
  zk (yG _ _) fun _ _ _=>zk (zdN _ _ _ (by omega)) fun _ _ _=>zk ((zjd f).1 _ _ (by omega)) fun _ _ _=>zY _ _
theorem zff{f i j:Nat}{x:Ms}(h:x5 l f i= .ok x j):i<j:=by
 unfold x5 at h
 obtain⟨n,k1,h1,h⟩:=ze h
 obtain⟨u,k2,h2,h⟩:=ze h
 obtain⟨t,k3,h3,h⟩:=ze h
 obtain⟨u2,k4,h4,h⟩:=ze h
 obtain⟨u3,k5,h5,h⟩:=ze h
 obtain⟨z,k6,h6,h⟩:=ze h
 obtain⟨y,k7,h7,h⟩:=ze h
 have:=ym h1
 have:=zZ h2
 have:=ym h3
 have:=zZ h4
 have:=zZ h5
 have e6:=zje h6
 have:=ve h7
 have:k5≤k6:=by rw[e6];split<;>omega
 cases h;omega
theorem zfg{f:Nat}(hf:10*l.length+13≤f)(i:Nat):x5 l f i≠ .out:=by
 unfold x5
 exact zk (yY _) fun _ _ _=>zk (yG _ _) fun _ _ _=>zk (yY _) fun _ _ _=>zk (yG _ _) fun _ _ _=>zk (yG _ _) fun _ _ _=>
  zk (zo6 _) fun _ _ _=>zk (vf hf _) fun _ _ _=>zY _ _
end
end Hw.Fr.Ps
namespace Hw.Fr.Ps
open Go Go.Proofs Hw.M
section
variable {l:List Tok}
theorem zjg{i j:Nat}{t:Str}(h:(if isA l i (⟨#[40]⟩:ByteArray)=true then(wq l (i+1)).bind fun t i=>(jz l (⟨#[41]⟩:ByteArray) i).bind fun _ i=> .ok t i else PA.ok (⟨#[]⟩:ByteArray) i)= .ok t j):i≤j:=by
 rcases zw h with⟨_,h⟩|⟨_,h⟩
 ·obtain⟨n,k1,h1,h⟩:=ze h
  obtain⟨u,k2,h2,h⟩:=ze h
  have:=ym h1
  have:=zZ h2
  cases h;omega
 ·cases h;exact Nat.le_refl _
theorem zo7(i:Nat):(if isA l i (⟨#[40]⟩:ByteArray)=true then(wq l (i+1)).bind fun t i=>(jz l (⟨#[41]⟩:ByteArray) i).bind fun _ i=> .ok t i else PA.ok (⟨#[]⟩:ByteArray) i)≠ .out:=
 z6 (fun _=>zk (yY _) fun _ _ _=>zk (yG _ _) fun _ _ _=>zY _ _) fun _=>zY _ _
theorem zmm{f i j:Nat}{d x:xk}(h:zcW l f i d= .ok x j):i<j∧i<l.length:=by
 unfold zcW at h
 rcases zw h with⟨hi,h⟩|⟨_,h⟩
 ·have:=yF hi
  obtain⟨n,k1,h1,h⟩:=ze h
  obtain⟨u,k2,h2,h⟩:=ze h
  obtain⟨fs,k3,h3,h⟩:=ze h
  have:=ym h1
  have:=zZ h2
  have:=jS _ _ _ _ _ h3
  cases h;omega
 rcases zw h with⟨hi,h⟩|⟨_,h⟩
 ·have:=yF hi
  obtain⟨n,k1,h1,h⟩:=ze h
  have:=wv h1
  cases h;omega
 rcases zw h with⟨hi,h⟩|⟨_,h⟩
 ·have:=yF hi
  obtain⟨n,k1,h1,h⟩:=ze h
  have:=zmk h1
  cases h;omega
 rcases zw h with⟨hi,h⟩|⟨_,h⟩
 ·have:=yF hi
  obtain⟨n,k1,h1,h⟩:=ze h
  have:=zff h1
  cases h;omega
 rcases zw h with⟨hi,h⟩|⟨_,h⟩
 ·have:=yF hi
  obtain⟨n,k1,h1,h⟩:=ze h
  obtain⟨t,k2,h2,h⟩:=ze h
  obtain⟨y,k3,h3,h⟩:=ze h
  have:=ym h1
  have:=zjg h2
  have:=ve h3
  cases h;omega
 rcases zw h with⟨hi,h⟩|⟨_,h⟩
 ·have:=yF hi
  obtain⟨t,k2,h2,h⟩:=ze h
  obtain⟨y,k3,h3,h⟩:=ze h
  have:i+1≤k2:=by
   rcases zw h2 with⟨_,h2⟩|⟨_,h2⟩
   ·cases h2;exact Nat.le_refl _
   ·have:=ym h2;omega
  have:=ve h3
  cases h;omega
 rcases zw h with⟨hi,h⟩|⟨_,h⟩
 ·have:=yF hi
  obtain⟨n,k1,h1,h⟩:=ze h
  obtain⟨y,k3,h3,h⟩:=ze h
  have:=ym h1
  have:=ve h3
  cases h;omega
 ·cases h
theorem zmn{f:Nat}(hf:10*l.length+13≤f)(i:Nat)(d:xk):zcW l f i d≠ .out:=by
 unfold zcW
 refine z6 (fun _=>zk (yY _) fun _ _ _=>zk (yG _ _) fun _ _ _=>zk (zbt _ _ _ (by omega)) fun _ _ _=>zY _ _) fun _=>?_
 refine z6 (fun _=>zk (zbs _) fun _ _ _=>zY _ _) fun _=>?_
 refine z6 (fun _=>zk (zml hf _) fun _ _ _=>zY _ _) fun _=>?_
 refine z6 (fun _=>zk (zfg hf _) fun _ _ _=>zY _ _) fun _=>?_
 refine z6 (fun _=>zk (yY _) fun _ _ _=>zk (zo7 _) fun _ _ _=>zk (vf hf _) fun _ _ _=>zY _ _) fun _=>?_
 refine z6 (fun _=>zk (z6 (fun _=>zY _ _) fun _=>yY _) fun _ _ _=>zk (vf hf _) fun _ _ _=>zY _ _) fun _=>?_
 refine z6 (fun _=>zk (yY _) fun _ _ _=>zk (vf hf _) fun _ _ _=>zY _ _) fun _=>?_
 intro h;cases h
theorem zdO{f:Nat}(hf:10*l.length+13≤f): ∀(g i:Nat) (d:xk),(l.length - i)+1≤g→itemsA l f g i d≠ .out
 |0,i,d,h=>by omega
 |g+1,i,d,h=>by
  unfold itemsA
  refine z6 (fun _=>zY _ _) fun _=>zk (zmn hf _ _) fun y k hk=>zdO hf g _ _ ?_
  have:=zmm hk
  omega
theorem zmo{f:Nat}(hf:10*l.length+13≤f):zcX l f≠ .out:=by
 unfold zcX
 exact zk (yG _ _) fun _ _ _=>zk (yY _) fun _ _ _=>zk (yG _ _) fun _ _ _=>zdO hf _ _ _ (by omega)
end
end Hw.Fr.Ps
namespace Hw.Fr.Ps
open Go Go.Proofs Hw.M
abbrev PJ(α:Type):=Option (α×Nat×Bool)
def PJ.ok{α:Type}(x:α)(i:Nat):PJ α:=some (x,i,false)
def PJ.no{α:Type}(x:α)(i:Nat):PJ α:=some (x,i,true)
def PJ.go{α β:Type}(r:PJ α)(f:α→Nat→PJ β)(g:α→β):PJ β:=match r with
 |none=>none
 |some (x,i,false)=>f x i
 |some (x,i,true)=>some (g x,i,true)
def PJ.er{α:Type}(r:PJ α):PA α:=match r with
 |none=> .out
 |some (x,i,false)=> .ok x i
 |some (_,i,true)=> .no i
theorem vh{α β:Type}(r:PJ α)(f:α→Nat→PJ β)(g:α→β):PJ.er (PJ.go r f g)=(PJ.er r).bind fun x i=>PJ.er (f x i):=by
 rcases r with _|⟨x,i,_|_⟩<;>rfl
theorem vB{α:Type}(x:α)(i:Nat):PJ.er (PJ.ok x i)= .ok x i:=rfl
theorem zjh{α:Type}(x:α)(i:Nat):PJ.er (PJ.no x i)= .no i:=rfl
theorem xW{α:Type}{c:Prop}[Decidable c](a b:PJ α):PJ.er (if c then a else b)=if c then PJ.er a else PJ.er b:=by split<;>rfl
abbrev E0:Ex:= .mk 0 0 (⟨#[]⟩:ByteArray) []
section
variable (l:List Tok)
def vi(s:Str)(i:Nat):PJ Unit:=if isA l i s=true then .ok () (i+1)else .no () i
def nameJ(i:Nat):PJ Str:=match l[i]? with
 |some t=>if t.k=1 then .ok t.t (i+1)else .no (⟨#[]⟩:ByteArray) i
 |none=> .no (⟨#[]⟩:ByteArray) i
def zji(i:Nat):PJ Int:=match l[i]? with
 |some t=>if t.k=2 then .ok t.n (i+1)else .no 0 i
 |none=> .no 0 i
def zfh(i:Nat):PJ Str:=if isA l i (⟨#[105,110,116]⟩:ByteArray)=true then .ok (⟨#[105,110,116]⟩:ByteArray) (i+1)else if isA l i (⟨#[98,111,111,108]⟩:ByteArray)=true then .ok (⟨#[98,111,111,108]⟩:ByteArray) (i+1)else nameJ l i
def xR(i:Nat):PJ Fld:=PJ.go (nameJ l i) (fun n i=>PJ.go (zfh l i) (fun t i=>PJ.ok ⟨n,t⟩ i) (fun t=>⟨n,t⟩)) (fun n=>⟨n,(⟨#[]⟩:ByteArray)⟩)
def listJ{α:Type}(z:α)(sep fin:Str)(one:Nat→PJ α):Nat→Nat→List α→PJ (List α)
 |0,_,_=>none
 |f+1,i,acc=>if isA l i fin=true then .ok acc (i+1)
  else PJ.go (if acc.length=0 then PJ.ok () i else vi l sep i) (fun _ i=>PJ.go (one i) (fun x i=>listJ z sep fin one f i (acc++[x])) (fun x=>acc++[x])) (fun _=>acc++[z])
mutual
def exprJ:Nat→Nat→Nat→PJ Ex
 |0,_,_=>none
 |f+1,n,i=>
  if n=2 then if isA l i (⟨#[110,111,116]⟩:ByteArray)=true then PJ.go (exprJ f 2 (i+1)) (fun x i=> .ok (.mk 18 0 (⟨#[]⟩:ByteArray) [x]) i) (fun x=> .mk 18 0 (⟨#[]⟩:ByteArray) [x])else exprJ f 3 i
  else if n=6 then if isA l i (⟨#[45]⟩:ByteArray)=true then PJ.go (exprJ f 6 (i+1)) (fun x i=> .ok (.mk 8 0 (⟨#[]⟩:ByteArray) [x]) i) (fun x=> .mk 8 0 (⟨#[]⟩:ByteArray) [x])else postJ f i
  else PJ.go (exprJ f (n+1) i) (fun x i=>moreJ f n x i) (fun x=>x)
def moreJ:Nat→Nat→Ex→Nat→PJ Ex
 |0,_,_,_=>none
 |f+1,n,x,i=>match opA l i n with
  |none=> .ok x i
  |some op=>PJ.go (exprJ f (n+1) (i+1)) (fun y i=>if n=3 then .ok (.mk op 0 (⟨#[]⟩:ByteArray) [x,y]) i else moreJ f n (.mk op 0 (⟨#[]⟩:ByteArray) [x,y]) i) (fun y=> .mk op 0 (⟨#[]⟩:ByteArray) [x,y])
def postJ:Nat→Nat→PJ Ex
 |0,_=>none
 |f+1,i=>PJ.go (primJ f i) (fun x i=>dotsJ f x i) (fun x=>x)
def dotsJ:Nat→Ex→Nat→PJ Ex
 |0,_,_=>none
 |f+1,x,i=>if isA l i (⟨#[46]⟩:ByteArray)=true then PJ.go (nameJ l (i+1)) (fun s i=>dotsJ f (.mk 5 0 s [x]) i) (fun s=> .mk 5 0 s [x])else .ok x i
def argsJ:Nat→Nat→List Ex→PJ (List Ex)
 |0,_,_=>none
 |f+1,i,acc=>if isA l i (⟨#[41]⟩:ByteArray)=true then .ok acc (i+1)
  else PJ.go (if acc.length=0 then PJ.ok () i else vi l (⟨#[44]⟩:ByteArray) i) (fun _ i=>PJ.go (exprJ f 0 i) (fun x i=>argsJ f i (acc++[x])) (fun x=>acc++[x])) (fun _=>acc++[E0])
def partsJ:Nat→Nat→Nat→List Ex→PJ (List Ex)
 |0,_,_,_=>none
 |f+1,k,i,acc=>if k=0 then PJ.go (vi l (⟨#[41]⟩:ByteArray) i) (fun _ i=> .ok acc i) (fun _=>acc)
  else PJ.go (vi l (if acc.length=0 then(⟨#[40]⟩:ByteArray)else(⟨#[44]⟩:ByteArray)) i) (fun _ i=>PJ.go (exprJ f 0 i) (fun x i=>partsJ f (k - 1) i (acc++[x])) (fun x=>acc++[x]++List.replicate (k - 1) E0)) (fun _=>acc++List.replicate k E0)
def primJ:Nat→Nat→PJ Ex
 |0,_=>none
 |f+1,i=>match l[i]? with
  |none=> .no E0 i
  |some t=>
   if t.k=2 then .ok (.mk 1 t.n (⟨#[]⟩:ByteArray) []) (i+1)
   else if t.k=1 then if isA l (i+1) (⟨#[40]⟩:ByteArray)=true then PJ.go (argsJ f (i+2) []) (fun a i=> .ok (.mk 7 0 t.t a) i) (fun a=> .mk 7 0 t.t a)else .ok (.mk 4 0 t.t []) (i+1)
   else if isA l i (⟨#[116,114,117,101]⟩:ByteArray)=true then .ok (.mk 2 1 (⟨#[]⟩:ByteArray) []) (i+1)
   else if isA l i (⟨#[102,97,108,115,101]⟩:ByteArray)=true then .ok (.mk 2 0 (⟨#[]⟩:ByteArray) []) (i+1)
   else if isA l i (⟨#[110,105,108]⟩:ByteArray)=true then .ok (.mk 3 0 (⟨#[]⟩:ByteArray) []) (i+1)
   else if isA l i (⟨#[116,104,105,115]⟩:ByteArray)=true then .ok (.mk 4 0 (⟨#[116,104,105,115]⟩:ByteArray) []) (i+1)
   else if isA l i (⟨#[110,101,119]⟩:ByteArray)=true then PJ.go (nameJ l (i+1)) (fun s i=> .ok (.mk 6 0 s []) i) (fun s=> .mk 6 0 s [])
   else if isA l i (⟨#[105,102]⟩:ByteArray)=true then PJ.go (partsJ f 3 (i+1) []) (fun a i=> .ok (.mk 21 0 (⟨#[]⟩:ByteArray) a) i) (fun a=> .mk 21 0 (⟨#[]⟩:ByteArray) a)
   else if isA l i (⟨#[109,97,120]⟩:ByteArray)=true then PJ.go (partsJ f 2 (i+1) []) (fun a i=> .ok (.mk 22 0 (⟨#[]⟩:ByteArray) a) i) (fun a=> .mk 22 0 (⟨#[]⟩:ByteArray) a)
   else if isA l i (⟨#[109,105,110]⟩:ByteArray)=true then PJ.go (partsJ f 2 (i+1) []) (fun a i=> .ok (.mk 23 0 (⟨#[]⟩:ByteArray) a) i) (fun a=> .mk 23 0 (⟨#[]⟩:ByteArray) a)
   else if isA l i (⟨#[108,111,103]⟩:ByteArray)=true then PJ.go (partsJ f 1 (i+1) []) (fun a i=> .ok (.mk 24 0 (⟨#[]⟩:ByteArray) a) i) (fun a=> .mk 24 0 (⟨#[]⟩:ByteArray) a)
   else if isA l i (⟨#[40]⟩:ByteArray)=true then PJ.go (exprJ f 0 (i+1)) (fun x i=>PJ.go (vi l (⟨#[41]⟩:ByteArray) i) (fun _ i=> .ok x i) (fun _=>x)) (fun x=>x)
   else .no E0 i
end
mutual
def stmtsJ:Nat→Nat→List Sm→PJ (List Sm)
 |0,_,_=>none
 |f+1,i,acc=>if isA l i ⟨#[125]⟩=true then .ok acc (i+1)else PJ.go (zaV f i) (fun s i=>stmtsJ f i (acc++[s])) (fun s=>acc++[s])
def wN:Nat→Nat→PJ (List Sm)
 |0,_=>none
 |f+1,i=>PJ.go (vi l ⟨#[123]⟩ i) (fun _ i=>stmtsJ f i []) (fun _=>[])
def zaV:Nat→Nat→PJ Sm
 |0,_=>none
 |f+1,i=>
  if isA l i (⟨#[105,102]⟩:ByteArray)=true then PJ.go (exprJ l f 0 (i+1)) (fun x i=>PJ.go (wN f i) (fun a i=>
   if isA l i (⟨#[101,108,115,101]⟩:ByteArray)=true then PJ.go (wN f (i+1)) (fun b i=> .ok (.mk 3 (⟨#[]⟩:ByteArray) [x] a b) i) (fun b=> .mk 3 (⟨#[]⟩:ByteArray) [x] a b)else .ok (.mk 3 (⟨#[]⟩:ByteArray) [x] a []) i) (fun a=> .mk 3 (⟨#[]⟩:ByteArray) [x] a [])) (fun x=> .mk 3 (⟨#[]⟩:ByteArray) [x] [] [])
  else if isA l i (⟨#[119,104,105,108,101]⟩:ByteArray)=true then PJ.go (exprJ l f 0 (i+1)) (fun x i=>PJ.go (wN f i) (fun a i=> .ok (.mk 4 (⟨#[]⟩:ByteArray) [x] a []) i) (fun a=> .mk 4 (⟨#[]⟩:ByteArray) [x] a [])) (fun x=> .mk 4 (⟨#[]⟩:ByteArray) [x] [] [])
  else if isA l i (⟨#[114,101,116,117,114,110]⟩:ByteArray)=true then
   if isA l (i+1) (⟨#[59]⟩:ByteArray)=true then .ok (.mk 5 (⟨#[]⟩:ByteArray) [] [] []) (i+2)
   else PJ.go (exprJ l f 0 (i+1)) (fun x i=>PJ.go (vi l (⟨#[59]⟩:ByteArray) i) (fun _ i=> .ok (.mk 5 (⟨#[]⟩:ByteArray) [x] [] []) i) (fun _=> .mk 5 (⟨#[]⟩:ByteArray) [x] [] [])) (fun x=> .mk 5 (⟨#[]⟩:ByteArray) [x] [] [])
  else PJ.go (postJ l f i) (fun x i=>
   if isA l i (⟨#[61]⟩:ByteArray)=true∧x.op=4∧x.s≠(⟨#[116,104,105,115]⟩:ByteArray)then PJ.go (exprJ l f 0 (i+1)) (fun y i=>PJ.go (vi l (⟨#[59]⟩:ByteArray) i) (fun _ i=> .ok (.mk 1 x.s [y] [] []) i) (fun _=> .mk 1 x.s [y] [] [])) (fun y=> .mk 1 x.s [y] [] [])
   else if isA l i (⟨#[61]⟩:ByteArray)=true∧x.op=5 then PJ.go (exprJ l f 0 (i+1)) (fun y i=>PJ.go (vi l (⟨#[59]⟩:ByteArray) i) (fun _ i=> .ok (.mk 2 x.s (x.l.take 1++[y]) [] []) i) (fun _=> .mk 2 x.s (x.l.take 1++[y]) [] [])) (fun y=> .mk 2 x.s (x.l.take 1++[y]) [] [])
   else if x.op=7 then PJ.go (vi l (⟨#[59]⟩:ByteArray) i) (fun _ i=> .ok (.mk 6 (⟨#[]⟩:ByteArray) [x] [] []) i) (fun _=> .mk 6 (⟨#[]⟩:ByteArray) [x] [] [])
   else .no (.mk 6 (⟨#[]⟩:ByteArray) [x] [] []) i) (fun x=> .mk 6 (⟨#[]⟩:ByteArray) [x] [] [])
end
def locsJ:Nat→Nat→List Fld→PJ (List Fld)
 |0,_,_=>none
 |f+1,i,acc=>if isA l i (⟨#[108,111,99,97,108]⟩:ByteArray)=true then PJ.go (xR l (i+1)) (fun x i=>PJ.go (vi l (⟨#[59]⟩:ByteArray) i) (fun _ i=>locsJ f i (acc++[x])) (fun _=>acc++[x])) (fun x=>acc++[x])else .ok acc i
def zjj(f i:Nat):PJ Pr:=PJ.go (nameJ l i) (fun n i=>PJ.go (vi l (⟨#[40]⟩:ByteArray) i) (fun _ i=>PJ.go (listJ l ⟨(⟨#[]⟩:ByteArray),(⟨#[]⟩:ByteArray)⟩ (⟨#[44]⟩:ByteArray) (⟨#[41]⟩:ByteArray) (xR l) f i []) (fun ps i=>
 PJ.go (if isA l i ⟨#[123]⟩=true then PJ.ok (⟨#[]⟩:ByteArray) i else zfh l i) (fun r i=>PJ.go (vi l ⟨#[123]⟩ i) (fun _ i=>PJ.go (locsJ l f i []) (fun ls i=>
 PJ.go (stmtsJ l f i []) (fun b i=> .ok ⟨n,ps,r,ls,b⟩ i) (fun b=>⟨n,ps,r,ls,b⟩)) (fun ls=>⟨n,ps,r,ls,[]⟩)) (fun _=>⟨n,ps,r,[],[]⟩)) (fun r=>⟨n,ps,r,[],[]⟩)) (fun ps=>⟨n,ps,(⟨#[]⟩:ByteArray),[],[]⟩)) (fun _=>⟨n,[],(⟨#[]⟩:ByteArray),[],[]⟩)) (fun n=>⟨n,[],(⟨#[]⟩:ByteArray),[],[]⟩)
def xM(f i:Nat):PJ Ex:=PJ.go (vi l (⟨#[61]⟩:ByteArray) i) (fun _ i=>exprJ l f 0 i) (fun _=>E0)
def jT(f i:Nat):PJ Ms:=PJ.go (nameJ l i) (fun n i=>PJ.go (vi l (⟨#[40]⟩:ByteArray) i) (fun _ i=>PJ.go (nameJ l i) (fun t i=>PJ.go (vi l (⟨#[41]⟩:ByteArray) i) (fun _ i=>PJ.go (vi l (⟨#[110,105,108]⟩:ByteArray) i) (fun _ i=>
 PJ.go (zji l (if isA l i (⟨#[45]⟩:ByteArray)=true then i+1 else i)) (fun z i'=>PJ.go (xM l f i') (fun x j=> .ok ⟨n,t,if isA l i (⟨#[45]⟩:ByteArray)=true then -z else z,x⟩ j) (fun x=>⟨n,t,if isA l i (⟨#[45]⟩:ByteArray)=true then -z else z,x⟩)) (fun _=>⟨n,t,0,E0⟩))
 (fun _=>⟨n,t,0,E0⟩)) (fun _=>⟨n,t,0,E0⟩)) (fun t=>⟨n,t,0,E0⟩)) (fun _=>⟨n,(⟨#[]⟩:ByteArray),0,E0⟩)) (fun n=>⟨n,(⟨#[]⟩:ByteArray),0,E0⟩)
def wD(f i:Nat)(d:xk):PJ xk:=
 if isA l i (⟨#[116,121,112,101]⟩:ByteArray)=true then PJ.go (nameJ l (i+1)) (fun n i=>PJ.go (vi l ⟨#[123]⟩ i) (fun _ i=>PJ.go (listJ l ⟨(⟨#[]⟩:ByteArray),(⟨#[]⟩:ByteArray)⟩ (⟨#[59]⟩:ByteArray) ⟨#[125]⟩ (xR l) f i []) (fun fs i=> .ok { d with types:=d.types++[⟨n,fs⟩] } i) (fun fs=>{ d with types:=d.types++[⟨n,fs⟩] }))
  (fun _=>{ d with types:=d.types++[⟨n,[]⟩] })) (fun n=>{ d with types:=d.types++[⟨n,[]⟩] })
 else if isA l i (⟨#[118,97,114]⟩:ByteArray)=true then PJ.go (xR l (i+1)) (fun x i=> .ok { d with globals:=d.globals++[x] } i) (fun x=>{ d with globals:=d.globals++[x] })
 else if isA l i (⟨#[112,114,111,99]⟩:ByteArray)=true then PJ.go (zjj l f (i+1)) (fun p i=> .ok { d with procs:=d.procs++[p] } i) (fun p=>{ d with procs:=d.procs++[p] })
 else if isA l i (⟨#[109,101,97,115,117,114,101]⟩:ByteArray)=true then PJ.go (jT l f (i+1)) (fun m i=> .ok { d with measures:=d.measures++[m] } i) (fun m=>{ d with measures:=d.measures++[m] })
 else if isA l i (⟨#[105,110,118,97,114,105,97,110,116]⟩:ByteArray)=true then PJ.go (nameJ l (i+1)) (fun n i=>
  PJ.go (if isA l i (⟨#[40]⟩:ByteArray)=true then PJ.go (nameJ l (i+1)) (fun t i=>PJ.go (vi l (⟨#[41]⟩:ByteArray) i) (fun _ i=> .ok t i) (fun _=>t)) (fun t=>t)else PJ.ok (⟨#[]⟩:ByteArray) i) (fun t i=>PJ.go (xM l f i) (fun x i=> .ok { d with invs:=d.invs++[⟨n,t,x⟩] } i) (fun x=>{ d with invs:=d.invs++[⟨n,t,x⟩] }))
   (fun t=>{ d with invs:=d.invs++[⟨n,t,E0⟩] })) (fun n=>{ d with invs:=d.invs++[⟨n,(⟨#[]⟩:ByteArray),E0⟩] })
 else if isA l i (⟨#[112,111,116,101,110,116,105,97,108]⟩:ByteArray)=true then PJ.go (if isA l (i+1) (⟨#[61]⟩:ByteArray)=true then PJ.ok (⟨#[]⟩:ByteArray) (i+1)else nameJ l (i+1)) (fun t i=>PJ.go (xM l f i) (fun x i=> .ok { d with pots:=d.pots++[⟨t,x⟩] } i) (fun x=>{ d with pots:=d.pots++[⟨t,x⟩] })) (fun t=>{ d with pots:=d.pots++[⟨t,E0⟩] })
 else if isA l i (⟨#[98,111,117,110,100]⟩:ByteArray)=true then PJ.go (nameJ l (i+1)) (fun n i=>PJ.go (xM l f i) (fun x i=> .ok { d with bounds:=d.bounds++[⟨n,x⟩] } i) (fun x=>{ d with bounds:=d.bounds++[⟨n,x⟩] })) (fun n=>{ d with bounds:=d.bounds++[⟨n,E0⟩] })
 else .no d i
def itemsJ(f:Nat):Nat→Nat→xk→PJ xk
 |0,_,_=>none
 |g+1,i,d=>if isA l i ⟨#[125]⟩=true then .ok d (i+1)else PJ.go (wD l f i d) (fun d i=>itemsJ f g i d) (fun d=>d)
def zo8(f:Nat):PJ xk:=PJ.go (vi l (⟨#[100,101,115,99]⟩:ByteArray) 0) (fun _ i=>PJ.go (nameJ l i) (fun n i=>PJ.go (vi l ⟨#[123]⟩ i) (fun _ i=>itemsJ l f f i ⟨n,[],[],[],[],[],[],[]⟩) (fun _=>⟨n,[],[],[],[],[],[],[]⟩)) (fun n=>⟨n,[],[],[],[],[],[],[]⟩)) (fun _=>⟨(⟨#[]⟩:ByteArray),[],[],[],[],[],[],[]⟩)
variable {l}
theorem vy(s:Str)(i:Nat):PJ.er (vi l s i)=jz l s i:=by unfold vi jz;split<;>rfl
theorem vF(i:Nat):PJ.er (nameJ l i)=wq l i:=by
 unfold nameJ wq;cases l[i]? with
 |none=>rfl
 |some t=>simp only[xW,vB,zjh]
theorem zq8(i:Nat):PJ.er (zji l i)=zo4 l i:=by
 unfold zji zo4;cases l[i]? with
 |none=>rfl
 |some t=>simp only[xW,vB,zjh]
theorem zn8(i:Nat):PJ.er (zfh l i)=zn7 l i:=by unfold zfh zn7;simp only[xW,vB,vF]
theorem za4(i:Nat):PJ.er (xR l i)=wu l i:=by unfold xR wu;simp only[vh,vF,zn8,vB]
theorem zjk{α:Type}(z:α)(sep fin:Str)(one:Nat→PJ α): ∀(f i:Nat) (acc:List α),PJ.er (listJ l z sep fin one f i acc)=listA l sep fin (fun i=>PJ.er (one i)) f i acc
 |0,_,_=>rfl
 |f+1,i,acc=>by
  simp only[listJ,listA,xW,vh,vB,vy]
  congr 1;congr 1;funext _ i;congr 1;funext x i
  exact zjk z sep fin one f i _
theorem zbu: ∀f:Nat,(∀n i,PJ.er (exprJ l f n i)=exprA l f n i)∧(∀n x i,PJ.er (moreJ l f n x i)=moreA l f n x i)∧(∀i,PJ.er (postJ l f i)=postA l f i)∧(∀x i,PJ.er (dotsJ l f x i)=dotsA l f x i)∧
 (∀i a,PJ.er (argsJ l f i a)=argsP l f i a)∧(∀k i a,PJ.er (partsJ l f k i a)=partsA l f k i a)∧(∀i,PJ.er (primJ l f i)=primA l f i):=by
 intro f
 induction f with
 |zero=>exact⟨fun _ _=>by simp only[exprJ,exprA];rfl,fun _ _ _=>by simp only[moreJ,moreA];rfl,fun _=>by simp only[postJ,postA];rfl,fun _ _=>by simp only[dotsJ,dotsA];rfl,fun _ _=>by simp only[argsJ,argsP];rfl,fun _ _ _=>by simp only[partsJ,partsA];rfl,fun _=>by simp only[primJ,primA];rfl⟩
 |succ f ih=>
  obtain⟨h1,h2,h3,h4,h5,h6,h7⟩:=ih
  refine⟨fun n i=>?_,fun n x i=>?_,fun i=>?_,fun x i=>?_,fun i a=>?_,fun k i a=>?_,fun i=>?_⟩
  ·simp only[exprJ,exprA,xW,vh,vB,h1,h2,h3]
  ·simp only[moreJ,moreA]
   cases opA l i n with
   |none=>rfl
   |some op=>simp only[xW,vh,vB,h1,h2]
  ·simp only[postJ,postA,vh,h7,h4]
  ·simp only[dotsJ,dotsA,xW,vh,vB,vF,h4]
  ·simp only[argsJ,argsP,xW,vh,vB,vy,h1,h5]
  ·simp only[partsJ,partsA,xW,vh,vB,vy,h1,h6]
  ·simp only[primJ,primA]
   cases l[i]? with
   |none=>rfl
   |some t=>simp only[xW,vh,vB,zjh,vy,vF,h1,h5,h6]
theorem zjl: ∀f:Nat,(∀i a,PJ.er (stmtsJ l f i a)=stmtsA l f i a)∧(∀i,PJ.er (wN l f i)=wG l f i)∧(∀i,PJ.er (zaV l f i)=zaU l f i):=by
 intro f
 induction f with
 |zero=>exact⟨fun _ _=>by simp only[stmtsJ,stmtsA];rfl,fun _=>by simp only[wN,wG];rfl,fun _=>by simp only[zaV,zaU];rfl⟩
 |succ f ih=>
  obtain⟨h1,h2,h3⟩:=ih
  have hE:=(zbu (l:=l) f).1
  have hP:=(zbu (l:=l) f).2.2.1
  refine⟨fun i a=>?_,fun i=>?_,fun i=>?_⟩
  ·simp only[stmtsJ,stmtsA,xW,vh,vB,h1,h3]
  ·simp only[wN,wG,vh,vy,h1]
  ·simp only[zaV,zaU,xW,vh,vB,zjh,vy,hE,hP,h2]
theorem zjm: ∀(f i:Nat) (acc:List Fld),PJ.er (locsJ l f i acc)=locsA l f i acc
 |0,_,_=>rfl
 |f+1,i,acc=>by simp only[locsJ,locsA,xW,vh,vB,vy,za4,zjm f]
theorem zgs(sep fin:Str)(f i:Nat)(acc:List Fld):PJ.er (listJ l ⟨(⟨#[]⟩:ByteArray),(⟨#[]⟩:ByteArray)⟩ sep fin (xR l) f i acc)=listA l sep fin (wu l) f i acc:=by
 rw[zjk];congr 1;funext i;exact za4 i
theorem zch(f i:Nat):PJ.er (xM l f i)=xc l f i:=by simp only[xM,xc,vh,vy,(zbu f).1]
theorem zo9(f i:Nat):PJ.er (zjj l f i)=zcV l f i:=by
 simp only[zjj,zcV,vh,xW,vB,vy,vF,zn8,zgs,zjm,(zjl f).1]
theorem zhE(f i:Nat):PJ.er (jT l f i)=x5 l f i:=by
 simp only[jT,x5,vh,vB,vy,vF,zq8,zch]
theorem zpa(f i:Nat)(d:xk):PJ.er (wD l f i d)=zcW l f i d:=by
 simp only[wD,zcW,vh,xW,vB,zjh,vy,vF,za4,zgs,zch,zo9,zhE]
theorem zgt(f:Nat): ∀(g i:Nat) (d:xk),PJ.er (itemsJ l f g i d)=itemsA l f g i d
 |0,_,_=>rfl
 |g+1,i,d=>by simp only[itemsJ,itemsA,xW,vB,vh,zpa,zgt f g]
theorem zpb(f:Nat):PJ.er (zo8 l f)=zcX l f:=by simp only[zo8,zcX,vh,vy,vF,zgt]
end
end Hw.Fr.Ps
namespace Hw.Fr.Ps
open Go Go.Proofs Hw.M
def idxR{α σ:Type}(p:α→σ→Bool)(nx:α→σ→σ):List α→Nat→σ→Int×σ
 | [],_,s=>(-1,s)
 |x::r,k,s=>if p x s=true then((k:Int),nx x s)else idxR p nx r (k+1) (nx x s)
def anyR{α σ:Type}(p:α→σ→Bool)(nx:α→σ→σ):List α→σ→Bool×σ
 | [],s=>(false,s)
 |x::r,s=>if p x s=true then(true,nx x s)else anyR p nx r (nx x s)
theorem jA{α σ:Type}(p:α→σ→Bool)(nx:α→σ→σ): ∀(l:List α) (k:Nat) (s:σ),∃i s',idxR p nx l k s=(i,s')∧anyR p nx l s=(decide (0≤i),s')
 | [],k,s=>⟨-1,s,rfl,rfl⟩
 |x::r,k,s=>by
  simp only[idxR,anyR]
  by_cases h:p x s=true
  ·exact⟨k,nx x s,if_pos h,by rw[if_pos h,decide_eq_true (by omega)]⟩
  ·rw[if_neg h,if_neg h];exact jA p nx r (k+1) (nx x s)
theorem jo{α σ:Type}(p:α→σ→Bool)(nx:α→σ→σ)(l:List α)(k:Nat)(s:σ):decide (0≤(idxR p nx l k s).1)=(anyR p nx l s).1:=by
 obtain⟨i,s',h1,h2⟩:=jA p nx l k s
 simp only[h1,h2]
theorem jq{α σ:Type}(p:α→σ→Bool)(nx:α→σ→σ)(l:List α)(k:Nat)(s:σ):(idxR p nx l k s).2=(anyR p nx l s).2:=by
 obtain⟨i,s',h1,h2⟩:=jA p nx l k s
 simp only[h1,h2]
theorem vj{α:Type}(p:α→Bool): ∀(l:List α) (s:Unit),(anyR (fun x _=>p x) (fun _ s=>s) l s).1=l.any p
 | [],_=>rfl
 |x::r,s=>by
  simp only[anyR,List.any_cons]
  cases h:p x with
  |true=>rfl
  |false=>simp only[Bool.false_eq_true,if_false,Bool.false_or];exact vj p r s
theorem zjn(f:FuncId)(dp:Int)(l:List Ex)(p:Ex→Int→Bool)(nx:Ex→Int→Int)(inv:Int→Prop)
 (hf: ∀x∈l,∀s:Int,inv s→zj Tryz.prog f [zz (yQ x),.one (.bx 1 0),.one (.bx 2 0)] [(0,.box [.p (ki s)]),(1,.box [.p (ki dp)]),(2,.box [.bx 0 0])] (.bq (p x s)) ((fun s:Int=>[(0,.box [.p (ki s)]),(1,.box [.p (ki dp)]),(2,.box [.bx 0 0])]) (nx x s))∧(p x s=false→inv (nx x s))) (s:Int) (hs:inv s):
 zj Tryz.prog 304 [pS (.sl 4 (l.map zO)),.one (.cl f [] [.bx 1 0,.bx 2 0])] [(0,.box [.p (ki s)]),(1,.box [.p (ki dp)]),(2,.box [.bx 0 0])] (I (idxR p nx l 0 s).1) ((fun s:Int=>[(0,.box [.p (ki s)]),(1,.box [.p (ki dp)]),(2,.box [.bx 0 0])]) (idxR p nx l 0 s).2):=by
 refine gO T Tryz.func304 fun C hC=>?_
 have hs0:=hs
 refine w9 0 rfl fun hl=>?_
 rw[List.length_map]at hl
 repeat' first|refine gG ?_|refine gB (fun h=>?_) (fun h=>?_)
 rw[List.length_map]
 refine zy (fun q:Nat×Int=>q.1≤l.length∧inv q.2∧idxR p nx (l.drop q.1) q.1 q.2=idxR p nx l 0 s) (fun q=>(fun s:Int=>([(0,pS (.sl 4 (l.map zO))),(1,.one (.cl f [] [.bx 1 0,.bx 2 0])),(7,I l.length),(8,I q.1)],[(0,some (.box [.p (ki s)])),(1,some (.box [.p (ki dp)])),(2,some (.box [.bx 0 0]))])) q.2) (fun q=>l.length - q.1) hC
  (0,s) ⟨Nat.zero_le _,hs,rfl⟩ id gM ?_
 generalize idxR p nx l 0 s=res
 clear hs hs0
 rintro⟨i,s⟩ ⟨hi,hv,hn⟩
 simp only at hi hv hn
 refine zI T hC true 200 rfl ?_
 refine zP rfl (fun hh=>?_) (fun hh=>?_)
 ·have hlt:i<l.length:=by simpa using hh
  clear hh
  obtain⟨x,hx⟩:=zf hlt
  rw[drop_at hx]at hn
  simp only[idxR]at hn
  have hv2:=(hf x (List.mem_of_getElem? hx) s hv).2
  repeat' first|refine gG ?_|refine gB (fun h=>?_) (fun h=>?_)|refine gI T (zaj hx) ?_|refine zr hC (hf x (List.mem_of_getElem? hx) s hv).1 id rfl rfl (yJ.refl _) rfl rfl rfl rfl rfl rfl rfl rfl ?_|refine zT ?_
  ·rw[if_pos (by assumption)]at hn
   subst hn
   exact zg ⟨.inl rfl,id,_,rfl,.refl _,⟨rfl,rfl,rfl,trivial⟩,rfl,rfl⟩
  ·have hpf:p x s=false:=by assumption
   rw[hpf]at hn
   simp only[Bool.false_eq_true,if_false]at hn
   rw[wrap64 (by omega)]
   exact zh (i+1,nx x s) ⟨by simp only;omega,hv2 hpf,hn⟩ id (by simp only;omega) gM
 ·have hge: ¬i<l.length:=by simpa using hh
  rw[List.drop_eq_nil_of_le (by omega)]at hn
  simp only[idxR]at hn
  subst hn
  repeat' first|refine gG ?_|refine gB (fun h=>?_) (fun h=>?_)|refine zp ?_
  exact zg ⟨.inl rfl,id,_,rfl,.refl _,⟨rfl,rfl,rfl,trivial⟩,rfl,rfl⟩
theorem zjo(f:FuncId)(dp:Int)(l:List Ex)(p:Ex→Int→Bool)(nx:Ex→Int→Int)(inv:Int→Prop)
 (hf: ∀x∈l,∀s:Int,inv s→zj Tryz.prog f [zz (yQ x),.one (.bx 1 0),.one (.bx 2 0)] [(0,.box [.p (ki s)]),(1,.box [.p (ki dp)]),(2,.box [.bx 0 0])] (.bq (p x s)) ((fun s:Int=>[(0,.box [.p (ki s)]),(1,.box [.p (ki dp)]),(2,.box [.bx 0 0])]) (nx x s))∧(p x s=false→inv (nx x s))) (s:Int) (hs:inv s):
 zj Tryz.prog 277 [pS (.sl 4 (l.map zO)),.one (.cl f [] [.bx 1 0,.bx 2 0])] [(0,.box [.p (ki s)]),(1,.box [.p (ki dp)]),(2,.box [.bx 0 0])] (.bq (anyR p nx l s).1) ((fun s:Int=>[(0,.box [.p (ki s)]),(1,.box [.p (ki dp)]),(2,.box [.bx 0 0])]) (anyR p nx l s).2):=by
 refine gO T Tryz.func277 fun C hC=>?_
 repeat' first|refine gG ?_|refine gB (fun h=>?_) (fun h=>?_)|refine gR (zjn f dp l p nx inv hf s hs) (nm [0,1,2]) ?_
 exact zg ⟨.inl rfl,id,_,rfl,.qq (jo p nx l 0 s),by rw[←jq p nx l 0 s];exact⟨rfl,rfl,rfl,trivial⟩,rfl,rfl⟩
theorem zjp(f:FuncId)(l:List Ex)(p:Ex→Unit→Bool)(nx:Ex→Unit→Unit)(inv:Unit→Prop)
 (hf: ∀x∈l,∀s:Unit,inv s→zj Tryz.prog f [zz (yQ x)] [] (.bq (p x s)) ((fun s:Unit=>[]) (nx x s))∧(p x s=false→inv (nx x s))) (s:Unit) (hs:inv s):
 zj Tryz.prog 304 [pS (.sl 4 (l.map zO)),.one (.cl f [] [])] [] (I (idxR p nx l 0 s).1) ((fun s:Unit=>[]) (idxR p nx l 0 s).2):=by
 refine gO T Tryz.func304 fun C hC=>?_
 have hs0:=hs
 refine w9 0 rfl fun hl=>?_
 rw[List.length_map]at hl
 repeat' first|refine gG ?_|refine gB (fun h=>?_) (fun h=>?_)
 rw[List.length_map]
 refine zy (fun q:Nat×Unit=>q.1≤l.length∧inv q.2∧idxR p nx (l.drop q.1) q.1 q.2=idxR p nx l 0 s) (fun q=>(fun s:Unit=>([(0,pS (.sl 4 (l.map zO))),(1,.one (.cl f [] [])),(7,I l.length),(8,I q.1)],[])) q.2) (fun q=>l.length - q.1) hC
  (0,s) ⟨Nat.zero_le _,hs,rfl⟩ id gM ?_
 generalize idxR p nx l 0 s=res
 clear hs hs0
 rintro⟨i,s⟩ ⟨hi,hv,hn⟩
 simp only at hi hv hn
 refine zI T hC true 200 rfl ?_
 refine zP rfl (fun hh=>?_) (fun hh=>?_)
 ·have hlt:i<l.length:=by simpa using hh
  clear hh
  obtain⟨x,hx⟩:=zf hlt
  rw[drop_at hx]at hn
  simp only[idxR]at hn
  have hv2:=(hf x (List.mem_of_getElem? hx) s hv).2
  repeat' first|refine gG ?_|refine gB (fun h=>?_) (fun h=>?_)|refine gI T (zaj hx) ?_|refine zr hC (hf x (List.mem_of_getElem? hx) s hv).1 id rfl rfl (yJ.refl _) rfl rfl rfl rfl rfl rfl rfl rfl ?_|refine zT ?_
  ·rw[if_pos (by assumption)]at hn
   subst hn
   exact gF
  ·have hpf:p x s=false:=by assumption
   rw[hpf]at hn
   simp only[Bool.false_eq_true,if_false]at hn
   rw[wrap64 (by omega)]
   exact zh (i+1,nx x s) ⟨by simp only;omega,hv2 hpf,hn⟩ id (by simp only;omega) gM
 ·have hge: ¬i<l.length:=by simpa using hh
  rw[List.drop_eq_nil_of_le (by omega)]at hn
  simp only[idxR]at hn
  subst hn
  repeat' first|refine gG ?_|refine gB (fun h=>?_) (fun h=>?_)|refine zp ?_
  exact gF
theorem zjq(f:FuncId)(l:List Ex)(p:Ex→Unit→Bool)(nx:Ex→Unit→Unit)(inv:Unit→Prop)
 (hf: ∀x∈l,∀s:Unit,inv s→zj Tryz.prog f [zz (yQ x)] [] (.bq (p x s)) ((fun s:Unit=>[]) (nx x s))∧(p x s=false→inv (nx x s))) (s:Unit) (hs:inv s):
 zj Tryz.prog 277 [pS (.sl 4 (l.map zO)),.one (.cl f [] [])] [] (.bq (anyR p nx l s).1) ((fun s:Unit=>[]) (anyR p nx l s).2):=by
 refine gO T Tryz.func277 fun C hC=>?_
 repeat' first|refine gG ?_|refine gB (fun h=>?_) (fun h=>?_)|refine gR (zjp f l p nx inv hf s hs) (nm []) ?_
 exact zg ⟨.inl rfl,id,_,rfl,.qq (jo p nx l 0 s),by rw[←jq p nx l 0 s];exact trivial,rfl,rfl⟩
theorem zjr(f:FuncId)(l:List Ex)(p:Ex→Bool)(hf: ∀x∈l,zj Tryz.prog f [zz (yQ x)] [] (.bq (p x)) []):zj Tryz.prog 277 [pS (.sl 4 (l.map zO)),.one (.cl f [] [])] [] (.bq (l.any p)) []:=by
 have:=zjq f l (fun x _=>p x) (fun _ s=>s) (fun _=>True) (fun x hx s _=>⟨hf x hx,fun _=>trivial⟩) () trivial
 rw[vj]at this
 exact this
theorem zhF(f:FuncId)(l:List Fld)(p:Fld→Unit→Bool)(nx:Fld→Unit→Unit)(inv:Unit→Prop)
 (hf: ∀x∈l,∀s:Unit,inv s→zj Tryz.prog f [zz (zn x)] [] (.bq (p x s)) ((fun s:Unit=>[]) (nx x s))∧(p x s=false→inv (nx x s))) (s:Unit) (hs:inv s):
 zj Tryz.prog 272 [pS (.sl 2 (l.map zn)),.one (.cl f [] [])] [] (I (idxR p nx l 0 s).1) ((fun s:Unit=>[]) (idxR p nx l 0 s).2):=by
 refine gO T Tryz.func272 fun C hC=>?_
 have hs0:=hs
 refine w9 0 rfl fun hl=>?_
 rw[List.length_map]at hl
 repeat' first|refine gG ?_|refine gB (fun h=>?_) (fun h=>?_)
 rw[List.length_map]
 refine zy (fun q:Nat×Unit=>q.1≤l.length∧inv q.2∧idxR p nx (l.drop q.1) q.1 q.2=idxR p nx l 0 s) (fun q=>(fun s:Unit=>([(0,pS (.sl 2 (l.map zn))),(1,.one (.cl f [] [])),(7,I l.length),(8,I q.1)],[])) q.2) (fun q=>l.length - q.1) hC
  (0,s) ⟨Nat.zero_le _,hs,rfl⟩ id gM ?_
 generalize idxR p nx l 0 s=res
 clear hs hs0
 rintro⟨i,s⟩ ⟨hi,hv,hn⟩
 simp only at hi hv hn
 refine zI T hC true 200 rfl ?_
 refine zP rfl (fun hh=>?_) (fun hh=>?_)
 ·have hlt:i<l.length:=by simpa using hh
  clear hh
  obtain⟨x,hx⟩:=zf hlt
  rw[drop_at hx]at hn
  simp only[idxR]at hn
  have hv2:=(hf x (List.mem_of_getElem? hx) s hv).2
  repeat' first|refine gG ?_|refine gB (fun h=>?_) (fun h=>?_)|refine gI T (zu hx) ?_|refine zr hC (hf x (List.mem_of_getElem? hx) s hv).1 id rfl rfl (yJ.refl _) rfl rfl rfl rfl rfl rfl rfl rfl ?_|refine zT ?_
  ·rw[if_pos (by assumption)]at hn
   subst hn
   exact gF
  ·have hpf:p x s=false:=by assumption
   rw[hpf]at hn
   simp only[Bool.false_eq_true,if_false]at hn
   rw[wrap64 (by omega)]
   exact zh (i+1,nx x s) ⟨by simp only;omega,hv2 hpf,hn⟩ id (by simp only;omega) gM
 ·have hge: ¬i<l.length:=by simpa using hh
  rw[List.drop_eq_nil_of_le (by omega)]at hn
  simp only[idxR]at hn
  subst hn
  repeat' first|refine gG ?_|refine gB (fun h=>?_) (fun h=>?_)|refine zp ?_
  exact gF
theorem zhG(f:FuncId)(l:List Fld)(p:Fld→Unit→Bool)(nx:Fld→Unit→Unit)(inv:Unit→Prop)
 (hf: ∀x∈l,∀s:Unit,inv s→zj Tryz.prog f [zz (zn x)] [] (.bq (p x s)) ((fun s:Unit=>[]) (nx x s))∧(p x s=false→inv (nx x s))) (s:Unit) (hs:inv s):
 zj Tryz.prog 229 [pS (.sl 2 (l.map zn)),.one (.cl f [] [])] [] (.bq (anyR p nx l s).1) ((fun s:Unit=>[]) (anyR p nx l s).2):=by
 refine gO T Tryz.func229 fun C hC=>?_
 repeat' first|refine gG ?_|refine gB (fun h=>?_) (fun h=>?_)|refine gR (zhF f l p nx inv hf s hs) (nm []) ?_
 exact zg ⟨.inl rfl,id,_,rfl,.qq (jo p nx l 0 s),by rw[←jq p nx l 0 s];exact trivial,rfl,rfl⟩
theorem zhH(f:FuncId)(l:List Fld)(p:Fld→Bool)(hf: ∀x∈l,zj Tryz.prog f [zz (zn x)] [] (.bq (p x)) []):zj Tryz.prog 229 [pS (.sl 2 (l.map zn)),.one (.cl f [] [])] [] (.bq (l.any p)) []:=by
 have:=zhG f l (fun x _=>p x) (fun _ s=>s) (fun _=>True) (fun x hx s _=>⟨hf x hx,fun _=>trivial⟩) () trivial
 rw[vj]at this
 exact this
theorem zhI(f:FuncId)(l:List Bd)(p:Bd→Unit→Bool)(nx:Bd→Unit→Unit)(inv:Unit→Prop)
 (hf: ∀x∈l,∀s:Unit,inv s→zj Tryz.prog f [zz (yC x)] [] (.bq (p x s)) ((fun s:Unit=>[]) (nx x s))∧(p x s=false→inv (nx x s))) (s:Unit) (hs:inv s):
 zj Tryz.prog 274 [pS (.sl 5 (l.map yC)),.one (.cl f [] [])] [] (I (idxR p nx l 0 s).1) ((fun s:Unit=>[]) (idxR p nx l 0 s).2):=by
 refine gO T Tryz.func274 fun C hC=>?_
 have hs0:=hs
 refine w9 0 rfl fun hl=>?_
 rw[List.length_map]at hl
 repeat' first|refine gG ?_|refine gB (fun h=>?_) (fun h=>?_)
 rw[List.length_map]
 refine zy (fun q:Nat×Unit=>q.1≤l.length∧inv q.2∧idxR p nx (l.drop q.1) q.1 q.2=idxR p nx l 0 s) (fun q=>(fun s:Unit=>([(0,pS (.sl 5 (l.map yC))),(1,.one (.cl f [] [])),(7,I l.length),(8,I q.1)],[])) q.2) (fun q=>l.length - q.1) hC
  (0,s) ⟨Nat.zero_le _,hs,rfl⟩ id gM ?_
 generalize idxR p nx l 0 s=res
 clear hs hs0
 rintro⟨i,s⟩ ⟨hi,hv,hn⟩
 simp only at hi hv hn
 refine zI T hC true 200 rfl ?_
 refine zP rfl (fun hh=>?_) (fun hh=>?_)
 ·have hlt:i<l.length:=by simpa using hh
  clear hh
  obtain⟨x,hx⟩:=zf hlt
  rw[drop_at hx]at hn
  simp only[idxR]at hn
  have hv2:=(hf x (List.mem_of_getElem? hx) s hv).2
  repeat' first|refine gG ?_|refine gB (fun h=>?_) (fun h=>?_)|refine gI T (zu hx) ?_|refine zr hC (hf x (List.mem_of_getElem? hx) s hv).1 id rfl rfl (yJ.refl _) rfl rfl rfl rfl rfl rfl rfl rfl ?_|refine zT ?_
  ·rw[if_pos (by assumption)]at hn
   subst hn
   exact gF
  ·have hpf:p x s=false:=by assumption
   rw[hpf]at hn
   simp only[Bool.false_eq_true,if_false]at hn
   rw[wrap64 (by omega)]
   exact zh (i+1,nx x s) ⟨by simp only;omega,hv2 hpf,hn⟩ id (by simp only;omega) gM
 ·have hge: ¬i<l.length:=by simpa using hh
  rw[List.drop_eq_nil_of_le (by omega)]at hn
  simp only[idxR]at hn
  subst hn
  repeat' first|refine gG ?_|refine gB (fun h=>?_) (fun h=>?_)|refine zp ?_
  exact gF
theorem zhJ(f:FuncId)(l:List Bd)(p:Bd→Unit→Bool)(nx:Bd→Unit→Unit)(inv:Unit→Prop)
 (hf: ∀x∈l,∀s:Unit,inv s→zj Tryz.prog f [zz (yC x)] [] (.bq (p x s)) ((fun s:Unit=>[]) (nx x s))∧(p x s=false→inv (nx x s))) (s:Unit) (hs:inv s):
 zj Tryz.prog 234 [pS (.sl 5 (l.map yC)),.one (.cl f [] [])] [] (.bq (anyR p nx l s).1) ((fun s:Unit=>[]) (anyR p nx l s).2):=by
 refine gO T Tryz.func234 fun C hC=>?_
 repeat' first|refine gG ?_|refine gB (fun h=>?_) (fun h=>?_)|refine gR (zhI f l p nx inv hf s hs) (nm []) ?_
 exact zg ⟨.inl rfl,id,_,rfl,.qq (jo p nx l 0 s),by rw[←jq p nx l 0 s];exact trivial,rfl,rfl⟩
theorem zhK(f:FuncId)(l:List Bd)(p:Bd→Bool)(hf: ∀x∈l,zj Tryz.prog f [zz (yC x)] [] (.bq (p x)) []):zj Tryz.prog 234 [pS (.sl 5 (l.map yC)),.one (.cl f [] [])] [] (.bq (l.any p)) []:=by
 have:=zhJ f l (fun x _=>p x) (fun _ s=>s) (fun _=>True) (fun x hx s _=>⟨hf x hx,fun _=>trivial⟩) () trivial
 rw[vj]at this
 exact this
theorem zjs(f:FuncId)(l:List jx)(p:jx→Unit→Bool)(nx:jx→Unit→Unit)(inv:Unit→Prop)
 (hf: ∀x∈l,∀s:Unit,inv s→zj Tryz.prog f [zz (zG x)] [] (.bq (p x s)) ((fun s:Unit=>[]) (nx x s))∧(p x s=false→inv (nx x s))) (s:Unit) (hs:inv s):
 zj Tryz.prog 236 [pS (.sl 2 (l.map zG)),.one (.cl f [] [])] [] (I (idxR p nx l 0 s).1) ((fun s:Unit=>[]) (idxR p nx l 0 s).2):=by
 refine gO T Tryz.func236 fun C hC=>?_
 have hs0:=hs
 refine w9 0 rfl fun hl=>?_
 rw[List.length_map]at hl
 repeat' first|refine gG ?_|refine gB (fun h=>?_) (fun h=>?_)
 rw[List.length_map]
 refine zy (fun q:Nat×Unit=>q.1≤l.length∧inv q.2∧idxR p nx (l.drop q.1) q.1 q.2=idxR p nx l 0 s) (fun q=>(fun s:Unit=>([(0,pS (.sl 2 (l.map zG))),(1,.one (.cl f [] [])),(7,I l.length),(8,I q.1)],[])) q.2) (fun q=>l.length - q.1) hC
  (0,s) ⟨Nat.zero_le _,hs,rfl⟩ id gM ?_
 generalize idxR p nx l 0 s=res
 clear hs hs0
 rintro⟨i,s⟩ ⟨hi,hv,hn⟩
 simp only at hi hv hn
 refine zI T hC true 200 rfl ?_
 refine zP rfl (fun hh=>?_) (fun hh=>?_)
 ·have hlt:i<l.length:=by simpa using hh
  clear hh
  obtain⟨x,hx⟩:=zf hlt
  rw[drop_at hx]at hn
  simp only[idxR]at hn
  have hv2:=(hf x (List.mem_of_getElem? hx) s hv).2
  repeat' first|refine gG ?_|refine gB (fun h=>?_) (fun h=>?_)|refine gI T (zu hx) ?_|refine zr hC (hf x (List.mem_of_getElem? hx) s hv).1 id rfl rfl (yJ.refl _) rfl rfl rfl rfl rfl rfl rfl rfl ?_|refine zT ?_
  ·rw[if_pos (by assumption)]at hn
   subst hn
   exact gF
  ·have hpf:p x s=false:=by assumption
   rw[hpf]at hn
   simp only[Bool.false_eq_true,if_false]at hn
   rw[wrap64 (by omega)]
   exact zh (i+1,nx x s) ⟨by simp only;omega,hv2 hpf,hn⟩ id (by simp only;omega) gM
 ·have hge: ¬i<l.length:=by simpa using hh
  rw[List.drop_eq_nil_of_le (by omega)]at hn
  simp only[idxR]at hn
  subst hn
  repeat' first|refine gG ?_|refine gB (fun h=>?_) (fun h=>?_)|refine zp ?_
  exact gF
theorem zjt(f:FuncId)(l:List jx)(p:jx→Unit→Bool)(nx:jx→Unit→Unit)(inv:Unit→Prop)
 (hf: ∀x∈l,∀s:Unit,inv s→zj Tryz.prog f [zz (zG x)] [] (.bq (p x s)) ((fun s:Unit=>[]) (nx x s))∧(p x s=false→inv (nx x s))) (s:Unit) (hs:inv s):
 zj Tryz.prog 183 [pS (.sl 2 (l.map zG)),.one (.cl f [] [])] [] (.bq (anyR p nx l s).1) ((fun s:Unit=>[]) (anyR p nx l s).2):=by
 refine gO T Tryz.func183 fun C hC=>?_
 repeat' first|refine gG ?_|refine gB (fun h=>?_) (fun h=>?_)|refine gR (zjs f l p nx inv hf s hs) (nm []) ?_
 exact zg ⟨.inl rfl,id,_,rfl,.qq (jo p nx l 0 s),by rw[←jq p nx l 0 s];exact trivial,rfl,rfl⟩
theorem zju(f:FuncId)(l:List jx)(p:jx→Bool)(hf: ∀x∈l,zj Tryz.prog f [zz (zG x)] [] (.bq (p x)) []):zj Tryz.prog 183 [pS (.sl 2 (l.map zG)),.one (.cl f [] [])] [] (.bq (l.any p)) []:=by
 have:=zjt f l (fun x _=>p x) (fun _ s=>s) (fun _=>True) (fun x hx s _=>⟨hf x hx,fun _=>trivial⟩) () trivial
 rw[vj]at this
 exact this
theorem zjv(f:FuncId)(l:List Pr)(p:Pr→Unit→Bool)(nx:Pr→Unit→Unit)(inv:Unit→Prop)
 (hf: ∀x∈l,∀s:Unit,inv s→zj Tryz.prog f [zz (ye x)] [] (.bq (p x s)) ((fun s:Unit=>[]) (nx x s))∧(p x s=false→inv (nx x s))) (s:Unit) (hs:inv s):
 zj Tryz.prog 237 [pS (.sl 5 (l.map ye)),.one (.cl f [] [])] [] (I (idxR p nx l 0 s).1) ((fun s:Unit=>[]) (idxR p nx l 0 s).2):=by
 refine gO T Tryz.func237 fun C hC=>?_
 have hs0:=hs
 refine w9 0 rfl fun hl=>?_
 rw[List.length_map]at hl
 repeat' first|refine gG ?_|refine gB (fun h=>?_) (fun h=>?_)
 rw[List.length_map]
 refine zy (fun q:Nat×Unit=>q.1≤l.length∧inv q.2∧idxR p nx (l.drop q.1) q.1 q.2=idxR p nx l 0 s) (fun q=>(fun s:Unit=>([(0,pS (.sl 5 (l.map ye))),(1,.one (.cl f [] [])),(7,I l.length),(8,I q.1)],[])) q.2) (fun q=>l.length - q.1) hC
  (0,s) ⟨Nat.zero_le _,hs,rfl⟩ id gM ?_
 generalize idxR p nx l 0 s=res
 clear hs hs0
 rintro⟨i,s⟩ ⟨hi,hv,hn⟩
 simp only at hi hv hn
 refine zI T hC true 200 rfl ?_
 refine zP rfl (fun hh=>?_) (fun hh=>?_)
 ·have hlt:i<l.length:=by simpa using hh
  clear hh
  obtain⟨x,hx⟩:=zf hlt
  rw[drop_at hx]at hn
  simp only[idxR]at hn
  have hv2:=(hf x (List.mem_of_getElem? hx) s hv).2
  repeat' first|refine gG ?_|refine gB (fun h=>?_) (fun h=>?_)|refine gI T (zu hx) ?_|refine zr hC (hf x (List.mem_of_getElem? hx) s hv).1 id rfl rfl (yJ.refl _) rfl rfl rfl rfl rfl rfl rfl rfl ?_|refine zT ?_
  ·rw[if_pos (by assumption)]at hn
   subst hn
   exact gF
  ·have hpf:p x s=false:=by assumption
   rw[hpf]at hn
   simp only[Bool.false_eq_true,if_false]at hn
   rw[wrap64 (by omega)]
   exact zh (i+1,nx x s) ⟨by simp only;omega,hv2 hpf,hn⟩ id (by simp only;omega) gM
 ·have hge: ¬i<l.length:=by simpa using hh
  rw[List.drop_eq_nil_of_le (by omega)]at hn
  simp only[idxR]at hn
  subst hn
  repeat' first|refine gG ?_|refine gB (fun h=>?_) (fun h=>?_)|refine zp ?_
  exact gF
theorem zjw(f:FuncId)(l:List Pr)(p:Pr→Unit→Bool)(nx:Pr→Unit→Unit)(inv:Unit→Prop)
 (hf: ∀x∈l,∀s:Unit,inv s→zj Tryz.prog f [zz (ye x)] [] (.bq (p x s)) ((fun s:Unit=>[]) (nx x s))∧(p x s=false→inv (nx x s))) (s:Unit) (hs:inv s):
 zj Tryz.prog 185 [pS (.sl 5 (l.map ye)),.one (.cl f [] [])] [] (.bq (anyR p nx l s).1) ((fun s:Unit=>[]) (anyR p nx l s).2):=by
 refine gO T Tryz.func185 fun C hC=>?_
 repeat' first|refine gG ?_|refine gB (fun h=>?_) (fun h=>?_)|refine gR (zjv f l p nx inv hf s hs) (nm []) ?_
 exact zg ⟨.inl rfl,id,_,rfl,.qq (jo p nx l 0 s),by rw[←jq p nx l 0 s];exact trivial,rfl,rfl⟩
theorem zjx(f:FuncId)(l:List Pr)(p:Pr→Bool)(hf: ∀x∈l,zj Tryz.prog f [zz (ye x)] [] (.bq (p x)) []):zj Tryz.prog 185 [pS (.sl 5 (l.map ye)),.one (.cl f [] [])] [] (.bq (l.any p)) []:=by
 have:=zjw f l (fun x _=>p x) (fun _ s=>s) (fun _=>True) (fun x hx s _=>⟨hf x hx,fun _=>trivial⟩) () trivial
 rw[vj]at this
 exact this
end Hw.Fr.Ps
namespace Hw.Fr.Ps
open Go Go.Proofs Hw.M
theorem zjy(c:Int)(h: -1000000≤c)(h2:c≤1000000):zj Tryz.prog 275 [.one (.bx 0 0)] [(0,.box [.p (ki c)])] (.bq (decide (0≤c - 1))) [(0,.box [.p (ki (c - 1))])]:=by
 refine gO T Tryz.func275 fun C hC=>?_
 repeat' first|refine gG ?_|refine gB (fun h=>?_) (fun h=>?_)
 rw[wrap64 (by omega)]
 exact zg ⟨.inl rfl,id,_,rfl,.qq rfl,⟨rfl,trivial⟩,rfl,rfl⟩
def jr(op:Int):Int:=if yu op= -2 then 2 else yu op
theorem zhL{op:Int}(h1:9≤op)(h2:op≤23)(h3:op≠18)(h4:op≠21):yu op=2:=by
 unfold yu
 rw[if_neg (by simp;omega),if_neg (by simp;omega),if_neg (by omega),if_neg (by omega),if_pos (by simp;omega)]
theorem zci{op:Int}(h1:op<1∨24<op):yu op= -2:=by
 unfold yu
 rw[if_neg (by simp;omega),if_neg (by simp;omega),if_neg (by omega),if_neg (by omega),if_neg (by simp;omega)]
theorem zfi(op:Int):zj Tryz.prog 301 [I op] [] (.tup [I (jr op),.bq (!decide (yu op= -2))]) []:=by
 have key: ∀n b,(n=jr op∧b= !decide (yu op= -2))→LeS (.tup [I n,Bo b]) (.tup [I (jr op),.bq (!decide (yu op= -2))]):=fun n b h=>by
  obtain⟨rfl,rfl⟩:=h;exact LeS.tup (.cons (.refl _) (.cons (LeS.qb rfl) .nil))
 have key2: ∀n b,(n=jr op∧b= !decide (yu op= -2))→LeS (.tup [I n,.bq b]) (.tup [I (jr op),.bq (!decide (yu op= -2))]):=fun n b h=>by
  obtain⟨rfl,rfl⟩:=h;exact LeS.refl _
 refine gO T Tryz.func301 fun C hC=>?_
 repeat' first|refine zsJ T hC true 400 rfl rfl ?_|refine zfj rfl (fun h=>?_) (fun h=>?_)|refine zl9 T hC (by kernel_rfl) ?_|refine zaZ (fun h=>?_) (fun h=>?_)|refine za0 rfl rfl rfl (fun h=>?_) (fun h=>?_)|refine za1 rfl rfl (fun h=>?_) (fun h=>?_)
 all_goals
  first
   |refine zg ⟨.inl rfl,id,_,rfl,key _ _ ?_,trivial,rfl,rfl⟩
   |refine zg ⟨.inl rfl,id,_,rfl,key2 _ _ ?_,trivial,rfl,rfl⟩
  clear key key2
  first
   |(obtain rfl:=of_decide_eq_true h;exact⟨rfl,rfl⟩)
   |(simp only[decide_eq_true_eq,decide_eq_false_iff_not]at*
     by_cases h23:op≤23
     ·have e:=zhL (op:=op) (by omega) h23 (by omega) (by omega)
      exact⟨by rw[jr,e];rfl,by rw[e];simp[h23]⟩
     ·have e:=zci (op:=op) (by omega)
      exact⟨by rw[jr,e];rfl,by rw[e];simp[h23]⟩)
   |(simp only[decide_eq_true_eq,decide_eq_false_iff_not]at*
     have e:=zci (op:=op) (by omega)
     exact⟨by rw[jr,e];rfl,by rw[e];rfl⟩)
def zfk(e:Ex):Bool:=if e.op=1 then decide (0≤e.n)&&decide (e.n≤1099511627776)else if e.op=2 then decide (e.n=0)||decide (e.n=1)else decide (e.n=0)
theorem zmp(e:Ex):zaT e=(!decide (yu e.op= -2)&& !(decide (0≤yu e.op)&& !decide ((e.l.length:Int)=yu e.op))&& !(decide (yu e.op= -1)&&decide (6<(e.l.length:Int)))&&jm e&&zfk e):=rfl
theorem zdP(e:Ex):zaT e=(!decide (yu e.op= -2)&&(jm e&&zfk e)&& !(decide (0≤yu e.op)&& !decide ((e.l.length:Int)=yu e.op))&& !(decide (yu e.op= -1)&&decide (6<(e.l.length:Int)))):=by
 rw[zmp]
 generalize decide (yu e.op= -2)=a
 generalize (decide (0≤yu e.op)&& !decide ((e.l.length:Int)=yu e.op))=b
 generalize (decide (yu e.op= -1)&&decide (6<(e.l.length:Int)))=c
 cases a<;>cases b<;>cases c<;>cases jm e<;>cases zfk e<;>rfl
theorem zdQ(op:Int): -2≤yu op∧(yu op<0→yu op= -1∨yu op= -2):=by
 unfold yu
 repeat' split
 all_goals omega
theorem zfl(e:Ex):zj Tryz.prog 302 [zz (yQ e)] [] (.bq (jm e&&zfk e)) []:=by
 refine gO T Tryz.func302 fun C hC=>?_
 repeat' first|refine zsJ T hC true 400 rfl rfl ?_|refine zfj rfl (fun h=>?_) (fun h=>?_)|refine zl9 T hC (by kernel_rfl) ?_|refine zaZ (fun h=>?_) (fun h=>?_)|refine za0 rfl rfl rfl (fun h=>?_) (fun h=>?_)|refine za1 rfl rfl (fun h=>?_) (fun h=>?_)|refine gC (yz _) ?_|refine ziX T (.inl rfl) rfl ?_|refine ziW T (.inl rfl) rfl ?_
 all_goals (simp_all[jm,zfk]<;>omega)
mutual
def exB:Ex→Int→Int→Bool×Int
 | .mk op n s l,d,c=>if(decide (0≤c - 1)&& !decide (60<d)&&zaT (.mk op n s l))=true then exL l (d+1) (c - 1)else(false,c - 1)
def exL:List Ex→Int→Int→Bool×Int
 | [],_,c=>(true,c)
 |x::r,d,c=>if(exB x d c).1=true then exL r d (exB x d c).2 else(false,(exB x d c).2)
end
theorem zn9(e:Ex)(d c:Int):exB e d c=if(decide (0≤c - 1)&& !decide (60<d)&&zaT e)=true then exL e.l (d+1) (c - 1)else(false,c - 1):=by
 cases e;rfl
mutual
theorem zdR: ∀(e:Ex) (d c:Int),0≤c→ -1≤(exB e d c).2∧(exB e d c).2≤c∧((exB e d c).1=true→0≤(exB e d c).2)
 | .mk op n s l,d,c,h=>by
   simp only[exB]
   split
   ·rename_i h'
    simp only[Bool.and_eq_true,decide_eq_true_eq]at h'
    have:=zdS l (d+1) (c - 1) h'.1.1
    exact⟨this.1,by omega,this.2.2⟩
   ·simp only;exact⟨by omega,by omega,fun e=>by cases e⟩
theorem zdS: ∀(l:List Ex) (d c:Int),0≤c→ -1≤(exL l d c).2∧(exL l d c).2≤c∧((exL l d c).1=true→0≤(exL l d c).2)
 | [],d,c,h=>by simp only[exL];exact⟨by omega,by omega,fun _=>h⟩
 |x::r,d,c,h=>by
  simp only[exL]
  have h1:=zdR x d c h
  split
  ·rename_i h2
   have h3:=zdS r d _ (h1.2.2 h2)
   exact⟨h3.1,by omega,h3.2.2⟩
  ·exact⟨h1.1,h1.2.1,fun e=>by cases e⟩
end
theorem zjz(d:Int): ∀(l:List Ex) (c:Int),anyR (fun x c=> !(exB x d c).1) (fun x c=>(exB x d c).2) l c=(!(exL l d c).1,(exL l d c).2)
 | [],c=>rfl
 |x::r,c=>by
  simp only[anyR,exL]
  cases h:(exB x d c).1 with
  |true=>simp only[Bool.not_true,Bool.false_eq_true,if_false,if_true];exact zjz d r _
  |false=>rfl
theorem zmq(x:Ex)(dp c:Int)(h1:0≤dp)(h2:dp≤60)(h:zj Tryz.prog 273 [zz (yQ x),I (dp+1),.one (.bx 0 0)] [(0,.box [.p (ki c)])] (.bq (exB x (dp+1) c).1) [(0,.box [.p (ki (exB x (dp+1) c).2)])]):
 zj Tryz.prog 303 [zz (yQ x),.one (.bx 1 0),.one (.bx 2 0)] [(0,.box [.p (ki c)]),(1,.box [.p (ki dp)]),(2,.box [.bx 0 0])] (.bq (!(exB x (dp+1) c).1))
  [(0,.box [.p (ki (exB x (dp+1) c).2)]),(1,.box [.p (ki dp)]),(2,.box [.bx 0 0])]:=by
 refine gO T Tryz.func303 fun C hC=>?_
 repeat' first|refine gG ?_|refine gB (fun h=>?_) (fun h=>?_)
 rw[wrap64 (by omega)]
 repeat' first|refine gG ?_|refine gB (fun h=>?_) (fun h=>?_)|refine gR h (nm [0]) ?_
 exact zg ⟨.inl rfl,id,_,rfl,.qq rfl,⟨rfl,rfl,rfl,trivial⟩,rfl,rfl⟩
theorem zhM: ∀(N:Nat) (e:Ex) (d c:Int),sizeOf e<N→0≤d→d≤61→0≤c→c≤1000→zj Tryz.prog 273 [zz (yQ e),I d,.one (.bx 0 0)] [(0,.box [.p (ki c)])] (.bq (exB e d c).1) [(0,.box [.p (ki (exB e d c).2)])]:=by
 intro N
 induction N with
 |zero=>intro e d c h;omega
 |succ N ih=>
  intro e d c hN hd1 hd2 hc1 hc2
  have no:(decide (0≤c - 1)&& !decide (60<d)&&zaT e)=false→(exB e d c)=(false,c - 1):=fun h=>by rw[zn9,h];rfl
  have yes:(decide (0≤c - 1)&& !decide (60<d)&&zaT e)=true→(exB e d c)=exL e.l (d+1) (c - 1):=fun h=>by rw[zn9,if_pos h]
  refine gO T Tryz.func273 fun C hC=>?_
  repeat' first|refine gG ?_|refine gB (fun h=>?_) (fun h=>?_)|refine gC (zfi _) ?_|refine zr hC (zjy c (by omega) (by omega)) (nm [0]) rfl rfl (yJ.refl _) rfl rfl rfl rfl rfl rfl rfl rfl ?_|refine gC (zfl _) ?_
  all_goals (try simp only[List.length_map]at*)
  all_goals first
   |(have hn:(decide (0≤c - 1)&& !decide (60<d)&&zaT e)=false:=by clear ih no yes;rw[zdP];have:=zdQ e.op;generalize (jm e&&zfk e)=q at *; simp_all[jr]<;>omega
     rw[no hn]
     exact zg ⟨.inl rfl,id,_,rfl,.qb rfl,⟨rfl,trivial⟩,rfl,rfl⟩)
   |(have hy:(decide (0≤c - 1)&& !decide (60<d)&&zaT e)=true:=by clear ih no yes;rw[zdP];have:=zdQ e.op;generalize (jm e&&zfk e)=q at *; simp_all[jr]<;>omega
     rw[yes hy]
     simp only[Bool.and_eq_true,Bool.not_eq_true',decide_eq_true_eq,decide_eq_false_iff_not]at hy
     have hh:zj Tryz.prog 277 [pS (xX e.l),.one (.cl 303 [] [.bx 1 0,.bx 2 0])] [(0,.box [.p (ki (c - 1))]),(1,.box [.p (ki d)]),(2,.box [.bx 0 0])]
      (.bq (!(exL e.l (d+1) (c - 1)).1)) [(0,.box [.p (ki (exL e.l (d+1) (c - 1)).2)]),(1,.box [.p (ki d)]),(2,.box [.bx 0 0])]:=by
      have:=zjo 303 d e.l (fun x c=> !(exB x (d+1) c).1) (fun x c=>(exB x (d+1) c).2) (fun c=>0≤c∧c≤1000) (fun x hx c hc=>⟨zmq x d c (by omega) (by omega) (ih x (d+1) c (by have:=List.sizeOf_lt_of_mem hx;have:=zi4 e;omega) (by omega) (by omega) hc.1 hc.2),fun hp=>by
       have hb:=zdR x (d+1) c hc.1
       exact⟨hb.2.2 (by simpa using hp),by omega⟩⟩) (c - 1) ⟨by omega,by omega⟩
      rw[zjz]at this
      exact this
     repeat' first|refine gG ?_|refine gB (fun h=>?_) (fun h=>?_)|refine gR hh (nm [0,1004,1005]) ?_
     exact zg ⟨.inl rfl,id,_,rfl,.qq (by simp),⟨rfl,trivial⟩,rfl,rfl⟩)
end Hw.Fr.Ps
namespace Hw.Fr.Ps
open Go Go.Proofs Hw.M
theorem zbv: ∀(l:List Ex) (d n:Int),n≤countL l d n
 | [],d,n=>by simp only[countL];omega
 |e::es,d,n=>by
  simp only[countL]
  have h1:=(xP e (d+1)).1
  have h2:=zbv es d (n+countS e (d+1))
  split<;>omega
mutual
theorem zdT: ∀(e:Ex) (d c:Int),0≤c→c≤1000→(exB e d c).1=decide (countS e d≤c)∧(countS e d≤c→(exB e d c).2=c - countS e d)
 | .mk op n s l,d,c,h0,h1=>by
   by_cases hb:(decide (60<d)|| !zaT (.mk op n s l))=true
   ·have e1:countS (.mk op n s l) d=1001:=by simp only[countS];exact if_pos hb
    have e2:exB (.mk op n s l) d c=(false,c - 1):=by
     simp only[exB];refine if_neg fun h=>?_
     simp only[Bool.and_eq_true,Bool.or_eq_true,Bool.not_eq_true']at h hb
     rcases hb with hb|hb
     ·rw[hb]at h;simp at h
     ·rw[hb]at h;simp at h
    rw[e1,e2]
    exact⟨(decide_eq_false (by omega)).symm,fun h=>by omega⟩
   ·have e1:countS (.mk op n s l) d=countL l d 1:=by simp only[countS];exact if_neg hb
    simp only[Bool.or_eq_true,decide_eq_true_eq,Bool.not_eq_true',not_or,Bool.not_eq_false]at hb
    rw[e1]
    by_cases hc:0≤c - 1
    ·have e2:exB (.mk op n s l) d c=exL l (d+1) (c - 1):=by simp only[exB];exact if_pos (by simp[hc,hb.2];omega)
     rw[e2]
     have:=zdU l d (c - 1) 1 (by omega) (by omega) (by omega)
     rw[show 1+(c - 1)=c by omega]at this
     exact this
    ·have e2:exB (.mk op n s l) d c=(false,c - 1):=by simp only[exB];exact if_neg fun h=>by simp only[Bool.and_eq_true,decide_eq_true_eq]at h;omega
     rw[e2]
     have:=zbv l d 1
     exact⟨(decide_eq_false (by omega)).symm,fun h=>by omega⟩
theorem zdU: ∀(l:List Ex) (d c n:Int),0≤c→1≤n→n+c≤1000→(exL l (d+1) c).1=decide (countL l d n≤n+c)∧(countL l d n≤n+c→(exL l (d+1) c).2=n+c - countL l d n)
 | [],d,c,n,h0,h1,h2=>by
   have e1:countL [] d n=n:=by simp only[countL]
   rw[e1];simp only[exL];exact⟨(decide_eq_true (by omega)).symm,fun _=>by omega⟩
 |x::r,d,c,n,h0,h1,h2=>by
  have hx:=zdT x (d+1) c h0 (by omega)
  have hk:=(xP x (d+1)).1
  by_cases hc:countS x (d+1)≤c
  ·have e1:countL (x::r) d n=countL r d (n+countS x (d+1)):=by simp only[countL];exact if_neg (by omega)
   have e2:exL (x::r) (d+1) c=exL r (d+1) (c - countS x (d+1)):=by
    simp only[exL];rw[hx.1,decide_eq_true hc,if_pos rfl,hx.2 hc]
   rw[e1,e2]
   have:=zdU r d (c - countS x (d+1)) (n+countS x (d+1)) (by omega) (by omega) (by omega)
   rw[show n+countS x (d+1)+(c - countS x (d+1))=n+c by omega]at this
   exact this
  ·have e2:exL (x::r) (d+1) c=(false,(exB x (d+1) c).2):=by
    simp only[exL];rw[hx.1,decide_eq_false hc];exact if_neg (by simp)
   have hg:=zbv r d (n+countS x (d+1))
   have hbig:n+c<countL (x::r) d n:=by
    simp only[countL]
    by_cases h3:1000<n+countS x (d+1)
    ·rw[if_pos h3];omega
    ·rw[if_neg h3];omega
   rw[e2]
   exact⟨(decide_eq_false (by omega)).symm,fun h=>by omega⟩
end
theorem zq9(e:Ex):(exB e 1 1000).1=xQ e:=(zdT e 1 1000 (by omega) (by omega)).1
theorem xS(e:Ex):zj Tryz.prog 232 [zz (yQ e)] [] (.bq (xQ e)) []:=by
 refine gO T Tryz.func232 fun C hC=>?_
 repeat' first|refine gG ?_|refine gB (fun h=>?_) (fun h=>?_)|refine zr hC (zhM (sizeOf e+1) e 1 1000 (by omega) (by omega) (by omega) (by omega) (by omega)) (nm [1005]) rfl rfl (yJ.refl _) rfl rfl rfl rfl rfl rfl rfl rfl ?_
 exact zg ⟨.inl rfl,id,_,rfl,.qq (zq9 e),trivial,rfl,rfl⟩
def zaN(s:Sm):Bool:=(if s.op=1∨s.op=2 then isName s.s else decide (s.s=(⟨#[]⟩:ByteArray)))&& !(!decide (s.op=3)&&(decide (0<(s.els.length:Int))||(!decide (s.op=4)&&decide (0<(s.l.length:Int)))))&&
 (if s.op=1∨s.op=3∨s.op=4 then decide ((s.e.length:Int)=1)else if s.op=2 then decide ((s.e.length:Int)=2)else if s.op=5 then decide ((s.e.length:Int)≤1)
   else if s.op=6 then decide ((s.e.length:Int)=1)&&decide ((s.e[0]?).map Ex.op=some 7)else false)
theorem zmr(s:Sm):(zaN s&&s.e.all xQ)=zbo s:=by
 have hz: ∀n:Nat,decide ((n:Int)=0)= !decide (0<(n:Int)):=fun n=>by
  by_cases h:(n:Int)=0
  ·rw[decide_eq_true h,decide_eq_false (by omega)];rfl
  ·rw[decide_eq_false h,decide_eq_true (by omega)];rfl
 have h1: ∀n:Nat,(!decide ((n:Int)<1)&& !decide (1<(n:Int)))=decide ((n:Int)=1):=fun n=>by
  by_cases h:(n:Int)=1
  ·simp[h]
  ·rw[decide_eq_false h];by_cases h2:(n:Int)<1<;>simp[h2]<;>omega
 have h2: ∀n:Nat,(!decide ((n:Int)<2)&& !decide (2<(n:Int)))=decide ((n:Int)=2):=fun n=>by
  by_cases h:(n:Int)=2
  ·simp[h]
  ·rw[decide_eq_false h];by_cases h2:(n:Int)<2<;>simp[h2]<;>omega
 have h3: ∀n:Nat,(!decide ((n:Int)<0)&& !decide (1<(n:Int)))=decide ((n:Int)≤1):=fun n=>by
  by_cases h:(n:Int)≤1
  ·simp[h]<;>omega
  ·simp[h]<;>omega
 simp only[zbo,zn4,zaN,zi2,jw,h1,h2,h3,hz]
 generalize s.e.all xQ=A
 generalize isName s.s=B
 generalize decide (s.s=(⟨#[]⟩:ByteArray))=E
 generalize decide (0<(s.els.length:Int))=X
 generalize decide (0<(s.l.length:Int))=Y
 generalize decide ((s.e[0]?).map Ex.op=some 7)=Z
 generalize decide ((s.e.length:Int)=1)=N1
 generalize decide ((s.e.length:Int)=2)=N2
 generalize decide ((s.e.length:Int)≤1)=N3
 by_cases o1:s.op=1
 ·simp only[o1,Int.reduceEq,true_or,or_true,false_or,or_false,if_true,if_false,decide_true,decide_false];revert A B E X Y Z N1 N2 N3;decide
 by_cases o2:s.op=2
 ·simp only[o2,Int.reduceEq,true_or,or_true,false_or,or_false,if_true,if_false,decide_true,decide_false];revert A B E X Y Z N1 N2 N3;decide
 by_cases o3:s.op=3
 ·simp only[o3,Int.reduceEq,true_or,or_true,false_or,or_false,if_true,if_false,decide_true,decide_false];revert A B E X Y Z N1 N2 N3;decide
 by_cases o4:s.op=4
 ·simp only[o4,Int.reduceEq,true_or,or_true,false_or,or_false,if_true,if_false,decide_true,decide_false];revert A B E X Y Z N1 N2 N3;decide
 by_cases o5:s.op=5
 ·simp only[o5,Int.reduceEq,true_or,or_true,false_or,or_false,if_true,if_false,decide_true,decide_false];revert A B E X Y Z N1 N2 N3;decide
 by_cases o6:s.op=6
 ·simp only[o6,Int.reduceEq,true_or,or_true,false_or,or_false,if_true,if_false,decide_true,decide_false];revert A B E X Y Z N1 N2 N3;decide
 simp only[o1,o2,o3,o4,o5,o6,or_self,if_false,Bool.and_false,Bool.false_and]
theorem zfm(s:Sm):zj Tryz.prog 276 [zz (zc0 s)] [] (.bq (zaN s)) []:=by
 refine gO T Tryz.func276 fun C hC=>?_
 repeat' first|refine zsJ T hC true 400 rfl rfl ?_|refine zfj rfl (fun h=>?_) (fun h=>?_)|refine zl9 T hC (by kernel_rfl) ?_|refine zaZ (fun h=>?_) (fun h=>?_)|refine za0 rfl rfl rfl (fun h=>?_) (fun h=>?_)|refine za1 rfl rfl (fun h=>?_) (fun h=>?_)|refine gC (yz _) ?_|refine ziX T (.inl rfl) rfl ?_|refine ziW T (.inl rfl) rfl ?_|(obtain⟨x,hx⟩:=zf (l:=s.e) (i:=0) (by have:=of_decide_eq_true h;simp only[List.length_map]at this;omega);refine yh T hC rfl rfl rfl (Int.le_refl _) (zmb hx) rfl rfl ?_)
 all_goals (try simp only[List.length_map]at*)
 all_goals (simp_all[zaN]<;>omega)
end Hw.Fr.Ps
namespace Hw.Fr.Ps
open Go Go.Proofs Hw.M
mutual
def stB:Sm→Int→Int→Bool×Int
 | .mk op s e l els,d,c=>if(decide (0≤c - 1)&&(zaN (.mk op s e l els)&&e.all xQ))=true then
    (if(if decide (0<(l.length:Int))&&decide (60<d+1)then(false,c - 1)else stQ l (d+1) (c - 1)).1=true then
      (if decide (0<(els.length:Int))&&decide (60<d+1)then(false,(if decide (0<(l.length:Int))&&decide (60<d+1)then(false,c - 1)else stQ l (d+1) (c - 1)).2)
        else stQ els (d+1) (if decide (0<(l.length:Int))&&decide (60<d+1)then(false,c - 1)else stQ l (d+1) (c - 1)).2)
      else(false,(if decide (0<(l.length:Int))&&decide (60<d+1)then(false,c - 1)else stQ l (d+1) (c - 1)).2))
    else(false,c - 1)
def stQ:List Sm→Int→Int→Bool×Int
 | [],_,c=>(true,c)
 |x::r,d,c=>if(stB x d c).1=true then stQ r d (stB x d c).2 else(false,(stB x d c).2)
end
def stP(l:List Sm)(d c:Int):Bool×Int:=if decide (0<(l.length:Int))&&decide (60<d)then(false,c)else stQ l d c
theorem zoa(s:Sm)(d c:Int):stB s d c=if(decide (0≤c - 1)&&(zaN s&&s.e.all xQ))=true then
 (if(stP s.l (d+1) (c - 1)).1=true then stP s.els (d+1) (stP s.l (d+1) (c - 1)).2 else(false,(stP s.l (d+1) (c - 1)).2))else(false,c - 1):=by
 cases s;rfl
theorem zfn{n k:Int}(h:0≤k):n≤bump n k:=by
 unfold bump
 by_cases q:n≤200
 ·rw[if_pos q];omega
 ·rw[if_neg q];omega
theorem zjA(s:Sm)(d n:Int)(h0:0≤n)(h1:n≤200):n<stN s d n:=by
 rw[zgn]
 split
 ·omega
 ·have a1:=(wo s.l (d+1) 0 (by omega) (by omega)).1
  have a2:=(wo s.els (d+1) 0 (by omega) (by omega)).1
  have b1:=zfn (n:=n+1) a1
  have b2:=zfn (n:=bump (n+1) (stL s.l (d+1) 0)) a2
  omega
theorem zob: ∀(l:List Sm) (d n:Int),0≤n→n≤200→n≤stL l d n
 | [],d,n,_,_=>by simp only[stL];omega
 |s::r,d,n,h0,h1=>by
  have h2:=zjA s d n h0 h1
  simp only[stL]
  by_cases h3:200<stN s d n
  ·rw[if_pos h3];omega
  ·rw[if_neg h3]
   have:=zob r d (stN s d n) (by omega) (by omega)
   omega
theorem zms{l:List Sm}{d:Int}(h:0<(l.length:Int))(hd:60<d)(n:Int):stL l d n=201:=by
 cases l with
 |nil=>simp at h
 |cons s r=>
  have:stN s d n=201:=by rw[zgn,if_pos (by simp[hd])]
  simp only[stL,this];rfl
def zjB(r:Bool×Int)(k t:Int):Prop:=r.1=decide (k≤t)∧(k≤t→r.2=t - k)
theorem zjB.of_le{r:Bool×Int}{k t:Int}(h:k≤t)(e:r=(true,t - k)):zjB r k t:=by subst e;exact⟨(decide_eq_true h).symm,fun _=>rfl⟩
theorem zjB.zhN{r:Bool×Int}{k t:Int}(h:t<k)(e:r.1=false):zjB r k t:=⟨by rw[e];exact(decide_eq_false (by omega)).symm,fun h'=>by omega⟩
theorem zjB.le{r:Bool×Int}{k t:Int}(h:zjB r k t)(h1:k≤t):r=(true,t - k):=Prod.ext (h.1.trans (decide_eq_true h1)) (h.2 h1)
theorem zjB.gt{r:Bool×Int}{k t:Int}(h:zjB r k t)(h1:t<k):r.1=false:=h.1.trans (decide_eq_false (by omega))
mutual
theorem zjC: ∀(s:Sm) (d c n:Int),0≤n→0≤c→n+c≤200→d≤60→zjB (stB s d c) (stN s d n) (n+c)
 | .mk op s e l els,d,c,n,h0,h1,h2,hd=>by
   have hgt:=zjA (.mk op s e l els) d n h0 (by omega)
   have eB:stB (.mk op s e l els) d c=if(decide (0≤c - 1)&&zbo (.mk op s e l els))=true then
    (if(stP l (d+1) (c - 1)).1=true then stP els (d+1) (stP l (d+1) (c - 1)).2 else(false,(stP l (d+1) (c - 1)).2))else(false,c - 1):=by
    rw[zoa,zmr];rfl
   rw[eB]
   by_cases hs:zbo (.mk op s e l els)=true
   ·have eN:stN (.mk op s e l els) d n=bump (bump (n+1) (stL l (d+1) 0)) (stL els (d+1) 0):=by
     rw[zgn,if_neg (by simp[hs];omega)];rfl
    rw[hs,Bool.and_true]
    by_cases hc:0≤c - 1
    ·rw[if_pos (decide_eq_true hc)]
     have a1:=(wo l (d+1) 0 (by omega) (by omega)).1
     have a2:=(wo els (d+1) 0 (by omega) (by omega)).1
     have hl:=zbw l (d+1) (c - 1) (by omega) (by omega)
     by_cases k1:stL l (d+1) 0≤c - 1
     ·rw[hl.le k1,if_pos rfl]
      have hm:=zbw els (d+1) (c - 1 - stL l (d+1) 0) (by omega) (by omega)
      simp only
      have eb:bump (n+1) (stL l (d+1) 0)=n+1+stL l (d+1) 0:=if_pos (by omega)
      have eb2:bump (n+1+stL l (d+1) 0) (stL els (d+1) 0)=n+1+stL l (d+1) 0+stL els (d+1) 0:=if_pos (by omega)
      rw[eN,eb,eb2]
      by_cases k2:stL els (d+1) 0≤c - 1 - stL l (d+1) 0
      ·rw[hm.le k2]
       exact .of_le (by omega) (Prod.ext rfl (by simp only;omega))
      ·exact .zhN (by omega) (hm.gt (by omega))
     ·have e1:=hl.gt (by omega)
      rw[e1]
      refine .zhN ?_ rfl
      rw[eN]
      have eb:bump (n+1) (stL l (d+1) 0)=n+1+stL l (d+1) 0:=if_pos (by omega)
      rw[eb]
      have:=zfn (n:=n+1+stL l (d+1) 0) a2
      omega
    ·rw[if_neg (by simp;omega)]
     exact .zhN (by omega) rfl
   ·have hs':zbo (.mk op s e l els)=false:=by simpa using hs
    have eN:stN (.mk op s e l els) d n=201:=by rw[zgn,if_pos (by simp[hs'])]
    rw[hs',Bool.and_false,if_neg (by simp),eN]
    exact .zhN (by omega) rfl
theorem zdV: ∀(l:List Sm) (d c n:Int),0≤n→0≤c→n+c≤200→d≤60→zjB (stQ l d c) (stL l d n) (n+c)
 | [],d,c,n,h0,h1,h2,hd=>by
   have e1:stL [] d n=n:=by simp only[stL]
   rw[e1];exact .of_le (by omega) (by simp only[stQ];exact Prod.ext rfl (by simp only;omega))
 |x::r,d,c,n,h0,h1,h2,hd=>by
  have hx:=zjC x d c n h0 h1 h2 hd
  have hg:=zjA x d n h0 (by omega)
  by_cases k:stN x d n≤n+c
  ·have e1:stL (x::r) d n=stL r d (stN x d n):=by simp only[stL];exact if_neg (by omega)
   have e2:stQ (x::r) d c=stQ r d (n+c - stN x d n):=by simp only[stQ];rw[hx.le k];rfl
   rw[e1,e2]
   have:=zdV r d (n+c - stN x d n) (stN x d n) (by omega) (by omega) (by omega) hd
   rw[show stN x d n+(n+c - stN x d n)=n+c by omega]at this
   exact this
  ·have e2:(stQ (x::r) d c).1=false:=by simp only[stQ];rw[hx.gt (by omega)];rfl
   refine .zhN ?_ e2
   simp only[stL]
   by_cases h3:200<stN x d n
   ·rw[if_pos h3];omega
   ·rw[if_neg h3]
    have:=zob r d (stN x d n) (by omega) (by omega)
    omega
theorem zbw: ∀(l:List Sm) (d c:Int),0≤c→c≤200→zjB (stP l d c) (stL l d 0) c
 |l,d,c,h0,h1=>by
  unfold stP
  by_cases hd:60<d
  ·by_cases hl:0<(l.length:Int)
   ·rw[if_pos (by simp[hl,hd];omega),zms hl hd]
    exact .zhN (by omega) rfl
   ·have:l=[]:=List.eq_nil_of_length_eq_zero (by omega)
    subst this
    rw[if_neg (by simp)]
    exact .of_le (by simp only[stL];omega) (by simp only[stQ,stL];exact Prod.ext rfl (by simp only;omega))
  ·rw[if_neg (by simp[hd])]
   have:=zdV l d c 0 (by omega) h0 (by omega) (by omega)
   rw[Int.zero_add]at this
   exact this
end
end Hw.Fr.Ps
namespace Hw.Fr.Ps
open Go Go.Proofs Hw.M
mutual
theorem zdW: ∀(s:Sm) (d c:Int),0≤c→ -1≤(stB s d c).2∧(stB s d c).2≤c∧((stB s d c).1=true→0≤(stB s d c).2)
 | .mk op s e l els,d,c,h=>by
   have eB:stB (.mk op s e l els) d c=if(decide (0≤c - 1)&&(zaN (.mk op s e l els)&&e.all xQ))=true then
    (if(stP l (d+1) (c - 1)).1=true then stP els (d+1) (stP l (d+1) (c - 1)).2 else(false,(stP l (d+1) (c - 1)).2))else(false,c - 1):=rfl
   rw[eB]
   by_cases hc:(decide (0≤c - 1)&&(zaN (.mk op s e l els)&&e.all xQ))=true
   ·rw[if_pos hc]
    have h0:0≤c - 1:=by simp only[Bool.and_eq_true,decide_eq_true_eq]at hc;exact hc.1
    have h1:=zbx l (d+1) (c - 1) h0
    by_cases h2:(stP l (d+1) (c - 1)).1=true
    ·rw[if_pos h2]
     have h3:=zbx els (d+1) _ (h1.2.2 h2)
     exact⟨h3.1,by omega,h3.2.2⟩
    ·rw[if_neg h2];exact⟨h1.1,by simp only;omega,fun e=>by cases e⟩
   ·rw[if_neg hc];exact⟨by simp only;omega,by simp only;omega,fun e=>by cases e⟩
theorem zdX: ∀(l:List Sm) (d c:Int),0≤c→ -1≤(stQ l d c).2∧(stQ l d c).2≤c∧((stQ l d c).1=true→0≤(stQ l d c).2)
 | [],d,c,h=>by simp only[stQ];exact⟨by omega,by omega,fun _=>h⟩
 |x::r,d,c,h=>by
  have h1:=zdW x d c h
  simp only[stQ]
  by_cases h2:(stB x d c).1=true
  ·rw[if_pos h2]
   have h3:=zdX r d _ (h1.2.2 h2)
   exact⟨h3.1,by omega,h3.2.2⟩
  ·rw[if_neg h2];exact⟨h1.1,h1.2.1,fun e=>by cases e⟩
theorem zbx: ∀(l:List Sm) (d c:Int),0≤c→ -1≤(stP l d c).2∧(stP l d c).2≤c∧((stP l d c).1=true→0≤(stP l d c).2)
 |l,d,c,h=>by
  unfold stP
  by_cases h2:(decide (0<(l.length:Int))&&decide (60<d))=true
  ·rw[if_pos h2];exact⟨by simp only;omega,by simp only;omega,fun e=>by cases e⟩
  ·rw[if_neg h2];exact zdX l d c h
end
theorem zjD(x:Ex):zj Tryz.prog 278 [zz (yQ x)] [] (.bq (!xQ x)) []:=by
 refine gO T Tryz.func278 fun C hC=>?_
 repeat' first|refine gG ?_|refine gB (fun h=>?_) (fun h=>?_)|refine gC (xS _) ?_|refine gQ ?_
 rfl
theorem zby(l:List Ex):(l.any fun x=> !xQ x)= !l.all xQ:=by
 induction l with
 |nil=>rfl
 |cons a l ih=>simp only[List.any_cons,List.all_cons,ih,Bool.not_and]
set_option maxHeartbeats 1000000 in
theorem zfo: ∀(N:Nat) (l:List Sm) (d c:Int),sizeOf l<N→0≤d→d≤61→0≤c→c≤200→zj Tryz.prog 238 [pS (y7 l),I d,.one (.bx 0 0)] [(0,.box [.p (ki c)])] (.bq (stP l d c).1) [(0,.box [.p (ki (stP l d c).2)])]:=by
 intro N
 induction N with
 |zero=>intro l d c h;omega
 |succ N ih=>
  intro l d c hN hd1 hd2 hc1 hc2
  refine gO T Tryz.func238 fun C hC=>?_
  refine w9 0 rfl fun hlen=>?_
  rw[List.length_map]at hlen
  repeat' first|refine gG ?_|refine gB (fun h=>?_) (fun h=>?_)
  all_goals (try simp only[List.length_map]at*)
  ·have e:stP l d c=(false,c):=by unfold stP;rw[if_pos (by simp_all)]
   rw[e]
   exact zg ⟨.inl rfl,id,_,rfl,.qb rfl,⟨rfl,trivial⟩,rfl,rfl⟩
  all_goals
   have hlow:l=[]∨d≤60:=by
    by_cases hz:d≤60
    ·exact .inr hz
    ·left
     have: ¬0<(l.length:Int):=fun h0=>by simp_all<;>omega
     exact List.eq_nil_of_length_eq_zero (by omega)
   have e:stP l d c=stQ l d c:=by
    unfold stP
    rcases hlow with rfl|hlow
    ·rw[if_neg (by simp)]
    ·rw[if_neg (by simp;omega)]
   rw[e]
   clear e h
   generalize hR:stQ l d c=RES
   refine zy (fun q:Nat×Int=>q.1≤l.length∧0≤q.2∧q.2≤200∧stQ (l.drop q.1) d q.2=RES) (fun q=>([(1,I d),(2,.one (.bx 0 0)),(16,pS (y7 l)),(17,I l.length),(18,I q.1)],[(0,some (.box [.p (ki q.2)]))])) (fun q=>l.length - q.1) hC
    (0,c) ⟨Nat.zero_le _,hc1,hc2,hR⟩ id gM ?_
   clear hR
   rintro⟨i,q⟩ ⟨hi,hq1,hq2,hn⟩
   simp only at hi hq1 hq2 hn
   refine zI T hC true 200 rfl ?_
   refine zP rfl (fun h=>?_) (fun h=>?_)
   rotate_left
   ·have hge: ¬i<l.length:=by simpa using h
    rw[List.drop_eq_nil_of_le (by omega)]at hn
    simp only[stQ]at hn
    subst hn
    repeat' first|refine gG ?_|refine gB (fun h=>?_) (fun h=>?_)|refine zp ?_
    exact zg ⟨.inl rfl,id,_,rfl,.qb rfl,⟨rfl,trivial⟩,rfl,rfl⟩
   have hlt:i<l.length:=by simpa using h
   clear h
   have hd:d≤60:=by
    rcases hlow with rfl|hlow
    ·simp at hlt
    ·exact hlow
   obtain⟨x,hx⟩:=zf hlt
   have hsz:=zoV hx
   have hss:=zmd x
   have hbs:=zdW x d q hq1
   rw[drop_at hx]at hn
   simp only[stQ]at hn
   have no: ∀r:Bool×Int,r.1=false→stB x d q=r→r=RES:=fun r h1 h2=>by
    rw[h2,if_neg (by rw[h1];simp)]at hn
    rw[←hn];exact Prod.ext h1 rfl
   have eB:=zoa x d q
   have w1:IntKind.i64.wrap (d+1)=d+1:=wrap64 (by omega)
   have hA:=zjr 278 x.e (fun y=> !xQ y) (fun y _=>zjD y)
   rw[zby]at hA
   have b1:=fun h0=>zbx x.l (d+1) (q - 1) h0
   have nn:(!decide (0≤q - 1))=false→0≤q - 1:=fun h=>by simpa using h
   have k1:=fun(h0:(!decide (0≤q - 1))=false)=>ih x.l (d+1) (q - 1) (by omega) (by omega) (by omega) (nn h0) (by omega)
   have k2:=fun(h0:(!decide (0≤q - 1))=false) (h1:(!(stP x.l (d+1) (q - 1)).1)=false)=>ih x.els (d+1) (stP x.l (d+1) (q - 1)).2 (by omega) (by omega) (by omega) ((b1 (nn h0)).2.2 (by simpa using h1)) (by have:=(b1 (nn h0)).2.1;omega)
   clear ih hsz hss
   generalize hr1:stP x.l (d+1) (q - 1)=r1 at*
   generalize hr2:stP x.els (d+1) r1.2=r2 at*
   generalize hsb:stB x d q=sb at*
   repeat' first|refine gG ?_|refine gB (fun h=>?_) (fun h=>?_)|refine gXT ?_|refine zr hC (zjy q (by omega) (by omega)) (nm [0]) rfl rfl (yJ.refl _) rfl rfl rfl rfl rfl rfl rfl rfl ?_|refine gC (zfm _) ?_|refine gC hA ?_|rw[w1]|refine zr hC (k1 (by assumption)) (nm [0]) rfl rfl (yJ.refl _) rfl rfl rfl rfl rfl rfl rfl rfl ?_|refine zr hC (k2 (by assumption) (by assumption)) (nm [0]) rfl rfl (yJ.refl _) rfl rfl rfl rfl rfl rfl rfl rfl ?_|refine zT ?_
   all_goals clear k1 k2 hA w1 hx hr1 hr2 hsb b1 nn
   all_goals first
    |(have e:sb=(false,q - 1):=by clear hn no hbs hlow;rw[eB];clear eB;exact if_neg (fun hcc=>by simp only[Bool.and_eq_true,decide_eq_true_eq]at hcc;obtain⟨hk1,hk2,hk3⟩:=hcc;simp_all[-List.all_eq_true, -List.all_eq_false]<;>omega)
      have e2:=no _ rfl e
      subst e2
      exact zg ⟨.inl rfl,id,_,rfl,.qb rfl,⟨rfl,trivial⟩,rfl,rfl⟩)
    |(have e:sb=(false,r1.2):=by clear hn no hbs hlow;rw[eB];clear eB;rw[if_pos (by simp_all[-List.all_eq_true, -List.all_eq_false]),if_neg (by simp_all[-List.all_eq_true, -List.all_eq_false])]
      have e2:=no _ rfl e
      subst e2
      exact zg ⟨.inl rfl,id,_,rfl,.qb rfl,⟨rfl,trivial⟩,rfl,rfl⟩)
    |(have e:sb=r2:=by clear hn no hbs hlow;rw[eB];clear eB;rw[if_pos (by simp_all[-List.all_eq_true, -List.all_eq_false]),if_pos (by simp_all[-List.all_eq_true, -List.all_eq_false])]
      have h2:r2.1=false:=by simpa using h
      have e2:=no _ h2 e
      have e3:RES=(false,r2.2):=by rw[←e2];exact Prod.ext h2 rfl
      subst e3
      exact zg ⟨.inl rfl,id,_,rfl,.qb rfl,⟨rfl,trivial⟩,rfl,rfl⟩)
    |(have e:sb=r2:=by clear hn no hbs hlow;rw[eB];clear eB;rw[if_pos (by simp_all[-List.all_eq_true, -List.all_eq_false]),if_pos (by simp_all[-List.all_eq_true, -List.all_eq_false])]
      have h2:r2.1=true:=by simpa using h
      rw[e,if_pos h2]at hn
      rw[e]at hbs
      rw[yq (by omega)]
      exact zh (i+1,r2.2) ⟨by simp only;omega,hbs.2.2 h2,by simp only;omega,hn⟩ id (by simp only;omega) gM)
end Hw.Fr.Ps
namespace Hw.Fr.Ps
open Go Go.Proofs Hw.M
theorem zdY(s:Str):zj Tryz.prog 231 [Sr s] [] (.bq (isType s)) []:=by
 refine gO T Tryz.func231 fun C hC=>?_
 repeat' first|refine gG ?_|refine gB (fun h=>?_) (fun h=>?_)|refine gC (yz _) ?_|refine gQ ?_|refine gL ?_
 all_goals simp_all[isType]
theorem zcj(s:Str):zj Tryz.prog 233 [Sr s] [] (.bq (zce s)) []:=by
 refine gO T Tryz.func233 fun C hC=>?_
 repeat' first|refine gG ?_|refine gB (fun h=>?_) (fun h=>?_)|refine gC (yz _) ?_|refine gQ ?_|refine gL ?_
 all_goals simp_all[zce]
theorem zhO(f:Fld):zj Tryz.prog 230 [zz (zn f)] [] (.bq (!zcP f)) []:=by
 refine gO T Tryz.func230 fun C hC=>?_
 repeat' first|refine gG ?_|refine gB (fun h=>?_) (fun h=>?_)|refine gC (yz _) ?_|refine gC (zdY _) ?_|refine gQ ?_|refine gL ?_
 all_goals simp_all[zcP]
theorem za5{α:Type}(p:α→Bool)(l:List α):(l.any fun x=> !p x)= !l.all p:=by
 induction l with
 |nil=>rfl
 |cons a l ih=>simp only[List.any_cons,List.all_cons,ih,Bool.not_and]
theorem vG(l:List Fld)(m:Int):zj Tryz.prog 181 [pS (yE l),I m] [] (.bq (xZ l m)) []:=by
 have hA:=zhH 230 l (fun y=> !zcP y) (fun y _=>zhO y)
 rw[za5]at hA
 refine gO T Tryz.func181 fun C hC=>?_
 repeat' first|refine gG ?_|refine gB (fun h=>?_) (fun h=>?_)|refine gC hA ?_|refine gQ ?_|refine gL ?_
 all_goals (try simp only[List.length_map]at*)
 all_goals (simp_all[xZ, -List.all_eq_true, -List.all_eq_false]<;>(intros;omega))
theorem zbz(p:Pr):zj Tryz.prog 187 [zz (ye p)] [] (.bq (zaK p)) []:=by
 have hc:=zbw p.body 1 200 (by omega) (by omega)
 refine gO T Tryz.func187 fun C hC=>?_
 repeat' first|refine gG ?_|refine gB (fun h=>?_) (fun h=>?_)|refine gC (yz _) ?_|refine gC (vG _ _) ?_|refine gC (zdY _) ?_|refine zr hC (zfo (sizeOf p.body+1) p.body 1 200 (by omega) (by omega) (by omega) (by omega) (by omega)) (nm [1030]) rfl rfl (yJ.refl _) rfl rfl rfl rfl rfl rfl rfl rfl ?_|refine gL ?_|refine gQ ?_
 all_goals (have hc1:=hc.1;clear hc;simp_all[zaK])
theorem zdZ(b:Bd):zj Tryz.prog 235 [zz (yC b)] [] (.bq (!zcQ b)) []:=by
 refine gO T Tryz.func235 fun C hC=>?_
 repeat' first|refine gG ?_|refine gB (fun h=>?_) (fun h=>?_)|refine gC (yz _) ?_|refine gC (xS b.x) ?_|refine gQ ?_|refine gL ?_
 all_goals simp_all[zcQ]
theorem zfp(a b t:Int):decide (t<zdD a b)=(decide (t<a)||decide (t<b)):=by
 unfold zdD
 by_cases h:b>a
 ·rw[if_pos h];by_cases h2:t<b<;>simp[h2];omega
 ·rw[if_neg h];by_cases h2:t<a<;>simp[h2];omega
def vk(d:xk):Bool:= !decide (12<(d.measures.length:Int))&& !decide (12<(d.invs.length:Int))&& !decide (12<(d.pots.length:Int))&& !decide (12<(d.bounds.length:Int))
theorem zgu(d:xk):decide (12<zdD (zdD (zdD (d.measures.length:Int) (d.invs.length:Int)) (d.pots.length:Int)) (d.bounds.length:Int))= !vk d:=by
 rw[zfp,zfp,zfp]
 simp only[vk,Bool.not_and,Bool.not_not]
theorem zb6(d:xk):zj Tryz.prog 182 [zz (zc1 d)] [] (.bq (vk d&&yW d)) []:=by
 have hA:=zhK 235 d.bounds (fun y=> !zcQ y) (fun y _=>zdZ y)
 rw[za5]at hA
 refine gO T Tryz.func182 fun C hC=>?_
 repeat' first|refine gG ?_|refine gB (fun h=>?_) (fun h=>?_)|refine zra hC rfl rfl rfl rfl rfl rfl ?_|refine gL ?_
 ·simp only[List.length_map]at h
  rw[zgu]at h
  have:vk d=false:=by simpa using h
  rw[this];rfl
 ·simp only[List.length_map]at h
  rw[zgu]at h
  have hsz:vk d=true:=by simpa using h
  rw[hsz,Bool.true_and]
  simp only[vk,Bool.and_eq_true,Bool.not_eq_true',decide_eq_false_iff_not]at hsz
  obtain⟨⟨⟨hl1,hl2⟩,hl3⟩,hl4⟩:=hsz
  clear h
  rw[List.length_map]
  refine zy (fun i:Nat=>i≤(d.measures).length∧((d.measures).take i).all (jn)=true) (fun i=>([(1,.one (.bx 1001 0)),(24,.one (.p (.sl 7 (d.measures.map zB)))),(25,I d.measures.length),(26,I i)],[(1001,some (.box ((zc1 d).map V.p)))])) (fun i=>(d.measures).length - i) hC
   0 ⟨Nat.zero_le _,by simp⟩ id gM ?_
  rintro i ⟨hi,hn⟩
  refine zI T hC true 200 rfl ?_
  refine zP rfl (fun h=>?_) (fun h=>?_)
  ·have hlt:i<(d.measures).length:=by first|simpa using h|(have h':=of_decide_eq_true h;simp only[List.length_map,List.length_zip]at h' ⊢; omega)
   clear h
   obtain⟨x,hx⟩:=zf hlt
   repeat' first|refine gG ?_|refine gB (fun h=>?_) (fun h=>?_)|refine gX ?_|refine gC (yz _) ?_|refine gC (xS x.x) ?_|refine zT ?_|refine gL ?_
   all_goals first
    |(have hp:(jn) x=true:=by clear hn hx hlt hi;simp_all[jn, -List.all_eq_true, -List.all_eq_false]<;>omega
      have hlt':=hlt
      try simp only[List.length_zip,List.length_zipIdx]at hlt'
      rw[wrap64 (by omega)]
      refine zh (i+1) ⟨by omega,?_⟩ id (by omega) gM
      rw[xq (p:=jn) hx,hn,Bool.true_and];exact hp)
    |(have hp:(jn) x=false:=by clear hn hx hlt hi;simp_all[jn, -List.all_eq_true, -List.all_eq_false]<;>omega
      have hno:=jP (p:=jn) hx hp
      simp only[yW,hno,Bool.false_and])
  have hge: ¬i<(d.measures).length:=by first|simpa using h|(have h':=of_decide_eq_false h;simp only[List.length_map,List.length_zip]at h' ⊢; omega)
  have hall:(d.measures).all (jn)=true:=zai (p:=jn) (by omega) hn
  clear h hge hn hi
  repeat' first|refine gG ?_|refine gB (fun h=>?_) (fun h=>?_)|refine zp ?_
  rw[List.length_map]
  refine zy (fun i:Nat=>i≤(d.invs).length∧((d.invs).take i).all (zb4)=true) (fun i=>([(1,.one (.bx 1001 0)),(58,.one (.p (.sl 6 (d.invs.map w6)))),(59,I d.invs.length),(60,I i)],[(1001,some (.box ((zc1 d).map V.p)))])) (fun i=>(d.invs).length - i) hC
   0 ⟨Nat.zero_le _,by simp⟩ id gM ?_
  rintro i ⟨hi,hn⟩
  refine zI T hC true 200 rfl ?_
  refine zP rfl (fun h=>?_) (fun h=>?_)
  ·have hlt:i<(d.invs).length:=by first|simpa using h|(have h':=of_decide_eq_true h;simp only[List.length_map,List.length_zip]at h' ⊢; omega)
   clear h
   obtain⟨x,hx⟩:=zf hlt
   repeat' first|refine gG ?_|refine gB (fun h=>?_) (fun h=>?_)|refine gX ?_|refine gC (yz _) ?_|refine gC (zcj _) ?_|refine gC (xS x.x) ?_|refine zT ?_|refine gL ?_
   all_goals first
    |(have hp:(zb4) x=true:=by clear hn hx hlt hi;simp_all[zb4, -List.all_eq_true, -List.all_eq_false]<;>omega
      have hlt':=hlt
      try simp only[List.length_zip,List.length_zipIdx]at hlt'
      rw[wrap64 (by omega)]
      refine zh (i+1) ⟨by omega,?_⟩ id (by omega) gM
      rw[xq (p:=zb4) hx,hn,Bool.true_and];exact hp)
    |(have hp:(zb4) x=false:=by clear hn hx hlt hi;simp_all[zb4, -List.all_eq_true, -List.all_eq_false]<;>omega
      have hno:=jP (p:=zb4) hx hp
      simp only[yW,hno,Bool.false_and,Bool.and_false])
  have hge: ¬i<(d.invs).length:=by first|simpa using h|(have h':=of_decide_eq_false h;simp only[List.length_map,List.length_zip]at h' ⊢; omega)
  have hall:(d.invs).all (zb4)=true:=zai (p:=zb4) (by omega) hn
  clear h hge hn hi
  rename_i hall1
  repeat' first|refine gG ?_|refine gB (fun h=>?_) (fun h=>?_)|refine zp ?_
  rw[List.length_map]
  refine zy (fun i:Nat=>i≤(d.pots).length∧((d.pots).take i).all (zb5)=true) (fun i=>([(1,.one (.bx 1001 0)),(82,.one (.p (.sl 5 (d.pots.map jg)))),(83,I d.pots.length),(84,I i)],[(1001,some (.box ((zc1 d).map V.p)))])) (fun i=>(d.pots).length - i) hC
   0 ⟨Nat.zero_le _,by simp⟩ id gM ?_
  rintro i ⟨hi,hn⟩
  refine zI T hC true 200 rfl ?_
  refine zP rfl (fun h=>?_) (fun h=>?_)
  ·have hlt:i<(d.pots).length:=by first|simpa using h|(have h':=of_decide_eq_true h;simp only[List.length_map,List.length_zip]at h' ⊢; omega)
   clear h
   obtain⟨x,hx⟩:=zf hlt
   repeat' first|refine gG ?_|refine gB (fun h=>?_) (fun h=>?_)|refine gX ?_|refine gC (zcj _) ?_|refine gC (xS x.x) ?_|refine zT ?_|refine gL ?_
   all_goals first
    |(have hp:(zb5) x=true:=by clear hn hx hlt hi;simp_all[zb5, -List.all_eq_true, -List.all_eq_false]<;>omega
      have hlt':=hlt
      try simp only[List.length_zip,List.length_zipIdx]at hlt'
      rw[wrap64 (by omega)]
      refine zh (i+1) ⟨by omega,?_⟩ id (by omega) gM
      rw[xq (p:=zb5) hx,hn,Bool.true_and];exact hp)
    |(have hp:(zb5) x=false:=by clear hn hx hlt hi;simp_all[zb5, -List.all_eq_true, -List.all_eq_false]<;>omega
      have hno:=jP (p:=zb5) hx hp
      simp only[yW,hno,Bool.false_and,Bool.and_false])
  have hge: ¬i<(d.pots).length:=by first|simpa using h|(have h':=of_decide_eq_false h;simp only[List.length_map,List.length_zip]at h' ⊢; omega)
  have hall:(d.pots).all (zb5)=true:=zai (p:=zb5) (by omega) hn
  clear h hge hn hi
  rename_i hall2
  repeat' first|refine gG ?_|refine gB (fun h=>?_) (fun h=>?_)|refine zp ?_|refine gC hA ?_|refine gQ ?_
  simp only[yW,hall,hall1,hall2,Bool.true_and,Bool.not_not]
theorem zjE(t:jx):zj Tryz.prog 184 [zz (zG t)] [] (.bq (!zcg t)) []:=by
 refine gO T Tryz.func184 fun C hC=>?_
 repeat' first|refine gG ?_|refine gB (fun h=>?_) (fun h=>?_)|refine gC (yz _) ?_|refine gC (vG _ _) ?_|refine gQ ?_|refine gL ?_
 all_goals simp_all[zcg]
theorem zjF(p:Pr):zj Tryz.prog 186 [zz (ye p)] [] (.bq (!zaK p)) []:=by
 refine gO T Tryz.func186 fun C hC=>?_
 repeat' first|refine gG ?_|refine gB (fun h=>?_) (fun h=>?_)|refine gC (zbz p) ?_|refine gQ ?_
 rfl
theorem vl(d:xk):zj Tryz.prog 151 [zz (zc1 d)] [] (.bq (xV d)) []:=by
 have hA:=zju 184 d.types (fun y=> !zcg y) (fun y _=>zjE y)
 rw[za5]at hA
 have hB:=zjx 186 d.procs (fun y=> !zaK y) (fun y _=>zjF y)
 rw[za5]at hB
 have hv:xV d=(isName d.n&& !decide (12<(d.types.length:Int))&&xZ d.globals 8&& !decide (40<(d.procs.length:Int))&&(vk d&&yW d)&&d.types.all zcg&&d.procs.all zaK):=by
  simp only[xV,zgo,vk]
  generalize isName d.n=a1
  generalize decide (12<(d.types.length:Int))=a2
  generalize xZ d.globals 8=a3
  generalize decide (40<(d.procs.length:Int))=a4
  generalize yW d=a5
  generalize d.types.all zcg=a6
  generalize d.procs.all zaK=a7
  generalize decide (12<(d.measures.length:Int))=a8
  generalize decide (12<(d.invs.length:Int))=a9
  generalize decide (12<(d.pots.length:Int))=a10
  generalize decide (12<(d.bounds.length:Int))=a11
  cases a1<;>cases a3<;>cases a5<;>cases a6<;>cases a7<;>simp[Bool.and_assoc]
 rw[hv]
 refine gO T Tryz.func151 fun C hC=>?_
 repeat' first|refine gG ?_|refine gB (fun h=>?_) (fun h=>?_)|refine gC (yz _) ?_|refine gC (vG _ _) ?_|refine gC (zb6 _) ?_|refine gC hA ?_|refine gC hB ?_|refine gQ ?_|refine gL ?_
 all_goals (try simp only[List.length_map]at*)
 all_goals clear hA hB hv
 all_goals try generalize (vk d&&yW d)=q at*
 all_goals (simp_all[-List.all_eq_true, -List.all_eq_false]<;>(intros;omega))
end Hw.Fr.Ps
namespace Hw.Fr.Ps
open Go Go.Proofs Hw.M
theorem zpc{P:Program}{f:FuncId}{args:List S}{R R':RL}{s s':S}(h:zj P f args R s R')(hl:LeS s s'):zj P f args R s' R':=
 ⟨h.1,fun M ρ w xs h1 h2 h3 h4=>(h.2 M ρ w xs h1 h2 h3 h4).mono fun e w' ⟨v,M',ρ',he,hr⟩=>⟨v,M',ρ',he,{ hr with rep:=hl _ _ _ hr.rep }⟩⟩
structure wE (l:List Tok):Prop where
 len:l.length≤100000
 fin: ∃t,l[l.length - 1]?=some t∧t.k=5
 num: ∀t∈l,0≤t.n∧t.n≤1099511627776
theorem wE.next{l:List Tok}(hl:wE l){i:Nat}{t:Tok}(h:l[i]?=some t)(hk:t.k≠5):i+1<l.length:=by
 obtain⟨u,hu,hk5⟩:=hl.fin
 have hlt:=(List.getElem?_eq_some_iff.1 h).1
 by_cases e:i=l.length - 1
 ·subst e;rw[hu]at h;cases h;exact absurd hk5 hk
 ·omega
theorem zl{l:List Tok}(hl:wE l){i:Nat}{s:Str}(h:isA l i s=true):i+1<l.length:=by
 unfold isA at h
 split at h
 ·rename_i t ht
  refine hl.next ht fun e=>?_
  rw[e]at h;simp at h
 ·cases h
def rdR(l:List Tok)(i:Nat)(b:Bool):Res:= .box [.p (zmh l),.p (ki i),.p (.k (.bool b))]
abbrev rdV:S:= .one (.bx 0 0)
def RJ{α:Type}(l:List Tok)(f:FuncId)(args:List S)(enc:α→S)(i:Nat)(r:PJ α):Prop:=
 ∀x j b,r=some (x,j,b)→j<l.length∧zj Tryz.prog f args [(0,rdR l i false)] (enc x) [(0,rdR l j b)]
theorem RJ.okI{α:Type}{l:List Tok}{f:FuncId}{args:List S}{enc:α→S}{i:Nat}{x:α}{j:Nat}{b:Bool}(h:j<l.length)(h2:zj Tryz.prog f args [(0,rdR l i false)] (enc x) [(0,rdR l j b)]):RJ l f args enc i (some (x,j,b)):=
 fun _ _ _ e=>by cases e;exact⟨h,h2⟩
section
variable {l:List Tok} (hl:wE l)
include hl
theorem zfq(i:Nat)(hi:i<l.length)(s:Str):zj Tryz.prog 179 [rdV,Sr s] [(0,rdR l i true)] (Bo false) [(0,rdR l i true)]:=by
 have hlen:=hl.len
 obtain⟨t,ht⟩:=zf hi
 refine gO T Tryz.func179 fun C hC=>?_
 repeat' first|refine gG ?_|refine gB (fun h=>?_) (fun h=>?_)|refine gI T (zu ht) ?_|refine gL ?_
 exact gE
theorem zgv(i:Nat)(hi:i<l.length)(s:Str):zj Tryz.prog 179 [rdV,Sr s] [(0,rdR l i false)] (.bq (isA l i s)) [(0,rdR l i false)]:=by
 have hlen:=hl.len
 obtain⟨t,ht⟩:=zf hi
 have e:isA l i s=((decide (t.k=3)||decide (t.k=4))&&decide (t.t=s)):=by unfold isA;rw[ht]
 rw[e]
 clear e
 refine gO T Tryz.func179 fun C hC=>?_
 repeat' first|refine gG ?_|refine gB (fun h=>?_) (fun h=>?_)|refine gI T (zu ht) ?_
 all_goals first
  |exact zg ⟨.inl rfl,id,_,rfl,.qq (by simp_all),⟨rfl,trivial⟩,rfl,rfl⟩
  |exact zg ⟨.inl rfl,id,_,rfl,.qb (by simp_all),⟨rfl,trivial⟩,rfl,rfl⟩
theorem zhP{i:Nat}{s:Str}(h:isA l i s=true):zj Tryz.prog 179 [rdV,Sr s] [(0,rdR l i false)] (Bo true) [(0,rdR l i false)]:=
 zpc (zgv hl i (yF h) s) (.bq h)
theorem zbA{i:Nat}(hi:i<l.length){s:Str}(h: ¬isA l i s=true):zj Tryz.prog 179 [rdV,Sr s] [(0,rdR l i false)] (Bo false) [(0,rdR l i false)]:=
 zpc (zgv hl i hi s) (.bq (by simpa using h))
theorem y8(i:Nat)(hi:i<l.length)(s:Str):zj Tryz.prog 173 [rdV,Sr s] [(0,rdR l i true)] (Bo false) [(0,rdR l i true)]:=by
 refine gO T Tryz.func173 fun C hC=>?_
 repeat' first|refine gG ?_|refine gB (fun h=>?_) (fun h=>?_)|refine gR (zfq hl i hi s) (nm [0]) ?_|refine gL ?_
 exact gE
theorem zQ{i:Nat}{s:Str}(h:isA l i s=true):zj Tryz.prog 173 [rdV,Sr s] [(0,rdR l i false)] (Bo true) [(0,rdR l (i+1) false)]:=by
 have hlen:=hl.len
 have hi:=yF h
 refine gO T Tryz.func173 fun C hC=>?_
 repeat' first|refine gG ?_|refine gB (fun h=>?_) (fun h=>?_)|refine gR (zhP hl h) (nm [0]) ?_|refine gL ?_
 unfold rdR
 rw[yq (by omega)]
 exact gE
theorem zH{i:Nat}(hi:i<l.length){s:Str}(h: ¬isA l i s=true):zj Tryz.prog 173 [rdV,Sr s] [(0,rdR l i false)] (Bo false) [(0,rdR l i false)]:=by
 refine gO T Tryz.func173 fun C hC=>?_
 repeat' first|refine gG ?_|refine gB (fun h=>?_) (fun h=>?_)|refine gR (zbA hl hi h) (nm [0]) ?_|refine gL ?_
 exact gE
theorem yi(i:Nat)(hi:i<l.length)(s:Str):zj Tryz.prog 147 [rdV,Sr s] [(0,rdR l i true)] (.tup []) [(0,rdR l i true)]:=by
 refine gO T Tryz.func147 fun C hC=>?_
 repeat' first|refine gG ?_|refine gB (fun h=>?_) (fun h=>?_)|refine gR (y8 hl i hi s) (nm [0]) ?_
 exact zg ⟨.inr rfl,id,[],rfl,.refl _,⟨rfl,trivial⟩,rfl,rfl⟩
theorem jB{i:Nat}{s:Str}(h:isA l i s=true):zj Tryz.prog 147 [rdV,Sr s] [(0,rdR l i false)] (.tup []) [(0,rdR l (i+1) false)]:=by
 refine gO T Tryz.func147 fun C hC=>?_
 repeat' first|refine gG ?_|refine gB (fun h=>?_) (fun h=>?_)|refine gR (zQ hl h) (nm [0]) ?_
 exact zg ⟨.inr rfl,id,[],rfl,.refl _,⟨rfl,trivial⟩,rfl,rfl⟩
theorem zfr{i:Nat}(hi:i<l.length){s:Str}(h: ¬isA l i s=true):zj Tryz.prog 147 [rdV,Sr s] [(0,rdR l i false)] (.tup []) [(0,rdR l i true)]:=by
 refine gO T Tryz.func147 fun C hC=>?_
 repeat' first|refine gG ?_|refine gB (fun h=>?_) (fun h=>?_)|refine gR (zH hl hi h) (nm [0]) ?_
 exact zg ⟨.inr rfl,id,[],rfl,.refl _,⟨rfl,trivial⟩,rfl,rfl⟩
theorem xu(i:Nat)(hi:i<l.length)(s:Str):RJ l 147 [rdV,Sr s] (fun _=> .tup []) i (vi l s i):=by
 unfold vi
 split
 ·rename_i h;exact .okI (zl hl h) (jB hl h)
 ·rename_i h;exact .okI hi (zfr hl hi h)
theorem zbB(i:Nat)(hi:i<l.length):zj Tryz.prog 148 [rdV] [(0,rdR l i true)] (Sr (⟨#[]⟩:ByteArray)) [(0,rdR l i true)]:=by
 have _:=hl
 refine gO T Tryz.func148 fun C hC=>?_
 repeat' first|refine gG ?_|refine gB (fun h=>?_) (fun h=>?_)|refine gL ?_
 exact gE
theorem xw(i:Nat)(hi:i<l.length):RJ l 148 [rdV] Sr i (nameJ l i):=by
 have hlen:=hl.len
 obtain⟨t,ht⟩:=zf hi
 unfold nameJ
 rw[ht]
 by_cases hk:t.k=1
 ·simp only[if_pos hk]
  refine .okI (hl.next ht (by omega)) ?_
  have w1:IntKind.i64.wrap (IntKind.i64.wrap ((i:Int)+1) - 1)=(i:Int):=by
   have e1:IntKind.i64.wrap ((i:Int)+1)=(i:Int)+1:=wrap64 (by omega)
   rw[e1,wrap64 (by omega)];omega
  refine gO T Tryz.func148 fun C hC=>?_
  repeat' first|refine gG ?_|(exfalso;exact absurd hk (by simpa using h))|refine gB (fun h=>?_) (fun h=>?_)|refine gI T (zu ht) ?_|refine yh T hC rfl rfl rfl (by rw[w1];exact Int.natCast_nonneg _) (by rw[w1];exact zu ht) rfl rfl ?_|refine gL ?_
  unfold rdR
  rw[yq (by omega)]
  exact gE
 ·simp only[if_neg hk]
  refine .okI hi ?_
  refine gO T Tryz.func148 fun C hC=>?_
  repeat' first|refine gG ?_|(exfalso;exact absurd (by simpa using h) hk)|refine gB (fun h=>?_) (fun h=>?_)|refine gI T (zu ht) ?_|refine gL ?_
  exact gE
theorem zmt(i:Nat)(hi:i<l.length):zj Tryz.prog 227 [rdV] [(0,rdR l i true)] (I 0) [(0,rdR l i true)]:=by
 have _:=hl
 refine gO T Tryz.func227 fun C hC=>?_
 repeat' first|refine gG ?_|refine gB (fun h=>?_) (fun h=>?_)|refine gN ?_
 exact gE
theorem zfs(i:Nat)(hi:i<l.length):RJ l 227 [rdV] I i (zji l i):=by
 have hlen:=hl.len
 obtain⟨t,ht⟩:=zf hi
 unfold zji
 rw[ht]
 by_cases hk:t.k=2
 ·simp only[if_pos hk]
  refine .okI (hl.next ht (by omega)) ?_
  have w1:IntKind.i64.wrap (IntKind.i64.wrap ((i:Int)+1) - 1)=(i:Int):=by
   have e1:IntKind.i64.wrap ((i:Int)+1)=(i:Int)+1:=wrap64 (by omega)
   rw[e1,wrap64 (by omega)];omega
  refine gO T Tryz.func227 fun C hC=>?_
  repeat' first|refine gG ?_|(exfalso;exact absurd hk (by simpa using h))|refine gB (fun h=>?_) (fun h=>?_)|refine gI T (zu ht) ?_|refine yh T hC rfl rfl rfl (by rw[w1];exact Int.natCast_nonneg _) (by rw[w1];exact zu ht) rfl rfl ?_|refine gL ?_
  unfold rdR
  rw[yq (by omega)]
  exact gE
 ·simp only[if_neg hk]
  refine .okI hi ?_
  refine gO T Tryz.func227 fun C hC=>?_
  repeat' first|refine gG ?_|(exfalso;exact absurd (by simpa using h) hk)|refine gB (fun h=>?_) (fun h=>?_)|refine gI T (zu ht) ?_|refine gL ?_
  exact gE
end
end Hw.Fr.Ps
namespace Hw.Fr.Ps
open Go Go.Proofs Hw.M
def zoc:PV:= .sl 1 [[ks (⟨#[105,110,116]⟩:ByteArray)],[ks (⟨#[98,111,111,108]⟩:ByteArray)]]
section
variable {l:List Tok} (hl:wE l)
include hl
theorem zc2(i:Nat)(hi:i<l.length):zj Tryz.prog 225 [rdV] [(0,rdR l i true)] (Sr (⟨#[]⟩:ByteArray)) [(0,rdR l i true)]:=by
 refine gO T Tryz.func225 fun C hC=>?_
 repeat' first|refine gG ?_|refine gB (fun h=>?_) (fun h=>?_)|refine ya T hC rfl rfl rfl rfl rfl rfl rfl rfl rfl ?_
 refine zy (fun j:Nat=>j≤2) (fun j=>([(0,rdV),(5,pS zoc),(6,I 2),(7,I j)],[(0,some (rdR l i true))])) (fun j=>2 - j) hC
  0 (by decide) id gM ?_
 intro j hj
 refine zI T hC true 200 rfl ?_
 refine zP rfl (fun h=>?_) (fun h=>?_)
 ·have hlt:j<2:=by have:=of_decide_eq_true h;omega
  clear h
  obtain⟨s,hs⟩: ∃s:Str,([[ks (⟨#[105,110,116]⟩:ByteArray)],[ks (⟨#[98,111,111,108]⟩:ByteArray)]]:List (List PV))[(j:Int).toNat]?=some [ks s]:=by
   have:j=0∨j=1:=by omega
   rcases this with rfl|rfl
   ·exact⟨_,rfl⟩
   ·exact⟨_,rfl⟩
  repeat' first|refine gG ?_|refine gB (fun h=>?_) (fun h=>?_)|refine gI T hs ?_|refine gR (y8 hl i hi s) (nm [0]) ?_
  rw[yq (by omega)]
  exact zh (j+1) (by omega) id (by omega) gM
 ·repeat' first|refine gG ?_|refine gB (fun h=>?_) (fun h=>?_)|refine zp ?_|refine gR (zbB hl i hi) (nm [0]) ?_|refine gL ?_
  exact gE
theorem zft(i:Nat)(hi:i<l.length):RJ l 225 [rdV] Sr i (zfh l i):=by
 intro x k b hR
 have hk:k<l.length:=by
  unfold zfh at hR
  split at hR
  ·rename_i h;cases hR;exact zl hl h
  ·split at hR
   ·rename_i h;cases hR;exact zl hl h
   ·exact(xw hl i hi _ _ _ hR).1
 refine⟨hk,?_⟩
 refine gO T Tryz.func225 fun C hC=>?_
 repeat' first|refine gG ?_|refine gB (fun h=>?_) (fun h=>?_)|refine ya T hC rfl rfl rfl rfl rfl rfl rfl rfl rfl ?_
 refine zy (fun j:Nat=>j≤2∧(0<j→ ¬isA l i (⟨#[105,110,116]⟩:ByteArray)=true)∧(1<j→ ¬isA l i (⟨#[98,111,111,108]⟩:ByteArray)=true)) (fun j=>([(0,rdV),(5,pS zoc),(6,I 2),(7,I j)],[(0,some (rdR l i false))])) (fun j=>2 - j) hC
  0 ⟨by decide,fun h=>absurd h (by decide),fun h=>absurd h (by decide)⟩ id gM ?_
 rintro j ⟨hj,hA,hB⟩
 refine zI T hC true 200 rfl ?_
 refine zP rfl (fun h=>?_) (fun h=>?_)
 ·have hlt:j<2:=by have:=of_decide_eq_true h;omega
  clear h
  have:j=0∨j=1:=by omega
  rcases this with rfl|rfl
  ·by_cases hs:isA l i (⟨#[105,110,116]⟩:ByteArray)=true
   ·unfold zfh at hR
    rw[if_pos hs]at hR
    cases hR
    repeat' first|refine gG ?_|refine gB (fun h=>?_) (fun h=>?_)|refine gI T rfl ?_|refine gR (zQ hl hs) (nm [0]) ?_|refine zT ?_|refine gL ?_
    exact gE
   ·repeat' first|refine gG ?_|refine gB (fun h=>?_) (fun h=>?_)|refine gI T rfl ?_|refine gR (zH hl hi hs) (nm [0]) ?_
    rw[yq (by omega)]
    exact zh 1 ⟨by omega,fun _=>hs,fun h=>absurd h (by decide)⟩ id (by omega) gM
  ·by_cases hs:isA l i (⟨#[98,111,111,108]⟩:ByteArray)=true
   ·unfold zfh at hR
    rw[if_neg (hA (by decide)),if_pos hs]at hR
    cases hR
    repeat' first|refine gG ?_|refine gB (fun h=>?_) (fun h=>?_)|refine gI T rfl ?_|refine gR (zQ hl hs) (nm [0]) ?_|refine zT ?_|refine gL ?_
    exact gE
   ·repeat' first|refine gG ?_|refine gB (fun h=>?_) (fun h=>?_)|refine gI T rfl ?_|refine gR (zH hl hi hs) (nm [0]) ?_
    rw[yq (by omega)]
    exact zh 2 ⟨by omega,fun _=>hA (by decide),fun _=>hs⟩ id (by omega) gM
 ·have hge:j=2:=by have:=of_decide_eq_false h;omega
  subst hge
  unfold zfh at hR
  rw[if_neg (hA (by decide)),if_neg (hB (by decide))]at hR
  have hN:=(xw hl i hi _ _ _ hR).2
  repeat' first|refine gG ?_|refine gB (fun h=>?_) (fun h=>?_)|refine zp ?_|refine gR hN (nm [0]) ?_|refine gL ?_
  exact gE
theorem zck(i:Nat)(hi:i<l.length):zj Tryz.prog 175 [rdV] [(0,rdR l i true)] (zz (zn ⟨(⟨#[]⟩:ByteArray),(⟨#[]⟩:ByteArray)⟩)) [(0,rdR l i true)]:=by
 refine gO T Tryz.func175 fun C hC=>?_
 repeat' first|refine gG ?_|refine gB (fun h=>?_) (fun h=>?_)|refine gR (zbB hl i hi) (nm [0]) ?_|refine gR (zc2 hl i hi) (nm [0]) ?_|refine gL ?_
 exact gE
theorem jU(i:Nat)(hi:i<l.length):RJ l 175 [rdV] (fun f=>zz (zn f)) i (xR l i):=by
 intro x k b hR
 unfold xR at hR
 rcases hn:nameJ l i with _|⟨n,i1,_|_⟩
 ·rw[hn]at hR;cases hR
 ·rw[hn]at hR
  simp only[PJ.go]at hR
  obtain⟨h1,hN⟩:=xw hl i hi _ _ _ hn
  rcases ht:zfh l i1 with _|⟨t,i2,b2⟩
  ·rw[ht]at hR;cases hR
  ·obtain⟨h2,hT⟩:=zft hl i1 h1 _ _ _ ht
   have e:x=⟨n,t⟩∧k=i2∧b=b2:=by
    rw[ht]at hR
    cases b2<;>simp only[PJ.ok]at hR<;>cases hR<;>exact⟨rfl,rfl,rfl⟩
   obtain⟨rfl,rfl,rfl⟩:=e
   refine⟨h2,?_⟩
   refine gO T Tryz.func175 fun C hC=>?_
   repeat' first|refine gG ?_|refine gB (fun h=>?_) (fun h=>?_)|refine gR hN (nm [0]) ?_|refine gR hT (nm [0]) ?_|refine gL ?_
   exact gE
 ·rw[hn]at hR
  cases hR
  obtain⟨h1,hN⟩:=xw hl i hi _ _ _ hn
  refine⟨h1,?_⟩
  refine gO T Tryz.func175 fun C hC=>?_
  repeat' first|refine gG ?_|refine gB (fun h=>?_) (fun h=>?_)|refine gR hN (nm [0]) ?_|refine gR (zc2 hl _ h1) (nm [0]) ?_|refine gL ?_
  exact gE
end
end Hw.Fr.Ps
namespace Hw.Fr.Ps
open Go Go.Proofs Hw.M
theorem zfu{α β:Type}{r:PJ α}{f:α→Nat→PJ β}{g:α→β}{x:β}{j:Nat}{b:Bool}(h:PJ.go r f g=some (x,j,b)):
 (∃y k,r=some (y,k,false)∧f y k=some (x,j,b))∨(∃y,r=some (y,j,true)∧x=g y∧b=true):=by
 rcases r with _|⟨y,k,_|_⟩
 ·cases h
 ·exact .inl ⟨y,k,rfl,h⟩
 ·cases h;exact .inr ⟨y,rfl,rfl,rfl⟩
def zmu(x:Str×Int):List PV:=[ks x.1,ki x.2]
def zt0:List (List (Str×Int)):=[opsA 0,opsA 1,[],opsA 3,opsA 4,opsA 5]
def zub(o:List (Str×Int)):List PV:=[.sl 2 (o.map zmu)]
def zs3:PV:= .sl 1 (zt0.map zub)
theorem zjG{n:Nat}(h:n<6):zt0[n]?=some (opsA n):=by
 have:n=0∨n=1∨n=2∨n=3∨n=4∨n=5:=by omega
 rcases this with rfl|rfl|rfl|rfl|rfl|rfl<;>rfl
theorem vH:zj Tryz.prog 298 [] [] (pS zs3) []:=by
 refine gO T Tryz.func298 fun C hC=>?_
 repeat' first|refine gG ?_|refine gB (fun h=>?_) (fun h=>?_)|refine ya T hC rfl rfl rfl rfl rfl rfl rfl rfl rfl ?_|refine gL ?_
 exact gF
theorem zc3(f:FuncId)(tl:List Tok)(ti:Nat)(tw:Bool)(l:List (Str×Int))(p:(Str×Int)→Unit→Bool)(nx:(Str×Int)→Unit→Unit)(inv:Unit→Prop)
 (hf: ∀x∈l,∀s:Unit,inv s→zj Tryz.prog f [zz (zmu x),.one (.bx 1 0)] [(0,rdR tl ti tw),(1,.box [.bx 0 0])] (.bq (p x s)) ((fun s:Unit=>[(0,rdR tl ti tw),(1,.box [.bx 0 0])]) (nx x s))∧(p x s=false→inv (nx x s))) (s:Unit) (hs:inv s):
 zj Tryz.prog 299 [pS (.sl 2 (l.map zmu)),.one (.cl f [] [.bx 1 0])] [(0,rdR tl ti tw),(1,.box [.bx 0 0])] (I (idxR p nx l 0 s).1) ((fun s:Unit=>[(0,rdR tl ti tw),(1,.box [.bx 0 0])]) (idxR p nx l 0 s).2):=by
 refine gO T Tryz.func299 fun C hC=>?_
 have hs0:=hs
 refine w9 0 rfl fun hl=>?_
 rw[List.length_map]at hl
 repeat' first|refine gG ?_|refine gB (fun h=>?_) (fun h=>?_)
 rw[List.length_map]
 refine zy (fun q:Nat×Unit=>q.1≤l.length∧inv q.2∧idxR p nx (l.drop q.1) q.1 q.2=idxR p nx l 0 s) (fun q=>(fun s:Unit=>([(0,pS (.sl 2 (l.map zmu))),(1,.one (.cl f [] [.bx 1 0])),(7,I l.length),(8,I q.1)],[(0,some (rdR tl ti tw)),(1,some (.box [.bx 0 0]))])) q.2) (fun q=>l.length - q.1) hC
  (0,s) ⟨Nat.zero_le _,hs,rfl⟩ id gM ?_
 generalize idxR p nx l 0 s=res
 clear hs hs0
 rintro⟨i,s⟩ ⟨hi,hv,hn⟩
 simp only at hi hv hn
 refine zI T hC true 200 rfl ?_
 refine zP rfl (fun hh=>?_) (fun hh=>?_)
 ·have hlt:i<l.length:=by simpa using hh
  clear hh
  obtain⟨x,hx⟩:=zf hlt
  rw[drop_at hx]at hn
  simp only[idxR]at hn
  have hv2:=(hf x (List.mem_of_getElem? hx) s hv).2
  repeat' first|refine gG ?_|refine gB (fun h=>?_) (fun h=>?_)|refine gI T (zu hx) ?_|refine zr hC (hf x (List.mem_of_getElem? hx) s hv).1 id rfl rfl (yJ.refl _) rfl rfl rfl rfl rfl rfl rfl rfl ?_|refine zT ?_
  ·rw[if_pos (by assumption)]at hn
   subst hn
   exact zg ⟨.inl rfl,id,_,rfl,.refl _,⟨rfl,rfl,trivial⟩,rfl,rfl⟩
  ·have hpf:p x s=false:=by assumption
   rw[hpf]at hn
   simp only[Bool.false_eq_true,if_false]at hn
   rw[wrap64 (by omega)]
   exact zh (i+1,nx x s) ⟨by simp only;omega,hv2 hpf,hn⟩ id (by simp only;omega) gM
 ·have hge: ¬i<l.length:=by simpa using hh
  rw[List.drop_eq_nil_of_le (by omega)]at hn
  simp only[idxR]at hn
  subst hn
  repeat' first|refine gG ?_|refine gB (fun h=>?_) (fun h=>?_)|refine zp ?_
  exact zg ⟨.inl rfl,id,_,rfl,.refl _,⟨rfl,rfl,trivial⟩,rfl,rfl⟩
theorem jV(op n:Int)(s:Str):LeS (.agg [.p (ki op),.p (ki n),.p (ks s),.p (.k (.slice none 0 0))]) (zz (yQ (.mk op n s []))):=
 LeS.agg (.cons (.refl _) (.cons (.refl _) (.cons (.refl _) (.cons (.nil 4) .nil))))
theorem za6{α:Type}(p:α→Bool): ∀(l:List α) (k:Nat),(l.find? p=none∧(idxR (fun x (_:Unit)=>p x) (fun _ s=>s) l k ()).1= -1)∨ ∃x j,l.find? p=some x∧l[j]?=some x∧(idxR (fun x (_:Unit)=>p x) (fun _ s=>s) l k ()).1=((k+j:Nat):Int)
 | [],_=> .inl ⟨rfl,rfl⟩
 |x::r,k=>by
  cases h:p x with
  |true=>exact .inr ⟨x,0,by simp[List.find?,h],rfl,by simp[idxR,h]⟩
  |false=>
   rcases za6 p r (k+1)with⟨h1,h2⟩|⟨y,j,h1,h2,h3⟩
   ·exact .inl ⟨by simp[List.find?,h,h1],by simp only[idxR,h,Bool.false_eq_true,if_false];exact h2⟩
   ·exact .inr ⟨y,j+1,by simp[List.find?,h,h1],h2,by simp only[idxR,h,Bool.false_eq_true,if_false];rw[h3];congr 1;omega⟩
section
variable {l:List Tok} (hl:wE l)
include hl
theorem zd0(i:Nat)(hi:i<l.length)(x:Str×Int):zj Tryz.prog 300 [zz (zmu x),.one (.bx 1 0)] [(0,rdR l i false),(1,.box [.bx 0 0])] (.bq (isA l i x.1)) [(0,rdR l i false),(1,.box [.bx 0 0])]:=by
 refine gO T Tryz.func300 fun C hC=>?_
 repeat' first|refine gG ?_|refine gB (fun h=>?_) (fun h=>?_)|refine gR (zgv hl i hi x.1) (nm [0]) ?_|refine gQ ?_
 exact zg ⟨.inl rfl,id,_,rfl,.qq rfl,⟨rfl,rfl,trivial⟩,rfl,rfl⟩
theorem zhQ(i:Nat)(hi:i<l.length)(x:Str×Int):zj Tryz.prog 300 [zz (zmu x),.one (.bx 1 0)] [(0,rdR l i true),(1,.box [.bx 0 0])] (.bq false) [(0,rdR l i true),(1,.box [.bx 0 0])]:=by
 refine gO T Tryz.func300 fun C hC=>?_
 repeat' first|refine gG ?_|refine gB (fun h=>?_) (fun h=>?_)|refine gR (zfq hl i hi x.1) (nm [0]) ?_|refine gL ?_
 exact zg ⟨.inl rfl,id,_,rfl,.qb rfl,⟨rfl,rfl,trivial⟩,rfl,rfl⟩
theorem zgw(i:Nat)(hi:i<l.length)(o:List (Str×Int)):zj Tryz.prog 299 [pS (.sl 2 (o.map zmu)),.one (.cl 300 [] [.bx 1 0])] [(0,rdR l i true),(1,.box [.bx 0 0])] (I (-1)) [(0,rdR l i true),(1,.box [.bx 0 0])]:=by
 have h:=zc3 300 l i true o (fun _ _=>false) (fun _ s=>s) (fun _=>True) (fun x hx s _=>⟨zhQ hl i hi x,fun _=>trivial⟩) () trivial
 have e:(idxR (fun(_:Str×Int) (_:Unit)=>false) (fun _ s=>s) o 0 ()).1= -1:=by
  rcases za6 (fun _=>false) o 0 with⟨_,h2⟩|⟨y,j,h1,_,_⟩
  ·exact h2
  ·exact absurd (List.find?_some h1) (by simp)
 rw[e]at h
 exact h
theorem zjH(i:Nat)(hi:i<l.length)(n:Nat)(hn:opA l i n=none):zj Tryz.prog 299 [pS (.sl 2 ((opsA n).map zmu)),.one (.cl 300 [] [.bx 1 0])] [(0,rdR l i false),(1,.box [.bx 0 0])] (I (-1)) [(0,rdR l i false),(1,.box [.bx 0 0])]:=by
 have h:=zc3 300 l i false (opsA n) (fun x _=>isA l i x.1) (fun _ s=>s) (fun _=>True) (fun x hx s _=>⟨zd0 hl i hi x,fun _=>trivial⟩) () trivial
 have e:(idxR (fun(x:Str×Int) (_:Unit)=>isA l i x.1) (fun _ s=>s) (opsA n) 0 ()).1= -1:=by
  rcases za6 (fun x:Str×Int=>isA l i x.1) (opsA n) 0 with⟨_,h2⟩|⟨y,j,h1,_,_⟩
  ·exact h2
  ·unfold opA at hn;rw[h1]at hn;cases hn
 rw[e]at h
 exact h
theorem zjI(i:Nat)(hi:i<l.length)(n:Nat)(op:Int)(hn:opA l i n=some op): ∃(j:Nat) (s:Str),(opsA n)[j]?=some (s,op)∧isA l i s=true∧zj Tryz.prog 299 [pS (.sl 2 ((opsA n).map zmu)),.one (.cl 300 [] [.bx 1 0])] [(0,rdR l i false),(1,.box [.bx 0 0])] (I j) [(0,rdR l i false),(1,.box [.bx 0 0])]:=by
 have h:=zc3 300 l i false (opsA n) (fun x _=>isA l i x.1) (fun _ s=>s) (fun _=>True) (fun x hx s _=>⟨zd0 hl i hi x,fun _=>trivial⟩) () trivial
 rcases za6 (fun x:Str×Int=>isA l i x.1) (opsA n) 0 with⟨h1,_⟩|⟨⟨s,o⟩,j,h1,h2,h3⟩
 ·unfold opA at hn;rw[h1]at hn;cases hn
 ·have e:o=op:=by unfold opA at hn;rw[h1]at hn;exact Option.some.inj hn
  subst e
  rw[h3,Nat.zero_add]at h
  exact⟨j,s,h2,by have:=List.find?_some h1;exact this,h⟩
theorem zjJ(i:Nat)(hi:i<l.length):zj Tryz.prog 320 [rdV] [(0,rdR l i true)] (zz (yQ E0)) [(0,rdR l i true)]:=by
 have _:=hl
 refine gO T Tryz.func320 fun C hC=>?_
 repeat' first|refine gG ?_|refine gB (fun h=>?_) (fun h=>?_)|refine gL ?_
 exact zg ⟨.inl rfl,id,_,rfl,jV _ _ _,⟨rfl,trivial⟩,rfl,rfl⟩
theorem zjK(i:Nat)(hi:i<l.length):zj Tryz.prog 297 [rdV] [(0,rdR l i true)] (zz (yQ E0)) [(0,rdR l i true)]:=by
 refine gO T Tryz.func297 fun C hC=>?_
 repeat' first|refine gG ?_|refine gB (fun h=>?_) (fun h=>?_)|refine gR (zjJ hl i hi) (nm [0]) ?_
 refine zy (fun _:Unit=>True) (fun _=>([(0,rdV),(2,.one (.bx 1002 0)),(3,.one (.bx 1003 0))],[(0,some (rdR l i true)),(1002,some (Res.box (zV [ZK.int .i64,ZK.int .i64,ZK.str,ZK.slice]))),(1003,some (Res.box ((yQ E0).map V.p)))])) (fun _=>0) hC
  () trivial id gM ?_
 rintro _ _
 repeat' first|refine gG ?_|refine gB (fun h=>?_) (fun h=>?_)|refine gR (y8 hl i hi _) (nm [0]) ?_|refine zp ?_|refine gL ?_
 exact gE
theorem zjL(i:Nat)(hi:i<l.length): ∀(k n:Nat),n+k=6→zj Tryz.prog 271 [rdV,I n] [(0,rdR l i true)] (zz (yQ E0)) [(0,rdR l i true)]:=by
 intro k
 induction k with
 |zero=>
  intro n hn
  have:n=6:=by omega
  subst this
  refine gO T Tryz.func271 fun C hC=>?_
  repeat' first|refine gG ?_|(exfalso;simp at h;done)|refine gB (fun h=>?_) (fun h=>?_)|refine gR (y8 hl i hi _) (nm [0]) ?_|refine gR (zjK hl i hi) (nm [0]) ?_|refine gL ?_
  exact gE
 |succ k ih=>
  intro n hn
  have hX:zj Tryz.prog 271 [rdV,I (IntKind.i64.wrap ((n:Int)+1))] [(0,rdR l i true)] (zz (yQ E0)) [(0,rdR l i true)]:=by
   rw[yq (by omega)];exact ih (n+1) (by omega)
  refine gO T Tryz.func271 fun C hC=>?_
  by_cases h2:n=2
  ·repeat' first|refine gG ?_|(exfalso;exact absurd h2 (by have:=of_decide_eq_false h;omega))|refine gB (fun h=>?_) (fun h=>?_)|refine gR (y8 hl i hi _) (nm [0]) ?_|refine gR hX (nm [0]) ?_|refine gL ?_
   exact gE
  ·repeat' first|refine gG ?_|(exfalso;have h':=of_decide_eq_true h;omega)|refine gB (fun h=>?_) (fun h=>?_)|refine gR hX (nm [0]) ?_|refine gL ?_
   refine zy (fun _:Unit=>True) (fun _=>([(1,I n),(2,.one (.bx 1002 0)),(4,.one (.bx 1004 0)),(5,.one (.bx 1005 0))],[(0,some (rdR l i true)),(1002,some (Res.box [.bx 0 0])),(1004,some (Res.box (zV [ZK.int .i64,ZK.int .i64,ZK.str,ZK.slice]))),(1005,some (Res.box ((yQ E0).map V.p)))])) (fun _=>0) hC
    () trivial id gM ?_
   rintro _ _
   repeat' first|refine gG ?_|(exfalso;have h':=of_decide_eq_false h;omega)|refine gB (fun h=>?_) (fun h=>?_)|refine yh T hC rfl rfl rfl (Int.natCast_nonneg _) (zu (zjG (show n<6 by omega))) rfl rfl ?_|refine gC vH ?_|refine gR (zgw hl i hi _) (nm [0,1002]) ?_|refine gL ?_|refine zT ?_
   exact gE
theorem wg(i:Nat)(hi:i<l.length):zj Tryz.prog 228 [rdV] [(0,rdR l i true)] (zz (yQ E0)) [(0,rdR l i true)]:=by
 refine gO T Tryz.func228 fun C hC=>?_
 repeat' first|refine gG ?_|refine gB (fun h=>?_) (fun h=>?_)|refine gR (zjL hl i hi 6 0 rfl) (nm [0]) ?_|refine gL ?_
 exact gE
theorem zd1(i:Nat)(hi:i<l.length):zj Tryz.prog 178 [rdV] [(0,rdR l i true)] (zz (yQ E0)) [(0,rdR l i true)]:=by
 refine gO T Tryz.func178 fun C hC=>?_
 repeat' first|refine gG ?_|refine gB (fun h=>?_) (fun h=>?_)|refine gR (yi hl i hi _) (nm [0]) ?_|refine gR (wg hl i hi) (nm [0]) ?_|refine gL ?_
 exact gE
abbrev zt1:S:= .one (.p (.k (.slice none 0 0)))
theorem zan(i:Nat)(hi:i<l.length):zj Tryz.prog 226 [rdV] [(0,rdR l i true)] (pS (y7 [])) [(0,rdR l i true)]:=by
 refine gO T Tryz.func226 fun C hC=>?_
 repeat' first|refine gG ?_|refine gB (fun h=>?_) (fun h=>?_)|refine gL ?_
 refine zy (fun _:Unit=>True) (fun _=>([(0,rdV),(3,zt1)],[(0,some (rdR l i true))])) (fun _=>0) hC
  () trivial id gM ?_
 rintro _ _
 repeat' first|refine gG ?_|refine gB (fun h=>?_) (fun h=>?_)|refine zp ?_|refine gR (yi hl i hi _) (nm [0]) ?_|refine gL ?_
 exact zg ⟨.inl rfl,id,_,rfl,.one (.nil 5),⟨rfl,trivial⟩,rfl,rfl⟩
theorem zcl(i:Nat)(hi:i<l.length):zj Tryz.prog 296 [rdV] [(0,rdR l i true)] (pS (y7 [])) [(0,rdR l i true)]:=by
 refine gO T Tryz.func296 fun C hC=>?_
 repeat' first|refine gG ?_|refine gB (fun h=>?_) (fun h=>?_)|refine gR (yi hl i hi _) (nm [0]) ?_|refine gR (zan hl i hi) (nm [0]) ?_|refine gL ?_
 exact gE
theorem zhR(i:Nat)(hi:i<l.length)(sep fin:Str):zj Tryz.prog 174 [rdV,Sr sep,Sr fin,.one (.cl 175 [.bx 0 0] [])] [(0,rdR l i true)] (pS (yE [])) [(0,rdR l i true)]:=by
 refine gO T Tryz.func174 fun C hC=>?_
 repeat' first|refine gG ?_|refine gB (fun h=>?_) (fun h=>?_)|refine gL ?_
 refine zy (fun _:Unit=>True) (fun _=>([(0,rdV),(1,Sr sep),(2,Sr fin),(9,zt1)],[(0,some (rdR l i true))])) (fun _=>0) hC
  () trivial id gM ?_
 rintro _ _
 repeat' first|refine gG ?_|refine gB (fun h=>?_) (fun h=>?_)|refine zp ?_|refine gR (yi hl i hi _) (nm [0]) ?_|refine gL ?_
 exact zg ⟨.inl rfl,id,_,rfl,.one (.nil 2),⟨rfl,trivial⟩,rfl,rfl⟩
end
end Hw.Fr.Ps
namespace Hw.Fr.Ps
open Go Go.Proofs Hw.M
def mvP(a b i:Nat):Nat:=match Nat.beq i a with
 |true=>b
 |false=>i
theorem xx{a b i:Nat}(ha:100≤a)(hi:i<100):mvP a b i=i:=by
 unfold mvP;rw[yK (by omega)]
abbrev enE(x:Ex):S:=zz (yQ x)
theorem yx{α β:Type}{r:PJ α}{f:α→Nat→PJ β}{g:α→β}{x:β}{j:Nat}{b:Bool}(h:PJ.go r f g=some (x,j,b)):
 ∃y k b1,r=some (y,k,b1)∧(b1=false→f y k=some (x,j,b))∧(b1=true→x=g y∧j=k∧b=true):=by
 rcases r with _|⟨y,k,_|_⟩
 ·cases h
 ·exact⟨y,k,false,rfl,fun _=>h,fun h=>by cases h⟩
 ·cases h;exact⟨y,j,true,rfl,(fun h=>by cases h),fun _=>⟨rfl,rfl,rfl⟩⟩
structure EX (l:List Tok) (f:Nat):Prop where
 expr: ∀(n i:Nat),n≤6→i<l.length→RJ l 271 [rdV,I n] enE i (exprJ l f n i)
 post: ∀i,i<l.length→RJ l 297 [rdV] enE i (postJ l f i)
 prim: ∀i,i<l.length→RJ l 320 [rdV] enE i (primJ l f i)
 args: ∀i,i<l.length→RJ l 332 [rdV,Sr (⟨#[44]⟩:ByteArray),Sr (⟨#[41]⟩:ByteArray),.one (.cl 228 [.bx 0 0] [])] (fun a=>pS (xX a)) i (argsJ l f i [])
 parts: ∀(i k:Nat) (op:Int),1≤k→k≤3→i<l.length→RJ l 333 [rdV,I op,I (k:Nat)] (fun a=>enE (.mk op 0 (⟨#[]⟩:ByteArray) a)) i (partsJ l f k i [])
theorem zmv{α:Type}{r:PJ α}{x:α}{j:Nat}(h:r=some (x,j,false)):PJ.er r= .ok x j:=by rw[h];rfl
theorem zd2{l:List Tok}{f n i:Nat}{x:Ex}{j:Nat}(h:exprJ l f n i=some (x,j,false)):i<j:=by
 have:=zmv h
 rw[(zbu f).1]at this
 exact((jR f).1 _ _ _ _ this).1
abbrev z44:Res:=Res.box (zV [ZK.int .i64,ZK.int .i64,ZK.str,ZK.slice])
section
variable {l:List Tok} (hl:wE l)
include hl
theorem yS{f:Nat}(hX:EX l f)(i:Nat)(hi:i<l.length):RJ l 228 [rdV] enE i (exprJ l f 0 i):=by
 have _:=hl
 intro x j b hR
 obtain⟨hj,hE⟩:=hX.expr 0 i (by decide) hi _ _ _ hR
 refine⟨hj,?_⟩
 refine gO T Tryz.func228 fun C hC=>?_
 repeat' first|refine gG ?_|refine gB (fun h=>?_) (fun h=>?_)|refine gR hE (nm [0]) ?_|refine gL ?_
 exact gE
theorem zhS(f:Nat)(ih: ∀g,g≤f→EX l g)(i:Nat)(hi:i<l.length):RJ l 297 [rdV] enE i (postJ l (f+1) i):=by
 intro xf jf bf hR
 simp only[postJ]at hR
 obtain⟨y,k,b1,hp,hg,hb⟩:=yx hR
 obtain⟨hk,hP⟩:=(ih f (Nat.le_refl _)).prim i hi _ _ _ hp
 have hjf:jf<l.length:=by
  cases b1 with
  |true=>rw[(hb rfl).2.1];exact hk
  |false=>
   have hd:=hg rfl
   clear hR hg hb hp hP
   have: ∀g y k,k<l.length→dotsJ l g y k=some (xf,jf,bf)→jf<l.length:=by
    intro g
    induction g with
    |zero=>intro y k _ h;simp only[dotsJ]at h;cases h
    |succ g ihg=>
     intro y k hk h
     simp only[dotsJ]at h
     split at h
     ·rename_i hs
      rcases zfu h with⟨s,k2,h1,h2⟩|⟨s,h1,h2,h3⟩
      ·exact ihg _ _ (xw hl _ (zl hl hs) _ _ _ h1).1 h2
      ·exact(xw hl _ (zl hl hs) _ _ _ h1).1
     ·cases h;exact hk
   exact this f y k hk hd
 refine⟨hjf,?_⟩
 refine gO T Tryz.func297 fun C hC=>?_
 repeat' first|refine gG ?_|refine gB (fun h=>?_) (fun h=>?_)|refine gR hP (nm [0]) ?_
 refine zy (fun q:Ex×Nat×Bool×Nat=>q.2.1<l.length∧(q.2.2.1=false→dotsJ l q.2.2.2 q.1 q.2.1=some (xf,jf,bf))∧(q.2.2.1=true→xf=q.1∧jf=q.2.1∧bf=true))
  (fun q=>([(0,rdV),(2,.one (.bx 1002 0)),(3,.one (.bx 1003 0))],[(0,some (rdR l q.2.1 q.2.2.1)),(1002,some z44),(1003,some (Res.box ((yQ q.1).map V.p)))])) (fun q=>if q.2.2.1 then 0 else q.2.2.2+1) hC
  (y,k,b1,f) ⟨hk,hg,hb⟩ id gM ?_
 clear hk hg hb hp hP hR
 rintro⟨y,k,b1,g⟩ ⟨hk,hg,hb⟩
 simp only at hk hg hb
 cases b1 with
 |true=>
  obtain⟨rfl,rfl,rfl⟩:=hb rfl
  repeat' first|refine gG ?_|refine gB (fun h=>?_) (fun h=>?_)|refine gR (y8 hl _ hk _) (nm [0]) ?_|refine zp ?_|refine gL ?_
  exact gE
 |false=>
  have hd:=hg rfl
  clear hg hb
  cases g with
  |zero=>simp only[dotsJ]at hd;cases hd
  |succ g=>
   simp only[dotsJ]at hd
   by_cases hs:isA l k (⟨#[46]⟩:ByteArray)=true
   ·rw[if_pos hs]at hd
    obtain⟨s,k2,b2,hn,h2,h3⟩:=yx hd
    obtain⟨hk2,hN⟩:=xw hl _ (zl hl hs) _ _ _ hn
    repeat' first|refine gG ?_|refine gB (fun h=>?_) (fun h=>?_)|refine gR (zQ hl hs) (nm [0]) ?_|refine gR hN (nm [0]) ?_|refine ya T hC (rows:=[zO y]) rfl rfl rfl (by simp only[zK];rfl) rfl rfl rfl rfl rfl ?_
    exact zh (.mk 5 0 s [y],k2,b2,g) ⟨hk2,h2,h3⟩ id (by cases b2<;>simp) gM
   ·rw[if_neg hs]at hd
    cases hd
    repeat' first|refine gG ?_|refine gB (fun h=>?_) (fun h=>?_)|refine gR (zH hl hk hs) (nm [0]) ?_|refine zp ?_|refine gL ?_
    exact gE
end
end Hw.Fr.Ps
namespace Hw.Fr.Ps
open Go Go.Proofs Hw.M
section
variable {l:List Tok}
def RG{α:Type}(l:List Tok)(r:PJ α):Prop:= ∀x j b,r=some (x,j,b)→j<l.length
theorem RG.go{α β:Type}{r:PJ α}{f:α→Nat→PJ β}{g:α→β}(h:RG l r)(hf: ∀y k,k<l.length→RG l (f y k)):RG l (PJ.go r f g):=by
 intro x j b e
 rcases r with _|⟨y,k,_|_⟩
 ·cases e
 ·exact hf y k (h _ _ _ rfl) _ _ _ e
 ·cases e;exact h _ _ _ rfl
theorem RG.ok{α:Type}{x:α}{i:Nat}(h:i<l.length):RG l (PJ.ok x i):=by intro x j b e;cases e;exact h
theorem RG.no{α:Type}{x:α}{i:Nat}(h:i<l.length):RG l (PJ.no x i):=by intro x j b e;cases e;exact h
theorem RG.none{α:Type}:RG (α:=α) l (Option.none):=by intro x j b e;cases e
theorem RG.ite{α:Type}{c:Prop}[Decidable c]{a b:PJ α}(h1:c→RG l a)(h2: ¬c→RG l b):RG l (if c then a else b):=by
 split
 ·rename_i h;exact h1 h
 ·rename_i h;exact h2 h
variable (hl:wE l)
include hl
theorem RG.one{i:Nat}(hi:i<l.length)(s:Str):RG l (vi l s i):= .ite (fun h=> .ok (zl hl h)) fun _=> .no hi
theorem RG.name{i:Nat}(hi:i<l.length):RG l (nameJ l i):=fun _ _ _ e=>(xw hl i hi _ _ _ e).1
theorem RG.int{i:Nat}(hi:i<l.length):RG l (zji l i):=fun _ _ _ e=>(zfs hl i hi _ _ _ e).1
theorem RG.typ{i:Nat}(hi:i<l.length):RG l (zfh l i):=fun _ _ _ e=>(zft hl i hi _ _ _ e).1
theorem RG.field{i:Nat}(hi:i<l.length):RG l (xR l i):=fun _ _ _ e=>(jU hl i hi _ _ _ e).1
theorem RG.sep{i:Nat}(hi:i<l.length)(s:Str)(n:Nat):RG l (if n=0 then PJ.ok () i else vi l s i):= .ite (fun _=> .ok hi) fun _=> .one hl hi s
theorem zmw{i n:Nat}{op:Int}(h:opA l i n=some op):i+1<l.length:=by
 unfold opA at h
 rw[Option.map_eq_some_iff]at h
 obtain⟨a,h1,_⟩:=h
 have h2:=List.find?_some h1
 exact zl hl h2
theorem jC: ∀f:Nat,(∀n i,i<l.length→RG l (exprJ l f n i))∧(∀n x i,i<l.length→RG l (moreJ l f n x i))∧(∀i,i<l.length→RG l (postJ l f i))∧(∀x i,i<l.length→RG l (dotsJ l f x i))∧
 (∀i a,i<l.length→RG l (argsJ l f i a))∧(∀k i a,i<l.length→RG l (partsJ l f k i a))∧(∀i,i<l.length→RG l (primJ l f i)):=by
 intro f
 induction f with
 |zero=>exact⟨fun _ _ _=>by simp only[exprJ];exact .none,fun _ _ _ _=>by simp only[moreJ];exact .none,fun _ _=>by simp only[postJ];exact .none,fun _ _ _=>by simp only[dotsJ];exact .none,fun _ _ _=>by simp only[argsJ];exact .none,fun _ _ _ _=>by simp only[partsJ];exact .none,fun _ _=>by simp only[primJ];exact .none⟩
 |succ f ih=>
  obtain⟨h1,h2,h3,h4,h5,h6,h7⟩:=ih
  refine⟨fun n i hi=>?_,fun n x i hi=>?_,fun i hi=>?_,fun x i hi=>?_,fun i a hi=>?_,fun k i a hi=>?_,fun i hi=>?_⟩
  ·simp only[exprJ]
   exact .ite (fun _=> .ite (fun h=> .go (h1 _ _ (zl hl h)) fun _ _ hk=> .ok hk) fun _=>h1 _ _ hi) fun _=> .ite (fun _=> .ite (fun h=> .go (h1 _ _ (zl hl h)) fun _ _ hk=> .ok hk) fun _=>h3 _ hi) fun _=> .go (h1 _ _ hi) fun _ _ hk=>h2 _ _ _ hk
  ·simp only[moreJ]
   cases ho:opA l i n with
   |none=>exact .ok hi
   |some op=>exact .go (h1 _ _ (zmw hl ho)) fun _ _ hk=> .ite (fun _=> .ok hk) fun _=>h2 _ _ _ hk
  ·simp only[postJ];exact .go (h7 _ hi) fun _ _ hk=>h4 _ _ hk
  ·simp only[dotsJ];exact .ite (fun h=> .go (.name hl (zl hl h)) fun _ _ hk=>h4 _ _ hk) fun _=> .ok hi
  ·simp only[argsJ];exact .ite (fun h=> .ok (zl hl h)) fun _=> .go (.sep hl hi _ _) fun _ _ hk=> .go (h1 _ _ hk) fun _ _ hk=>h5 _ _ hk
  ·simp only[partsJ];exact .ite (fun _=> .go (.one hl hi _) fun _ _ hk=> .ok hk) fun _=> .go (.one hl hi _) fun _ _ hk=> .go (h1 _ _ hk) fun _ _ hk=>h6 _ _ _ hk
  ·simp only[primJ]
   cases ht:l[i]? with
   |none=>exact .no hi
   |some t=>
    refine .ite (fun h=> .ok (hl.next ht (by omega))) fun _=> .ite (fun h=> .ite (fun h=> .go (h5 _ _ (zl hl h)) fun _ _ hk=> .ok hk) fun _=> .ok (hl.next ht (by omega))) fun _=>?_
    refine .ite (fun h=> .ok (zl hl h)) fun _=> .ite (fun h=> .ok (zl hl h)) fun _=> .ite (fun h=> .ok (zl hl h)) fun _=> .ite (fun h=> .ok (zl hl h)) fun _=> .ite (fun h=> .go (.name hl (zl hl h)) fun _ _ hk=> .ok hk) fun _=>?_
    refine .ite (fun h=> .go (h6 _ _ _ (zl hl h)) fun _ _ hk=> .ok hk) fun _=> .ite (fun h=> .go (h6 _ _ _ (zl hl h)) fun _ _ hk=> .ok hk) fun _=> .ite (fun h=> .go (h6 _ _ _ (zl hl h)) fun _ _ hk=> .ok hk) fun _=> .ite (fun h=> .go (h6 _ _ _ (zl hl h)) fun _ _ hk=> .ok hk) fun _=>?_
    exact .ite (fun h=> .go (h1 _ _ (zl hl h)) fun _ _ hk=> .go (.one hl hk _) fun _ _ hk=> .ok hk) fun _=> .no hi
theorem zc4: ∀f:Nat,(∀i a,i<l.length→RG l (stmtsJ l f i a))∧(∀i,i<l.length→RG l (wN l f i))∧(∀i,i<l.length→RG l (zaV l f i)):=by
 intro f
 induction f with
 |zero=>exact⟨fun _ _ _=>by simp only[stmtsJ];exact .none,fun _ _=>by simp only[wN];exact .none,fun _ _=>by simp only[zaV];exact .none⟩
 |succ f ih=>
  obtain⟨h1,h2,h3⟩:=ih
  have hE:=(jC hl f).1
  have hP:=(jC hl f).2.2.1
  refine⟨fun i a hi=>?_,fun i hi=>?_,fun i hi=>?_⟩
  ·simp only[stmtsJ];exact .ite (fun h=> .ok (zl hl h)) fun _=> .go (h3 _ hi) fun _ _ hk=>h1 _ _ hk
  ·simp only[wN];exact .go (.one hl hi _) fun _ _ hk=>h1 _ _ hk
  ·simp only[zaV]
   refine .ite (fun h=> .go (hE _ _ (zl hl h)) fun _ _ hk=> .go (h2 _ hk) fun _ _ hk=> .ite (fun h=> .go (h2 _ (zl hl h)) fun _ _ hk=> .ok hk) fun _=> .ok hk) fun _=>?_
   refine .ite (fun h=> .go (hE _ _ (zl hl h)) fun _ _ hk=> .go (h2 _ hk) fun _ _ hk=> .ok hk) fun _=>?_
   refine .ite (fun h=> .ite (fun h=> .ok (zl hl h)) fun _=> .go (hE _ _ (zl hl h)) fun _ _ hk=> .go (.one hl hk _) fun _ _ hk=> .ok hk) fun _=>?_
   refine .go (hP _ hi) fun _ _ hk=> .ite (fun h=> .go (hE _ _ (zl hl h.1)) fun _ _ hk=> .go (.one hl hk _) fun _ _ hk=> .ok hk) fun _=> .ite (fun h=> .go (hE _ _ (zl hl h.1)) fun _ _ hk=> .go (.one hl hk _) fun _ _ hk=> .ok hk) fun _=> .ite (fun h=> .go (.one hl hk _) fun _ _ hk=> .ok hk) fun _=> .no hk
theorem zc5{α:Type}(z:α)(sep fin:Str)(one:Nat→PJ α)(ho: ∀i,i<l.length→RG l (one i)): ∀(f i:Nat) (acc:List α),i<l.length→RG l (listJ l z sep fin one f i acc)
 |0,_,_,_=> .none
 |f+1,i,acc,hi=>by
  simp only[listJ]
  exact .ite (fun h=> .ok (zl hl h)) fun _=> .go (.sep hl hi _ _) fun _ _ hk=> .go (ho _ hk) fun _ _ hk=>zc5 z sep fin one ho f _ _ hk
theorem zfv: ∀(f i:Nat) (acc:List Fld),i<l.length→RG l (locsJ l f i acc)
 |0,_,_,_=> .none
 |f+1,i,acc,hi=>by
  simp only[locsJ]
  exact .ite (fun h=> .go (.field hl (zl hl h)) fun _ _ hk=> .go (.one hl hk _) fun _ _ hk=>zfv f _ _ hk) fun _=> .ok hi
theorem zpd(f i:Nat)(hi:i<l.length):RG l (zjj l f i):=
 .go (.name hl hi) fun _ _ hk=> .go (.one hl hk _) fun _ _ hk=> .go (zc5 hl _ _ _ _ (fun _ h=> .field hl h) f _ _ hk) fun _ _ hk=> .go (.ite (fun _=> .ok hk) fun _=> .typ hl hk) fun _ _ hk=> .go (.one hl hk _) fun _ _ hk=>
  .go (zfv hl f _ _ hk) fun _ _ hk=> .go ((zc4 hl f).1 _ _ hk) fun _ _ hk=> .ok hk
theorem vU(f i:Nat)(hi:i<l.length):RG l (xM l f i):= .go (.one hl hi _) fun _ _ hk=>(jC hl f).1 _ _ hk
theorem zhT(f i:Nat)(hi:i<l.length):RG l (jT l f i):=
 .go (.name hl hi) fun _ _ hk=> .go (.one hl hk _) fun _ _ hk=> .go (.name hl hk) fun _ _ hk=> .go (.one hl hk _) fun _ _ hk=> .go (.one hl hk _) fun _ k hk=>
  .go (by split
          ·rename_i h;exact .int hl (zl hl h)
          ·exact .int hl hk) fun _ _ hk=> .go (vU hl f _ hk) fun _ _ hk=> .ok hk
theorem zpe(f i:Nat)(d:xk)(hi:i<l.length):RG l (wD l f i d):=by
 unfold wD
 refine .ite (fun h=> .go (.name hl (zl hl h)) fun _ _ hk=> .go (.one hl hk _) fun _ _ hk=> .go (zc5 hl _ _ _ _ (fun _ h=> .field hl h) f _ _ hk) fun _ _ hk=> .ok hk) fun _=>?_
 refine .ite (fun h=> .go (.field hl (zl hl h)) fun _ _ hk=> .ok hk) fun _=> .ite (fun h=> .go (zpd hl f _ (zl hl h)) fun _ _ hk=> .ok hk) fun _=> .ite (fun h=> .go (zhT hl f _ (zl hl h)) fun _ _ hk=> .ok hk) fun _=>?_
 refine .ite (fun h=> .go (.name hl (zl hl h)) fun _ _ hk=> .go (.ite (fun h=> .go (.name hl (zl hl h)) fun _ _ hk=> .go (.one hl hk _) fun _ _ hk=> .ok hk) fun _=> .ok hk) fun _ _ hk=> .go (vU hl f _ hk) fun _ _ hk=> .ok hk) fun _=>?_
 refine .ite (fun h=> .go (.ite (fun _=> .ok (zl hl h)) fun _=> .name hl (zl hl h)) fun _ _ hk=> .go (vU hl f _ hk) fun _ _ hk=> .ok hk) fun _=>?_
 exact .ite (fun h=> .go (.name hl (zl hl h)) fun _ _ hk=> .go (vU hl f _ hk) fun _ _ hk=> .ok hk) fun _=> .no hi
theorem zgx(f:Nat): ∀(g i:Nat) (d:xk),i<l.length→RG l (itemsJ l f g i d)
 |0,_,_,_=> .none
 |g+1,i,d,hi=>by
  simp only[itemsJ]
  exact .ite (fun h=> .ok (zl hl h)) fun _=> .go (zpe hl f _ _ hi) fun _ _ hk=>zgx f g _ _ hk
end
end Hw.Fr.Ps
namespace Hw.Fr.Ps
open Go Go.Proofs Hw.M
section
variable {l:List Tok} (hl:wE l)
include hl
theorem zhU(f:Nat)(ih: ∀g,g≤f→EX l g)(n i:Nat)(hn:n≤6)(hi:i<l.length):RJ l 271 [rdV,I n] enE i (exprJ l (f+1) n i):=by
 intro xf jf bf hR
 have hjf:=(jC hl (f+1)).1 n i hi _ _ _ hR
 refine⟨hjf,?_⟩
 simp only[exprJ]at hR
 by_cases h2:n=2
 ·subst h2
  rw[if_pos rfl]at hR
  by_cases hs:isA l i (⟨#[110,111,116]⟩:ByteArray)=true
  ·rw[if_pos hs]at hR
   obtain⟨y,hy,rfl⟩: ∃y,exprJ l f 2 (i+1)=some (y,jf,bf)∧xf= .mk 18 0 (⟨#[]⟩:ByteArray) [y]:=by
    rcases zfu hR with⟨y,k,h1,h2⟩|⟨y,h1,h2,h3⟩
    ·cases h2;exact⟨y,h1,rfl⟩
    ·subst h3;exact⟨y,h1,h2⟩
   obtain⟨_,hE⟩:=(ih f (Nat.le_refl _)).expr 2 _ (by decide) (zl hl hs) _ _ _ hy
   refine gO T Tryz.func271 fun C hC=>?_
   repeat' first|refine gG ?_|(exfalso;simp at h;done)|refine gB (fun h=>?_) (fun h=>?_)|refine gR (zQ hl hs) (nm [0]) ?_|refine gR hE (nm [0]) ?_|refine ya T hC (rows:=[zO y]) rfl rfl rfl (by simp only[zK];rfl) rfl rfl rfl rfl rfl ?_|refine gL ?_
   exact gE
  ·rw[if_neg hs]at hR
   obtain⟨_,hE⟩:=(ih f (Nat.le_refl _)).expr 3 _ (by decide) hi _ _ _ hR
   have hE':zj Tryz.prog 271 [rdV,I (IntKind.i64.wrap (((2:Nat):Int)+1))] [(0,rdR l i false)] (enE xf) [(0,rdR l jf bf)]:=hE
   refine gO T Tryz.func271 fun C hC=>?_
   repeat' first|refine gG ?_|(exfalso;simp at h;done)|refine gB (fun h=>?_) (fun h=>?_)|refine gR (zH hl hi hs) (nm [0]) ?_|refine gR hE' (nm [0]) ?_|refine gL ?_
   exact gE
 rw[if_neg h2]at hR
 by_cases h6:n=6
 ·subst h6
  rw[if_pos rfl]at hR
  by_cases hs:isA l i (⟨#[45]⟩:ByteArray)=true
  ·rw[if_pos hs]at hR
   obtain⟨y,hy,rfl⟩: ∃y,exprJ l f 6 (i+1)=some (y,jf,bf)∧xf= .mk 8 0 (⟨#[]⟩:ByteArray) [y]:=by
    rcases zfu hR with⟨y,k,h1,h2⟩|⟨y,h1,h2,h3⟩
    ·cases h2;exact⟨y,h1,rfl⟩
    ·subst h3;exact⟨y,h1,h2⟩
   obtain⟨_,hE⟩:=(ih f (Nat.le_refl _)).expr 6 _ (by decide) (zl hl hs) _ _ _ hy
   refine gO T Tryz.func271 fun C hC=>?_
   repeat' first|refine gG ?_|(exfalso;simp at h;done)|refine gB (fun h=>?_) (fun h=>?_)|refine gR (zQ hl hs) (nm [0]) ?_|refine gR hE (nm [0]) ?_|refine ya T hC (rows:=[zO y]) rfl rfl rfl (by simp only[zK];rfl) rfl rfl rfl rfl rfl ?_|refine gL ?_
   exact gE
  ·rw[if_neg hs]at hR
   obtain⟨_,hE⟩:=(ih f (Nat.le_refl _)).post _ hi _ _ _ hR
   refine gO T Tryz.func271 fun C hC=>?_
   repeat' first|refine gG ?_|(exfalso;simp at h;done)|refine gB (fun h=>?_) (fun h=>?_)|refine gR (zH hl hi hs) (nm [0]) ?_|refine gR hE (nm [0]) ?_|refine gL ?_
   exact gE
 rw[if_neg h6]at hR
 obtain⟨y,k,b1,hp,hg,hb⟩:=yx hR
 have hE:k<l.length∧zj Tryz.prog 271 [rdV,I (IntKind.i64.wrap ((n:Int)+1))] [(0,rdR l i false)] (enE y) [(0,rdR l k b1)]:=by
  rw[yq (by omega)];exact(ih f (Nat.le_refl _)).expr (n+1) _ (by omega) hi _ _ _ hp
 obtain⟨hk,hE⟩:=hE
 refine gO T Tryz.func271 fun C hC=>?_
 repeat' first|refine gG ?_|(exfalso;have h':=of_decide_eq_true h;omega)|refine gB (fun h=>?_) (fun h=>?_)|refine gR hE (nm [0]) ?_
 refine zy (fun q:Ex×Nat×Bool×Nat=>q.2.1<l.length∧q.2.2.2≤f∧(q.2.2.1=false→moreJ l q.2.2.2 n q.1 q.2.1=some (xf,jf,bf))∧(q.2.2.1=true→xf=q.1∧jf=q.2.1∧bf=true))
  (fun q=>([(1,I n),(2,.one (.bx 1002 0)),(4,.one (.bx 1004 0)),(5,.one (.bx 1005 0))],[(0,some (rdR l q.2.1 q.2.2.1)),(1002,some (Res.box [.bx 0 0])),(1004,some z44),(1005,some (Res.box ((yQ q.1).map V.p)))])) (fun q=>if q.2.2.1 then 0 else q.2.2.2+1) hC
  (y,k,b1,f) ⟨hk,Nat.le_refl _,hg,hb⟩ id gM ?_
 clear hk hg hb hp hE hR
 rintro⟨y,k,b1,g⟩ ⟨hk,hgf,hg,hb⟩
 simp only at hk hgf hg hb
 have hlv:=zjG (show n<6 by omega)
 cases b1 with
 |true=>
  obtain⟨rfl,rfl,rfl⟩:=hb rfl
  repeat' first|refine gG ?_|(exfalso;have h':=of_decide_eq_false h;omega)|refine gB (fun h=>?_) (fun h=>?_)|refine gI T (zu hlv) ?_|refine gC vH ?_|refine gR (zgw hl _ hk _) (nm [0,1002]) ?_|refine gL ?_|refine zT ?_
  exact gE
 |false=>
  have hd:=hg rfl
  clear hg hb
  cases g with
  |zero=>simp only[moreJ]at hd;cases hd
  |succ g=>
   simp only[moreJ]at hd
   cases ho:opA l k n with
   |none=>
    rw[ho]at hd
    cases hd
    repeat' first|refine gG ?_|(exfalso;have h':=of_decide_eq_false h;omega)|refine gB (fun h=>?_) (fun h=>?_)|refine gI T (zu hlv) ?_|refine gC vH ?_|refine gR (zjH hl _ hk _ ho) (nm [0,1002]) ?_|refine gL ?_|refine zT ?_
    exact gE
   |some op=>
    rw[ho]at hd
    obtain⟨jj,s,hjj,hs,hI⟩:=zjI hl _ hk _ _ ho
    obtain⟨z,k2,b2,hz,h3,h4⟩:=yx hd
    have hE:k2<l.length∧zj Tryz.prog 271 [rdV,I (IntKind.i64.wrap ((n:Int)+1))] [(0,rdR l (k+1) false)] (enE z) [(0,rdR l k2 b2)]:=by
     rw[yq (by omega)];exact(ih g (by omega)).expr (n+1) _ (by omega) (zl hl hs) _ _ _ hz
    obtain⟨hk2,hE⟩:=hE
    have hll:=hl.len
    have hE2:zj Tryz.prog 271 [rdV,I (IntKind.i64.wrap ((n:Int)+1))] [(0,Res.box [.p (zmh l),.p (ki (IntKind.i64.wrap ((k:Int)+1))),.p (.k (.bool false))])] (enE z) [(0,rdR l k2 b2)]:=by
     rw[yq (i:=k) (by omega)];exact hE
    by_cases h3n:n=3
    ·have hfin:xf= .mk op 0 (⟨#[]⟩:ByteArray) [y,z]∧jf=k2∧bf=b2:=by
      cases b2 with
      |false=>have h3:=h3 rfl;rw[if_pos h3n]at h3;cases h3;exact⟨rfl,rfl,rfl⟩
      |true=>exact h4 rfl
     obtain⟨rfl,rfl,rfl⟩:=hfin
     repeat' first|refine gG ?_|(exfalso;exact absurd h3n (by have:=of_decide_eq_false h;omega))|(exfalso;have h':=of_decide_eq_true h;omega)|refine gB (fun h=>?_) (fun h=>?_)|refine gI T (zu hlv) ?_|refine gI T (zu hjj) ?_|refine gC vH ?_|refine gR hI (nm [0,1002]) ?_|refine gR hE2 (nm [0]) ?_|refine ya T hC (rows:=[zO y,zO z]) rfl rfl rfl (by simp only[zK];rfl) rfl rfl rfl rfl rfl ?_|refine gL ?_|refine zT ?_
     exact gE
    ·repeat' first|refine gG ?_|(exfalso;have h':=of_decide_eq_true h;omega)|refine gB (fun h=>?_) (fun h=>?_)|refine gI T (zu hlv) ?_|refine gI T (zu hjj) ?_|refine gC vH ?_|refine gR hI (nm [0,1002]) ?_|refine gR hE2 (nm [0]) ?_|refine ya T hC (rows:=[zO y,zO z]) rfl rfl rfl (by simp only[zK];rfl) rfl rfl rfl rfl rfl ?_|refine gL ?_|refine zT ?_
     exact zh (.mk op 0 (⟨#[]⟩:ByteArray) [y,z],k2,b2,g) ⟨hk2,by simp only;omega,fun h=>by have h3:=h3 h;rw[if_neg h3n]at h3;exact h3,h4⟩ id (by cases b2<;>simp) gM
end
end Hw.Fr.Ps