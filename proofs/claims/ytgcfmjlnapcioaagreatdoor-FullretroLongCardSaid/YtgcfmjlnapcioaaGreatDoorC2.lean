import Derived.Test.YtgcfmjlnapcioaaGreatDoorC1
import Derived.Test.YtgcfmjlnapcioaaGreatDoorE3
import Derived.Shelf.Strconv.AtoiAll
set_option linter.unusedVariables false
set_option linter.unusedSimpArgs false
namespace Hw.Fr.Ps
open Go Go.Proofs Hw.M
def xt(c:Int):Int:=if c=32 then 1 else if c=9 then 1 else if c=13 then 1 else if c=10 then 1 else
 if decide (97<=c)&&decide (c<=122)then 2 else if decide (65<=c)&&decide (c<=90)then 2 else if decide (48<=c)&&decide (c<=57)then 3 else if c=95 then 4 else 0
set_option maxHeartbeats 1000000 in
theorem xQ(c:Int):zk Tryz.prog 170 [uc c] [] (I (xt c)) []:=by
 refine gO T Tryz.func170 λC hC=>?_
 repeat' first|refine gG ?_|refine gB ?_ ?_<;>intro h|refine gN ?_
 all_goals (simp_all[xt]<;>omega)
theorem zcA(c:Int):(xt c=2/\yW c=true/\isWord c=true)\/((xt c=3\/xt c=4)/\yW c=false/\isWord c=true)\/((xt c=0\/xt c=1)/\yW c=false/\isWord c=false):=by
 by_cases h1:c=32\/c=9\/c=13\/c=10
 ·refine .inr (.inr ?_)
  rcases h1 with rfl|rfl|rfl|rfl<;>exact⟨.inr rfl,rfl,rfl⟩
 ·have e1:c≠32:=by omega
  have e2:c≠9:=by omega
  have e3:c≠13:=by omega
  have e4:c≠10:=by omega
  have ec:xt c=if decide (97<=c)&&decide (c<=122)then 2 else if decide (65<=c)&&decide (c<=90)then 2 else if decide (48<=c)&&decide (c<=57)then 3 else if c=95 then 4 else 0:=by
   simp only[xt,e1,e2,e3,e4,tO]
  rw[ec]
  unfold isWord yW isDigit
  cases(decide (97<=c)&&decide (c<=122))with
  |true=>exact .inl ⟨rfl,rfl,rfl⟩
  |false=>cases(decide (65<=c)&&decide (c<=90))with
   |true=>exact .inl ⟨rfl,rfl,rfl⟩
   |false=>cases(decide (48<=c)&&decide (c<=57))with
    |true=>exact .inr (.inl ⟨.inl rfl,rfl,rfl⟩)
    |false=>
     by_cases h5:c=95
     ·rw[uv h5];exact .inr (.inl ⟨.inr rfl,rfl,by simp[h5]⟩)
     ·rw[ur h5];exact .inr (.inr ⟨.inl rfl,rfl,by simp[h5]⟩)
theorem zbC(c:Int):decide (xt c=2)=yW c:=by
 rcases zcA c with⟨h,h1,_⟩|⟨h,h1,_⟩|⟨h,h1,_⟩
 ·rw[h,h1];rfl
 ·rw[h1];exact uJ ua
 ·rw[h1];exact uJ ua
theorem zbe(c:Int):decide (xt c<2)= !isWord c:=by
 rcases zcA c with⟨h,_,h1⟩|⟨h,_,h1⟩|⟨h,_,h1⟩
 ·rw[h,h1];rfl
 ·rw[h1];exact uJ ua
 ·rw[h1];exact uK ua
theorem zlJ(s:Str):zk Tryz.prog 312 [Sr s] [] (Bo false) []:=by
 refine gO T Tryz.func312 λC hC=>?_
 repeat' first|refine gG ?_|refine gB ?_ ?_<;>intro h
 exact zt ⟨.inl rfl,id,_,rfl,LeS.bq ue,trivial,rfl,rfl⟩
theorem zoR(s:Str):zk Tryz.prog 292 [Sr s] [] (Bo false) []:=by
 refine gO T Tryz.func292 λC hC=>?_
 repeat' first|refine gG ?_|refine gB ?_ ?_<;>intro h
 exact zt ⟨.inl rfl,id,_,rfl,LeS.bq ue,trivial,rfl,rfl⟩
def zoS(a b:Str):Bool:=Op.bytesLess a.toList b.toList
theorem zry(a b:Str):zk Tryz.prog 291 [Sr a,Sr b] [] (.bq (zoS a b)) []:=by
 refine gO T Tryz.func291 λC hC=>?_
 repeat' first|refine gG ?_|refine gB ?_ ?_<;>intro h|refine gC (zlJ _) ?_|refine gQ ?_|refine gL ?_
 all_goals first|rfl|simp_all[zoS]
def zqC(l:List Str):Prop:= ∀(h k:Nat) (x y:Str),l[h]?=some x->l[k]?=some y->zoS x y=decide (h<k)
theorem zjQ(l:List Str)(s:Str)(hs:zqC l)(hl:l.length<=1000):zk Tryz.prog 266 [pS (zdg l),Sr s] [] (.tup [.un,.bq (l.any λx=>decide (x=s))]) []:=by
 refine gO T Tryz.func266 λC hC=>?_
 repeat' first|refine gG ?_|refine gB ?_ ?_<;>intro h
 rw[uj]
 refine zn (λp:Nat×Nat=>p.1<=p.2/\p.2<=l.length/\ ∀k,l[k]?=some s->p.1<=k/\k<=p.2) (λp=>([(0,pS (zdg l)),(1,Sr s),(6,I l.length),(7,I p.1),(8,I p.2)],[])) (λp=>p.2 - p.1) hC
  (0,l.length) ⟨uA _,uG _,λk hk=>⟨uA _,Nat.le_of_lt (ui.1 hk).1⟩⟩ id gM ?_
 rintro⟨i,j⟩ ⟨hij,hj,hk⟩
 simp only at hij hj hk
 refine zr T hC true 200 rfl ?_
 refine zu rfl ?_ ?_<;>intro h
 ·have hlt:i<j:=by simpa using h
  repeat' first|refine gG ?_|refine gB ?_ ?_<;>intro h|refine zrz hC rfl rfl ub ub rfl rfl ?_
  have hm:IntKind.i64.wrap (IntKind.u64.wrap (IntKind.i64.wrap ((i:Int)+(j:Int))) / 2 ^ (1:Int).toNat)=(((i+j) / 2:Nat):Int):=by
   have e1:IntKind.i64.wrap ((i:Int)+(j:Int))=(i:Int)+(j:Int):=wrap64 ua
   rw[e1]
   have:IntKind.u64.wrap ((i:Int)+(j:Int))=((i+j:Nat):Int):=by
    unfold IntKind.wrap
    simp[IntKind.bits,IntKind.signed]
    omega
   rw[this]
   rw[show((i+j:Nat):Int) / 2 ^ (1:Int).toNat=(((i+j) / 2:Nat):Int) by
    rw[show(2:Int) ^ (1:Int).toNat=2 by decide];omega]
   exact wrap64 ua
  simp only
  rw[hm]
  obtain⟨x,hx⟩:=ze (l:=l) (i:=(i+j) / 2) ua
  generalize hme:(i+j) / 2=m at*
  repeat' first|refine gG ?_|refine gB ?_ ?_<;>intro h|refine gX ?_|refine gC (zry _ _) ?_
  ·rw[zC ua]
   refine zf (m+1,j) ⟨by simp only;omega,hj,λk hk'=>?_⟩ id (by simp only;omega) gM
   have:=hs m k x s hx hk'
   rw[h]at this
   have:=uo this.symm
   have:=hk k hk'
   simp only;omega
  ·refine zf (i,m) ⟨by simp only;omega,by simp only;omega,λk hk'=>?_⟩ id (by simp only;omega) gM
   have:=hs m k x s hx hk'
   rw[h]at this
   have:=uq this.symm
   have:=hk k hk'
   simp only;omega
 ·have hge:i=j:=by have:=uq h;simp only at this;omega
  subst hge
  clear h
  have found: ∀(b:Bool),(b=true-> ∃x,l[i]?=some x/\x=s)->(b=false-> ∀x,l[i]?=some x->x≠s)->b=l.any λx=>decide (x=s):=λb h1 h2=>by
   cases b with
   |true=>obtain⟨x,hx,rfl⟩:=h1 rfl;exact(zlp hx (uK rfl)).symm
   |false=>
    symm
    rw[List.any_eq_false]
    intro x hx
    obtain⟨k,hk1⟩:=tj.1 hx
    simp only[ux]
    rintro rfl
    have:=hk k hk1
    obtain rfl:k=i:=by omega
    exact h2 rfl x hk1 rfl
  repeat' first|refine gG ?_|refine gB ?_ ?_<;>intro h|refine zj ?_|refine gC (zoR _) ?_|refine gX ?_|(obtain⟨x,hx⟩:=ze (l:=l) (i:=i) (by have:=uo h;simp only at this;omega);refine gI T (zg hx) ?_)
  ·exact zt ⟨.inl rfl,id,_,rfl,LeS.tup (.cons (LeS.un _) (.cons (LeS.qb (found true (λ_=>⟨x,hx,uo h⟩) (λe=>by cases e))) .nil)),trivial,rfl,rfl⟩
  ·exact zt ⟨.inl rfl,id,_,rfl,LeS.tup (.cons (LeS.un _) (.cons (LeS.qb (found false (λe=>by cases e) (λ_ y hy=>by rw[hx]at hy;simp only[um]at hy;subst hy;exact uq h))) .nil)),trivial,rfl,rfl⟩
  ·have h':=uq h
   simp only at h'
   exact zt ⟨.inl rfl,id,_,rfl,LeS.tup (.cons (LeS.un _) (.cons (LeS.qb (found false (λe=>by cases e) (λ_ y hy=>by have:=(ui.1 hy).1;omega))) .nil)),trivial,rfl,rfl⟩
def xe:List Str:=[(⟨#[97,110,100]⟩:UW),(⟨#[98,111,111,108]⟩:UW),(⟨#[98,111,117,110,100]⟩:UW),(⟨#[100,101,115,99]⟩:UW),(⟨#[101,108,115,101]⟩:UW),(⟨#[102,97,108,115,101]⟩:UW),(⟨#[105,102]⟩:UW),(⟨#[105,110,116]⟩:UW),(⟨#[105,110,118,97,114,105,97,110,116]⟩:UW),(⟨#[108,111,99,97,108]⟩:UW),(⟨#[108,111,103]⟩:UW),(⟨#[109,97,120]⟩:UW),(⟨#[109,101,97,115,117,114,101]⟩:UW),(⟨#[109,105,110]⟩:UW),(⟨#[110,101,119]⟩:UW),(⟨#[110,105,108]⟩:UW),(⟨#[110,111,116]⟩:UW),(⟨#[111,112]⟩:UW),(⟨#[111,114]⟩:UW),(⟨#[112,111,116,101,110,116,105,97,108]⟩:UW),(⟨#[112,114,111,99]⟩:UW),(⟨#[114,101,116,117,114,110]⟩:UW),(⟨#[114,117,108,101]⟩:UW),(⟨#[115,99,114,105,112,116]⟩:UW),(⟨#[115,111,114,116]⟩:UW),(⟨#[115,112,101,99]⟩:UW),(⟨#[116,104,105,115]⟩:UW),(⟨#[116,114,117,101]⟩:UW),(⟨#[116,121,112,101]⟩:UW),(⟨#[118,97,114]⟩:UW),(⟨#[119,104,105,108,101]⟩:UW)]
def sortedB(l:List Str):Bool:=(List.range l.length).all λh=>(List.range l.length).all λk=>match l[h]?,l[k]? with
 |some x,some y=>zoS x y==decide (h<k)
 |_,_=>true
theorem zlK{l:List Str}(h:sortedB l=true):zqC l:=λa b x y ha hb=>by
 simp only[sortedB,List.all_eq_true,oP]at h
 have:=h a (ui.1 ha).1 b (ui.1 hb).1
 rw[ha,hb]at this
 simpa using this
theorem zoT:sortedB xe=true:=by kernel_rfl
theorem ztH(s:Str):(xe.any λx=>decide (x=s))=y3 s:=by
 have h1:(xe.all λx=>zbV.any λy=>decide (y=x))=true:=by kernel_rfl
 have h2:(zbV.all λx=>xe.any λy=>decide (y=x))=true:=by kernel_rfl
 rw[og]
 simp only[y3,oB,List.all_eq_true,ux]at h1 h2⊢
 constructor
 ·rintro⟨x,hx,rfl⟩;obtain⟨y,hy,rfl⟩:=h1 x hx;exact⟨y,hy,rfl⟩
 ·rintro⟨x,hx,rfl⟩;obtain⟨y,hy,rfl⟩:=h2 x hx;exact⟨y,hy,rfl⟩
def zcB:Str:=(⟨#[97,110,100,32,98,111,111,108,32,98,111,117,110,100,32,100,101,115,99,32,101,108,115,101,32,102,97,108,115,101,32,105,102,32,105,110,116,32,105,110,118,97,114,105,97,110,116,32,108,111,99,97,108,32,108,111,103,32,109,97,120,32,109,101,97,115,117,114,101,32,109,105,110,32,110,101,119,32,110,105,108,32,110,111,116,32,111,112,32,111,114,32,112,111,116,101,110,116,105,97,108,32,112,114,111,99,32,114,101,116,117,114,110,32,114,117,108,101,32,115,99,114,105,112,116,32,115,111,114,116,32,115,112,101,99,32,116,104,105,115,32,116,114,117,101,32,116,121,112,101,32,118,97,114,32,119,104,105,108,101]⟩:UW)
theorem zit:(Lib.fields zcB.data.toList).map (λl=>(⟨l.toArray⟩:UW))=xe:=by kernel_rfl
theorem zrA:(zcB.data.toList.all λb=>decide (b.toNat<128))=true:=by kernel_rfl
theorem zgV(w:World)(hw:GOn w):Calls Tryz.prog 293 #[.string zcB] w λe w'=>e= .returned (.slice (some ⟨w.heap.size,0,none⟩) xe.length xe.length)/\w'=w.alloc (.cells (xe.map Value.string).toArray 9):=by
 have h:=Any.strings_Fields_core zro ud zcB w (uo ud) (λj b hb=>by
  have:=List.all_eq_true.1 zrA b (List.mem_of_getElem? hb)
  exact uo this) (λc hc=>hw _ _ _ (by
  show G0 2 c=_
  simp[G0,hc]))
 refine h.mono λe w' ⟨he,hw'⟩=>?_
 have hl:(Lib.fields zcB.data.toList).length=xe.length:=by rw[<-zit,uj]
 have hc:((Lib.fields zcB.data.toList).map λl=>Value.string ⟨l.toArray⟩)=xe.map Value.string:=by rw[<-zit,oi];rfl
 rw[hl]at he
 rw[hc]at hw'
 exact⟨he,hw'⟩
theorem zjR:zk Tryz.prog 293 [Sr zcB] [] (pS (zdg xe)) []:=
 zrB ⟨_,Tryz.func293,ud,ud⟩ ub zgV
theorem zvM:zk Tryz.prog 267 [] [] (pS (zdg xe)) []:=by
 refine gO T Tryz.func267 λC hC=>?_
 repeat' first|refine gG ?_|refine gB ?_ ?_<;>intro h|refine gC zjR ?_
 exact gF
theorem zaN(s:Str):zk Tryz.prog 221 [Sr s] [] (.bq (y3 s)) []:=by
 refine gO T Tryz.func221 λC hC=>?_
 repeat' first|refine gG ?_|refine gB ?_ ?_<;>intro h|refine gC zvM ?_|refine jk hC (zjQ xe s (zlK zoT) ub) rfl rfl (yr.refl _) rfl rfl rfl ?_|refine gQ ?_|refine gL ?_
 exact ztH s
theorem yC(s:Str):zk Tryz.prog 180 [Sr s] [] (.bq (isName s)) []:=by
 refine gO T Tryz.func180 λC hC=>?_
 have hbl:=ze3 s
 have e0:decide (s=(⟨#[]⟩:UW))=decide (s.size=0):=by
  obtain⟨⟨l⟩⟩:=s
  cases l with
  |nil=>rfl
  |cons a l=>exact(uJ (by intro h;cases h)).trans (uJ (by simp[ByteArray.size])).symm
 repeat' first|refine gG ?_|refine gB ?_ ?_<;>intro h
 ·repeat' first|refine gG ?_|refine gB ?_ ?_<;>intro h|refine gL ?_
  rw[e0]at h
  simp only[isName,h,ot,qu]
 ·repeat' first|refine gG ?_|refine gB ?_ ?_<;>intro h|refine gL ?_
  have h1:40<s.size:=by have:=uo h;omega
  simp[isName,h1]
 ·rename_i h0
  rw[e0]at h0
  have hs:0<(bytes s).length:=by have:=uq h0;omega
  obtain⟨c,hc⟩:=ze hs
  obtain⟨b,hb,rfl⟩:=bytes_at hc
  have hlen:s.size<=40:=by have:=uq h;omega
  have hnm:isName s=(yW (b.toNat:Int)&&((bytes s).all isWord&& !y3 s)):=by
   cases hbs:bytes s with
   |nil=>rw[hbs]at hs;simp at hs
   |cons c cs=>
    have hc':=hc
    rw[hbs]at hc';simp only[List.getElem?_cons_zero,um]at hc'
    have e1: ¬s.size=0:=by rw[hbl]at hs;omega
    have e2: ¬40<s.size:=by omega
    simp only[isName,hbs,hc',e1,e2,q9,oA,tr,Bool.and_assoc]
  clear h h0
  refine yy T hC rfl rfl rfl (qB _) hb rfl rfl ?_
  repeat' first|refine gG ?_|refine gB ?_ ?_<;>intro h|refine gC (xQ _) ?_|refine gC (zaN _) ?_|refine gL ?_
  ·rw[zbC]at h
   have hl:yW (b.toNat:Int)=false:=by simpa using h
   rw[hnm,hl];rfl
  ·rw[hnm,h];simp
  ·rename_i h1
   rw[zbC]at h1
   have hl:yW (b.toNat:Int)=true:=by simpa using h1
   have hnm2:isName s=(bytes s).all isWord:=by rw[hnm,hl,h];simp
   refine zn (λi:Nat=>i<=s.size/\((bytes s).take i).all isWord=true) (λi=>([(0,Sr s),(22,I s.size),(23,I i)],[])) (λi=>s.size - i) hC
    0 ⟨uA _,ue⟩ id gM ?_
   rintro i ⟨hi,hn⟩
   refine zr T hC true 200 rfl ?_
   refine zu rfl ?_ ?_<;>intro h
   ·have hlt:i<(bytes s).length:=by rw[hbl];have:=uo h;omega
    obtain⟨c,hx⟩:=ze hlt
    obtain⟨b,hb,rfl⟩:=bytes_at hx
    repeat' first|refine gG ?_|refine gB ?_ ?_<;>intro h|refine gXS ?_|refine gC (xQ _) ?_|refine zx ?_|refine gL ?_
    ·rw[zbe]at h
     have hw:isWord (b.toNat:Int)=false:=by simpa using h
     rw[hnm2,xJ hx hw]
    ·rw[zbe]at h
     have hw:isWord (b.toNat:Int)=true:=by simpa using h
     rw[zC ua]
     refine zf (i+1) ⟨ua,?_⟩ id ua gM
     rw[ya hx,hn,hw];rfl
   ·have hge:s.size<=i:=by have:=uq h;omega
    repeat' first|refine gG ?_|refine gB ?_ ?_<;>intro h|refine zj ?_|refine gL ?_
    rw[hnm2,xm (by rw[hbl];exact hge) hn]
structure Tok where
 k:Int
 t:Str
 n:Int
 ln:Int
 cl:Int
 deriving DecidableEq
def vy(t:Tok):List PV:=[ki t.k,ks t.t,ki t.n,ki t.ln,ki t.cl]
def yu(l:List Tok):PV:= .sl 5 (l.map vy)
abbrev By:=List UInt8
def zbf(l:By):Str:=⟨l.toArray⟩
def lst(s:Str):By:=s.data.toList
theorem zau(s:Str):zbf (lst s)=s:=by cases s;simp[zbf,lst]
theorem zgW(l:By):lst (zbf l)=l:=by simp[zbf,lst]
theorem y4(s:Str):(lst s).length=s.size:=by simp only[lst,qd];rfl
def wB(b:UInt8):Bool:=isWord b.toNat
def dB(b:UInt8):Bool:=isDigit b.toNat
def blB(b:UInt8):Bool:=decide (xt b.toNat=1)
def numV:By->Int->Int
 | [],a=>a
 |b::r,a=>numV r (a*10+((b.toNat:Int) - 48))
def vq(w:By):Bool:= !decide (w=[])&& !(decide (1<w.length)&&decide (w.head?=some 48))&&w.all dB&&decide (numV w 0<=1099511627776)
def zgX(w:By):Option (Int×Str×Int):=if y3 (zbf w)=true then some (3,zbf w,0)else if isName (zbf w)=true then some (1,zbf w,0)else if vq w=true then some (2,(⟨#[]⟩:UW),numV w 0)else none
def syms:List Str:=[(⟨#[61,61]⟩:UW),(⟨#[33,61]⟩:UW),(⟨#[60,61]⟩:UW),(⟨#[45,62]⟩:UW),(⟨#[40]⟩:UW),(⟨#[41]⟩:UW),⟨#[123]⟩,⟨#[125]⟩,(⟨#[91]⟩:UW),(⟨#[93]⟩:UW),(⟨#[44]⟩:UW),(⟨#[59]⟩:UW),(⟨#[58]⟩:UW),(⟨#[46]⟩:UW),(⟨#[61]⟩:UW),(⟨#[60]⟩:UW),(⟨#[43]⟩:UW),(⟨#[45]⟩:UW),(⟨#[42]⟩:UW),(⟨#[47]⟩:UW),(⟨#[37]⟩:UW)]
def zeX(l:By):Option Str:=syms.find? λy=>(lst y).isPrefixOf l
def tk:By->Option (Nat×Option (Int×Str×Int))
 | []=>none
 |c::r=>if blB c=true then some (1,none)
  else if c=35 then some (((c::r).takeWhile λb=>decide (b≠10)).length,none)
  else if wB c=true then(zgX ((c::r).takeWhile wB)).map λt=>(((c::r).takeWhile wB).length,some t)
  else(zeX (c::r)).map λy=>(y.size,some (4,y,0))
def mv(p:Int×Int)(c:UInt8):Int×Int:=if c=10 then(p.1+1,1)else(p.1,p.2+1)
def yU(p:Int×Int)(t:Int×Str×Int):Tok:=⟨t.1,t.2.1,t.2.2,p.1,p.2⟩
def lx:Nat->By->Int×Int->List Tok->List Tok×(Int×Int)×Int
 |0,_,_,_=>([],(0,0),0)
 |_+1,[],p,out=>(out++[⟨5,(⟨#[]⟩:UW),0,p.1,p.2⟩],(0,0),0)
 |f+1,c::r,p,out=>match tk (c::r)with
  |none=>([],p,7)
  |some (n,o)=>lx f ((c::r).drop n) (((c::r).take n).foldl mv p) (out++(o.map (yU p)).toList)
theorem vU{p:UInt8->Bool}: ∀l:By,(l.takeWhile p).length<=l.length
 | []=>by simp
 |c::r=>by
  rw[qw]
  split
  ·simp only[uI];have:=vU (p:=p) r;omega
  ·simp
theorem vi: ∀ {a l:By},a.isPrefixOf l=true->a.length<=l.length
 | [],_,_=>by simp
 |_::_,[],h=>by simp[List.isPrefixOf]at h
 |x::a,y::l,h=>by
  simp only[List.isPrefixOf,uu]at h
  have:=vi h.2
  simp only[uI];omega
theorem zcC: ∀y∈syms,1<=y.size/\y.size<=2:=by decide
theorem zfb{l:By}{y:Str}(h:zeX l=some y):y∈syms/\(lst y).isPrefixOf l=true:=⟨qI h,by have:=q7 h;exact this⟩
variable {o:Option (Int×Str×Int)}
theorem zlL{l:By}{n:Nat}(h:tk l=some (n,o)):1<=n/\n<=l.length:=by
 cases l with
 |nil=>cases h
 |cons c r=>
  simp only[tk]at h
  split at h
  ·simp only[um,uL]at h;obtain⟨rfl,_⟩:=h;simp
  ·split at h
   ·rename_i hc
    simp only[um,uL]at h
    obtain⟨rfl,_⟩:=h
    refine⟨?_,vU _⟩
    rw[qw,uv (by rw[hc];decide)];simp
   ·split at h
    ·rename_i hw
     rw[uH]at h
     obtain⟨t,_,h⟩:=h
     simp only[uL]at h
     obtain⟨rfl,_⟩:=h
     refine⟨?_,vU _⟩
     rw[qw,uv hw];simp
    ·rw[uH]at h
     obtain⟨y,hy,h⟩:=h
     simp only[uL]at h
     obtain⟨rfl,_⟩:=h
     obtain⟨h1,h2⟩:=zfb hy
     refine⟨(zcC y h1).1,?_⟩
     have:=vi h2
     rwa [y4]at this
theorem zqD: ∀(f g:Nat) (l:By) (p:Int×Int) (out:List Tok),l.length<f->l.length<g->lx f l p out=lx g l p out
 |0,_,_,_,_,h,_=>by omega
 |_+1,0,_,_,_,_,h=>by omega
 |_+1,_+1,[],_,_,_,_=>rfl
 |f+1,g+1,c::r,p,out,h,h'=>by
  simp only[lx]
  cases e:tk (c::r)with
  |none=>rfl
  |some q=>
   obtain⟨n,o⟩:=q
   have hp:=zlL e
   simp only[uI]at h h' hp
   simp only
   have hl:((c::r).drop n).length=r.length+1 - n:=by rw[uQ,uI]
   exact zqD f g _ _ _ ua ua
theorem zrC(f:Nat)(l:By)(p:Int×Int)(out:List Tok)(h:l.length<f):lx f l p out=lx (l.length+1) l p out:=zqD _ _ _ _ _ h (qy _)
def lxx(l:By)(p:Int×Int)(out:List Tok):List Tok×(Int×Int)×Int:=lx (l.length+1) l p out
theorem zlM(p:Int×Int)(out:List Tok):lxx [] p out=(out++[⟨5,(⟨#[]⟩:UW),0,p.1,p.2⟩],(0,0),0):=rfl
theorem zlN{c:UInt8}{r:By}(p:Int×Int)(out:List Tok)(h:tk (c::r)=none):lxx (c::r) p out=([],p,7):=by
 unfold lxx;simp only[lx,h]
theorem zb1{l:By}{n:Nat}(p:Int×Int)(out:List Tok)(h:tk l=some (n,o)):lxx l p out=lxx (l.drop n) ((l.take n).foldl mv p) (out++(o.map (yU p)).toList):=by
 cases l with
 |nil=>cases h
 |cons c r=>
  have hp:=zlL h
  unfold lxx
  simp only[lx,h]
  simp only[uI]at hp
  exact zrC _ _ _ _ (by rw[uQ,uI];omega)
def yi(s:Str):List Tok×(Int×Int)×Int:=if 65536<s.size then([],(0,0),4)else lxx (lst s) (1,1) []
theorem zgY: ∀(l:By) (p:Int×Int),(∀b∈l,b≠10)->l.foldl mv p=(p.1,p.2+l.length)
 | [],p,_=>by simp
 |b::r,p,h=>by
  have hb:b≠10:=h b ue
  rw[List.foldl_cons,zgY r _ λx hx=>h x (by simp[hx])]
  simp only[mv,ur hb,uI,uL,UL]
  omega
def natV:By->Nat->Nat
 | [],a=>a
 |b::r,a=>natV r (a*10+(b.toNat - 48))
theorem zfc{b:UInt8}:dB b=true↔48<=b.toNat/\b.toNat<=57:=by
 unfold dB isDigit
 simp only[uu,ux]
 omega
theorem zaO: ∀(l:By) (a:Nat),l.all dB=true->numV l a=(natV l a:Int)
 | [],a,_=>rfl
 |b::r,a,h=>by
  simp only[qT,uu]at h
  have hb:=zfc.1 h.1
  have e:((a:Int)*10+((b.toNat:Int) - 48))=((a*10+(b.toNat - 48):Nat):Int):=by omega
  simp only[numV,natV]
  rw[e]
  exact zaO r _ h.2
theorem zgZ: ∀(l:By) (a:Nat),a<=natV l a
 | [],a=>uG a
 |b::r,a=>by
  have:=zgZ r (a*10+(b.toNat - 48))
  simp only[natV];omega
theorem zfd: ∀(l:By) (k a:Nat),natV (l.take k) a<=natV l a
 | [],k,a=>by simp
 |b::r,0,a=>by simp only[qZ,natV];exact qn ua (zgZ r _)
 |b::r,k+1,a=>by simp only[tX,natV];exact zfd r k _
theorem zbD: ∀(l:By) (acc:Nat),l.all dB=true->acc<18446744073709551616->Lib.parseUint10 acc l=if natV l acc<18446744073709551616 then .ok (natV l acc)else .range
 | [],acc,_,ha=>by
   show Lib.NumEnd.ok acc=if acc<_ then _ else _
   rw[uv ha];rfl
 |c::r,acc,h,ha=>by
  simp only[qT,uu]at h
  have hc:=zfc.1 h.1
  have hg:=zgZ r (acc*10+(c.toNat - 48))
  simp only[Lib.parseUint10,natV,uv hc]
  by_cases h1:1844674407370955162<=acc
  ·rw[uv h1];exact(ur ua).symm
  ·rw[ur h1]
   by_cases h2:18446744073709551616<=acc*10+(c.toNat - 48)
   ·rw[uv h2];exact(ur ua).symm
   ·rw[ur h2]
    exact zbD r _ h.2 ua
theorem zg0{w:By}(hne:w≠ [])(hd:w.all dB=true):Lib.atoiAll w=if numV w 0<=9223372036854775807 then .ok (numV w 0)else .range:=by
 cases w with
 |nil=>exact absurd rfl hne
 |cons c r=>
  have hc:=zfc.1 (by simp only[qT,uu]at hd;exact hd.1)
  rw[Lib.atoiAll_plain c r ua ua,Lib.parseMag,ur ue,zbD _ _ hd ua]
  have hn:=zaO (c::r) 0 hd
  rw[show((0:Nat):Int)=0 from rfl]at hn
  by_cases h1:natV (c::r) 0<18446744073709551616
  ·rw[uv h1]
   simp only[Lib.signless]
   by_cases h2:9223372036854775808<=natV (c::r) 0
   ·rw[uv h2,ur ua]
   ·rw[ur h2,uv ua,hn]
  ·rw[ur h1,ur ua]
   rfl
def zrD(w:By):Int:=if numV w 0<=9223372036854775807 then numV w 0 else 9223372036854775807
inductive PA (α:Type) where
 |ok (x:α) (i:Nat)
 |no (i:Nat)
 |out
variable {α β:Type}
def PA.bind(r:PA α)(f:α->Nat->PA β):PA β:=match r with
 | .ok x i=>f x i
 | .no i=> .no i
 | .out=> .out
section
variable (l:List Tok)
def isA(i:Nat)(s:Str):Bool:=match l[i]? with
 |some t=>(decide (t.k=3)||decide (t.k=4))&&decide (t.t=s)
 |none=>false
def x6(s:Str)(i:Nat):PA Unit:=if isA l i s=true then .ok () (i+1)else .no i
def xF(i:Nat):PA Str:=match l[i]? with
 |some t=>if t.k=1 then .ok t.t (i+1)else .no i
 |none=> .no i
def zoq(i:Nat):PA Int:=match l[i]? with
 |some t=>if t.k=2 then .ok t.n (i+1)else .no i
 |none=> .no i
def zlO(i:Nat):PA Str:=if isA l i (⟨#[105,110,116]⟩:UW)=true then .ok (⟨#[105,110,116]⟩:UW) (i+1)else if isA l i (⟨#[98,111,111,108]⟩:UW)=true then .ok (⟨#[98,111,111,108]⟩:UW) (i+1)else xF l i
def yH(i:Nat):PA Fld:=(xF l i).bind λn i=>(zlO l i).bind λt i=> .ok ⟨n,t⟩ i
def listA{α:Type}(sep fin:Str)(one:Nat->PA α):Nat->Nat->List α->PA (List α)
 |0,_,_=> .out
 |f+1,i,acc=>if isA l i fin=true then .ok acc (i+1)
  else(if acc.length=0 then PA.ok () i else x6 l sep i).bind λ_ i=>(one i).bind λx i=>listA sep fin one f i (acc++[x])
def opsA(n:Nat):List (Str×Int):=match n with
 |0=>[((⟨#[111,114]⟩:UW),20)]
 |1=>[((⟨#[97,110,100]⟩:UW),19)]
 |3=>[((⟨#[61,61]⟩:UW),14),((⟨#[33,61]⟩:UW),15),((⟨#[60,61]⟩:UW),17),((⟨#[60]⟩:UW),16)]
 |4=>[((⟨#[43]⟩:UW),9),((⟨#[45]⟩:UW),10)]
 |5=>[((⟨#[42]⟩:UW),11),((⟨#[47]⟩:UW),12),((⟨#[37]⟩:UW),13)]
 |_=>[]
def opA(i n:Nat):Option Int:=((opsA n).find? λp=>isA l i p.1).map (·.2)
mutual
def exprA:Nat->Nat->Nat->PA Ex
 |0,_,_=> .out
 |f+1,n,i=>
  if n=2 then if isA l i (⟨#[110,111,116]⟩:UW)=true then(exprA f 2 (i+1)).bind λx i=> .ok (.mk 18 0 (⟨#[]⟩:UW) [x]) i else exprA f 3 i
  else if n=6 then if isA l i (⟨#[45]⟩:UW)=true then(exprA f 6 (i+1)).bind λx i=> .ok (.mk 8 0 (⟨#[]⟩:UW) [x]) i else postA f i
  else(exprA f (n+1) i).bind λx i=>moreA f n x i
def moreA:Nat->Nat->Ex->Nat->PA Ex
 |0,_,_,_=> .out
 |f+1,n,x,i=>match opA l i n with
  |none=> .ok x i
  |some op=>(exprA f (n+1) (i+1)).bind λy i=>if n=3 then .ok (.mk op 0 (⟨#[]⟩:UW) [x,y]) i else moreA f n (.mk op 0 (⟨#[]⟩:UW) [x,y]) i
def postA:Nat->Nat->PA Ex
 |0,_=> .out
 |f+1,i=>(primA f i).bind λx i=>dotsA f x i
def dotsA:Nat->Ex->Nat->PA Ex
 |0,_,_=> .out
 |f+1,x,i=>if isA l i (⟨#[46]⟩:UW)=true then(xF l (i+1)).bind λs i=>dotsA f (.mk 5 0 s [x]) i else .ok x i
def argsP:Nat->Nat->List Ex->PA (List Ex)
 |0,_,_=> .out
 |f+1,i,acc=>if isA l i (⟨#[41]⟩:UW)=true then .ok acc (i+1)
  else(if acc.length=0 then PA.ok () i else x6 l (⟨#[44]⟩:UW) i).bind λ_ i=>(exprA f 0 i).bind λx i=>argsP f i (acc++[x])
def partsA:Nat->Nat->Nat->List Ex->PA (List Ex)
 |0,_,_,_=> .out
 |f+1,k,i,acc=>if k=0 then(x6 l (⟨#[41]⟩:UW) i).bind λ_ i=> .ok acc i
  else(x6 l (if acc.length=0 then(⟨#[40]⟩:UW)else(⟨#[44]⟩:UW)) i).bind λ_ i=>(exprA f 0 i).bind λx i=>partsA f (k - 1) i (acc++[x])
def primA:Nat->Nat->PA Ex
 |0,_=> .out
 |f+1,i=>match l[i]? with
  |none=> .no i
  |some t=>
   if t.k=2 then .ok (.mk 1 t.n (⟨#[]⟩:UW) []) (i+1)
   else if t.k=1 then if isA l (i+1) (⟨#[40]⟩:UW)=true then(argsP f (i+2) []).bind λa i=> .ok (.mk 7 0 t.t a) i else .ok (.mk 4 0 t.t []) (i+1)
   else if isA l i (⟨#[116,114,117,101]⟩:UW)=true then .ok (.mk 2 1 (⟨#[]⟩:UW) []) (i+1)
   else if isA l i (⟨#[102,97,108,115,101]⟩:UW)=true then .ok (.mk 2 0 (⟨#[]⟩:UW) []) (i+1)
   else if isA l i (⟨#[110,105,108]⟩:UW)=true then .ok (.mk 3 0 (⟨#[]⟩:UW) []) (i+1)
   else if isA l i (⟨#[116,104,105,115]⟩:UW)=true then .ok (.mk 4 0 (⟨#[116,104,105,115]⟩:UW) []) (i+1)
   else if isA l i (⟨#[110,101,119]⟩:UW)=true then(xF l (i+1)).bind λs i=> .ok (.mk 6 0 s []) i
   else if isA l i (⟨#[105,102]⟩:UW)=true then(partsA f 3 (i+1) []).bind λa i=> .ok (.mk 21 0 (⟨#[]⟩:UW) a) i
   else if isA l i (⟨#[109,97,120]⟩:UW)=true then(partsA f 2 (i+1) []).bind λa i=> .ok (.mk 22 0 (⟨#[]⟩:UW) a) i
   else if isA l i (⟨#[109,105,110]⟩:UW)=true then(partsA f 2 (i+1) []).bind λa i=> .ok (.mk 23 0 (⟨#[]⟩:UW) a) i
   else if isA l i (⟨#[108,111,103]⟩:UW)=true then(partsA f 1 (i+1) []).bind λa i=> .ok (.mk 24 0 (⟨#[]⟩:UW) a) i
   else if isA l i (⟨#[40]⟩:UW)=true then(exprA f 0 (i+1)).bind λx i=>(x6 l (⟨#[41]⟩:UW) i).bind λ_ i=> .ok x i
   else .no i
end
mutual
def stmtsA:Nat->Nat->List Sm->PA (List Sm)
 |0,_,_=> .out
 |f+1,i,acc=>if isA l i ⟨#[125]⟩=true then .ok acc (i+1)else(wZ f i).bind λs i=>stmtsA f i (acc++[s])
def xu:Nat->Nat->PA (List Sm)
 |0,_=> .out
 |f+1,i=>(x6 l ⟨#[123]⟩ i).bind λ_ i=>stmtsA f i []
def wZ:Nat->Nat->PA Sm
 |0,_=> .out
 |f+1,i=>
  if isA l i (⟨#[105,102]⟩:UW)=true then(exprA l f 0 (i+1)).bind λx i=>(xu f i).bind λa i=>
   if isA l i (⟨#[101,108,115,101]⟩:UW)=true then(xu f (i+1)).bind λb i=> .ok (.mk 3 (⟨#[]⟩:UW) [x] a b) i else .ok (.mk 3 (⟨#[]⟩:UW) [x] a []) i
  else if isA l i (⟨#[119,104,105,108,101]⟩:UW)=true then(exprA l f 0 (i+1)).bind λx i=>(xu f i).bind λa i=> .ok (.mk 4 (⟨#[]⟩:UW) [x] a []) i
  else if isA l i (⟨#[114,101,116,117,114,110]⟩:UW)=true then
   if isA l (i+1) (⟨#[59]⟩:UW)=true then .ok (.mk 5 (⟨#[]⟩:UW) [] [] []) (i+2)
   else(exprA l f 0 (i+1)).bind λx i=>(x6 l (⟨#[59]⟩:UW) i).bind λ_ i=> .ok (.mk 5 (⟨#[]⟩:UW) [x] [] []) i
  else(postA l f i).bind λx i=>
   if isA l i (⟨#[61]⟩:UW)=true/\x.op=4/\x.s≠(⟨#[116,104,105,115]⟩:UW)then(exprA l f 0 (i+1)).bind λy i=>(x6 l (⟨#[59]⟩:UW) i).bind λ_ i=> .ok (.mk 1 x.s [y] [] []) i
   else if isA l i (⟨#[61]⟩:UW)=true/\x.op=5 then(exprA l f 0 (i+1)).bind λy i=>(x6 l (⟨#[59]⟩:UW) i).bind λ_ i=> .ok (.mk 2 x.s (x.l.take 1++[y]) [] []) i
   else if x.op=7 then(x6 l (⟨#[59]⟩:UW) i).bind λ_ i=> .ok (.mk 6 (⟨#[]⟩:UW) [x] [] []) i
   else .no i
end
def locsA:Nat->Nat->List Fld->PA (List Fld)
 |0,_,_=> .out
 |f+1,i,acc=>if isA l i (⟨#[108,111,99,97,108]⟩:UW)=true then(yH l (i+1)).bind λx i=>(x6 l (⟨#[59]⟩:UW) i).bind λ_ i=>locsA f i (acc++[x])else .ok acc i
def zdj(f i:Nat):PA Pr:=(xF l i).bind λn i=>(x6 l (⟨#[40]⟩:UW) i).bind λ_ i=>(listA l (⟨#[44]⟩:UW) (⟨#[41]⟩:UW) (yH l) f i []).bind λps i=>
 (if isA l i ⟨#[123]⟩=true then PA.ok (⟨#[]⟩:UW) i else zlO l i).bind λr i=>(x6 l ⟨#[123]⟩ i).bind λ_ i=>(locsA l f i []).bind λls i=>
 (stmtsA l f i []).bind λb i=> .ok ⟨n,ps,r,ls,b⟩ i
def xh(f i:Nat):PA Ex:=(x6 l (⟨#[61]⟩:UW) i).bind λ_ i=>exprA l f 0 i
def wN(f i:Nat):PA Ms:=(xF l i).bind λn i=>(x6 l (⟨#[40]⟩:UW) i).bind λ_ i=>(xF l i).bind λt i=>(x6 l (⟨#[41]⟩:UW) i).bind λ_ i=>(x6 l (⟨#[110,105,108]⟩:UW) i).bind λ_ i=>
 (zoq l (if isA l i (⟨#[45]⟩:UW)=true then i+1 else i)).bind λz i'=>(xh l f i').bind λx j=> .ok ⟨n,t,if isA l i (⟨#[45]⟩:UW)=true then -z else z,x⟩ j
def jr(f i:Nat)(d:xo):PA xo:=
 if isA l i (⟨#[116,121,112,101]⟩:UW)=true then(xF l (i+1)).bind λn i=>(x6 l ⟨#[123]⟩ i).bind λ_ i=>(listA l (⟨#[59]⟩:UW) ⟨#[125]⟩ (yH l) f i []).bind λfs i=> .ok { d with types:=d.types++[⟨n,fs⟩] } i
 else if isA l i (⟨#[118,97,114]⟩:UW)=true then(yH l (i+1)).bind λx i=> .ok { d with globals:=d.globals++[x] } i
 else if isA l i (⟨#[112,114,111,99]⟩:UW)=true then(zdj l f (i+1)).bind λp i=> .ok { d with procs:=d.procs++[p] } i
 else if isA l i (⟨#[109,101,97,115,117,114,101]⟩:UW)=true then(wN l f (i+1)).bind λm i=> .ok { d with measures:=d.measures++[m] } i
 else if isA l i (⟨#[105,110,118,97,114,105,97,110,116]⟩:UW)=true then(xF l (i+1)).bind λn i=>
  (if isA l i (⟨#[40]⟩:UW)=true then(xF l (i+1)).bind λt i=>(x6 l (⟨#[41]⟩:UW) i).bind λ_ i=> .ok t i else PA.ok (⟨#[]⟩:UW) i).bind λt i=>(xh l f i).bind λx i=> .ok { d with invs:=d.invs++[⟨n,t,x⟩] } i
 else if isA l i (⟨#[112,111,116,101,110,116,105,97,108]⟩:UW)=true then(if isA l (i+1) (⟨#[61]⟩:UW)=true then PA.ok (⟨#[]⟩:UW) (i+1)else xF l (i+1)).bind λt i=>(xh l f i).bind λx i=> .ok { d with pots:=d.pots++[⟨t,x⟩] } i
 else if isA l i (⟨#[98,111,117,110,100]⟩:UW)=true then(xF l (i+1)).bind λn i=>(xh l f i).bind λx i=> .ok { d with bounds:=d.bounds++[⟨n,x⟩] } i
 else .no i
def itemsA(f:Nat):Nat->Nat->xo->PA xo
 |0,_,_=> .out
 |g+1,i,d=>if isA l i ⟨#[125]⟩=true then .ok d (i+1)else(jr l f i d).bind λd i=>itemsA f g i d
def zbg(f:Nat):PA xo:=(x6 l (⟨#[100,101,115,99]⟩:UW) 0).bind λ_ i=>(xF l i).bind λn i=>(x6 l ⟨#[123]⟩ i).bind λ_ i=>itemsA l f f i ⟨n,[],[],[],[],[],[],[]⟩
end
variable {j:Nat}{x:β}
theorem zi{r:PA α}{f:α->Nat->PA β}(h:r.bind f= .ok x j): ∃y k,r= .ok y k/\f y k= .ok x j:=by
 cases r with
 |ok y k=>exact⟨y,k,rfl,h⟩
 |no k=>cases h
 |out=>cases h
variable {c:Prop}
theorem zq[Decidable c]{a b:PA α}{x:α}(h:(if c then a else b)= .ok x j):(c/\a= .ok x j)\/(¬c/\b= .ok x j):=by
 by_cases hc:c
 ·rw[uv hc]at h;exact .inl ⟨hc,h⟩
 ·rw[ur hc]at h;exact .inr ⟨hc,h⟩
variable {i:Nat}{u:Unit}
section
variable {l:List Tok}
theorem yl{s:Str}(h:x6 l s i= .ok u j):j=i+1/\isA l i s=true:=by
 unfold x6 at h
 split at h
 ·rename_i h1;cases h;exact⟨rfl,h1⟩
 ·cases h
theorem zbE{s:Str}(h:isA l i s=true):i<l.length:=by
 unfold isA at h
 split at h
 ·rename_i t ht;exact(ui.1 ht).1
 ·cases h
theorem yY{s:Str}(h:xF l i= .ok s j):j=i+1:=by
 unfold xF at h
 split at h
 ·split at h
  ·cases h;rfl
  ·cases h
 ·cases h
theorem zlP{s:Str}(h:zlO l i= .ok s j):j=i+1:=by
 unfold zlO at h
 split at h
 ·cases h;rfl
 ·split at h
  ·cases h;rfl
  ·exact yY h
theorem vA{x:Fld}(h:yH l i= .ok x j):i<j:=by
 unfold yH at h
 obtain⟨n,k,h1,h⟩:=zi h
 obtain⟨t,k2,h2,h⟩:=zi h
 have e1:=yY h1
 have e2:=zlP h2
 cases h
 omega
theorem zg1{s:Str}{n:Nat}(h:(if n=0 then PA.ok () i else x6 l s i)= .ok u j):i<=j:=by
 split at h
 ·cases h;exact uG _
 ·have:=(yl h).1;omega
theorem zek: ∀f:Nat,(∀n i x j,exprA l f n i= .ok x j->i<j/\i<l.length)/\(∀n y i x j,moreA l f n y i= .ok x j->i<=j)/\(∀i x j,postA l f i= .ok x j->i<j/\i<l.length)/\(∀y i x j,dotsA l f y i= .ok x j->i<=j)/\
 (∀i a x j,argsP l f i a= .ok x j->i<j)/\(∀k i a x j,partsA l f k i a= .ok x j->i<j)/\(∀i x j,primA l f i= .ok x j->i<j/\i<l.length):=by
 intro f
 induction f with
 |zero=>
  refine⟨λn i x j h=>?_,λn y i x j h=>?_,λi x j h=>?_,λy i x j h=>?_,λi a x j h=>?_,λk i a x j h=>?_,λi x j h=>?_⟩
  all_goals simp only[exprA,moreA,postA,dotsA,argsP,partsA,primA,reduceCtorEq]at h
 |succ f ih=>
  obtain⟨iE,iM,iP,iD,iA,iK,iR⟩:=ih
  refine⟨λn i x j h=>?_,λn y i x j h=>?_,λi x j h=>?_,λy i x j h=>?_,λi a x j h=>?_,λk i a x j h=>?_,λi x j h=>?_⟩
  ·unfold exprA at h
   split at h
   ·split at h
    ·rename_i hi
     obtain⟨y,k,h1,h⟩:=zi h
     have:=iE _ _ _ _ h1
     have:=zbE hi
     cases h;omega
    ·exact iE _ _ _ _ h
   ·split at h
    ·split at h
     ·rename_i hi
      obtain⟨y,k,h1,h⟩:=zi h
      have:=iE _ _ _ _ h1
      have:=zbE hi
      cases h;omega
     ·exact iP _ _ _ h
    ·obtain⟨y,k,h1,h⟩:=zi h
     have:=iE _ _ _ _ h1
     have:=iM _ _ _ _ _ h
     omega
  ·unfold moreA at h
   split at h
   ·cases h;exact uG _
   ·obtain⟨z,k,h1,h⟩:=zi h
    have:=iE _ _ _ _ h1
    split at h
    ·cases h;omega
    ·have:=iM _ _ _ _ _ h
     omega
  ·unfold postA at h
   obtain⟨y,k,h1,h⟩:=zi h
   have:=iR _ _ _ h1
   have:=iD _ _ _ _ h
   omega
  ·unfold dotsA at h
   split at h
   ·obtain⟨s,k,h1,h⟩:=zi h
    have:=yY h1
    have:=iD _ _ _ _ h
    omega
   ·cases h;exact uG _
  ·unfold argsP at h
   split at h
   ·cases h;omega
   ·obtain⟨u,k,h1,h⟩:=zi h
    obtain⟨y,k2,h2,h⟩:=zi h
    have:=zg1 h1
    have:=iE _ _ _ _ h2
    have:=iA _ _ _ _ h
    omega
  ·unfold partsA at h
   split at h
   ·obtain⟨u,k,h1,h⟩:=zi h
    have:=(yl h1).1
    cases h;omega
   ·obtain⟨u,k,h1,h⟩:=zi h
    obtain⟨y,k2,h2,h⟩:=zi h
    have:=(yl h1).1
    have:=iE _ _ _ _ h2
    have:=iK _ _ _ _ _ h
    omega
  ·unfold primA at h
   cases hl:l[i]? with
   |none=>rw[hl]at h;cases h
   |some t=>
   have hL:=(ui.1 hl).1
   rw[hl]at h
   simp only at h
   rcases zq h with⟨_,h⟩|⟨_,h⟩
   ·cases h;omega
   rcases zq h with⟨_,h⟩|⟨_,h⟩
   ·rcases zq h with⟨_,h⟩|⟨_,h⟩
    ·obtain⟨a,k,h1,h⟩:=zi h;have:=iA _ _ _ _ h1;cases h;omega
    ·cases h;omega
   rcases zq h with⟨_,h⟩|⟨_,h⟩
   ·cases h;omega
   rcases zq h with⟨_,h⟩|⟨_,h⟩
   ·cases h;omega
   rcases zq h with⟨_,h⟩|⟨_,h⟩
   ·cases h;omega
   rcases zq h with⟨_,h⟩|⟨_,h⟩
   ·cases h;omega
   rcases zq h with⟨_,h⟩|⟨_,h⟩
   ·obtain⟨a,k,h1,h⟩:=zi h;have:=yY h1;cases h;omega
   rcases zq h with⟨_,h⟩|⟨_,h⟩
   ·obtain⟨a,k,h1,h⟩:=zi h;have:=iK _ _ _ _ _ h1;cases h;omega
   rcases zq h with⟨_,h⟩|⟨_,h⟩
   ·obtain⟨a,k,h1,h⟩:=zi h;have:=iK _ _ _ _ _ h1;cases h;omega
   rcases zq h with⟨_,h⟩|⟨_,h⟩
   ·obtain⟨a,k,h1,h⟩:=zi h;have:=iK _ _ _ _ _ h1;cases h;omega
   rcases zq h with⟨_,h⟩|⟨_,h⟩
   ·obtain⟨a,k,h1,h⟩:=zi h;have:=iK _ _ _ _ _ h1;cases h;omega
   rcases zq h with⟨_,h⟩|⟨_,h⟩
   ·obtain⟨a,k,h1,h⟩:=zi h;have:=iE _ _ _ _ h1;obtain⟨u,k2,h2,h⟩:=zi h;have:=(yl h2).1;cases h;omega
   ·cases h
theorem ziu: ∀f:Nat,(∀i a x j,stmtsA l f i a= .ok x j->i<j)/\(∀i x j,xu l f i= .ok x j->i<j)/\(∀i x j,wZ l f i= .ok x j->i<j/\i<l.length):=by
 intro f
 induction f with
 |zero=>
  refine⟨λi a x j h=>?_,λi x j h=>?_,λi x j h=>?_⟩
  all_goals simp only[stmtsA,xu,wZ,reduceCtorEq]at h
 |succ f ih=>
  obtain⟨iT,iB,iS⟩:=ih
  obtain⟨fE,fM,fP,fD,fA,fK,fR⟩:=zek (l:=l) f
  refine⟨λi a x j h=>?_,λi x j h=>?_,λi x j h=>?_⟩
  ·unfold stmtsA at h
   rcases zq h with⟨_,h⟩|⟨_,h⟩
   ·cases h;omega
   ·obtain⟨s,k,h1,h⟩:=zi h
    have:=iS _ _ _ h1
    have:=iT _ _ _ _ h
    omega
  ·unfold xu at h
   obtain⟨u,k,h1,h⟩:=zi h
   have:=yl h1
   have:=iT _ _ _ _ h
   omega
  ·unfold wZ at h
   rcases zq h with⟨hi,h⟩|⟨_,h⟩
   ·have:=zbE hi
    obtain⟨y,k,h1,h⟩:=zi h
    obtain⟨b,k2,h2,h⟩:=zi h
    have:=fE _ _ _ _ h1
    have:=iB _ _ _ h2
    rcases zq h with⟨_,h⟩|⟨_,h⟩
    ·obtain⟨b2,k3,h3,h⟩:=zi h
     have:=iB _ _ _ h3
     cases h;omega
    ·cases h;omega
   rcases zq h with⟨hi,h⟩|⟨_,h⟩
   ·have:=zbE hi
    obtain⟨y,k,h1,h⟩:=zi h
    obtain⟨b,k2,h2,h⟩:=zi h
    have:=fE _ _ _ _ h1
    have:=iB _ _ _ h2
    cases h;omega
   rcases zq h with⟨hi,h⟩|⟨_,h⟩
   ·have:=zbE hi
    rcases zq h with⟨_,h⟩|⟨_,h⟩
    ·cases h;omega
    ·obtain⟨y,k,h1,h⟩:=zi h
     obtain⟨b,k2,h2,h⟩:=zi h
     have:=fE _ _ _ _ h1
     have:=yl h2
     cases h;omega
   obtain⟨y,k,h1,h⟩:=zi h
   have:=fP _ _ _ h1
   rcases zq h with⟨_,h⟩|⟨_,h⟩
   ·obtain⟨z,k1,h2,h⟩:=zi h
    obtain⟨b,k2,h3,h⟩:=zi h
    have:=fE _ _ _ _ h2
    have:=yl h3
    cases h;omega
   rcases zq h with⟨_,h⟩|⟨_,h⟩
   ·obtain⟨z,k1,h2,h⟩:=zi h
    obtain⟨b,k2,h3,h⟩:=zi h
    have:=fE _ _ _ _ h2
    have:=yl h3
    cases h;omega
   rcases zq h with⟨_,h⟩|⟨_,h⟩
   ·obtain⟨b,k2,h3,h⟩:=zi h
    have:=yl h3
    cases h;omega
   ·cases h
theorem zrE{z:Int}(h:zoq l i= .ok z j):j=i+1:=by
 unfold zoq at h
 split at h
 ·split at h
  ·cases h;rfl
  ·cases h
 ·cases h
theorem zel{sep fin:Str}: ∀(f i:Nat) (a x:List Fld) (j:Nat),listA l sep fin (yH l) f i a= .ok x j->i<j
 |0,i,a,x,j,h=>by simp only[listA,reduceCtorEq]at h
 |f+1,i,a,x,j,h=>by
  unfold listA at h
  rcases zq h with⟨_,h⟩|⟨_,h⟩
  ·cases h;omega
  ·obtain⟨u,k,h1,h⟩:=zi h
   obtain⟨y,k2,h2,h⟩:=zi h
   have:=zg1 h1
   have:=vA h2
   have:=zel f _ _ _ _ h
   omega
theorem ziv: ∀(f i:Nat) (a x:List Fld) (j:Nat),locsA l f i a= .ok x j->i<=j
 |0,i,a,x,j,h=>by simp only[locsA,reduceCtorEq]at h
 |f+1,i,a,x,j,h=>by
  unfold locsA at h
  rcases zq h with⟨_,h⟩|⟨_,h⟩
  ·obtain⟨y,k,h1,h⟩:=zi h
   obtain⟨u,k2,h2,h⟩:=zi h
   have:=vA h1
   have:=yl h2
   have:=ziv f _ _ _ _ h
   omega
  ·cases h;exact uG _
theorem zrF{t:Str}(h:(if isA l i (⟨#[40]⟩:UW)=true then(xF l (i+1)).bind λt i=>(x6 l (⟨#[41]⟩:UW) i).bind λ_ i=> .ok t i else PA.ok (⟨#[]⟩:UW) i)= .ok t j):i<=j:=by
 rcases zq h with⟨_,h⟩|⟨_,h⟩
 ·obtain⟨n,k1,h1,h⟩:=zi h
  obtain⟨u,k2,h2,h⟩:=zi h
  have:=yY h1
  have:=yl h2
  cases h;omega
 ·cases h;exact uG _
end
abbrev PJ(α:Type):=Option (α×Nat×Bool)
def PJ.ok(x:α)(i:Nat):PJ α:=some (x,i,false)
def PJ.no(x:α)(i:Nat):PJ α:=some (x,i,true)
def PJ.go(r:PJ α)(f:α->Nat->PJ β)(g:α->β):PJ β:=match r with
 |none=>none
 |some (x,i,false)=>f x i
 |some (x,i,true)=>some (g x,i,true)
def PJ.er(r:PJ α):PA α:=match r with
 |none=> .out
 |some (x,i,false)=> .ok x i
 |some (_,i,true)=> .no i
theorem vV(r:PJ α)(f:α->Nat->PJ β)(g:α->β):PJ.er (PJ.go r f g)=(PJ.er r).bind λx i=>PJ.er (f x i):=by
 rcases r with _|⟨x,i,_|_⟩<;>rfl
theorem jt(x:α)(i:Nat):PJ.er (PJ.ok x i)= .ok x i:=rfl
theorem zlQ(x:α)(i:Nat):PJ.er (PJ.no x i)= .no i:=rfl
theorem wI[Decidable c](a b:PJ α):PJ.er (if c then a else b)=if c then PJ.er a else PJ.er b:=by split<;>rfl
abbrev E0:Ex:= .mk 0 0 (⟨#[]⟩:UW) []
section
variable (l:List Tok)
def vW(s:Str)(i:Nat):PJ Unit:=if isA l i s=true then .ok () (i+1)else .no () i
def nameJ(i:Nat):PJ Str:=match l[i]? with
 |some t=>if t.k=1 then .ok t.t (i+1)else .no (⟨#[]⟩:UW) i
 |none=> .no (⟨#[]⟩:UW) i
def zlR(i:Nat):PJ Int:=match l[i]? with
 |some t=>if t.k=2 then .ok t.n (i+1)else .no 0 i
 |none=> .no 0 i
def zg2(i:Nat):PJ Str:=if isA l i (⟨#[105,110,116]⟩:UW)=true then .ok (⟨#[105,110,116]⟩:UW) (i+1)else if isA l i (⟨#[98,111,111,108]⟩:UW)=true then .ok (⟨#[98,111,111,108]⟩:UW) (i+1)else nameJ l i
def x7(i:Nat):PJ Fld:=PJ.go (nameJ l i) (λn i=>PJ.go (zg2 l i) (λt i=>PJ.ok ⟨n,t⟩ i) (λt=>⟨n,t⟩)) (λn=>⟨n,(⟨#[]⟩:UW)⟩)
def listJ{α:Type}(z:α)(sep fin:Str)(one:Nat->PJ α):Nat->Nat->List α->PJ (List α)
 |0,_,_=>none
 |f+1,i,acc=>if isA l i fin=true then .ok acc (i+1)
  else PJ.go (if acc.length=0 then PJ.ok () i else vW l sep i) (λ_ i=>PJ.go (one i) (λx i=>listJ z sep fin one f i (acc++[x])) (λx=>acc++[x])) (λ_=>acc++[z])
mutual
def exprJ:Nat->Nat->Nat->PJ Ex
 |0,_,_=>none
 |f+1,n,i=>
  if n=2 then if isA l i (⟨#[110,111,116]⟩:UW)=true then PJ.go (exprJ f 2 (i+1)) (λx i=> .ok (.mk 18 0 (⟨#[]⟩:UW) [x]) i) (λx=> .mk 18 0 (⟨#[]⟩:UW) [x])else exprJ f 3 i
  else if n=6 then if isA l i (⟨#[45]⟩:UW)=true then PJ.go (exprJ f 6 (i+1)) (λx i=> .ok (.mk 8 0 (⟨#[]⟩:UW) [x]) i) (λx=> .mk 8 0 (⟨#[]⟩:UW) [x])else postJ f i
  else PJ.go (exprJ f (n+1) i) (λx i=>moreJ f n x i) (λx=>x)
def moreJ:Nat->Nat->Ex->Nat->PJ Ex
 |0,_,_,_=>none
 |f+1,n,x,i=>match opA l i n with
  |none=> .ok x i
  |some op=>PJ.go (exprJ f (n+1) (i+1)) (λy i=>if n=3 then .ok (.mk op 0 (⟨#[]⟩:UW) [x,y]) i else moreJ f n (.mk op 0 (⟨#[]⟩:UW) [x,y]) i) (λy=> .mk op 0 (⟨#[]⟩:UW) [x,y])
def postJ:Nat->Nat->PJ Ex
 |0,_=>none
 |f+1,i=>PJ.go (primJ f i) (λx i=>dotsJ f x i) (λx=>x)
def dotsJ:Nat->Ex->Nat->PJ Ex
 |0,_,_=>none
 |f+1,x,i=>if isA l i (⟨#[46]⟩:UW)=true then PJ.go (nameJ l (i+1)) (λs i=>dotsJ f (.mk 5 0 s [x]) i) (λs=> .mk 5 0 s [x])else .ok x i
def argsJ:Nat->Nat->List Ex->PJ (List Ex)
 |0,_,_=>none
 |f+1,i,acc=>if isA l i (⟨#[41]⟩:UW)=true then .ok acc (i+1)
  else PJ.go (if acc.length=0 then PJ.ok () i else vW l (⟨#[44]⟩:UW) i) (λ_ i=>PJ.go (exprJ f 0 i) (λx i=>argsJ f i (acc++[x])) (λx=>acc++[x])) (λ_=>acc++[E0])
def partsJ:Nat->Nat->Nat->List Ex->PJ (List Ex)
 |0,_,_,_=>none
 |f+1,k,i,acc=>if k=0 then PJ.go (vW l (⟨#[41]⟩:UW) i) (λ_ i=> .ok acc i) (λ_=>acc)
  else PJ.go (vW l (if acc.length=0 then(⟨#[40]⟩:UW)else(⟨#[44]⟩:UW)) i) (λ_ i=>PJ.go (exprJ f 0 i) (λx i=>partsJ f (k - 1) i (acc++[x])) (λx=>acc++[x]++List.replicate (k - 1) E0)) (λ_=>acc++List.replicate k E0)
def primJ:Nat->Nat->PJ Ex
 |0,_=>none
 |f+1,i=>match l[i]? with
  |none=> .no E0 i
  |some t=>
   if t.k=2 then .ok (.mk 1 t.n (⟨#[]⟩:UW) []) (i+1)
   else if t.k=1 then if isA l (i+1) (⟨#[40]⟩:UW)=true then PJ.go (argsJ f (i+2) []) (λa i=> .ok (.mk 7 0 t.t a) i) (λa=> .mk 7 0 t.t a)else .ok (.mk 4 0 t.t []) (i+1)
   else if isA l i (⟨#[116,114,117,101]⟩:UW)=true then .ok (.mk 2 1 (⟨#[]⟩:UW) []) (i+1)
   else if isA l i (⟨#[102,97,108,115,101]⟩:UW)=true then .ok (.mk 2 0 (⟨#[]⟩:UW) []) (i+1)
   else if isA l i (⟨#[110,105,108]⟩:UW)=true then .ok (.mk 3 0 (⟨#[]⟩:UW) []) (i+1)
   else if isA l i (⟨#[116,104,105,115]⟩:UW)=true then .ok (.mk 4 0 (⟨#[116,104,105,115]⟩:UW) []) (i+1)
   else if isA l i (⟨#[110,101,119]⟩:UW)=true then PJ.go (nameJ l (i+1)) (λs i=> .ok (.mk 6 0 s []) i) (λs=> .mk 6 0 s [])
   else if isA l i (⟨#[105,102]⟩:UW)=true then PJ.go (partsJ f 3 (i+1) []) (λa i=> .ok (.mk 21 0 (⟨#[]⟩:UW) a) i) (λa=> .mk 21 0 (⟨#[]⟩:UW) a)
   else if isA l i (⟨#[109,97,120]⟩:UW)=true then PJ.go (partsJ f 2 (i+1) []) (λa i=> .ok (.mk 22 0 (⟨#[]⟩:UW) a) i) (λa=> .mk 22 0 (⟨#[]⟩:UW) a)
   else if isA l i (⟨#[109,105,110]⟩:UW)=true then PJ.go (partsJ f 2 (i+1) []) (λa i=> .ok (.mk 23 0 (⟨#[]⟩:UW) a) i) (λa=> .mk 23 0 (⟨#[]⟩:UW) a)
   else if isA l i (⟨#[108,111,103]⟩:UW)=true then PJ.go (partsJ f 1 (i+1) []) (λa i=> .ok (.mk 24 0 (⟨#[]⟩:UW) a) i) (λa=> .mk 24 0 (⟨#[]⟩:UW) a)
   else if isA l i (⟨#[40]⟩:UW)=true then PJ.go (exprJ f 0 (i+1)) (λx i=>PJ.go (vW l (⟨#[41]⟩:UW) i) (λ_ i=> .ok x i) (λ_=>x)) (λx=>x)
   else .no E0 i
end
mutual
def stmtsJ:Nat->Nat->List Sm->PJ (List Sm)
 |0,_,_=>none
 |f+1,i,acc=>if isA l i ⟨#[125]⟩=true then .ok acc (i+1)else PJ.go (zbO f i) (λs i=>stmtsJ f i (acc++[s])) (λs=>acc++[s])
def vB:Nat->Nat->PJ (List Sm)
 |0,_=>none
 |f+1,i=>PJ.go (vW l ⟨#[123]⟩ i) (λ_ i=>stmtsJ f i []) (λ_=>[])
def zbO:Nat->Nat->PJ Sm
 |0,_=>none
 |f+1,i=>
  if isA l i (⟨#[105,102]⟩:UW)=true then PJ.go (exprJ l f 0 (i+1)) (λx i=>PJ.go (vB f i) (λa i=>
   if isA l i (⟨#[101,108,115,101]⟩:UW)=true then PJ.go (vB f (i+1)) (λb i=> .ok (.mk 3 (⟨#[]⟩:UW) [x] a b) i) (λb=> .mk 3 (⟨#[]⟩:UW) [x] a b)else .ok (.mk 3 (⟨#[]⟩:UW) [x] a []) i) (λa=> .mk 3 (⟨#[]⟩:UW) [x] a [])) (λx=> .mk 3 (⟨#[]⟩:UW) [x] [] [])
  else if isA l i (⟨#[119,104,105,108,101]⟩:UW)=true then PJ.go (exprJ l f 0 (i+1)) (λx i=>PJ.go (vB f i) (λa i=> .ok (.mk 4 (⟨#[]⟩:UW) [x] a []) i) (λa=> .mk 4 (⟨#[]⟩:UW) [x] a [])) (λx=> .mk 4 (⟨#[]⟩:UW) [x] [] [])
  else if isA l i (⟨#[114,101,116,117,114,110]⟩:UW)=true then
   if isA l (i+1) (⟨#[59]⟩:UW)=true then .ok (.mk 5 (⟨#[]⟩:UW) [] [] []) (i+2)
   else PJ.go (exprJ l f 0 (i+1)) (λx i=>PJ.go (vW l (⟨#[59]⟩:UW) i) (λ_ i=> .ok (.mk 5 (⟨#[]⟩:UW) [x] [] []) i) (λ_=> .mk 5 (⟨#[]⟩:UW) [x] [] [])) (λx=> .mk 5 (⟨#[]⟩:UW) [x] [] [])
  else PJ.go (postJ l f i) (λx i=>
   if isA l i (⟨#[61]⟩:UW)=true/\x.op=4/\x.s≠(⟨#[116,104,105,115]⟩:UW)then PJ.go (exprJ l f 0 (i+1)) (λy i=>PJ.go (vW l (⟨#[59]⟩:UW) i) (λ_ i=> .ok (.mk 1 x.s [y] [] []) i) (λ_=> .mk 1 x.s [y] [] [])) (λy=> .mk 1 x.s [y] [] [])
   else if isA l i (⟨#[61]⟩:UW)=true/\x.op=5 then PJ.go (exprJ l f 0 (i+1)) (λy i=>PJ.go (vW l (⟨#[59]⟩:UW) i) (λ_ i=> .ok (.mk 2 x.s (x.l.take 1++[y]) [] []) i) (λ_=> .mk 2 x.s (x.l.take 1++[y]) [] [])) (λy=> .mk 2 x.s (x.l.take 1++[y]) [] [])
   else if x.op=7 then PJ.go (vW l (⟨#[59]⟩:UW) i) (λ_ i=> .ok (.mk 6 (⟨#[]⟩:UW) [x] [] []) i) (λ_=> .mk 6 (⟨#[]⟩:UW) [x] [] [])
   else .no (.mk 6 (⟨#[]⟩:UW) [x] [] []) i) (λx=> .mk 6 (⟨#[]⟩:UW) [x] [] [])
end
def locsJ:Nat->Nat->List Fld->PJ (List Fld)
 |0,_,_=>none
 |f+1,i,acc=>if isA l i (⟨#[108,111,99,97,108]⟩:UW)=true then PJ.go (x7 l (i+1)) (λx i=>PJ.go (vW l (⟨#[59]⟩:UW) i) (λ_ i=>locsJ f i (acc++[x])) (λ_=>acc++[x])) (λx=>acc++[x])else .ok acc i
def zlS(f i:Nat):PJ Pr:=PJ.go (nameJ l i) (λn i=>PJ.go (vW l (⟨#[40]⟩:UW) i) (λ_ i=>PJ.go (listJ l ⟨(⟨#[]⟩:UW),(⟨#[]⟩:UW)⟩ (⟨#[44]⟩:UW) (⟨#[41]⟩:UW) (x7 l) f i []) (λps i=>
 PJ.go (if isA l i ⟨#[123]⟩=true then PJ.ok (⟨#[]⟩:UW) i else zg2 l i) (λr i=>PJ.go (vW l ⟨#[123]⟩ i) (λ_ i=>PJ.go (locsJ l f i []) (λls i=>
 PJ.go (stmtsJ l f i []) (λb i=> .ok ⟨n,ps,r,ls,b⟩ i) (λb=>⟨n,ps,r,ls,b⟩)) (λls=>⟨n,ps,r,ls,[]⟩)) (λ_=>⟨n,ps,r,[],[]⟩)) (λr=>⟨n,ps,r,[],[]⟩)) (λps=>⟨n,ps,(⟨#[]⟩:UW),[],[]⟩)) (λ_=>⟨n,[],(⟨#[]⟩:UW),[],[]⟩)) (λn=>⟨n,[],(⟨#[]⟩:UW),[],[]⟩)
def wh(f i:Nat):PJ Ex:=PJ.go (vW l (⟨#[61]⟩:UW) i) (λ_ i=>exprJ l f 0 i) (λ_=>E0)
def zaP(f i:Nat):PJ Ms:=PJ.go (nameJ l i) (λn i=>PJ.go (vW l (⟨#[40]⟩:UW) i) (λ_ i=>PJ.go (nameJ l i) (λt i=>PJ.go (vW l (⟨#[41]⟩:UW) i) (λ_ i=>PJ.go (vW l (⟨#[110,105,108]⟩:UW) i) (λ_ i=>
 PJ.go (zlR l (if isA l i (⟨#[45]⟩:UW)=true then i+1 else i)) (λz i'=>PJ.go (wh l f i') (λx j=> .ok ⟨n,t,if isA l i (⟨#[45]⟩:UW)=true then -z else z,x⟩ j) (λx=>⟨n,t,if isA l i (⟨#[45]⟩:UW)=true then -z else z,x⟩)) (λ_=>⟨n,t,0,E0⟩))
 (λ_=>⟨n,t,0,E0⟩)) (λ_=>⟨n,t,0,E0⟩)) (λt=>⟨n,t,0,E0⟩)) (λ_=>⟨n,(⟨#[]⟩:UW),0,E0⟩)) (λn=>⟨n,(⟨#[]⟩:UW),0,E0⟩)
def zdk(f i:Nat)(d:xo):PJ xo:=
 if isA l i (⟨#[116,121,112,101]⟩:UW)=true then PJ.go (nameJ l (i+1)) (λn i=>PJ.go (vW l ⟨#[123]⟩ i) (λ_ i=>PJ.go (listJ l ⟨(⟨#[]⟩:UW),(⟨#[]⟩:UW)⟩ (⟨#[59]⟩:UW) ⟨#[125]⟩ (x7 l) f i []) (λfs i=> .ok { d with types:=d.types++[⟨n,fs⟩] } i) (λfs=>{ d with types:=d.types++[⟨n,fs⟩] }))
  (λ_=>{ d with types:=d.types++[⟨n,[]⟩] })) (λn=>{ d with types:=d.types++[⟨n,[]⟩] })
 else if isA l i (⟨#[118,97,114]⟩:UW)=true then PJ.go (x7 l (i+1)) (λx i=> .ok { d with globals:=d.globals++[x] } i) (λx=>{ d with globals:=d.globals++[x] })
 else if isA l i (⟨#[112,114,111,99]⟩:UW)=true then PJ.go (zlS l f (i+1)) (λp i=> .ok { d with procs:=d.procs++[p] } i) (λp=>{ d with procs:=d.procs++[p] })
 else if isA l i (⟨#[109,101,97,115,117,114,101]⟩:UW)=true then PJ.go (zaP l f (i+1)) (λm i=> .ok { d with measures:=d.measures++[m] } i) (λm=>{ d with measures:=d.measures++[m] })
 else if isA l i (⟨#[105,110,118,97,114,105,97,110,116]⟩:UW)=true then PJ.go (nameJ l (i+1)) (λn i=>
  PJ.go (if isA l i (⟨#[40]⟩:UW)=true then PJ.go (nameJ l (i+1)) (λt i=>PJ.go (vW l (⟨#[41]⟩:UW) i) (λ_ i=> .ok t i) (λ_=>t)) (λt=>t)else PJ.ok (⟨#[]⟩:UW) i) (λt i=>PJ.go (wh l f i) (λx i=> .ok { d with invs:=d.invs++[⟨n,t,x⟩] } i) (λx=>{ d with invs:=d.invs++[⟨n,t,x⟩] }))
   (λt=>{ d with invs:=d.invs++[⟨n,t,E0⟩] })) (λn=>{ d with invs:=d.invs++[⟨n,(⟨#[]⟩:UW),E0⟩] })
 else if isA l i (⟨#[112,111,116,101,110,116,105,97,108]⟩:UW)=true then PJ.go (if isA l (i+1) (⟨#[61]⟩:UW)=true then PJ.ok (⟨#[]⟩:UW) (i+1)else nameJ l (i+1)) (λt i=>PJ.go (wh l f i) (λx i=> .ok { d with pots:=d.pots++[⟨t,x⟩] } i) (λx=>{ d with pots:=d.pots++[⟨t,x⟩] })) (λt=>{ d with pots:=d.pots++[⟨t,E0⟩] })
 else if isA l i (⟨#[98,111,117,110,100]⟩:UW)=true then PJ.go (nameJ l (i+1)) (λn i=>PJ.go (wh l f i) (λx i=> .ok { d with bounds:=d.bounds++[⟨n,x⟩] } i) (λx=>{ d with bounds:=d.bounds++[⟨n,x⟩] })) (λn=>{ d with bounds:=d.bounds++[⟨n,E0⟩] })
 else .no d i
def itemsJ(f:Nat):Nat->Nat->xo->PJ xo
 |0,_,_=>none
 |g+1,i,d=>if isA l i ⟨#[125]⟩=true then .ok d (i+1)else PJ.go (zdk l f i d) (λd i=>itemsJ f g i d) (λd=>d)
def zoU(f:Nat):PJ xo:=PJ.go (vW l (⟨#[100,101,115,99]⟩:UW) 0) (λ_ i=>PJ.go (nameJ l i) (λn i=>PJ.go (vW l ⟨#[123]⟩ i) (λ_ i=>itemsJ l f f i ⟨n,[],[],[],[],[],[],[]⟩) (λ_=>⟨n,[],[],[],[],[],[],[]⟩)) (λn=>⟨n,[],[],[],[],[],[],[]⟩)) (λ_=>⟨(⟨#[]⟩:UW),[],[],[],[],[],[],[]⟩)
variable {l}
theorem jn(s:Str)(i:Nat):PJ.er (vW l s i)=x6 l s i:=by unfold vW x6;split<;>rfl
theorem jC(i:Nat):PJ.er (nameJ l i)=xF l i:=by
 unfold nameJ xF;cases l[i]? with
 |none=>rfl
 |some t=>simp only[wI,jt,zlQ]
theorem ztI(i:Nat):PJ.er (zlR l i)=zoq l i:=by
 unfold zlR zoq;cases l[i]? with
 |none=>rfl
 |some t=>simp only[wI,jt,zlQ]
theorem zqE(i:Nat):PJ.er (zg2 l i)=zlO l i:=by unfold zg2 zlO;simp only[wI,jt,jC]
theorem zaQ(i:Nat):PJ.er (x7 l i)=yH l i:=by unfold x7 yH;simp only[vV,jC,zqE,jt]
theorem zlT{α:Type}(z:α)(sep fin:Str)(one:Nat->PJ α): ∀(f i:Nat) (acc:List α),PJ.er (listJ l z sep fin one f i acc)=listA l sep fin (λi=>PJ.er (one i)) f i acc
 |0,_,_=>rfl
 |f+1,i,acc=>by
  simp only[listJ,listA,wI,vV,jt,jn]
  congr 1;congr 1;funext _ i;congr 1;funext x i
  exact zlT z sep fin one f i _
theorem jD: ∀f:Nat,(∀n i,PJ.er (exprJ l f n i)=exprA l f n i)/\(∀n x i,PJ.er (moreJ l f n x i)=moreA l f n x i)/\(∀i,PJ.er (postJ l f i)=postA l f i)/\(∀x i,PJ.er (dotsJ l f x i)=dotsA l f x i)/\
 (∀i a,PJ.er (argsJ l f i a)=argsP l f i a)/\(∀k i a,PJ.er (partsJ l f k i a)=partsA l f k i a)/\(∀i,PJ.er (primJ l f i)=primA l f i):=by
 intro f
 induction f with
 |zero=>exact⟨λ_ _=>by simp only[exprJ,exprA];rfl,λ_ _ _=>by simp only[moreJ,moreA];rfl,λ_=>by simp only[postJ,postA];rfl,λ_ _=>by simp only[dotsJ,dotsA];rfl,λ_ _=>by simp only[argsJ,argsP];rfl,λ_ _ _=>by simp only[partsJ,partsA];rfl,λ_=>by simp only[primJ,primA];rfl⟩
 |succ f ih=>
  obtain⟨h1,h2,h3,h4,h5,h6,h7⟩:=ih
  refine⟨λn i=>?_,λn x i=>?_,λi=>?_,λx i=>?_,λi a=>?_,λk i a=>?_,λi=>?_⟩
  ·simp only[exprJ,exprA,wI,vV,jt,h1,h2,h3]
  ·simp only[moreJ,moreA]
   cases opA l i n with
   |none=>rfl
   |some op=>simp only[wI,vV,jt,h1,h2]
  ·simp only[postJ,postA,vV,h7,h4]
  ·simp only[dotsJ,dotsA,wI,vV,jt,jC,h4]
  ·simp only[argsJ,argsP,wI,vV,jt,jn,h1,h5]
  ·simp only[partsJ,partsA,wI,vV,jt,jn,h1,h6]
  ·simp only[primJ,primA]
   cases l[i]? with
   |none=>rfl
   |some t=>simp only[wI,vV,jt,zlQ,jn,jC,h1,h5,h6]
theorem zem: ∀f:Nat,(∀i a,PJ.er (stmtsJ l f i a)=stmtsA l f i a)/\(∀i,PJ.er (vB l f i)=xu l f i)/\(∀i,PJ.er (zbO l f i)=wZ l f i):=by
 intro f
 induction f with
 |zero=>exact⟨λ_ _=>by simp only[stmtsJ,stmtsA];rfl,λ_=>by simp only[vB,xu];rfl,λ_=>by simp only[zbO,wZ];rfl⟩
 |succ f ih=>
  obtain⟨h1,h2,h3⟩:=ih
  have hE:=(jD (l:=l) f).1
  have hP:=(jD (l:=l) f).2.2.1
  refine⟨λi a=>?_,λi=>?_,λi=>?_⟩
  ·simp only[stmtsJ,stmtsA,wI,vV,jt,h1,h3]
  ·simp only[vB,xu,vV,jn,h1]
  ·simp only[zbO,wZ,wI,vV,jt,zlQ,jn,hE,hP,h2]
theorem zlU: ∀(f i:Nat) (acc:List Fld),PJ.er (locsJ l f i acc)=locsA l f i acc
 |0,_,_=>rfl
 |f+1,i,acc=>by simp only[locsJ,locsA,wI,vV,jt,jn,zaQ,zlU f]
theorem zen(sep fin:Str)(f i:Nat)(acc:List Fld):PJ.er (listJ l ⟨(⟨#[]⟩:UW),(⟨#[]⟩:UW)⟩ sep fin (x7 l) f i acc)=listA l sep fin (yH l) f i acc:=by
 rw[zlT];congr 1;funext i;exact zaQ i
theorem zdv(f i:Nat):PJ.er (wh l f i)=xh l f i:=by simp only[wh,xh,vV,jn,(jD f).1]
theorem zrG(f i:Nat):PJ.er (zlS l f i)=zdj l f i:=by
 simp only[zlS,zdj,vV,wI,jt,jn,jC,zqE,zen,zlU,(zem f).1]
theorem zjS(f i:Nat):PJ.er (zaP l f i)=wN l f i:=by
 simp only[zaP,wN,vV,jt,jn,jC,ztI,zdv]
theorem zg3(f i:Nat)(d:xo):PJ.er (zdk l f i d)=jr l f i d:=by
 simp only[zdk,jr,vV,wI,jt,zlQ,jn,jC,zaQ,zen,zdv,zrG,zjS]
theorem ziw(f:Nat): ∀(g i:Nat) (d:xo),PJ.er (itemsJ l f g i d)=itemsA l f g i d
 |0,_,_=>rfl
 |g+1,i,d=>by simp only[itemsJ,itemsA,wI,jt,vV,zg3,ziw f g]
theorem zrH(f:Nat):PJ.er (zoU l f)=zbg l f:=by simp only[zoU,zbg,vV,jn,jC,ziw]
end
def idxR{α σ:Type}(p:α->σ->Bool)(nx:α->σ->σ):List α->Nat->σ->Int×σ
 | [],_,s=>(-1,s)
 |x::r,k,s=>if p x s=true then((k:Int),nx x s)else idxR p nx r (k+1) (nx x s)
def anyR{α σ:Type}(p:α->σ->Bool)(nx:α->σ->σ):List α->σ->Bool×σ
 | [],s=>(false,s)
 |x::r,s=>if p x s=true then(true,nx x s)else anyR p nx r (nx x s)
theorem zav{α σ:Type}(p:α->σ->Bool)(nx:α->σ->σ): ∀(l:List α) (k:Nat) (s:σ),∃i s',idxR p nx l k s=(i,s')/\anyR p nx l s=(decide (0<=i),s')
 | [],k,s=>⟨-1,s,rfl,rfl⟩
 |x::r,k,s=>by
  simp only[idxR,anyR]
  by_cases h:p x s=true
  ·exact⟨k,nx x s,uv h,by rw[uv h,uK ua]⟩
  ·rw[ur h,ur h];exact zav p nx r (k+1) (nx x s)
theorem zaR{σ:Type}(p:α->σ->Bool)(nx:α->σ->σ)(l:List α)(k:Nat)(s:σ):decide (0<=(idxR p nx l k s).1)=(anyR p nx l s).1:=by
 obtain⟨i,s',h1,h2⟩:=zav p nx l k s
 simp only[h1,h2]
theorem zaS{σ:Type}(p:α->σ->Bool)(nx:α->σ->σ)(l:List α)(k:Nat)(s:σ):(idxR p nx l k s).2=(anyR p nx l s).2:=by
 obtain⟨i,s',h1,h2⟩:=zav p nx l k s
 simp only[h1,h2]
theorem vX{α:Type}(p:α->Bool): ∀(l:List α) (s:Unit),(anyR (λx _=>p x) (λ_ s=>s) l s).1=l.any p
 | [],_=>rfl
 |x::r,s=>by
  simp only[anyR,qU]
  cases h:p x with
  |true=>rfl
  |false=>simp only[uU,tO,oG];exact vX p r s
theorem zlV(f:FuncId)(dp:Int)(l:List Ex)(p:Ex->Int->Bool)(nx:Ex->Int->Int)(inv:Int->Prop)
 (hf: ∀x∈l,∀s:Int,inv s->zk Tryz.prog f [zm (yG x),.one (.bx 1 0),.one (.bx 2 0)] [(0,.box [.p (ki s)]),(1,.box [.p (ki dp)]),(2,.box [.bx 0 0])] (.bq (p x s)) ((λs:Int=>[(0,.box [.p (ki s)]),(1,.box [.p (ki dp)]),(2,.box [.bx 0 0])]) (nx x s))/\(p x s=false->inv (nx x s))) (s:Int) (hs:inv s):
 zk Tryz.prog 304 [pS (.sl 4 (l.map zG)),.one (.cl f [] [.bx 1 0,.bx 2 0])] [(0,.box [.p (ki s)]),(1,.box [.p (ki dp)]),(2,.box [.bx 0 0])] (I (idxR p nx l 0 s).1) ((λs:Int=>[(0,.box [.p (ki s)]),(1,.box [.p (ki dp)]),(2,.box [.bx 0 0])]) (idxR p nx l 0 s).2):=by
 refine gO T Tryz.func304 λC hC=>?_
 have hs0:=hs
 refine jq 0 rfl λhl=>?_
 rw[uj]at hl
 repeat' first|refine gG ?_|refine gB ?_ ?_<;>intro h
 rw[uj]
 refine zn (λq:Nat×Int=>q.1<=l.length/\inv q.2/\idxR p nx (l.drop q.1) q.1 q.2=idxR p nx l 0 s) (λq=>(λs:Int=>([(0,pS (.sl 4 (l.map zG))),(1,.one (.cl f [] [.bx 1 0,.bx 2 0])),(7,I l.length),(8,I q.1)],[(0,some (.box [.p (ki s)])),(1,some (.box [.p (ki dp)])),(2,some (.box [.bx 0 0]))])) q.2) (λq=>l.length - q.1) hC
  (0,s) ⟨uA _,hs,rfl⟩ id gM ?_
 generalize idxR p nx l 0 s=res
 clear hs hs0
 rintro⟨i,s⟩ ⟨hi,hv,hn⟩
 simp only at hi hv hn
 refine zr T hC true 200 rfl ?_
 refine zu rfl ?_ ?_<;>intro hh
 ·have hlt:i<l.length:=by simpa using hh
  clear hh
  obtain⟨x,hx⟩:=ze hlt
  rw[drop_at hx]at hn
  simp only[idxR]at hn
  have hv2:=(hf x (List.mem_of_getElem? hx) s hv).2
  repeat' first|refine gG ?_|refine gB ?_ ?_<;>intro h|refine gI T (jy hx) ?_|refine zy hC (hf x (List.mem_of_getElem? hx) s hv).1 id rfl rfl (yr.refl _) rfl rfl rfl rfl rfl rfl rfl rfl ?_|refine zx ?_
  ·rw[uv uf]at hn
   subst hn
   exact gE
  ·have hpf:p x s=false:=by assumption
   rw[hpf]at hn
   simp only[uU,tO]at hn
   rw[wrap64 ua]
   exact zf (i+1,nx x s) ⟨by simp only;omega,hv2 hpf,hn⟩ id (by simp only;omega) gM
 ·have hge: ¬i<l.length:=by simpa using hh
  rw[tf ua]at hn
  simp only[idxR]at hn
  subst hn
  repeat' first|refine gG ?_|refine gB ?_ ?_<;>intro h|refine zj ?_
  exact gE
theorem zlW(f:FuncId)(dp:Int)(l:List Ex)(p:Ex->Int->Bool)(nx:Ex->Int->Int)(inv:Int->Prop)
 (hf: ∀x∈l,∀s:Int,inv s->zk Tryz.prog f [zm (yG x),.one (.bx 1 0),.one (.bx 2 0)] [(0,.box [.p (ki s)]),(1,.box [.p (ki dp)]),(2,.box [.bx 0 0])] (.bq (p x s)) ((λs:Int=>[(0,.box [.p (ki s)]),(1,.box [.p (ki dp)]),(2,.box [.bx 0 0])]) (nx x s))/\(p x s=false->inv (nx x s))) (s:Int) (hs:inv s):
 zk Tryz.prog 277 [pS (.sl 4 (l.map zG)),.one (.cl f [] [.bx 1 0,.bx 2 0])] [(0,.box [.p (ki s)]),(1,.box [.p (ki dp)]),(2,.box [.bx 0 0])] (.bq (anyR p nx l s).1) ((λs:Int=>[(0,.box [.p (ki s)]),(1,.box [.p (ki dp)]),(2,.box [.bx 0 0])]) (anyR p nx l s).2):=by
 refine gO T Tryz.func277 λC hC=>?_
 repeat' first|refine gG ?_|refine gB ?_ ?_<;>intro h|refine gR (zlV f dp l p nx inv hf s hs) (nm [0,1,2]) ?_
 exact zt ⟨.inl rfl,id,_,rfl,.qq (zaR p nx l 0 s),by rw[<-zaS p nx l 0 s];exact⟨rfl,rfl,rfl,uh⟩,rfl,rfl⟩
theorem zlX(f:FuncId)(l:List Ex)(p:Ex->Unit->Bool)(nx:Ex->Unit->Unit)(inv:Unit->Prop)
 (hf: ∀x∈l,∀s:Unit,inv s->zk Tryz.prog f [zm (yG x)] [] (.bq (p x s)) ((λs:Unit=>[]) (nx x s))/\(p x s=false->inv (nx x s))) (s:Unit) (hs:inv s):
 zk Tryz.prog 304 [pS (.sl 4 (l.map zG)),.one (.cl f [] [])] [] (I (idxR p nx l 0 s).1) ((λs:Unit=>[]) (idxR p nx l 0 s).2):=by
 refine gO T Tryz.func304 λC hC=>?_
 have hs0:=hs
 refine jq 0 rfl λhl=>?_
 rw[uj]at hl
 repeat' first|refine gG ?_|refine gB ?_ ?_<;>intro h
 rw[uj]
 refine zn (λq:Nat×Unit=>q.1<=l.length/\inv q.2/\idxR p nx (l.drop q.1) q.1 q.2=idxR p nx l 0 s) (λq=>(λs:Unit=>([(0,pS (.sl 4 (l.map zG))),(1,.one (.cl f [] [])),(7,I l.length),(8,I q.1)],[])) q.2) (λq=>l.length - q.1) hC
  (0,s) ⟨uA _,hs,rfl⟩ id gM ?_
 generalize idxR p nx l 0 s=res
 clear hs hs0
 rintro⟨i,s⟩ ⟨hi,hv,hn⟩
 simp only at hi hv hn
 refine zr T hC true 200 rfl ?_
 refine zu rfl ?_ ?_<;>intro hh
 ·have hlt:i<l.length:=by simpa using hh
  clear hh
  obtain⟨x,hx⟩:=ze hlt
  rw[drop_at hx]at hn
  simp only[idxR]at hn
  have hv2:=(hf x (List.mem_of_getElem? hx) s hv).2
  repeat' first|refine gG ?_|refine gB ?_ ?_<;>intro h|refine gI T (jy hx) ?_|refine zy hC (hf x (List.mem_of_getElem? hx) s hv).1 id rfl rfl (yr.refl _) rfl rfl rfl rfl rfl rfl rfl rfl ?_|refine zx ?_
  ·rw[uv uf]at hn
   subst hn
   exact gF
  ·have hpf:p x s=false:=by assumption
   rw[hpf]at hn
   simp only[uU,tO]at hn
   rw[wrap64 ua]
   exact zf (i+1,nx x s) ⟨by simp only;omega,hv2 hpf,hn⟩ id (by simp only;omega) gM
 ·have hge: ¬i<l.length:=by simpa using hh
  rw[tf ua]at hn
  simp only[idxR]at hn
  subst hn
  repeat' first|refine gG ?_|refine gB ?_ ?_<;>intro h|refine zj ?_
  exact gF
theorem zlY(f:FuncId)(l:List Ex)(p:Ex->Unit->Bool)(nx:Ex->Unit->Unit)(inv:Unit->Prop)
 (hf: ∀x∈l,∀s:Unit,inv s->zk Tryz.prog f [zm (yG x)] [] (.bq (p x s)) ((λs:Unit=>[]) (nx x s))/\(p x s=false->inv (nx x s))) (s:Unit) (hs:inv s):
 zk Tryz.prog 277 [pS (.sl 4 (l.map zG)),.one (.cl f [] [])] [] (.bq (anyR p nx l s).1) ((λs:Unit=>[]) (anyR p nx l s).2):=by
 refine gO T Tryz.func277 λC hC=>?_
 repeat' first|refine gG ?_|refine gB ?_ ?_<;>intro h|refine gR (zlX f l p nx inv hf s hs) (nm []) ?_
 exact zt ⟨.inl rfl,id,_,rfl,.qq (zaR p nx l 0 s),by rw[<-zaS p nx l 0 s];exact uh,rfl,rfl⟩
theorem zlZ(f:FuncId)(l:List Ex)(p:Ex->Bool)(hf: ∀x∈l,zk Tryz.prog f [zm (yG x)] [] (.bq (p x)) []):zk Tryz.prog 277 [pS (.sl 4 (l.map zG)),.one (.cl f [] [])] [] (.bq (l.any p)) []:=by
 have:=zlY f l (λx _=>p x) (λ_ s=>s) (λ_=>True) (λx hx s _=>⟨hf x hx,λ_=>trivial⟩) () trivial
 rw[vX]at this
 exact this
theorem zjT(f:FuncId)(l:List Fld)(p:Fld->Unit->Bool)(nx:Fld->Unit->Unit)(inv:Unit->Prop)
 (hf: ∀x∈l,∀s:Unit,inv s->zk Tryz.prog f [zm (zM x)] [] (.bq (p x s)) ((λs:Unit=>[]) (nx x s))/\(p x s=false->inv (nx x s))) (s:Unit) (hs:inv s):
 zk Tryz.prog 272 [pS (.sl 2 (l.map zM)),.one (.cl f [] [])] [] (I (idxR p nx l 0 s).1) ((λs:Unit=>[]) (idxR p nx l 0 s).2):=by
 refine gO T Tryz.func272 λC hC=>?_
 have hs0:=hs
 refine jq 0 rfl λhl=>?_
 rw[uj]at hl
 repeat' first|refine gG ?_|refine gB ?_ ?_<;>intro h
 rw[uj]
 refine zn (λq:Nat×Unit=>q.1<=l.length/\inv q.2/\idxR p nx (l.drop q.1) q.1 q.2=idxR p nx l 0 s) (λq=>(λs:Unit=>([(0,pS (.sl 2 (l.map zM))),(1,.one (.cl f [] [])),(7,I l.length),(8,I q.1)],[])) q.2) (λq=>l.length - q.1) hC
  (0,s) ⟨uA _,hs,rfl⟩ id gM ?_
 generalize idxR p nx l 0 s=res
 clear hs hs0
 rintro⟨i,s⟩ ⟨hi,hv,hn⟩
 simp only at hi hv hn
 refine zr T hC true 200 rfl ?_
 refine zu rfl ?_ ?_<;>intro hh
 ·have hlt:i<l.length:=by simpa using hh
  clear hh
  obtain⟨x,hx⟩:=ze hlt
  rw[drop_at hx]at hn
  simp only[idxR]at hn
  have hv2:=(hf x (List.mem_of_getElem? hx) s hv).2
  repeat' first|refine gG ?_|refine gB ?_ ?_<;>intro h|refine gI T (zg hx) ?_|refine zy hC (hf x (List.mem_of_getElem? hx) s hv).1 id rfl rfl (yr.refl _) rfl rfl rfl rfl rfl rfl rfl rfl ?_|refine zx ?_
  ·rw[uv uf]at hn
   subst hn
   exact gF
  ·have hpf:p x s=false:=by assumption
   rw[hpf]at hn
   simp only[uU,tO]at hn
   rw[wrap64 ua]
   exact zf (i+1,nx x s) ⟨by simp only;omega,hv2 hpf,hn⟩ id (by simp only;omega) gM
 ·have hge: ¬i<l.length:=by simpa using hh
  rw[tf ua]at hn
  simp only[idxR]at hn
  subst hn
  repeat' first|refine gG ?_|refine gB ?_ ?_<;>intro h|refine zj ?_
  exact gF
theorem zjU(f:FuncId)(l:List Fld)(p:Fld->Unit->Bool)(nx:Fld->Unit->Unit)(inv:Unit->Prop)
 (hf: ∀x∈l,∀s:Unit,inv s->zk Tryz.prog f [zm (zM x)] [] (.bq (p x s)) ((λs:Unit=>[]) (nx x s))/\(p x s=false->inv (nx x s))) (s:Unit) (hs:inv s):
 zk Tryz.prog 229 [pS (.sl 2 (l.map zM)),.one (.cl f [] [])] [] (.bq (anyR p nx l s).1) ((λs:Unit=>[]) (anyR p nx l s).2):=by
 refine gO T Tryz.func229 λC hC=>?_
 repeat' first|refine gG ?_|refine gB ?_ ?_<;>intro h|refine gR (zjT f l p nx inv hf s hs) (nm []) ?_
 exact zt ⟨.inl rfl,id,_,rfl,.qq (zaR p nx l 0 s),by rw[<-zaS p nx l 0 s];exact uh,rfl,rfl⟩
theorem zjV(f:FuncId)(l:List Fld)(p:Fld->Bool)(hf: ∀x∈l,zk Tryz.prog f [zm (zM x)] [] (.bq (p x)) []):zk Tryz.prog 229 [pS (.sl 2 (l.map zM)),.one (.cl f [] [])] [] (.bq (l.any p)) []:=by
 have:=zjU f l (λx _=>p x) (λ_ s=>s) (λ_=>True) (λx hx s _=>⟨hf x hx,λ_=>trivial⟩) () trivial
 rw[vX]at this
 exact this
theorem zjW(f:FuncId)(l:List Bd)(p:Bd->Unit->Bool)(nx:Bd->Unit->Unit)(inv:Unit->Prop)
 (hf: ∀x∈l,∀s:Unit,inv s->zk Tryz.prog f [zm (x8 x)] [] (.bq (p x s)) ((λs:Unit=>[]) (nx x s))/\(p x s=false->inv (nx x s))) (s:Unit) (hs:inv s):
 zk Tryz.prog 274 [pS (.sl 5 (l.map x8)),.one (.cl f [] [])] [] (I (idxR p nx l 0 s).1) ((λs:Unit=>[]) (idxR p nx l 0 s).2):=by
 refine gO T Tryz.func274 λC hC=>?_
 have hs0:=hs
 refine jq 0 rfl λhl=>?_
 rw[uj]at hl
 repeat' first|refine gG ?_|refine gB ?_ ?_<;>intro h
 rw[uj]
 refine zn (λq:Nat×Unit=>q.1<=l.length/\inv q.2/\idxR p nx (l.drop q.1) q.1 q.2=idxR p nx l 0 s) (λq=>(λs:Unit=>([(0,pS (.sl 5 (l.map x8))),(1,.one (.cl f [] [])),(7,I l.length),(8,I q.1)],[])) q.2) (λq=>l.length - q.1) hC
  (0,s) ⟨uA _,hs,rfl⟩ id gM ?_
 generalize idxR p nx l 0 s=res
 clear hs hs0
 rintro⟨i,s⟩ ⟨hi,hv,hn⟩
 simp only at hi hv hn
 refine zr T hC true 200 rfl ?_
 refine zu rfl ?_ ?_<;>intro hh
 ·have hlt:i<l.length:=by simpa using hh
  clear hh
  obtain⟨x,hx⟩:=ze hlt
  rw[drop_at hx]at hn
  simp only[idxR]at hn
  have hv2:=(hf x (List.mem_of_getElem? hx) s hv).2
  repeat' first|refine gG ?_|refine gB ?_ ?_<;>intro h|refine gI T (zg hx) ?_|refine zy hC (hf x (List.mem_of_getElem? hx) s hv).1 id rfl rfl (yr.refl _) rfl rfl rfl rfl rfl rfl rfl rfl ?_|refine zx ?_
  ·rw[uv uf]at hn
   subst hn
   exact gF
  ·have hpf:p x s=false:=by assumption
   rw[hpf]at hn
   simp only[uU,tO]at hn
   rw[wrap64 ua]
   exact zf (i+1,nx x s) ⟨by simp only;omega,hv2 hpf,hn⟩ id (by simp only;omega) gM
 ·have hge: ¬i<l.length:=by simpa using hh
  rw[tf ua]at hn
  simp only[idxR]at hn
  subst hn
  repeat' first|refine gG ?_|refine gB ?_ ?_<;>intro h|refine zj ?_
  exact gF
theorem zjX(f:FuncId)(l:List Bd)(p:Bd->Unit->Bool)(nx:Bd->Unit->Unit)(inv:Unit->Prop)
 (hf: ∀x∈l,∀s:Unit,inv s->zk Tryz.prog f [zm (x8 x)] [] (.bq (p x s)) ((λs:Unit=>[]) (nx x s))/\(p x s=false->inv (nx x s))) (s:Unit) (hs:inv s):
 zk Tryz.prog 234 [pS (.sl 5 (l.map x8)),.one (.cl f [] [])] [] (.bq (anyR p nx l s).1) ((λs:Unit=>[]) (anyR p nx l s).2):=by
 refine gO T Tryz.func234 λC hC=>?_
 repeat' first|refine gG ?_|refine gB ?_ ?_<;>intro h|refine gR (zjW f l p nx inv hf s hs) (nm []) ?_
 exact zt ⟨.inl rfl,id,_,rfl,.qq (zaR p nx l 0 s),by rw[<-zaS p nx l 0 s];exact uh,rfl,rfl⟩
theorem zjY(f:FuncId)(l:List Bd)(p:Bd->Bool)(hf: ∀x∈l,zk Tryz.prog f [zm (x8 x)] [] (.bq (p x)) []):zk Tryz.prog 234 [pS (.sl 5 (l.map x8)),.one (.cl f [] [])] [] (.bq (l.any p)) []:=by
 have:=zjX f l (λx _=>p x) (λ_ s=>s) (λ_=>True) (λx hx s _=>⟨hf x hx,λ_=>trivial⟩) () trivial
 rw[vX]at this
 exact this
theorem zl0(f:FuncId)(l:List zaa)(p:zaa->Unit->Bool)(nx:zaa->Unit->Unit)(inv:Unit->Prop)
 (hf: ∀x∈l,∀s:Unit,inv s->zk Tryz.prog f [zm (yz x)] [] (.bq (p x s)) ((λs:Unit=>[]) (nx x s))/\(p x s=false->inv (nx x s))) (s:Unit) (hs:inv s):
 zk Tryz.prog 236 [pS (.sl 2 (l.map yz)),.one (.cl f [] [])] [] (I (idxR p nx l 0 s).1) ((λs:Unit=>[]) (idxR p nx l 0 s).2):=by
 refine gO T Tryz.func236 λC hC=>?_
 have hs0:=hs
 refine jq 0 rfl λhl=>?_
 rw[uj]at hl
 repeat' first|refine gG ?_|refine gB ?_ ?_<;>intro h
 rw[uj]
 refine zn (λq:Nat×Unit=>q.1<=l.length/\inv q.2/\idxR p nx (l.drop q.1) q.1 q.2=idxR p nx l 0 s) (λq=>(λs:Unit=>([(0,pS (.sl 2 (l.map yz))),(1,.one (.cl f [] [])),(7,I l.length),(8,I q.1)],[])) q.2) (λq=>l.length - q.1) hC
  (0,s) ⟨uA _,hs,rfl⟩ id gM ?_
 generalize idxR p nx l 0 s=res
 clear hs hs0
 rintro⟨i,s⟩ ⟨hi,hv,hn⟩
 simp only at hi hv hn
 refine zr T hC true 200 rfl ?_
 refine zu rfl ?_ ?_<;>intro hh
 ·have hlt:i<l.length:=by simpa using hh
  clear hh
  obtain⟨x,hx⟩:=ze hlt
  rw[drop_at hx]at hn
  simp only[idxR]at hn
  have hv2:=(hf x (List.mem_of_getElem? hx) s hv).2
  repeat' first|refine gG ?_|refine gB ?_ ?_<;>intro h|refine gI T (zg hx) ?_|refine zy hC (hf x (List.mem_of_getElem? hx) s hv).1 id rfl rfl (yr.refl _) rfl rfl rfl rfl rfl rfl rfl rfl ?_|refine zx ?_
  ·rw[uv uf]at hn
   subst hn
   exact gF
  ·have hpf:p x s=false:=by assumption
   rw[hpf]at hn
   simp only[uU,tO]at hn
   rw[wrap64 ua]
   exact zf (i+1,nx x s) ⟨by simp only;omega,hv2 hpf,hn⟩ id (by simp only;omega) gM
 ·have hge: ¬i<l.length:=by simpa using hh
  rw[tf ua]at hn
  simp only[idxR]at hn
  subst hn
  repeat' first|refine gG ?_|refine gB ?_ ?_<;>intro h|refine zj ?_
  exact gF
theorem zl1(f:FuncId)(l:List zaa)(p:zaa->Unit->Bool)(nx:zaa->Unit->Unit)(inv:Unit->Prop)
 (hf: ∀x∈l,∀s:Unit,inv s->zk Tryz.prog f [zm (yz x)] [] (.bq (p x s)) ((λs:Unit=>[]) (nx x s))/\(p x s=false->inv (nx x s))) (s:Unit) (hs:inv s):
 zk Tryz.prog 183 [pS (.sl 2 (l.map yz)),.one (.cl f [] [])] [] (.bq (anyR p nx l s).1) ((λs:Unit=>[]) (anyR p nx l s).2):=by
 refine gO T Tryz.func183 λC hC=>?_
 repeat' first|refine gG ?_|refine gB ?_ ?_<;>intro h|refine gR (zl0 f l p nx inv hf s hs) (nm []) ?_
 exact zt ⟨.inl rfl,id,_,rfl,.qq (zaR p nx l 0 s),by rw[<-zaS p nx l 0 s];exact uh,rfl,rfl⟩
theorem zl2(f:FuncId)(l:List zaa)(p:zaa->Bool)(hf: ∀x∈l,zk Tryz.prog f [zm (yz x)] [] (.bq (p x)) []):zk Tryz.prog 183 [pS (.sl 2 (l.map yz)),.one (.cl f [] [])] [] (.bq (l.any p)) []:=by
 have:=zl1 f l (λx _=>p x) (λ_ s=>s) (λ_=>True) (λx hx s _=>⟨hf x hx,λ_=>trivial⟩) () trivial
 rw[vX]at this
 exact this
theorem zl3(f:FuncId)(l:List Pr)(p:Pr->Unit->Bool)(nx:Pr->Unit->Unit)(inv:Unit->Prop)
 (hf: ∀x∈l,∀s:Unit,inv s->zk Tryz.prog f [zm (xc x)] [] (.bq (p x s)) ((λs:Unit=>[]) (nx x s))/\(p x s=false->inv (nx x s))) (s:Unit) (hs:inv s):
 zk Tryz.prog 237 [pS (.sl 5 (l.map xc)),.one (.cl f [] [])] [] (I (idxR p nx l 0 s).1) ((λs:Unit=>[]) (idxR p nx l 0 s).2):=by
 refine gO T Tryz.func237 λC hC=>?_
 have hs0:=hs
 refine jq 0 rfl λhl=>?_
 rw[uj]at hl
 repeat' first|refine gG ?_|refine gB ?_ ?_<;>intro h
 rw[uj]
 refine zn (λq:Nat×Unit=>q.1<=l.length/\inv q.2/\idxR p nx (l.drop q.1) q.1 q.2=idxR p nx l 0 s) (λq=>(λs:Unit=>([(0,pS (.sl 5 (l.map xc))),(1,.one (.cl f [] [])),(7,I l.length),(8,I q.1)],[])) q.2) (λq=>l.length - q.1) hC
  (0,s) ⟨uA _,hs,rfl⟩ id gM ?_
 generalize idxR p nx l 0 s=res
 clear hs hs0
 rintro⟨i,s⟩ ⟨hi,hv,hn⟩
 simp only at hi hv hn
 refine zr T hC true 200 rfl ?_
 refine zu rfl ?_ ?_<;>intro hh
 ·have hlt:i<l.length:=by simpa using hh
  clear hh
  obtain⟨x,hx⟩:=ze hlt
  rw[drop_at hx]at hn
  simp only[idxR]at hn
  have hv2:=(hf x (List.mem_of_getElem? hx) s hv).2
  repeat' first|refine gG ?_|refine gB ?_ ?_<;>intro h|refine gI T (zg hx) ?_|refine zy hC (hf x (List.mem_of_getElem? hx) s hv).1 id rfl rfl (yr.refl _) rfl rfl rfl rfl rfl rfl rfl rfl ?_|refine zx ?_
  ·rw[uv uf]at hn
   subst hn
   exact gF
  ·have hpf:p x s=false:=by assumption
   rw[hpf]at hn
   simp only[uU,tO]at hn
   rw[wrap64 ua]
   exact zf (i+1,nx x s) ⟨by simp only;omega,hv2 hpf,hn⟩ id (by simp only;omega) gM
 ·have hge: ¬i<l.length:=by simpa using hh
  rw[tf ua]at hn
  simp only[idxR]at hn
  subst hn
  repeat' first|refine gG ?_|refine gB ?_ ?_<;>intro h|refine zj ?_
  exact gF
theorem zl4(f:FuncId)(l:List Pr)(p:Pr->Unit->Bool)(nx:Pr->Unit->Unit)(inv:Unit->Prop)
 (hf: ∀x∈l,∀s:Unit,inv s->zk Tryz.prog f [zm (xc x)] [] (.bq (p x s)) ((λs:Unit=>[]) (nx x s))/\(p x s=false->inv (nx x s))) (s:Unit) (hs:inv s):
 zk Tryz.prog 185 [pS (.sl 5 (l.map xc)),.one (.cl f [] [])] [] (.bq (anyR p nx l s).1) ((λs:Unit=>[]) (anyR p nx l s).2):=by
 refine gO T Tryz.func185 λC hC=>?_
 repeat' first|refine gG ?_|refine gB ?_ ?_<;>intro h|refine gR (zl3 f l p nx inv hf s hs) (nm []) ?_
 exact zt ⟨.inl rfl,id,_,rfl,.qq (zaR p nx l 0 s),by rw[<-zaS p nx l 0 s];exact uh,rfl,rfl⟩
theorem zl5(f:FuncId)(l:List Pr)(p:Pr->Bool)(hf: ∀x∈l,zk Tryz.prog f [zm (xc x)] [] (.bq (p x)) []):zk Tryz.prog 185 [pS (.sl 5 (l.map xc)),.one (.cl f [] [])] [] (.bq (l.any p)) []:=by
 have:=zl4 f l (λx _=>p x) (λ_ s=>s) (λ_=>True) (λx hx s _=>⟨hf x hx,λ_=>trivial⟩) () trivial
 rw[vX]at this
 exact this
theorem zl6(c:Int)(h: -1000000<=c)(h2:c<=1000000):zk Tryz.prog 275 [.one (.bx 0 0)] [(0,.box [.p (ki c)])] (.bq (decide (0<=c - 1))) [(0,.box [.p (ki (c - 1))])]:=by
 refine gO T Tryz.func275 λC hC=>?_
 repeat' first|refine gG ?_|refine gB ?_ ?_<;>intro h
 rw[wrap64 ua]
 exact zt ⟨.inl rfl,id,_,rfl,.qq rfl,⟨rfl,uh⟩,rfl,rfl⟩
def zaj(op:Int):Int:=if yn op= -2 then 2 else yn op
theorem zjZ{op:Int}(h1:9<=op)(h2:op<=23)(h3:op≠18)(h4:op≠21):yn op=2:=by
 unfold yn
 rw[ur ug,ur ug,ur ua,ur ua,uv ug]
theorem zdw{op:Int}(h1:op<1\/24<op):yn op= -2:=by
 unfold yn
 rw[ur ug,ur ug,ur ua,ur ua,ur ug]
theorem zg4(op:Int):zk Tryz.prog 301 [I op] [] (.tup [I (zaj op),.bq (!decide (yn op= -2))]) []:=by
 have key: ∀n b,(n=zaj op/\b= !decide (yn op= -2))->LeS (.tup [I n,Bo b]) (.tup [I (zaj op),.bq (!decide (yn op= -2))]):=λn b h=>by
  obtain⟨rfl,rfl⟩:=h;exact LeS.tup (.cons (.refl _) (.cons (LeS.qb rfl) .nil))
 have key2: ∀n b,(n=zaj op/\b= !decide (yn op= -2))->LeS (.tup [I n,.bq b]) (.tup [I (zaj op),.bq (!decide (yn op= -2))]):=λn b h=>by
  obtain⟨rfl,rfl⟩:=h;exact LeS.refl _
 refine gO T Tryz.func301 λC hC=>?_
 repeat' first|refine ztc T hC true 400 rfl rfl ?_|refine zg5 rfl (λh=>?_) (λh=>?_)|refine zoB T hC ud ?_|refine zbS (λh=>?_) (λh=>?_)|refine zbT rfl rfl rfl (λh=>?_) (λh=>?_)|refine zbU rfl rfl (λh=>?_) (λh=>?_)
 all_goals
  first
   |refine zt ⟨.inl rfl,id,_,rfl,key _ _ ?_,trivial,rfl,rfl⟩
   |refine zt ⟨.inl rfl,id,_,rfl,key2 _ _ ?_,trivial,rfl,rfl⟩
  clear key key2
  first
   |(obtain rfl:=uo h;exact⟨rfl,rfl⟩)
   |(simp only[ux,uX]at*
     by_cases h23:op<=23
     ·have e:=zjZ (op:=op) ua h23 ua ua
      exact⟨by rw[zaj,e];rfl,by rw[e];simp[h23]⟩
     ·have e:=zdw (op:=op) ua
      exact⟨by rw[zaj,e];rfl,by rw[e];simp[h23]⟩)
   |(simp only[ux,uX]at*
     have e:=zdw (op:=op) ua
     exact⟨by rw[zaj,e];rfl,by rw[e];rfl⟩)
def zg6(e:Ex):Bool:=if e.op=1 then decide (0<=e.n)&&decide (e.n<=1099511627776)else if e.op=2 then decide (e.n=0)||decide (e.n=1)else decide (e.n=0)
theorem zoV(e:Ex):zap e=(!decide (yn e.op= -2)&& !(decide (0<=yn e.op)&& !decide ((e.l.length:Int)=yn e.op))&& !(decide (yn e.op= -1)&&decide (6<(e.l.length:Int)))&&jl e&&zg6 e):=rfl
theorem zfe(e:Ex):zap e=(!decide (yn e.op= -2)&&(jl e&&zg6 e)&& !(decide (0<=yn e.op)&& !decide ((e.l.length:Int)=yn e.op))&& !(decide (yn e.op= -1)&&decide (6<(e.l.length:Int)))):=by
 rw[zoV]
 generalize decide (yn e.op= -2)=a
 generalize (decide (0<=yn e.op)&& !decide ((e.l.length:Int)=yn e.op))=b
 generalize (decide (yn e.op= -1)&&decide (6<(e.l.length:Int)))=c
 cases a<;>cases b<;>cases c<;>cases jl e<;>cases zg6 e<;>rfl
theorem zff(op:Int): -2<=yn op/\(yn op<0->yn op= -1\/yn op= -2):=by
 unfold yn
 repeat' split
 all_goals omega
theorem zg7(e:Ex):zk Tryz.prog 302 [zm (yG e)] [] (.bq (jl e&&zg6 e)) []:=by
 refine gO T Tryz.func302 λC hC=>?_
 repeat' first|refine ztc T hC true 400 rfl rfl ?_|refine zg5 rfl (λh=>?_) (λh=>?_)|refine zoB T hC ud ?_|refine zbS (λh=>?_) (λh=>?_)|refine zbT rfl rfl rfl (λh=>?_) (λh=>?_)|refine zbU rfl rfl (λh=>?_) (λh=>?_)|refine gC (yC _) ?_|refine zln T (.inl rfl) rfl ?_|refine zlm T (.inl rfl) rfl ?_
 all_goals (simp_all[jl,zg6]<;>omega)
mutual
def exB:Ex->Int->Int->Bool×Int
 | .mk op n s l,d,c=>if(decide (0<=c - 1)&& !decide (60<d)&&zap (.mk op n s l))=true then exL l (d+1) (c - 1)else(false,c - 1)
def exL:List Ex->Int->Int->Bool×Int
 | [],_,c=>(true,c)
 |x::r,d,c=>if(exB x d c).1=true then exL r d (exB x d c).2 else(false,(exB x d c).2)
end
theorem zqF(e:Ex)(d c:Int):exB e d c=if(decide (0<=c - 1)&& !decide (60<d)&&zap e)=true then exL e.l (d+1) (c - 1)else(false,c - 1):=by
 cases e;rfl
mutual
theorem zfg: ∀(e:Ex) (d c:Int),0<=c-> -1<=(exB e d c).2/\(exB e d c).2<=c/\((exB e d c).1=true->0<=(exB e d c).2)
 | .mk op n s l,d,c,h=>by
   simp only[exB]
   split
   ·rename_i h'
    simp only[uu,ux]at h'
    have:=zfh l (d+1) (c - 1) h'.1.1
    exact⟨this.1,ua,this.2.2⟩
   ·simp only;exact⟨ua,ua,λe=>by cases e⟩
theorem zfh: ∀(l:List Ex) (d c:Int),0<=c-> -1<=(exL l d c).2/\(exL l d c).2<=c/\((exL l d c).1=true->0<=(exL l d c).2)
 | [],d,c,h=>by simp only[exL];exact⟨ua,ua,λ_=>h⟩
 |x::r,d,c,h=>by
  simp only[exL]
  have h1:=zfg x d c h
  split
  ·rename_i h2
   have h3:=zfh r d _ (h1.2.2 h2)
   exact⟨h3.1,ua,h3.2.2⟩
  ·exact⟨h1.1,h1.2.1,λe=>by cases e⟩
end
theorem zl7(d:Int): ∀(l:List Ex) (c:Int),anyR (λx c=> !(exB x d c).1) (λx c=>(exB x d c).2) l c=(!(exL l d c).1,(exL l d c).2)
 | [],c=>rfl
 |x::r,c=>by
  simp only[anyR,exL]
  cases h:(exB x d c).1 with
  |true=>simp only[ot,uU,tO,qx];exact zl7 d r _
  |false=>rfl
theorem zoW(x:Ex)(dp c:Int)(h1:0<=dp)(h2:dp<=60)(h:zk Tryz.prog 273 [zm (yG x),I (dp+1),.one (.bx 0 0)] [(0,.box [.p (ki c)])] (.bq (exB x (dp+1) c).1) [(0,.box [.p (ki (exB x (dp+1) c).2)])]):
 zk Tryz.prog 303 [zm (yG x),.one (.bx 1 0),.one (.bx 2 0)] [(0,.box [.p (ki c)]),(1,.box [.p (ki dp)]),(2,.box [.bx 0 0])] (.bq (!(exB x (dp+1) c).1))
  [(0,.box [.p (ki (exB x (dp+1) c).2)]),(1,.box [.p (ki dp)]),(2,.box [.bx 0 0])]:=by
 refine gO T Tryz.func303 λC hC=>?_
 repeat' first|refine gG ?_|refine gB ?_ ?_<;>intro h
 rw[wrap64 ua]
 repeat' first|refine gG ?_|refine gB ?_ ?_<;>intro h|refine gR h (nm [0]) ?_
 exact zt ⟨.inl rfl,id,_,rfl,.qq rfl,⟨rfl,rfl,rfl,uh⟩,rfl,rfl⟩
theorem zj0: ∀(N:Nat) (e:Ex) (d c:Int),sizeOf e<N->0<=d->d<=61->0<=c->c<=1000->zk Tryz.prog 273 [zm (yG e),I d,.one (.bx 0 0)] [(0,.box [.p (ki c)])] (.bq (exB e d c).1) [(0,.box [.p (ki (exB e d c).2)])]:=by
 intro N
 induction N with
 |zero=>intro e d c h;omega
 |succ N ih=>
  intro e d c hN hd1 hd2 hc1 hc2
  have no:(decide (0<=c - 1)&& !decide (60<d)&&zap e)=false->(exB e d c)=(false,c - 1):=λh=>by rw[zqF,h];rfl
  have yes:(decide (0<=c - 1)&& !decide (60<d)&&zap e)=true->(exB e d c)=exL e.l (d+1) (c - 1):=λh=>by rw[zqF,uv h]
  refine gO T Tryz.func273 λC hC=>?_
  repeat' first|refine gG ?_|refine gB ?_ ?_<;>intro h|refine gC (zg4 _) ?_|refine zy hC (zl6 c ua ua) (nm [0]) rfl rfl (yr.refl _) rfl rfl rfl rfl rfl rfl rfl rfl ?_|refine gC (zg7 _) ?_
  all_goals (try simp only[uj]at*)
  all_goals first
   |(have hn:(decide (0<=c - 1)&& !decide (60<d)&&zap e)=false:=by clear ih no yes;rw[zfe];have:=zff e.op;generalize (jl e&&zg6 e)=q at *; simp_all[zaj]<;>omega
     rw[no hn]
     exact zt ⟨.inl rfl,id,_,rfl,.qb rfl,⟨rfl,uh⟩,rfl,rfl⟩)
   |(have hy:(decide (0<=c - 1)&& !decide (60<d)&&zap e)=true:=by clear ih no yes;rw[zfe];have:=zff e.op;generalize (jl e&&zg6 e)=q at *; simp_all[zaj]<;>omega
     rw[yes hy]
     simp only[uu,tH,ux,uX]at hy
     have hh:zk Tryz.prog 277 [pS (xL e.l),.one (.cl 303 [] [.bx 1 0,.bx 2 0])] [(0,.box [.p (ki (c - 1))]),(1,.box [.p (ki d)]),(2,.box [.bx 0 0])]
      (.bq (!(exL e.l (d+1) (c - 1)).1)) [(0,.box [.p (ki (exL e.l (d+1) (c - 1)).2)]),(1,.box [.p (ki d)]),(2,.box [.bx 0 0])]:=by
      have:=zlW 303 d e.l (λx c=> !(exB x (d+1) c).1) (λx c=>(exB x (d+1) c).2) (λc=>0<=c/\c<=1000) (λx hx c hc=>⟨zoW x d c ua ua (ih x (d+1) c (by have:=qX hx;have:=zlu e;omega) ua ua hc.1 hc.2),λhp=>by
       have hb:=zfg x (d+1) c hc.1
       exact⟨hb.2.2 (by simpa using hp),ua⟩⟩) (c - 1) ⟨ua,ua⟩
      rw[zl7]at this
      exact this
     repeat' first|refine gG ?_|refine gB ?_ ?_<;>intro h|refine gR hh (nm [0,1004,1005]) ?_
     exact zt ⟨.inl rfl,id,_,rfl,.qq ue,⟨rfl,uh⟩,rfl,rfl⟩)
theorem zcD: ∀(l:List Ex) (d n:Int),n<=countL l d n
 | [],d,n=>by simp only[countL];omega
 |e::es,d,n=>by
  simp only[countL]
  have h1:=(xK e (d+1)).1
  have h2:=zcD es d (n+countS e (d+1))
  split<;>omega
mutual
theorem zfi: ∀(e:Ex) (d c:Int),0<=c->c<=1000->(exB e d c).1=decide (countS e d<=c)/\(countS e d<=c->(exB e d c).2=c - countS e d)
 | .mk op n s l,d,c,h0,h1=>by
   by_cases hb:(decide (60<d)|| !zap (.mk op n s l))=true
   ·have e1:countS (.mk op n s l) d=1001:=by simp only[countS];exact uv hb
    have e2:exB (.mk op n s l) d c=(false,c - 1):=by
     simp only[exB];refine ur λh=>?_
     simp only[uu,tM,tH]at h hb
     rcases hb with hb|hb
     ·rw[hb]at h;simp at h
     ·rw[hb]at h;simp at h
    rw[e1,e2]
    exact⟨(uJ ua).symm,λh=>by omega⟩
   ·have e1:countS (.mk op n s l) d=countL l d 1:=by simp only[countS];exact ur hb
    simp only[tM,ux,tH,UU,Bool.not_eq_false]at hb
    rw[e1]
    by_cases hc:0<=c - 1
    ·have e2:exB (.mk op n s l) d c=exL l (d+1) (c - 1):=by simp only[exB];exact uv (by simp[hc,hb.2];omega)
     rw[e2]
     have:=zfj l d (c - 1) 1 ua ua ua
     rw[show 1+(c - 1)=c by omega]at this
     exact this
    ·have e2:exB (.mk op n s l) d c=(false,c - 1):=by simp only[exB];exact ur λh=>by simp only[uu,ux]at h;omega
     rw[e2]
     have:=zcD l d 1
     exact⟨(uJ ua).symm,λh=>by omega⟩
theorem zfj: ∀(l:List Ex) (d c n:Int),0<=c->1<=n->n+c<=1000->(exL l (d+1) c).1=decide (countL l d n<=n+c)/\(countL l d n<=n+c->(exL l (d+1) c).2=n+c - countL l d n)
 | [],d,c,n,h0,h1,h2=>by
   have e1:countL [] d n=n:=by simp only[countL]
   rw[e1];simp only[exL];exact⟨(uK ua).symm,λ_=>by omega⟩
 |x::r,d,c,n,h0,h1,h2=>by
  have hx:=zfi x (d+1) c h0 ua
  have hk:=(xK x (d+1)).1
  by_cases hc:countS x (d+1)<=c
  ·have e1:countL (x::r) d n=countL r d (n+countS x (d+1)):=by simp only[countL];exact ur ua
   have e2:exL (x::r) (d+1) c=exL r (d+1) (c - countS x (d+1)):=by
    simp only[exL];rw[hx.1,uK hc,uv rfl,hx.2 hc]
   rw[e1,e2]
   have:=zfj r d (c - countS x (d+1)) (n+countS x (d+1)) ua ua ua
   rw[show n+countS x (d+1)+(c - countS x (d+1))=n+c by omega]at this
   exact this
  ·have e2:exL (x::r) (d+1) c=(false,(exB x (d+1) c).2):=by
    simp only[exL];rw[hx.1,uJ hc];exact ur ue
   have hg:=zcD r d (n+countS x (d+1))
   have hbig:n+c<countL (x::r) d n:=by
    simp only[countL]
    by_cases h3:1000<n+countS x (d+1)
    ·rw[uv h3];omega
    ·rw[ur h3];omega
   rw[e2]
   exact⟨(uJ ua).symm,λh=>by omega⟩
end
theorem ztJ(e:Ex):(exB e 1 1000).1=xq e:=(zfi e 1 1000 ua ua).1
theorem wx(e:Ex):zk Tryz.prog 232 [zm (yG e)] [] (.bq (xq e)) []:=by
 refine gO T Tryz.func232 λC hC=>?_
 repeat' first|refine gG ?_|refine gB ?_ ?_<;>intro h|refine zy hC (zj0 (sizeOf e+1) e 1 1000 ua ua ua ua ua) (nm [1005]) rfl rfl (yr.refl _) rfl rfl rfl rfl rfl rfl rfl rfl ?_
 exact zt ⟨.inl rfl,id,_,rfl,.qq (ztJ e),trivial,rfl,rfl⟩
def zbF(s:Sm):Bool:=(if s.op=1\/s.op=2 then isName s.s else decide (s.s=(⟨#[]⟩:UW)))&& !(!decide (s.op=3)&&(decide (0<(s.els.length:Int))||(!decide (s.op=4)&&decide (0<(s.l.length:Int)))))&&
 (if s.op=1\/s.op=3\/s.op=4 then decide ((s.e.length:Int)=1)else if s.op=2 then decide ((s.e.length:Int)=2)else if s.op=5 then decide ((s.e.length:Int)<=1)
   else if s.op=6 then decide ((s.e.length:Int)=1)&&decide ((s.e[0]?).map Ex.op=some 7)else false)
theorem zoX(s:Sm):(zbF s&&s.e.all xq)=zaG s:=by
 have hz: ∀n:Nat,decide ((n:Int)=0)= !decide (0<(n:Int)):=λn=>by
  by_cases h:(n:Int)=0
  ·rw[uK h,uJ ua];rfl
  ·rw[uJ h,uK ua];rfl
 have h1: ∀n:Nat,(!decide ((n:Int)<1)&& !decide (1<(n:Int)))=decide ((n:Int)=1):=λn=>by
  by_cases h:(n:Int)=1
  ·simp[h]
  ·rw[uJ h];by_cases h2:(n:Int)<1<;>simp[h2]<;>omega
 have h2: ∀n:Nat,(!decide ((n:Int)<2)&& !decide (2<(n:Int)))=decide ((n:Int)=2):=λn=>by
  by_cases h:(n:Int)=2
  ·simp[h]
  ·rw[uJ h];by_cases h2:(n:Int)<2<;>simp[h2]<;>omega
 have h3: ∀n:Nat,(!decide ((n:Int)<0)&& !decide (1<(n:Int)))=decide ((n:Int)<=1):=λn=>by
  by_cases h:(n:Int)<=1
  ·simp[h]<;>omega
  ·simp[h]<;>omega
 simp only[zaG,zid,zbF,zaq,xO,h1,h2,h3,hz]
 generalize s.e.all xq=A
 generalize isName s.s=B
 generalize decide (s.s=(⟨#[]⟩:UW))=E
 generalize decide (0<(s.els.length:Int))=X
 generalize decide (0<(s.l.length:Int))=Y
 generalize decide ((s.e[0]?).map Ex.op=some 7)=Z
 generalize decide ((s.e.length:Int)=1)=N1
 generalize decide ((s.e.length:Int)=2)=N2
 generalize decide ((s.e.length:Int)<=1)=N3
 by_cases o1:s.op=1
 ·simp only[o1,Int.reduceEq,UP,UQ,UM,Uq,qx,tO,oC,q9];revert A B E X Y Z N1 N2 N3;decide
 by_cases o2:s.op=2
 ·simp only[o2,Int.reduceEq,UP,UQ,UM,Uq,qx,tO,oC,q9];revert A B E X Y Z N1 N2 N3;decide
 by_cases o3:s.op=3
 ·simp only[o3,Int.reduceEq,UP,UQ,UM,Uq,qx,tO,oC,q9];revert A B E X Y Z N1 N2 N3;decide
 by_cases o4:s.op=4
 ·simp only[o4,Int.reduceEq,UP,UQ,UM,Uq,qx,tO,oC,q9];revert A B E X Y Z N1 N2 N3;decide
 by_cases o5:s.op=5
 ·simp only[o5,Int.reduceEq,UP,UQ,UM,Uq,qx,tO,oC,q9];revert A B E X Y Z N1 N2 N3;decide
 by_cases o6:s.op=6
 ·simp only[o6,Int.reduceEq,UP,UQ,UM,Uq,qx,tO,oC,q9];revert A B E X Y Z N1 N2 N3;decide
 simp only[o1,o2,o3,o4,o5,o6,or_self,tO,qz,qu]
theorem zg8(s:Sm):zk Tryz.prog 276 [zm (za7 s)] [] (.bq (zbF s)) []:=by
 refine gO T Tryz.func276 λC hC=>?_
 repeat' first|refine ztc T hC true 400 rfl rfl ?_|refine zg5 rfl (λh=>?_) (λh=>?_)|refine zoB T hC ud ?_|refine zbS (λh=>?_) (λh=>?_)|refine zbT rfl rfl rfl (λh=>?_) (λh=>?_)|refine zbU rfl rfl (λh=>?_) (λh=>?_)|refine gC (yC _) ?_|refine zln T (.inl rfl) rfl ?_|refine zlm T (.inl rfl) rfl ?_|(obtain⟨x,hx⟩:=ze (l:=s.e) (i:=0) (by have:=uo h;simp only[uj]at this;omega);refine yM T hC rfl rfl rfl (qB _) (zic hx) rfl rfl ?_)
 all_goals (try simp only[uj]at*)
 all_goals (simp_all[zbF]<;>omega)
mutual
def stB:Sm->Int->Int->Bool×Int
 | .mk op s e l els,d,c=>if(decide (0<=c - 1)&&(zbF (.mk op s e l els)&&e.all xq))=true then
    (if(if decide (0<(l.length:Int))&&decide (60<d+1)then(false,c - 1)else stQ l (d+1) (c - 1)).1=true then
      (if decide (0<(els.length:Int))&&decide (60<d+1)then(false,(if decide (0<(l.length:Int))&&decide (60<d+1)then(false,c - 1)else stQ l (d+1) (c - 1)).2)
        else stQ els (d+1) (if decide (0<(l.length:Int))&&decide (60<d+1)then(false,c - 1)else stQ l (d+1) (c - 1)).2)
      else(false,(if decide (0<(l.length:Int))&&decide (60<d+1)then(false,c - 1)else stQ l (d+1) (c - 1)).2))
    else(false,c - 1)
def stQ:List Sm->Int->Int->Bool×Int
 | [],_,c=>(true,c)
 |x::r,d,c=>if(stB x d c).1=true then stQ r d (stB x d c).2 else(false,(stB x d c).2)
end
def stP(l:List Sm)(d c:Int):Bool×Int:=if decide (0<(l.length:Int))&&decide (60<d)then(false,c)else stQ l d c
theorem zqG(s:Sm)(d c:Int):stB s d c=if(decide (0<=c - 1)&&(zbF s&&s.e.all xq))=true then
 (if(stP s.l (d+1) (c - 1)).1=true then stP s.els (d+1) (stP s.l (d+1) (c - 1)).2 else(false,(stP s.l (d+1) (c - 1)).2))else(false,c - 1):=by
 cases s;rfl
theorem zg9{n k:Int}(h:0<=k):n<=zgy n k:=by
 unfold zgy
 by_cases q:n<=200
 ·rw[uv q];omega
 ·rw[ur q];omega
theorem zl8(s:Sm)(d n:Int)(h0:0<=n)(h1:n<=200):n<stN s d n:=by
 rw[ze4]
 split
 ·omega
 ·have a1:=(wo s.l (d+1) 0 ua ua).1
  have a2:=(wo s.els (d+1) 0 ua ua).1
  have b1:=zg9 (n:=n+1) a1
  have b2:=zg9 (n:=zgy (n+1) (stL s.l (d+1) 0)) a2
  omega
theorem zqH: ∀(l:List Sm) (d n:Int),0<=n->n<=200->n<=stL l d n
 | [],d,n,_,_=>by simp only[stL];omega
 |s::r,d,n,h0,h1=>by
  have h2:=zl8 s d n h0 h1
  simp only[stL]
  by_cases h3:200<stN s d n
  ·rw[uv h3];omega
  ·rw[ur h3]
   have:=zqH r d (stN s d n) ua ua
   omega
theorem zoY{l:List Sm}{d:Int}(h:0<(l.length:Int))(hd:60<d)(n:Int):stL l d n=201:=by
 cases l with
 |nil=>simp at h
 |cons s r=>
  have:stN s d n=201:=by rw[ze4,uv (by simp[hd])]
  simp only[stL,this];rfl
def zl9(r:Bool×Int)(k t:Int):Prop:=r.1=decide (k<=t)/\(k<=t->r.2=t - k)
variable {r:Bool×Int}
theorem zl9.of_le{k t:Int}(h:k<=t)(e:r=(true,t - k)):zl9 r k t:=by subst e;exact⟨(uK h).symm,λ_=>rfl⟩
theorem zl9.zj1{k t:Int}(h:t<k)(e:r.1=false):zl9 r k t:=⟨by rw[e];exact(uJ ua).symm,λh'=>by omega⟩
theorem zl9.le{k t:Int}(h:zl9 r k t)(h1:k<=t):r=(true,t - k):=UI (h.1.trans (uK h1)) (h.2 h1)
theorem zl9.gt{k t:Int}(h:zl9 r k t)(h1:t<k):r.1=false:=h.1.trans (uJ ua)
mutual
theorem zma: ∀(s:Sm) (d c n:Int),0<=n->0<=c->n+c<=200->d<=60->zl9 (stB s d c) (stN s d n) (n+c)
 | .mk op s e l els,d,c,n,h0,h1,h2,hd=>by
   have hgt:=zl8 (.mk op s e l els) d n h0 ua
   have eB:stB (.mk op s e l els) d c=if(decide (0<=c - 1)&&zaG (.mk op s e l els))=true then
    (if(stP l (d+1) (c - 1)).1=true then stP els (d+1) (stP l (d+1) (c - 1)).2 else(false,(stP l (d+1) (c - 1)).2))else(false,c - 1):=by
    rw[zqG,zoX];rfl
   rw[eB]
   by_cases hs:zaG (.mk op s e l els)=true
   ·have eN:stN (.mk op s e l els) d n=zgy (zgy (n+1) (stL l (d+1) 0)) (stL els (d+1) 0):=by
     rw[ze4,ur (by simp[hs];omega)];rfl
    rw[hs,qJ]
    by_cases hc:0<=c - 1
    ·rw[uv (uK hc)]
     have a1:=(wo l (d+1) 0 ua ua).1
     have a2:=(wo els (d+1) 0 ua ua).1
     have hl:=zcE l (d+1) (c - 1) ua ua
     by_cases k1:stL l (d+1) 0<=c - 1
     ·rw[hl.le k1,uv rfl]
      have hm:=zcE els (d+1) (c - 1 - stL l (d+1) 0) ua ua
      simp only
      have eb:zgy (n+1) (stL l (d+1) 0)=n+1+stL l (d+1) 0:=uv ua
      have eb2:zgy (n+1+stL l (d+1) 0) (stL els (d+1) 0)=n+1+stL l (d+1) 0+stL els (d+1) 0:=uv ua
      rw[eN,eb,eb2]
      by_cases k2:stL els (d+1) 0<=c - 1 - stL l (d+1) 0
      ·rw[hm.le k2]
       exact .of_le ua (UI rfl (by simp only;omega))
      ·exact .zj1 ua (hm.gt ua)
     ·have e1:=hl.gt ua
      rw[e1]
      refine .zj1 ?_ rfl
      rw[eN]
      have eb:zgy (n+1) (stL l (d+1) 0)=n+1+stL l (d+1) 0:=uv ua
      rw[eb]
      have:=zg9 (n:=n+1+stL l (d+1) 0) a2
      omega
    ·rw[ur ug]
     exact .zj1 ua rfl
   ·have hs':zaG (.mk op s e l els)=false:=by simpa using hs
    have eN:stN (.mk op s e l els) d n=201:=by rw[ze4,uv (by simp[hs'])]
    rw[hs',qz,ur ue,eN]
    exact .zj1 ua rfl
theorem zfk: ∀(l:List Sm) (d c n:Int),0<=n->0<=c->n+c<=200->d<=60->zl9 (stQ l d c) (stL l d n) (n+c)
 | [],d,c,n,h0,h1,h2,hd=>by
   have e1:stL [] d n=n:=by simp only[stL]
   rw[e1];exact .of_le ua (by simp only[stQ];exact UI rfl (by simp only;omega))
 |x::r,d,c,n,h0,h1,h2,hd=>by
  have hx:=zma x d c n h0 h1 h2 hd
  have hg:=zl8 x d n h0 ua
  by_cases k:stN x d n<=n+c
  ·have e1:stL (x::r) d n=stL r d (stN x d n):=by simp only[stL];exact ur ua
   have e2:stQ (x::r) d c=stQ r d (n+c - stN x d n):=by simp only[stQ];rw[hx.le k];rfl
   rw[e1,e2]
   have:=zfk r d (n+c - stN x d n) (stN x d n) ua ua ua hd
   rw[show stN x d n+(n+c - stN x d n)=n+c by omega]at this
   exact this
  ·have e2:(stQ (x::r) d c).1=false:=by simp only[stQ];rw[hx.gt ua];rfl
   refine .zj1 ?_ e2
   simp only[stL]
   by_cases h3:200<stN x d n
   ·rw[uv h3];omega
   ·rw[ur h3]
    have:=zqH r d (stN x d n) ua ua
    omega
theorem zcE: ∀(l:List Sm) (d c:Int),0<=c->c<=200->zl9 (stP l d c) (stL l d 0) c
 |l,d,c,h0,h1=>by
  unfold stP
  by_cases hd:60<d
  ·by_cases hl:0<(l.length:Int)
   ·rw[uv (by simp[hl,hd];omega),zoY hl hd]
    exact .zj1 ua rfl
   ·have:l=[]:=qK ua
    subst this
    rw[ur ue]
    exact .of_le (by simp only[stL];omega) (by simp only[stQ,stL];exact UI rfl (by simp only;omega))
  ·rw[ur (by simp[hd])]
   have:=zfk l d c 0 ua h0 ua ua
   rw[Int.zero_add]at this
   exact this
end
mutual
theorem zfl: ∀(s:Sm) (d c:Int),0<=c-> -1<=(stB s d c).2/\(stB s d c).2<=c/\((stB s d c).1=true->0<=(stB s d c).2)
 | .mk op s e l els,d,c,h=>by
   have eB:stB (.mk op s e l els) d c=if(decide (0<=c - 1)&&(zbF (.mk op s e l els)&&e.all xq))=true then
    (if(stP l (d+1) (c - 1)).1=true then stP els (d+1) (stP l (d+1) (c - 1)).2 else(false,(stP l (d+1) (c - 1)).2))else(false,c - 1):=rfl
   rw[eB]
   by_cases hc:(decide (0<=c - 1)&&(zbF (.mk op s e l els)&&e.all xq))=true
   ·rw[uv hc]
    have h0:0<=c - 1:=by simp only[uu,ux]at hc;exact hc.1
    have h1:=zcF l (d+1) (c - 1) h0
    by_cases h2:(stP l (d+1) (c - 1)).1=true
    ·rw[uv h2]
     have h3:=zcF els (d+1) _ (h1.2.2 h2)
     exact⟨h3.1,ua,h3.2.2⟩
    ·rw[ur h2];exact⟨h1.1,by simp only;omega,λe=>by cases e⟩
   ·rw[ur hc];exact⟨by simp only;omega,by simp only;omega,λe=>by cases e⟩
theorem zfm: ∀(l:List Sm) (d c:Int),0<=c-> -1<=(stQ l d c).2/\(stQ l d c).2<=c/\((stQ l d c).1=true->0<=(stQ l d c).2)
 | [],d,c,h=>by simp only[stQ];exact⟨ua,ua,λ_=>h⟩
 |x::r,d,c,h=>by
  have h1:=zfl x d c h
  simp only[stQ]
  by_cases h2:(stB x d c).1=true
  ·rw[uv h2]
   have h3:=zfm r d _ (h1.2.2 h2)
   exact⟨h3.1,ua,h3.2.2⟩
  ·rw[ur h2];exact⟨h1.1,h1.2.1,λe=>by cases e⟩
theorem zcF: ∀(l:List Sm) (d c:Int),0<=c-> -1<=(stP l d c).2/\(stP l d c).2<=c/\((stP l d c).1=true->0<=(stP l d c).2)
 |l,d,c,h=>by
  unfold stP
  by_cases h2:(decide (0<(l.length:Int))&&decide (60<d))=true
  ·rw[uv h2];exact⟨by simp only;omega,by simp only;omega,λe=>by cases e⟩
  ·rw[ur h2];exact zfm l d c h
end
theorem zmb(x:Ex):zk Tryz.prog 278 [zm (yG x)] [] (.bq (!xq x)) []:=by
 refine gO T Tryz.func278 λC hC=>?_
 repeat' first|refine gG ?_|refine gB ?_ ?_<;>intro h|refine gC (wx _) ?_|refine gQ ?_
 rfl
theorem zcG(l:List Ex):(l.any λx=> !xq x)= !l.all xq:=by
 induction l with
 |nil=>rfl
 |cons a l ih=>simp only[qU,qT,ih,Uz]
set_option maxHeartbeats 1000000 in
theorem zha: ∀(N:Nat) (l:List Sm) (d c:Int),sizeOf l<N->0<=d->d<=61->0<=c->c<=200->zk Tryz.prog 238 [pS (yF l),I d,.one (.bx 0 0)] [(0,.box [.p (ki c)])] (.bq (stP l d c).1) [(0,.box [.p (ki (stP l d c).2)])]:=by
 intro N
 induction N with
 |zero=>intro l d c h;omega
 |succ N ih=>
  intro l d c hN hd1 hd2 hc1 hc2
  refine gO T Tryz.func238 λC hC=>?_
  refine jq 0 rfl λhlen=>?_
  rw[uj]at hlen
  repeat' first|refine gG ?_|refine gB ?_ ?_<;>intro h
  all_goals (try simp only[uj]at*)
  ·have e:stP l d c=(false,c):=by unfold stP;rw[uv (by simp_all)]
   rw[e]
   exact zt ⟨.inl rfl,id,_,rfl,.qb rfl,⟨rfl,uh⟩,rfl,rfl⟩
  all_goals
   have hlow:l=[]\/d<=60:=by
    by_cases hz:d<=60
    ·exact .inr hz
    ·left
     have: ¬0<(l.length:Int):=λh0=>by simp_all<;>omega
     exact qK ua
   have e:stP l d c=stQ l d c:=by
    unfold stP
    rcases hlow with rfl|hlow
    ·rw[ur ue]
    ·rw[ur ug]
   rw[e]
   clear e h
   generalize hR:stQ l d c=RES
   refine zn (λq:Nat×Int=>q.1<=l.length/\0<=q.2/\q.2<=200/\stQ (l.drop q.1) d q.2=RES) (λq=>([(1,I d),(2,.one (.bx 0 0)),(16,pS (yF l)),(17,I l.length),(18,I q.1)],[(0,some (.box [.p (ki q.2)]))])) (λq=>l.length - q.1) hC
    (0,c) ⟨uA _,hc1,hc2,hR⟩ id gM ?_
   clear hR
   rintro⟨i,q⟩ ⟨hi,hq1,hq2,hn⟩
   simp only at hi hq1 hq2 hn
   refine zr T hC true 200 rfl ?_
   refine zu rfl ?_ ?_<;>intro h
   rotate_left
   ·have hge: ¬i<l.length:=by simpa using h
    rw[tf ua]at hn
    simp only[stQ]at hn
    subst hn
    repeat' first|refine gG ?_|refine gB ?_ ?_<;>intro h|refine zj ?_
    exact zt ⟨.inl rfl,id,_,rfl,.qb rfl,⟨rfl,uh⟩,rfl,rfl⟩
   have hlt:i<l.length:=by simpa using h
   clear h
   have hd:d<=60:=by
    rcases hlow with rfl|hlow
    ·simp at hlt
    ·exact hlow
   obtain⟨x,hx⟩:=ze hlt
   have hsz:=zlt hx
   have hss:=zie x
   have hbs:=zfl x d q hq1
   rw[drop_at hx]at hn
   simp only[stQ]at hn
   have no: ∀r:Bool×Int,r.1=false->stB x d q=r->r=RES:=λr h1 h2=>by
    rw[h2,ur (by rw[h1];simp)]at hn
    rw[<-hn];exact UI h1 rfl
   have eB:=zqG x d q
   have w1:IntKind.i64.wrap (d+1)=d+1:=wrap64 ua
   have hA:=zlZ 278 x.e (λy=> !xq y) (λy _=>zmb y)
   rw[zcG]at hA
   have b1:=λh0=>zcF x.l (d+1) (q - 1) h0
   have nn:(!decide (0<=q - 1))=false->0<=q - 1:=λh=>by simpa using h
   have k1:=λ(h0:(!decide (0<=q - 1))=false)=>ih x.l (d+1) (q - 1) ua ua ua (nn h0) ua
   have k2:=λ(h0:(!decide (0<=q - 1))=false) (h1:(!(stP x.l (d+1) (q - 1)).1)=false)=>ih x.els (d+1) (stP x.l (d+1) (q - 1)).2 ua ua ua ((b1 (nn h0)).2.2 (by simpa using h1)) (by have:=(b1 (nn h0)).2.1;omega)
   clear ih hsz hss
   generalize hr1:stP x.l (d+1) (q - 1)=r1 at*
   generalize hr2:stP x.els (d+1) r1.2=r2 at*
   generalize hsb:stB x d q=sb at*
   repeat' first|refine gG ?_|refine gB ?_ ?_<;>intro h|refine gXT ?_|refine zy hC (zl6 q ua ua) (nm [0]) rfl rfl (yr.refl _) rfl rfl rfl rfl rfl rfl rfl rfl ?_|refine gC (zg8 _) ?_|refine gC hA ?_|rw[w1]|refine zy hC (k1 uf) (nm [0]) rfl rfl (yr.refl _) rfl rfl rfl rfl rfl rfl rfl rfl ?_|refine zy hC (k2 uf uf) (nm [0]) rfl rfl (yr.refl _) rfl rfl rfl rfl rfl rfl rfl rfl ?_|refine zx ?_
   all_goals clear k1 k2 hA w1 hx hr1 hr2 hsb b1 nn
   all_goals first
    |(have e:sb=(false,q - 1):=by clear hn no hbs hlow;rw[eB];clear eB;exact ur (λhcc=>by simp only[uu,ux]at hcc;obtain⟨hk1,hk2,hk3⟩:=hcc;simp_all[-List.all_eq_true, -List.all_eq_false]<;>omega)
      have e2:=no _ rfl e
      subst e2
      exact zt ⟨.inl rfl,id,_,rfl,.qb rfl,⟨rfl,uh⟩,rfl,rfl⟩)
    |(have e:sb=(false,r1.2):=by clear hn no hbs hlow;rw[eB];clear eB;rw[uv (by simp_all[-List.all_eq_true, -List.all_eq_false]),ur (by simp_all[-List.all_eq_true, -List.all_eq_false])]
      have e2:=no _ rfl e
      subst e2
      exact zt ⟨.inl rfl,id,_,rfl,.qb rfl,⟨rfl,uh⟩,rfl,rfl⟩)
    |(have e:sb=r2:=by clear hn no hbs hlow;rw[eB];clear eB;rw[uv (by simp_all[-List.all_eq_true, -List.all_eq_false]),uv (by simp_all[-List.all_eq_true, -List.all_eq_false])]
      have h2:r2.1=false:=by simpa using h
      have e2:=no _ h2 e
      have e3:RES=(false,r2.2):=by rw[<-e2];exact UI h2 rfl
      subst e3
      exact zt ⟨.inl rfl,id,_,rfl,.qb rfl,⟨rfl,uh⟩,rfl,rfl⟩)
    |(have e:sb=r2:=by clear hn no hbs hlow;rw[eB];clear eB;rw[uv (by simp_all[-List.all_eq_true, -List.all_eq_false]),uv (by simp_all[-List.all_eq_true, -List.all_eq_false])]
      have h2:r2.1=true:=by simpa using h
      rw[e,uv h2]at hn
      rw[e]at hbs
      rw[zC ua]
      exact zf (i+1,r2.2) ⟨by simp only;omega,hbs.2.2 h2,by simp only;omega,hn⟩ id (by simp only;omega) gM)
theorem zfn(s:Str):zk Tryz.prog 231 [Sr s] [] (.bq (isType s)) []:=by
 refine gO T Tryz.func231 λC hC=>?_
 repeat' first|refine gG ?_|refine gB ?_ ?_<;>intro h|refine gC (yC _) ?_|refine gQ ?_|refine gL ?_
 all_goals simp_all[isType]
theorem zdx(s:Str):zk Tryz.prog 233 [Sr s] [] (.bq (zdt s)) []:=by
 refine gO T Tryz.func233 λC hC=>?_
 repeat' first|refine gG ?_|refine gB ?_ ?_<;>intro h|refine gC (yC _) ?_|refine gQ ?_|refine gL ?_
 all_goals simp_all[zdt]
theorem zj2(f:Fld):zk Tryz.prog 230 [zm (zM f)] [] (.bq (!wC f)) []:=by
 refine gO T Tryz.func230 λC hC=>?_
 repeat' first|refine gG ?_|refine gB ?_ ?_<;>intro h|refine gC (yC _) ?_|refine gC (zfn _) ?_|refine gQ ?_|refine gL ?_
 all_goals simp_all[wC]
theorem zb2(p:α->Bool)(l:List α):(l.any λx=> !p x)= !l.all p:=by
 induction l with
 |nil=>rfl
 |cons a l ih=>simp only[qU,qT,ih,Uz]
theorem jE(l:List Fld)(m:Int):zk Tryz.prog 181 [pS (yb l),I m] [] (.bq (xb l m)) []:=by
 have hA:=zjV 230 l (λy=> !wC y) (λy _=>zj2 y)
 rw[zb2]at hA
 refine gO T Tryz.func181 λC hC=>?_
 repeat' first|refine gG ?_|refine gB ?_ ?_<;>intro h|refine gC hA ?_|refine gQ ?_|refine gL ?_
 all_goals (try simp only[uj]at*)
 all_goals (simp_all[xb, -List.all_eq_true, -List.all_eq_false]<;>(intros;omega))
theorem zcH(p:Pr):zk Tryz.prog 187 [zm (xc p)] [] (.bq (x5 p)) []:=by
 have hc:=zcE p.body 1 200 ua ua
 refine gO T Tryz.func187 λC hC=>?_
 repeat' first|refine gG ?_|refine gB ?_ ?_<;>intro h|refine gC (yC _) ?_|refine gC (jE _ _) ?_|refine gC (zfn _) ?_|refine zy hC (zha (sizeOf p.body+1) p.body 1 200 ua ua ua ua ua) (nm [1030]) rfl rfl (yr.refl _) rfl rfl rfl rfl rfl rfl rfl rfl ?_|refine gL ?_|refine gQ ?_
 all_goals (have hc1:=hc.1;clear hc;simp_all[x5])
theorem zfo(b:Bd):zk Tryz.prog 235 [zm (x8 b)] [] (.bq (!x9 b)) []:=by
 refine gO T Tryz.func235 λC hC=>?_
 repeat' first|refine gG ?_|refine gB ?_ ?_<;>intro h|refine gC (yC _) ?_|refine gC (wx b.x) ?_|refine gQ ?_|refine gL ?_
 all_goals simp_all[x9]
theorem zhb(a b t:Int):decide (t<zeY a b)=(decide (t<a)||decide (t<b)):=by
 unfold zeY
 by_cases h:b>a
 ·rw[uv h];by_cases h2:t<b<;>simp[h2];omega
 ·rw[ur h];by_cases h2:t<a<;>simp[h2];omega
def vY(d:xo):Bool:= !decide (12<(d.measures.length:Int))&& !decide (12<(d.invs.length:Int))&& !decide (12<(d.pots.length:Int))&& !decide (12<(d.bounds.length:Int))
theorem zix(d:xo):decide (12<zeY (zeY (zeY (d.measures.length:Int) (d.invs.length:Int)) (d.pots.length:Int)) (d.bounds.length:Int))= !vY d:=by
 rw[zhb,zhb,zhb]
 simp only[vY,Uz,Bool.not_not]
theorem zdl(d:xo):zk Tryz.prog 182 [zm (vz d)] [] (.bq (vY d&&yd d)) []:=by
 have hA:=zjY 235 d.bounds (λy=> !x9 y) (λy _=>zfo y)
 rw[zb2]at hA
 refine gO T Tryz.func182 λC hC=>?_
 repeat' first|refine gG ?_|refine gB ?_ ?_<;>intro h|refine ztK hC rfl rfl rfl rfl rfl rfl ?_|refine gL ?_
 ·simp only[uj]at h
  rw[zix]at h
  have:vY d=false:=by simpa using h
  rw[this];rfl
 ·simp only[uj]at h
  rw[zix]at h
  have hsz:vY d=true:=by simpa using h
  rw[hsz,tr]
  simp only[vY,uu,tH,uX]at hsz
  obtain⟨⟨⟨hl1,hl2⟩,hl3⟩,hl4⟩:=hsz
  clear h
  rw[uj]
  refine zn (λi:Nat=>i<=(d.measures).length/\((d.measures).take i).all (xP)=true) (λi=>([(1,.one (.bx 1001 0)),(24,.one (.p (.sl 7 (d.measures.map yt)))),(25,I d.measures.length),(26,I i)],[(1001,some (.box ((vz d).map V.p)))])) (λi=>(d.measures).length - i) hC
   0 ⟨uA _,ue⟩ id gM ?_
  rintro i ⟨hi,hn⟩
  refine zr T hC true 200 rfl ?_
  refine zu rfl ?_ ?_<;>intro h
  ·have hlt:i<(d.measures).length:=by first|simpa using h|(have h':=uo h;simp only[uj,tC]at h' ⊢; omega)
   clear h
   obtain⟨x,hx⟩:=ze hlt
   repeat' first|refine gG ?_|refine gB ?_ ?_<;>intro h|refine gX ?_|refine gC (yC _) ?_|refine gC (wx x.x) ?_|refine zx ?_|refine gL ?_
   all_goals first
    |(have hp:(xP) x=true:=by clear hn hx hlt hi;simp_all[xP, -List.all_eq_true, -List.all_eq_false]<;>omega
      have hlt':=hlt
      try simp only[tC,qG]at hlt'
      rw[wrap64 ua]
      refine zf (i+1) ⟨ua,?_⟩ id ua gM
      rw[ya (p:=xP) hx,hn,tr];exact hp)
    |(have hp:(xP) x=false:=by clear hn hx hlt hi;simp_all[xP, -List.all_eq_true, -List.all_eq_false]<;>omega
      have hno:=xJ (p:=xP) hx hp
      simp only[yd,hno,qu])
  have hge: ¬i<(d.measures).length:=by first|simpa using h|(have h':=uq h;simp only[uj,tC]at h' ⊢; omega)
  have hall:(d.measures).all (xP)=true:=xm (p:=xP) ua hn
  clear h hge hn hi
  repeat' first|refine gG ?_|refine gB ?_ ?_<;>intro h|refine zj ?_
  rw[uj]
  refine zn (λi:Nat=>i<=(d.invs).length/\((d.invs).take i).all (vS)=true) (λi=>([(1,.one (.bx 1001 0)),(58,.one (.p (.sl 6 (d.invs.map zeo)))),(59,I d.invs.length),(60,I i)],[(1001,some (.box ((vz d).map V.p)))])) (λi=>(d.invs).length - i) hC
   0 ⟨uA _,ue⟩ id gM ?_
  rintro i ⟨hi,hn⟩
  refine zr T hC true 200 rfl ?_
  refine zu rfl ?_ ?_<;>intro h
  ·have hlt:i<(d.invs).length:=by first|simpa using h|(have h':=uo h;simp only[uj,tC]at h' ⊢; omega)
   clear h
   obtain⟨x,hx⟩:=ze hlt
   repeat' first|refine gG ?_|refine gB ?_ ?_<;>intro h|refine gX ?_|refine gC (yC _) ?_|refine gC (zdx _) ?_|refine gC (wx x.x) ?_|refine zx ?_|refine gL ?_
   all_goals first
    |(have hp:(vS) x=true:=by clear hn hx hlt hi;simp_all[vS, -List.all_eq_true, -List.all_eq_false]<;>omega
      have hlt':=hlt
      try simp only[tC,qG]at hlt'
      rw[wrap64 ua]
      refine zf (i+1) ⟨ua,?_⟩ id ua gM
      rw[ya (p:=vS) hx,hn,tr];exact hp)
    |(have hp:(vS) x=false:=by clear hn hx hlt hi;simp_all[vS, -List.all_eq_true, -List.all_eq_false]<;>omega
      have hno:=xJ (p:=vS) hx hp
      simp only[yd,hno,qu,qz])
  have hge: ¬i<(d.invs).length:=by first|simpa using h|(have h':=uq h;simp only[uj,tC]at h' ⊢; omega)
  have hall:(d.invs).all (vS)=true:=xm (p:=vS) ua hn
  clear h hge hn hi
  rename_i hall1
  repeat' first|refine gG ?_|refine gB ?_ ?_<;>intro h|refine zj ?_
  rw[uj]
  refine zn (λi:Nat=>i<=(d.pots).length/\((d.pots).take i).all (vT)=true) (λi=>([(1,.one (.bx 1001 0)),(82,.one (.p (.sl 5 (d.pots.map zfp)))),(83,I d.pots.length),(84,I i)],[(1001,some (.box ((vz d).map V.p)))])) (λi=>(d.pots).length - i) hC
   0 ⟨uA _,ue⟩ id gM ?_
  rintro i ⟨hi,hn⟩
  refine zr T hC true 200 rfl ?_
  refine zu rfl ?_ ?_<;>intro h
  ·have hlt:i<(d.pots).length:=by first|simpa using h|(have h':=uo h;simp only[uj,tC]at h' ⊢; omega)
   clear h
   obtain⟨x,hx⟩:=ze hlt
   repeat' first|refine gG ?_|refine gB ?_ ?_<;>intro h|refine gX ?_|refine gC (zdx _) ?_|refine gC (wx x.x) ?_|refine zx ?_|refine gL ?_
   all_goals first
    |(have hp:(vT) x=true:=by clear hn hx hlt hi;simp_all[vT, -List.all_eq_true, -List.all_eq_false]<;>omega
      have hlt':=hlt
      try simp only[tC,qG]at hlt'
      rw[wrap64 ua]
      refine zf (i+1) ⟨ua,?_⟩ id ua gM
      rw[ya (p:=vT) hx,hn,tr];exact hp)
    |(have hp:(vT) x=false:=by clear hn hx hlt hi;simp_all[vT, -List.all_eq_true, -List.all_eq_false]<;>omega
      have hno:=xJ (p:=vT) hx hp
      simp only[yd,hno,qu,qz])
  have hge: ¬i<(d.pots).length:=by first|simpa using h|(have h':=uq h;simp only[uj,tC]at h' ⊢; omega)
  have hall:(d.pots).all (vT)=true:=xm (p:=vT) ua hn
  clear h hge hn hi
  rename_i hall2
  repeat' first|refine gG ?_|refine gB ?_ ?_<;>intro h|refine zj ?_|refine gC hA ?_|refine gQ ?_
  simp only[yd,hall,hall1,hall2,tr,Bool.not_not]
theorem zmc(t:zaa):zk Tryz.prog 184 [zm (yz t)] [] (.bq (!wG t)) []:=by
 refine gO T Tryz.func184 λC hC=>?_
 repeat' first|refine gG ?_|refine gB ?_ ?_<;>intro h|refine gC (yC _) ?_|refine gC (jE _ _) ?_|refine gQ ?_|refine gL ?_
 all_goals simp_all[wG]
theorem zmd(p:Pr):zk Tryz.prog 186 [zm (xc p)] [] (.bq (!x5 p)) []:=by
 refine gO T Tryz.func186 λC hC=>?_
 repeat' first|refine gG ?_|refine gB ?_ ?_<;>intro h|refine gC (zcH p) ?_|refine gQ ?_
 rfl
theorem zcI(d:xo):zk Tryz.prog 151 [zm (vz d)] [] (.bq (yX d)) []:=by
 have hA:=zl2 184 d.types (λy=> !wG y) (λy _=>zmc y)
 rw[zb2]at hA
 have hB:=zl5 186 d.procs (λy=> !x5 y) (λy _=>zmd y)
 rw[zb2]at hB
 have hv:yX d=(isName d.n&& !decide (12<(d.types.length:Int))&&xb d.globals 8&& !decide (40<(d.procs.length:Int))&&(vY d&&yd d)&&d.types.all wG&&d.procs.all x5):=by
  simp only[yX,zaH,vY]
  generalize isName d.n=a1
  generalize decide (12<(d.types.length:Int))=a2
  generalize xb d.globals 8=a3
  generalize decide (40<(d.procs.length:Int))=a4
  generalize yd d=a5
  generalize d.types.all wG=a6
  generalize d.procs.all x5=a7
  generalize decide (12<(d.measures.length:Int))=a8
  generalize decide (12<(d.invs.length:Int))=a9
  generalize decide (12<(d.pots.length:Int))=a10
  generalize decide (12<(d.bounds.length:Int))=a11
  cases a1<;>cases a3<;>cases a5<;>cases a6<;>cases a7<;>simp[Bool.and_assoc]
 rw[hv]
 refine gO T Tryz.func151 λC hC=>?_
 repeat' first|refine gG ?_|refine gB ?_ ?_<;>intro h|refine gC (yC _) ?_|refine gC (jE _ _) ?_|refine gC (zdl _) ?_|refine gC hA ?_|refine gC hB ?_|refine gQ ?_|refine gL ?_
 all_goals (try simp only[uj]at*)
 all_goals clear hA hB hv
 all_goals try generalize (vY d&&yd d)=q at*
 all_goals (simp_all[-List.all_eq_true, -List.all_eq_false]<;>(intros;omega))
variable {args:List S}
theorem zj3{P:Program}{f:FuncId}{R R':RL}{s s':S}(h:zk P f args R s R')(hl:LeS s s'):zk P f args R s' R':=
 ⟨h.1,λM ρ w xs h1 h2 h3 h4=>(h.2 M ρ w xs h1 h2 h3 h4).mono λe w' ⟨v,M',ρ',he,hr⟩=>⟨v,M',ρ',he,{ hr with rep:=hl _ _ _ hr.rep }⟩⟩
structure xG (l:List Tok):Prop where
 len:l.length<=100000
 fin: ∃t,l[l.length - 1]?=some t/\t.k=5
 num: ∀t∈l,0<=t.n/\t.n<=1099511627776
theorem xG.next{l:List Tok}(hl:xG l){t:Tok}(h:l[i]?=some t)(hk:t.k≠5):i+1<l.length:=by
 obtain⟨u,hu,hk5⟩:=hl.fin
 have hlt:=(ui.1 h).1
 by_cases e:i=l.length - 1
 ·subst e;rw[hu]at h;cases h;exact absurd hk5 hk
 ·omega
theorem zh{l:List Tok}(hl:xG l){s:Str}(h:isA l i s=true):i+1<l.length:=by
 unfold isA at h
 split at h
 ·rename_i t ht
  refine hl.next ht λe=>?_
  rw[e]at h;simp at h
 ·cases h
def rdR(l:List Tok)(i:Nat)(b:Bool):Res:= .box [.p (yu l),.p (ki i),.p (.k (.bool b))]
abbrev rdV:S:= .one (.bx 0 0)
def RJ(l:List Tok)(f:FuncId)(args:List S)(enc:α->S)(i:Nat)(r:PJ α):Prop:=
 ∀x j b,r=some (x,j,b)->j<l.length/\zk Tryz.prog f args [(0,rdR l i false)] (enc x) [(0,rdR l j b)]
variable {b:Bool}
theorem RJ.okI{l:List Tok}{f:FuncId}{enc:α->S}{x:α}(h:j<l.length)(h2:zk Tryz.prog f args [(0,rdR l i false)] (enc x) [(0,rdR l j b)]):RJ l f args enc i (some (x,j,b)):=
 λ_ _ _ e=>by cases e;exact⟨h,h2⟩
section
variable {l:List Tok} (hl:xG l)
include hl
theorem zhc(i:Nat)(hi:i<l.length)(s:Str):zk Tryz.prog 179 [rdV,Sr s] [(0,rdR l i true)] (Bo false) [(0,rdR l i true)]:=by
 have hlen:=hl.len
 obtain⟨t,ht⟩:=ze hi
 refine gO T Tryz.func179 λC hC=>?_
 repeat' first|refine gG ?_|refine gB ?_ ?_<;>intro h|refine gI T (zg ht) ?_|refine gL ?_
 exact gE
theorem ziy(i:Nat)(hi:i<l.length)(s:Str):zk Tryz.prog 179 [rdV,Sr s] [(0,rdR l i false)] (.bq (isA l i s)) [(0,rdR l i false)]:=by
 have hlen:=hl.len
 obtain⟨t,ht⟩:=ze hi
 have e:isA l i s=((decide (t.k=3)||decide (t.k=4))&&decide (t.t=s)):=by unfold isA;rw[ht]
 rw[e]
 clear e
 refine gO T Tryz.func179 λC hC=>?_
 repeat' first|refine gG ?_|refine gB ?_ ?_<;>intro h|refine gI T (zg ht) ?_
 all_goals first
  |exact zt ⟨.inl rfl,id,_,rfl,.qq (by simp_all),⟨rfl,uh⟩,rfl,rfl⟩
  |exact zt ⟨.inl rfl,id,_,rfl,.qb (by simp_all),⟨rfl,uh⟩,rfl,rfl⟩
theorem zj4{s:Str}(h:isA l i s=true):zk Tryz.prog 179 [rdV,Sr s] [(0,rdR l i false)] (Bo true) [(0,rdR l i false)]:=
 zj3 (ziy hl i (zbE h) s) (.bq h)
theorem zcJ(hi:i<l.length){s:Str}(h: ¬isA l i s=true):zk Tryz.prog 179 [rdV,Sr s] [(0,rdR l i false)] (Bo false) [(0,rdR l i false)]:=
 zj3 (ziy hl i hi s) (.bq (by simpa using h))
theorem xw(i:Nat)(hi:i<l.length)(s:Str):zk Tryz.prog 173 [rdV,Sr s] [(0,rdR l i true)] (Bo false) [(0,rdR l i true)]:=by
 refine gO T Tryz.func173 λC hC=>?_
 repeat' first|refine gG ?_|refine gB ?_ ?_<;>intro h|refine gR (zhc hl i hi s) (nm [0]) ?_|refine gL ?_
 exact gE
theorem zN{s:Str}(h:isA l i s=true):zk Tryz.prog 173 [rdV,Sr s] [(0,rdR l i false)] (Bo true) [(0,rdR l (i+1) false)]:=by
 have hlen:=hl.len
 have hi:=zbE h
 refine gO T Tryz.func173 λC hC=>?_
 repeat' first|refine gG ?_|refine gB ?_ ?_<;>intro h|refine gR (zj4 hl h) (nm [0]) ?_|refine gL ?_
 unfold rdR
 rw[zC ua]
 exact gE
theorem zF(hi:i<l.length){s:Str}(h: ¬isA l i s=true):zk Tryz.prog 173 [rdV,Sr s] [(0,rdR l i false)] (Bo false) [(0,rdR l i false)]:=by
 refine gO T Tryz.func173 λC hC=>?_
 repeat' first|refine gG ?_|refine gB ?_ ?_<;>intro h|refine gR (zcJ hl hi h) (nm [0]) ?_|refine gL ?_
 exact gE
theorem yc(i:Nat)(hi:i<l.length)(s:Str):zk Tryz.prog 147 [rdV,Sr s] [(0,rdR l i true)] (.tup []) [(0,rdR l i true)]:=by
 refine gO T Tryz.func147 λC hC=>?_
 repeat' first|refine gG ?_|refine gB ?_ ?_<;>intro h|refine gR (xw hl i hi s) (nm [0]) ?_
 exact zt ⟨.inr rfl,id,[],rfl,.refl _,⟨rfl,uh⟩,rfl,rfl⟩
theorem zaw{s:Str}(h:isA l i s=true):zk Tryz.prog 147 [rdV,Sr s] [(0,rdR l i false)] (.tup []) [(0,rdR l (i+1) false)]:=by
 refine gO T Tryz.func147 λC hC=>?_
 repeat' first|refine gG ?_|refine gB ?_ ?_<;>intro h|refine gR (zN hl h) (nm [0]) ?_
 exact zt ⟨.inr rfl,id,[],rfl,.refl _,⟨rfl,uh⟩,rfl,rfl⟩
theorem zhd(hi:i<l.length){s:Str}(h: ¬isA l i s=true):zk Tryz.prog 147 [rdV,Sr s] [(0,rdR l i false)] (.tup []) [(0,rdR l i true)]:=by
 refine gO T Tryz.func147 λC hC=>?_
 repeat' first|refine gG ?_|refine gB ?_ ?_<;>intro h|refine gR (zF hl hi h) (nm [0]) ?_
 exact zt ⟨.inr rfl,id,[],rfl,.refl _,⟨rfl,uh⟩,rfl,rfl⟩
theorem xR(i:Nat)(hi:i<l.length)(s:Str):RJ l 147 [rdV,Sr s] (λ_=> .tup []) i (vW l s i):=by
 unfold vW
 split
 ·rename_i h;exact .okI (zh hl h) (zaw hl h)
 ·rename_i h;exact .okI hi (zhd hl hi h)
theorem zcK(i:Nat)(hi:i<l.length):zk Tryz.prog 148 [rdV] [(0,rdR l i true)] (Sr (⟨#[]⟩:UW)) [(0,rdR l i true)]:=by
 have _:=hl
 refine gO T Tryz.func148 λC hC=>?_
 repeat' first|refine gG ?_|refine gB ?_ ?_<;>intro h|refine gL ?_
 exact gE
theorem xS(i:Nat)(hi:i<l.length):RJ l 148 [rdV] Sr i (nameJ l i):=by
 have hlen:=hl.len
 obtain⟨t,ht⟩:=ze hi
 unfold nameJ
 rw[ht]
 by_cases hk:t.k=1
 ·simp only[uv hk]
  refine .okI (hl.next ht ua) ?_
  have w1:IntKind.i64.wrap (IntKind.i64.wrap ((i:Int)+1) - 1)=(i:Int):=by
   have e1:IntKind.i64.wrap ((i:Int)+1)=(i:Int)+1:=wrap64 ua
   rw[e1,wrap64 ua];omega
  refine gO T Tryz.func148 λC hC=>?_
  repeat' first|refine gG ?_|(exfalso;exact absurd hk (by simpa using h))|refine gB ?_ ?_<;>intro h|refine gI T (zg ht) ?_|refine yM T hC rfl rfl rfl (by rw[w1];exact uw _) (by rw[w1];exact zg ht) rfl rfl ?_|refine gL ?_
  unfold rdR
  rw[zC ua]
  exact gE
 ·simp only[ur hk]
  refine .okI hi ?_
  refine gO T Tryz.func148 λC hC=>?_
  repeat' first|refine gG ?_|(exfalso;exact absurd (by simpa using h) hk)|refine gB ?_ ?_<;>intro h|refine gI T (zg ht) ?_|refine gL ?_
  exact gE
theorem zoZ(i:Nat)(hi:i<l.length):zk Tryz.prog 227 [rdV] [(0,rdR l i true)] (I 0) [(0,rdR l i true)]:=by
 have _:=hl
 refine gO T Tryz.func227 λC hC=>?_
 repeat' first|refine gG ?_|refine gB ?_ ?_<;>intro h|refine gN ?_
 exact gE
theorem zhe(i:Nat)(hi:i<l.length):RJ l 227 [rdV] I i (zlR l i):=by
 have hlen:=hl.len
 obtain⟨t,ht⟩:=ze hi
 unfold zlR
 rw[ht]
 by_cases hk:t.k=2
 ·simp only[uv hk]
  refine .okI (hl.next ht ua) ?_
  have w1:IntKind.i64.wrap (IntKind.i64.wrap ((i:Int)+1) - 1)=(i:Int):=by
   have e1:IntKind.i64.wrap ((i:Int)+1)=(i:Int)+1:=wrap64 ua
   rw[e1,wrap64 ua];omega
  refine gO T Tryz.func227 λC hC=>?_
  repeat' first|refine gG ?_|(exfalso;exact absurd hk (by simpa using h))|refine gB ?_ ?_<;>intro h|refine gI T (zg ht) ?_|refine yM T hC rfl rfl rfl (by rw[w1];exact uw _) (by rw[w1];exact zg ht) rfl rfl ?_|refine gL ?_
  unfold rdR
  rw[zC ua]
  exact gE
 ·simp only[ur hk]
  refine .okI hi ?_
  refine gO T Tryz.func227 λC hC=>?_
  repeat' first|refine gG ?_|(exfalso;exact absurd (by simpa using h) hk)|refine gB ?_ ?_<;>intro h|refine gI T (zg ht) ?_|refine gL ?_
  exact gE
end
def zqI:PV:= .sl 1 [[ks (⟨#[105,110,116]⟩:UW)],[ks (⟨#[98,111,111,108]⟩:UW)]]
section
variable {l:List Tok} (hl:xG l)
include hl
theorem zep(i:Nat)(hi:i<l.length):zk Tryz.prog 225 [rdV] [(0,rdR l i true)] (Sr (⟨#[]⟩:UW)) [(0,rdR l i true)]:=by
 refine gO T Tryz.func225 λC hC=>?_
 repeat' first|refine gG ?_|refine gB ?_ ?_<;>intro h|refine gT ?_
 refine zn (λj:Nat=>j<=2) (λj=>([(0,rdV),(5,pS zqI),(6,I 2),(7,I j)],[(0,some (rdR l i true))])) (λj=>2 - j) hC
  0 ub id gM ?_
 intro j hj
 refine zr T hC true 200 rfl ?_
 refine zu rfl ?_ ?_<;>intro h
 ·have hlt:j<2:=by have:=uo h;omega
  clear h
  obtain⟨s,hs⟩: ∃s:Str,([[ks (⟨#[105,110,116]⟩:UW)],[ks (⟨#[98,111,111,108]⟩:UW)]]:List (List PV))[(j:Int).toNat]?=some [ks s]:=by
   have:j=0\/j=1:=by omega
   rcases this with rfl|rfl
   ·exact⟨_,rfl⟩
   ·exact⟨_,rfl⟩
  repeat' first|refine gG ?_|refine gB ?_ ?_<;>intro h|refine gI T hs ?_|refine gR (xw hl i hi s) (nm [0]) ?_
  rw[zC ua]
  exact zf (j+1) ua id ua gM
 ·repeat' first|refine gG ?_|refine gB ?_ ?_<;>intro h|refine zj ?_|refine gR (zcK hl i hi) (nm [0]) ?_|refine gL ?_
  exact gE
theorem zhf(i:Nat)(hi:i<l.length):RJ l 225 [rdV] Sr i (zg2 l i):=by
 intro x k b hR
 have hk:k<l.length:=by
  unfold zg2 at hR
  split at hR
  ·rename_i h;cases hR;exact zh hl h
  ·split at hR
   ·rename_i h;cases hR;exact zh hl h
   ·exact(xS hl i hi _ _ _ hR).1
 refine⟨hk,?_⟩
 refine gO T Tryz.func225 λC hC=>?_
 repeat' first|refine gG ?_|refine gB ?_ ?_<;>intro h|refine gT ?_
 refine zn (λj:Nat=>j<=2/\(0<j-> ¬isA l i (⟨#[105,110,116]⟩:UW)=true)/\(1<j-> ¬isA l i (⟨#[98,111,111,108]⟩:UW)=true)) (λj=>([(0,rdV),(5,pS zqI),(6,I 2),(7,I j)],[(0,some (rdR l i false))])) (λj=>2 - j) hC
  0 ⟨ub,λh=>absurd h ub,λh=>absurd h ub⟩ id gM ?_
 rintro j ⟨hj,hA,hB⟩
 refine zr T hC true 200 rfl ?_
 refine zu rfl ?_ ?_<;>intro h
 ·have hlt:j<2:=by have:=uo h;omega
  clear h
  have:j=0\/j=1:=by omega
  rcases this with rfl|rfl
  ·by_cases hs:isA l i (⟨#[105,110,116]⟩:UW)=true
   ·unfold zg2 at hR
    rw[uv hs]at hR
    cases hR
    repeat' first|refine gG ?_|refine gB ?_ ?_<;>intro h|refine gI T rfl ?_|refine gR (zN hl hs) (nm [0]) ?_|refine zx ?_|refine gL ?_
    exact gE
   ·repeat' first|refine gG ?_|refine gB ?_ ?_<;>intro h|refine gI T rfl ?_|refine gR (zF hl hi hs) (nm [0]) ?_
    rw[zC ua]
    exact zf 1 ⟨ua,λ_=>hs,λh=>absurd h ub⟩ id ua gM
  ·by_cases hs:isA l i (⟨#[98,111,111,108]⟩:UW)=true
   ·unfold zg2 at hR
    rw[ur (hA ub),uv hs]at hR
    cases hR
    repeat' first|refine gG ?_|refine gB ?_ ?_<;>intro h|refine gI T rfl ?_|refine gR (zN hl hs) (nm [0]) ?_|refine zx ?_|refine gL ?_
    exact gE
   ·repeat' first|refine gG ?_|refine gB ?_ ?_<;>intro h|refine gI T rfl ?_|refine gR (zF hl hi hs) (nm [0]) ?_
    rw[zC ua]
    exact zf 2 ⟨ua,λ_=>hA ub,λ_=>hs⟩ id ua gM
 ·have hge:j=2:=by have:=uq h;omega
  subst hge
  unfold zg2 at hR
  rw[ur (hA ub),ur (hB ub)]at hR
  have hN:=(xS hl i hi _ _ _ hR).2
  repeat' first|refine gG ?_|refine gB ?_ ?_<;>intro h|refine zj ?_|refine gR hN (nm [0]) ?_|refine gL ?_
  exact gE
theorem zdy(i:Nat)(hi:i<l.length):zk Tryz.prog 175 [rdV] [(0,rdR l i true)] (zm (zM ⟨(⟨#[]⟩:UW),(⟨#[]⟩:UW)⟩)) [(0,rdR l i true)]:=by
 refine gO T Tryz.func175 λC hC=>?_
 repeat' first|refine gG ?_|refine gB ?_ ?_<;>intro h|refine gR (zcK hl i hi) (nm [0]) ?_|refine gR (zep hl i hi) (nm [0]) ?_|refine gL ?_
 exact gE
theorem zaT(i:Nat)(hi:i<l.length):RJ l 175 [rdV] (λf=>zm (zM f)) i (x7 l i):=by
 intro x k b hR
 unfold x7 at hR
 rcases hn:nameJ l i with _|⟨n,i1,_|_⟩
 ·rw[hn]at hR;cases hR
 ·rw[hn]at hR
  simp only[PJ.go]at hR
  obtain⟨h1,hN⟩:=xS hl i hi _ _ _ hn
  rcases ht:zg2 l i1 with _|⟨t,i2,b2⟩
  ·rw[ht]at hR;cases hR
  ·obtain⟨h2,hT⟩:=zhf hl i1 h1 _ _ _ ht
   have e:x=⟨n,t⟩/\k=i2/\b=b2:=by
    rw[ht]at hR
    cases b2<;>simp only[PJ.ok]at hR<;>cases hR<;>exact⟨rfl,rfl,rfl⟩
   obtain⟨rfl,rfl,rfl⟩:=e
   refine⟨h2,?_⟩
   refine gO T Tryz.func175 λC hC=>?_
   repeat' first|refine gG ?_|refine gB ?_ ?_<;>intro h|refine gR hN (nm [0]) ?_|refine gR hT (nm [0]) ?_|refine gL ?_
   exact gE
 ·rw[hn]at hR
  cases hR
  obtain⟨h1,hN⟩:=xS hl i hi _ _ _ hn
  refine⟨h1,?_⟩
  refine gO T Tryz.func175 λC hC=>?_
  repeat' first|refine gG ?_|refine gB ?_ ?_<;>intro h|refine gR hN (nm [0]) ?_|refine gR (zep hl _ h1) (nm [0]) ?_|refine gL ?_
  exact gE
end
variable {f:α->Nat->PJ β}{g:α->β}
theorem zhg{r:PJ α}(h:PJ.go r f g=some (x,j,b)):
 (∃y k,r=some (y,k,false)/\f y k=some (x,j,b))\/(∃y,r=some (y,j,true)/\x=g y/\b=true):=by
 rcases r with _|⟨y,k,_|_⟩
 ·cases h
 ·exact .inl ⟨y,k,rfl,h⟩
 ·cases h;exact .inr ⟨y,rfl,rfl,rfl⟩
def zo0(x:Str×Int):List PV:=[ks x.1,ki x.2]
def zwx:List (List (Str×Int)):=[opsA 0,opsA 1,[],opsA 3,opsA 4,opsA 5]
def zwJ(o:List (Str×Int)):List PV:=[.sl 2 (o.map zo0)]
def zvN:PV:= .sl 1 (zwx.map zwJ)
theorem zme{n:Nat}(h:n<6):zwx[n]?=some (opsA n):=by
 have:n=0\/n=1\/n=2\/n=3\/n=4\/n=5:=by omega
 rcases this with rfl|rfl|rfl|rfl|rfl|rfl<;>rfl
theorem jF:zk Tryz.prog 298 [] [] (pS zvN) []:=by
 refine gO T Tryz.func298 λC hC=>?_
 repeat' first|refine gG ?_|refine gB ?_ ?_<;>intro h|refine gT ?_|refine gL ?_
 exact gF
theorem zeq(f:FuncId)(tl:List Tok)(ti:Nat)(tw:Bool)(l:List (Str×Int))(p:(Str×Int)->Unit->Bool)(nx:(Str×Int)->Unit->Unit)(inv:Unit->Prop)
 (hf: ∀x∈l,∀s:Unit,inv s->zk Tryz.prog f [zm (zo0 x),.one (.bx 1 0)] [(0,rdR tl ti tw),(1,.box [.bx 0 0])] (.bq (p x s)) ((λs:Unit=>[(0,rdR tl ti tw),(1,.box [.bx 0 0])]) (nx x s))/\(p x s=false->inv (nx x s))) (s:Unit) (hs:inv s):
 zk Tryz.prog 299 [pS (.sl 2 (l.map zo0)),.one (.cl f [] [.bx 1 0])] [(0,rdR tl ti tw),(1,.box [.bx 0 0])] (I (idxR p nx l 0 s).1) ((λs:Unit=>[(0,rdR tl ti tw),(1,.box [.bx 0 0])]) (idxR p nx l 0 s).2):=by
 refine gO T Tryz.func299 λC hC=>?_
 have hs0:=hs
 refine jq 0 rfl λhl=>?_
 rw[uj]at hl
 repeat' first|refine gG ?_|refine gB ?_ ?_<;>intro h
 rw[uj]
 refine zn (λq:Nat×Unit=>q.1<=l.length/\inv q.2/\idxR p nx (l.drop q.1) q.1 q.2=idxR p nx l 0 s) (λq=>(λs:Unit=>([(0,pS (.sl 2 (l.map zo0))),(1,.one (.cl f [] [.bx 1 0])),(7,I l.length),(8,I q.1)],[(0,some (rdR tl ti tw)),(1,some (.box [.bx 0 0]))])) q.2) (λq=>l.length - q.1) hC
  (0,s) ⟨uA _,hs,rfl⟩ id gM ?_
 generalize idxR p nx l 0 s=res
 clear hs hs0
 rintro⟨i,s⟩ ⟨hi,hv,hn⟩
 simp only at hi hv hn
 refine zr T hC true 200 rfl ?_
 refine zu rfl ?_ ?_<;>intro hh
 ·have hlt:i<l.length:=by simpa using hh
  clear hh
  obtain⟨x,hx⟩:=ze hlt
  rw[drop_at hx]at hn
  simp only[idxR]at hn
  have hv2:=(hf x (List.mem_of_getElem? hx) s hv).2
  repeat' first|refine gG ?_|refine gB ?_ ?_<;>intro h|refine gI T (zg hx) ?_|refine zy hC (hf x (List.mem_of_getElem? hx) s hv).1 id rfl rfl (yr.refl _) rfl rfl rfl rfl rfl rfl rfl rfl ?_|refine zx ?_
  ·rw[uv uf]at hn
   subst hn
   exact gE
  ·have hpf:p x s=false:=by assumption
   rw[hpf]at hn
   simp only[uU,tO]at hn
   rw[wrap64 ua]
   exact zf (i+1,nx x s) ⟨by simp only;omega,hv2 hpf,hn⟩ id (by simp only;omega) gM
 ·have hge: ¬i<l.length:=by simpa using hh
  rw[tf ua]at hn
  simp only[idxR]at hn
  subst hn
  repeat' first|refine gG ?_|refine gB ?_ ?_<;>intro h|refine zj ?_
  exact gE
theorem zak(op n:Int)(s:Str):LeS (.agg [.p (ki op),.p (ki n),.p (ks s),.p (.k (.slice none 0 0))]) (zm (yG (.mk op n s []))):=
 LeS.agg (.cons (.refl _) (.cons (.refl _) (.cons (.refl _) (.cons (.nil 4) .nil))))
theorem zb3{α:Type}(p:α->Bool): ∀(l:List α) (k:Nat),(l.find? p=none/\(idxR (λx (_:Unit)=>p x) (λ_ s=>s) l k ()).1= -1)\/ ∃x j,l.find? p=some x/\l[j]?=some x/\(idxR (λx (_:Unit)=>p x) (λ_ s=>s) l k ()).1=((k+j:Nat):Int)
 | [],_=> .inl ⟨rfl,rfl⟩
 |x::r,k=>by
  cases h:p x with
  |true=>exact .inr ⟨x,0,by simp[List.find?,h],rfl,by simp[idxR,h]⟩
  |false=>
   rcases zb3 p r (k+1)with⟨h1,h2⟩|⟨y,j,h1,h2,h3⟩
   ·exact .inl ⟨by simp[List.find?,h,h1],by simp only[idxR,h,uU,tO];exact h2⟩
   ·exact .inr ⟨y,j+1,by simp[List.find?,h,h1],h2,by simp only[idxR,h,uU,tO];rw[h3];congr 1;omega⟩
section
variable {l:List Tok} (hl:xG l)
include hl
theorem zfq(i:Nat)(hi:i<l.length)(x:Str×Int):zk Tryz.prog 300 [zm (zo0 x),.one (.bx 1 0)] [(0,rdR l i false),(1,.box [.bx 0 0])] (.bq (isA l i x.1)) [(0,rdR l i false),(1,.box [.bx 0 0])]:=by
 refine gO T Tryz.func300 λC hC=>?_
 repeat' first|refine gG ?_|refine gB ?_ ?_<;>intro h|refine gR (ziy hl i hi x.1) (nm [0]) ?_|refine gQ ?_
 exact zt ⟨.inl rfl,id,_,rfl,.qq rfl,⟨rfl,rfl,uh⟩,rfl,rfl⟩
theorem zj5(i:Nat)(hi:i<l.length)(x:Str×Int):zk Tryz.prog 300 [zm (zo0 x),.one (.bx 1 0)] [(0,rdR l i true),(1,.box [.bx 0 0])] (.bq false) [(0,rdR l i true),(1,.box [.bx 0 0])]:=by
 refine gO T Tryz.func300 λC hC=>?_
 repeat' first|refine gG ?_|refine gB ?_ ?_<;>intro h|refine gR (zhc hl i hi x.1) (nm [0]) ?_|refine gL ?_
 exact zt ⟨.inl rfl,id,_,rfl,.qb rfl,⟨rfl,rfl,uh⟩,rfl,rfl⟩
theorem ziz(i:Nat)(hi:i<l.length)(o:List (Str×Int)):zk Tryz.prog 299 [pS (.sl 2 (o.map zo0)),.one (.cl 300 [] [.bx 1 0])] [(0,rdR l i true),(1,.box [.bx 0 0])] (I (-1)) [(0,rdR l i true),(1,.box [.bx 0 0])]:=by
 have h:=zeq 300 l i true o (λ_ _=>false) (λ_ s=>s) (λ_=>True) (λx hx s _=>⟨zj5 hl i hi x,λ_=>trivial⟩) () trivial
 have e:(idxR (λ(_:Str×Int) (_:Unit)=>false) (λ_ s=>s) o 0 ()).1= -1:=by
  rcases zb3 (λ_=>false) o 0 with⟨_,h2⟩|⟨y,j,h1,_,_⟩
  ·exact h2
  ·exact absurd (q7 h1) ue
 rw[e]at h
 exact h
theorem zmf(i:Nat)(hi:i<l.length)(n:Nat)(hn:opA l i n=none):zk Tryz.prog 299 [pS (.sl 2 ((opsA n).map zo0)),.one (.cl 300 [] [.bx 1 0])] [(0,rdR l i false),(1,.box [.bx 0 0])] (I (-1)) [(0,rdR l i false),(1,.box [.bx 0 0])]:=by
 have h:=zeq 300 l i false (opsA n) (λx _=>isA l i x.1) (λ_ s=>s) (λ_=>True) (λx hx s _=>⟨zfq hl i hi x,λ_=>trivial⟩) () trivial
 have e:(idxR (λ(x:Str×Int) (_:Unit)=>isA l i x.1) (λ_ s=>s) (opsA n) 0 ()).1= -1:=by
  rcases zb3 (λx:Str×Int=>isA l i x.1) (opsA n) 0 with⟨_,h2⟩|⟨y,j,h1,_,_⟩
  ·exact h2
  ·unfold opA at hn;rw[h1]at hn;cases hn
 rw[e]at h
 exact h
theorem zmg(i:Nat)(hi:i<l.length)(n:Nat)(op:Int)(hn:opA l i n=some op): ∃(j:Nat) (s:Str),(opsA n)[j]?=some (s,op)/\isA l i s=true/\zk Tryz.prog 299 [pS (.sl 2 ((opsA n).map zo0)),.one (.cl 300 [] [.bx 1 0])] [(0,rdR l i false),(1,.box [.bx 0 0])] (I j) [(0,rdR l i false),(1,.box [.bx 0 0])]:=by
 have h:=zeq 300 l i false (opsA n) (λx _=>isA l i x.1) (λ_ s=>s) (λ_=>True) (λx hx s _=>⟨zfq hl i hi x,λ_=>trivial⟩) () trivial
 rcases zb3 (λx:Str×Int=>isA l i x.1) (opsA n) 0 with⟨h1,_⟩|⟨⟨s,o⟩,j,h1,h2,h3⟩
 ·unfold opA at hn;rw[h1]at hn;cases hn
 ·have e:o=op:=by unfold opA at hn;rw[h1]at hn;exact uy hn
  subst e
  rw[h3,tI]at h
  exact⟨j,s,h2,by have:=q7 h1;exact this,h⟩
theorem zmh(i:Nat)(hi:i<l.length):zk Tryz.prog 320 [rdV] [(0,rdR l i true)] (zm (yG E0)) [(0,rdR l i true)]:=by
 have _:=hl
 refine gO T Tryz.func320 λC hC=>?_
 repeat' first|refine gG ?_|refine gB ?_ ?_<;>intro h|refine gL ?_
 exact zt ⟨.inl rfl,id,_,rfl,zak _ _ _,⟨rfl,uh⟩,rfl,rfl⟩
theorem zmi(i:Nat)(hi:i<l.length):zk Tryz.prog 297 [rdV] [(0,rdR l i true)] (zm (yG E0)) [(0,rdR l i true)]:=by
 refine gO T Tryz.func297 λC hC=>?_
 repeat' first|refine gG ?_|refine gB ?_ ?_<;>intro h|refine gR (zmh hl i hi) (nm [0]) ?_
 refine zn (λ_:Unit=>True) (λ_=>([(0,rdV),(2,.one (.bx 1002 0)),(3,.one (.bx 1003 0))],[(0,some (rdR l i true)),(1002,some (Res.box (zV [ZK.int .i64,ZK.int .i64,ZK.str,ZK.slice]))),(1003,some (Res.box ((yG E0).map V.p)))])) (λ_=>0) hC
  () trivial id gM ?_
 rintro _ _
 repeat' first|refine gG ?_|refine gB ?_ ?_<;>intro h|refine gR (xw hl i hi _) (nm [0]) ?_|refine zj ?_|refine gL ?_
 exact gE
theorem zmj(i:Nat)(hi:i<l.length): ∀(k n:Nat),n+k=6->zk Tryz.prog 271 [rdV,I n] [(0,rdR l i true)] (zm (yG E0)) [(0,rdR l i true)]:=by
 intro k
 induction k with
 |zero=>
  intro n hn
  have:n=6:=by omega
  subst this
  refine gO T Tryz.func271 λC hC=>?_
  repeat' first|refine gG ?_|exact gD|refine gB ?_ ?_<;>intro h|refine gR (xw hl i hi _) (nm [0]) ?_|refine gR (zmi hl i hi) (nm [0]) ?_|refine gL ?_
  exact gE
 |succ k ih=>
  intro n hn
  have hX:zk Tryz.prog 271 [rdV,I (IntKind.i64.wrap ((n:Int)+1))] [(0,rdR l i true)] (zm (yG E0)) [(0,rdR l i true)]:=by
   rw[zC ua];exact ih (n+1) ua
  refine gO T Tryz.func271 λC hC=>?_
  by_cases h2:n=2
  ·repeat' first|refine gG ?_|(exfalso;exact absurd h2 (by have:=uq h;omega))|refine gB ?_ ?_<;>intro h|refine gR (xw hl i hi _) (nm [0]) ?_|refine gR hX (nm [0]) ?_|refine gL ?_
   exact gE
  ·repeat' first|refine gG ?_|(exfalso;have h':=uo h;omega)|refine gB ?_ ?_<;>intro h|refine gR hX (nm [0]) ?_|refine gL ?_
   refine zn (λ_:Unit=>True) (λ_=>([(1,I n),(2,.one (.bx 1002 0)),(4,.one (.bx 1004 0)),(5,.one (.bx 1005 0))],[(0,some (rdR l i true)),(1002,some (Res.box [.bx 0 0])),(1004,some (Res.box (zV [ZK.int .i64,ZK.int .i64,ZK.str,ZK.slice]))),(1005,some (Res.box ((yG E0).map V.p)))])) (λ_=>0) hC
    () trivial id gM ?_
   rintro _ _
   repeat' first|refine gG ?_|(exfalso;have h':=uq h;omega)|refine gB ?_ ?_<;>intro h|refine yM T hC rfl rfl rfl (uw _) (zg (zme (show n<6 by omega))) rfl rfl ?_|refine gC jF ?_|refine gR (ziz hl i hi _) (nm [0,1002]) ?_|refine gL ?_|refine zx ?_
   exact gE
theorem wT(i:Nat)(hi:i<l.length):zk Tryz.prog 228 [rdV] [(0,rdR l i true)] (zm (yG E0)) [(0,rdR l i true)]:=by
 refine gO T Tryz.func228 λC hC=>?_
 repeat' first|refine gG ?_|refine gB ?_ ?_<;>intro h|refine gR (zmj hl i hi 6 0 rfl) (nm [0]) ?_|refine gL ?_
 exact gE
theorem zfr(i:Nat)(hi:i<l.length):zk Tryz.prog 178 [rdV] [(0,rdR l i true)] (zm (yG E0)) [(0,rdR l i true)]:=by
 refine gO T Tryz.func178 λC hC=>?_
 repeat' first|refine gG ?_|refine gB ?_ ?_<;>intro h|refine gR (yc hl i hi _) (nm [0]) ?_|refine gR (wT hl i hi) (nm [0]) ?_|refine gL ?_
 exact gE
abbrev zwy:S:= .one (.p (.k (.slice none 0 0)))
theorem zbh(i:Nat)(hi:i<l.length):zk Tryz.prog 226 [rdV] [(0,rdR l i true)] (pS (yF [])) [(0,rdR l i true)]:=by
 refine gO T Tryz.func226 λC hC=>?_
 repeat' first|refine gG ?_|refine gB ?_ ?_<;>intro h|refine gL ?_
 refine zn (λ_:Unit=>True) (λ_=>([(0,rdV),(3,zwy)],[(0,some (rdR l i true))])) (λ_=>0) hC
  () trivial id gM ?_
 rintro _ _
 repeat' first|refine gG ?_|refine gB ?_ ?_<;>intro h|refine zj ?_|refine gR (yc hl i hi _) (nm [0]) ?_|refine gL ?_
 exact zt ⟨.inl rfl,id,_,rfl,.one (.nil 5),⟨rfl,uh⟩,rfl,rfl⟩
theorem zdz(i:Nat)(hi:i<l.length):zk Tryz.prog 296 [rdV] [(0,rdR l i true)] (pS (yF [])) [(0,rdR l i true)]:=by
 refine gO T Tryz.func296 λC hC=>?_
 repeat' first|refine gG ?_|refine gB ?_ ?_<;>intro h|refine gR (yc hl i hi _) (nm [0]) ?_|refine gR (zbh hl i hi) (nm [0]) ?_|refine gL ?_
 exact gE
theorem zj6(i:Nat)(hi:i<l.length)(sep fin:Str):zk Tryz.prog 174 [rdV,Sr sep,Sr fin,.one (.cl 175 [.bx 0 0] [])] [(0,rdR l i true)] (pS (yb [])) [(0,rdR l i true)]:=by
 refine gO T Tryz.func174 λC hC=>?_
 repeat' first|refine gG ?_|refine gB ?_ ?_<;>intro h|refine gL ?_
 refine zn (λ_:Unit=>True) (λ_=>([(0,rdV),(1,Sr sep),(2,Sr fin),(9,zwy)],[(0,some (rdR l i true))])) (λ_=>0) hC
  () trivial id gM ?_
 rintro _ _
 repeat' first|refine gG ?_|refine gB ?_ ?_<;>intro h|refine zj ?_|refine gR (yc hl i hi _) (nm [0]) ?_|refine gL ?_
 exact zt ⟨.inl rfl,id,_,rfl,.one (.nil 2),⟨rfl,uh⟩,rfl,rfl⟩
end
def mvP(a b i:Nat):Nat:=match Nat.beq i a with
 |true=>b
 |false=>i
theorem yI{a b:Nat}(ha:100<=a)(hi:i<100):mvP a b i=i:=by
 unfold mvP;rw[y5 ua]
abbrev enE(x:Ex):S:=zm (yG x)
theorem yA{r:PJ α}(h:PJ.go r f g=some (x,j,b)):
 ∃y k b1,r=some (y,k,b1)/\(b1=false->f y k=some (x,j,b))/\(b1=true->x=g y/\j=k/\b=true):=by
 rcases r with _|⟨y,k,_|_⟩
 ·cases h
 ·exact⟨y,k,false,rfl,λ_=>h,λh=>by cases h⟩
 ·cases h;exact⟨y,j,true,rfl,(λh=>by cases h),λ_=>⟨rfl,rfl,rfl⟩⟩
structure EX (l:List Tok) (f:Nat):Prop where
 expr: ∀(n i:Nat),n<=6->i<l.length->RJ l 271 [rdV,I n] enE i (exprJ l f n i)
 post: ∀i,i<l.length->RJ l 297 [rdV] enE i (postJ l f i)
 prim: ∀i,i<l.length->RJ l 320 [rdV] enE i (primJ l f i)
 args: ∀i,i<l.length->RJ l 332 [rdV,Sr (⟨#[44]⟩:UW),Sr (⟨#[41]⟩:UW),.one (.cl 228 [.bx 0 0] [])] (λa=>pS (xL a)) i (argsJ l f i [])
 parts: ∀(i k:Nat) (op:Int),1<=k->k<=3->i<l.length->RJ l 333 [rdV,I op,I (k:Nat)] (λa=>enE (.mk op 0 (⟨#[]⟩:UW) a)) i (partsJ l f k i [])
theorem zo1{r:PJ α}{x:α}(h:r=some (x,j,false)):PJ.er r= .ok x j:=by rw[h];rfl
theorem zfs{l:List Tok}{f n:Nat}{x:Ex}(h:exprJ l f n i=some (x,j,false)):i<j:=by
 have:=zo1 h
 rw[(jD f).1]at this
 exact((zek f).1 _ _ _ _ this).1
abbrev z44:Res:=Res.box (zV [ZK.int .i64,ZK.int .i64,ZK.str,ZK.slice])
section
variable {l:List Tok} (hl:xG l)
include hl
theorem y6{f:Nat}(hX:EX l f)(i:Nat)(hi:i<l.length):RJ l 228 [rdV] enE i (exprJ l f 0 i):=by
 have _:=hl
 intro x j b hR
 obtain⟨hj,hE⟩:=hX.expr 0 i ub hi _ _ _ hR
 refine⟨hj,?_⟩
 refine gO T Tryz.func228 λC hC=>?_
 repeat' first|refine gG ?_|refine gB ?_ ?_<;>intro h|refine gR hE (nm [0]) ?_|refine gL ?_
 exact gE
theorem zj7(f:Nat)(ih: ∀g,g<=f->EX l g)(i:Nat)(hi:i<l.length):RJ l 297 [rdV] enE i (postJ l (f+1) i):=by
 intro xf jf bf hR
 simp only[postJ]at hR
 obtain⟨y,k,b1,hp,hg,hb⟩:=yA hR
 obtain⟨hk,hP⟩:=(ih f (uG _)).prim i hi _ _ _ hp
 have hjf:jf<l.length:=by
  cases b1 with
  |true=>rw[(hb rfl).2.1];exact hk
  |false=>
   have hd:=hg rfl
   clear hR hg hb hp hP
   have: ∀g y k,k<l.length->dotsJ l g y k=some (xf,jf,bf)->jf<l.length:=by
    intro g
    induction g with
    |zero=>intro y k _ h;simp only[dotsJ]at h;cases h
    |succ g ihg=>
     intro y k hk h
     simp only[dotsJ]at h
     split at h
     ·rename_i hs
      rcases zhg h with⟨s,k2,h1,h2⟩|⟨s,h1,h2,h3⟩
      ·exact ihg _ _ (xS hl _ (zh hl hs) _ _ _ h1).1 h2
      ·exact(xS hl _ (zh hl hs) _ _ _ h1).1
     ·cases h;exact hk
   exact this f y k hk hd
 refine⟨hjf,?_⟩
 refine gO T Tryz.func297 λC hC=>?_
 repeat' first|refine gG ?_|refine gB ?_ ?_<;>intro h|refine gR hP (nm [0]) ?_
 refine zn (λq:Ex×Nat×Bool×Nat=>q.2.1<l.length/\(q.2.2.1=false->dotsJ l q.2.2.2 q.1 q.2.1=some (xf,jf,bf))/\(q.2.2.1=true->xf=q.1/\jf=q.2.1/\bf=true))
  (λq=>([(0,rdV),(2,.one (.bx 1002 0)),(3,.one (.bx 1003 0))],[(0,some (rdR l q.2.1 q.2.2.1)),(1002,some z44),(1003,some (Res.box ((yG q.1).map V.p)))])) (λq=>if q.2.2.1 then 0 else q.2.2.2+1) hC
  (y,k,b1,f) ⟨hk,hg,hb⟩ id gM ?_
 clear hk hg hb hp hP hR
 rintro⟨y,k,b1,g⟩ ⟨hk,hg,hb⟩
 simp only at hk hg hb
 cases b1 with
 |true=>
  obtain⟨rfl,rfl,rfl⟩:=hb rfl
  repeat' first|refine gG ?_|refine gB ?_ ?_<;>intro h|refine gR (xw hl _ hk _) (nm [0]) ?_|refine zj ?_|refine gL ?_
  exact gE
 |false=>
  have hd:=hg rfl
  clear hg hb
  cases g with
  |zero=>simp only[dotsJ]at hd;cases hd
  |succ g=>
   simp only[dotsJ]at hd
   by_cases hs:isA l k (⟨#[46]⟩:UW)=true
   ·rw[uv hs]at hd
    obtain⟨s,k2,b2,hn,h2,h3⟩:=yA hd
    obtain⟨hk2,hN⟩:=xS hl _ (zh hl hs) _ _ _ hn
    repeat' first|refine gG ?_|refine gB ?_ ?_<;>intro h|refine gR (zN hl hs) (nm [0]) ?_|refine gR hN (nm [0]) ?_|refine gH T [zG y] ?_
    exact zf (.mk 5 0 s [y],k2,b2,g) ⟨hk2,h2,h3⟩ id (by cases b2<;>simp) gM
   ·rw[ur hs]at hd
    cases hd
    repeat' first|refine gG ?_|refine gB ?_ ?_<;>intro h|refine gR (zF hl hk hs) (nm [0]) ?_|refine zj ?_|refine gL ?_
    exact gE
end
end Hw.Fr.Ps
