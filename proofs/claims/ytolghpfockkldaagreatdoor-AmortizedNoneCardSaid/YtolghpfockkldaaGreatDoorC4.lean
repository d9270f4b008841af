import Derived.Test.YtolghpfockkldaaGreatDoorC2
import Derived.Test.YtolghpfockkldaaGreatDoorC3
import Derived.Test.YtolghpfockkldaaGreatDoorE3
import Derived.Test.YtolghpfockkldaaGreatDoorC1
set_option linter.defProp false
set_option linter.unusedVariables false
set_option linter.unusedSimpArgs false
set_option linter.unusedSectionVars false
set_option linter.unnecessarySimpa false
namespace Hw.Gm.Ps
open Go Go.Proofs Hw.M Tryz
def xi(c:Int):Int:=if c=32 then 1 else if c=9 then 1 else if c=13 then 1 else if c=10 then 1 else
 if decide (97<=c)&&decide (c<=122)then 2 else if decide (65<=c)&&decide (c<=90)then 2 else if decide (48<=c)&&decide (c<=57)then 3 else if c=95 then 4 else 0
set_option maxHeartbeats 1000000 in
def vy(c:Int):zh prog 98 [uc c] [] (I (xi c)) []:=by
 refine gFo func98 λC hC=>?_
 repeat' first|refine gG ?_|refine gB ?_ ?_<;>intro h|refine gN ?_
 all_goals (simp_all[xi]<;>omega)
def zbQ(c:Int):(xi c=2/\xB c=true/\isWord c=true)\/((xi c=3\/xi c=4)/\xB c=false/\isWord c=true)\/((xi c=0\/xi c=1)/\xB c=false/\isWord c=false):=by
 by_cases U:c=32\/c=9\/c=13\/c=10
 ·refine .inr (.inr ?_);rcases U with rfl|rfl|rfl|rfl<;>exact⟨.inr rfl,rfl,rfl⟩
 ·have e1:c≠32:=by omega
  have e2:c≠9:=by omega
  have e3:c≠13:=by omega
  have e4:c≠10:=by omega
  have ec:xi c=if decide (97<=c)&&decide (c<=122)then 2 else if decide (65<=c)&&decide (c<=90)then 2 else if decide (48<=c)&&decide (c<=57)then 3 else if c=95 then 4 else 0:=by
   simp only[xi,e1,e2,e3,e4,uN]
  rw[ec];unfold isWord xB isDigit;cases(decide (97<=c)&&decide (c<=122))with
  |true=>exact .inl ⟨rfl,rfl,rfl⟩
  |false=>cases(decide (65<=c)&&decide (c<=90))with
   |true=>exact .inl ⟨rfl,rfl,rfl⟩
   |false=>cases(decide (48<=c)&&decide (c<=57))with
    |true=>exact .inr (.inl ⟨.inl rfl,rfl,rfl⟩)
    |false=>
     by_cases J:c=95
     ·rw[uw J];exact .inr (.inl ⟨.inr rfl,rfl,by simp[J]⟩)
     ·rw[ur J];exact .inr (.inr ⟨.inl rfl,rfl,by simp[J]⟩)
def zaU(c:Int):decide (xi c=2)=xB c:=by
 rcases zbQ c with⟨h,J,_⟩|⟨h,J,_⟩|⟨h,J,_⟩
 ·rw[h,J];rfl
 ·rw[J];exact uI ua
 ·rw[J];exact uI ua
def zaB(c:Int):decide (xi c<2)= !isWord c:=by
 rcases zbQ c with⟨h,_,J⟩|⟨h,_,J⟩|⟨h,_,J⟩
 ·rw[h,J];rfl
 ·rw[J];exact uI ua
 ·rw[J];exact uZ ua
def zkN(s:Str):zh prog 264 [Sr s] [] (Bo false) []:=by
 refine gFo func264 λC hC=>?_
 repeat' first|refine gG ?_|refine gB ?_ ?_<;>intro h
 exact gFl id rfl (LeS.bq ue)
def zoq(s:Str):zh prog 247 [Sr s] [] (Bo false) []:=by
 refine gFo func247 λC hC=>?_
 repeat' first|refine gG ?_|refine gB ?_ ?_<;>intro h
 exact gFl id rfl (LeS.bq ue)
def zor(a b:Str):Bool:=Op.bytesLess a.toList b.toList
def zrK(a b:Str):zh prog 246 [Sr a,Sr b] [] (.bq (zor a b)) []:=by
 refine gFo func246 λC hC=>?_
 repeat' first|refine gG ?_|refine gB ?_ ?_<;>intro h|refine gC (zkN _) ?_|refine gQ ?_|refine gL ?_
 all_goals first|rfl|simp_all[zor]
def zqd(l:List Str):Prop:= ∀(h k:Nat) (x y:Str),l[h]?=some x->l[k]?=some y->zor x y=decide (h<k)
def zi7(l:List Str)(s:Str)(hs:zqd l)(hl:l.length<=1000):zh prog 206 [pS (za5 l),Sr s] [] (.tup [.un,.bq (l.any λx=>decide (x=s))]) []:=by
 refine gFo func206 λC hC=>?_
 repeat' first|refine gG ?_|refine gB ?_ ?_<;>intro h
 rw[uj]
 refine zj (λp:Nat×Nat=>p.1<=p.2/\p.2<=l.length/\ ∀k,l[k]?=some s->p.1<=k/\k<=p.2) (λp=>([(0,pS (za5 l)),(1,Sr s),(6,I l.length),(7,I p.1),(8,I p.2)],[])) (λp=>p.2 - p.1) hC
  (0,l.length) ⟨uD _,uM _,λk hk=>⟨uD _,Nat.le_of_lt (uy.1 hk).1⟩⟩ id gM ?_
 rintro⟨i,j⟩ ⟨hij,hj,hk⟩;simp only at hij hj hk;refine gLc ?_ ?_<;>intro h
 ·have hlt:i<j:=by simpa using h
  repeat' first|refine gG ?_|refine gB ?_ ?_<;>intro h|refine zw6 hC rfl rfl ub ub rfl rfl ?_
  have hm:IntKind.i64.wrap (IntKind.u64.wrap (IntKind.i64.wrap ((i:Int)+(j:Int))) / 2 ^ (1:Int).toNat)=(((i+j) / 2:Nat):Int):=by
   have e1:IntKind.i64.wrap ((i:Int)+(j:Int))=(i:Int)+(j:Int):=wrap64 ua;rw[e1]
   have:IntKind.u64.wrap ((i:Int)+(j:Int))=((i+j:Nat):Int):=by
    unfold IntKind.wrap;simp[IntKind.bits,IntKind.signed];omega
   rw[this]
   rw[show((i+j:Nat):Int) / 2 ^ (1:Int).toNat=(((i+j) / 2:Nat):Int) by
    rw[show(2:Int) ^ (1:Int).toNat=2 by decide];omega]
   exact wrap64 ua
  simp only;rw[hm];obtain⟨x,U⟩:=za (l:=l) (i:=(i+j) / 2) ua;generalize hme:(i+j) / 2=m at*
  repeat' first|refine gG ?_|refine gB ?_ ?_<;>intro h|refine gX ?_|refine gC (zrK _ _) ?_
  ·rw[vd ua];refine zg (m+1,j) ⟨by simp only;omega,hj,λk J=>?_⟩ id (by simp only;omega) gM;have:=hs m k x s U J;rw[h]at this;have:=uk this.symm;have:=hk k J;simp only;omega
  ·refine zg (i,m) ⟨by simp only;omega,by simp only;omega,λk J=>?_⟩ id (by simp only;omega) gM;have:=hs m k x s U J;rw[h]at this;have:=uo this.symm;have:=hk k J;simp only;omega
 ·have hge:i=j:=by have:=uo h;simp only at this;omega
  subst hge;clear h
  have found: ∀(b:Bool),(b=true-> ∃x,l[i]?=some x/\x=s)->(b=false-> ∀x,l[i]?=some x->x≠s)->b=l.any λx=>decide (x=s):=λb h1 h2=>by
   cases b with
   |true=>obtain⟨x,U,rfl⟩:=h1 rfl;exact(zf2 U (uZ rfl)).symm
   |false=>
    symm
    rw[List.any_eq_false];intro x U;obtain⟨k,hk1⟩:=tX.1 U;simp only[uq];rintro rfl;have:=hk k hk1;obtain rfl:k=i:=by omega
    exact h2 rfl x hk1 rfl
  repeat' first|refine gG ?_|refine gB ?_ ?_<;>intro h|refine zd ?_|refine gC (zoq _) ?_|refine gX ?_|(obtain⟨x,U⟩:=za (l:=l) (i:=i) (by have:=uk h;simp only at this;omega);refine gIt (zl U) ?_)
  ·exact zK ⟨.inl rfl,id,_,rfl,LeS.tup (.cons (LeS.un _) (.cons (LeS.qb (found true (λ_=>⟨x,U,uk h⟩) (λe=>by cases e))) .nil)),trivial,rfl,rfl⟩
  ·exact zK ⟨.inl rfl,id,_,rfl,LeS.tup (.cons (LeS.un _) (.cons (LeS.qb (found false (λe=>by cases e) (λ_ y hy=>by rw[U]at hy;simp only[ui]at hy;subst hy;exact uo h))) .nil)),trivial,rfl,rfl⟩
  ·have h':=uo h;simp only at h';exact zK ⟨.inl rfl,id,_,rfl,LeS.tup (.cons (LeS.un _) (.cons (LeS.qb (found false (λe=>by cases e) (λ_ y hy=>by have:=(uy.1 hy).1;omega))) .nil)),trivial,rfl,rfl⟩
def yX:List Str:=[(⟨#[97,110,100]⟩:UI),(⟨#[98,111,111,108]⟩:UI),(⟨#[98,111,117,110,100]⟩:UI),(⟨#[100,101,115,99]⟩:UI),(⟨#[101,108,115,101]⟩:UI),(⟨#[102,97,108,115,101]⟩:UI),(⟨#[105,102]⟩:UI),(⟨#[105,110,116]⟩:UI),(⟨#[105,110,118,97,114,105,97,110,116]⟩:UI),(⟨#[108,111,99,97,108]⟩:UI),(⟨#[108,111,103]⟩:UI),(⟨#[109,97,120]⟩:UI),(⟨#[109,101,97,115,117,114,101]⟩:UI),(⟨#[109,105,110]⟩:UI),(⟨#[110,101,119]⟩:UI),(⟨#[110,105,108]⟩:UI),(⟨#[110,111,116]⟩:UI),(⟨#[111,112]⟩:UI),(⟨#[111,114]⟩:UI),(⟨#[112,111,116,101,110,116,105,97,108]⟩:UI),(⟨#[112,114,111,99]⟩:UI),(⟨#[114,101,116,117,114,110]⟩:UI),(⟨#[114,117,108,101]⟩:UI),(⟨#[115,99,114,105,112,116]⟩:UI),(⟨#[115,111,114,116]⟩:UI),(⟨#[115,112,101,99]⟩:UI),(⟨#[116,104,105,115]⟩:UI),(⟨#[116,114,117,101]⟩:UI),(⟨#[116,121,112,101]⟩:UI),(⟨#[118,97,114]⟩:UI),(⟨#[119,104,105,108,101]⟩:UI)]
def sortedB(l:List Str):Bool:=(List.range l.length).all λh=>(List.range l.length).all λk=>match l[h]?,l[k]? with
 |some x,some y=>zor x y==decide (h<k)
 |_,_=>true
def zkO{l:List Str}(h:sortedB l=true):zqd l:=λa b x y ha J=>by
 simp only[sortedB,List.all_eq_true,List.mem_range]at h;have:=h a (uy.1 ha).1 b (uy.1 J).1;rw[ha,J]at this;simpa using this
def zos:sortedB yX=true:=by kernel_rfl
def zuB(s:Str):(yX.any λx=>decide (x=s))=wC s:=by
 have h1:(yX.all λx=>zdr.any λy=>decide (y=x))=true:=by kernel_rfl
 have h2:(zdr.all λx=>yX.any λy=>decide (y=x))=true:=by kernel_rfl
 rw[oc];simp only[wC,List.any_eq_true,List.all_eq_true,uq]at h1 h2⊢;constructor
 ·rintro⟨x,J,rfl⟩;obtain⟨y,U,rfl⟩:=h1 x J;exact⟨y,U,rfl⟩
 ·rintro⟨x,J,rfl⟩;obtain⟨y,U,rfl⟩:=h2 x J;exact⟨y,U,rfl⟩
def zbR:Str:=(⟨#[97,110,100,32,98,111,111,108,32,98,111,117,110,100,32,100,101,115,99,32,101,108,115,101,32,102,97,108,115,101,32,105,102,32,105,110,116,32,105,110,118,97,114,105,97,110,116,32,108,111,99,97,108,32,108,111,103,32,109,97,120,32,109,101,97,115,117,114,101,32,109,105,110,32,110,101,119,32,110,105,108,32,110,111,116,32,111,112,32,111,114,32,112,111,116,101,110,116,105,97,108,32,112,114,111,99,32,114,101,116,117,114,110,32,114,117,108,101,32,115,99,114,105,112,116,32,115,111,114,116,32,115,112,101,99,32,116,104,105,115,32,116,114,117,101,32,116,121,112,101,32,118,97,114,32,119,104,105,108,101]⟩:UI)
def zhO:(Lib.fields zbR.data.toList).map (λl=>(⟨l.toArray⟩:UI))=yX:=by kernel_rfl
def zrL:(zbR.data.toList.all λb=>decide (b.toNat<128))=true:=by kernel_rfl
def zgi(w:World)(hw:GOn w):Calls prog 248 #[.string zbR] w λe w'=>e= .returned (.slice (some ⟨w.heap.size,0,none⟩) yX.length yX.length)/\w'=w.alloc (.cells (yX.map Value.string).toArray 9):=by
 have h:=Any.strings_Fields_core zrJ ud zbR w (uk ud) (λj b hb=>by
  have:=List.all_eq_true.1 zrL b (uv hb)
  exact uk this) (λc U=>hw _ _ _ (by
  show G0 0 c=_
  simp[G0,U]))
 refine h.mono λe w' ⟨he,J⟩=>?_;have hl:(Lib.fields zbR.data.toList).length=yX.length:=by rw[<-zhO,uj]
 have U:((Lib.fields zbR.data.toList).map λl=>Value.string ⟨l.toArray⟩)=yX.map Value.string:=by rw[<-zhO,qM];rfl
 rw[hl]at he;rw[U]at J;exact⟨he,J⟩
def zi8:zh prog 248 [Sr zbR] [] (pS (za5 yX)) []:=
 zrM ⟨_,func248,ud,ud⟩ ub zgi
def zw7:zh prog 207 [] [] (pS (za5 yX)) []:=by
 refine gFo func207 λC hC=>?_
 repeat' first|refine gG ?_|refine gB ?_ ?_<;>intro h|refine gC zi8 ?_
 exact gF
def zaf(s:Str):zh prog 145 [Sr s] [] (.bq (wC s)) []:=by
 refine gFo func145 λC hC=>?_
 repeat' first|refine gG ?_|refine gB ?_ ?_<;>intro h|refine gC zw7 ?_|refine w6 hC (zi7 yX s (zkO zos) ub) rfl rfl (yG.refl _) rfl rfl rfl ?_|refine gQ ?_|refine gL ?_
 exact zuB s
def yl(s:Str):zh prog 108 [Sr s] [] (.bq (isName s)) []:=by
 refine gFo func108 λC hC=>?_;have U:=zkr s
 have e0:decide (s=(⟨#[]⟩:UI))=decide (s.size=0):=by
  obtain⟨⟨l⟩⟩:=s;cases l with
  |nil=>rfl
  |cons a l=>exact(uI (by intro h;cases h)).trans (uI (by simp[ByteArray.size])).symm
 repeat' first|refine gG ?_|refine gB ?_ ?_<;>intro h
 ·repeat' first|refine gG ?_|refine gB ?_ ?_<;>intro h|refine gL ?_
  rw[e0]at h;simp only[isName,h,qo,tP]
 ·repeat' first|refine gG ?_|refine gB ?_ ?_<;>intro h|refine gL ?_
  have h1:40<s.size:=by have:=uk h;omega
  simp[isName,h1]
 ·rename_i h0;rw[e0]at h0;have hs:0<(bytes s).length:=by have:=uo h0;omega
  obtain⟨c,hc⟩:=za hs;obtain⟨b,hb,rfl⟩:=zhD hc;have hlen:s.size<=40:=by have:=uo h;omega
  have hnm:isName s=(xB (b.toNat:Int)&&((bytes s).all isWord&& !wC s)):=by
   cases hbs:bytes s with
   |nil=>rw[hbs]at hs;simp at hs
   |cons c cs=>
    have hc':=hc;rw[hbs]at hc';simp only[List.getElem?_cons_zero,ui]at hc';have e1: ¬s.size=0:=by rw[U]at hs;omega
    have e2: ¬40<s.size:=by omega
    simp only[isName,hbs,hc',e1,e2,qE,qA,tn,Bool.and_assoc]
  clear h h0;refine gIx hb ?_
  repeat' first|refine gG ?_|refine gB ?_ ?_<;>intro h|refine gC (vy _) ?_|refine gC (zaf _) ?_|refine gL ?_
  ·rw[zaU]at h;have hl:xB (b.toNat:Int)=false:=by simpa using h
   rw[hnm,hl];rfl
  ·rw[hnm,h];simp
  ·rename_i h1;rw[zaU]at h1;have hl:xB (b.toNat:Int)=true:=by simpa using h1
   have J:isName s=(bytes s).all isWord:=by rw[hnm,hl,h];simp
   refine zj (λi:Nat=>i<=s.size/\((bytes s).take i).all isWord=true) (λi=>([(0,Sr s),(22,I s.size),(23,I i)],[])) (λi=>s.size - i) hC
    0 ⟨uD _,ue⟩ id gM ?_
   rintro i ⟨hi,hn⟩;refine gLc ?_ ?_<;>intro h
   ·have hlt:i<(bytes s).length:=by rw[U];have:=uk h;omega
    obtain⟨c,hx⟩:=za hlt;obtain⟨b,hb,rfl⟩:=zhD hx
    repeat' first|refine gG ?_|refine gB ?_ ?_<;>intro h|refine gXS ?_|refine gC (vy _) ?_|refine zk ?_|refine gL ?_
    ·rw[zaB]at h;have hw:isWord (b.toNat:Int)=false:=by simpa using h
     rw[J,zac hx hw]
    ·rw[zaB]at h;have hw:isWord (b.toNat:Int)=true:=by simpa using h
     rw[vd ua];refine zg (i+1) ⟨ua,?_⟩ id ua gM;rw[xG hx,hn,hw];rfl
   ·have hge:s.size<=i:=by have:=uo h;omega
    repeat' first|refine gG ?_|refine gB ?_ ?_<;>intro h|refine zd ?_|refine gL ?_
    rw[J,vZ (by rw[U];exact hge) hn]
def idxR{α σ:Type}(p:α->σ->Bool)(nx:α->σ->σ):List α->Nat->σ->Int×σ
 | [],_,s=>(-1,s)
 |x::r,k,s=>if p x s=true then((k:Int),nx x s)else idxR p nx r (k+1) (nx x s)
def anyR{α σ:Type}(p:α->σ->Bool)(nx:α->σ->σ):List α->σ->Bool×σ
 | [],s=>(false,s)
 |x::r,s=>if p x s=true then(true,nx x s)else anyR p nx r (nx x s)
theorem zgj{α σ:Type}(p:α->σ->Bool)(nx:α->σ->σ): ∀(l:List α) (k:Nat) (s:σ),∃i s',idxR p nx l k s=(i,s')/\anyR p nx l s=(decide (0<=i),s')
 | [],k,s=>⟨-1,s,rfl,rfl⟩
 |x::r,k,s=>by
  simp only[idxR,anyR];by_cases h:p x s=true
  ·exact⟨k,nx x s,uw h,by rw[uw h,uZ ua]⟩
  ·rw[ur h,ur h];exact zgj p nx r (k+1) (nx x s)
variable {α:Type}
def zaV{σ:Type}(p:α->σ->Bool)(nx:α->σ->σ)(l:List α)(k:Nat)(s:σ):decide (0<=(idxR p nx l k s).1)=(anyR p nx l s).1:=by
 obtain⟨i,s',J,h2⟩:=zgj p nx l k s;simp only[J,h2]
def zaW{σ:Type}(p:α->σ->Bool)(nx:α->σ->σ)(l:List α)(k:Nat)(s:σ):(idxR p nx l k s).2=(anyR p nx l s).2:=by
 obtain⟨i,s',J,h2⟩:=zgj p nx l k s;simp only[J,h2]
theorem zbS{α:Type}(p:α->Bool): ∀(l:List α) (s:Unit),(anyR (λx _=>p x) (λ_ s=>s) l s).1=l.any p
 | [],_=>rfl
 |x::r,s=>by
  simp only[anyR,qp];cases h:p x with
  |true=>rfl
  |false=>simp only[uB,uN,tw];exact zbS p r s
def zkP(f:FuncId)(dp:Int)(l:List Ex)(p:Ex->Int->Bool)(nx:Ex->Int->Int)(inv:Int->Prop)
 (hf: ∀x∈l,∀s:Int,inv s->zh prog f [zn (yg x),.one (.bx 1 0),.one (.bx 2 0)] [(0,.box [.p (ki s)]),(1,.box [.p (ki dp)]),(2,.box [.bx 0 0])] (.bq (p x s)) ((λs:Int=>[(0,.box [.p (ki s)]),(1,.box [.p (ki dp)]),(2,.box [.bx 0 0])]) (nx x s))/\(p x s=false->inv (nx x s))) (s:Int) (hs:inv s):
 zh prog 234 [pS (.sl 4 (l.map xk)),.one (.cl f [] [.bx 1 0,.bx 2 0])] [(0,.box [.p (ki s)]),(1,.box [.p (ki dp)]),(2,.box [.bx 0 0])] (I (idxR p nx l 0 s).1) ((λs:Int=>[(0,.box [.p (ki s)]),(1,.box [.p (ki dp)]),(2,.box [.bx 0 0])]) (idxR p nx l 0 s).2):=by
 refine gFo func234 λC hC=>?_;have hs0:=hs;refine wG 0 rfl λhl=>?_;rw[uj]at hl
 repeat' first|refine gG ?_|refine gB ?_ ?_<;>intro h
 rw[uj]
 refine zj (λq:Nat×Int=>q.1<=l.length/\inv q.2/\idxR p nx (l.drop q.1) q.1 q.2=idxR p nx l 0 s) (λq=>(λs:Int=>([(0,pS (.sl 4 (l.map xk))),(1,.one (.cl f [] [.bx 1 0,.bx 2 0])),(7,I l.length),(8,I q.1)],[(0,some (.box [.p (ki s)])),(1,some (.box [.p (ki dp)])),(2,some (.box [.bx 0 0]))])) q.2) (λq=>l.length - q.1) hC
  (0,s) ⟨uD _,hs,rfl⟩ id gM ?_
 generalize idxR p nx l 0 s=res;clear hs hs0;rintro⟨i,s⟩ ⟨hi,hv,J⟩;simp only at hi hv J;refine gLc ?_ ?_<;>intro hh
 ·have hlt:i<l.length:=by simpa using hh
  clear hh;obtain⟨x,hx⟩:=za hlt;rw[drop_at hx]at J;simp only[idxR]at J;have hv2:=(hf x (uv hx) s hv).2
  repeat' first|refine gG ?_|refine gB ?_ ?_<;>intro h|refine gIt (xU hx) ?_|refine gR (hf x (uv hx) s hv).1 id ?_|refine zk ?_
  ·rw[uw uf]at J;subst J;exact gE
  ·have U:p x s=false:=by assumption
   rw[U]at J;simp only[uB,uN]at J;rw[wrap64 ua];exact zg (i+1,nx x s) ⟨by simp only;omega,hv2 U,J⟩ id (by simp only;omega) gM
 ·have hge: ¬i<l.length:=by simpa using hh
  rw[uC ua]at J;simp only[idxR]at J;subst J
  repeat' first|refine gG ?_|refine gB ?_ ?_<;>intro h|refine zd ?_
  exact gE
def zkQ(f:FuncId)(dp:Int)(l:List Ex)(p:Ex->Int->Bool)(nx:Ex->Int->Int)(inv:Int->Prop)
 (hf: ∀x∈l,∀s:Int,inv s->zh prog f [zn (yg x),.one (.bx 1 0),.one (.bx 2 0)] [(0,.box [.p (ki s)]),(1,.box [.p (ki dp)]),(2,.box [.bx 0 0])] (.bq (p x s)) ((λs:Int=>[(0,.box [.p (ki s)]),(1,.box [.p (ki dp)]),(2,.box [.bx 0 0])]) (nx x s))/\(p x s=false->inv (nx x s))) (s:Int) (J:inv s):
 zh prog 193 [pS (.sl 4 (l.map xk)),.one (.cl f [] [.bx 1 0,.bx 2 0])] [(0,.box [.p (ki s)]),(1,.box [.p (ki dp)]),(2,.box [.bx 0 0])] (.bq (anyR p nx l s).1) ((λs:Int=>[(0,.box [.p (ki s)]),(1,.box [.p (ki dp)]),(2,.box [.bx 0 0])]) (anyR p nx l s).2):=by
 refine gFo func193 λC hC=>?_
 repeat' first|refine gG ?_|refine gB ?_ ?_<;>intro h|refine gR (zkP f dp l p nx inv hf s J) ic ?_
 exact zK ⟨.inl rfl,id,_,rfl,.qq (zaV p nx l 0 s),by rw[<-zaW p nx l 0 s];exact⟨rfl,rfl,rfl,uh⟩,rfl,rfl⟩
def ixB{α:Type}(p:α->Bool):List α->Nat->Int
 | [],_=> -1
 |x::r,k=>if p x=true then(k:Int)else ixB p r (k+1)
theorem zqe{α:Type}(p:α->Bool): ∀(l:List α) (k:Nat),0<=ixB p l k↔l.any p=true
 | [],_=>by simp[ixB]
 |x::l,k=>by
  rw[qp];by_cases h:p x=true
  ·have e:ixB p (x::l) k=(k:Int):=uw h;rw[e,h];simp
  ·have e:ixB p (x::l) k=ixB p l (k+1):=ur h;rw[e,zqe p l (k+1)];simp only[h,tw]
def zgk(p:α->Bool)(l:List α)(k:Nat):decide (0<=ixB p l k)=l.any p:=by
 rw[oc,oQ];exact zqe p l k
inductive IxK:{α:Type}->(α->List PV)->(α->List PV)->Nat->FuncId->FuncId->Prop
 |expr:IxK xk yg 4 234 193
 |field:IxK zB zB 2 97 59
 |bound:IxK xZ xZ 5 83 156
 |type:IxK zR zR 2 115 72
 |proc:IxK zD zD 5 56 112
section
variable {row rc:α->List PV} {w:Nat} {c d:FuncId} (hk:IxK row rc w c d) {f:FuncId} {l:List α} {p:α->Bool} (hf: ∀x∈l,zh prog f [zn (rc x)] [] (.bq (p x)) [])
abbrev nT(hk:IxK row rc w c d)(hf: ∀x∈l,zh prog f [zn (rc x)] [] (.bq (p x)) [])(i:Nat):zb×Tab:=([(0,pS (.sl w (l.map row))),(1,.one (.cl f [] [])),(7,I l.length),(8,I i)],[])
include hk hf
def zuC:zh prog c [pS (.sl w (l.map row)),.one (.cl f [] [])] [] (I (ixB p l 0)) []:=by
 have hk0:=hk;cases hk;refine gFo func234 λC hC=>?_
 rotate_left
 refine gFo func97 λC hC=>?_
 rotate_left
 refine gFo func83 λC hC=>?_
 rotate_left
 refine gFo func115 λC hC=>?_
 rotate_left
 refine gFo func56 λC hC=>?_
 rotate_left
 all_goals
  refine wG 0 rfl λhl=>?_;rw[uj]at hl
  repeat' first|refine gG ?_|refine gB ?_ ?_<;>intro h
  rw[uj];refine zj (λi:Nat=>i<=l.length/\ixB p (l.drop i) i=ixB p l 0) (nT hk0 hf) (λi=>l.length - i) hC 0 ⟨uD _,rfl⟩ id gM ?_;generalize ixB p l 0=res;rintro i ⟨hi,J⟩;change Goal _ _ _ _ _ [_,_,_,_] [] _;refine gLc ?_ ?_<;>intro hh
  ·have hlt:i<l.length:=by simpa using hh
   clear hh;obtain⟨x,U⟩:=za hlt;rw[drop_at U]at J;simp only[ixB]at J
   repeat' first|refine gG ?_|refine gB ?_ ?_<;>intro h|refine gIt (xU U) ?_|refine gIt (zl U) ?_|refine gR (hf x (uv U)) id ?_|refine zk ?_
   ·rw[uw uf]at J;subst J;exact gF
   ·have hpf:p x=false:=by assumption
    rw[hpf]at J;simp only[uB,uN]at J;rw[wrap64 ua];exact zg (i+1) ⟨ua,J⟩ id ua gM
  ·have hge: ¬i<l.length:=by simpa using hh
   rw[uC ua]at J;simp only[ixB]at J;subst J
   repeat' first|refine gG ?_|refine gB ?_ ?_<;>intro h|refine zd ?_
   exact gF
def zeM:zh prog d [pS (.sl w (l.map row)),.one (.cl f [] [])] [] (.bq (l.any p)) []:=by
 have J:=zuC hk hf;cases hk;refine gFo func193 λC hC=>?_
 rotate_left
 refine gFo func59 λC hC=>?_
 rotate_left
 refine gFo func156 λC hC=>?_
 rotate_left
 refine gFo func72 λC hC=>?_
 rotate_left
 refine gFo func112 λC hC=>?_
 rotate_left
 all_goals
  repeat' first|refine gG ?_|refine gB ?_ ?_<;>intro h|refine gR J (nm []) ?_
  exact gFl id rfl (.qq (zgk p l 0))
end
def zkR(f:FuncId)(l:List Ex)(p:Ex->Bool)(hf: ∀x∈l,zh prog f [zn (yg x)] [] (.bq (p x)) []):zh prog 193 [pS (.sl 4 (l.map xk)),.one (.cl f [] [])] [] (.bq (l.any p)) []:=zeM .expr hf
def zcK(f:FuncId)(l:List Fld)(p:Fld->Bool)(hf: ∀x∈l,zh prog f [zn (zB x)] [] (.bq (p x)) []):zh prog 59 [pS (.sl 2 (l.map zB)),.one (.cl f [] [])] [] (.bq (l.any p)) []:=zeM .field hf
def zi9(f:FuncId)(l:List Bd)(p:Bd->Bool)(hf: ∀x∈l,zh prog f [zn (xZ x)] [] (.bq (p x)) []):zh prog 156 [pS (.sl 5 (l.map xZ)),.one (.cl f [] [])] [] (.bq (l.any p)) []:=zeM .bound hf
def zkS(f:FuncId)(l:List zX)(p:zX->Bool)(hf: ∀x∈l,zh prog f [zn (zR x)] [] (.bq (p x)) []):zh prog 72 [pS (.sl 2 (l.map zR)),.one (.cl f [] [])] [] (.bq (l.any p)) []:=zeM .type hf
def zkT(f:FuncId)(l:List Pr)(p:Pr->Bool)(hf: ∀x∈l,zh prog f [zn (zD x)] [] (.bq (p x)) []):zh prog 112 [pS (.sl 5 (l.map zD)),.one (.cl f [] [])] [] (.bq (l.any p)) []:=zeM .proc hf
def zkU(c:Int)(h: -1000000<=c)(h2:c<=1000000):zh prog 191 [.one (.bx 0 0)] [(0,.box [.p (ki c)])] (.bq (decide (0<=c - 1))) [(0,.box [.p (ki (c - 1))])]:=by
 refine gFo func191 λC hC=>?_
 repeat' first|refine gG ?_|refine gB ?_ ?_<;>intro h
 rw[wrap64 ua];exact gFl id rfl (.qq rfl)
def jw(op:Int):Int:=if zS op= -2 then 2 else zS op
def zja{op:Int}(h1:9<=op)(h2:op<=23)(h3:op≠18)(h4:op≠21):zS op=2:=by
 unfold zS;rw[ur ug,ur ug,ur ua,ur ua,uw ug]
def zcL{op:Int}(h1:op<1\/24<op):zS op= -2:=by
 unfold zS;rw[ur ug,ur ug,ur ua,ur ua,ur ug]
def zgl(op:Int):zh prog 190 [I op] [] (.tup [I (jw op),.bq (!decide (zS op= -2))]) []:=by
 have key: ∀n b,(n=jw op/\b= !decide (zS op= -2))->LeS (.tup [I n,Bo b]) (.tup [I (jw op),.bq (!decide (zS op= -2))]):=λn b h=>by
  obtain⟨rfl,rfl⟩:=h;exact LeS.tup (.cons (.refl _) (.cons (LeS.qb rfl) .nil))
 have key2: ∀n b,(n=jw op/\b= !decide (zS op= -2))->LeS (.tup [I n,.bq b]) (.tup [I (jw op),.bq (!decide (zS op= -2))]):=λn b h=>by
  obtain⟨rfl,rfl⟩:=h;exact LeS.refl _
 refine gFo func190 λC hC=>?_
 repeat' first|refine znB T hC true 400 rfl rfl ?_|refine zdE rfl (λh=>?_) (λh=>?_)|refine ziN T hC ud ?_|refine jZ (λh=>?_) (λh=>?_)|refine j0 rfl rfl rfl (λh=>?_) (λh=>?_)|refine j3 rfl rfl (λh=>?_) (λh=>?_)
 all_goals
  first
   |refine gFl id rfl (key _ _ ?_)
   |refine gFl id rfl (key2 _ _ ?_)
  clear key key2
  first
   |(obtain rfl:=uk h;exact⟨rfl,rfl⟩)
   |(simp only[uq,uu]at*
     by_cases J:op<=23
     ·have e:=zja (op:=op) ua J ua ua;exact⟨by rw[jw,e];rfl,by rw[e];simp[J]⟩
     ·have e:=zcL (op:=op) ua
      exact⟨by rw[jw,e];rfl,by rw[e];simp[J]⟩)
   |(simp only[uq,uu]at*
     have e:=zcL (op:=op) ua
     exact⟨by rw[jw,e];rfl,by rw[e];rfl⟩)
def zgm(e:Ex):Bool:=if e.op=1 then decide (0<=e.n)&&decide (e.n<=1099511627776)else if e.op=2 then decide (e.n=0)||decide (e.n=1)else decide (e.n=0)
def zot(e:Ex):vM e=(!decide (zS e.op= -2)&& !(decide (0<=zS e.op)&& !decide ((e.l.length:Int)=zS e.op))&& !(decide (zS e.op= -1)&&decide (6<(e.l.length:Int)))&&zaS e&&zgm e):=rfl
def zeN(e:Ex):vM e=(!decide (zS e.op= -2)&&(zaS e&&zgm e)&& !(decide (0<=zS e.op)&& !decide ((e.l.length:Int)=zS e.op))&& !(decide (zS e.op= -1)&&decide (6<(e.l.length:Int)))):=by
 rw[zot];generalize decide (zS e.op= -2)=a;generalize (decide (0<=zS e.op)&& !decide ((e.l.length:Int)=zS e.op))=b;generalize (decide (zS e.op= -1)&&decide (6<(e.l.length:Int)))=c;cases a<;>cases b<;>cases c<;>cases zaS e<;>cases zgm e<;>rfl
def zeO(op:Int): -2<=zS op/\(zS op<0->zS op= -1\/zS op= -2):=by
 unfold zS
 repeat' split
 all_goals omega
def zgn(e:Ex):zh prog 192 [zn (yg e)] [] (.bq (zaS e&&zgm e)) []:=by
 refine gFo func192 λC hC=>?_
 repeat' first|refine znB T hC true 400 rfl rfl ?_|refine zdE rfl (λh=>?_) (λh=>?_)|refine ziN T hC ud ?_|refine jZ (λh=>?_) (λh=>?_)|refine j0 rfl rfl rfl (λh=>?_) (λh=>?_)|refine j3 rfl rfl (λh=>?_) (λh=>?_)|refine gC (yl _) ?_|refine zj0 T (.inl rfl) rfl ?_|refine zhn T (.inl rfl) rfl ?_
 all_goals (simp_all[zaS,zgm]<;>omega)
mutual
def exB:Ex->Int->Int->Bool×Int
 | .mk op n s l,d,c=>if(decide (0<=c - 1)&& !decide (60<d)&&vM (.mk op n s l))=true then exL l (d+1) (c - 1)else(false,c - 1)
def exL:List Ex->Int->Int->Bool×Int
 | [],_,c=>(true,c)
 |x::r,d,c=>if(exB x d c).1=true then exL r d (exB x d c).2 else(false,(exB x d c).2)
end
def zqf(e:Ex)(d c:Int):exB e d c=if(decide (0<=c - 1)&& !decide (60<d)&&vM e)=true then exL e.l (d+1) (c - 1)else(false,c - 1):=by
 cases e;rfl
mutual
theorem zeP: ∀(e:Ex) (d c:Int),0<=c-> -1<=(exB e d c).2/\(exB e d c).2<=c/\((exB e d c).1=true->0<=(exB e d c).2)
 | .mk op n s l,d,c,h=>by
   simp only[exB];split
   ·rename_i h';simp only[um,uq]at h';have:=zeQ l (d+1) (c - 1) h'.1.1;exact⟨this.1,ua,this.2.2⟩
   ·simp only;exact⟨ua,ua,λe=>by cases e⟩
theorem zeQ: ∀(l:List Ex) (d c:Int),0<=c-> -1<=(exL l d c).2/\(exL l d c).2<=c/\((exL l d c).1=true->0<=(exL l d c).2)
 | [],d,c,h=>by simp only[exL];exact⟨ua,ua,λ_=>h⟩
 |x::r,d,c,h=>by
  simp only[exL];have h1:=zeP x d c h;split
  ·rename_i h2;have h3:=zeQ r d _ (h1.2.2 h2);exact⟨h3.1,ua,h3.2.2⟩
  ·exact⟨h1.1,h1.2.1,λe=>by cases e⟩
end
theorem zkV(d:Int): ∀(l:List Ex) (c:Int),anyR (λx c=> !(exB x d c).1) (λx c=>(exB x d c).2) l c=(!(exL l d c).1,(exL l d c).2)
 | [],c=>rfl
 |x::r,c=>by
  simp only[anyR,exL];cases h:(exB x d c).1 with
  |true=>simp only[qo,uB,uN,uW];exact zkV d r _
  |false=>rfl
def zou(x:Ex)(dp c:Int)(h1:0<=dp)(h2:dp<=60)(h:zh prog 131 [zn (yg x),I (dp+1),.one (.bx 0 0)] [(0,.box [.p (ki c)])] (.bq (exB x (dp+1) c).1) [(0,.box [.p (ki (exB x (dp+1) c).2)])]):
 zh prog 194 [zn (yg x),.one (.bx 1 0),.one (.bx 2 0)] [(0,.box [.p (ki c)]),(1,.box [.p (ki dp)]),(2,.box [.bx 0 0])] (.bq (!(exB x (dp+1) c).1))
  [(0,.box [.p (ki (exB x (dp+1) c).2)]),(1,.box [.p (ki dp)]),(2,.box [.bx 0 0])]:=by
 refine gFo func194 λC hC=>?_
 repeat' first|refine gG ?_|refine gB ?_ ?_<;>intro h
 rw[wrap64 ua]
 repeat' first|refine gG ?_|refine gB ?_ ?_<;>intro h|refine gR h iw ?_
 exact gFl id rfl (.qq rfl)
theorem zjb: ∀(N:Nat) (e:Ex) (d c:Int),sizeOf e<N->0<=d->d<=61->0<=c->c<=1000->zh prog 131 [zn (yg e),I d,.one (.bx 0 0)] [(0,.box [.p (ki c)])] (.bq (exB e d c).1) [(0,.box [.p (ki (exB e d c).2)])]:=by
 intro N
 induction N with
 |zero=>intro e d c h;omega
 |succ N ih=>
  intro e d c hN hd1 hd2 hc1 hc2;have no:(decide (0<=c - 1)&& !decide (60<d)&&vM e)=false->(exB e d c)=(false,c - 1):=λh=>by rw[zqf,h];rfl
  have yes:(decide (0<=c - 1)&& !decide (60<d)&&vM e)=true->(exB e d c)=exL e.l (d+1) (c - 1):=λh=>by rw[zqf,uw h]
  refine gFo func131 λC hC=>?_
  repeat' first|refine gG ?_|refine gB ?_ ?_<;>intro h|refine gC (zgl _) ?_|refine wW hC (zkU c ua ua) iw rfl rfl (yG.refl _) rfl rfl rfl rfl rfl rfl rfl rfl ?_|refine gC (zgn _) ?_
  all_goals (try simp only[uj]at*)
  all_goals first
   |(have hn:(decide (0<=c - 1)&& !decide (60<d)&&vM e)=false:=by clear ih no yes;rw[zeN];have:=zeO e.op;generalize (zaS e&&zgm e)=q at *; simp_all[jw]<;>omega
     rw[no hn]
     exact gFl id rfl (.qb rfl))
   |(have U:(decide (0<=c - 1)&& !decide (60<d)&&vM e)=true:=by clear ih no yes;rw[zeN];have:=zeO e.op;generalize (zaS e&&zgm e)=q at *; simp_all[jw]<;>omega
     rw[yes U];simp only[um,ux,uq,uu]at U
     have hh:zh prog 193 [pS (v8 e.l),.one (.cl 194 [] [.bx 1 0,.bx 2 0])] [(0,.box [.p (ki (c - 1))]),(1,.box [.p (ki d)]),(2,.box [.bx 0 0])]
      (.bq (!(exL e.l (d+1) (c - 1)).1)) [(0,.box [.p (ki (exL e.l (d+1) (c - 1)).2)]),(1,.box [.p (ki d)]),(2,.box [.bx 0 0])]:=by
      have:=zkQ 194 d e.l (λx c=> !(exB x (d+1) c).1) (λx c=>(exB x (d+1) c).2) (λc=>0<=c/\c<=1000) (λx hx c J=>⟨zou x d c ua ua (ih x (d+1) c (by have:=qw hx;have:=zeL e;omega) ua ua J.1 J.2),λhp=>by
       have hb:=zeP x (d+1) c J.1
       exact⟨hb.2.2 (by simpa using hp),ua⟩⟩) (c - 1) ⟨ua,ua⟩
      rw[zkV]at this;exact this
     repeat' first|refine gG ?_|refine gB ?_ ?_<;>intro h|refine gR hh (nm [0,1004,1005]) ?_
     exact gFl id rfl (.qq ue))
theorem zbT: ∀(l:List Ex) (d n:Int),n<=countL l d n
 | [],d,n=>by simp only[countL];omega
 |e::es,d,n=>by
  simp only[countL];have h1:=(xP e (d+1)).1;have h2:=zbT es d (n+countS e (d+1));split<;>omega
mutual
theorem zeR: ∀(e:Ex) (d c:Int),0<=c->c<=1000->(exB e d c).1=decide (countS e d<=c)/\(countS e d<=c->(exB e d c).2=c - countS e d)
 | .mk op n s l,d,c,h0,h1=>by
   by_cases hb:(decide (60<d)|| !vM (.mk op n s l))=true
   ·have e1:countS (.mk op n s l) d=1001:=by simp only[countS];exact uw hb
    have e2:exB (.mk op n s l) d c=(false,c - 1):=by
     simp only[exB];refine ur λh=>?_;simp only[um,uJ,ux]at h hb;rcases hb with hb|hb
     ·rw[hb]at h;simp at h
     ·rw[hb]at h;simp at h
    rw[e1,e2];exact⟨(uI ua).symm,λh=>by omega⟩
   ·have e1:countS (.mk op n s l) d=countL l d 1:=by simp only[countS];exact ur hb
    simp only[uJ,uq,ux,oW,qD]at hb;rw[e1];by_cases hc:0<=c - 1
    ·have e2:exB (.mk op n s l) d c=exL l (d+1) (c - 1):=by simp only[exB];exact uw (by simp[hc,hb.2];omega)
     rw[e2];have:=zeS l d (c - 1) 1 ua ua ua;rw[show 1+(c - 1)=c by omega]at this;exact this
    ·have e2:exB (.mk op n s l) d c=(false,c - 1):=by simp only[exB];exact ur λh=>by simp only[um,uq]at h;omega
     rw[e2];have:=zbT l d 1;exact⟨(uI ua).symm,λh=>by omega⟩
theorem zeS: ∀(l:List Ex) (d c n:Int),0<=c->1<=n->n+c<=1000->(exL l (d+1) c).1=decide (countL l d n<=n+c)/\(countL l d n<=n+c->(exL l (d+1) c).2=n+c - countL l d n)
 | [],d,c,n,h0,h1,h2=>by
   have e1:countL [] d n=n:=by simp only[countL]
   rw[e1];simp only[exL];exact⟨(uZ ua).symm,λ_=>by omega⟩
 |x::r,d,c,n,h0,h1,h2=>by
  have hx:=zeR x (d+1) c h0 ua;have hk:=(xP x (d+1)).1;by_cases hc:countS x (d+1)<=c
  ·have e1:countL (x::r) d n=countL r d (n+countS x (d+1)):=by simp only[countL];exact ur ua
   have e2:exL (x::r) (d+1) c=exL r (d+1) (c - countS x (d+1)):=by
    simp only[exL];rw[hx.1,uZ hc,uw rfl,hx.2 hc]
   rw[e1,e2];have:=zeS r d (c - countS x (d+1)) (n+countS x (d+1)) ua ua ua;rw[show n+countS x (d+1)+(c - countS x (d+1))=n+c by omega]at this;exact this
  ·have e2:exL (x::r) (d+1) c=(false,(exB x (d+1) c).2):=by
    simp only[exL];rw[hx.1,uI hc];exact ur ue
   have hg:=zbT r d (n+countS x (d+1))
   have hbig:n+c<countL (x::r) d n:=by
    simp only[countL];by_cases h3:1000<n+countS x (d+1)
    ·rw[uw h3];omega
    ·rw[ur h3];omega
   rw[e2];exact⟨(uI ua).symm,λh=>by omega⟩
end
def zkW(e:Ex):(exB e 1 1000).1=y2 e:=(zeR e 1 1000 ua ua).1
def yP(e:Ex):zh prog 90 [zn (yg e)] [] (.bq (y2 e)) []:=by
 refine gFo func90 λC hC=>?_
 repeat' first|refine gG ?_|refine gB ?_ ?_<;>intro h|refine wW hC (zjb (sizeOf e+1) e 1 1000 ua ua ua ua ua) iB rfl rfl (yG.refl _) rfl rfl rfl rfl rfl rfl rfl rfl ?_
 exact gFl id rfl (.qq (zkW e))
def zaX(s:Sm):Bool:=(if s.op=1\/s.op=2 then isName s.s else decide (s.s=(⟨#[]⟩:UI)))&& !(!decide (s.op=3)&&(decide (0<(s.els.length:Int))||(!decide (s.op=4)&&decide (0<(s.l.length:Int)))))&&
 (if s.op=1\/s.op=3\/s.op=4 then decide ((s.e.length:Int)=1)else if s.op=2 then decide ((s.e.length:Int)=2)else if s.op=5 then decide ((s.e.length:Int)<=1)
   else if s.op=6 then decide ((s.e.length:Int)=1)&&decide ((s.e[0]?).map Ex.op=some 7)else false)
def zov(s:Sm):(zaX s&&s.e.all y2)=vJ s:=by
 have hz: ∀n:Nat,decide ((n:Int)=0)= !decide (0<(n:Int)):=λn=>by
  by_cases h:(n:Int)=0
  ·rw[uZ h,uI ua];rfl
  ·rw[uI h,uZ ua];rfl
 have h1: ∀n:Nat,(!decide ((n:Int)<1)&& !decide (1<(n:Int)))=decide ((n:Int)=1):=λn=>by
  by_cases h:(n:Int)=1
  ·simp[h]
  ·rw[uI h];by_cases h2:(n:Int)<1<;>simp[h2]<;>omega
 have h2: ∀n:Nat,(!decide ((n:Int)<2)&& !decide (2<(n:Int)))=decide ((n:Int)=2):=λn=>by
  by_cases h:(n:Int)=2
  ·simp[h]
  ·rw[uI h];by_cases h2:(n:Int)<2<;>simp[h2]<;>omega
 have h3: ∀n:Nat,(!decide ((n:Int)<0)&& !decide (1<(n:Int)))=decide ((n:Int)<=1):=λn=>by
  by_cases h:(n:Int)<=1
  ·simp[h]<;>omega
  ·simp[h]<;>omega
 simp only[vJ,zhF,zaX,zks,wD,h1,h2,h3,hz];generalize s.e.all y2=A;generalize isName s.s=B;generalize decide (s.s=(⟨#[]⟩:UI))=E;generalize decide (0<(s.els.length:Int))=X;generalize decide (0<(s.l.length:Int))=Y;generalize decide ((s.e[0]?).map Ex.op=some 7)=Z;generalize decide ((s.e.length:Int)=1)=N1;generalize decide ((s.e.length:Int)=2)=N2;generalize decide ((s.e.length:Int)<=1)=N3;by_cases J:s.op=1
 ·simp only[J,Int.reduceEq,UB,UH,oI,oT,uW,uN,ou,qE];revert A B E X Y Z N1 N2 N3;decide
 by_cases U:s.op=2
 ·simp only[U,Int.reduceEq,UB,UH,oI,oT,uW,uN,ou,qE];revert A B E X Y Z N1 N2 N3;decide
 by_cases o3:s.op=3
 ·simp only[o3,Int.reduceEq,UB,UH,oI,oT,uW,uN,ou,qE];revert A B E X Y Z N1 N2 N3;decide
 by_cases o4:s.op=4
 ·simp only[o4,Int.reduceEq,UB,UH,oI,oT,uW,uN,ou,qE];revert A B E X Y Z N1 N2 N3;decide
 by_cases o5:s.op=5
 ·simp only[o5,Int.reduceEq,UB,UH,oI,oT,uW,uN,ou,qE];revert A B E X Y Z N1 N2 N3;decide
 by_cases o6:s.op=6
 ·simp only[o6,Int.reduceEq,UB,UH,oI,oT,uW,uN,ou,qE];revert A B E X Y Z N1 N2 N3;decide
 simp only[J,U,o3,o4,o5,o6,or_self,uN,qZ,tP]
def zgo(s:Sm):zh prog 213 [zn (zgp s)] [] (.bq (zaX s)) []:=by
 refine gFo func213 λC hC=>?_
 repeat' first|refine znB T hC true 400 rfl rfl ?_|refine zdE rfl (λh=>?_) (λh=>?_)|refine ziN T hC ud ?_|refine jZ (λh=>?_) (λh=>?_)|refine j0 rfl rfl rfl (λh=>?_) (λh=>?_)|refine j3 rfl rfl (λh=>?_) (λh=>?_)|refine gC (yl _) ?_|refine zj0 T (.inl rfl) rfl ?_|refine zhn T (.inl rfl) rfl ?_|(obtain⟨x,J⟩:=za (l:=s.e) (i:=0) (by have:=uk h;simp only[uj]at this;omega);refine jE T hC rfl rfl rfl (qz _) (zx J) rfl rfl ?_)
 all_goals (try simp only[uj]at*)
 all_goals (simp_all[zaX]<;>omega)
mutual
def stB:Sm->Int->Int->Bool×Int
 | .mk op s e l els,d,c=>if(decide (0<=c - 1)&&(zaX (.mk op s e l els)&&e.all y2))=true then
    (if(if decide (0<(l.length:Int))&&decide (60<d+1)then(false,c - 1)else stQ l (d+1) (c - 1)).1=true then
      (if decide (0<(els.length:Int))&&decide (60<d+1)then(false,(if decide (0<(l.length:Int))&&decide (60<d+1)then(false,c - 1)else stQ l (d+1) (c - 1)).2)
        else stQ els (d+1) (if decide (0<(l.length:Int))&&decide (60<d+1)then(false,c - 1)else stQ l (d+1) (c - 1)).2)
      else(false,(if decide (0<(l.length:Int))&&decide (60<d+1)then(false,c - 1)else stQ l (d+1) (c - 1)).2))
    else(false,c - 1)
def stQ:List Sm->Int->Int->Bool×Int
 | [],_,c=>(true,c)
 |x::r,d,c=>if(stB x d c).1=true then stQ r d (stB x d c).2 else(false,(stB x d c).2)
end
def stP(l:List Sm)(d c:Int):Bool×Int:=if decide (0<(l.length:Int))&&decide (60<d)then(false,c)else stQ l d c
def zqg(s:Sm)(d c:Int):stB s d c=if(decide (0<=c - 1)&&(zaX s&&s.e.all y2))=true then
 (if(stP s.l (d+1) (c - 1)).1=true then stP s.els (d+1) (stP s.l (d+1) (c - 1)).2 else(false,(stP s.l (d+1) (c - 1)).2))else(false,c - 1):=by
 cases s;rfl
def zgq{n k:Int}(h:0<=k):n<=zex n k:=by
 unfold zex;by_cases q:n<=200
 ·rw[uw q];omega
 ·rw[ur q];omega
def zkX(s:Sm)(d n:Int)(h0:0<=n)(h1:n<=200):n<stN s d n:=by
 rw[zhG];split
 ·omega
 ·have J:=(y6 s.l (d+1) 0 ua ua).1;have U:=(y6 s.els (d+1) 0 ua ua).1;have b1:=zgq (n:=n+1) J;have b2:=zgq (n:=zex (n+1) (stL s.l (d+1) 0)) U;omega
theorem zqh: ∀(l:List Sm) (d n:Int),0<=n->n<=200->n<=stL l d n
 | [],d,n,_,_=>by simp only[stL];omega
 |s::r,d,n,h0,h1=>by
  have h2:=zkX s d n h0 h1;simp only[stL];by_cases h3:200<stN s d n
  ·rw[uw h3];omega
  ·rw[ur h3];have:=zqh r d (stN s d n) ua ua;omega
theorem zow{l:List Sm}{d:Int}(h:0<(l.length:Int))(J:60<d)(n:Int):stL l d n=201:=by
 cases l with
 |nil=>simp at h
 |cons s r=>
  have:stN s d n=201:=by rw[zhG,uw (by simp[J])]
  simp only[stL,this];rfl
def zkY(r:Bool×Int)(k t:Int):Prop:=r.1=decide (k<=t)/\(k<=t->r.2=t - k)
variable {r:Bool×Int}
def zkY.of_le{k t:Int}(h:k<=t)(e:r=(true,t - k)):zkY r k t:=by subst e;exact⟨(uZ h).symm,λ_=>rfl⟩
def zkY.zjc{k t:Int}(h:t<k)(e:r.1=false):zkY r k t:=⟨by rw[e];exact(uI ua).symm,λh'=>by omega⟩
def zkY.le{k t:Int}(h:zkY r k t)(J:k<=t):r=(true,t - k):=Ur (h.1.trans (uZ J)) (h.2 J)
def zkY.gt{k t:Int}(h:zkY r k t)(h1:t<k):r.1=false:=h.1.trans (uI ua)
mutual
theorem zkZ: ∀(s:Sm) (d c n:Int),0<=n->0<=c->n+c<=200->d<=60->zkY (stB s d c) (stN s d n) (n+c)
 | .mk op s e l els,d,c,n,h0,h1,h2,hd=>by
   have hgt:=zkX (.mk op s e l els) d n h0 ua
   have eB:stB (.mk op s e l els) d c=if(decide (0<=c - 1)&&vJ (.mk op s e l els))=true then
    (if(stP l (d+1) (c - 1)).1=true then stP els (d+1) (stP l (d+1) (c - 1)).2 else(false,(stP l (d+1) (c - 1)).2))else(false,c - 1):=by
    rw[zqg,zov];rfl
   rw[eB];by_cases hs:vJ (.mk op s e l els)=true
   ·have eN:stN (.mk op s e l els) d n=zex (zex (n+1) (stL l (d+1) 0)) (stL els (d+1) 0):=by
     rw[zhG,ur (by simp[hs];omega)];rfl
    rw[hs,qj];by_cases hc:0<=c - 1
    ·rw[uw (uZ hc)];have a1:=(y6 l (d+1) 0 ua ua).1;have a2:=(y6 els (d+1) 0 ua ua).1;have hl:=zbU l (d+1) (c - 1) ua ua;by_cases k1:stL l (d+1) 0<=c - 1
     ·rw[hl.le k1,uw rfl];have hm:=zbU els (d+1) (c - 1 - stL l (d+1) 0) ua ua;simp only;have eb:zex (n+1) (stL l (d+1) 0)=n+1+stL l (d+1) 0:=uw ua;have eb2:zex (n+1+stL l (d+1) 0) (stL els (d+1) 0)=n+1+stL l (d+1) 0+stL els (d+1) 0:=uw ua;rw[eN,eb,eb2];by_cases k2:stL els (d+1) 0<=c - 1 - stL l (d+1) 0
      ·rw[hm.le k2];exact .of_le ua (Ur rfl (by simp only;omega))
      ·exact .zjc ua (hm.gt ua)
     ·have e1:=hl.gt ua;rw[e1];refine .zjc ?_ rfl;rw[eN];have eb:zex (n+1) (stL l (d+1) 0)=n+1+stL l (d+1) 0:=uw ua;rw[eb];have:=zgq (n:=n+1+stL l (d+1) 0) a2;omega
    ·rw[ur ug];exact .zjc ua rfl
   ·have hs':vJ (.mk op s e l els)=false:=by simpa using hs
    have eN:stN (.mk op s e l els) d n=201:=by rw[zhG,uw (by simp[hs'])]
    rw[hs',qZ,ur ue,eN];exact .zjc ua rfl
theorem zeT: ∀(l:List Sm) (d c n:Int),0<=n->0<=c->n+c<=200->d<=60->zkY (stQ l d c) (stL l d n) (n+c)
 | [],d,c,n,h0,h1,h2,hd=>by
   have e1:stL [] d n=n:=by simp only[stL]
   rw[e1];exact .of_le ua (by simp only[stQ];exact Ur rfl (by simp only;omega))
 |x::r,d,c,n,h0,h1,h2,hd=>by
  have hx:=zkZ x d c n h0 h1 h2 hd;have hg:=zkX x d n h0 ua;by_cases k:stN x d n<=n+c
  ·have e1:stL (x::r) d n=stL r d (stN x d n):=by simp only[stL];exact ur ua
   have e2:stQ (x::r) d c=stQ r d (n+c - stN x d n):=by simp only[stQ];rw[hx.le k];rfl
   rw[e1,e2];have:=zeT r d (n+c - stN x d n) (stN x d n) ua ua ua hd;rw[show stN x d n+(n+c - stN x d n)=n+c by omega]at this;exact this
  ·have e2:(stQ (x::r) d c).1=false:=by simp only[stQ];rw[hx.gt ua];rfl
   refine .zjc ?_ e2;simp only[stL];by_cases h3:200<stN x d n
   ·rw[uw h3];omega
   ·rw[ur h3];have:=zqh r d (stN x d n) ua ua;omega
theorem zbU: ∀(l:List Sm) (d c:Int),0<=c->c<=200->zkY (stP l d c) (stL l d 0) c
 |l,d,c,h0,h1=>by
  unfold stP;by_cases hd:60<d
  ·by_cases hl:0<(l.length:Int)
   ·rw[uw (by simp[hl,hd];omega),zow hl hd];exact .zjc ua rfl
   ·have:l=[]:=tr ua;subst this;rw[ur ue];exact .of_le (by simp only[stL];omega) (by simp only[stQ,stL];exact Ur rfl (by simp only;omega))
  ·rw[ur (by simp[hd])];have:=zeT l d c 0 ua h0 ua ua;rw[Int.zero_add]at this;exact this
end
mutual
theorem zeU: ∀(s:Sm) (d c:Int),0<=c-> -1<=(stB s d c).2/\(stB s d c).2<=c/\((stB s d c).1=true->0<=(stB s d c).2)
 | .mk op s e l els,d,c,h=>by
   have eB:stB (.mk op s e l els) d c=if(decide (0<=c - 1)&&(zaX (.mk op s e l els)&&e.all y2))=true then
    (if(stP l (d+1) (c - 1)).1=true then stP els (d+1) (stP l (d+1) (c - 1)).2 else(false,(stP l (d+1) (c - 1)).2))else(false,c - 1):=rfl
   rw[eB];by_cases hc:(decide (0<=c - 1)&&(zaX (.mk op s e l els)&&e.all y2))=true
   ·rw[uw hc];have h0:0<=c - 1:=by simp only[um,uq]at hc;exact hc.1
    have h1:=zbV l (d+1) (c - 1) h0;by_cases h2:(stP l (d+1) (c - 1)).1=true
    ·rw[uw h2];have h3:=zbV els (d+1) _ (h1.2.2 h2);exact⟨h3.1,ua,h3.2.2⟩
    ·rw[ur h2];exact⟨h1.1,by simp only;omega,λe=>by cases e⟩
   ·rw[ur hc];exact⟨by simp only;omega,by simp only;omega,λe=>by cases e⟩
theorem zeV: ∀(l:List Sm) (d c:Int),0<=c-> -1<=(stQ l d c).2/\(stQ l d c).2<=c/\((stQ l d c).1=true->0<=(stQ l d c).2)
 | [],d,c,h=>by simp only[stQ];exact⟨ua,ua,λ_=>h⟩
 |x::r,d,c,h=>by
  have h1:=zeU x d c h;simp only[stQ];by_cases h2:(stB x d c).1=true
  ·rw[uw h2];have h3:=zeV r d _ (h1.2.2 h2);exact⟨h3.1,ua,h3.2.2⟩
  ·rw[ur h2];exact⟨h1.1,h1.2.1,λe=>by cases e⟩
theorem zbV: ∀(l:List Sm) (d c:Int),0<=c-> -1<=(stP l d c).2/\(stP l d c).2<=c/\((stP l d c).1=true->0<=(stP l d c).2)
 |l,d,c,h=>by
  unfold stP;by_cases h2:(decide (0<(l.length:Int))&&decide (60<d))=true
  ·rw[uw h2];exact⟨by simp only;omega,by simp only;omega,λe=>by cases e⟩
  ·rw[ur h2];exact zeV l d c h
end
def zk0(x:Ex):zh prog 214 [zn (yg x)] [] (.bq (!y2 x)) []:=by
 refine gFo func214 λC hC=>?_
 repeat' first|refine gG ?_|refine gB ?_ ?_<;>intro h|refine gC (yP _) ?_|refine gQ ?_
 rfl
theorem zrN(l:List Ex):(l.any λx=> !y2 x)= !l.all y2:=by
 induction l with
 |nil=>rfl
 |cons a l ih=>simp only[qp,tQ,ih,UE]
set_option maxHeartbeats 1000000 in
theorem zgr: ∀(N:Nat) (l:List Sm) (d c:Int),sizeOf l<N->0<=d->d<=61->0<=c->c<=200->zh prog 158 [pS (yw l),I d,.one (.bx 0 0)] [(0,.box [.p (ki c)])] (.bq (stP l d c).1) [(0,.box [.p (ki (stP l d c).2)])]:=by
 intro N
 induction N with
 |zero=>intro l d c h;omega
 |succ N ih=>
  intro l d c hN hd1 hd2 hc1 hc2;refine gFo func158 λC hC=>?_;refine wG 0 rfl λhlen=>?_;rw[uj]at hlen
  repeat' first|refine gG ?_|refine gB ?_ ?_<;>intro h
  all_goals (try simp only[uj]at*)
  ·have e:stP l d c=(false,c):=by unfold stP;rw[uw (by simp_all)]
   rw[e];exact gFl id rfl (.qb rfl)
  all_goals
   have J:l=[]\/d<=60:=by
    by_cases hz:d<=60
    ·exact .inr hz
    ·left;have: ¬0<(l.length:Int):=λh0=>by simp_all<;>omega
     exact tr ua
   have e:stP l d c=stQ l d c:=by
    unfold stP;rcases J with rfl|J
    ·rw[ur ue]
    ·rw[ur ug]
   rw[e];clear e h;generalize hR:stQ l d c=RES
   refine zj (λq:Nat×Int=>q.1<=l.length/\0<=q.2/\q.2<=200/\stQ (l.drop q.1) d q.2=RES) (λq=>([(1,I d),(2,.one (.bx 0 0)),(16,pS (yw l)),(17,I l.length),(18,I q.1)],[(0,some (.box [.p (ki q.2)]))])) (λq=>l.length - q.1) hC
    (0,c) ⟨uD _,hc1,hc2,hR⟩ id gM ?_
   clear hR;rintro⟨i,q⟩ ⟨hi,hq1,hq2,U⟩;simp only at hi hq1 hq2 U;refine gLc ?_ ?_<;>intro h
   rotate_left
   ·have hge: ¬i<l.length:=by simpa using h
    rw[uC ua]at U;simp only[stQ]at U;subst U
    repeat' first|refine gG ?_|refine gB ?_ ?_<;>intro h|refine zd ?_
    exact gFl id rfl (.qb rfl)
   have hlt:i<l.length:=by simpa using h
   clear h
   have hd:d<=60:=by
    rcases J with rfl|J
    ·simp at hlt
    ·exact J
   obtain⟨x,hx⟩:=za hlt;have hsz:=zf3 hx;have hss:=zhH x;have hbs:=zeU x d q hq1;rw[drop_at hx]at U;simp only[stQ]at U
   have no: ∀r:Bool×Int,r.1=false->stB x d q=r->r=RES:=λr h1 h2=>by
    rw[h2,ur (by rw[h1];simp)]at U;rw[<-U];exact Ur h1 rfl
   have eB:=zqg x d q;have w1:IntKind.i64.wrap (d+1)=d+1:=wrap64 ua;have hA:=zkR 214 x.e (λy=> !y2 y) (λy _=>zk0 y);rw[zrN]at hA;have b1:=λh0=>zbV x.l (d+1) (q - 1) h0
   have nn:(!decide (0<=q - 1))=false->0<=q - 1:=λh=>by simpa using h
   have k1:=λ(h0:(!decide (0<=q - 1))=false)=>ih x.l (d+1) (q - 1) ua ua ua (nn h0) ua
   have k2:=λ(h0:(!decide (0<=q - 1))=false) (h1:(!(stP x.l (d+1) (q - 1)).1)=false)=>ih x.els (d+1) (stP x.l (d+1) (q - 1)).2 ua ua ua ((b1 (nn h0)).2.2 (by simpa using h1)) (by have:=(b1 (nn h0)).2.1;omega)
   clear ih hsz hss;generalize hr1:stP x.l (d+1) (q - 1)=r1 at*;generalize hr2:stP x.els (d+1) r1.2=r2 at*;generalize hsb:stB x d q=sb at*
   repeat' first|refine gG ?_|refine gB ?_ ?_<;>intro h|refine gXT ?_|refine wW hC (zkU q ua ua) iw rfl rfl (yG.refl _) rfl rfl rfl rfl rfl rfl rfl rfl ?_|refine gC (zgo _) ?_|refine gC hA ?_|rw[w1]|refine wW hC (k1 uf) iw rfl rfl (yG.refl _) rfl rfl rfl rfl rfl rfl rfl rfl ?_|refine wW hC (k2 uf uf) iw rfl rfl (yG.refl _) rfl rfl rfl rfl rfl rfl rfl rfl ?_|refine zk ?_
   all_goals clear k1 k2 hA w1 hx hr1 hr2 hsb b1 nn
   all_goals first
    |(have e:sb=(false,q - 1):=by clear U no hbs J;rw[eB];clear eB;exact ur (λhcc=>by simp only[um,uq]at hcc;obtain⟨hk1,hk2,hk3⟩:=hcc;simp_all[-List.all_eq_true, -List.all_eq_false]<;>omega)
      have e2:=no _ rfl e;subst e2
      exact gFl id rfl (.qb rfl))
    |(have e:sb=(false,r1.2):=by clear U no hbs J;rw[eB];clear eB;rw[uw (by simp_all[-List.all_eq_true, -List.all_eq_false]),ur (by simp_all[-List.all_eq_true, -List.all_eq_false])]
      have e2:=no _ rfl e;subst e2
      exact gFl id rfl (.qb rfl))
    |(have e:sb=r2:=by clear U no hbs J;rw[eB];clear eB;rw[uw (by simp_all[-List.all_eq_true, -List.all_eq_false]),uw (by simp_all[-List.all_eq_true, -List.all_eq_false])]
      have h2:r2.1=false:=by simpa using h
      have e2:=no _ h2 e;have e3:RES=(false,r2.2):=by rw[<-e2];exact Ur h2 rfl
      subst e3
      exact gFl id rfl (.qb rfl))
    |(have e:sb=r2:=by clear U no hbs J;rw[eB];clear eB;rw[uw (by simp_all[-List.all_eq_true, -List.all_eq_false]),uw (by simp_all[-List.all_eq_true, -List.all_eq_false])]
      have h2:r2.1=true:=by simpa using h
      rw[e,uw h2]at U;rw[e]at hbs;rw[vd ua]
      exact zg (i+1,r2.2) ⟨by simp only;omega,hbs.2.2 h2,by simp only;omega,U⟩ id (by simp only;omega) gM)
def zeW(s:Str):zh prog 154 [Sr s] [] (.bq (isType s)) []:=by
 refine gFo func154 λC hC=>?_
 repeat' first|refine gG ?_|refine gB ?_ ?_<;>intro h|refine gC (yl _) ?_|refine gQ ?_|refine gL ?_
 all_goals simp_all[isType]
def zcM(s:Str):zh prog 155 [Sr s] [] (.bq (zhE s)) []:=by
 refine gFo func155 λC hC=>?_
 repeat' first|refine gG ?_|refine gB ?_ ?_<;>intro h|refine gC (yl _) ?_|refine gQ ?_|refine gL ?_
 all_goals simp_all[zhE]
def zjd(f:Fld):zh prog 153 [zn (zB f)] [] (.bq (!zds f)) []:=by
 refine gFo func153 λC hC=>?_
 repeat' first|refine gG ?_|refine gB ?_ ?_<;>intro h|refine gC (yl _) ?_|refine gC (zeW _) ?_|refine gQ ?_|refine gL ?_
 all_goals simp_all[zds]
theorem vz(p:α->Bool)(l:List α):(l.any λx=> !p x)= !l.all p:=by
 induction l with
 |nil=>rfl
 |cons a l ih=>simp only[qp,tQ,ih,UE]
def ja(l:List Fld)(m:Int):zh prog 109 [pS (zw l),I m] [] (.bq (xb l m)) []:=by
 have J:=zcK 153 l (λy=> !zds y) (λy _=>zjd y);rw[vz]at J;refine gFo func109 λC hC=>?_
 repeat' first|refine gG ?_|refine gB ?_ ?_<;>intro h|refine gC J ?_|refine gQ ?_|refine gL ?_
 all_goals (try simp only[uj]at*)
 all_goals (simp_all[xb, -List.all_eq_true, -List.all_eq_false]<;>(intros;omega))
def zbW(p:Pr):zh prog 114 [zn (zD p)] [] (.bq (j8 p)) []:=by
 have J:=zbU p.body 1 200 ua ua;refine gFo func114 λC hC=>?_
 repeat' first|refine gG ?_|refine gB ?_ ?_<;>intro h|refine gC (yl _) ?_|refine gC (ja _ _) ?_|refine gC (zeW _) ?_|refine wW hC (zgr (sizeOf p.body+1) p.body 1 200 ua ua ua ua ua) (nm [1030]) rfl rfl (yG.refl _) rfl rfl rfl rfl rfl rfl rfl rfl ?_|refine gL ?_|refine gQ ?_
 all_goals (have hc1:=J.1;clear J;simp_all[j8])
def zeX(b:Bd):zh prog 157 [zn (xZ b)] [] (.bq (!zbL b)) []:=by
 refine gFo func157 λC hC=>?_
 repeat' first|refine gG ?_|refine gB ?_ ?_<;>intro h|refine gC (yl _) ?_|refine gC (yP b.x) ?_|refine gQ ?_|refine gL ?_
 all_goals simp_all[zbL]
def zgs(a b t:Int):decide (t<zgt a b)=(decide (t<a)||decide (t<b)):=by
 unfold zgt;by_cases h:b>a
 ·rw[uw h];by_cases h2:t<b<;>simp[h2];omega
 ·rw[ur h];by_cases h2:t<a<;>simp[h2];omega
def vA(d:zf):Bool:= !decide (12<(d.measures.length:Int))&& !decide (12<(d.invs.length:Int))&& !decide (12<(d.pots.length:Int))&& !decide (12<(d.bounds.length:Int))
def zhP(d:zf):decide (12<zgt (zgt (zgt (d.measures.length:Int) (d.invs.length:Int)) (d.pots.length:Int)) (d.bounds.length:Int))= !vA d:=by
 rw[zgs,zgs,zgs];simp only[vA,UE,UF]
def zct(d:zf):zh prog 110 [zn (zr d)] [] (.bq (vA d&&yv d)) []:=by
 have hA:=zi9 157 d.bounds (λy=> !zbL y) (λy _=>zeX y);rw[vz]at hA;refine gFo func110 λC hC=>?_
 repeat' first|refine gG ?_|refine gB ?_ ?_<;>intro h|refine zuD hC rfl rfl rfl rfl rfl rfl ?_|refine gL ?_
 ·simp only[uj]at h;rw[zhP]at h;have:vA d=false:=by simpa using h
  rw[this];rfl
 ·simp only[uj]at h;rw[zhP]at h;have hsz:vA d=true:=by simpa using h
  rw[hsz,tn];simp only[vA,um,ux,uu]at hsz;obtain⟨⟨⟨hl1,hl2⟩,hl3⟩,hl4⟩:=hsz;clear h;rw[uj]
  refine zj (λi:Nat=>i<=(d.measures).length/\((d.measures).take i).all (vW)=true) (λi=>([(1,.one (.bx 1001 0)),(24,.one (.p (.sl 7 (d.measures.map yA)))),(25,I d.measures.length),(26,I i)],[(1001,some (.box ((zr d).map V.p)))])) (λi=>(d.measures).length - i) hC
   0 ⟨uD _,ue⟩ id gM ?_
  rintro i ⟨hi,U⟩;refine gLc ?_ ?_<;>intro h
  ·have J:i<(d.measures).length:=by first|simpa using h|(have h':=uk h;simp only[uj,td]at h' ⊢; omega)
   clear h;obtain⟨x,hx⟩:=za J
   repeat' first|refine gG ?_|refine gB ?_ ?_<;>intro h|refine gX ?_|refine gC (yl _) ?_|refine gC (yP x.x) ?_|refine zk ?_|refine gL ?_
   all_goals first
    |(have hp:(vW) x=true:=by clear U hx J hi;simp_all[vW, -List.all_eq_true, -List.all_eq_false]<;>omega
      have hlt':=J
      try simp only[td,qy]at hlt'
      rw[wrap64 ua];refine zg (i+1) ⟨ua,?_⟩ id ua gM
      rw[xG (p:=vW) hx,U,tn];exact hp)
    |(have hp:(vW) x=false:=by clear U hx J hi;simp_all[vW, -List.all_eq_true, -List.all_eq_false]<;>omega
      have hno:=zac (p:=vW) hx hp
      simp only[yv,hno,tP])
  have hge: ¬i<(d.measures).length:=by first|simpa using h|(have h':=uo h;simp only[uj,td]at h' ⊢; omega)
  have hall:(d.measures).all (vW)=true:=vZ (p:=vW) ua U;clear h hge U hi
  repeat' first|refine gG ?_|refine gB ?_ ?_<;>intro h|refine zd ?_
  rw[uj]
  refine zj (λi:Nat=>i<=(d.invs).length/\((d.invs).take i).all (zbJ)=true) (λi=>([(1,.one (.bx 1001 0)),(58,.one (.p (.sl 6 (d.invs.map zp0)))),(59,I d.invs.length),(60,I i)],[(1001,some (.box ((zr d).map V.p)))])) (λi=>(d.invs).length - i) hC
   0 ⟨uD _,ue⟩ id gM ?_
  rintro i ⟨hi,U⟩;refine gLc ?_ ?_<;>intro h
  ·have J:i<(d.invs).length:=by first|simpa using h|(have h':=uk h;simp only[uj,td]at h' ⊢; omega)
   clear h;obtain⟨x,hx⟩:=za J
   repeat' first|refine gG ?_|refine gB ?_ ?_<;>intro h|refine gX ?_|refine gC (yl _) ?_|refine gC (zcM _) ?_|refine gC (yP x.x) ?_|refine zk ?_|refine gL ?_
   all_goals first
    |(have hp:(zbJ) x=true:=by clear U hx J hi;simp_all[zbJ, -List.all_eq_true, -List.all_eq_false]<;>omega
      have hlt':=J
      try simp only[td,qy]at hlt'
      rw[wrap64 ua];refine zg (i+1) ⟨ua,?_⟩ id ua gM
      rw[xG (p:=zbJ) hx,U,tn];exact hp)
    |(have hp:(zbJ) x=false:=by clear U hx J hi;simp_all[zbJ, -List.all_eq_true, -List.all_eq_false]<;>omega
      have hno:=zac (p:=zbJ) hx hp
      simp only[yv,hno,tP,qZ])
  have hge: ¬i<(d.invs).length:=by first|simpa using h|(have h':=uo h;simp only[uj,td]at h' ⊢; omega)
  have hall:(d.invs).all (zbJ)=true:=vZ (p:=zbJ) ua U;clear h hge U hi;rename_i hall1
  repeat' first|refine gG ?_|refine gB ?_ ?_<;>intro h|refine zd ?_
  rw[uj]
  refine zj (λi:Nat=>i<=(d.pots).length/\((d.pots).take i).all (zbK)=true) (λi=>([(1,.one (.bx 1001 0)),(82,.one (.p (.sl 5 (d.pots.map zht)))),(83,I d.pots.length),(84,I i)],[(1001,some (.box ((zr d).map V.p)))])) (λi=>(d.pots).length - i) hC
   0 ⟨uD _,ue⟩ id gM ?_
  rintro i ⟨hi,U⟩;refine gLc ?_ ?_<;>intro h
  ·have J:i<(d.pots).length:=by first|simpa using h|(have h':=uk h;simp only[uj,td]at h' ⊢; omega)
   clear h;obtain⟨x,hx⟩:=za J
   repeat' first|refine gG ?_|refine gB ?_ ?_<;>intro h|refine gX ?_|refine gC (zcM _) ?_|refine gC (yP x.x) ?_|refine zk ?_|refine gL ?_
   all_goals first
    |(have hp:(zbK) x=true:=by clear U hx J hi;simp_all[zbK, -List.all_eq_true, -List.all_eq_false]<;>omega
      have hlt':=J
      try simp only[td,qy]at hlt'
      rw[wrap64 ua];refine zg (i+1) ⟨ua,?_⟩ id ua gM
      rw[xG (p:=zbK) hx,U,tn];exact hp)
    |(have hp:(zbK) x=false:=by clear U hx J hi;simp_all[zbK, -List.all_eq_true, -List.all_eq_false]<;>omega
      have hno:=zac (p:=zbK) hx hp
      simp only[yv,hno,tP,qZ])
  have hge: ¬i<(d.pots).length:=by first|simpa using h|(have h':=uo h;simp only[uj,td]at h' ⊢; omega)
  have hall:(d.pots).all (zbK)=true:=vZ (p:=zbK) ua U;clear h hge U hi;rename_i hall2
  repeat' first|refine gG ?_|refine gB ?_ ?_<;>intro h|refine zd ?_|refine gC hA ?_|refine gQ ?_
  simp only[yv,hall,hall1,hall2,tn,UF]
def zk1(t:zX):zh prog 111 [zn (zR t)] [] (.bq (!zaT t)) []:=by
 refine gFo func111 λC hC=>?_
 repeat' first|refine gG ?_|refine gB ?_ ?_<;>intro h|refine gC (yl _) ?_|refine gC (ja _ _) ?_|refine gQ ?_|refine gL ?_
 all_goals simp_all[zaT]
def zk2(p:Pr):zh prog 113 [zn (zD p)] [] (.bq (!j8 p)) []:=by
 refine gFo func113 λC hC=>?_
 repeat' first|refine gG ?_|refine gB ?_ ?_<;>intro h|refine gC (zbW p) ?_|refine gQ ?_
 rfl
def wx(d:zf):zh prog 67 [zn (zr d)] [] (.bq (ye d)) []:=by
 have J:=zkS 111 d.types (λy=> !zaT y) (λy _=>zk1 y);rw[vz]at J;have U:=zkT 113 d.procs (λy=> !j8 y) (λy _=>zk2 y);rw[vz]at U
 have hv:ye d=(isName d.n&& !decide (12<(d.types.length:Int))&&xb d.globals 8&& !decide (40<(d.procs.length:Int))&&(vA d&&yv d)&&d.types.all zaT&&d.procs.all j8):=by
  simp only[ye,jl,vA];generalize isName d.n=a1;generalize decide (12<(d.types.length:Int))=a2;generalize xb d.globals 8=a3;generalize decide (40<(d.procs.length:Int))=a4;generalize yv d=a5;generalize d.types.all zaT=a6;generalize d.procs.all j8=a7;generalize decide (12<(d.measures.length:Int))=a8;generalize decide (12<(d.invs.length:Int))=a9;generalize decide (12<(d.pots.length:Int))=a10;generalize decide (12<(d.bounds.length:Int))=a11;cases a1<;>cases a3<;>cases a5<;>cases a6<;>cases a7<;>simp[Bool.and_assoc]
 rw[hv];refine gFo func67 λC hC=>?_
 repeat' first|refine gG ?_|refine gB ?_ ?_<;>intro h|refine gC (yl _) ?_|refine gC (ja _ _) ?_|refine gC (zct _) ?_|refine gC J ?_|refine gC U ?_|refine gQ ?_|refine gL ?_
 all_goals (try simp only[uj]at*)
 all_goals clear J U hv
 all_goals try generalize (vA d&&yv d)=q at*
 all_goals (simp_all[-List.all_eq_true, -List.all_eq_false]<;>(intros;omega))
def entsF(k:Nat):List zX->List (Str×PV)
 | []=>[]
 |t::r=>(t.n,ki k)::entsF (k+1) r
def tm(d:zf):List (Str×PV):=entsF 0 d.types
def tyD(d:zf)(s:Str):Int:=if wY d s<0 then 0 else wY d s
def idxOf_cons(p:α->Bool)(x:α)(xs:List α):idxOf p (x::xs)=if p x=true then 0 else if idxOf p xs<0 then -1 else idxOf p xs+1:=by
 simp only[idxOf];by_cases h:p x=true
 ·rw[uw h,uw h]
 ·rw[ur h,ur h];cases e:idxOf p xs with
  |ofNat n=>rw[ur (by first|omega|simp)];rfl
  |negSucc n=>
   rcases wi (p:=p) (l:=xs)with J|⟨i,x,J,_⟩
   ·rw[e]at J;rw[uw (by rw[J];omega)];exact J
   ·rw[e]at J;omega
theorem zaC(s:Str): ∀(l:List zX) (k:Nat),getK (entsF k l) s=if idxOf (λt=>decide (t.n=s)) l<0 then none else some (ki (k+idxOf (λt=>decide (t.n=s)) l))
 | [],k=>rfl
 |t::r,k=>by
  simp only[entsF,getK];by_cases h:t.n=s
  ·have e:idxOf (λt:zX=>decide (t.n=s)) (t::r)=0:=by rw[idxOf_cons,uw (uZ h)]
   rw[uw h,e,ur ua,Int.add_zero]
  ·rw[ur h,zaC s r (k+1)];have U: ¬(decide (t.n=s)=true):=by simp[h]
   rcases wi (p:=λt:zX=>decide (t.n=s)) (l:=r)with J|⟨i,x,J,_⟩
   ·have e:idxOf (λt:zX=>decide (t.n=s)) (t::r)= -1:=by rw[idxOf_cons,ur U,J];rfl
    rw[J,e];rfl
   ·have e:idxOf (λt:zX=>decide (t.n=s)) (t::r)=(i:Int)+1:=by rw[idxOf_cons,ur U,J,ur ua]
    rw[J,e,ur ua,ur ua];have:((k+1:Nat):Int)+(i:Int)=(k:Int)+((i:Int)+1):=by omega
    rw[this]
def zk3(d:zf)(s:Str):getK (tm d) s=if wY d s<0 then none else some (ki (wY d s)):=by
 have:=zaC s d.types 0;rw[show((0:Nat):Int)=0 from rfl,Int.zero_add]at this;exact this
def zk4(d:zf)(s:Str):(getK (tm d) s).isSome= !decide (wY d s<0):=by
 rw[zk3];by_cases h:wY d s<0<;>simp[h]
def zk5(d:zf)(s:Str):(getK (tm d) s).getD (.k (.int .i64 0))=ki (tyD d s):=by
 rw[zk3,tyD];by_cases h:wY d s<0<;>simp[h]
theorem zcN(x:zX): ∀(l:List zX) (k:Nat),entsF k (l++[x])=entsF k l++[(x.n,ki (k+l.length))]
 | [],k=>by simp[entsF]
 |t::r,k=>by
  have:((k+1:Nat):Int)+(r.length:Int)=(k:Int)+((r.length+1:Nat):Int):=by omega
  simp only[uK,entsF,zcN x r (k+1),uX,this]
variable {i:Nat}
def zO{l:List α}{x:α}(h:l[i]?=some x):l.take (i+1)=l.take i++[x]:=by
 rw[qV,h];rfl
def zbX(p:α->Bool)(l:List α):decide (idxOf p l<0)= !l.any p:=by
 rcases wi (p:=p) (l:=l)with J|⟨i,x,J,h2,h3,_⟩
 ·rw[J];cases h:l.any p with
  |false=>rfl
  |true=>
   exfalso;rw[List.any_eq_true]at h;obtain⟨x,U,hp⟩:=h
   induction l with
   |nil=>cases U
   |cons y ys ih=>
    rw[idxOf_cons]at J;by_cases hy:p y=true
    ·rw[uw hy]at J;omega
    ·rw[ur hy]at J;rcases uF.1 U with rfl|U
     ·exact hy hp
     ·by_cases hh:idxOf p ys<0
      ·rcases wi (p:=p) (l:=ys)with h4|⟨i,_,h4,_⟩
       ·exact ih h4 U
       ·omega
      ·rw[ur hh]at J;omega
 ·rw[J,zf2 h2 h3,uI ua];rfl
def zhQ(s:Str):zh prog 70 [Sr s] [] (.bq (jL s)) []:=by
 refine gFo func70 λC hC=>?_
 repeat' first|refine gG ?_|refine gB ?_ ?_<;>intro h|refine gQ ?_|refine gL ?_
 all_goals simp_all[jL]
def zox(d:zf)(s:Str):zh prog 71 [.one (.mp 0),Sr s] [(0,.map (yT zL (tm d)))] (.bq (!decide (wY d s<0))) [(0,.map (yT zL (tm d)))]:=by
 refine gFo func71 λC hC=>?_
 repeat' first|refine gG ?_|refine gB ?_ ?_<;>intro h|refine zeY zL hC (kt:=9) (et:=3) (c0:= .int .i64 0) rfl rfl rfl ud ud ud rfl (zk5 d s) (zk4 d s) rfl rfl ?_
 exact gFl id rfl (.qq rfl)
def zk6(d:zf)(f:Fld):zh prog 69 [zn (zB f),.one (.bx 1 0)] [(0,.map (yT zL (tm d))),(1,.box [.mp 0])] (.bq (!known d f)) [(0,.map (yT zL (tm d))),(1,.box [.mp 0])]:=by
 refine gFo func69 λC hC=>?_
 repeat' first|refine gG ?_|refine gB ?_ ?_<;>intro h|refine gC (zhQ _) ?_|refine gR (zox d _) iw ?_
 all_goals first
  |exact gFl id rfl (.qb (by simp_all[known]))
  |exact gFl id rfl (.qq (by simp_all[known]))
def zje(f:FuncId)(d:zf)(l:List Fld)(p:Fld->Unit->Bool)(nx:Fld->Unit->Unit)(inv:Unit->Prop)
 (hf: ∀x∈l,∀s:Unit,inv s->zh prog f [zn (zB x),.one (.bx 1 0)] [(0,.map (yT zL (tm d))),(1,.box [.mp 0])] (.bq (p x s)) ((λs:Unit=>[(0,.map (yT zL (tm d))),(1,.box [.mp 0])]) (nx x s))/\(p x s=false->inv (nx x s))) (s:Unit) (hs:inv s):
 zh prog 97 [pS (.sl 2 (l.map zB)),.one (.cl f [] [.bx 1 0])] [(0,.map (yT zL (tm d))),(1,.box [.mp 0])] (I (idxR p nx l 0 s).1) ((λs:Unit=>[(0,.map (yT zL (tm d))),(1,.box [.mp 0])]) (idxR p nx l 0 s).2):=by
 refine gFo func97 λC hC=>?_;have hs0:=hs;refine wG 0 rfl λhl=>?_;rw[uj]at hl
 repeat' first|refine gG ?_|refine gB ?_ ?_<;>intro h
 rw[uj]
 refine zj (λq:Nat×Unit=>q.1<=l.length/\inv q.2/\idxR p nx (l.drop q.1) q.1 q.2=idxR p nx l 0 s) (λq=>(λs:Unit=>([(0,pS (.sl 2 (l.map zB))),(1,.one (.cl f [] [.bx 1 0])),(7,I l.length),(8,I q.1)],[(0,some (.map (yT zL (tm d)))),(1,some (.box [.mp 0]))])) q.2) (λq=>l.length - q.1) hC
  (0,s) ⟨uD _,hs,rfl⟩ id gM ?_
 generalize idxR p nx l 0 s=res;clear hs hs0;rintro⟨i,s⟩ ⟨hi,hv,J⟩;simp only at hi hv J;refine gLc ?_ ?_<;>intro hh
 ·have hlt:i<l.length:=by simpa using hh
  clear hh;obtain⟨x,hx⟩:=za hlt;rw[drop_at hx]at J;simp only[idxR]at J;have hv2:=(hf x (uv hx) s hv).2
  repeat' first|refine gG ?_|refine gB ?_ ?_<;>intro h|refine gIt (zl hx) ?_|refine gR (hf x (uv hx) s hv).1 id ?_|refine zk ?_
  ·rw[uw uf]at J;subst J;exact gE
  ·have U:p x s=false:=by assumption
   rw[U]at J;simp only[uB,uN]at J;rw[wrap64 ua];exact zg (i+1,nx x s) ⟨by simp only;omega,hv2 U,J⟩ id (by simp only;omega) gM
 ·have hge: ¬i<l.length:=by simpa using hh
  rw[uC ua]at J;simp only[idxR]at J;subst J
  repeat' first|refine gG ?_|refine gB ?_ ?_<;>intro h|refine zd ?_
  exact gE
def zjf(f:FuncId)(d:zf)(l:List Fld)(p:Fld->Unit->Bool)(nx:Fld->Unit->Unit)(inv:Unit->Prop)
 (hf: ∀x∈l,∀s:Unit,inv s->zh prog f [zn (zB x),.one (.bx 1 0)] [(0,.map (yT zL (tm d))),(1,.box [.mp 0])] (.bq (p x s)) ((λs:Unit=>[(0,.map (yT zL (tm d))),(1,.box [.mp 0])]) (nx x s))/\(p x s=false->inv (nx x s))) (s:Unit) (J:inv s):
 zh prog 59 [pS (.sl 2 (l.map zB)),.one (.cl f [] [.bx 1 0])] [(0,.map (yT zL (tm d))),(1,.box [.mp 0])] (.bq (anyR p nx l s).1) ((λs:Unit=>[(0,.map (yT zL (tm d))),(1,.box [.mp 0])]) (anyR p nx l s).2):=by
 refine gFo func59 λC hC=>?_
 repeat' first|refine gG ?_|refine gB ?_ ?_<;>intro h|refine gR (zje f d l p nx inv hf s J) (nm [0,1]) ?_
 exact zK ⟨.inl rfl,id,_,rfl,.qq (zaV p nx l 0 s),by rw[<-zaW p nx l 0 s];exact⟨rfl,rfl,uh⟩,rfl,rfl⟩
def zhR(d:zf)(l:List Fld):zh prog 68 [pS (zw l),.one (.bx 1 0)] [(0,.map (yT zL (tm d))),(1,.box [.mp 0])] (.bq (l.all (known d))) [(0,.map (yT zL (tm d))),(1,.box [.mp 0])]:=by
 have J:=zjf 69 d l (λy _=> !known d y) (λ_ s=>s) (λ_=>True) (λy _ _ _=>⟨zk6 d y,λ_=>trivial⟩) () trivial;rw[zbS,vz]at J;refine gFo func68 λC hC=>?_
 repeat' first|refine gG ?_|refine gB ?_ ?_<;>intro h|refine gR J (nm [0,1]) ?_
 exact gFl id rfl (.qq ue)
def zoy(d:zf)(t:zX):zh prog 73 [zn (zR t),.one (.bx 2 0)] [(0,.map (yT zL (tm d))),(1,.box [.mp 0]),(2,.box [.cl 68 [] [.bx 1 0]])] (.bq (!t.f.all (known d)))
 [(0,.map (yT zL (tm d))),(1,.box [.mp 0]),(2,.box [.cl 68 [] [.bx 1 0]])]:=by
 refine gFo func73 λC hC=>?_
 repeat' first|refine gG ?_|refine gB ?_ ?_<;>intro h|refine gR (zhR d t.f) (nm [0,1]) ?_
 exact gFl id rfl (.qq rfl)
def zk7(f:FuncId)(d:zf)(l:List zX)(p:zX->Unit->Bool)(nx:zX->Unit->Unit)(inv:Unit->Prop)
 (hf: ∀x∈l,∀s:Unit,inv s->zh prog f [zn (zR x),.one (.bx 2 0)] [(0,.map (yT zL (tm d))),(1,.box [.mp 0]),(2,.box [.cl 68 [] [.bx 1 0]])] (.bq (p x s)) ((λs:Unit=>[(0,.map (yT zL (tm d))),(1,.box [.mp 0]),(2,.box [.cl 68 [] [.bx 1 0]])]) (nx x s))/\(p x s=false->inv (nx x s))) (s:Unit) (hs:inv s):
 zh prog 115 [pS (.sl 2 (l.map zR)),.one (.cl f [] [.bx 2 0])] [(0,.map (yT zL (tm d))),(1,.box [.mp 0]),(2,.box [.cl 68 [] [.bx 1 0]])] (I (idxR p nx l 0 s).1) ((λs:Unit=>[(0,.map (yT zL (tm d))),(1,.box [.mp 0]),(2,.box [.cl 68 [] [.bx 1 0]])]) (idxR p nx l 0 s).2):=by
 refine gFo func115 λC hC=>?_;have hs0:=hs;refine wG 0 rfl λhl=>?_;rw[uj]at hl
 repeat' first|refine gG ?_|refine gB ?_ ?_<;>intro h
 rw[uj]
 refine zj (λq:Nat×Unit=>q.1<=l.length/\inv q.2/\idxR p nx (l.drop q.1) q.1 q.2=idxR p nx l 0 s) (λq=>(λs:Unit=>([(0,pS (.sl 2 (l.map zR))),(1,.one (.cl f [] [.bx 2 0])),(7,I l.length),(8,I q.1)],[(0,some (.map (yT zL (tm d)))),(1,some (.box [.mp 0])),(2,some (.box [.cl 68 [] [.bx 1 0]]))])) q.2) (λq=>l.length - q.1) hC
  (0,s) ⟨uD _,hs,rfl⟩ id gM ?_
 generalize idxR p nx l 0 s=res;clear hs hs0;rintro⟨i,s⟩ ⟨hi,hv,J⟩;simp only at hi hv J;refine gLc ?_ ?_<;>intro hh
 ·have hlt:i<l.length:=by simpa using hh
  clear hh;obtain⟨x,hx⟩:=za hlt;rw[drop_at hx]at J;simp only[idxR]at J;have hv2:=(hf x (uv hx) s hv).2
  repeat' first|refine gG ?_|refine gB ?_ ?_<;>intro h|refine gIt (zl hx) ?_|refine gR (hf x (uv hx) s hv).1 id ?_|refine zk ?_
  ·rw[uw uf]at J;subst J;exact gE
  ·have U:p x s=false:=by assumption
   rw[U]at J;simp only[uB,uN]at J;rw[wrap64 ua];exact zg (i+1,nx x s) ⟨by simp only;omega,hv2 U,J⟩ id (by simp only;omega) gM
 ·have hge: ¬i<l.length:=by simpa using hh
  rw[uC ua]at J;simp only[idxR]at J;subst J
  repeat' first|refine gG ?_|refine gB ?_ ?_<;>intro h|refine zd ?_
  exact gE
def zk8(f:FuncId)(d:zf)(l:List zX)(p:zX->Unit->Bool)(nx:zX->Unit->Unit)(inv:Unit->Prop)
 (hf: ∀x∈l,∀s:Unit,inv s->zh prog f [zn (zR x),.one (.bx 2 0)] [(0,.map (yT zL (tm d))),(1,.box [.mp 0]),(2,.box [.cl 68 [] [.bx 1 0]])] (.bq (p x s)) ((λs:Unit=>[(0,.map (yT zL (tm d))),(1,.box [.mp 0]),(2,.box [.cl 68 [] [.bx 1 0]])]) (nx x s))/\(p x s=false->inv (nx x s))) (s:Unit) (J:inv s):
 zh prog 72 [pS (.sl 2 (l.map zR)),.one (.cl f [] [.bx 2 0])] [(0,.map (yT zL (tm d))),(1,.box [.mp 0]),(2,.box [.cl 68 [] [.bx 1 0]])] (.bq (anyR p nx l s).1) ((λs:Unit=>[(0,.map (yT zL (tm d))),(1,.box [.mp 0]),(2,.box [.cl 68 [] [.bx 1 0]])]) (anyR p nx l s).2):=by
 refine gFo func72 λC hC=>?_
 repeat' first|refine gG ?_|refine gB ?_ ?_<;>intro h|refine gR (zk7 f d l p nx inv hf s J) ic ?_
 exact zK ⟨.inl rfl,id,_,rfl,.qq (zaV p nx l 0 s),by rw[<-zaW p nx l 0 s];exact⟨rfl,rfl,rfl,uh⟩,rfl,rfl⟩
def stepF{α:Type}(bad:α->Bool)(f:α->Int->Int):List α->Int->Int
 | [],n=>n
 |x::r,n=>if 0<=n then(if bad x then -1 else stepF bad f r (f x n))else n
variable {bad:α->Bool}{f:α->Int->Int}
theorem jb{l:List α}{n:Int}(h:n<0):stepF bad f l n=n:=by
 cases l with
 |nil=>rfl
 |cons e es=>simp only[stepF];rw[ur ua]
theorem xA{α:Type}{bad:α->Bool}{f:α->Int->Int}(hf: ∀x n,0<=n-> -1<=f x n/\f x n<=n): ∀ {l:List α} {n:Int}, -1<=n-> -1<=stepF bad f l n/\stepF bad f l n<=n
 | [],n,h=>by simp only[stepF];omega
 |x::r,n,h=>by
  simp only[stepF];by_cases J:0<=n
  ·rw[uw J];by_cases U:bad x=true
   ·rw[uw U];omega
   ·rw[ur U];have h1:=hf x n J;have h2:=xA (bad:=bad) hf (l:=r) h1.1;omega
  ·rw[ur J];omega
def long(s:Str):Bool:=decide (100<(s.size:Int))
def zk9(t:zX):Bool:=long t.n||zeJ t.f
def zrO(p:Pr):Bool:=long p.n||long p.res||zeJ p.params||zeJ p.locs
def zrP(m:Ms):Bool:=long m.n||long m.t
def zrQ(m:Iv):Bool:=long m.n||long m.t
def zrR(m:Pt):Bool:=long m.t
def zrS(m:Bd):Bool:=long m.p
def pF(p:Pr)(n:Int):Int:=laS p.body 65 n
def mF(m:Ms)(n:Int):Int:=leftS m.x 65 n
def iF(m:Iv)(n:Int):Int:=leftS m.x 65 n
def oF(m:Pt)(n:Int):Int:=leftS m.x 65 n
def bF(m:Bd)(n:Int):Int:=leftS m.x 65 n
def zxQ(x:Pr)(n:Int)(h:0<=n): -1<=pF x n/\pF x n<=n:=zkL h
def zxR(x:Ms)(n:Int)(h:0<=n): -1<=mF x n/\mF x n<=n:=xf _ _ _ ua
def zxS(x:Iv)(n:Int)(h:0<=n): -1<=iF x n/\iF x n<=n:=xf _ _ _ ua
def zxT(x:Pt)(n:Int)(h:0<=n): -1<=oF x n/\oF x n<=n:=xf _ _ _ ua
def zxU(x:Bd)(n:Int)(h:0<=n): -1<=bF x n/\bF x n<=n:=xf _ _ _ ua
def st1(d:zf)(n:Int):Int:=stepF zrO pF d.procs n
def st2(d:zf)(n:Int):Int:=stepF zrP mF d.measures (st1 d n)
def st3(d:zf)(n:Int):Int:=stepF zrQ iF d.invs (st2 d n)
def st4(d:zf)(n:Int):Int:=stepF zrR oF d.pots (st3 d n)
def st5(d:zf)(n:Int):Int:=stepF zrS bF d.bounds (st4 d n)
def zdF(d:zf):Bool:=long d.n||decide (60<(d.types.length:Int))||decide (60<(d.procs.length:Int))||decide (60<(d.measures.length:Int))||decide (60<(d.invs.length:Int))||
 decide (60<(d.pots.length:Int))||decide (60<(d.bounds.length:Int))||zeJ d.globals
def zla(d:zf)(n:Int):Bool:=zdF d|| !(d.types.all λt=> !zk9 t)||decide (st5 d n<0)
def zgu(d:zf)(n:Int)(hn1:0<=n)(hn2:n<=1000000):zh prog 47 [zn (zr d),I n] [] (.bq (zla d n)) []:=by
 refine gFo func47 λC hC=>?_
 repeat' first|refine gG ?_|refine gB ?_ ?_<;>intro h|refine gC (zgg _) ?_|refine gL ?_
 all_goals (try simp only[uj]at*)
 rotate_right
 ·rename_i h1 h2 h3 h4 h5 h6 h7;have hpre:zdF d=false:=by simp_all[zdF,long]
  have hv:zla d n=(!(d.types.all λt=> !zk9 t)||decide (st5 d n<0)):=by simp only[zla,hpre,tw]
  rw[hv];have l1: ¬60<(d.types.length:Int):=uo uf;have l2: ¬60<(d.procs.length:Int):=uo uf;have l3: ¬60<(d.measures.length:Int):=uo uf;have l4: ¬60<(d.invs.length:Int):=uo uf;have l5: ¬60<(d.pots.length:Int):=uo uf;have l6: ¬60<(d.bounds.length:Int):=uo uf;clear h h1 h2 h3 h4 h5 h6 h7 hpre hv
  repeat' first|refine gG ?_|refine gB ?_ ?_<;>intro h
  refine zj (λi:Nat=>i<=(d.types).length/\((d.types).take i).all (λt=> !zk9 t)=true) (λi=>([(1,I n),(2,.one (.bx 1002 0)),(5,I i)],[(1002,some (.box ((zr d).map V.p)))])) (λi=>(d.types).length - i) hC
   0 ⟨uD _,ue⟩ id gM ?_
  rintro i ⟨hi,hn⟩;refine gLc ?_ ?_<;>intro h
  ·have hlt:i<(d.types).length:=by first|simpa using h|(have h':=uk h;simp only[uj,td]at h' ⊢; omega)
   clear h;obtain⟨x,hx⟩:=za hlt
   repeat' first|refine gG ?_|refine gB ?_ ?_<;>intro h|refine gX ?_|refine gC (zgg _) ?_|refine zk ?_|refine gL ?_
   all_goals first
    |(have hp:(λt=> !zk9 t) x=true:=by clear hn hx hlt hi;simp_all[zk9,long, -List.all_eq_true, -List.all_eq_false]<;>omega
      have hlt':=hlt
      try simp only[td,qy]at hlt'
      rw[wrap64 ua];refine zg (i+1) ⟨ua,?_⟩ id ua gM
      rw[xG (p:=λt=> !zk9 t) hx,hn,tn];exact hp)
    |(have hp:(λt=> !zk9 t) x=false:=by clear hn hx hlt hi;simp_all[zk9,long, -List.all_eq_true, -List.all_eq_false]<;>omega
      have hno:=zac (p:=λt=> !zk9 t) hx hp
      rw[hno];rfl)
  have hge: ¬i<(d.types).length:=by first|simpa using h|(have h':=uo h;simp only[uj,td]at h' ⊢; omega)
  have hall:(d.types).all (λt=> !zk9 t)=true:=vZ (p:=λt=> !zk9 t) ua hn;clear h hge hn hi;rw[hall,qo,tw]
  repeat' first|refine gG ?_|refine gB ?_ ?_<;>intro h|refine zd ?_
  have c1: -1<=st1 d n/\st1 d n<=n:=xA zxQ ua;have c2: -1<=st2 d n/\st2 d n<=st1 d n:=xA zxR ua;have c3: -1<=st3 d n/\st3 d n<=st2 d n:=xA zxS ua;have c4: -1<=st4 d n/\st4 d n<=st3 d n:=xA zxT ua;have c5: -1<=st5 d n/\st5 d n<=st4 d n:=xA zxU ua;have e1:stepF zrO pF d.procs n=st1 d n:=rfl;have e2:stepF zrP mF d.measures (st1 d n)=st2 d n:=rfl;have e3:stepF zrQ iF d.invs (st2 d n)=st3 d n:=rfl;have e4:stepF zrR oF d.pots (st3 d n)=st4 d n:=rfl;have e5:stepF zrS bF d.bounds (st4 d n)=st5 d n:=rfl;generalize st1 d n=A1 at*;generalize st2 d n=A2 at*;generalize st3 d n=A3 at*;generalize st4 d n=A4 at*;generalize st5 d n=A5 at*;clear hall;refine jQ [(1,I A1),(2,.one (.bx 1002 0))] [(1002,some (.box ((zr d).map V.p)))] hC ?_ ?_
  ·refine zj (λp:Nat×Int=>p.1<=(d.procs).length/\ -1<=p.2/\p.2<=1000000/\stepF zrO pF ((d.procs).drop p.1) p.2=A1) (λp=>([(1,I p.2),(2,.one (.bx 1002 0)),(6,I p.1)],[(1002,some (.box ((zr d).map V.p)))])) (λp=>(d.procs).length - p.1) hC
    (0,n) ⟨uD _,by simp only;omega,by simp only;omega,e1⟩ id gM ?_
   rintro⟨k,q⟩ ⟨hk,hq1,hq2,J⟩;simp only at hk hq1 hq2 J;refine w9 T hC true 1 rfl ?_
   repeat' first|refine gG ?_|refine gB ?_ ?_<;>intro h|refine zd ?_
   ·rename_i hlt0;have hlt2:k<(d.procs).length:=by simpa using hlt0
    have hq0:0<=q:=uk h;clear hlt0 h;obtain⟨x,hx⟩:=za hlt2;rw[drop_at hx]at J;simp only[stepF,uw hq0]at J;have hb:=zxQ x q hq0
    repeat' first|refine gG ?_|refine gB ?_ ?_<;>intro h|refine gX ?_|refine gC (zgg _) ?_|refine w6 hC (zi6 (sizeOf x.body+1) x.body 65 q ua ua ua hq0 hq2) rfl rfl (yG.refl _) rfl rfl rfl ?_|refine g_cutUR ?_|refine gL ?_|refine zk ?_
    all_goals first
     |(have U:zrO x=true:=by clear J;simp_all[zrO,long]
       rw[uw U]at J
       exact(uZ ua).symm)
     |(have U:zrO x=false:=by clear J;simp_all[zrO,long]
       rw[U]at J;simp only[uB,uN]at J;simp only;rw[vd ua]
       exact zg (k+1,pF x q) ⟨by simp only;omega,by simp only;omega,by simp only;omega,J⟩ id (by simp only;omega) gM)
   ·have hqa:q=A1:=by rw[jb (qY.1 (uo h))]at J;exact J
    subst hqa;exact y3 id gM
   ·have hge: ¬k<(d.procs).length:=by simpa using h
    have hqa:q=A1:=by rw[uC ua]at J;exact J
    subst hqa;exact y3 id gM
  repeat' first|refine gG ?_|refine gB ?_ ?_<;>intro h
  refine jQ [(1,I A2),(2,.one (.bx 1002 0))] [(1002,some (.box ((zr d).map V.p)))] hC ?_ ?_
  ·refine zj (λp:Nat×Int=>p.1<=(d.measures).length/\ -1<=p.2/\p.2<=1000000/\stepF zrP mF ((d.measures).drop p.1) p.2=A2) (λp=>([(1,I p.2),(2,.one (.bx 1002 0)),(8,I p.1)],[(1002,some (.box ((zr d).map V.p)))])) (λp=>(d.measures).length - p.1) hC
    (0,A1) ⟨uD _,by simp only;omega,by simp only;omega,e2⟩ id gM ?_
   rintro⟨k,q⟩ ⟨hk,hq1,hq2,J⟩;simp only at hk hq1 hq2 J;refine w9 T hC true 1 rfl ?_
   repeat' first|refine gG ?_|refine gB ?_ ?_<;>intro h|refine zd ?_
   ·rename_i hlt0;have hlt2:k<(d.measures).length:=by simpa using hlt0
    have hq0:0<=q:=uk h;clear hlt0 h;obtain⟨x,hx⟩:=za hlt2;rw[drop_at hx]at J;simp only[stepF,uw hq0]at J;have hb:=zxR x q hq0
    repeat' first|refine gG ?_|refine gB ?_ ?_<;>intro h|refine gX ?_|refine w6 hC (zae x.x 65 q ua ua hq1 hq2) rfl rfl (yG.refl _) rfl rfl rfl ?_|refine g_cutUR ?_|refine gL ?_|refine zk ?_
    all_goals first
     |(have U:zrP x=true:=by clear J;simp_all[zrP,long]
       rw[uw U]at J
       exact(uZ ua).symm)
     |(have U:zrP x=false:=by clear J;simp_all[zrP,long]
       rw[U]at J;simp only[uB,uN]at J;simp only;rw[vd ua]
       exact zg (k+1,mF x q) ⟨by simp only;omega,by simp only;omega,by simp only;omega,J⟩ id (by simp only;omega) gM)
   ·have hqa:q=A2:=by rw[jb (qY.1 (uo h))]at J;exact J
    subst hqa;exact y3 id gM
   ·have hge: ¬k<(d.measures).length:=by simpa using h
    have hqa:q=A2:=by rw[uC ua]at J;exact J
    subst hqa;exact y3 id gM
  repeat' first|refine gG ?_|refine gB ?_ ?_<;>intro h
  refine jQ [(1,I A3),(2,.one (.bx 1002 0))] [(1002,some (.box ((zr d).map V.p)))] hC ?_ ?_
  ·refine zj (λp:Nat×Int=>p.1<=(d.invs).length/\ -1<=p.2/\p.2<=1000000/\stepF zrQ iF ((d.invs).drop p.1) p.2=A3) (λp=>([(1,I p.2),(2,.one (.bx 1002 0)),(9,I p.1)],[(1002,some (.box ((zr d).map V.p)))])) (λp=>(d.invs).length - p.1) hC
    (0,A2) ⟨uD _,by simp only;omega,by simp only;omega,e3⟩ id gM ?_
   rintro⟨k,q⟩ ⟨hk,hq1,hq2,J⟩;simp only at hk hq1 hq2 J;refine w9 T hC true 1 rfl ?_
   repeat' first|refine gG ?_|refine gB ?_ ?_<;>intro h|refine zd ?_
   ·rename_i hlt0;have hlt2:k<(d.invs).length:=by simpa using hlt0
    have hq0:0<=q:=uk h;clear hlt0 h;obtain⟨x,hx⟩:=za hlt2;rw[drop_at hx]at J;simp only[stepF,uw hq0]at J;have hb:=zxS x q hq0
    repeat' first|refine gG ?_|refine gB ?_ ?_<;>intro h|refine gX ?_|refine w6 hC (zae x.x 65 q ua ua hq1 hq2) rfl rfl (yG.refl _) rfl rfl rfl ?_|refine g_cutUR ?_|refine gL ?_|refine zk ?_
    all_goals first
     |(have U:zrQ x=true:=by clear J;simp_all[zrQ,long]
       rw[uw U]at J
       exact(uZ ua).symm)
     |(have U:zrQ x=false:=by clear J;simp_all[zrQ,long]
       rw[U]at J;simp only[uB,uN]at J;simp only;rw[vd ua]
       exact zg (k+1,iF x q) ⟨by simp only;omega,by simp only;omega,by simp only;omega,J⟩ id (by simp only;omega) gM)
   ·have hqa:q=A3:=by rw[jb (qY.1 (uo h))]at J;exact J
    subst hqa;exact y3 id gM
   ·have hge: ¬k<(d.invs).length:=by simpa using h
    have hqa:q=A3:=by rw[uC ua]at J;exact J
    subst hqa;exact y3 id gM
  repeat' first|refine gG ?_|refine gB ?_ ?_<;>intro h
  refine jQ [(1,I A4),(2,.one (.bx 1002 0))] [(1002,some (.box ((zr d).map V.p)))] hC ?_ ?_
  ·refine zj (λp:Nat×Int=>p.1<=(d.pots).length/\ -1<=p.2/\p.2<=1000000/\stepF zrR oF ((d.pots).drop p.1) p.2=A4) (λp=>([(1,I p.2),(2,.one (.bx 1002 0)),(10,I p.1)],[(1002,some (.box ((zr d).map V.p)))])) (λp=>(d.pots).length - p.1) hC
    (0,A3) ⟨uD _,by simp only;omega,by simp only;omega,e4⟩ id gM ?_
   rintro⟨k,q⟩ ⟨hk,hq1,hq2,J⟩;simp only at hk hq1 hq2 J;refine w9 T hC true 1 rfl ?_
   repeat' first|refine gG ?_|refine gB ?_ ?_<;>intro h|refine zd ?_
   ·rename_i hlt0;have hlt2:k<(d.pots).length:=by simpa using hlt0
    have hq0:0<=q:=uk h;clear hlt0 h;obtain⟨x,hx⟩:=za hlt2;rw[drop_at hx]at J;simp only[stepF,uw hq0]at J;have hb:=zxT x q hq0
    repeat' first|refine gG ?_|refine gB ?_ ?_<;>intro h|refine gX ?_|refine w6 hC (zae x.x 65 q ua ua hq1 hq2) rfl rfl (yG.refl _) rfl rfl rfl ?_|refine g_cutUR ?_|refine gL ?_|refine zk ?_
    all_goals first
     |(have U:zrR x=true:=by clear J;simp_all[zrR,long]
       rw[uw U]at J
       exact(uZ ua).symm)
     |(have U:zrR x=false:=by clear J;simp_all[zrR,long]
       rw[U]at J;simp only[uB,uN]at J;simp only;rw[vd ua]
       exact zg (k+1,oF x q) ⟨by simp only;omega,by simp only;omega,by simp only;omega,J⟩ id (by simp only;omega) gM)
   ·have hqa:q=A4:=by rw[jb (qY.1 (uo h))]at J;exact J
    subst hqa;exact y3 id gM
   ·have hge: ¬k<(d.pots).length:=by simpa using h
    have hqa:q=A4:=by rw[uC ua]at J;exact J
    subst hqa;exact y3 id gM
  repeat' first|refine gG ?_|refine gB ?_ ?_<;>intro h
  refine jQ [(1,I A5),(2,.one (.bx 1002 0))] [(1002,some (.box ((zr d).map V.p)))] hC ?_ ?_
  ·refine zj (λp:Nat×Int=>p.1<=(d.bounds).length/\ -1<=p.2/\p.2<=1000000/\stepF zrS bF ((d.bounds).drop p.1) p.2=A5) (λp=>([(1,I p.2),(2,.one (.bx 1002 0)),(11,I p.1)],[(1002,some (.box ((zr d).map V.p)))])) (λp=>(d.bounds).length - p.1) hC
    (0,A4) ⟨uD _,by simp only;omega,by simp only;omega,e5⟩ id gM ?_
   rintro⟨k,q⟩ ⟨hk,hq1,hq2,J⟩;simp only at hk hq1 hq2 J;refine w9 T hC true 1 rfl ?_
   repeat' first|refine gG ?_|refine gB ?_ ?_<;>intro h|refine zd ?_
   ·rename_i hlt0;have hlt2:k<(d.bounds).length:=by simpa using hlt0
    have hq0:0<=q:=uk h;clear hlt0 h;obtain⟨x,hx⟩:=za hlt2;rw[drop_at hx]at J;simp only[stepF,uw hq0]at J;have hb:=zxU x q hq0
    repeat' first|refine gG ?_|refine gB ?_ ?_<;>intro h|refine gX ?_|refine w6 hC (zae x.x 65 q ua ua hq1 hq2) rfl rfl (yG.refl _) rfl rfl rfl ?_|refine g_cutUR ?_|refine gL ?_|refine zk ?_
    all_goals first
     |(have U:zrS x=true:=by clear J;simp_all[zrS,long]
       rw[uw U]at J
       exact(uZ ua).symm)
     |(have U:zrS x=false:=by clear J;simp_all[zrS,long]
       rw[U]at J;simp only[uB,uN]at J;simp only;rw[vd ua]
       exact zg (k+1,bF x q) ⟨by simp only;omega,by simp only;omega,by simp only;omega,J⟩ id (by simp only;omega) gM)
   ·have hqa:q=A5:=by rw[jb (qY.1 (uo h))]at J;exact J
    subst hqa;exact y3 id gM
   ·have hge: ¬k<(d.bounds).length:=by simpa using h
    have hqa:q=A5:=by rw[uC ua]at J;exact J
    subst hqa;exact y3 id gM
  repeat' first|refine gG ?_|refine gB ?_ ?_<;>intro h
  refine zhn T (.inl rfl) rfl ?_;rfl
 all_goals (simp_all[zla,zdF,long])
def zlb(d:zf):Bool:=zla d 2000
def zoz(d:zf):zh prog 24 [zn (zr d)] [] (.bq (zlb d)) []:=by
 refine gFo func24 λC hC=>?_
 repeat' first|refine gG ?_|refine gB ?_ ?_<;>intro h|refine w6 hC (zgu d 2000 ua ua) rfl rfl (yG.refl _) rfl rfl rfl ?_|refine gQ ?_
 rfl
theorem zlc{l:List α}{x:α×Nat}(h:l.zipIdx[i]?=some x):l[i]?=some x.1/\x.2=i:=by
 rw[oH]at h;cases e:l[i]? with
 |none=>rw[e]at h;cases h
 |some y=>rw[e]at h;simp at h;subst h;exact⟨rfl,rfl⟩
def zhS{β:Type}{l:List α}{r:List β}{x:α×β}(h:(l.zip r)[i]?=some x):l[i]?=some x.1/\r[i]?=some x.2:=by
 rw[tq]at h;exact h
def zwk(d:zf)(x:zX×Nat):Bool:=decide (wY d x.1.n=(x.2:Int))&&x.1.f.all (known d)
def zY(d:zf):Bool:=ye d&&d.globals.all (known d)&&d.types.zipIdx.all (zwk d)
def y8(d:zf)(x:Nd):Bool:= !decide (x.t<0)&& !decide ((d.types.length:Int)<=x.t)&&decide ((d.types[x.t.toNat]?).map (λt=>t.f.length)=some x.f.length)
def zaY(d:zf)(m:Hp)(p:Fld×Int):Bool:=zcI d m p.1.t p.2
def xQ(d:zf)(m:Hp)(x:Nd):Bool:=((((d.types[x.t.toNat]?).map (λt=>t.f)).getD []).zip x.f).all (zaY d m)
def zQ(d:zf)(m:Hp):Bool:=zY d&&decide ((m.g.length:Int)=(d.globals.length:Int))&& !decide (4096<(m.n.length:Int))&&m.n.all (y8 d)&&(d.globals.zip m.g).all (zaY d m)&&m.n.all (xQ d m)
variable {d:zf}
def xR{x:Nd}(h:y8 d x=true):0<=x.t/\ ∃ty,d.types[x.t.toNat]?=some ty/\ty.f.length=x.f.length:=by
 simp only[y8,um,ux,uu,uq,uR]at h;obtain⟨⟨h1,_⟩,ty,h3,h4⟩:=h;exact⟨ua,ty,h3,h4⟩
def zag{x:zX}(U:d.types[i]?=some x):(d.types.take i).any (λt=>decide (t.n=x.n))=false↔wY d x.n=(i:Int):=by
 constructor
 ·exact λh=>zhT U (uZ rfl) h
 ·intro h;rcases wi (p:=λt:zX=>decide (t.n=x.n)) (l:=d.types)with J|⟨j,y,J,_,_,h4⟩
  ·simp only[wY]at h;rw[J]at h;omega
  ·simp only[wY]at h;rw[J]at h;obtain rfl:j=i:=by omega
   exact h4
def zeZ(d:zf):Bool:=d.types.zipIdx.all λx=>decide (wY d x.1.n=(x.2:Int))
theorem zgv(p q:α->Bool)(l:List α):(l.all λx=>p x&&q x)=(l.all p&&l.all q):=by
 induction l with
 |nil=>rfl
 |cons a l ih=>
  simp only[tQ,ih];cases p a<;>cases q a<;>cases l.all p<;>cases l.all q<;>rfl
theorem zcO{α:Type}(p:α->Bool): ∀(l:List α) (k:Nat),((l.zipIdx k).all λx=>p x.1)=l.all p
 | [],_=>rfl
 |a::l,k=>by simp only[List.zipIdx_cons,tQ,zcO p l (k+1)]
def zbY(d:zf):zY d=(ye d&&zeZ d&&d.globals.all (known d)&&d.types.all λt=>t.f.all (known d)):=by
 have:d.types.zipIdx.all (zwk d)=(zeZ d&&d.types.all λt=>t.f.all (known d)):=by
  have e:zwk d=λx:zX×Nat=>decide (wY d x.1.n=(x.2:Int))&&x.1.f.all (known d):=rfl
  rw[e,zgv,zcO (λt:zX=>t.f.all (known d))];rfl
 rw[zY,this];cases ye d<;>cases zeZ d<;>cases d.globals.all (known d)<;>cases(d.types.all λt=>t.f.all (known d))<;>rfl
def zoA{x:zX}(J:d.types[i]?=some x)(h:(d.types.take i).any (λt=>decide (t.n=x.n))=true):zeZ d=false:=by
 have: ¬wY d x.n=(i:Int):=λe=>by rw[(zag J).2 e]at h;cases h
 refine zac (l:=d.types.zipIdx) (i:=i) (x:=(x,i)) ?_ (uI this);rw[oH,J];simp
def zld(h: ∀i x,d.types[i]?=some x->(d.types.take i).any (λt=>decide (t.n=x.n))=false):zeZ d=true:=by
 rw[zeZ,List.all_eq_true];rintro⟨x,i⟩ U;obtain⟨j,hj⟩:=tX.1 U;obtain⟨J,h2⟩:=zlc hj;simp only at J h2;subst h2;exact uZ ((zag J).1 (h _ _ J))
def jx(s:Str)(l:List zX)(k:Nat):(getK (entsF k l) s).isSome=l.any λt=>decide (t.n=s):=by
 rw[zaC];have:=zbX (λt:zX=>decide (t.n=s)) l;by_cases h:idxOf (λt:zX=>decide (t.n=s)) l<0
 ·rw[uw h];rw[uZ h]at this;cases e:(l.any λt=>decide (t.n=s))with
  |false=>rfl
  |true=>rw[e]at this;cases this
 ·rw[ur h];rw[uI h]at this;cases e:(l.any λt=>decide (t.n=s))with
  |true=>rfl
  |false=>rw[e]at this;cases this
def isSome_none{o:Option α}(h:o.isSome=false):o=none:=by cases o with|none=>rfl|some _=>cases h
def zcu(d:zf):S:=if zY d=true then .one (.mp 0)else .one (.p (.k (.map none)))
def znH(d:zf):RL:=if zY d=true then [(0,.map (yT zL (tm d)))]else []
def zcP(d:zf):zh prog 45 [zn (zr d)] [] (zcu d) (znH d):=by
 have no:zY d=false->zcu d= .one (.p (.k (.map none)))/\znH d=[]:=λh=>by simp[zcu,znH,h]
 have yes:zY d=true->zcu d= .one (.mp 0)/\znH d=[(0,.map (yT zL (tm d)))]:=λh=>by simp[zcu,znH,h]
 have J:=zbY d;have hB:=zk8 73 d d.types (λy _=> !y.f.all (known d)) (λ_ s=>s) (λ_=>True) (λy _ _ _=>⟨zoy d y,λ_=>trivial⟩) () trivial;rw[zbS,vz]at hB;refine gFo func45 λC hC=>?_;refine v7 rfl 0 1 rfl rfl λhlen=>?_;rw[uj]at hlen
 have fail: ∀ {n sl tab},zY d=false->sg sl 2=some (.one (.p (.k (.map none))))->Goal prog C (.fin .ret) [] n sl tab (zcn T [.tmp 2] [] (zcu d) (znH d)):=λh h2=>by
  obtain⟨e1,e2⟩:=no h;rw[e1,e2];exact zK ⟨.inl rfl,id,[.one (.p (.k (.map none)))],by simp only[rvsOf,rvOf,h2],.refl _,trivial,rfl,rfl⟩
 repeat' first|refine gG ?_|refine gB ?_ ?_<;>intro h|refine gC (wx d) ?_|refine ze0 zL hC rfl rfl rfl ?_
 ·have hv:ye d=false:=by simpa using h
  refine fail (by rw[J,hv];rfl) rfl
 ·have hv:ye d=true:=by simpa using h
  clear h;rw[hv,tn]at J;rw[uj]
  refine zj (λi:Nat=>i<=d.types.length/\ ∀j x,j<i->d.types[j]?=some x->(d.types.take j).any (λt=>decide (t.n=x.n))=false) (λi=>([(1,.one (.bx 1001 0)),(3,.one (.bx 1003 0)),(14,.one (.p (.sl 2 (d.types.map zR)))),(15,I d.types.length),(16,I i)],[(1001,some (.box ((zr d).map V.p))),(1003,some (.box [.mp 1012])),(1012,some (.map (yT zL (entsF 0 (d.types.take i)))))])) (λi=>d.types.length - i) hC
   0 ⟨uD _,λj x hj=>by omega⟩ id gM ?_
  rintro i ⟨hi,hn⟩;refine gLc ?_ ?_<;>intro h
  ·have hlt:i<d.types.length:=by simpa using h
   clear h;obtain⟨x,hx⟩:=za hlt;have U:(d.types.take i).length=i:=by rw[u9];omega
   repeat' first|refine gG ?_|refine gB ?_ ?_<;>intro h|refine gX ?_|refine zeY zL hC (kt:=9) (et:=3) (c0:= .int .i64 0) rfl rfl rfl ud ud ud rfl rfl (jx x.n _ _) rfl rfl ?_|refine zk ?_
   ·exact fail (by rw[J,zoA hx h];rfl) rfl
   ·have hnone:getK (entsF 0 (d.types.take i)) x.n=none:=isSome_none (by rw[jx];exact h);refine zhU zL hC (kt:=9) (et:=3) (l':=entsF 0 (d.types.take (i+1))) rfl rfl rfl rfl ud ud ?_ rfl ?_
    ·rw[zdG hnone,zO hx,zcN,U];simp
    ·repeat' first|refine gG ?_|refine gB ?_ ?_<;>intro h
     rw[vd ua];refine zg (i+1) ⟨ua,λj y hj hy=>?_⟩ id ua gM;by_cases hji:j<i
     ·exact hn j y hji hy
     ·obtain rfl:j=i:=by omega
      rw[hx]at hy;simp only[ui]at hy;subst hy;exact h
  ·have hge: ¬i<d.types.length:=by simpa using h
   have hnd:zeZ d=true:=zld λj x hx=>hn j x (by have:=(uy.1 hx).1;omega) hx
   rw[hnd,tn]at J;rw[u0 ua];have htm:entsF 0 d.types=tm d:=rfl;rw[htm];clear h
   repeat' first|refine gG ?_|refine gB ?_ ?_<;>intro h|refine zd ?_|refine gR (zhR d d.globals) (nm [1012,1003]) ?_|refine gR hB (nm [1012,1003,1008]) ?_
   ·exact fail (by rw[J];simp_all[-List.all_eq_true, -List.all_eq_false]) rfl
   ·exact fail (by rw[J];simp_all[-List.all_eq_true, -List.all_eq_false]) rfl
   ·obtain⟨e1,e2⟩:=yes (by rw[J];simp_all[-List.all_eq_true, -List.all_eq_false]);rw[e1,e2];exact gW [1012]
abbrev ztG(d:zf):RL:=[(0,.map (yT zL (tm d)))]
def zcQ(d:zf)(m:Hp)(t:Str)(v:Int):Bool:=
 if t=(⟨#[105,110,116]⟩:UI)then decide (-1099511627776<=v)&&decide (v<=1099511627776)
 else if t=(⟨#[98,111,111,108]⟩:UI)then decide (v=0)||decide (v=1)
 else decide (v=0)||(decide (0<v)&&decide (v<=m.n.length)&&decide ((m.n[(v - 1).toNat]?).map (·.t)=some (tyD d t)))
variable {m:Hp}
def vAt{v:Int}(hl:m.n.length<=9223372036854775807)(J:decide (0<v)=true)(h2:decide (v<=((m.n.map wy).length:Int))=true):IntKind.i64.wrap (v - 1)=v - 1/\0<=v - 1/\ ∃x,m.n[(v - 1).toNat]?=some x:=by
 have e1:=uk J;have U:=uk h2;rw[uj]at U;exact⟨wrap64 ua,ua,za ua⟩
def zjg(d:zf)(m:Hp)(t:Str)(v:Int):zh prog 117 [.one (.mp 0),zn (yp m),Sr t,I v] (ztG d) (.bq (zcQ d m t v)) (ztG d):=by
 refine gFo func117 λC hC=>?_;refine v7 rfl 1 1 rfl rfl λJ=>?_;rw[uj]at J
 repeat' first|refine znB T hC true 400 rfl rfl ?_|refine zdE rfl (λh=>?_) (λh=>?_)|refine ziN T hC ud ?_|refine jZ (λh=>?_) (λh=>?_)|refine j0 rfl rfl rfl (λh=>?_) (λh=>?_)|refine j3 rfl rfl (λh=>?_) (λh=>?_)|refine ze1 zL hC (kt:=9) (et:=3) (c0:= .int .i64 0) rfl rfl rfl ud ud ud rfl (zk5 d t) rfl rfl ?_|(obtain⟨U,hv0,x,hx⟩:=vAt (m:=m) (v:=v) J uf uf;rw[U];refine gIt (yQ hx) ?_)
 all_goals (try simp only[uj]at*)
 all_goals first
  |exact gFl id rfl (.qb (by simp_all[zcQ]<;>(intros;omega)))
  |exact gFl id rfl (.qq (by simp_all[zcQ]<;>(intros;omega)))
def zbZ(d:zf)(m:Hp)(p:Fld×Int):Bool:=zcQ d m p.1.t p.2
def zcv(d:zf)(m:Hp)(l:List Fld)(v:List Int):Bool:=decide ((l.length:Int)=(v.length:Int))&&(l.zip v).all (zbZ d m)
def ze2(d:zf)(m:Hp)(l:List Fld)(v:List Int):zh prog 76 [.one (.mp 0),zn (yp m),pS (zw l),pS (yx v)] (ztG d) (.bq (zcv d m l v)) (ztG d):=by
 refine gFo func76 λC hC=>?_;refine wG 2 rfl λU=>?_;rw[uj]at U
 repeat' first|refine gG ?_|refine gB ?_ ?_<;>intro h
 all_goals (try simp only[uj]at*)
 ·have:zcv d m l v=false:=by simp only[zcv];rw[qa];left;simpa using h
  rw[this];exact gFl id rfl (.qb rfl)
 ·have hlv:(l.length:Int)=(v.length:Int):=by simpa using h
  have hv:zcv d m l v=(l.zip v).all (zbZ d m):=by simp only[zcv,uZ hlv,tn]
  rw[hv];clear h hv
  refine zj (λi:Nat=>i<=(l.zip v).length/\((l.zip v).take i).all (zbZ d m)=true) (λi=>([(0,.one (.mp 0)),(3,pS (yx v)),(5,.one (.bx 1005 0)),(16,pS (zw l)),(17,I l.length),(18,I i)],[(0,some (.map (yT zL (tm d)))),(1005,some (.box ((yp m).map V.p)))])) (λi=>(l.zip v).length - i) hC
   0 ⟨uD _,ue⟩ id gM ?_
  rintro i ⟨hi,hn⟩;refine gLc ?_ ?_<;>intro h
  ·have J:i<(l.zip v).length:=by first|simpa using h|(have h':=uk h;simp only[uj,td]at h' ⊢; omega)
   clear h;obtain⟨x,hx⟩:=za J;obtain⟨hx1,hx2⟩:=zhS hx
   repeat' first|refine gG ?_|refine gB ?_ ?_<;>intro h|refine gX ?_|refine gR (zjg d m _ _) iw ?_|refine zk ?_
   all_goals first
    |(have hp:(zbZ d m) x=true:=by clear hn hx J hi;simp_all[zbZ, -List.all_eq_true, -List.all_eq_false]<;>omega
      have hlt':=J
      try simp only[td,qy]at hlt'
      rw[wrap64 ua];refine zg (i+1) ⟨ua,?_⟩ id ua gM
      rw[xG (p:=zbZ d m) hx,hn,tn];exact hp)
    |(have hp:(zbZ d m) x=false:=by clear hn hx J hi;simp_all[zbZ, -List.all_eq_true, -List.all_eq_false]<;>omega
      have hno:=zac (p:=zbZ d m) hx hp
      (rw[hno];exact gFl id rfl (.qb rfl)))
  have hge: ¬i<(l.zip v).length:=by first|simpa using h|(have h':=uo h;simp only[uj,td]at h' ⊢; omega)
  have hall:(l.zip v).all (zbZ d m)=true:=vZ (p:=zbZ d m) ua hn;clear h hge hn hi;rw[hall]
  repeat' first|refine gG ?_|refine gB ?_ ?_<;>intro h|refine zd ?_
  exact gFl id rfl (.qb rfl)
def zah(d:zf)(x:Nd):Bool:=decide (x.t<0)||decide ((d.types.length:Int)<=x.t)
def zgw(d:zf)(x:Nd):zh prog 75 [zn (wy x),.one (.bx 0 0)] [(0,.box ((zr d).map V.p))] (.bq (zah d x)) [(0,.box ((zr d).map V.p))]:=by
 refine gFo func75 λC hC=>?_
 repeat' first|refine gG ?_|refine gB ?_ ?_<;>intro h
 all_goals (try simp only[uj]at*)
 all_goals first
  |exact gFl id rfl (.qb (by simp_all[zah]<;>(intros;omega)))
  |exact gFl id rfl (.qq (by simp_all[zah]<;>(intros;omega)))
def zle(f:FuncId)(d:zf)(l:List Nd)(p:Nd->Unit->Bool)(nx:Nd->Unit->Unit)(inv:Unit->Prop)
 (hf: ∀x∈l,∀s:Unit,inv s->zh prog f [zn (wy x),.one (.bx 0 0)] [(0,.box ((zr d).map V.p))] (.bq (p x s)) ((λs:Unit=>[(0,.box ((zr d).map V.p))]) (nx x s))/\(p x s=false->inv (nx x s))) (s:Unit) (hs:inv s):
 zh prog 116 [pS (.sl 2 (l.map wy)),.one (.cl f [] [.bx 0 0])] [(0,.box ((zr d).map V.p))] (I (idxR p nx l 0 s).1) ((λs:Unit=>[(0,.box ((zr d).map V.p))]) (idxR p nx l 0 s).2):=by
 refine gFo func116 λC hC=>?_;have hs0:=hs;refine wG 0 rfl λhl=>?_;rw[uj]at hl
 repeat' first|refine gG ?_|refine gB ?_ ?_<;>intro h
 rw[uj]
 refine zj (λq:Nat×Unit=>q.1<=l.length/\inv q.2/\idxR p nx (l.drop q.1) q.1 q.2=idxR p nx l 0 s) (λq=>(λs:Unit=>([(0,pS (.sl 2 (l.map wy))),(1,.one (.cl f [] [.bx 0 0])),(7,I l.length),(8,I q.1)],[(0,some (.box ((zr d).map V.p)))])) q.2) (λq=>l.length - q.1) hC
  (0,s) ⟨uD _,hs,rfl⟩ id gM ?_
 generalize idxR p nx l 0 s=res;clear hs hs0;rintro⟨i,s⟩ ⟨hi,hv,J⟩;simp only at hi hv J;refine gLc ?_ ?_<;>intro hh
 ·have hlt:i<l.length:=by simpa using hh
  clear hh;obtain⟨x,hx⟩:=za hlt;rw[drop_at hx]at J;simp only[idxR]at J;have hv2:=(hf x (uv hx) s hv).2
  repeat' first|refine gG ?_|refine gB ?_ ?_<;>intro h|refine gIt (zl hx) ?_|refine gR (hf x (uv hx) s hv).1 id ?_|refine zk ?_
  ·rw[uw uf]at J;subst J;exact gE
  ·have U:p x s=false:=by assumption
   rw[U]at J;simp only[uB,uN]at J;rw[wrap64 ua];exact zg (i+1,nx x s) ⟨by simp only;omega,hv2 U,J⟩ id (by simp only;omega) gM
 ·have hge: ¬i<l.length:=by simpa using hh
  rw[uC ua]at J;simp only[idxR]at J;subst J
  repeat' first|refine gG ?_|refine gB ?_ ?_<;>intro h|refine zd ?_
  exact gE
def zlf(f:FuncId)(d:zf)(l:List Nd)(p:Nd->Unit->Bool)(nx:Nd->Unit->Unit)(inv:Unit->Prop)
 (hf: ∀x∈l,∀s:Unit,inv s->zh prog f [zn (wy x),.one (.bx 0 0)] [(0,.box ((zr d).map V.p))] (.bq (p x s)) ((λs:Unit=>[(0,.box ((zr d).map V.p))]) (nx x s))/\(p x s=false->inv (nx x s))) (s:Unit) (J:inv s):
 zh prog 74 [pS (.sl 2 (l.map wy)),.one (.cl f [] [.bx 0 0])] [(0,.box ((zr d).map V.p))] (.bq (anyR p nx l s).1) ((λs:Unit=>[(0,.box ((zr d).map V.p))]) (anyR p nx l s).2):=by
 refine gFo func74 λC hC=>?_
 repeat' first|refine gG ?_|refine gB ?_ ?_<;>intro h|refine gR (zle f d l p nx inv hf s J) iw ?_
 exact zK ⟨.inl rfl,id,_,rfl,.qq (zaV p nx l 0 s),by rw[<-zaW p nx l 0 s];exact⟨rfl,uh⟩,rfl,rfl⟩
def wj(d:zf)(m:Hp)(x:Nd):Bool:=zcv d m (((d.types[x.t.toNat]?).map (λt=>t.f)).getD []) x.f
def zgx(d:zf)(m:Hp)(x:Nd)(U:zah d x=false):zh prog 77 [zn (wy x),.one (.bx 1 0),.one (.bx 2 0),.one (.bx 3 0)] [(0,.map (yT zL (tm d))),(1,.box [.mp 0]),(2,.box ((yp m).map V.p)),(3,.box ((zr d).map V.p))] (.bq (!wj d m x))
 [(0,.map (yT zL (tm d))),(1,.box [.mp 0]),(2,.box ((yp m).map V.p)),(3,.box ((zr d).map V.p))]:=by
 simp only[zah,uT,uu]at U;obtain⟨ty,J⟩:=za (l:=d.types) (i:=x.t.toNat) ua;have hv:wj d m x=zcv d m ty.f x.f:=by simp[wj,J]
 rw[hv];refine gFo func77 λC hC=>?_
 repeat' first|refine gG ?_|refine gB ?_ ?_<;>intro h|refine jE T hC rfl rfl rfl (Int.not_lt.1 U.1) (yQ J) rfl rfl ?_|refine gR (ze2 d m ty.f x.f) iw ?_
 exact gFl id rfl (.qq rfl)
def zlg(f:FuncId)(d:zf)(m:Hp)(l:List Nd)(p:Nd->Unit->Bool)(nx:Nd->Unit->Unit)(inv:Unit->Prop)
 (hf: ∀x∈l,∀s:Unit,inv s->zh prog f [zn (wy x),.one (.bx 1 0),.one (.bx 2 0),.one (.bx 3 0)] [(0,.map (yT zL (tm d))),(1,.box [.mp 0]),(2,.box ((yp m).map V.p)),(3,.box ((zr d).map V.p))] (.bq (p x s)) ((λs:Unit=>[(0,.map (yT zL (tm d))),(1,.box [.mp 0]),(2,.box ((yp m).map V.p)),(3,.box ((zr d).map V.p))]) (nx x s))/\(p x s=false->inv (nx x s))) (s:Unit) (hs:inv s):
 zh prog 116 [pS (.sl 2 (l.map wy)),.one (.cl f [] [.bx 1 0,.bx 2 0,.bx 3 0])] [(0,.map (yT zL (tm d))),(1,.box [.mp 0]),(2,.box ((yp m).map V.p)),(3,.box ((zr d).map V.p))] (I (idxR p nx l 0 s).1) ((λs:Unit=>[(0,.map (yT zL (tm d))),(1,.box [.mp 0]),(2,.box ((yp m).map V.p)),(3,.box ((zr d).map V.p))]) (idxR p nx l 0 s).2):=by
 refine gFo func116 λC hC=>?_;have hs0:=hs;refine wG 0 rfl λhl=>?_;rw[uj]at hl
 repeat' first|refine gG ?_|refine gB ?_ ?_<;>intro h
 rw[uj]
 refine zj (λq:Nat×Unit=>q.1<=l.length/\inv q.2/\idxR p nx (l.drop q.1) q.1 q.2=idxR p nx l 0 s) (λq=>(λs:Unit=>([(0,pS (.sl 2 (l.map wy))),(1,.one (.cl f [] [.bx 1 0,.bx 2 0,.bx 3 0])),(7,I l.length),(8,I q.1)],[(0,some (.map (yT zL (tm d)))),(1,some (.box [.mp 0])),(2,some (.box ((yp m).map V.p))),(3,some (.box ((zr d).map V.p)))])) q.2) (λq=>l.length - q.1) hC
  (0,s) ⟨uD _,hs,rfl⟩ id gM ?_
 generalize idxR p nx l 0 s=res;clear hs hs0;rintro⟨i,s⟩ ⟨hi,hv,J⟩;simp only at hi hv J;refine gLc ?_ ?_<;>intro hh
 ·have hlt:i<l.length:=by simpa using hh
  clear hh;obtain⟨x,hx⟩:=za hlt;rw[drop_at hx]at J;simp only[idxR]at J;have hv2:=(hf x (uv hx) s hv).2
  repeat' first|refine gG ?_|refine gB ?_ ?_<;>intro h|refine gIt (zl hx) ?_|refine gR (hf x (uv hx) s hv).1 id ?_|refine zk ?_
  ·rw[uw uf]at J;subst J;exact gE
  ·have U:p x s=false:=by assumption
   rw[U]at J;simp only[uB,uN]at J;rw[wrap64 ua];exact zg (i+1,nx x s) ⟨by simp only;omega,hv2 U,J⟩ id (by simp only;omega) gM
 ·have hge: ¬i<l.length:=by simpa using hh
  rw[uC ua]at J;simp only[idxR]at J;subst J
  repeat' first|refine gG ?_|refine gB ?_ ?_<;>intro h|refine zd ?_
  exact gE
def zlh(f:FuncId)(d:zf)(m:Hp)(l:List Nd)(p:Nd->Unit->Bool)(nx:Nd->Unit->Unit)(inv:Unit->Prop)
 (hf: ∀x∈l,∀s:Unit,inv s->zh prog f [zn (wy x),.one (.bx 1 0),.one (.bx 2 0),.one (.bx 3 0)] [(0,.map (yT zL (tm d))),(1,.box [.mp 0]),(2,.box ((yp m).map V.p)),(3,.box ((zr d).map V.p))] (.bq (p x s)) ((λs:Unit=>[(0,.map (yT zL (tm d))),(1,.box [.mp 0]),(2,.box ((yp m).map V.p)),(3,.box ((zr d).map V.p))]) (nx x s))/\(p x s=false->inv (nx x s))) (s:Unit) (J:inv s):
 zh prog 74 [pS (.sl 2 (l.map wy)),.one (.cl f [] [.bx 1 0,.bx 2 0,.bx 3 0])] [(0,.map (yT zL (tm d))),(1,.box [.mp 0]),(2,.box ((yp m).map V.p)),(3,.box ((zr d).map V.p))] (.bq (anyR p nx l s).1) ((λs:Unit=>[(0,.map (yT zL (tm d))),(1,.box [.mp 0]),(2,.box ((yp m).map V.p)),(3,.box ((zr d).map V.p))]) (anyR p nx l s).2):=by
 refine gFo func74 λC hC=>?_
 repeat' first|refine gG ?_|refine gB ?_ ?_<;>intro h|refine gR (zlg f d m l p nx inv hf s J) iq ?_
 exact zK ⟨.inl rfl,id,_,rfl,.qq (zaV p nx l 0 s),by rw[<-zaW p nx l 0 s];exact⟨rfl,rfl,rfl,rfl,uh⟩,rfl,rfl⟩
def zb0(d:zf)(m:Hp):Bool:= !decide (4096<(m.n.length:Int))&& !m.n.any (zah d)&&zcv d m d.globals m.g&&m.n.all (wj d m)
def zli(d:zf)(m:Hp):zh prog 46 [.one (.mp 0),zn (zr d),zn (yp m)] (ztG d) (.bq (zb0 d m)) (ztG d):=by
 have J:=zlf 75 d m.n (λy _=>zah d y) (λ_ s=>s) (λ_=>True) (λy _ _ _=>⟨zgw d y,λ_=>trivial⟩) () trivial;rw[zbS]at J;have U:=λ(ho:m.n.any (zah d)=false)=>zlh 77 d m m.n (λy _=> !wj d m y) (λ_ s=>s) (λ_=>True) (λy hy _ _=>⟨zgx d m y (by rw[List.any_eq_false]at ho;simpa using ho y hy),λ_=>trivial⟩) () trivial
 rw[zbS,vz]at U;refine gFo func46 λC hC=>?_
 repeat' first|refine gG ?_|refine gB ?_ ?_<;>intro h|refine zhV hC (kt:=9) (et:=3) rfl rfl ud rfl rfl ?_|refine gR J iC ?_|refine gR (ze2 d m _ _) iw ?_|refine wW hC (U uf) (nm [0,1003,1005,1004]) rfl rfl (yG.refl _) rfl rfl rfl rfl rfl rfl rfl rfl ?_
 all_goals (try simp only[uj]at*)
 all_goals clear J U
 all_goals first
  |exact gFl id rfl (.qb (by simp_all[zb0, -List.all_eq_true, -List.all_eq_false, -List.any_eq_true, -List.any_eq_false]))
  |exact gFl id rfl (.qq (by simp_all[zb0, -List.all_eq_true, -List.all_eq_false, -List.any_eq_true, -List.any_eq_false]))
def zlj(d:zf)(m:Hp):zh prog 46 [.one (.p (.k (.map none))),zn (zr d),zn (yp m)] [] (.bq false) []:=by
 refine gFo func46 λC hC=>?_
 repeat' first|refine gG ?_|refine gB ?_ ?_<;>intro h|refine ze3 hC (kt:=9) (et:=3) rfl ud rfl rfl ?_
 exact gFl id rfl (.qb rfl)
def zoB{t:Str}{v:Int}(h:(jL t|| !decide (wY d t<0))=true):zcQ d m t v=zcI d m t v:=by
 simp only[zcQ,zcI];by_cases J:t=(⟨#[105,110,116]⟩:UI)
 ·rw[uw J,uw J]
 ·rw[ur J,ur J];by_cases h2:t=(⟨#[98,111,111,108]⟩:UI)
  ·rw[uw h2,uw h2]
  ·rw[ur h2,ur h2]
   have: ¬wY d t<0:=by
    intro h3;rw[uZ h3]at h;simp[jL,J,h2]at h
   have e:tyD d t=wY d t:=by rw[tyD,ur this]
   rw[e];by_cases U:0<v
   ·rw[uZ U,uZ (show(1:Int)<=v by omega)]
   ·rw[uI U,uI (show ¬(1:Int)<=v by omega)]
theorem all_congr{p q:α->Bool}{l:List α}(h: ∀x∈l,p x=q x):l.all p=l.all q:=by
 induction l with
 |nil=>rfl
 |cons a l ih=>simp only[tQ,h a ue,ih λx J=>h x (by simp[J])]
theorem zaZ{α β:Type}{x:α×β}: ∀ {l:List α} {r:List β},x∈l.zip r->x.1∈l
 | [],_,h=>by simp at h
 |_::_,[],h=>by simp at h
 |a::l,b::r,h=>by
  simp only[List.zip_cons_cons,uF]at h⊢;rcases h with rfl|h
  ·exact .inl rfl
  ·exact .inr (zaZ h)
def zlk{l:List Fld}{v:List Int}(h:l.all (known d)=true):zcv d m l v=(decide ((l.length:Int)=(v.length:Int))&&(l.zip v).all (zaY d m)):=by
 simp only[zcv]
 congr 1
 refine all_congr λx J=>?_;exact zoB (List.all_eq_true.1 h _ (zaZ J))
theorem zoC(p:α->Bool)(l:List α):(!l.any p)=l.all λx=> !p x:=by
 induction l with
 |nil=>rfl
 |cons a l ih=>simp only[qp,tQ,Bool.not_or,ih]
def jy(h:zY d=true):ye d=true/\zeZ d=true/\d.globals.all (known d)=true/\ ∀t∈d.types,t.f.all (known d)=true:=by
 rw[zbY]at h;simp only[um]at h;exact⟨h.1.1.1,h.1.1.2,h.1.2,λt J=>List.all_eq_true.1 h.2 t J⟩
def zll(h:zY d=true):zb0 d m=zQ d m:=by
 obtain⟨_,_,hg,ht⟩:=jy h
 have e1:(!m.n.any (zah d)&&m.n.all (wj d m))=(m.n.all (y8 d)&&m.n.all (xQ d m)):=by
  rw[zoC,<-zgv,<-zgv];refine all_congr λx _=>?_;by_cases U:zah d x=true
  ·have:y8 d x=false:=by
    simp only[zah,uJ]at U;simp only[y8];rcases U with U|U<;>rw[U]<;>simp
   rw[U,this];rfl
  ·have ho':zah d x=false:=by simpa using U
   have hh:=ho';simp only[zah,uT,uu]at hh;obtain⟨ty,J⟩:=za (l:=d.types) (i:=x.t.toNat) ua;have hk:=ht ty (uv J)
   have e2:wj d m x=(decide ((ty.f.length:Int)=(x.f.length:Int))&&(ty.f.zip x.f).all (zaY d m)):=by
    simp only[wj,J,uG,Option.getD_some];exact zlk hk
   have e3:y8 d x=decide ((ty.f.length:Int)=(x.f.length:Int)):=by
    simp only[y8,J,uG,ui];rw[uI hh.1,uI hh.2];simp only[qA,tn];exact q9.2 ua
   have e4:xQ d m x=(ty.f.zip x.f).all (zaY d m):=by simp[xQ,J]
   rw[ho',e2,e3,e4];rfl
 have e2:decide ((d.globals.length:Int)=(m.g.length:Int))=decide ((m.g.length:Int)=(d.globals.length:Int)):=q9.2 ua;simp only[zb0,zQ,h,zlk hg,e2,tn];clear e2;generalize decide (4096<(m.n.length:Int))=a at*;generalize (d.globals.zip m.g).all (zaY d m)=b at*;generalize decide ((m.g.length:Int)=(d.globals.length:Int))=c at*
 revert e1
 generalize (!m.n.any (zah d))=e;generalize m.n.all (wj d m)=f;generalize m.n.all (y8 d)=g;generalize m.n.all (xQ d m)=i
 revert a b c e f g i;decide
theorem yO(d:zf)(m:Hp):zh prog 23 [zn (zr d),zn (yp m)] [] (.bq (zQ d m)) []:=by
 have hT:=zcP d;cases h:zY d with
 |true=>
  simp only[zcu,znH,h,uW]at hT;rw[<-zll h];refine gFo func23 λC hC=>?_
  repeat' first|refine gG ?_|refine gB ?_ ?_<;>intro h|refine gR hT iD ?_|refine gR (zli d m) iD ?_
  exact gFl id rfl (.qq rfl)
 |false=>
  simp only[zcu,znH,h,uB,uN]at hT;have e:zQ d m=false:=by simp[zQ,h]
  rw[e];refine gFo func23 λC hC=>?_
  repeat' first|refine gG ?_|refine gB ?_ ?_<;>intro h|refine gC hT ?_|refine gC (zlj d m) ?_
  exact gFl id rfl (.qq rfl)
def zhp(d:zf):S:=if zY d=true then .tup [zn (yp (znY d)),I 0]else .tup [zn (yp ⟨[],[]⟩),I 1]
theorem ziP(d:zf):zh prog 22 [zn (zr d)] [] (zhp d) []:=by
 have hT:=zcP d;cases h:zY d with
 |true=>
  simp only[zcu,znH,h,uW]at hT;simp only[zhp,h,uW]
  have hlen:d.globals.length<=8:=by
   have:=(jy h).1;simp only[ye,jl,xb,um,uq]at this;have:=this.1.1.1.1.1.1.1.1.2.1;omega
  refine gFo func22 λC hC=>?_
  repeat' first|refine gG ?_|refine gB ?_ ?_<;>intro h|refine gR hT iB ?_|refine zhV hC (kt:=9) (et:=3) rfl rfl ud rfl rfl ?_
  rw[uj];refine zrT T hC (bytes:=8) d.globals.length rfl rfl rfl rfl rfl rfl ud rfl ua rfl rfl ?_;refine zw8 11 rfl (s':=pS (yx (List.replicate d.globals.length 0))) (u7 (λr=>S.one (.p (.sl 1 r))) (newRow _)) ?_
  repeat' first|refine gG ?_|refine gB ?_ ?_<;>intro h
  exact zK ⟨.inl rfl,id,_,rfl,LeS.tup (.cons (LeS.agg (.cons (.refl _) (.cons (.nil 2) .nil))) (.cons (.refl _) .nil)),trivial,rfl,rfl⟩
 |false=>
  simp only[zcu,znH,h,uB,uN]at hT;simp only[zhp,h,uB,uN];refine gFo func22 λC hC=>?_
  repeat' first|refine gG ?_|refine gB ?_ ?_<;>intro h|refine gC hT ?_|refine ze3 hC (kt:=9) (et:=3) rfl ud rfl rfl ?_
  exact zK ⟨.inl rfl,id,_,rfl,LeS.tup (.cons (LeS.agg (.cons (.nil 1) (.cons (.nil 2) .nil))) (.cons (.refl _) .nil)),trivial,rfl,rfl⟩
structure SS where
 order:List Int
 again:Int
def zdH(d:zf)(t:Int):List Fld:=((d.types[t.toNat]?).map (λt=>t.f)).getD []
def pairsOf(d:zf)(m:Hp)(n:Int):List (Fld×Int):=match m.n[(n - 1).toNat]? with
 |some x=>(zdH d x.t).zip x.f
 |none=>[]
def isRef(p:Fld×Int):Bool:= !jL p.1.t&& !decide (p.2=0)
def enterS:Nat->zf->Hp->Int->SS->SS
 |0,_,_,_,s=>s
 |k+1,d,m,n,s=>if(s.order.any λx=>decide (x=n))=true then⟨s.order,if s.again=0 then n else s.again⟩
  else(pairsOf d m n).foldl (λs p=>if isRef p=true then enterS k d m p.2 s else s) ⟨s.order++[n],s.again⟩
def zcw(k:Nat)(d:zf)(m:Hp)(ps:List (Fld×Int))(s:SS):SS:=ps.foldl (λs p=>if isRef p=true then enterS k d m p.2 s else s) s
def zaD(k:Nat)(d:zf)(m:Hp)(p:Fld×Int)(ps:List (Fld×Int))(s:SS):zcw k d m (p::ps) s=zcw k d m ps (if isRef p=true then enterS k d m p.2 s else s):=rfl
def zcR{k:Nat}{n:Int}{s:SS}(h:(s.order.any λx=>decide (x=n))=false):enterS (k+1) d m n s=zcw k d m (pairsOf d m n) ⟨s.order++[n],s.again⟩:=by
 simp only[enterS,h,uB,uN];rfl
def zaE{k:Nat}{n:Int}{s:SS}(h:(s.order.any λx=>decide (x=n))=true):enterS (k+1) d m n s=⟨s.order,if s.again=0 then n else s.again⟩:=by
 simp only[enterS,h,uW]
def entsI:Int->List Int->List (Int×PV)
 |_,[]=>[]
 |k,v::r=>(v,ki k)::entsI (k+1) r
def zuE(l:List Int)(v:Int):Int:=idxOf (λx=>decide (x=v)) l+1
theorem zaF(v:Int): ∀(l:List Int) (k:Int),getK (entsI k l) v=if idxOf (λx=>decide (x=v)) l<0 then none else some (ki (k+idxOf (λx=>decide (x=v)) l))
 | [],k=>rfl
 |a::r,k=>by
  simp only[entsI,getK];by_cases h:a=v
  ·have e:idxOf (λx:Int=>decide (x=v)) (a::r)=0:=by rw[idxOf_cons,uw (uZ h)]
   rw[uw h,e,ur ua,Int.add_zero]
  ·rw[ur h,zaF v r (k+1)];have U: ¬(decide (a=v)=true):=by simp[h]
   rcases wi (p:=λx:Int=>decide (x=v)) (l:=r)with J|⟨i,x,J,_⟩
   ·have e:idxOf (λx:Int=>decide (x=v)) (a::r)= -1:=by rw[idxOf_cons,ur U,J];rfl
    rw[J,e];rfl
   ·have e:idxOf (λx:Int=>decide (x=v)) (a::r)=(i:Int)+1:=by rw[idxOf_cons,ur U,J,ur ua]
    rw[J,e,ur ua,ur ua];have:k+1+(i:Int)=k+((i:Int)+1):=by omega
    rw[this]
def zoD(l:List Int)(v:Int):(getK (entsI 1 l) v).getD (.k (.int .i64 0))=ki (zuE l v):=by
 rw[zaF,zuE];rcases wi (p:=λx:Int=>decide (x=v)) (l:=l)with J|⟨i,x,J,_⟩
 ·rw[J];rfl
 ·rw[J,ur ua];simp only[Option.getD_some];rw[Int.add_comm]
def zoE(l:List Int)(v:Int):(!decide (zuE l v=0))=l.any λx=>decide (x=v):=by
 have h:=zbX (λx:Int=>decide (x=v)) l
 have e:decide (zuE l v=0)=decide (idxOf (λx=>decide (x=v)) l<0):=by
  rw[zuE];rcases wi (p:=λx:Int=>decide (x=v)) (l:=l)with J|⟨i,x,J,_⟩
  ·rw[J];rfl
  ·rw[J];exact q9.2 ua
 rw[e,h,UF]
theorem zcS(x:Int): ∀(l:List Int) (k:Int),entsI k (l++[x])=entsI k l++[(x,ki (k+l.length))]
 | [],k=>by simp[entsI]
 |t::r,k=>by
  have:k+1+(r.length:Int)=k+((r.length+1:Nat):Int):=by omega
  simp only[uK,entsI,zcS x r (k+1),uX,this]
def wR{l:List Int}{v:Int}(h:(l.any λx=>decide (x=v))=false):getK (entsI 1 l) v=none:=by
 rw[zaF,uw];have:=zbX (λx:Int=>decide (x=v)) l;rw[h]at this;exact uk this
structure zgy (m:Hp) (s:SS):Prop where
 nodup:s.order.Nodup
 inr: ∀x∈s.order,1<=x/\x<=(m.n.length:Int)
theorem zhW: ∀(N:Nat) (l:List Int),l.Nodup->(∀x∈l,1<=x/\x<=(N:Int))->l.length<=N
 |0,l,_,h=>by
  cases l with
  |nil=>simp
  |cons a l=>have:=h a ue;omega
 |N+1,l,hn,h=>by
  by_cases U:((N+1:Nat):Int)∈l
  ·have h1:=zhW N (l.erase ((N+1:Nat):Int)) (hn.erase _) (λx J=>by
    have h2:=(List.Nodup.mem_erase_iff hn).1 J;have:=h x h2.2;have:=h2.1
    omega)
   rw[List.length_erase_of_mem U]at h1;omega
  ·have:=zhW N l hn (λx J=>by
    have:=h x J;have:x≠((N+1:Nat):Int):=λe=>U (e ▸ J)
    omega)
   omega
def zgy.le{s:SS}(h:zgy m s):s.order.length<=m.n.length:=zhW _ _ h.nodup h.inr
def zrU{l:List Int}{n:Int}:(l.any λx=>decide (x=n))=true↔n∈l:=by simp
def zgy.snoc{s:SS}{n:Int}(h:zgy m s)(h1:1<=n)(h2:n<=(m.n.length:Int))(hn:(s.order.any λx=>decide (x=n))=false)(a:Int):zgy m ⟨s.order++[n],a⟩:=by
 have U:n∉s.order:=λe=>by rw[zrU.2 e]at hn;cases hn
 refine⟨?_,λx J=>?_⟩
 ·rw[List.nodup_append];refine⟨h.nodup,ue,λa ha b hb=>?_⟩;simp only[tv]at hb;subst hb;rintro rfl;exact U ha
 ·rcases tp.1 J with J|J
  ·exact h.inr x J
  ·simp only[tv]at J;subst J;exact⟨h1,h2⟩
def zgz(m:Hp)(p:Fld×Int):Prop:=isRef p=true->1<=p.2/\p.2<=(m.n.length:Int)
structure WF (d:zf) (m:Hp):Prop where
 small:m.n.length<=4096
 node: ∀x∈m.n,0<=x.t/\ ∃ty,d.types[x.t.toNat]?=some ty/\ty.f.length=x.f.length/\ ∀p∈ty.f.zip x.f,zgz m p
def WF.zw9(h:WF d m)(n:Int): ∀p∈pairsOf d m n,zgz m p:=by
 intro p J;unfold pairsOf at J;split at J
 ·rename_i x U;obtain⟨_,ty,h1,_,h2⟩:=h.node x (uv U);simp only[zdH,h1,uG,Option.getD_some]at J;exact h2 p J
 ·cases J
theorem jR{d:zf}{m:Hp}(hw:WF d m): ∀(k:Nat) (n:Int) (s:SS),1<=n->n<=(m.n.length:Int)->zgy m s->zgy m (enterS k d m n s)/\s.order.length<=(enterS k d m n s).order.length
 |0,n,s,_,_,h=>⟨h,uM _⟩
 |k+1,n,s,h1,h2,h=>by
  cases hb:(s.order.any λx=>decide (x=n))with
  |true=>rw[zaE hb];exact⟨⟨h.nodup,h.inr⟩,uM _⟩
  |false=>
   rw[zcR hb]
   have: ∀(ps:List (Fld×Int)) (s:SS),(∀p∈ps,zgz m p)->zgy m s->zgy m (zcw k d m ps s)/\s.order.length<=(zcw k d m ps s).order.length:=by
    intro ps
    induction ps with
    |nil=>exact λs _ h=>⟨h,uM _⟩
    |cons p ps ih=>
     intro s J h;rw[zaD];by_cases hr:isRef p=true
     ·rw[uw hr];have hv:=J p ue hr;have e:=jR hw k p.2 s hv.1 hv.2 h;have f:=ih _ (λq U=>J q (by simp[U])) e.1;exact⟨f.1,tG e.2 f.2⟩
     ·rw[ur hr];exact ih s (λq U=>J q (by simp[U])) h
   have e:=this (pairsOf d m n) ⟨s.order++[n],s.again⟩ (hw.zw9 n) (h.snoc h1 h2 hb _);refine⟨e.1,?_⟩;have:=e.2;simp only[uQ,uP]at this;omega
def mv(a b i:Nat):Nat:=match Nat.beq i a with
 |true=>b
 |false=>i
def zqi{a b:Nat}(ha:100<=a)(hi:i<100):mv a b i=i:=by
 unfold mv;rw[xr ua]
def zqj(d:zf)(m:Hp)(again:Int)(a:Nat):List V:=(zr d).map V.p++((yp m).map V.p++[.ar a,.mp 2,.p (ki again)])
def sRL(d:zf)(m:Hp)(s:SS)(a:Nat):RL:=[(0,.box (zqj d m s.again a)),(a,.arr 1 (s.order.map zN)),(2,.map (yT (ze4 .i64) (entsI 1 s.order)))]
def zyf(d:zf)(m:Hp)(s:SS)(a:Nat):Tab:=[(0,some (.box (zqj d m s.again a))),(a,some (.arr 1 (s.order.map zN))),(2,some (.map (yT (ze4 .i64) (entsI 1 s.order))))]
def zlm(d:zf)(m:Hp)(k:Nat):Prop:= ∀(n:Int) (s:SS),1<=n->n<=(m.n.length:Int)->zgy m s->m.n.length - s.order.length<k->
 zh prog 189 [.one (.bx 0 0),I n] (sRL d m s 1) (.tup []) (sRL d m (enterS k d m n s) 3)
def look_ok(hw:WF d m){k:Nat}(hE:zlm d m k)(l:List Fld)(v:List Int)(hlv:l.length=v.length)(s:SS)(hp: ∀p∈l.zip v,zgz m p)(U:zgy m s)(hk:m.n.length - s.order.length<k):
 zh prog 130 [.one (.bx 0 0),pS (zw l),pS (yx v)] (sRL d m s 1) (.tup []) (sRL d m (zcw k d m (l.zip v) s) 3):=by
 refine gFo func130 λC hC=>?_;refine wG 1 rfl λhlen=>?_;rw[uj]at hlen
 repeat' first|refine gG ?_|refine gB ?_ ?_<;>intro h
 rw[uj];generalize hR:zcw k d m (l.zip v) s=RES
 refine zj (λq:Nat×SS=>q.1<=l.length/\zgy m q.2/\m.n.length - q.2.order.length<k/\zcw k d m ((l.zip v).drop q.1) q.2=RES)
  (λq=>([(0,.one (.bx 0 0)),(2,pS (yx v)),(8,pS (zw l)),(9,I l.length),(10,I q.1)],zyf d m q.2 150)) (λq=>l.length - q.1) hC
  (0,s) ⟨uD _,U,hk,hR⟩ (mv 150 1) ⟨rfl,⟨rfl,rfl,rfl,rfl,rfl,uh⟩,⟨rfl,rfl,rfl,uh⟩,rfl,λi hi=>zqi ua hi⟩ ?_
 clear hR U hk;rintro⟨i,s⟩ ⟨hi,U,hk,J⟩;simp only at hi U hk J;refine gLc ?_ ?_<;>intro h
 rotate_left
 ·have hge: ¬i<l.length:=by simpa using h
  rw[uC (by rw[td];omega)]at J;have hn':s=RES:=J;subst hn'
  repeat' first|refine gG ?_|refine gB ?_ ?_<;>intro h|refine zd ?_
  exact zK ⟨.inr rfl,mv 3 150,[],rfl,.refl _,⟨rfl,rfl,rfl,uh⟩,rfl,rfl⟩
 have hlt:i<l.length:=by simpa using h
 clear h;obtain⟨x,hx⟩:=za (l:=l.zip v) (i:=i) (by rw[td];omega);obtain⟨hx1,hx2⟩:=zhS hx;rw[drop_at hx,zaD]at J;have hrx:=hp x (uv hx)
 repeat' first|refine gG ?_|refine gB ?_ ?_<;>intro h|refine gX ?_|refine gC (zhQ _) ?_
 ·rename_i hpl;have hr:isRef x=true:=by simp only[isRef,hpl,h,Bool.and_self]
  rw[uw hr]at J;have hv:=hrx hr;have hkeep:=jR hw k x.2 s hv.1 hv.2 U
  repeat' first|refine gG ?_|refine gB ?_ ?_<;>intro h|refine gR (hE x.2 s hv.1 hv.2 U hk) (nm [0,150,2,160]) ?_
  rw[vd ua];exact zg (i+1,enterS k d m x.2 s) ⟨by simp only;omega,hkeep.1,by simp only;omega,J⟩ (mv 150 160) (by simp only;omega) ⟨rfl,⟨rfl,rfl,rfl,rfl,rfl,uh⟩,⟨rfl,rfl,rfl,uh⟩,rfl,λi hi=>zqi ua hi⟩
 all_goals
  have hr:isRef x=false:=by simp only[isRef,h,tP,qZ]
  rw[hr]at J;simp only[uB,uN]at J;simp only;rw[vd ua];exact zg (i+1,s) ⟨by simp only;omega,U,hk,J⟩ id (by simp only;omega) gM
theorem zoF(hw:WF d m): ∀k,zlm d m k:=by
 intro k
 induction k with
 |zero=>intro n s _ _ _ h;omega
 |succ k ih=>
  intro n s h1 h2 hs hk;have hsm:=hw.small;have hle:=hs.le;obtain⟨x,hx⟩:=za (l:=m.n) (i:=(n - 1).toNat) ua;obtain⟨ht,ty,hty,hlen,hrefs⟩:=hw.node x (uv hx);have U:pairsOf d m n=ty.f.zip x.f:=by simp only[pairsOf,hx,zdH,hty,uG,Option.getD_some]
  have J:=zoE s.order n;refine gFo func189 λC hC=>?_
  repeat' first|refine gG ?_|refine gB ?_ ?_<;>intro h|refine ze1 (ze4 .i64) hC (kt:=3) (et:=3) (c0:= .int .i64 0) rfl rfl rfl ud ud ud rfl (zoD s.order n) rfl rfl ?_
  ·rename_i h0;rw[J]at h0;rw[zaE h0,uw (uk h)];exact zK ⟨.inl rfl,mv 3 1,[],rfl,.refl _,⟨rfl,rfl,rfl,uh⟩,rfl,rfl⟩
  ·rename_i h0;rw[J]at h0;rw[zaE h0,ur (uo h)];exact zK ⟨.inl rfl,mv 3 1,[],rfl,.refl _,⟨rfl,rfl,rfl,uh⟩,rfl,rfl⟩
  ·rw[J]at h;have hs':=hs.snoc h1 h2 h s.again;have hle':=hs'.le;simp only[uQ,uP]at hle';rw[zcR h,U];have hL:=look_ok hw ih ty.f x.f hlen ⟨s.order++[n],s.again⟩ hrefs hs' (by simp only[uQ,uP];omega);have w1:IntKind.i64.wrap (n - 1)=n - 1:=wrap64 ua;have hlen2:(s.order.map zN).length=s.order.length:=uj _
   repeat' first|refine gG ?_|refine gB ?_ ?_<;>intro h|refine gT ?_|refine gY T 101 ((s.order++[n]).map zN) 8 ?_
   refine zhU (ze4 .i64) hC (kt:=3) (et:=3) (l':=entsI 1 (s.order++[n])) rfl rfl rfl rfl ud ud ?_ rfl ?_
   ·rw[zdG (wR h),zcS];simp only[uj,uQ,uP];rw[show((s.order.length+1:Nat):Int)=1+(s.order.length:Int) by omega]
   ·repeat' first|refine gG ?_|refine gB ?_ ?_<;>intro h|(rw[w1];refine gIt (yQ hx) ?_)|refine gIt (yQ hty) ?_|refine gR hL (nm [0,101,2,170]) ?_
    exact zK ⟨.inr rfl,mv 3 170,[],rfl,.refl _,⟨rfl,rfl,rfl,uh⟩,rfl,rfl⟩
def jS(d:zf)(m:Hp):SS:=zcw (m.n.length+1) d m (d.globals.zip m.g) ⟨[],0⟩
structure WG (d:zf) (m:Hp):Prop extends WF d m where
 glen:d.globals.length=m.g.length
 gref: ∀p∈d.globals.zip m.g,zgz m p
def zgA(J:WG d m):zh prog 87 [zn (zr d),zn (yp m)] [] (.one (.bx 0 0)) (sRL d m (jS d m) 1):=by
 have U:=look_ok J.toWF (zoF J.toWF (m.n.length+1)) d.globals m.g J.glen ⟨[],0⟩ J.gref ⟨ue,ue⟩ ue;refine gFo func87 λC hC=>?_
 repeat' first|refine gG ?_|refine gB ?_ ?_<;>intro h|refine ze0 (ze4 .i64) hC rfl rfl rfl ?_
 refine zj1 hC rfl 101 1 rfl [] uh [(1010,(zr d).map V.p++((yp m).map V.p++[.ar 101,.mp 1008,.p (ki 0)]))] ⟨⟨_,rfl,ub,?_⟩,uh⟩ ?_
 ·exact .cons (.refl _) (.cons (.refl _) (.cons (.refl _) (.cons (.refl _) (.cons (.refl _) (.cons (.refl _) (.cons (.refl _) (.cons (.refl _) (.cons (.refl _) (.cons (.refl _) (.cons .nil (.cons (.refl _) (.cons (.refl _) .nil))))))))))))
 repeat' first|refine gG ?_|refine gB ?_ ?_<;>intro h|refine gR U (nm [1010,101,1008,160]) ?_
 exact gW [1010,160,1008]
def jn(v:List Int)(hv:v.length<=1000000):zh prog 42 [pS (yx v)] [] (.one (.ar 0)) [(0,.arr 1 (v.map zN))]:=by
 refine gFo func42 λC hC=>?_;have hl:(v.map zN).length=v.length:=uj _
 repeat' first|refine gG ?_|refine gB ?_ ?_<;>intro h
 refine zln (rows:=v.map zN) (e:=1) (et:=3) rfl ud rfl (λb U=>?_)
 repeat' first|refine gG ?_|refine gB ?_ ?_<;>intro h
 ·have J:v=[]:=oN.1 (U h);subst J;refine gA 101 1 [(2,.one (.ar 101))] [] ?_;exact gW [101]
 ·refine zlo T hC rfl rfl rfl rfl rfl ?_
  repeat' first|refine gG ?_|refine gB ?_ ?_<;>intro h|refine gY T 102 (v.map zN) 8 ?_
  exact gW [102]
def zqk{p:Fld×Int}(h:zaY d m p=true):zgz m p:=by
 intro hr;simp only[isRef,um,ux,uu,jL,uT]at hr;obtain⟨⟨J,h2⟩,h3⟩:=hr;simp only[zaY,zcI,J,h2,h3,uN,qE,tw,um,uq]at h;exact⟨h.1.1,h.1.2⟩
def zuF(h:zQ d m=true):WG d m:=by
 simp only[zQ,um,uq,ux,uu]at h;obtain⟨⟨⟨⟨⟨_,hg⟩,hn⟩,hs⟩,hp⟩,hr⟩:=h;refine⟨⟨ua,λx hx=>?_⟩,ua,λp J=>zqk (List.all_eq_true.1 hp p J)⟩;obtain⟨h0,ty,U,hle⟩:=xR (List.all_eq_true.1 hs x hx);refine⟨h0,ty,U,hle,λp J=>zqk (d:=d) ?_⟩;have:=List.all_eq_true.1 hr x hx;simp only[xQ,U,uG,Option.getD_some]at this;exact List.all_eq_true.1 this p J
def ze5(h:zQ d m=true):zgy m (jS d m):=by
 have hw:=zuF h
 have: ∀(ps:List (Fld×Int)) (s:SS),(∀p∈ps,zgz m p)->zgy m s->zgy m (zcw (m.n.length+1) d m ps s):=by
  intro ps
  induction ps with
  |nil=>exact λs _ h=>h
  |cons p ps ih=>
   intro s J h;rw[zaD];by_cases hr:isRef p=true
   ·rw[uw hr];have hv:=J p ue hr;exact ih _ (λq U=>J q (by simp[U])) (jR hw.toWF _ p.2 s hv.1 hv.2 h).1
   ·rw[ur hr];exact ih s (λq U=>J q (by simp[U])) h
 exact this _ _ hw.gref ⟨ue,ue⟩
def ze6(J:zQ d m=false):zh prog 52 [zn (zr d),zn (yp m)] [] (.tup [pS (yx []),I 1]) []:=by
 refine gFo func52 λC hC=>?_
 repeat' first|refine gG ?_|refine gB ?_ ?_<;>intro h|refine gC (yO d m) ?_
 ·exact gFl id rfl (LeS.tup (.cons (.one (.nil 1)) (.cons (.refl _) .nil)))
 ·rw[J]at h;cases h
def ze7(J:zQ d m=true):zh prog 52 [zn (zr d),zn (yp m)] [] (.tup [pS (yx (jS d m).order),I 0]) []:=by
 refine gFo func52 λC hC=>?_
 repeat' first|refine gG ?_|refine gB ?_ ?_<;>intro h|refine gC (yO d m) ?_|refine gR (zgA (zuF J)) (nm [150,151,152]) ?_
 ·rw[J]at h;cases h
 ·refine gZ 151 [(4,pS (yx (jS d m).order))] [] ?_;exact gF
end Hw.Gm.Ps
namespace Hw.Gm
open Go Go.Proofs Hw.M Ps Tryz
def idxI:Option Nat->Int
 |some i=>i
 |none=> -1
def jo(f:FuncId)(l:List Fld)(p:Fld->Str->Bool)(nx:Fld->Str->Str)(inv:Str->Prop)
 (hf: ∀x∈l,∀s:Str,inv s->zh prog f [zn (zB x),.one (.bx 0 0)] [(0,.box [.p (ks s)])] (.bq (p x s)) ((λs:Str=>[(0,.box [.p (ks s)])]) (nx x s))/\(p x s=false->inv (nx x s))) (s:Str) (hs:inv s):
 zh prog 97 [pS (.sl 2 (l.map zB)),.one (.cl f [] [.bx 0 0])] [(0,.box [.p (ks s)])] (I (idxR p nx l 0 s).1) ((λs:Str=>[(0,.box [.p (ks s)])]) (idxR p nx l 0 s).2):=by
 refine gFo func97 λC hC=>?_;have hs0:=hs;refine wG 0 rfl λhl=>?_;rw[uj]at hl
 repeat' first|refine gG ?_|refine gB ?_ ?_<;>intro h
 rw[uj]
 refine zj (λq:Nat×Str=>q.1<=l.length/\inv q.2/\idxR p nx (l.drop q.1) q.1 q.2=idxR p nx l 0 s) (λq=>(λs:Str=>([(0,pS (.sl 2 (l.map zB))),(1,.one (.cl f [] [.bx 0 0])),(7,I l.length),(8,I q.1)],[(0,some (.box [.p (ks s)]))])) q.2) (λq=>l.length - q.1) hC
  (0,s) ⟨uD _,hs,rfl⟩ id gM ?_
 generalize idxR p nx l 0 s=res;clear hs hs0;rintro⟨i,s⟩ ⟨hi,hv,J⟩;simp only at hi hv J;refine gLc ?_ ?_<;>intro hh
 ·have hlt:i<l.length:=by simpa using hh
  clear hh;obtain⟨x,hx⟩:=za hlt;rw[drop_at hx]at J;simp only[idxR]at J;have hv2:=(hf x (uv hx) s hv).2
  repeat' first|refine gG ?_|refine gB ?_ ?_<;>intro h|refine gIt (zl hx) ?_|refine gR (hf x (uv hx) s hv).1 id ?_|refine zk ?_
  ·rw[uw uf]at J;subst J;exact gE
  ·have U:p x s=false:=by assumption
   rw[U]at J;simp only[uB,uN]at J;rw[wrap64 ua];exact zg (i+1,nx x s) ⟨by simp only;omega,hv2 U,J⟩ id (by simp only;omega) gM
 ·have hge: ¬i<l.length:=by simpa using hh
  rw[uC ua]at J;simp only[idxR]at J;subst J
  repeat' first|refine gG ?_|refine gB ?_ ?_<;>intro h|refine zd ?_
  exact gE
def zlp(f:FuncId)(l:List zX)(p:zX->Str->Bool)(nx:zX->Str->Str)(inv:Str->Prop)
 (hf: ∀x∈l,∀s:Str,inv s->zh prog f [zn (zR x),.one (.bx 0 0)] [(0,.box [.p (ks s)])] (.bq (p x s)) ((λs:Str=>[(0,.box [.p (ks s)])]) (nx x s))/\(p x s=false->inv (nx x s))) (s:Str) (hs:inv s):
 zh prog 115 [pS (.sl 2 (l.map zR)),.one (.cl f [] [.bx 0 0])] [(0,.box [.p (ks s)])] (I (idxR p nx l 0 s).1) ((λs:Str=>[(0,.box [.p (ks s)])]) (idxR p nx l 0 s).2):=by
 refine gFo func115 λC hC=>?_;have hs0:=hs;refine wG 0 rfl λhl=>?_;rw[uj]at hl
 repeat' first|refine gG ?_|refine gB ?_ ?_<;>intro h
 rw[uj]
 refine zj (λq:Nat×Str=>q.1<=l.length/\inv q.2/\idxR p nx (l.drop q.1) q.1 q.2=idxR p nx l 0 s) (λq=>(λs:Str=>([(0,pS (.sl 2 (l.map zR))),(1,.one (.cl f [] [.bx 0 0])),(7,I l.length),(8,I q.1)],[(0,some (.box [.p (ks s)]))])) q.2) (λq=>l.length - q.1) hC
  (0,s) ⟨uD _,hs,rfl⟩ id gM ?_
 generalize idxR p nx l 0 s=res;clear hs hs0;rintro⟨i,s⟩ ⟨hi,hv,J⟩;simp only at hi hv J;refine gLc ?_ ?_<;>intro hh
 ·have hlt:i<l.length:=by simpa using hh
  clear hh;obtain⟨x,hx⟩:=za hlt;rw[drop_at hx]at J;simp only[idxR]at J;have hv2:=(hf x (uv hx) s hv).2
  repeat' first|refine gG ?_|refine gB ?_ ?_<;>intro h|refine gIt (zl hx) ?_|refine gR (hf x (uv hx) s hv).1 id ?_|refine zk ?_
  ·rw[uw uf]at J;subst J;exact gE
  ·have U:p x s=false:=by assumption
   rw[U]at J;simp only[uB,uN]at J;rw[wrap64 ua];exact zg (i+1,nx x s) ⟨by simp only;omega,hv2 U,J⟩ id (by simp only;omega) gM
 ·have hge: ¬i<l.length:=by simpa using hh
  rw[uC ua]at J;simp only[idxR]at J;subst J
  repeat' first|refine gG ?_|refine gB ?_ ?_<;>intro h|refine zd ?_
  exact gE
def zlq(f:FuncId)(l:List Pr)(p:Pr->Str->Bool)(nx:Pr->Str->Str)(inv:Str->Prop)
 (hf: ∀x∈l,∀s:Str,inv s->zh prog f [zn (zD x),.one (.bx 0 0)] [(0,.box [.p (ks s)])] (.bq (p x s)) ((λs:Str=>[(0,.box [.p (ks s)])]) (nx x s))/\(p x s=false->inv (nx x s))) (s:Str) (hs:inv s):
 zh prog 56 [pS (.sl 5 (l.map zD)),.one (.cl f [] [.bx 0 0])] [(0,.box [.p (ks s)])] (I (idxR p nx l 0 s).1) ((λs:Str=>[(0,.box [.p (ks s)])]) (idxR p nx l 0 s).2):=by
 refine gFo func56 λC hC=>?_;have hs0:=hs;refine wG 0 rfl λhl=>?_;rw[uj]at hl
 repeat' first|refine gG ?_|refine gB ?_ ?_<;>intro h
 rw[uj]
 refine zj (λq:Nat×Str=>q.1<=l.length/\inv q.2/\idxR p nx (l.drop q.1) q.1 q.2=idxR p nx l 0 s) (λq=>(λs:Str=>([(0,pS (.sl 5 (l.map zD))),(1,.one (.cl f [] [.bx 0 0])),(7,I l.length),(8,I q.1)],[(0,some (.box [.p (ks s)]))])) q.2) (λq=>l.length - q.1) hC
  (0,s) ⟨uD _,hs,rfl⟩ id gM ?_
 generalize idxR p nx l 0 s=res;clear hs hs0;rintro⟨i,s⟩ ⟨hi,hv,J⟩;simp only at hi hv J;refine gLc ?_ ?_<;>intro hh
 ·have hlt:i<l.length:=by simpa using hh
  clear hh;obtain⟨x,hx⟩:=za hlt;rw[drop_at hx]at J;simp only[idxR]at J;have hv2:=(hf x (uv hx) s hv).2
  repeat' first|refine gG ?_|refine gB ?_ ?_<;>intro h|refine gIt (zl hx) ?_|refine gR (hf x (uv hx) s hv).1 id ?_|refine zk ?_
  ·rw[uw uf]at J;subst J;exact gE
  ·have U:p x s=false:=by assumption
   rw[U]at J;simp only[uB,uN]at J;rw[wrap64 ua];exact zg (i+1,nx x s) ⟨by simp only;omega,hv2 U,J⟩ id (by simp only;omega) gM
 ·have hge: ¬i<l.length:=by simpa using hh
  rw[uC ua]at J;simp only[idxR]at J;subst J
  repeat' first|refine gG ?_|refine gB ?_ ?_<;>intro h|refine zd ?_
  exact gE
def zlr(x:Fld)(s:Str):zh prog 291 [zn (zB x),.one (.bx 0 0)] [(0,.box [.p (ks s)])] (.bq (decide (x.n=s))) [(0,.box [.p (ks s)])]:=by
 refine gFo func291 λC hC=>?_
 repeat' first|refine gG ?_|refine gB ?_ ?_<;>intro h
 all_goals exact gE
def zjh(x:Pr)(s:Str):zh prog 259 [zn (zD x),.one (.bx 0 0)] [(0,.box [.p (ks s)])] (.bq (decide (x.n=s))) [(0,.box [.p (ks s)])]:=by
 refine gFo func259 λC hC=>?_
 repeat' first|refine gG ?_|refine gB ?_ ?_<;>intro h
 all_goals exact gE
def zji(x:zX)(s:Str):zh prog 297 [zn (zR x),.one (.bx 0 0)] [(0,.box [.p (ks s)])] (.bq (decide (x.n=s))) [(0,.box [.p (ks s)])]:=by
 refine gFo func297 λC hC=>?_
 repeat' first|refine gG ?_|refine gB ?_ ?_<;>intro h
 all_goals exact gE
theorem zls{α σ:Type}(p:α->Bool): ∀(l:List α) (k:Nat) (s:σ),(idxR (λx _=>p x) (λ_ s=>s) l k s)=(match l.findIdx? p with|some i=>((k+i:Nat):Int)|none=> -1,s)
 | [],k,s=>rfl
 |x::r,k,s=>by
  simp only[idxR,List.findIdx?_cons];by_cases h:p x=true
  ·rw[uw h,uw h];rfl
  ·rw[ur h,ur h,zls p r (k+1) s];cases r.findIdx? p with
   |none=>rfl
   |some i=>simp only[uG];rw[show k+1+i=k+(i+1) by omega]
theorem yR{α σ:Type}(p:α->Bool)(l:List α)(s:σ):(idxR (λx _=>p x) (λ_ s=>s) l 0 s)=(idxI (l.findIdx? p),s):=by
 rw[zls];cases l.findIdx? p with
 |none=>rfl
 |some i=>simp only[tJ,idxI]
def zdI(l:List Fld)(s:Str):zh prog 275 [pS (zw l),Sr s] [] (I (idxI (ixF l s))) []:=by
 have J:=jo 291 l (λx _=>decide (x.n=s)) (λ_ s=>s) (λc=>c=s) (λx hx c U=>⟨by subst U;exact zlr x c,λ_=>U⟩) s rfl;rw[yR]at J;refine gFo func275 λC hC=>?_
 repeat' first|refine gG ?_|refine gB ?_ ?_<;>intro h|refine gR J iy ?_
 exact gF
def zb1(d:zf)(s:Str):zh prog 230 [zn (zr d),Sr s] [] (I (idxI (zbG d s))) []:=by
 have J:=zlq 259 d.procs (λx _=>decide (x.n=s)) (λ_ s=>s) (λc=>c=s) (λx hx c U=>⟨by subst U;exact zjh x c,λ_=>U⟩) s rfl;rw[yR]at J;refine gFo func230 λC hC=>?_
 repeat' first|refine gG ?_|refine gB ?_ ?_<;>intro h|refine gR J iy ?_
 exact gF
def zgB(q:Int×Int×Int):List PV:=[ki q.1,ki q.2.1,ki q.2.2]
def mcC(d:zf)(fuel:Int)(m:Mc)(g n a:Nat):List V:=(zr d).map V.p++[.ar g,.ar n,.p (ki fuel),.p (ki m.ticks),.p (ki m.calls),.p (ki m.comps),.ar a]
abbrev mcR(d:zf)(fuel:Int)(m:Mc)(g n b a:Nat):RL:=[(0,.box (mcC d fuel m g n a)),(g,.arr 1 (m.g.map zN)),(n,.vw [b] 2 (wRows m.ns 0)),(b,.bag 1 (jP m.ns)),(a,.arr 3 (m.acc.map zgB))]
abbrev znI(e:Int):Value:= .iface 294 (.agg #[.int .i64 e])
def zlt(d:zf)(fuel:Int)(m:Mc)(s:Str):zh prog 286 [.one (.bx 0 0),Sr s] (mcR d fuel m 1 2 3 4) (I (idxI (zry d s))) (mcR d fuel m 1 2 3 4):=by
 have J:=zlp 297 d.types (λx _=>decide (x.n=s)) (λ_ s=>s) (λc=>c=s) (λx hx c U=>⟨by subst U;exact zji x c,λ_=>U⟩) s rfl;rw[yR]at J;refine gFo func286 λC hC=>?_
 repeat' first|refine gG ?_|refine gB ?_ ?_<;>intro h|refine gR J iy ?_
 exact gE
def vB(e:Int):yH prog 232 [.un,I e] [] (znI e) []:=by
 refine gFp func232 λC hC=>?_
 repeat' first|refine gG ?_|refine gB ?_ ?_<;>intro h|refine zbC hC [.int .i64 e] rfl ud rfl rfl ?_
 refine gPa ?_;exact zK ⟨rfl,id,trivial,rfl,rfl⟩
def jc(d:zf)(fuel:Int)(m:Mc)(k n f:Int)(h:m.acc.length<1099511627776):zh prog 276 [.one (.bx 0 0),I k,I n,I f] (mcR d fuel m 1 2 3 4) (.tup []) (mcR d fuel { m with acc:=m.acc++[(k,n,f)] } 1 2 3 9):=by
 have happ:m.acc.map zgB++[zgB (k,n,f)]=(m.acc++[(k,n,f)]).map zgB:=by rw[u5];rfl
 refine gFo func276 λC hC=>?_
 repeat' first|refine gG ?_|refine gB ?_ ?_<;>intro h|refine gT ?_|refine gY T 109 ((m.acc++[(k,n,f)]).map zgB) 24 ?_
 exact zK ⟨.inr rfl,nm [0,1,2,3,4,5,6,7,8,109],_,rfl,.refl _,⟨rfl,rfl,rfl,rfl,rfl,uh⟩,rfl,rfl⟩
end Hw.Gm
namespace Hw
open Go
variable {P:Program}{rows:List (List PC)}
section
variable {d:Option Nat} {ty:TypeId} {ps:String} {af:Array Edge} {g:Option (Nat×Bool)} {x y z:Operand} {t:TypeId}
def zuG{M:Mem}{ρ:Nat->Value}{w:World}{id e:Nat}{ids:List Nat}{l h:Nat}{a:Option Addr}{cap:Nat}(hr:zA M ρ w id (.vw ids e rows))(hv:ρ id= .slice a rows.length cap)(h1:l<=h)(h2:h<=rows.length):
 RepV M ρ (.sv id (l*e) (h - l)) (sliced a l h cap e):=by
 obtain⟨a',cap',J,e2,e3,_,e4⟩:=hr;rw[hv]at J;simp only[Value.slice.injEq]at J;obtain⟨rfl,_,rfl⟩:=J;simp only[RepV];by_cases U:cap=l
 ·left;exact⟨ua,a,cap - l,by simp only[sliced,uw U];congr 1;omega⟩
 ·rcases e4 with⟨rfl,rfl⟩|⟨b,o,cs,el,fz,rfl,_⟩
  ·omega
  ·right;exact⟨b,o,_,cap,cap - l,hv,by simp[sliced,ur U,Addr.add],ua,ua⟩
theorem zol.sv{e:Nat}{tx el:TypeId}{id l m:Nat}{ids:List Nat}{rows:List (List PC)}(h:elemSz P tx=some (el,e))(hl:l+m<=rows.length):zol P e tx (.one (.sv id (l*e) m)) [(id,.vw ids e rows)] ((rows.drop l).take m) ids:=by
 intro C st M ρ a w v hH hr ht;obtain⟨_,hu,_,_⟩:=zp h;have U:((rows.drop l).take m).length=m:=by rw[u9,tD];omega
 obtain⟨b,cap,h1,h2,h3,hle,h4⟩:=hH.zz.res id _ ht.1;have J: ∀r∈(rows.drop l).take m,r.length=e:=λr hr=>hle r (List.mem_of_mem_drop (qd hr))
 simp only[RepS,RepV]at hr;rw[U];rcases hr with⟨rfl,a0,c0,rfl⟩|⟨b0,o0,N,cap0,c0,f1,rfl,f3,f4⟩
 ·refine⟨[],?_,ue,ue⟩;cases a0 with
  |none=>exact Src.ofNil w hu c0
  |some ad=>exact Src.ofSlice w hu ad 0 c0 [] ue ue ue
 ·rcases h4 with⟨rfl,hc⟩|⟨b',o,cs,el',fz,rfl,h6,_,_,h8⟩
  ·simp_all
  ·rw[h1]at f1;simp only[Value.slice.injEq,ui,Addr.mk.injEq]at f1;obtain⟨⟨rfl,rfl,_⟩,_,rfl⟩:=f1;have hfl:=jm J;rw[U]at hfl
   have hat: ∀j x,((rows.drop l).take m).flatten[j]?=some x->rows.flatten[l*e+j]?=some x:=λj x hj=>by
    obtain⟨i,c,row,g1,g2,g3,g4⟩:=zdB J hj;have him:i<m:=by have:=(uy.1 g3).1;omega
    rw[qv,uw him,tc]at g3;have:=vY hle (i:=l+i) (c:=c) g2;rw[g3,tS]at this;rw[g1,<-qF,this];exact g4
   obtain⟨us,h9,h10⟩:=wh (M:=M) (ρ:=ρ) (vs:=((rows.drop l).take m).flatten.map (toV ids)) (g:=λj=>cs[o+(l*e+j)]?) λj u hj=>by
    grind
   refine⟨us,Src.ofSlice w hu _ _ c0 us (by rw[h9.length,uj,hfl]) (λj u hj=>by rw[zT];have:=h10 j u hj;simp only[<-qF]at this;simp[World.cell?,h6,this]) h9.one,λj p hj=>?_,J⟩;exact y9 h9 (m:=j) (by grind)
end
variable {C:Ctx}{Q:Exit->St->Prop}{tab:Tab}
def OpF(id id' id2 j:Nat)(ρ:Nat->Value):Prop:= ∃(cs:List Value) (v:Value),ρ id= .tuple cs.toArray/\cs[j]?=some v/\ρ id2=v/\ρ id'= .tuple (cs.set j (.slice none 0 0)).toArray
theorem OpF.nv{id id' J j i:Nat}(h:i≠j):RwV (OpF id id' J j) (.nv id i) (.nv id' i):=λM ρ x U hr=>by
 obtain⟨cs,v,h1,h2,h3,h4⟩:=U;simp only[RepV]at hr⊢
 grind
theorem OpF.ar{id id' J j:Nat}:RwV (OpF id id' J j) (.nv id j) (.ar J):=λM ρ x U hr=>by
 obtain⟨cs,v,h1,h2,h3,h4⟩:=U;simp only[RepV]at hr⊢
 simp_all
theorem zat.nv{e q:Nat}{tx el:TypeId}{id:Nat}{L:List (List (List PV))}{rs:List (List PV)}(h:elemSz P tx=some (el,e))(hq:L[q]?=some rs)(hl: ∀r∈rs,r.length=e):zat P e tx (.one (.nv id q)) [(id,.bag e L)] rs:=by
 intro C st M ρ a w v hH hr hT;obtain⟨_,J,_,_⟩:=zp h;simp only[RepS,RepV]at hr;obtain⟨xs,f1,f2,_⟩:=hr;obtain⟨a',cap,rfl,h2,h3,h4⟩:=zaa (hH.zz.res id _ hT.1) hq f1 f2;rcases h4 with⟨rfl,hc⟩|⟨b',o,cs,el',fz,rfl,h6,_,_,h8⟩
 ·have:rs=[]:=uY.1 ua;subst this;exact⟨[],Src.ofNil w J cap,by simp[RepVs],ue⟩
 ·obtain⟨us,U,g2,g3⟩:=h8.cells (ρ:=ρ);exact⟨us,Src.ofSlice w J _ _ cap us g2 (λj u hj=>by rw[zT];have:=g3 j u hj;simp[World.cell?,h6,this]) U.one,U,hl⟩
end Hw
