import Derived.Test.YtolghpfockkldaaGreatDoorC9
import Derived.Test.YtolghpfockkldaaGreatDoorC4
import Derived.Test.YtolghpfockkldaaGreatDoorC2
import Derived.Test.YtolghpfockkldaaGreatDoorC1
import Derived.Test.YtolghpfockkldaaGreatDoorE3
import Derived.Lib.LaidTab
set_option linter.defProp false
set_option linter.unusedVariables false
set_option linter.unusedSimpArgs false
set_option linter.unusedSectionVars false
set_option linter.unnecessarySimpa false
namespace Hw.Gm
open Go Go.Proofs Go.Shelf Hw.M Ps Tryz
noncomputable def fl:List (Nat×Func):=[(63,f63),(64,f64),(65,f65),(66,f66),(101,f101),(103,f103),(104,f104),(105,f105),(106,f106),(149,f149),(150,f150),(151,f151),(152,f152),(211,f211),(212,f212),(252,f252),(253,f253),(256,f256),(272,f272),(285,f285),(254,f254),(102,f102),(284,f284),(255,f255),(44,f44)]
theorem zwE:zwi (λf fn=>prog.funcs[f]?=some fn/\(fn.name== "runtime.NumGoroutine")=false) fl:=by
 unfold fl
 repeat' first|exact uh|refine⟨⟨ud,ud⟩,?_⟩
def bl:List (Nat×Nat):=[(124,56),(136,32),(217,96),(90,104),(129,40),(160,96),(163,88),(126,72),(165,72)]
theorem zwF:zwi (λt b=>(prog.info? t).map (·.bytes)=some b) bl:=by
 unfold bl
 repeat' first|exact uh|refine⟨by dsimp only;kernel_rfl,?_⟩
noncomputable def knX(l:List Ent)(hl:zj5 prog l):Kno prog where
 fo:=asc fl
 fo_ok:=zj6 zwE
 bo:=asc bl
 bo_ok:=zj6 zwF
 lf:=λf a R=>match Nat.beq f 107 with
  |true=>lfI a R
  |false=>lfT l f a R
 lf_ok:=λf a R r R' h=>by
  split at h
  ·rename_i e;rw[uA e];exact ztW h
  ·exact zpX hl h
def lxC:Nat->By->Int×Int->List Tok
 |0,_,_=>[]
 |_+1,[],p=>[⟨5,(⟨#[]⟩:UI),0,p.1,p.2⟩]
 |f+1,c::r,p=>match tk (c::r)with
  |none=>[]
  |some (n,o)=>match o with
   |none=>lxC f ((c::r).drop n) (((c::r).take n).foldl mvX p)
   |some t=>jI p t::lxC f ((c::r).drop n) (((c::r).take n).foldl mvX p)
variable {t:Int×Str×Int}
theorem zwG{l:By}(h:znU l=some t):t.1≠5:=by
 unfold znU at h
 repeat' split at h
 all_goals first
  |(cases h;done)
  |(simp only[ui]at h;subst h;simp)
theorem zya{l:By}{n:Nat}(h:tk l=some (n,some t)):t.1≠5:=by
 cases l with
 |nil=>cases h
 |cons c r=>
  simp only[tk]at h;by_cases J:blB c=true
  ·rw[uw J]at h;cases h
  rw[ur J]at h;by_cases h2:c=35
  ·rw[uw h2]at h;cases h
  rw[ur h2]at h;by_cases h3:wB c=true
  ·rw[uw h3]at h;obtain⟨x,U,h4⟩:=uR.1 h;cases h4;exact zwG U
  ·rw[ur h3]at h;obtain⟨x,U,h4⟩:=uR.1 h;cases h4;exact(by decide:(4:Int)≠5)
theorem zj7: ∀(f:Nat) (l:By) (p:Int×Int) (out:List Tok),(∃t∈lxC f l p,t.k=5)->lx f l p out=(out++lxC f l p,(0,0),0)
 |0,_,_,_,h=>by obtain⟨t,J,_⟩:=h;cases J
 |_+1,[],_,_,_=>rfl
 |f+1,c::r,p,out,h=>by
  simp only[lxC]at h⊢;simp only[lx];cases hq:tk (c::r)with
  |none=>rw[hq]at h;obtain⟨t,J,_⟩:=h;cases J
  |some z=>
   obtain⟨n,o⟩:=z;rw[hq]at h;cases o with
   |none=>
    simp only at h;simp only[zj7 f _ _ _ h,qc,Option.toList_none,uV]
   |some t=>
    simp only at h
    have h2: ∃x∈lxC f ((c::r).drop n) (((c::r).take n).foldl mvX p),x.k=5:=by
     obtain⟨x,U,h5⟩:=h;rcases uF.1 U with rfl|U
     ·exact absurd h5 (zya hq)
     ·exact⟨x,U,h5⟩
    simp only[zj7 f _ _ _ h2,uG,Option.toList_some,tE,qP]
noncomputable def zj8:List Tok:=lxC ((Ps.lst znC).length+1) (Ps.lst znC) (1,1)
theorem znV:(decide (znC.size<=65536)&&zj8.any (λt=>decide (t.k=5)))=true:=by kernel_rfl
theorem ziO{s:Str}(hz:s.size<=65536)(h: ∃t∈lxC ((Ps.lst s).length+1) (Ps.lst s) (1,1),t.k=5):vk s=(lxC ((Ps.lst s).length+1) (Ps.lst s) (1,1),(0,0),0):=by
 unfold vk;rw[ur ua];exact zj7 _ _ _ [] h
theorem znW:zh prog 62 [Sr znC] [] (.tup [pS (zj9 zj8),zn [ki 0,ki 0],I 0]) []:=by
 have h:=znV;unfold zj8 at h⊢;generalize znC=s at h⊢;rw[um,List.any_eq_true]at h;have J:=uk h.1;have hT:=ziO J (by obtain⟨t,U,h2⟩:=h.2;exact⟨t,U,uk h2⟩);have:=zem s ua;rwa [hT]at this
noncomputable def rdX(i:Nat):RL:=[(0,.box [.p (zj9 zj8),.p (ki i),.p (.k (.bool false))])]
abbrev rdA:List S:=[.one (.bx 0 0)]
def xN(s:Str):Ex:= .mk 4 0 s []
def xI(n:Int):Ex:= .mk 1 n (⟨#[]⟩:UI) []
def xO:Ex:= .mk 3 0 (⟨#[]⟩:UI) []
def xF(x:Ex)(s:Str):Ex:= .mk 5 0 s [x]
def xC(s:Str)(l:List Ex):Ex:= .mk 7 0 s l
def x1(o:Int)(x:Ex):Ex:= .mk o 0 (⟨#[]⟩:UI) [x]
def x2(o:Int)(x y:Ex):Ex:= .mk o 0 (⟨#[]⟩:UI) [x,y]
def zxM:PV:= .sl 1 [[.sl 2 [[ks (⟨#[111,114]⟩:UI),ki 20]]],[.sl 2 [[ks (⟨#[97,110,100]⟩:UI),ki 19]]],[.sl 2 []],[.sl 2 [[ks ⟨#[61,61]⟩,ki 14],[ks ⟨#[33,61]⟩,ki 15],[ks ⟨#[60,61]⟩,ki 17],[ks ⟨#[60]⟩,ki 16]]],[.sl 2 [[ks ⟨#[43]⟩,ki 9],[ks ⟨#[45]⟩,ki 10]]],[.sl 2 [[ks ⟨#[42]⟩,ki 11],[ks ⟨#[47]⟩,ki 12],[ks ⟨#[37]⟩,ki 13]]]]
def zdh:List Ent:=[⟨254,[],[],pS zxM,[]⟩]
theorem zrf:(evalF T (knX [] trivial) 999 1 254 [] []).map (λq=>(leS q.1 (pS zxM),q.2))=some (true,[]):=by kernel_rfl
theorem yI:zj5 prog zdh:=⟨xh zrf,uh⟩
def p0:Pr:=⟨(⟨#[98,101,102,111,114,101]⟩:UI),[⟨(⟨#[107]⟩:UI),(⟨#[105,110,116]⟩:UI)⟩],(⟨#[78]⟩:UI),[⟨(⟨#[112]⟩:UI),(⟨#[78]⟩:UI)⟩,⟨(⟨#[113]⟩:UI),(⟨#[78]⟩:UI)⟩],[.mk 1 (⟨#[113]⟩:UI) [(xN (⟨#[114]⟩:UI))] [] [],.mk 4 (⟨#[]⟩:UI) [(x2 19 (x2 15 (xN (⟨#[113]⟩:UI)) xO) (x2 16 (xF (xN (⟨#[113]⟩:UI)) (⟨#[107]⟩:UI)) (xN (⟨#[107]⟩:UI))))] [.mk 1 (⟨#[112]⟩:UI) [(xN (⟨#[113]⟩:UI))] [] [],.mk 1 (⟨#[113]⟩:UI) [(xF (xN (⟨#[113]⟩:UI)) (⟨#[110]⟩:UI))] [] []] [],.mk 5 (⟨#[]⟩:UI) [(xN (⟨#[112]⟩:UI))] [] []]⟩
theorem c0:(evalF T (knX zdh yI) 9999 40 104 rdA (rdX 22)).map (λq=>(leS q.1 (zn (zD p0)),q.2))=some (true,rdX 67):=by kernel_rfl
def p1:Pr:=⟨(⟨#[97,102,116,101,114]⟩:UI),[⟨(⟨#[112]⟩:UI),(⟨#[78]⟩:UI)⟩],(⟨#[78]⟩:UI),[],[.mk 5 (⟨#[]⟩:UI) [(.mk 21 0 (⟨#[]⟩:UI) [(x2 14 (xN (⟨#[112]⟩:UI)) xO),(xN (⟨#[114]⟩:UI)),(xF (xN (⟨#[112]⟩:UI)) (⟨#[110]⟩:UI))])] [] []]⟩
theorem c1:(evalF T (knX zdh yI) 9999 40 104 rdA (rdX 68)).map (λq=>(leS q.1 (zn (zD p1)),q.2))=some (true,rdX 90):=by kernel_rfl
def p2:Pr:=⟨(⟨#[112,117,116]⟩:UI),[⟨(⟨#[107]⟩:UI),(⟨#[105,110,116]⟩:UI)⟩,⟨(⟨#[118]⟩:UI),(⟨#[105,110,116]⟩:UI)⟩],(⟨#[105,110,116]⟩:UI),[⟨(⟨#[112]⟩:UI),(⟨#[78]⟩:UI)⟩,⟨(⟨#[113]⟩:UI),(⟨#[78]⟩:UI)⟩],[.mk 1 (⟨#[112]⟩:UI) [(xC (⟨#[98,101,102,111,114,101]⟩:UI) [(xN (⟨#[107]⟩:UI))])] [] [],.mk 1 (⟨#[113]⟩:UI) [(xC (⟨#[97,102,116,101,114]⟩:UI) [(xN (⟨#[112]⟩:UI))])] [] [],.mk 3 (⟨#[]⟩:UI) [(x2 19 (x2 15 (xN (⟨#[113]⟩:UI)) xO) (x2 14 (xF (xN (⟨#[113]⟩:UI)) (⟨#[107]⟩:UI)) (xN (⟨#[107]⟩:UI))))] [.mk 2 (⟨#[118]⟩:UI) [(xN (⟨#[113]⟩:UI)),(xN (⟨#[118]⟩:UI))] [] [],.mk 5 (⟨#[]⟩:UI) [(xI 1)] [] []] [],.mk 1 (⟨#[113]⟩:UI) [(xC (⟨#[109,97,107,101]⟩:UI) [(xN (⟨#[107]⟩:UI)),(xN (⟨#[118]⟩:UI)),(xN (⟨#[113]⟩:UI))])] [] [],.mk 3 (⟨#[]⟩:UI) [(x2 14 (xN (⟨#[112]⟩:UI)) xO)] [.mk 1 (⟨#[114]⟩:UI) [(xN (⟨#[113]⟩:UI))] [] []] [.mk 2 (⟨#[110]⟩:UI) [(xN (⟨#[112]⟩:UI)),(xN (⟨#[113]⟩:UI))] [] []],.mk 1 (⟨#[99]⟩:UI) [(x2 9 (xN (⟨#[99]⟩:UI)) (xI 1))] [] [],.mk 5 (⟨#[]⟩:UI) [(xI 0)] [] []]⟩
theorem c2:(evalF T (knX zdh yI) 9999 40 104 rdA (rdX 91)).map (λq=>(leS q.1 (zn (zD p2)),q.2))=some (true,rdX 184):=by kernel_rfl
def p3:Pr:=⟨(⟨#[109,97,107,101]⟩:UI),[⟨(⟨#[107]⟩:UI),(⟨#[105,110,116]⟩:UI)⟩,⟨(⟨#[118]⟩:UI),(⟨#[105,110,116]⟩:UI)⟩,⟨(⟨#[110]⟩:UI),(⟨#[78]⟩:UI)⟩],(⟨#[78]⟩:UI),[⟨(⟨#[120]⟩:UI),(⟨#[78]⟩:UI)⟩],[.mk 1 (⟨#[120]⟩:UI) [(.mk 6 0 (⟨#[78]⟩:UI) [])] [] [],.mk 2 (⟨#[107]⟩:UI) [(xN (⟨#[120]⟩:UI)),(xN (⟨#[107]⟩:UI))] [] [],.mk 2 (⟨#[118]⟩:UI) [(xN (⟨#[120]⟩:UI)),(xN (⟨#[118]⟩:UI))] [] [],.mk 2 (⟨#[110]⟩:UI) [(xN (⟨#[120]⟩:UI)),(xN (⟨#[110]⟩:UI))] [] [],.mk 5 (⟨#[]⟩:UI) [(xN (⟨#[120]⟩:UI))] [] []]⟩
theorem c3:(evalF T (knX zdh yI) 9999 40 104 rdA (rdX 185)).map (λq=>(leS q.1 (zn (zD p3)),q.2))=some (true,rdX 229):=by kernel_rfl
def p4:Pr:=⟨(⟨#[103,101,116]⟩:UI),[⟨(⟨#[107]⟩:UI),(⟨#[105,110,116]⟩:UI)⟩],(⟨#[105,110,116]⟩:UI),[⟨(⟨#[113]⟩:UI),(⟨#[78]⟩:UI)⟩],[.mk 1 (⟨#[113]⟩:UI) [(xC (⟨#[97,102,116,101,114]⟩:UI) [(xC (⟨#[98,101,102,111,114,101]⟩:UI) [(xN (⟨#[107]⟩:UI))])])] [] [],.mk 3 (⟨#[]⟩:UI) [(x2 19 (x2 15 (xN (⟨#[113]⟩:UI)) xO) (x2 14 (xF (xN (⟨#[113]⟩:UI)) (⟨#[107]⟩:UI)) (xN (⟨#[107]⟩:UI))))] [.mk 5 (⟨#[]⟩:UI) [(xF (xN (⟨#[113]⟩:UI)) (⟨#[118]⟩:UI))] [] []] [],.mk 5 (⟨#[]⟩:UI) [(x1 8 (xI 1099511627776))] [] []]⟩
theorem c4:(evalF T (knX zdh yI) 9999 40 104 rdA (rdX 230)).map (λq=>(leS q.1 (zn (zD p4)),q.2))=some (true,rdX 273):=by kernel_rfl
def p5:Pr:=⟨(⟨#[114,101,109,111,118,101]⟩:UI),[⟨(⟨#[107]⟩:UI),(⟨#[105,110,116]⟩:UI)⟩],(⟨#[105,110,116]⟩:UI),[⟨(⟨#[112]⟩:UI),(⟨#[78]⟩:UI)⟩,⟨(⟨#[113]⟩:UI),(⟨#[78]⟩:UI)⟩],[.mk 1 (⟨#[112]⟩:UI) [(xC (⟨#[98,101,102,111,114,101]⟩:UI) [(xN (⟨#[107]⟩:UI))])] [] [],.mk 1 (⟨#[113]⟩:UI) [(xC (⟨#[97,102,116,101,114]⟩:UI) [(xN (⟨#[112]⟩:UI))])] [] [],.mk 3 (⟨#[]⟩:UI) [(x2 20 (x2 14 (xN (⟨#[113]⟩:UI)) xO) (x2 15 (xF (xN (⟨#[113]⟩:UI)) (⟨#[107]⟩:UI)) (xN (⟨#[107]⟩:UI))))] [.mk 5 (⟨#[]⟩:UI) [(x1 8 (xI 1099511627776))] [] []] [],.mk 3 (⟨#[]⟩:UI) [(x2 14 (xN (⟨#[112]⟩:UI)) xO)] [.mk 1 (⟨#[114]⟩:UI) [(xF (xN (⟨#[113]⟩:UI)) (⟨#[110]⟩:UI))] [] []] [.mk 2 (⟨#[110]⟩:UI) [(xN (⟨#[112]⟩:UI)),(xF (xN (⟨#[113]⟩:UI)) (⟨#[110]⟩:UI))] [] []],.mk 1 (⟨#[99]⟩:UI) [(x2 10 (xN (⟨#[99]⟩:UI)) (xI 1))] [] [],.mk 5 (⟨#[]⟩:UI) [(xF (xN (⟨#[113]⟩:UI)) (⟨#[118]⟩:UI))] [] []]⟩
theorem c5:(evalF T (knX zdh yI) 9999 40 104 rdA (rdX 274)).map (λq=>(leS q.1 (zn (zD p5)),q.2))=some (true,rdX 354):=by kernel_rfl
def p6:Pr:=⟨(⟨#[102,108,111,111,114]⟩:UI),[⟨(⟨#[107]⟩:UI),(⟨#[105,110,116]⟩:UI)⟩],(⟨#[105,110,116]⟩:UI),[⟨(⟨#[112]⟩:UI),(⟨#[78]⟩:UI)⟩,⟨(⟨#[113]⟩:UI),(⟨#[78]⟩:UI)⟩],[.mk 1 (⟨#[112]⟩:UI) [(xC (⟨#[98,101,102,111,114,101]⟩:UI) [(xN (⟨#[107]⟩:UI))])] [] [],.mk 1 (⟨#[113]⟩:UI) [(xC (⟨#[97,102,116,101,114]⟩:UI) [(xN (⟨#[112]⟩:UI))])] [] [],.mk 3 (⟨#[]⟩:UI) [(x2 19 (x2 15 (xN (⟨#[113]⟩:UI)) xO) (x2 14 (xF (xN (⟨#[113]⟩:UI)) (⟨#[107]⟩:UI)) (xN (⟨#[107]⟩:UI))))] [.mk 5 (⟨#[]⟩:UI) [(xN (⟨#[107]⟩:UI))] [] []] [],.mk 5 (⟨#[]⟩:UI) [(.mk 21 0 (⟨#[]⟩:UI) [(x2 14 (xN (⟨#[112]⟩:UI)) xO),(x1 8 (xI 1099511627776)),(xF (xN (⟨#[112]⟩:UI)) (⟨#[107]⟩:UI))])] [] []]⟩
theorem c6:(evalF T (knX zdh yI) 9999 40 104 rdA (rdX 355)).map (λq=>(leS q.1 (zn (zD p6)),q.2))=some (true,rdX 415):=by kernel_rfl
def p7:Pr:=⟨(⟨#[99,101,105,108,105,110,103]⟩:UI),[⟨(⟨#[107]⟩:UI),(⟨#[105,110,116]⟩:UI)⟩],(⟨#[105,110,116]⟩:UI),[⟨(⟨#[113]⟩:UI),(⟨#[78]⟩:UI)⟩],[.mk 1 (⟨#[113]⟩:UI) [(xC (⟨#[97,102,116,101,114]⟩:UI) [(xC (⟨#[98,101,102,111,114,101]⟩:UI) [(xN (⟨#[107]⟩:UI))])])] [] [],.mk 5 (⟨#[]⟩:UI) [(.mk 21 0 (⟨#[]⟩:UI) [(x2 14 (xN (⟨#[113]⟩:UI)) xO),(x1 8 (xI 1099511627776)),(xF (xN (⟨#[113]⟩:UI)) (⟨#[107]⟩:UI))])] [] []]⟩
theorem c7:(evalF T (knX zdh yI) 9999 40 104 rdA (rdX 416)).map (λq=>(leS q.1 (zn (zD p7)),q.2))=some (true,rdX 453):=by kernel_rfl
def p8:Pr:=⟨(⟨#[114,97,110,107]⟩:UI),[⟨(⟨#[107]⟩:UI),(⟨#[105,110,116]⟩:UI)⟩],(⟨#[105,110,116]⟩:UI),[⟨(⟨#[113]⟩:UI),(⟨#[78]⟩:UI)⟩,⟨(⟨#[105]⟩:UI),(⟨#[105,110,116]⟩:UI)⟩],[.mk 1 (⟨#[113]⟩:UI) [(xN (⟨#[114]⟩:UI))] [] [],.mk 4 (⟨#[]⟩:UI) [(x2 19 (x2 15 (xN (⟨#[113]⟩:UI)) xO) (x2 16 (xF (xN (⟨#[113]⟩:UI)) (⟨#[107]⟩:UI)) (xN (⟨#[107]⟩:UI))))] [.mk 1 (⟨#[105]⟩:UI) [(x2 9 (xN (⟨#[105]⟩:UI)) (xI 1))] [] [],.mk 1 (⟨#[113]⟩:UI) [(xF (xN (⟨#[113]⟩:UI)) (⟨#[110]⟩:UI))] [] []] [],.mk 5 (⟨#[]⟩:UI) [(xN (⟨#[105]⟩:UI))] [] []]⟩
theorem c8:(evalF T (knX zdh yI) 9999 40 104 rdA (rdX 454)).map (λq=>(leS q.1 (zn (zD p8)),q.2))=some (true,rdX 501):=by kernel_rfl
def p9:Pr:=⟨(⟨#[115,101,108,101,99,116]⟩:UI),[⟨(⟨#[105]⟩:UI),(⟨#[105,110,116]⟩:UI)⟩],(⟨#[105,110,116]⟩:UI),[⟨(⟨#[113]⟩:UI),(⟨#[78]⟩:UI)⟩],[.mk 3 (⟨#[]⟩:UI) [(x2 20 (x2 16 (xN (⟨#[105]⟩:UI)) (xI 0)) (x2 17 (xN (⟨#[99]⟩:UI)) (xN (⟨#[105]⟩:UI))))] [.mk 5 (⟨#[]⟩:UI) [(x1 8 (xI 1099511627776))] [] []] [],.mk 1 (⟨#[113]⟩:UI) [(xN (⟨#[114]⟩:UI))] [] [],.mk 4 (⟨#[]⟩:UI) [(x2 16 (xI 0) (xN (⟨#[105]⟩:UI)))] [.mk 1 (⟨#[113]⟩:UI) [(xF (xN (⟨#[113]⟩:UI)) (⟨#[110]⟩:UI))] [] [],.mk 1 (⟨#[105]⟩:UI) [(x2 10 (xN (⟨#[105]⟩:UI)) (xI 1))] [] []] [],.mk 5 (⟨#[]⟩:UI) [(xF (xN (⟨#[113]⟩:UI)) (⟨#[107]⟩:UI))] [] []]⟩
theorem c9:(evalF T (knX zdh yI) 9999 40 104 rdA (rdX 502)).map (λq=>(leS q.1 (zn (zD p9)),q.2))=some (true,rdX 555):=by kernel_rfl
def p10:Pr:=⟨(⟨#[115,105,122,101]⟩:UI),[],(⟨#[105,110,116]⟩:UI),[],[.mk 5 (⟨#[]⟩:UI) [(xN (⟨#[99]⟩:UI))] [] []]⟩
theorem c10:(evalF T (knX zdh yI) 9999 40 104 rdA (rdX 556)).map (λq=>(leS q.1 (zn (zD p10)),q.2))=some (true,rdX 565):=by kernel_rfl
def m11:Ms:=⟨(⟨#[108,101,110,103,116,104]⟩:UI),(⟨#[78]⟩:UI),0,(x2 9 (xI 1) (xC (⟨#[108,101,110,103,116,104]⟩:UI) [(xF (xN (⟨#[116,104,105,115]⟩:UI)) (⟨#[110]⟩:UI))]))⟩
theorem c11:(evalF T (knX zdh yI) 9999 40 105 rdA (rdX 566)).map (λq=>(leS q.1 (zn (yA m11)),q.2))=some (true,rdX 581):=by kernel_rfl
def x12:Ex:=(x2 20 (x2 14 (xF (xN (⟨#[116,104,105,115]⟩:UI)) (⟨#[110]⟩:UI)) xO) (x2 16 (xF (xN (⟨#[116,104,105,115]⟩:UI)) (⟨#[107]⟩:UI)) (xF (xF (xN (⟨#[116,104,105,115]⟩:UI)) (⟨#[110]⟩:UI)) (⟨#[107]⟩:UI))))
theorem c12:(evalF T (knX zdh yI) 9999 40 106 rdA (rdX 586)).map (λq=>(leS q.1 (zn (xk x12)),q.2))=some (true,rdX 602):=by kernel_rfl
def x13:Ex:=(x2 14 (xN (⟨#[99]⟩:UI)) (xC (⟨#[108,101,110,103,116,104]⟩:UI) [(xN (⟨#[114]⟩:UI))]))
theorem c13:(evalF T (knX zdh yI) 9999 40 106 rdA (rdX 604)).map (λq=>(leS q.1 (zn (xk x13)),q.2))=some (true,rdX 611):=by kernel_rfl
def x14:Ex:=(x2 9 (x2 11 (xI 2) (xC (⟨#[108,101,110,103,116,104]⟩:UI) [(xN (⟨#[114]⟩:UI))])) (xI 10))
theorem c14:(evalF T (knX zdh yI) 9999 40 106 rdA (rdX 613)).map (λq=>(leS q.1 (zn (xk x14)),q.2))=some (true,rdX 622):=by kernel_rfl
def x15:Ex:=(x2 9 (x2 11 (xI 2) (xC (⟨#[108,101,110,103,116,104]⟩:UI) [(xN (⟨#[114]⟩:UI))])) (xI 4))
theorem c15:(evalF T (knX zdh yI) 9999 40 106 rdA (rdX 624)).map (λq=>(leS q.1 (zn (xk x15)),q.2))=some (true,rdX 633):=by kernel_rfl
def x16:Ex:=(x2 9 (x2 11 (xI 2) (xC (⟨#[108,101,110,103,116,104]⟩:UI) [(xN (⟨#[114]⟩:UI))])) (xI 6))
theorem c16:(evalF T (knX zdh yI) 9999 40 106 rdA (rdX 635)).map (λq=>(leS q.1 (zn (xk x16)),q.2))=some (true,rdX 644):=by kernel_rfl
def x17:Ex:=(xI 0)
theorem c17:(evalF T (knX zdh yI) 9999 40 106 rdA (rdX 646)).map (λq=>(leS q.1 (zn (xk x17)),q.2))=some (true,rdX 648):=by kernel_rfl
def zrg:zf:=⟨(⟨#[108,105,115,116]⟩:UI),[⟨(⟨#[78]⟩:UI),[⟨(⟨#[107]⟩:UI),(⟨#[105,110,116]⟩:UI)⟩,⟨(⟨#[118]⟩:UI),(⟨#[105,110,116]⟩:UI)⟩,⟨(⟨#[110]⟩:UI),(⟨#[78]⟩:UI)⟩]⟩],[⟨(⟨#[114]⟩:UI),(⟨#[78]⟩:UI)⟩,⟨(⟨#[99]⟩:UI),(⟨#[105,110,116]⟩:UI)⟩],[p0,p1,p2,p3,p4,p5,p6,p7,p8,p9,p10],[m11],[⟨(⟨#[115,111,114,116,101,100]⟩:UI),(⟨#[78]⟩:UI),x12⟩,⟨(⟨#[99,111,117,110,116,101,100]⟩:UI),(⟨#[]⟩:UI),x13⟩],[],[⟨(⟨#[112,117,116]⟩:UI),x14⟩,⟨(⟨#[103,101,116]⟩:UI),x15⟩,⟨(⟨#[114,101,109,111,118,101]⟩:UI),x16⟩,⟨(⟨#[115,105,122,101]⟩:UI),x17⟩]⟩
theorem zka:ye zrg=true:=by kernel_rfl
noncomputable def zxN:List Ent:=[⟨62,[Sr znC],[],.tup [pS (zj9 zj8),zn [ki 0,ki 0],I 0],[]⟩,⟨67,[zn (zr zrg)],[],Bo true,[]⟩,⟨104,rdA,rdX 22,zn (zD p0),rdX 67⟩,⟨104,rdA,rdX 68,zn (zD p1),rdX 90⟩,⟨104,rdA,rdX 91,zn (zD p2),rdX 184⟩,⟨104,rdA,rdX 185,zn (zD p3),rdX 229⟩,⟨104,rdA,rdX 230,zn (zD p4),rdX 273⟩,⟨104,rdA,rdX 274,zn (zD p5),rdX 354⟩,⟨104,rdA,rdX 355,zn (zD p6),rdX 415⟩,⟨104,rdA,rdX 416,zn (zD p7),rdX 453⟩,⟨104,rdA,rdX 454,zn (zD p8),rdX 501⟩,⟨104,rdA,rdX 502,zn (zD p9),rdX 555⟩,⟨104,rdA,rdX 556,zn (zD p10),rdX 565⟩,⟨105,rdA,rdX 566,zn (yA m11),rdX 581⟩,⟨106,rdA,rdX 586,zn (xk x12),rdX 602⟩,⟨106,rdA,rdX 604,zn (xk x13),rdX 611⟩,⟨106,rdA,rdX 613,zn (xk x14),rdX 622⟩,⟨106,rdA,rdX 624,zn (xk x15),rdX 633⟩,⟨106,rdA,rdX 635,zn (xk x16),rdX 644⟩,⟨106,rdA,rdX 646,zn (xk x17),rdX 648⟩]
theorem zrh:zj5 prog zxN:=⟨znW,znX (wx zrg) (.bq zka),xh c0,xh c1,xh c2,xh c3,xh c4,xh c5,xh c6,xh c7,xh c8,xh c9,xh c10,xh c11,xh c12,xh c13,xh c14,xh c15,xh c16,xh c17,uh⟩
theorem zkb:(evalF T (knX zxN zrh) 9999 40 44 [Sr znC] []).map (λq=>(leS q.1 (.tup [zn (zr zrg),zn [ki 0,ki 0],I 0]),q.2))=some (true,[]):=by kernel_rfl
theorem zfU:zh prog 44 [Sr znC] [] (.tup [zn (zr zrg),zn [ki 0,ki 0],I 0]) []:=xh zkb
def awX(d:zf):Option (List EnT×Option Hp×Int)->Bool
 |some (xs,some n,e)=>decide (e=0)&&decide (xs.length=3)&&(match xs[2]? with
  |some x=>decide (x.ac=6)&&decide (x.be=0)&&decide (x.af=0)&&decide (x.bo=8)
  |none=>false)&&zQ d n&&decide ((ztX xs).1= -1)&&decide ((ztX xs).2=0)
 |_=>false
def awP(d:zf):Bool:=vi d (znY d)&&awX d (ztz d (znY d) 200 awC 100)
theorem zri:awP zrg=true:=by kernel_rfl
theorem ztY: ∃d:zf,zh prog 21 [Sr (⟨#[108,105,115,116]⟩:UI)] [] (.tup [zn (zr d),I 0]) []/\awP d=true:=by
 have U:=znZ (⟨#[108,105,115,116]⟩:UI);rw[zn0,uw rfl]at U;have J:=zfU;have h3:=zri;have hz:znC=((zrj (⟨#[108,105,115,116]⟩:UI)).getD noS).2.1:=by unfold znC;rfl
 rw[hz]at J;clear hz;generalize (zrj (⟨#[108,105,115,116]⟩:UI)).getD noS=q at U J;generalize zrg=d at J h3;obtain⟨q1,q2,q3⟩:=q;simp only at J;refine⟨d,?_,h3⟩;clear h3;refine gFo func21 λC hC=>?_
 repeat' first|refine gG ?_|exact gD|refine gB ?_ ?_<;>intro h|refine gC U ?_|refine gC J ?_
 exact gF
theorem zn1:zh prog 6 [] [] (Bo true) []:=by
 obtain⟨d,hL,ha⟩:=ztY;unfold awP at ha;rw[um]at ha;obtain⟨h1,h2⟩:=ha;obtain⟨hcw,J⟩:=vl h1;have hN:=ziP d
 have ht:zY d=true:=by
  simp only[zQ,um]at J;exact J.1.1.1.1.1
 unfold zhp at hN;rw[uw ht]at hN;clear ht J hcw h1;generalize znY d=m at hN h2;cases hA:ztz d m 200 awC 100 with
 |none=>rw[hA]at h2;cases h2
 |some q=>
  obtain⟨xs,om,e⟩:=q;rw[hA]at h2;have hAu:=zkc hA;cases om with
  |none=>cases h2
  |some n=>
   simp only[awX,um,uq]at h2;obtain⟨⟨⟨⟨⟨rfl,U⟩,hx⟩,hvn⟩,hf1⟩,hf2⟩:=h2;cases hx2:xs[2]? with
   |none=>rw[hx2]at hx;cases hx
   |some x=>
    rw[hx2]at hx;simp only[um,uq]at hx;obtain⟨ac,be,af,bo⟩:=x;obtain⟨⟨⟨h5,h6⟩,h7⟩,h8⟩:=hx;simp only at h5 h6 h7 h8;subst h5 h6 h7 h8;have hF:=zkd xs;rw[hf1,hf2]at hF;have hV:=yO d n;rw[hvn]at hV;clear hA hf1 hf2 hvn;have hl3:((xs.map enR).length:Int)=3:=by rw[uj,U];rfl
    have hat:(xs.map enR)[(2:Int).toNat]?=some (enR ⟨6,0,0,8⟩):=zl (i:=2) hx2;refine gFo func6 λC hC=>?_
    repeat' first|refine gG ?_|exact gD|(exfalso;rw[hl3]at h;simp at h;done)|refine gB ?_ ?_<;>intro h|refine gC hL ?_|refine gC hN ?_|refine gT ?_|refine gC hAu ?_|refine gC hF ?_|refine gC hV ?_|refine gIt hat ?_|refine zwB hC [.i .i64,.i .i64,.i .i64,.i .i64] [.i .i64 6,.i .i64 0,.i .i64 0,.i .i64 8] [.i .i64 6,.i .i64 0,.i .i64 0,.i .i64 8] rfl rfl ud ud rfl rfl ud rfl rfl ?_|refine gQ ?_|refine gL ?_
    all_goals first
     |exact gFl id rfl (LeS.bq ub)
     |exact gD
     |(exfalso;rw[hl3]at h;simp at h;done)
def pkP(l:List Int):PV:= .sl 1 (l.map λk=>[.k (.int .u8 k)])
abbrev u8S(n:Int):S:= .one (.p (.k (.int .u8 n)))
theorem zrk(d:zf)(m:Hp)(cs:List Cl)(n fuel:Int)(hn:0<=n/\n<=255)(hf:0<=fuel/\fuel<=255)(pick:List Int)(hp: ∀k∈pick,0<=k/\k<=255):
 zh prog 5 [zn (zr d),zn (yp m),pS (yj cs),u8S n,u8S fuel,pS (pkP pick)] [] (.bq true) []:=by
 have hW:=zn1;have hF:=ztZ d m;have hL:=zn2 cs 5;generalize hg1:zwH d m=fb at hF;generalize hg2:zhq cs 5=lb at hL;refine gFo func5 λC hC=>?_
 repeat' first|refine gG ?_|exact gD|refine gB ?_ ?_<;>intro h|refine gC hW ?_|refine gC hF ?_|refine gC hL ?_
 all_goals (try exact gFl id rfl (LeS.qb rfl))
 rename_i b1 b2 b3 b4 b5 b6 b7;have b8:=h;clear h;rw[wrap64 ua]at b8;simp only[uE,uu,uj]at b1 b2 b3 b4 b5 b6 b7 b8;subst b1 b5;obtain⟨N,rfl⟩:=oh hn.1;have hP: ∀q,q<=4->cs.length ^ q<=625:=λq hq=>tG (Nat.pow_le_pow_left ua q) (Ux (by decide:0<5) hq)
 clear hW hF hL
 refine zj (λq:Nat=>q<=N) (λq=>([(2,pS (yj cs)),(3,u8S N),(5,pS (pkP pick)),(6,.one (.bx 1006 0)),(7,.one (.bx 1007 0)),(10,.one (.bx 1010 0)),(13,I (cs.length ^ q:Nat)),(70,u8S N),(71,u8S q)],[(1006,some (.box ((zr d).map V.p))),(1007,some (.box ((yp m).map V.p))),(1010,some (.box [.p (.k (.int .u8 fuel))]))])) (λq=>N - q) hC
  0 (uD _) id gM ?_
 intro q hq;refine gLc ?_ ?_<;>intro hh
 ·have hlt:q<N:=by simpa using hh
  clear hh;have hp:=hP (q+1) ua
  have hw:IntKind.i64.wrap (((cs.length ^ q:Nat):Int)*((cs.map yf).length:Nat))=((cs.length ^ (q+1):Nat):Int):=by
   have he:cs.length ^ q*cs.length=cs.length ^ (q+1):=(UG ..).symm;rw[uj,<-oK,he];generalize cs.length ^ (q+1)=z at hp⊢;exact wrap64 ua
  have hw8:IntKind.u8.wrap ((q:Int)+1)=((q+1:Nat):Int):=by
   show((q:Int)+1) % 256=_;omega
  repeat' first|refine gG ?_|refine gB ?_ ?_<;>intro h
  rw[hw,hw8];exact zg (q+1) ua id ua gM
 ·have hge: ¬q<N:=by simpa using hh
  clear hh;obtain rfl:q=N:=by omega
  have hwq:IntKind.i64.wrap (q:Int)=q:=wrap64 ua;have hwf:IntKind.i64.wrap fuel=fuel:=wrap64 ua;cases hok:vi d m with
  |false=>
   have J:=zfV cs q fuel hok;rw[<-hwq,<-hwf]at J
   repeat' first|refine gG ?_|exact gD|refine gB ?_ ?_<;>intro h|refine zd ?_|refine gC J ?_
   all_goals first|exact gFl id rfl (LeS.qb rfl)|exact gFl id rfl (LeS.qq ue)
  |true=>
   obtain⟨run,U⟩:=zt0 (d:=d) (fuel:=fuel) hf.1 ua
   have hlong: ∀c∈cs,c.a.length<=1000000:=λc hc=>by
    simp only[zhq,um,ux,List.any_eq_false]at hg2;have:=hg2.2 c hc;simp only[ziQ,uJ,uq]at this;omega
   have hsp:=λh0=>zhr (run:=run) (Kp:=okK d) (cs:=cs) (λm hm c hc=>let ⟨n,m2,h1,h2,_⟩:=(U m c hm (zbd h0 c hc)).2;⟨n,m2,h1,h2⟩) q m [] 0 (none,0) hok
   have hwor:chL d cs=0-> ∃w,w.length=q/\inI cs w/\((zjO run cs q m).1=none/\w=[]\/(zjO run cs q m).1=some w)/\(zjO run cs q m).2=pcL run (yU cs w) m/\ ∀w',w'.length=q->inI cs w'->pcL run (yU cs w') m<=(zjO run cs q m).2:=λh0=>by
    have h:=hsp h0;unfold zjO;split
    ·rename_i e;subst e;exact⟨[],rfl,λ_ h=>(by cases h),.inl ⟨rfl,rfl⟩,rfl,λw' h1 _=>by rw[uY.1 h1];exact qz _⟩
    ·have hm0:=h.most (List.replicate q 0) ue (λx hx=>by rw[(List.mem_replicate.1 hx).2];omega) trivial;rcases h.is with e|⟨w,e1,e2,e3⟩
     ·rw[e]at hm0;exact absurd rfl hm0.1
     ·refine⟨w,e1,e2,.inr (by rw[e3];rfl),by rw[e3];simp,λw' h1 h2=>?_⟩;have:=(h.most w' h1 h2 trivial).2;omega
   have J:=zn3 (run:=run) (Kp:=okK d) hok hf.1 ua ua ua (by omega:q<=4) hok (λh0 m hm c hc=>(U m c hm (zbd h0 c hc)).1) hlong λh0 l hl=>by
    obtain⟨w,h1,h2,h3|h3,_⟩:=hwor h0
    ·rw[h3.1]at hl;cases hl
    ·rw[h3]at hl;cases hl;exact⟨ua,h2⟩
   unfold zwI at J;rw[<-hwq,<-hwf]at J;by_cases hch:chL d cs=0
   ·rw[uw hch]at J;obtain⟨w,w1,w2,w3,w4,w5⟩:=hwor hch
    have hpick:(zjO run cs q m).1.getD []=w:=by
     rcases w3 with⟨w3,rfl⟩|w3<;>rw[w3]<;>rfl
    rw[hpick]at J;generalize (zjO run cs q m).2=cost at J w4 w5
    repeat' first|refine gG ?_|exact gD|refine gB ?_ ?_<;>intro h|refine zd ?_|refine gC J ?_|refine zbs T hC ((pick.take q).map λk=>[.k (.int .u8 k)]) rfl rfl rfl (uL _) (by rw[uj];omega) (by rw[tj,qG]) rfl rfl ?_
    all_goals (try first|exact gFl id rfl (LeS.qb rfl)|exact gFl id rfl (LeS.qq ue))
    refine zwJ rfl (id:=1006) (vs':=(zr (bare d)).map V.p) rfl (.cons (.refl _) (.cons (.refl _) (.cons (.refl _) (.cons (.refl _) (.cons (.refl _) (.cons (.refl _) (.cons (.nil _) (.cons (.nil _) .nil)))))))) ?_;refine gA 140 2 [(18,.one (.ar 140))] [] ?_;rw[uj,u9,Up ua]
    have hot: ∃o:List Int,o.length=q/\inI cs o/\ ∀(i:Nat) (k:Int),(pick.take q)[i]?=some k->o[i]?=some (k.tmod cs.length):=by
     refine⟨(pick.take q).map λk=>k.tmod cs.length,by rw[uj,u9];omega,λx hx=>?_,λi k h=>by rw[uO,h];rfl⟩;obtain⟨k,hk,rfl⟩:=tO.1 hx;have hk0:=hp k (qd hk);rw[Int.tmod_eq_emod_of_nonneg hk0.1];exact⟨Int.emod_nonneg _ ua,Int.emod_lt_of_pos _ ua⟩
    obtain⟨o,o1,o2,o3⟩:=hot
    refine zj (λi:Nat=>i<=q) (λi=>([(2,pS (yj cs)),(3,u8S q),(14,pS (yj (yU cs w))),(15,I cost),(17,.one (.cl 20 [] [.bx 1006 0,.bx 1007 0,.bx 1010 0])),(18,.one (.ar 140)),(106,pS (.sl 1 ((pick.take q).map λk=>[.k (.int .u8 k)]))),(107,I q),(108,I i)],
     [(1006,some (.box ((zr (bare d)).map V.p))),(1007,some (.box ((yp m).map V.p))),(1010,some (.box [.p (.k (.int .u8 fuel))])),(140,some (.arr 2 ((yU cs (o.take i)).map yf)))])) (λi=>q - i) hC
     0 (uD _) id gM ?_
    have hc0:=λc (h:c∈cs)=>zbd hch c h
    have hr2:=λm c hm hc=>(U m c hm hc).2
    have hS1:=zke hr2 hok (λc h=>hc0 c (zhs w2 c h)) (by unfold yU;rw[uj];omega) ua;have hS2:=zke hr2 hok (λc h=>hc0 c (zhs o2 c h)) (by unfold yU;rw[uj];omega) ua;intro i hi;refine gLc ?_ ?_<;>intro hh
    ·have hlt:i<q:=by simpa using hh
     clear hh;obtain⟨x,hx⟩:=za (l:=pick.take q) (i:=i) (by rw[u9];omega);have hx0:=hp x (qd (uv hx));have hox:=o3 i x hx;obtain⟨j,hj⟩:=oh (o2 _ (uv hox)).1;have hj2:=(o2 _ (uv hox)).2;obtain⟨c,hcj⟩:=za (l:=cs) (i:=j) ua;have hkw:(IntKind.i64.wrap x).tmod ((cs.map yf).length:Nat)=((j:Nat):Int):=by rw[uj,wrap64 ua];exact hj
     have hne:((cs.map yf).length:Int)≠0:=by rw[uj];omega
     have htl:(yU cs (o.take i)).length=i:=by unfold yU;rw[uj,u9];omega
     have happ:(yU cs (o.take i)).map yf++[yf c]=(yU cs (o.take (i+1))).map yf:=by
      rw[zO hox,hj];unfold yU;simp only[u5,uH,tI,tj,hcj,Option.getD_some]
     repeat' first|refine gG ?_|refine gB ?_ ?_<;>intro h|refine gIt (zl hx) ?_|(refine znL hC rfl rfl hne rfl rfl ?_;rw[hkw])|refine gIt (zl hcj) ?_|refine gT ?_|refine gY T 141 ((yU cs (o.take (i+1))).map yf) 40 ?_
     rw[wrapN ua];exact zg (i+1) ua (ms [(140,141)]) ua ⟨rfl,⟨rfl,rfl,rfl,rfl,rfl,rfl,rfl,rfl,rfl,uh⟩,⟨rfl,rfl,rfl,rfl,uh⟩,rfl,y4 rfl⟩
    ·have hge: ¬i<q:=by simpa using hh
     clear hh;have hto:o.take i=o:=u0 ua
     have e1:decide (((((yU cs w).map yf).length:Nat):Int)=IntKind.i64.wrap (q:Int))=true:=by
      rw[hwq,uj];unfold yU;rw[uj,w1];simp
     have e2:decide (pcL run (yU cs w) m=cost)=true:=by rw[w4];simp
     have e3:=w5 o o1 o2;rw[hto]
     repeat' first|refine gG ?_|refine gB ?_ ?_<;>intro h|refine zd ?_
     refine gZ 140 [(18,pS (yj (yU cs o)))] [] ?_
     repeat' first|refine gG ?_|(exfalso;rw[e1]at h;exact absurd h ub)|(exfalso;rw[e2]at h;exact absurd h ub)|refine gB ?_ ?_<;>intro h|refine gR hS1 (nm [1006,1007,1010]) ?_|refine gR hS2 (nm [1006,1007,1010]) ?_
     all_goals first|exact gFl id rfl (LeS.qq (by simpa using e3))|(exfalso;simp_all;done)
   ·rw[ur hch]at J
    repeat' first|refine gG ?_|exact gD|(exfalso;simp[hch]at h;done)|refine gB ?_ ?_<;>intro h|refine zd ?_|refine gC J ?_
    all_goals first|exact gFl id rfl (LeS.qb rfl)|exact gFl id rfl (LeS.qq ue)
end Hw.Gm
namespace Hw.Gm
open Go Go.Proofs Hw.M Tryz
section
variable {H:Type} {enc:TypeId×Value->H} {w:World} {base:Nat} {spare:Nat->Bool} {held:Bool}
theorem xl(n:Nat):Rd enc prog w base spare held n 9 (λs:ByteArray=>[ks s]):=zpY ud
theorem zav(n:Nat):Rd enc prog w base spare held n 3 (λi:Int=>[ki i]):=zt1 ud
theorem zfW(n:Nat):Rd enc prog w base spare held n 31 (λl=>[.sl 1 (List.map zN l)]):=yK (c:=1) ud ud ub λm _=>zav m
theorem zpZ(n:Nat):Rd enc prog w base spare held n 124 xk:=by
 induction n using Nat.strongRecOn with
 |_ n ih=>
 intro cs x h;obtain⟨m,rfl,c0,r0,J,rfl,U,c1,r1,x1,rfl,h1,c2,r2,x2,rfl,h2,c3,r3,x3,rfl,h3,rfl⟩:=zZ (l:=[(3,1),(3,1),(9,1),(122,1)]) ud h;obtain⟨a0,k0⟩:=zav m c0 J U;obtain⟨a1,k1⟩:=zav m c1 x1 h1;obtain⟨a2,k2⟩:=xl m c2 x2 h2;obtain⟨a3,k3⟩:=yK (c:=4) (R:=xk) ud ud ub (λk hk=>ih k ua) c3 x3 h3;refine⟨.mk a0 a1 a2 a3,?_⟩;rw[za8];exact(k0.app (k1.app (k2.app (k3.app (show CellsM (xq w) [] [] from trivial)))))
theorem zn4(n:Nat):Rd enc prog w base spare held n 124 yg:=λcs x h=>by
 obtain⟨a,k⟩:=zpZ n cs x h;exact⟨a,by rw[za8]at k;exact k⟩
theorem zt2(n:Nat):Rd enc prog w base spare held n 122 (λl=>[.sl 4 (List.map xk l)]):=yK (c:=4) ud ud ub λm _=>zpZ m
theorem zt3(n:Nat):Rd enc prog w base spare held n 217 zco:=by
 induction n using Nat.strongRecOn with
 |_ n ih=>
 intro cs x h;obtain⟨m,rfl,c0,r0,J,rfl,U,c1,r1,x1,rfl,h1,c2,r2,x2,rfl,h2,c3,r3,x3,rfl,h3,c4,r4,x4,rfl,h4,rfl⟩:=zZ (l:=[(3,1),(9,1),(122,1),(88,1),(88,1)]) ud h;obtain⟨a0,k0⟩:=zav m c0 J U;obtain⟨a1,k1⟩:=xl m c1 x1 h1;obtain⟨a2,k2⟩:=zt2 m c2 x2 h2;obtain⟨a3,k3⟩:=yK (c:=5) (R:=zco) ud ud ub (λk hk=>ih k ua) c3 x3 h3;obtain⟨a4,k4⟩:=yK (c:=5) (R:=zco) ud ud ub (λk hk=>ih k ua) c4 x4 h4;refine⟨.mk a0 a1 a2 a3 a4,?_⟩;rw[zdd];exact(k0.app (k1.app (k2.app (k3.app (k4.app (show CellsM (xq w) [] [] from trivial))))))
theorem zt4(n:Nat):Rd enc prog w base spare held n 88 (λl=>[.sl 5 (List.map zco l)]):=yK (c:=5) ud ud ub λm _=>zt3 m
theorem zt5(n:Nat):Rd enc prog w base spare held n 136 zB:=by
 intro cs x h;obtain⟨m,rfl,c0,r0,J,rfl,U,c1,r1,x1,rfl,h1,rfl⟩:=zZ (l:=[(9,1),(9,1)]) ud h;obtain⟨a0,k0⟩:=xl m c0 J U;obtain⟨a1,k1⟩:=xl m c1 x1 h1;refine⟨⟨a0,a1⟩,?_⟩;exact(k0.app (k1.app (show CellsM (xq w) [] [] from trivial)))
theorem zdi(n:Nat):Rd enc prog w base spare held n 23 (λl=>[.sl 2 (List.map zB l)]):=yK (c:=2) ud ud ub λm _=>zt5 m
theorem zwK(n:Nat):Rd enc prog w base spare held n 129 zR:=by
 intro cs x h;obtain⟨m,rfl,c0,r0,J,rfl,U,c1,r1,x1,rfl,h1,rfl⟩:=zZ (l:=[(9,1),(23,1)]) ud h;obtain⟨a0,k0⟩:=xl m c0 J U;obtain⟨a1,k1⟩:=zdi m c1 x1 h1;refine⟨⟨a0,a1⟩,?_⟩;exact(k0.app (k1.app (show CellsM (xq w) [] [] from trivial)))
theorem zt6(n:Nat):Rd enc prog w base spare held n 22 (λl=>[.sl 2 (List.map zR l)]):=yK (c:=2) ud ud ub λm _=>zwK m
theorem zwL(n:Nat):Rd enc prog w base spare held n 90 zD:=by
 intro cs x h;obtain⟨m,rfl,c0,r0,J,rfl,U,c1,r1,x1,rfl,h1,c2,r2,x2,rfl,h2,c3,r3,x3,rfl,h3,c4,r4,x4,rfl,h4,rfl⟩:=zZ (l:=[(9,1),(23,1),(9,1),(23,1),(88,1)]) ud h;obtain⟨a0,k0⟩:=xl m c0 J U;obtain⟨a1,k1⟩:=zdi m c1 x1 h1;obtain⟨a2,k2⟩:=xl m c2 x2 h2;obtain⟨a3,k3⟩:=zdi m c3 x3 h3;obtain⟨a4,k4⟩:=zt4 m c4 x4 h4;refine⟨⟨a0,a1,a2,a3,a4⟩,?_⟩;exact(k0.app (k1.app (k2.app (k3.app (k4.app (show CellsM (xq w) [] [] from trivial))))))
theorem zt7(n:Nat):Rd enc prog w base spare held n 24 (λl=>[.sl 5 (List.map zD l)]):=yK (c:=5) ud ud ub λm _=>zwL m
theorem zwM(n:Nat):Rd enc prog w base spare held n 160 yA:=by
 intro cs x h;obtain⟨m,rfl,c0,r0,J,rfl,U,c1,r1,x1,rfl,h1,c2,r2,x2,rfl,h2,c3,r3,x3,rfl,h3,rfl⟩:=zZ (l:=[(9,1),(9,1),(3,1),(124,4)]) ud h;obtain⟨a0,k0⟩:=xl m c0 J U;obtain⟨a1,k1⟩:=xl m c1 x1 h1;obtain⟨a2,k2⟩:=zav m c2 x2 h2;obtain⟨a3,k3⟩:=zn4 m c3 x3 h3;refine⟨⟨a0,a1,a2,a3⟩,?_⟩;exact(k0.app (k1.app (k2.app (k3.app (show CellsM (xq w) [] [] from trivial)))))
theorem zt8(n:Nat):Rd enc prog w base spare held n 25 (λl=>[.sl 7 (List.map yA l)]):=yK (c:=7) ud ud ub λm _=>zwM m
theorem zwN(n:Nat):Rd enc prog w base spare held n 163 zp0:=by
 intro cs x h;obtain⟨m,rfl,c0,r0,J,rfl,U,c1,r1,x1,rfl,h1,c2,r2,x2,rfl,h2,rfl⟩:=zZ (l:=[(9,1),(9,1),(124,4)]) ud h;obtain⟨a0,k0⟩:=xl m c0 J U;obtain⟨a1,k1⟩:=xl m c1 x1 h1;obtain⟨a2,k2⟩:=zn4 m c2 x2 h2;refine⟨⟨a0,a1,a2⟩,?_⟩;exact(k0.app (k1.app (k2.app (show CellsM (xq w) [] [] from trivial))))
theorem zt9(n:Nat):Rd enc prog w base spare held n 26 (λl=>[.sl 6 (List.map zp0 l)]):=yK (c:=6) ud ud ub λm _=>zwN m
theorem zwO(n:Nat):Rd enc prog w base spare held n 126 zht:=by
 intro cs x h;obtain⟨m,rfl,c0,r0,J,rfl,U,c1,r1,x1,rfl,h1,rfl⟩:=zZ (l:=[(9,1),(124,4)]) ud h;obtain⟨a0,k0⟩:=xl m c0 J U;obtain⟨a1,k1⟩:=zn4 m c1 x1 h1;refine⟨⟨a0,a1⟩,?_⟩;exact(k0.app (k1.app (show CellsM (xq w) [] [] from trivial)))
theorem zua(n:Nat):Rd enc prog w base spare held n 27 (λl=>[.sl 5 (List.map zht l)]):=yK (c:=5) ud ud ub λm _=>zwO m
theorem zwP(n:Nat):Rd enc prog w base spare held n 165 xZ:=by
 intro cs x h;obtain⟨m,rfl,c0,r0,J,rfl,U,c1,r1,x1,rfl,h1,rfl⟩:=zZ (l:=[(9,1),(124,4)]) ud h;obtain⟨a0,k0⟩:=xl m c0 J U;obtain⟨a1,k1⟩:=zn4 m c1 x1 h1;refine⟨⟨a0,a1⟩,?_⟩;exact(k0.app (k1.app (show CellsM (xq w) [] [] from trivial)))
theorem zub(n:Nat):Rd enc prog w base spare held n 28 (λl=>[.sl 5 (List.map xZ l)]):=yK (c:=5) ud ud ub λm _=>zwP m
theorem zwQ(n:Nat):Rd enc prog w base spare held n 30 zr:=by
 intro cs x h;obtain⟨m,rfl,c0,r0,J,rfl,U,c1,r1,x1,rfl,h1,c2,r2,x2,rfl,h2,c3,r3,x3,rfl,h3,c4,r4,x4,rfl,h4,c5,r5,x5,rfl,h5,c6,r6,x6,rfl,h6,c7,r7,x7,rfl,h7,rfl⟩:=zZ (l:=[(9,1),(22,1),(23,1),(24,1),(25,1),(26,1),(27,1),(28,1)]) ud h;obtain⟨a0,k0⟩:=xl m c0 J U;obtain⟨a1,k1⟩:=zt6 m c1 x1 h1;obtain⟨a2,k2⟩:=zdi m c2 x2 h2;obtain⟨a3,k3⟩:=zt7 m c3 x3 h3;obtain⟨a4,k4⟩:=zt8 m c4 x4 h4;obtain⟨a5,k5⟩:=zt9 m c5 x5 h5;obtain⟨a6,k6⟩:=zua m c6 x6 h6;obtain⟨a7,k7⟩:=zub m c7 x7 h7;refine⟨⟨a0,a1,a2,a3,a4,a5,a6,a7⟩,?_⟩;exact(k0.app (k1.app (k2.app (k3.app (k4.app (k5.app (k6.app (k7.app (show CellsM (xq w) [] [] from trivial)))))))))
theorem zwR(n:Nat):Rd enc prog w base spare held n 83 wy:=by
 intro cs x h;obtain⟨m,rfl,c0,r0,J,rfl,U,c1,r1,x1,rfl,h1,rfl⟩:=zZ (l:=[(3,1),(31,1)]) ud h;obtain⟨a0,k0⟩:=zav m c0 J U;obtain⟨a1,k1⟩:=zfW m c1 x1 h1;refine⟨⟨a0,a1⟩,?_⟩;exact(k0.app (k1.app (show CellsM (xq w) [] [] from trivial)))
theorem zuc(n:Nat):Rd enc prog w base spare held n 32 (λl=>[.sl 2 (List.map wy l)]):=yK (c:=2) ud ud ub λm _=>zwR m
theorem zxO(n:Nat):Rd enc prog w base spare held n 34 yp:=by
 intro cs x h;obtain⟨m,rfl,c0,r0,J,rfl,U,c1,r1,x1,rfl,h1,rfl⟩:=zZ (l:=[(31,1),(32,1)]) ud h;obtain⟨a0,k0⟩:=zfW m c0 J U;obtain⟨a1,k1⟩:=zuc m c1 x1 h1;refine⟨⟨a0,a1⟩,?_⟩;exact(k0.app (k1.app (show CellsM (xq w) [] [] from trivial)))
end
end Hw.Gm
namespace Hw.Gm
open Go Go.Proofs Hw.M Ps Tryz
section
variable {H:Type} {enc:TypeId×Value->H} {w:World} {base:Nat} {spare:Nat->Bool} {held:Bool}
theorem zyb(n:Nat):Rd enc prog w base spare held n 64 yf:=by
 intro cs x h;obtain⟨m,rfl,c0,r0,J,rfl,U,c1,r1,x1,rfl,h1,rfl⟩:=zZ (l:=[(9,1),(31,1)]) ud h;obtain⟨a0,k0⟩:=zpY ud c0 J U;obtain⟨a1,k1⟩:=zfW m c1 x1 h1;refine⟨⟨a0,a1⟩,?_⟩;exact(k0.app (k1.app (show CellsM (xq w) [] [] from trivial)))
end
theorem zyc{b:Int}(J:(Lit.int .u8 b).wf=true):0<=b/\b<=255:=by
 simp[Lit.wf,IntKind.min,IntKind.max,IntKind.bits,IntKind.signed]at J;omega
abbrev U8:={n:Int // 0<=n/\n<=255}
def byR(c:UInt8):List PV:=[.k (.int .u8 c.toNat)]
theorem ziR(d:zf)(m:Hp)(l:List Cl)(n fuel:U8)(q:List UInt8):
 zh prog 5 [zn (zr d),zn (yp m),pS (.sl 2 (l.map yf)),.one (.p (.k (.int .u8 n.1))),.one (.p (.k (.int .u8 fuel.1))),pS (.sl 1 (q.map byR))] [] (.bq true) []:=by
 have:=zrk d m l n.1 fuel.1 n.2 fuel.2 (q.map λc=>(c.toNat:Int)) λx J=>by
  obtain⟨c,_,rfl⟩:=tO.1 J;have:=c.toNat_lt;omega
 unfold pkP at this;rw[qM]at this;exact this
end Hw.Gm
namespace Hw
open Go Go.Proofs
theorem ztA{P:Program}{W:World}{name nm:String}{d:DataW Unit}{rest:List (String×DataW Unit)}{g:Nat}{t:TypeId}{ms:Array (String×TypeId)}
 (hg:P.globalNamed name=some g) (hty:(P.globals[g]?).map (·.type)=some t) (ht:P.underlying t=some (.interface ms)) (h:laidMet P ((name,.iface nm d)::rest) W): ∃u v,xq W g 0=some (.iface u v):=by
 obtain⟨ps,⟨g',t',cs,fuel,p,q,hg',ht',U,J,_,_⟩,_⟩:=h;obtain rfl:=uU (hg.symm.trans hg');obtain rfl:=uU (hty.symm.trans ht');have hc:=World.var?_cell hg U 0;unfold xq;rw[hc];cases fuel with
 |zero=>simp[DataW.trod]at J
 |succ fuel=>
  rw[<-qu];generalize cs.toList=l at J
  match l,J with
  | [],J=>simp[DataW.trod,ht]at J
  |v::w::r,J=>simp[DataW.trod,ht]at J
  | [v],J=>
    cases v with
    |iface u x=>exact⟨u,x,rfl⟩
    |_=>simp[DataW.trod,ht]at J
end Hw
