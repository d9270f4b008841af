import Derived.Test.YtolghpfockkldaaGreatDoorC5
import Derived.Test.YtolghpfockkldaaGreatDoorC3
import Derived.Test.YtolghpfockkldaaGreatDoorC2
import Derived.Test.YtolghpfockkldaaGreatDoorC1
import Derived.Test.YtolghpfockkldaaGreatDoorC4
import Derived.DeepKeys3
set_option linter.defProp false
set_option linter.unusedVariables false
set_option linter.unusedSimpArgs false
set_option linter.unusedSectionVars false
set_option linter.unnecessarySimpa false
namespace Hw.Gm
open Go Go.Proofs Hw.M Ps
abbrev scS(b:Bool)(a m:Nat):S:= .agg [.bx a 0,.mp m,.p (.k (.bool b))]
noncomputable def scR(d:zg)(b:Bool)(l:List (Str×EV)):RL:=[(7,.box [.bx 0 0,.mp 3,.p (.k (.bool b))]),(3,mpS l),(6,.box (zV [.ptr,.map,.bool]))]++ckR d 0 1 2
def zxX{J:S}{r:zd}: ∀k s,sg [(7,J)] k=some s->sg ((7,J)::r) k=some s:=λk s h=>by
 have h:=za9 h;simp only[tv,uz]at h;rw[h.1,h.2];rfl
abbrev zfk(ls:List (List Fld)):PV:= .sl 1 (ls.map λl=>[zC l])
def scQ(p gl:List Fld):List (Str×EV)×List (Str×EV):=p.foldl zav ([],glM gl)
def zrW(p gl:List Fld)(s:Str):getG (scQ p gl).1 s=(look p s).map λ_=> .o (.k (.bool true)):=by
 have h:=(zgR gl p [] ([],glM gl) (λ_=>rfl) (λs=>by rw[tR,zch];unfold look;cases gl.find? (λf=>decide (f.n=s))<;>rfl)).1 s;rw[tR]at h;exact h
def zoA(p gl:List Fld)(f:Fld):scQ (p++[f]) gl=zav (scQ p gl) f:=by unfold scQ;simp_all
variable {α:Type}{i:Nat}
def zlD{ls:List (List α)}{l:List α}(h:ls[i]?=some l):(ls.take (i+1)).flatten=(ls.take i).flatten++l:=by
 rw[yc h,tX];simp
def zfl(b:Bool): ∀M,RepEV M (.o (.k (.bool b))) (.bool b):=λM=>by simp only[RepEV,RepPV];exact⟨uh,rfl⟩
def zdT(d:zg)(b:Bool)(ls:List (List Fld))(h1:d.globals.length<=1099511627776)(h2:ls.length<=10)(h3: ∀l∈ls,l.length<=1099511627776):
 zf Tryz.prog 195 [.one (.bx 0 0),Bo b,pS (zfk ls)] (ckR d 0 1 2) (scS b 0 3) (ckR d 0 1 2++[(3,mpS (vsM ls d.globals))]):=by
 have hB:=zut d.globals;refine zp8 T (rv:=[.cell 6 247]) (Tryz.func195) ud rfl rfl rfl rfl ?_
 refine zlx T (m:=3) (p0:=25) (p1:=26) (j:=80) (tm:=24) (slr:=[(7,.one (.bx 7 0))]) (sl1:=[(7,.one (.bx 7 0)),(6,.one (.bx 6 0)),(2,pS (zfk ls)),(24,.one (.cl 261 [] [.bx 91 0]))]) (R2:=scR d b []) (R2':=scR d b (glM d.globals)) (Rx:=[]) (bx:= .box [.p (zC d.globals)]) rfl
  (λC hC=>?_) ?_ rfl ?_ rfl rfl rfl rfl rfl rfl rfl rfl rfl rfl rfl rfl rfl λD1=>?_
 ·repeat' first|refine gG ?_|refine gB ?_ ?_<;>intro h|(refine zdu kS hC rfl rfl rfl ?_)|refine gR hB (nm [191]) ?_
  exact zi ⟨rfl,rfl,mvL [(7,1007),(3,1016),(6,1006),(91,191)],⟨rfl,rfl,rfl,rfl,uh⟩,⟨rfl,rfl,rfl,rfl,rfl,rfl,rfl,uh⟩,rfl,rfl⟩
 ·have h0:=zox (ts:=d.globals) (asg:=?_) (body:=?_) (p0:=25) (p1:=26) (n:=Tryz.f195.ntmps) (slr:=[(7,.one (.bx 7 0))]) (ids:=[7,3,6,0,1,2]) (λi=>scR d b (bkM (·.n) (λf=> .o (ks f.t)) (d.globals.drop i))) ub ub ub (λ_=>rfl)
   (by intro k s h;simp only[tv,uz]at h;rw[h.2];rfl) rfl rfl (λ_=>rfl) (λ_=>rfl) h1 ?_
  ·simp only[qH,oq]at h0;exact h0
  ·intro i t ht;rw[zdQ ht]
   refine zrJ T rfl rfl rfl λlp o o'=>⟨_,_,_,_,_,_,yf T (yf T zc3 rfl) rfl,rfl,rfl,
    zgO (et:=9) (pv:= .o (ks t.t)) kS (yf T (yf T (yf T (yf T (yf T (yf T zc3 rfl) rfl) rfl) rfl) rfl) rfl) rfl rfl rfl rfl ud rfl,rfl,rfl,?_,rfl⟩
   exact⟨rfl,rfl,rfl,rfl,rfl,rfl,uh⟩
 ·exact zxX
 ·refine zlw T rfl rfl λC hC=>?_
  repeat' first|refine gG ?_|refine gB ?_ ?_<;>intro h|(refine zdu kS hC rfl rfl rfl ?_)
  rw[uk]
  refine zn (λi:Nat=>i<=ls.length) (λi=>([(6,.one (.bx 6 0)),(7,.one (.bx 7 0)),(10,.one (.mp 1033)),(34,pS (zfk ls)),(35,I ls.length),(36,I i)],tb (scR d b (scQ (ls.take i).flatten d.globals).2++[(1033,mpS (scQ (ls.take i).flatten d.globals).1),(80,.raw D1 (.deferred (some [])))]))) (λi=>ls.length - i) hC
   0 (uE _) id gM ?_
  intro i hi;refine zm T hC true 200 rfl ?_;refine zp rfl ?_ ?_<;>intro h
  ·have hlt:i<ls.length:=by simpa using h
   clear h;obtain⟨l,hl⟩:=zb hlt;have hll:=h3 l (uv hl)
   repeat' first|refine gG ?_|refine gB ?_ ?_<;>intro h|refine gX ?_
   rw[uk];generalize hp:(ls.take i).flatten=p
   refine zn (λj:Nat=>j<=l.length) (λj=>([(6,.one (.bx 6 0)),(7,.one (.bx 7 0)),(10,.one (.mp 1033)),(34,pS (zfk ls)),(35,I ls.length),(36,I i),(40,pS (zC l)),(41,I l.length),(42,I j)],tb (scR d b (scQ (p++l.take j) d.globals).2++[(1033,mpS (scQ (p++l.take j) d.globals).1),(80,.raw D1 (.deferred (some [])))]))) (λj=>l.length - j) hC
    0 (uE _) id (by rw[List.take_zero,uV];exact gM) ?_
   intro j hj;refine zm T hC true 200 rfl ?_;refine zp rfl ?_ ?_<;>intro h
   ·have hlt2:j<l.length:=by simpa using h
    clear h;obtain⟨f,hf⟩:=zb hlt2;have U:scQ (p++l.take (j+1)) d.globals=zav (scQ (p++l.take j) d.globals) f:=by rw[yc hf,<-tE,zoA]
    have J:=zrW (p++l.take j) d.globals f.n;generalize hq:scQ (p++l.take j) d.globals=q at U J;cases hlk:look (p++l.take j) f.n with
    |some t=>
     rw[hlk]at J;have hq2:zav q f=q:=by unfold zav;rw[J];rfl
     repeat' first|refine gG ?_|exact gD|refine gB ?_ ?_<;>intro h|refine gX ?_|(refine vo kS hC (et:=4) (c0:= .bool false) (.o (.k (.bool false))) (pv:= .o (.k (.bool true))) rfl rfl rfl ud ud (zfl false) (by rw[J];rfl) rfl rfl ?_)
     rw[wrap64 ua];exact zh (j+1) ua id ua (by rw[U,hq2];exact gM)
    |none=>
     rw[hlk]at J;have hq2:zav q f=(putG q.1 f.n (.o (.k (.bool true))),putG q.2 f.n (.o (ks f.t))):=by unfold zav;rw[J];rfl
     repeat' first|refine gG ?_|exact gD|refine gB ?_ ?_<;>intro h|refine gX ?_|(refine vo kS hC (et:=4) (c0:= .bool false) (.o (.k (.bool false))) (pv:= .o (.k (.bool false))) rfl rfl rfl ud ud (zfl false) (by rw[J];rfl) rfl rfl ?_)|(refine zcL kS hC (et:=9) (pv:= .o (ks f.t)) rfl rfl rfl rfl ud rfl rfl ?_)|(refine zcL kS hC (et:=4) (pv:= .o (.k (.bool true))) rfl rfl rfl rfl ud rfl rfl ?_)
     rw[wrap64 ua];exact zh (j+1) ua id ua (by rw[U,hq2];exact gM)
   ·have hge: ¬j<l.length:=by simpa using h
    rw[uQ (show l.length<=j by omega),<-hp,<-zlD hl]
    repeat' first|refine gG ?_|refine gB ?_ ?_<;>intro h|refine ze ?_
    rw[wrap64 ua];exact zh (i+1) ua id ua gM
  ·have hge: ¬i<ls.length:=by simpa using h
   rw[uQ (show ls.length<=i by omega)]
   repeat' first|refine gG ?_|refine gB ?_ ?_<;>intro h|refine ze ?_
   exact gE
def zlE(d:zg)(p:Pr)(U:d.globals.length<=1099511627776)(h2:p.params.length<=1099511627776)(h3:p.locs.length<=1099511627776):
 zf Tryz.prog 176 [.one (.bx 0 0),zr (zJ p)] (ckR d 0 1 2) (scS true 0 3) (ckR d 0 1 2++[(3,mpS (vsM [p.params,p.locs] d.globals))]):=by
 have hS:=zdT d true [p.params,p.locs] U ue (by intro l J;simp only[uI,List.mem_nil_iff,oL]at J;rcases J with rfl|rfl<;>assumption);refine gO T Tryz.func176 λC hC=>?_
 repeat' first|refine gG ?_|refine gB ?_ ?_<;>intro h|(refine gH T [[zC p.params],[zC p.locs]] ?_)|refine gR hS (nm [0,1,2,103]) ?_|refine ze ?_
 exact gW [0,1,2,103]
def zjr(d:zg)(p:Pr)(U:d.globals.length<=1099511627776)(h2:p.params.length<=1099511627776):
 zf Tryz.prog 179 [.one (.bx 0 0),zr (zJ p)] (ckR d 0 1 2) (scS false 0 3) (ckR d 0 1 2++[(3,mpS (vsM [p.params] d.globals))]):=by
 have hS:=zdT d false [p.params] U ue (by intro l J;simp only[uI,List.mem_nil_iff,oL]at J;rcases J with rfl;assumption);refine gO T Tryz.func179 λC hC=>?_
 repeat' first|refine gG ?_|refine gB ?_ ?_<;>intro h|(refine gH T [[zC p.params]] ?_)|refine gR hS (nm [0,1,2,103]) ?_|refine ze ?_
 exact gW [0,1,2,103]
theorem zuz{A B:S}:zI [A,B,.one (.p (.k (.slice none 0 0)))] [A,B,pS (zfk [])]:=λM ρ xs h=>by
 match xs,h with
 | [a,b,c],h=>
   simp only[RepSs]at h⊢;refine⟨h.1,h.2.1,?_,uh⟩;have:=h.2.2.1;simp only[RepS]at this⊢;exact LeV.nil 1 _ _ _ this
def zaw(d:zg)(t:Str)(h1:d.globals.length<=1099511627776):
 ∃V,wq V (zbh d t)/\zf Tryz.prog 134 [.one (.bx 0 0),Sr t] (ckR d 0 1 2) (scS false 0 3) (ckR d 0 1 2++[(3,mpS V)]):=by
 have U:=zdT d false [] h1 ue ue;refine⟨if t=(⟨#[]⟩:UB)then vsM [] d.globals else putG (vsM [] d.globals) (⟨#[116,104,105,115]⟩:UB) (.o (ks t)),?_,?_⟩
 ·unfold zbh;have hv:=zlC [] d.globals;rw[oy,tR]at hv;by_cases h:t=(⟨#[]⟩:UB)
  ·simp_all
  ·rw[ur h,ur h];intro s;rw[ju,hv];unfold look
   grind
 ·refine gO T Tryz.func134 λC hC=>?_;by_cases J:t=(⟨#[]⟩:UB)
  ·rw[uw J]
   repeat' first|refine gG ?_|(exfalso;simp at h;exact h J)|refine gB ?_ ?_<;>intro h|(refine yh hC U (nm [0,1,2,103]) rfl rfl zuz rfl rfl rfl rfl rfl rfl rfl rfl ?_)|refine ze ?_
   exact gW [0,1,2,103]
  ·rw[ur J]
   repeat' first|refine gG ?_|(exfalso;simp at h;exact J h)|refine gB ?_ ?_<;>intro h|(refine yh hC U (nm [0,1,2,103]) rfl rfl zuz rfl rfl rfl rfl rfl rfl rfl rfl ?_)|(refine zcL kS hC (et:=9) (pv:= .o (ks t)) rfl rfl rfl rfl ud rfl rfl ?_)|refine ze ?_
   exact gW [0,1,2,103]
def zrX(t s:Str):zf Tryz.prog 240 [Sr s,.one (.bx 0 0)] [(0,.box [.p (ks t)])] (.bq (!decide (s=t))) [(0,.box [.p (ks t)])]:=by
 refine gO T Tryz.func240 λC hC=>?_
 repeat' first|refine gG ?_|refine gB ?_ ?_<;>intro h|refine ze ?_
 exact gE
def zrY(f:FuncId)(tx:Str)(l:List Str)(p:Str->Unit->Bool)(nx:Str->Unit->Unit)(inv:Unit->Prop)
 (hf: ∀x∈l,∀s:Unit,inv s->zf Tryz.prog f [Sr x,.one (.bx 0 0)] [(0,.box [.p (ks tx)])] (.bq (p x s)) ((λs:Unit=>[(0,.box [.p (ks tx)])]) (nx x s))/\(p x s=false->inv (nx x s))) (s:Unit) (hs:inv s):
 zf Tryz.prog 263 [pS (.sl 1 (l.map zev)),.one (.cl f [] [.bx 0 0])] [(0,.box [.p (ks tx)])] (I (idxR p nx l 0 s).1) ((λs:Unit=>[(0,.box [.p (ks tx)])]) (idxR p nx l 0 s).2):=by
 refine gO T Tryz.func263 λC hC=>?_;have hs0:=hs;refine wi 0 rfl λhl=>?_;rw[uk]at hl
 repeat' first|refine gG ?_|refine gB ?_ ?_<;>intro h
 rw[uk]
 refine zn (λq:Nat×Unit=>q.1<=l.length/\inv q.2/\idxR p nx (l.drop q.1) q.1 q.2=idxR p nx l 0 s) (λq=>(λs:Unit=>([(0,pS (.sl 1 (l.map zev))),(1,.one (.cl f [] [.bx 0 0])),(7,I l.length),(8,I q.1)],[(0,some (.box [.p (ks tx)]))])) q.2) (λq=>l.length - q.1) hC
  (0,s) ⟨uE _,hs,rfl⟩ id gM ?_
 generalize idxR p nx l 0 s=res;clear hs hs0;rintro⟨i,s⟩ ⟨hi,hv,J⟩;simp only at hi hv J;refine zm T hC true 200 rfl ?_;refine zp rfl ?_ ?_<;>intro hh
 ·have hlt:i<l.length:=by simpa using hh
  clear hh;obtain⟨x,hx⟩:=zb hlt;rw[drop_at hx]at J;simp only[idxR]at J;have hv2:=(hf x (uv hx) s hv).2
  repeat' first|refine gG ?_|refine gB ?_ ?_<;>intro h|refine gI T (zq hx) ?_|refine yh hC (hf x (uv hx) s hv).1 id rfl rfl (zI.refl _) rfl rfl rfl rfl rfl rfl rfl rfl ?_|refine zl ?_
  ·rw[uw uf]at J;subst J;exact gE
  ·have U:p x s=false:=by assumption
   rw[U]at J;simp only[uB,uM]at J;rw[wrap64 ua];exact zh (i+1,nx x s) ⟨ua,hv2 U,J⟩ id ua gM
 ·have hge: ¬i<l.length:=by simpa using hh
  rw[uC ua]at J;simp only[idxR]at J;subst J
  repeat' first|refine gG ?_|refine gB ?_ ?_<;>intro h|refine ze ?_
  exact gE
def zrZ(f:FuncId)(tx:Str)(l:List Str)(p:Str->Unit->Bool)(nx:Str->Unit->Unit)(inv:Unit->Prop)
 (hf: ∀x∈l,∀s:Unit,inv s->zf Tryz.prog f [Sr x,.one (.bx 0 0)] [(0,.box [.p (ks tx)])] (.bq (p x s)) ((λs:Unit=>[(0,.box [.p (ks tx)])]) (nx x s))/\(p x s=false->inv (nx x s))) (s:Unit) (J:inv s):
 zf Tryz.prog 239 [pS (.sl 1 (l.map zev)),.one (.cl f [] [.bx 0 0])] [(0,.box [.p (ks tx)])] (.bq (anyR p nx l s).1) ((λs:Unit=>[(0,.box [.p (ks tx)])]) (anyR p nx l s).2):=by
 refine gO T Tryz.func239 λC hC=>?_
 repeat' first|refine gG ?_|refine gB ?_ ?_<;>intro h|refine gR (zrY f tx l p nx inv hf s J) (nm [0]) ?_
 exact zi ⟨.inl rfl,id,_,rfl,.qq (za4 p nx l 0 s),by rw[<-za5 p nx l 0 s];exact⟨rfl,uh⟩,rfl,rfl⟩
def zlF(l:List Str)(t r:Str):zf Tryz.prog 238 [Sr t,Sr r,.one (.bx 0 0)] [(0,.box [.p (zbg l)])] (.tup [Sr (zid l t r).1,I (zid l t r).2]) [(0,.box [.p (zbg l)])]:=by
 have J:=zrZ 240 t l (λs _=> !decide (s=t)) (λ_ s=>s) (λ_=>True) (λx _ _ _=>⟨zrX t x,λ_=>trivial⟩) () trivial;rw[zlA (λ(s:Str)=> !decide (s=t)) l]at J;unfold zid;generalize (l.any λs=> !decide (s=t))=q at J⊢;refine gO T Tryz.func238 λC hC=>?_;cases q
 ·repeat' first|refine gG ?_|exact gD|refine gB ?_ ?_<;>intro h|refine gR J (nm [1003]) ?_|refine ze ?_
  exact gE
 ·repeat' first|refine gG ?_|exact gD|refine gB ?_ ?_<;>intro h|refine gR J (nm [1003]) ?_|refine ze ?_
  exact gE
def zqa: ∀M,RepEV M (.o (ks (⟨#[]⟩:UB))) (.string (⟨#[]⟩:UB)):=λM=>by simp only[RepEV,RepPV];exact⟨uh,rfl⟩
def arB(op:Int)(n:Nat):Prop:=(op=5->1<=n)/\(op=14\/op=15->2<=n)/\(op=21->3<=n)
def jW{l:List Str}{j:Int}(J:j=i)(h:i<l.length):(l.map zev)[j.toNat]?=some [ks (lsA l i)]:=by
 subst J;obtain⟨x,U⟩:=zb h;simp[U,lsA,zev]
noncomputable abbrev scL(d:zg)(V:List (Str×EV)):RL:=ckR d 0 1 2++[(3,mpS V)]
def zuA(d:zg)(l:List Str):Str×Int:=bif !yw d (lsA l 0) (lsA l 1)then(bif !yw d (lsA l 1) (lsA l 0)then((⟨#[]⟩:UB),11)else((⟨#[98,111,111,108]⟩:UB),0))else((⟨#[98,111,111,108]⟩:UB),0)
def zc7(d:zg)(vs:List Fld)(b:Bool)(op:Int)(s:Str)(l:List Str):Str×Int:=
 bif decide (op=1)then((⟨#[105,110,116]⟩:UB),0)else bif decide (op=2)then((⟨#[98,111,111,108]⟩:UB),0)else bif decide (op=3)then((⟨#[110,105,108]⟩:UB),0)
 else bif decide (op=4)then(bif !(look vs s).isSome then((⟨#[]⟩:UB),9)else((look vs s).getD (⟨#[]⟩:UB),0))
 else bif decide (op=5)then fieldT d (lsA l 0) s
 else bif decide (op=6)then(bif !b then((⟨#[]⟩:UB),13)else bif !yK d s then((⟨#[]⟩:UB),9)else(s,0))
 else bif decide (op=14)then zuA d l else bif decide (op=15)then zuA d l
 else bif decide (op=16)then zid l (⟨#[105,110,116]⟩:UB) (⟨#[98,111,111,108]⟩:UB)else bif decide (op=17)then zid l (⟨#[105,110,116]⟩:UB) (⟨#[98,111,111,108]⟩:UB)
 else bif decide (op=18)then zid l (⟨#[98,111,111,108]⟩:UB) (⟨#[98,111,111,108]⟩:UB)else bif decide (op=19)then zid l (⟨#[98,111,111,108]⟩:UB) (⟨#[98,111,111,108]⟩:UB)else bif decide (op=20)then zid l (⟨#[98,111,111,108]⟩:UB) (⟨#[98,111,111,108]⟩:UB)
 else bif decide (op=21)then(bif !decide (lsA l 0=(⟨#[98,111,111,108]⟩:UB))then((⟨#[]⟩:UB),11)else bif yw d (lsA l 1) (lsA l 2)then(lsA l 2,0)else bif yw d (lsA l 2) (lsA l 1)then(lsA l 1,0)else((⟨#[]⟩:UB),11))
 else zid l (⟨#[105,110,116]⟩:UB) (⟨#[105,110,116]⟩:UB)
def zlG(d:zg)(vs:List Fld)(b:Bool)(op:Int)(s:Str)(l:List Str):zB d vs b op s l=zc7 d vs b op s l:=by
 unfold zB zc7 zuA;simp only[cond_eq_ite,uq,uy];by_cases h4:op=4
 ·grind
 ·simp only[h4,uM];by_cases J:op=14
  ·grind
  ·by_cases U:op=15
   ·grind
   ·simp only[J,U,or_self,uM];by_cases h16:op=16
    ·subst h16;simp
    ·by_cases h17:op=17
     ·subst h17;simp
     grind
variable {d:zg}
set_option maxHeartbeats 4000000 in
set_option maxRecDepth 100000 in
def zoB{V:List (Str×EV)}{vs:List Fld}(b:Bool)(e:Ex)(l:List Str)(hV:wq V vs)(ha:arB e.op l.length)(hty: ∀x∈d.types,x.f.length<=1099511627776):
 zf Tryz.prog 197 [scS b 0 3,zr (yp e),pS (zbg l)] (scL d V) (.tup [Sr (zB d vs b e.op e.s l).1,I (zB d vs b e.op e.s l).2]) (scL d V):=by
 have hF:=zfi d (lsA l 0) e.s hty;have hN:=jV d e.s;have h01:=wD d (lsA l 0) (lsA l 1);have h10:=wD d (lsA l 1) (lsA l 0);have h12:=wD d (lsA l 1) (lsA l 2);have h21:=wD d (lsA l 2) (lsA l 1);have hib:=zlF l (⟨#[105,110,116]⟩:UB) (⟨#[98,111,111,108]⟩:UB);have hbb:=zlF l (⟨#[98,111,111,108]⟩:UB) (⟨#[98,111,111,108]⟩:UB);have hii:=zlF l (⟨#[105,110,116]⟩:UB) (⟨#[105,110,116]⟩:UB);have hgv:(getG V e.s).getD (.o (ks (⟨#[]⟩:UB)))= .o (ks ((look vs e.s).getD (⟨#[]⟩:UB))):=by rw[hV];cases look vs e.s<;>rfl
 have hgs:(getG V e.s).isSome=(look vs e.s).isSome:=by rw[hV];cases look vs e.s<;>rfl
 obtain⟨a1,a2,a3⟩:=ha;generalize hr:zB d vs b e.op e.s l=r;refine gO T Tryz.func197 λC hC=>?_
 repeat' first|refine gG ?_|refine gB ?_ ?_<;>intro h|refine gR hF (nm [0,1,2]) ?_|refine gR hN (nm [0,1,2]) ?_|refine gR h01 (nm [0,1,2]) ?_|refine gR h10 (nm [0,1,2]) ?_|refine gR h12 (nm [0,1,2]) ?_|refine gR h21 (nm [0,1,2]) ?_|refine gR hib (nm [1005]) ?_|refine gR hbb (nm [1005]) ?_|refine gR hii (nm [1005]) ?_|(refine yz (et:=9) kS hC (c0:= .string (⟨#[]⟩:UB)) (.o (ks (⟨#[]⟩:UB))) (pv:= .o (ks ((look vs e.s).getD (⟨#[]⟩:UB)))) (b:=(look vs e.s).isSome) rfl rfl rfl ud ud zqa hgv hgs rfl rfl ?_)|(refine xX T hC rfl rfl rfl ub (jW (i:=0) rfl (by simp only[uq]at *; omega)) rfl rfl ?_)|(refine xX T hC rfl rfl rfl ub (jW (i:=1) rfl (by simp only[uq]at *; omega)) rfl rfl ?_)|(refine xX T hC rfl rfl rfl ub (jW (i:=2) rfl (by simp only[uq]at *; omega)) rfl rfl ?_)|refine ze ?_
 all_goals (rw[zlG]at hr)
 all_goals try (simp only[zc7,zuA, *,Ui,oQ]at hr;subst hr;exact gE)
 all_goals try (simp[zc7,zuA, *]at hr;subst hr;exact gE)
 all_goals try (exfalso;simp only[uq,uu]at *; omega)
 cases b
 ·repeat' first|refine gG ?_|exact gD|refine gB ?_ ?_<;>intro h|refine ze ?_
  simp only[zc7, *,Ui,oQ,qA]at hr;subst hr;exact gE
 ·repeat' first|refine gG ?_|exact gD|refine gB ?_ ?_<;>intro h|refine gR hN (nm [0,1,2]) ?_|refine ze ?_
  all_goals (simp only[zc7, *,Ui,oQ,qm]at hr;subst hr;exact gE)
theorem zii{α:Type}(p:α->Bool): ∀(l:List α),(match l.findIdx? p with|some i=>(∃x,l[i]?=some x/\l.find? p=some x)|none=>l.find? p=none)
 | []=>rfl
 |x::r=>by
  rw[List.findIdx?_cons,qT];by_cases h:p x=true
  ·simp_all
  ·rw[ur h];have hf:p x=false:=by simpa using h
   rw[hf];have:=zii p r
   grind
def zuB(x:Ms)(s:Str):zf Tryz.prog 262 [zr (yI x),.one (.bx 0 0)] [(0,.box [.p (ks s)])] (.bq (decide (x.n=s))) [(0,.box [.p (ks s)])]:=by
 refine gO T Tryz.func262 λC hC=>?_
 repeat' first|refine gG ?_|refine gB ?_ ?_<;>intro h|refine ze ?_
 exact gE
def zfm(f:FuncId)(l:List Ms)(p:Ms->Str->Bool)(nx:Ms->Str->Str)(inv:Str->Prop)
 (hf: ∀x∈l,∀s:Str,inv s->zf Tryz.prog f [zr (yI x),.one (.bx 0 0)] [(0,.box [.p (ks s)])] (.bq (p x s)) ((λs:Str=>[(0,.box [.p (ks s)])]) (nx x s))/\(p x s=false->inv (nx x s))) (s:Str) (hs:inv s):
 zf Tryz.prog 200 [pS (.sl 7 (l.map yI)),.one (.cl f [] [.bx 0 0])] [(0,.box [.p (ks s)])] (I (idxR p nx l 0 s).1) ((λs:Str=>[(0,.box [.p (ks s)])]) (idxR p nx l 0 s).2):=by
 refine gO T Tryz.func200 λC hC=>?_;have hs0:=hs;refine wi 0 rfl λhl=>?_;rw[uk]at hl
 repeat' first|refine gG ?_|refine gB ?_ ?_<;>intro h
 rw[uk]
 refine zn (λq:Nat×Str=>q.1<=l.length/\inv q.2/\idxR p nx (l.drop q.1) q.1 q.2=idxR p nx l 0 s) (λq=>(λs:Str=>([(0,pS (.sl 7 (l.map yI))),(1,.one (.cl f [] [.bx 0 0])),(7,I l.length),(8,I q.1)],[(0,some (.box [.p (ks s)]))])) q.2) (λq=>l.length - q.1) hC
  (0,s) ⟨uE _,hs,rfl⟩ id gM ?_
 generalize idxR p nx l 0 s=res;clear hs hs0;rintro⟨i,s⟩ ⟨hi,hv,J⟩;simp only at hi hv J;refine zm T hC true 200 rfl ?_;refine zp rfl ?_ ?_<;>intro hh
 ·have hlt:i<l.length:=by simpa using hh
  clear hh;obtain⟨x,hx⟩:=zb hlt;rw[drop_at hx]at J;simp only[idxR]at J;have hv2:=(hf x (uv hx) s hv).2
  repeat' first|refine gG ?_|refine gB ?_ ?_<;>intro h|refine gI T (zq hx) ?_|refine yh hC (hf x (uv hx) s hv).1 id rfl rfl (zI.refl _) rfl rfl rfl rfl rfl rfl rfl rfl ?_|refine zl ?_
  ·rw[uw uf]at J;subst J;exact gE
  ·have U:p x s=false:=by assumption
   rw[U]at J;simp only[uB,uM]at J;rw[wrap64 ua];exact zh (i+1,nx x s) ⟨ua,hv2 U,J⟩ id ua gM
 ·have hge: ¬i<l.length:=by simpa using hh
  rw[uC ua]at J;simp only[idxR]at J;subst J
  repeat' first|refine gG ?_|refine gB ?_ ?_<;>intro h|refine ze ?_
  exact gE
theorem zjs(d:zg)(V:List (Str×EV))(b:Bool)(s:Str)(l:List Str)(hl:l.length<=1099511627776):
 zf Tryz.prog 236 [scS b 0 3,Sr s,pS (zbg l)] (scL d V) (.tup [Sr (zaR d s l).1,I (zaR d s l).2]) (scL d V):=by
 have J:=zfm 262 d.measures (λx _=>decide (x.n=s)) (λ_ s=>s) (λc=>c=s) (λx hx c hc=>⟨by subst hc;exact zuB x c,λ_=>hc⟩) s rfl;rw[yX]at J;have U:=zii (λm:Ms=>decide (m.n=s)) d.measures;refine gO T Tryz.func236 λC hC=>?_;cases hx:d.measures.findIdx? (λm=>decide (m.n=s))with
 |none=>
  rw[hx]at J U;simp only[idxI]at J;rw[show zaR d s l=((⟨#[]⟩:UB),9) by simp only[zaR,ztj,U]]
  repeat' first|refine gG ?_|exact gD|exact gP|refine gB ?_ ?_<;>intro h|refine gR J (nm [1004]) ?_|refine ze ?_
  exact gE
 |some i=>
  rw[hx]at J U;simp only[idxI]at J;obtain⟨m,hm,hfm⟩:=U;have hF:=wD d (lsA l 0) m.t;by_cases h1:l.length=1
  ·cases hq:yw d (lsA l 0) m.t with
   |false=>
    rw[hq]at hF;rw[show zaR d s l=((⟨#[]⟩:UB),11) by simp[zaR,ztj,hfm,h1,hq]]
    repeat' first|refine gG ?_|exact gD|exact gP|refine gB ?_ ?_<;>intro h|refine gR J (nm [1004]) ?_|refine gR hF (nm [0,1,2]) ?_|(refine xX T hC rfl rfl rfl ub (jW (i:=0) rfl ua) rfl rfl ?_)|(refine gI T (zq hm) ?_)|refine ze ?_
    exact gE
   |true=>
    rw[hq]at hF;rw[show zaR d s l=((⟨#[105,110,116]⟩:UB),0) by simp[zaR,ztj,hfm,h1,hq]]
    repeat' first|refine gG ?_|exact gD|exact gP|refine gB ?_ ?_<;>intro h|refine gR J (nm [1004]) ?_|refine gR hF (nm [0,1,2]) ?_|(refine xX T hC rfl rfl rfl ub (jW (i:=0) rfl ua) rfl rfl ?_)|(refine gI T (zq hm) ?_)|refine ze ?_
    exact gE
  ·rw[show zaR d s l=((⟨#[]⟩:UB),3) by simp[zaR,ztj,hfm,h1]]
   repeat' first|refine gG ?_|exact gD|exact gP|refine gB ?_ ?_<;>intro h|refine gR J (nm [1004]) ?_|refine ze ?_
   exact gE
def zbb: ∀M,RepEV M (.g [ks (⟨#[]⟩:UB),.k (.slice none 0 0),ks (⟨#[]⟩:UB),.k (.slice none 0 0),.k (.slice none 0 0)]) (.agg #[.string (⟨#[]⟩:UB),.slice none 0 0,.string (⟨#[]⟩:UB),.slice none 0 0,.slice none 0 0]):=
 λM=>⟨[.string (⟨#[]⟩:UB),.slice none 0 0,.string (⟨#[]⟩:UB),.slice none 0 0,.slice none 0 0],rfl,by simp only[RepPVl,RepPV];exact⟨⟨uh,rfl⟩,⟨uh,rfl⟩,⟨uh,rfl⟩,⟨uh,rfl⟩,⟨uh,rfl⟩,uh⟩⟩
abbrev zuC(d:zg)(vs:List Fld)(V:List (Str×EV))(b:Bool)(e:Ex):Prop:=zf Tryz.prog 135 [scS b 0 3,zr (yp e)] (scL d V) (.tup [Sr (exT d vs b e).1,I (exT d vs b e).2]) (scL d V)
abbrev zxx(d:zg)(vs:List Fld)(V:List (Str×EV))(b:Bool)(e:Ex):Prop:=zf Tryz.prog 196 [scS b 0 3,zr (yp e)] (scL d V) (.tup [Sr (caT d vs b e).1,I (caT d vs b e).2]) (scL d V)
variable {b:Bool}
theorem zlH{vs:List Fld}{l:List Ex}{x:Ex}{ts:List Str}{q:List Str×Int}(J:l[i]?=some x)(h:(ts++(exsT d vs b (l.drop i)).1,(exsT d vs b (l.drop i)).2)=q):
 ((exT d vs b x).2=0/\((ts++[(exT d vs b x).1])++(exsT d vs b (l.drop (i+1))).1,(exsT d vs b (l.drop (i+1))).2)=q)\/((exT d vs b x).2≠0/\q.2=(exT d vs b x).2):=by
 rw[drop_at J]at h;cases he:exT d vs b x with
 |mk t e=>
  simp only[exsT,he]at h
  grind
theorem zdU: ∀ {l:List (Nat×Nat)},(l.all λp=>Nat.ble 100 p.1)=true-> ∀i,i<100->mvL l i=i
 | [],_,_,_=>rfl
 |(a,b)::l,h,i,hi=>by
  simp only[tN,um]at h;have ha:100<=a:=uS h.1;have:=zdU h.2 i hi;unfold mvL at this⊢
  grind
def wR(h:i<=1000000):IntKind.i64.wrap ((i:Int)+1)=((i+1:Nat):Int):=by rw[wrap64 ua];omega
variable {f:Int}
def zr0{vs:List Fld}{e:Ex}(h:(exsT d vs b e.l).2=f)(h0:f≠0):caT d vs b e=((⟨#[]⟩:UB),f):=by
 unfold caT
 simp_all
def zr1{β:Type}(p:α×β->Bool){l:List α}{m:List β}{x:α}{y:β}(J:l[i]?=some x)(U:m[i]?=some y):((List.zip l m).take (i+1)).any p=(((List.zip l m).take i).any p||p (x,y)):=by
 have:(List.zip l m)[i]?=some (x,y):=by rw[tl];exact⟨J,U⟩
 rw[yc this,List.any_append];simp
noncomputable def xpT(d:zg)(V:List (Str×EV))(b:Bool)(e:Ex)(c n i w:Nat)(q:Nat×List Str):zd×Tab:=
 ([(2,.one (.bx 1002 0)),(3,.one (.bx 1003 0)),(c,pS (jc e.l)),(n,I e.l.length),(i,I q.1),(w,.one (.ar 140))],
  [(1002,some (.box [.bx 0 0,.mp 3,.p (.k (.bool b))])),(1003,some (.box ((yp e).map Hw.V.p))),(140,some (.arr 1 (q.2.map zev)))]++tb (scL d V))
def zfn{vs:List Fld}{V:List (Str×EV)}(b:Bool)(e:Ex)(hX: ∀x∈e.l,zuC d vs V b x)(hl:e.l.length<=1000000)(hp: ∀p∈d.procs,p.params.length<=1099511627776):zxx d vs V b e:=by
 show zf _ _ _ _ _ _;generalize J:caT d vs b e=r;refine gO T Tryz.func196 λC hC=>?_
 repeat' first|refine gG ?_|refine gB ?_ ?_<;>intro h
 refine gA 140 1 [(6,.one (.ar 140))] [] ?_;rw[uk]
 refine zn (λq:Nat×List Str=>q.1<=e.l.length/\q.2.length=q.1/\(q.2++(exsT d vs b (e.l.drop q.1)).1,(exsT d vs b (e.l.drop q.1)).2)=exsT d vs b e.l) (xpT d V b e 16 17 18 6) (λq=>e.l.length - q.1) hC
  (0,[]) ⟨uE _,rfl,rfl⟩ id gM ?_
 rintro⟨i,ts⟩ ⟨hi,hv,hq⟩;simp only at hi hv hq;refine zm T hC true 200 rfl ?_;refine zp rfl ?_ ?_<;>intro h
 ·have hlt:i<e.l.length:=by simpa [xpT]using h
  clear h;obtain⟨x,hx⟩:=zb hlt;have hE:=hX x (uv hx);have happ:ts.map zev++[[ks (exT d vs b x).1]]=(ts++[(exT d vs b x).1]).map zev:=by rw[u6];rfl
  rcases zlH hx hq with⟨h0,U⟩|⟨h0,U⟩
  ·repeat' first|refine gG ?_|exact gP|refine gB ?_ ?_<;>intro h|refine gXE ?_|refine gR hE (nm [0,1,2,3]) ?_|refine gT ?_|(refine gY T 141 ((ts++[(exT d vs b x).1]).map zev) 16 ?_)
   rw[wR (by simp only;omega)];exact zh (i+1,ts++[(exT d vs b x).1]) ⟨ua,by simp_all,U⟩ (mvL [(140,141)]) ua ⟨rfl,⟨rfl,rfl,rfl,rfl,rfl,rfl,uh⟩,⟨rfl,rfl,rfl,rfl,rfl,rfl,rfl,uh⟩,rfl,zdU rfl⟩
  ·repeat' first|refine gG ?_|exact gP|refine gB ?_ ?_<;>intro h|refine gXE ?_|refine gR hE (nm [0,1,2,3]) ?_|refine zl ?_
   rw[zr0 U h0]at J;subst J;exact gE
 ·have hge: ¬i<e.l.length:=by simpa [xpT]using h
  clear h;have hi':i=e.l.length:=by omega
  subst hi';rw[qH]at hq;simp only[exsT,uV]at hq;refine gZ 140 [(6,pS (zbg ts))] [] ?_;have hM:=zjs d V b e.s ts ua;cases b
  ·repeat' first|refine gG ?_|exact gD|refine gB ?_ ?_<;>intro h|refine ze ?_|refine gR hM (nm [0,1,2,3]) ?_
   rw[show caT d vs false e=zaR d e.s ts by simp[caT,<-hq,vj]]at J;subst J;exact gE
  ·cases hpr:zeu d e.s with
   |none=>
    have hg:=zdR d e.s;rw[hpr]at hg;rw[show caT d vs true e=((⟨#[]⟩:UB),9) by simp[caT,<-hq,vj,hpr]]at J;subst J
    repeat' first|refine gG ?_|exact gD|refine gB ?_ ?_<;>intro h|(refine yz (et:=90) kS hC (c0:= .agg #[.string (⟨#[]⟩:UB),.slice none 0 0,.string (⟨#[]⟩:UB),.slice none 0 0,.slice none 0 0]) (.g [ks (⟨#[]⟩:UB),.k (.slice none 0 0),ks (⟨#[]⟩:UB),.k (.slice none 0 0),.k (.slice none 0 0)]) (pv:= .g [ks (⟨#[]⟩:UB),.k (.slice none 0 0),ks (⟨#[]⟩:UB),.k (.slice none 0 0),.k (.slice none 0 0)]) (b:=false) rfl rfl rfl ud ud zbb (by rw[hg];rfl) (by rw[hg];rfl) rfl rfl ?_)|refine ze ?_
    exact gE
   |some p=>
    have hg:=zdR d e.s;rw[hpr]at hg;have hpl:=hp p (qB hpr);by_cases hln:ts.length=p.params.length
    ·repeat' first|refine gG ?_|exact gD|exact gP|refine gB ?_ ?_<;>intro h|(refine yz (et:=90) kS hC (c0:= .agg #[.string (⟨#[]⟩:UB),.slice none 0 0,.string (⟨#[]⟩:UB),.slice none 0 0,.slice none 0 0]) (.g [ks (⟨#[]⟩:UB),.k (.slice none 0 0),ks (⟨#[]⟩:UB),.k (.slice none 0 0),.k (.slice none 0 0)]) (pv:= .g (zJ p)) (b:=true) rfl rfl rfl ud ud zbb (by rw[hg];rfl) (by rw[hg];rfl) rfl rfl ?_)|refine ze ?_
     rw[uk]
     refine zn (λj:Nat=>j<=ts.length/\((List.zip ts p.params).take j).any (λq=> !yw d q.1 q.2.t)=false) (λj=>([(2,.one (.bx 1002 0)),(11,.one (.bx 1011 0)),(67,pS (zbg ts)),(68,I ts.length),(69,I j)],[(1002,some (.box [.bx 0 0,.mp 3,.p (.k (.bool true))])),(1011,some (.box ((zJ p).map Hw.V.p)))]++tb (scL d V))) (λj=>ts.length - j) hC
      0 ⟨uE _,rfl⟩ id gM ?_
     intro j ⟨hj,hja⟩;refine zm T hC true 200 rfl ?_;refine zp rfl ?_ ?_<;>intro h
     ·have hlt:j<ts.length:=by simpa using h
      clear h;obtain⟨x,hx⟩:=zb hlt;obtain⟨y,hy⟩:=zb (show j<p.params.length by omega);have hF:=wD d x y.t;have hz:=zr1 (λq:Str×Fld=> !yw d q.1 q.2.t) hx hy;rw[hja,tw]at hz;simp only at hz;cases hf:yw d x y.t with
      |false=>
       rw[hf]at hF hz;rw[qA]at hz
       have hany:(List.zip ts p.params).any (λq=> !yw d q.1 q.2.t)=true:=by
        rw[List.any_eq_true]at hz⊢;obtain⟨q,hq1,U⟩:=hz;exact⟨q,Ur hq1,U⟩
       rw[show caT d vs true e=((⟨#[]⟩:UB),11) by simp only[caT,<-hq,uX,vj,hpr,hln,hany];rfl]at J;subst J
       repeat' first|refine gG ?_|exact gD|exact gP|refine gB ?_ ?_<;>intro h|(refine gI T (zq hx) ?_)|(refine gI T (zq hy) ?_)|refine gR hF (nm [0,1,2]) ?_|refine zl ?_
       exact gE
      |true=>
       rw[hf]at hF hz
       repeat' first|refine gG ?_|exact gD|exact gP|refine gB ?_ ?_<;>intro h|(refine gI T (zq hx) ?_)|(refine gI T (zq hy) ?_)|refine gR hF (nm [0,1,2]) ?_
       rw[wR ua];exact zh (j+1) ⟨ua,by simpa using hz⟩ id ua gM
     ·have hge: ¬j<ts.length:=by simpa using h
      clear h;rw[uQ (by rw[td];omega)]at hja;rw[show caT d vs true e=(p.res,0) by simp only[caT,<-hq,uX,vj,hpr,hln,hja];rfl]at J;subst J
      repeat' first|refine gG ?_|refine gB ?_ ?_<;>intro h|refine ze ?_
      exact gE
    ·rw[show caT d vs true e=((⟨#[]⟩:UB),3) by simp[caT,<-hq,vj,hpr,hln]]at J;subst J
     repeat' first|refine gG ?_|exact gD|exact gP|refine gB ?_ ?_<;>intro h|(refine yz (et:=90) kS hC (c0:= .agg #[.string (⟨#[]⟩:UB),.slice none 0 0,.string (⟨#[]⟩:UB),.slice none 0 0,.slice none 0 0]) (.g [ks (⟨#[]⟩:UB),.k (.slice none 0 0),ks (⟨#[]⟩:UB),.k (.slice none 0 0),.k (.slice none 0 0)]) (pv:= .g (zJ p)) (b:=true) rfl rfl rfl ud ud zbb (by rw[hg];rfl) (by rw[hg];rfl) rfl rfl ?_)|refine ze ?_
     exact gE
def zlI{vs:List Fld}{V:List (Str×EV)}(b:Bool)(e:Ex)(hX: ∀x∈e.l,zuC d vs V b x)(hl:e.l.length<=1000000)(hp: ∀p∈d.procs,p.params.length<=1099511627776)
 (hV:wq V vs) (ha:arB e.op e.l.length) (hty: ∀x∈d.types,x.f.length<=1099511627776):zuC d vs V b e:=by
 show zf _ _ _ _ _ _;have hCl:=zfn b e hX hl hp;generalize J:exT d vs b e=r
 have hr0:exT d vs b e=match exsT d vs b e.l with
  |(ts,f)=>if f=0 then(if e.op=7 then(if(vj d b e.s ts).2=0/\(vj d b e.s ts).1=(⟨#[]⟩:UB)then((⟨#[]⟩:UB),11)else vj d b e.s ts)else zB d vs b e.op e.s ts)else((⟨#[]⟩:UB),f):=by
  cases e;simp only[exT];rfl
 rw[hr0]at J;by_cases h7:e.op=7
 ·have J:(if(caT d vs b e).2=0/\(caT d vs b e).1=(⟨#[]⟩:UB)then((⟨#[]⟩:UB),11)else caT d vs b e)=r:=by
   rw[<-J];unfold caT;cases exsT d vs b e.l with
   |mk ts f=>
    simp only;by_cases h0:f=0
    ·simp only[uw h0,uw h7]
    ·simp only[ur h0];rw[ur (by intro h;exact h0 h.1)]
  have J:(bif decide ((caT d vs b e).2=0)&&decide ((caT d vs b e).1=(⟨#[]⟩:UB))then((⟨#[]⟩:UB),11)else caT d vs b e)=r:=by
   rw[<-J];by_cases h1:(caT d vs b e).2=0<;>by_cases h2:(caT d vs b e).1=(⟨#[]⟩:UB)<;>simp[h1,h2]
  refine gO T Tryz.func135 λC hC=>?_
  repeat' first|refine gG ?_|exact gD|exact gP|refine gB ?_ ?_<;>intro h|refine gR hCl (nm [0,1,2,3]) ?_|refine ze ?_
  all_goals (simp only[*,qh,tn,tJ,qI,Ui,oQ]at J;subst J;exact gE)
 ·refine gO T Tryz.func135 λC hC=>?_
  repeat' first|refine gG ?_|exact gP|refine gB ?_ ?_<;>intro h
  refine gA 140 1 [(8,.one (.ar 140))] [] ?_;rw[uk]
  refine zn (λq:Nat×List Str=>q.1<=e.l.length/\q.2.length=q.1/\(q.2++(exsT d vs b (e.l.drop q.1)).1,(exsT d vs b (e.l.drop q.1)).2)=exsT d vs b e.l) (xpT d V b e 31 32 33 8) (λq=>e.l.length - q.1) hC
   (0,[]) ⟨uE _,rfl,rfl⟩ id gM ?_
  rintro⟨i,ts⟩ ⟨hi,hv,hq⟩;simp only at hi hv hq;refine zm T hC true 200 rfl ?_;refine zp rfl ?_ ?_<;>intro h
  ·have hlt:i<e.l.length:=by simpa [xpT]using h
   clear h;obtain⟨x,hx⟩:=zb hlt;have hE:=hX x (uv hx);have happ:ts.map zev++[[ks (exT d vs b x).1]]=(ts++[(exT d vs b x).1]).map zev:=by rw[u6];rfl
   rcases zlH hx hq with⟨h0,U⟩|⟨h0,U⟩
   ·repeat' first|refine gG ?_|exact gP|refine gB ?_ ?_<;>intro h|refine gXE ?_|refine gR hE (nm [0,1,2,3]) ?_|refine gT ?_|(refine gY T 141 ((ts++[(exT d vs b x).1]).map zev) 16 ?_)
    rw[wR (by simp only;omega)];exact zh (i+1,ts++[(exT d vs b x).1]) ⟨ua,by simp_all,U⟩ (mvL [(140,141)]) ua ⟨rfl,⟨rfl,rfl,rfl,rfl,rfl,rfl,uh⟩,⟨rfl,rfl,rfl,rfl,rfl,rfl,rfl,uh⟩,rfl,zdU rfl⟩
   ·have J:((⟨#[]⟩:UB),(exT d vs b x).2)=r:=by
     rw[<-J];cases hs:exsT d vs b e.l with
     |mk ts0 f=>
      rw[hs]at U;simp only at U⊢;subst U;rw[ur h0]
    repeat' first|refine gG ?_|exact gP|refine gB ?_ ?_<;>intro h|refine gXE ?_|refine gR hE (nm [0,1,2,3]) ?_|refine zl ?_
    subst J;exact gE
  ·have hge: ¬i<e.l.length:=by simpa [xpT]using h
   clear h;have hi':i=e.l.length:=by omega
   subst hi';rw[qH]at hq;simp only[exsT,uV]at hq;rw[<-hq]at J;simp only[uX,ur h7]at J;have hN:=zoB b e ts hV (by rw[hv];exact ha) hty;rw[J]at hN;refine gZ 140 [(8,pS (zbg ts))] [] ?_
   repeat' first|refine gG ?_|refine gB ?_ ?_<;>intro h|refine ze ?_|refine gR hN (nm [0,1,2,3]) ?_
   exact gE
mutual
def exG:Ex->Prop
 | .mk op _ _ l=>arB op l.length/\l.length<=1000000/\exGs l
def exGs:List Ex->Prop
 | []=>True
 |x::r=>exG x/\exGs r
end
theorem zdV: ∀ {l:List Ex},exGs l-> ∀x∈l,exG x
 |y::l,h,x,J=>by
  simp only[exGs]at h;rcases uI.1 J with rfl|J
  ·exact h.1
  ·exact zdV h.2 x J
theorem zij{d:zg}{vs:List Fld}{V:List (Str×EV)}(b:Bool)(hp: ∀p∈d.procs,p.params.length<=1099511627776)(hV:wq V vs)(U: ∀x∈d.types,x.f.length<=1099511627776):
 ∀(n:Nat) (e:Ex),sizeOf e<=n->exG e->zuC d vs V b e
 |0,e,h,_=>by cases e;simp at h
 |n+1,e,h,hg=>by
  have J:arB e.op e.l.length/\e.l.length<=1000000/\exGs e.l:=by cases e;simpa only[exG,Ex.op,Ex.l]using hg
  refine zlI b e (λx hx=>zij b hp hV U n x ?_ (zdV J.2.2 x hx)) J.2.1 hp hV J.1 U;have:sizeOf x<sizeOf e.l:=qx hx;cases e;simp only[Ex.mk.sizeOf_spec,Ex.l]at*;omega
def zbv{vs:List Fld}{V:List (Str×EV)}(b:Bool)(U: ∀p∈d.procs,p.params.length<=1099511627776)(hV:wq V vs)(J: ∀x∈d.types,x.f.length<=1099511627776)(e:Ex)(hg:exG e):zuC d vs V b e:=
 zij b U hV J _ e (uJ _) hg
def zoC{vs:List Fld}{V:List (Str×EV)}(b:Bool)(hp: ∀p∈d.procs,p.params.length<=1099511627776)(hV:wq V vs)(U: ∀x∈d.types,x.f.length<=1099511627776)(e:Ex)(hg:exG e):zxx d vs V b e:=by
 have J:arB e.op e.l.length/\e.l.length<=1000000/\exGs e.l:=by cases e;simpa only[exG,Ex.op,Ex.l]using hg
 exact zfn b e (λx hx=>zbv b hp hV U x (zdV J.2.2 x hx)) J.2.1 hp
def zvZ(d:zg)(vs:List Fld)(res:Str)(op:Int)(s:Str)(ts:List Str):Int:=
 bif decide (op=1)then(bif !(look vs s).isSome then 9 else bif !yw d (lsA ts 0) ((look vs s).getD (⟨#[]⟩:UB))then 11 else 0)
 else bif decide (op=2)then(bif !decide ((fieldT d (lsA ts 0) s).2=0)then(fieldT d (lsA ts 0) s).2 else bif !yw d (lsA ts 1) (fieldT d (lsA ts 0) s).1 then 11 else 0)
 else bif decide (op=3)then(bif !decide (lsA ts 0=(⟨#[98,111,111,108]⟩:UB))then 11 else 0)
 else bif decide (op=4)then(bif !decide (lsA ts 0=(⟨#[98,111,111,108]⟩:UB))then 11 else 0)
 else bif decide (op=5)then(bif decide (((ts.map zev).length:Int)=0)then(bif !decide (res=(⟨#[]⟩:UB))then 11 else 0)else bif !decide (res=(⟨#[]⟩:UB))then(bif !yw d (lsA ts 0) res then 11 else 0)else 11)
 else 0
def zr2(d:zg)(vs:List Fld)(res:Str)(x:Sm)(ts:List Str)(h6:x.op≠6)(h:exsT d vs true x.e=(ts,0)):stmT d vs res x=zvZ d vs res x.op x.s ts:=by
 unfold stmT zvZ
 grind
def smA(x:Sm):Prop:=(x.op=6->1<=x.e.length)/\(x.op=1->1<=x.e.length)/\(x.op=2->2<=x.e.length)/\(x.op=3\/x.op=4->1<=x.e.length)/\x.e.length<=1000000
variable {res:Str}{x:Sm}
def zoD{vs:List Fld}(h6:x.op≠6)(h:(exsT d vs true x.e).2=f)(h0:f≠0):stmT d vs res x=f:=by
 unfold stmT
 simp_all
noncomputable def stT(d:zg)(V:List (Str×EV))(x:Sm)(res:Str)(q:Nat×List Str):zd×Tab:=
 ([(2,Sr res),(3,.one (.bx 1003 0)),(4,.one (.bx 1004 0)),(33,pS (jc x.e)),(34,I x.e.length),(35,I q.1),(9,.one (.ar 140))],
  [(1003,some (.box [.bx 0 0,.mp 3,.p (.k (.bool true))])),(1004,some (.box ((zgq x).map Hw.V.p))),(140,some (.arr 1 (q.2.map zev)))]++tb (scL d V))
set_option maxHeartbeats 4000000 in
set_option maxRecDepth 100000 in
def zr3{vs:List Fld}{V:List (Str×EV)}(hp: ∀p∈d.procs,p.params.length<=1099511627776)(hV:wq V vs)(hty: ∀x∈d.types,x.f.length<=1099511627776)(x:Sm)(res:Str)(hg: ∀e∈x.e,exG e)(ha:smA x):
 zf Tryz.prog 225 [scS true 0 3,zr (zgq x),Sr res] (scL d V) (I (stmT d vs res x)) (scL d V):=by
 obtain⟨a6,a1,a2,a3,hl⟩:=ha;generalize hr:stmT d vs res x=r;by_cases h6:x.op=6
 ·obtain⟨e0,he0⟩:=zb (show 0<x.e.length by omega);have hCl:=zoC true hp hV hty e0 (hg e0 (uv he0));rw[show stmT d vs res x=(caT d vs true e0).2 by unfold stmT exA;rw[uw h6,he0];rfl]at hr;subst hr;refine gO T Tryz.func225 λC hC=>?_
  repeat' first|refine gG ?_|exact gD|exact gP|refine gB ?_ ?_<;>intro h|(refine xX T hC rfl rfl rfl ub (wh (i:=0) he0) rfl rfl ?_)|refine gR hCl (nm [0,1,2,3]) ?_|refine ze ?_
  exact gE
 ·refine gO T Tryz.func225 λC hC=>?_
  repeat' first|refine gG ?_|exact gP|refine gB ?_ ?_<;>intro h
  refine gA 140 1 [(9,.one (.ar 140))] [] ?_;rw[uk]
  refine zn (λq:Nat×List Str=>q.1<=x.e.length/\q.2.length=q.1/\(q.2++(exsT d vs true (x.e.drop q.1)).1,(exsT d vs true (x.e.drop q.1)).2)=exsT d vs true x.e) (stT d V x res) (λq=>x.e.length - q.1) hC
   (0,[]) ⟨uE _,rfl,rfl⟩ id gM ?_
  rintro⟨i,ts⟩ ⟨hi,hv,hq⟩;simp only at hi hv hq;refine zm T hC true 200 rfl ?_;refine zp rfl ?_ ?_<;>intro h
  ·have hlt:i<x.e.length:=by simpa [stT]using h
   clear h;obtain⟨y,hy⟩:=zb hlt;have hE:=zbv true hp hV hty y (hg y (uv hy));have happ:ts.map zev++[[ks (exT d vs true y).1]]=(ts++[(exT d vs true y).1]).map zev:=by rw[u6];rfl
   rcases zlH hy hq with⟨h0,hq2⟩|⟨h0,hq2⟩
   ·repeat' first|refine gG ?_|exact gP|refine gB ?_ ?_<;>intro h|refine gXE ?_|refine gR hE (nm [0,1,2,3]) ?_|refine gT ?_|(refine gY T 141 ((ts++[(exT d vs true y).1]).map zev) 16 ?_)
    rw[wR (by simp only;omega)];exact zh (i+1,ts++[(exT d vs true y).1]) ⟨ua,by simp_all,hq2⟩ (mvL [(140,141)]) ua ⟨rfl,⟨rfl,rfl,rfl,rfl,rfl,rfl,rfl,uh⟩,⟨rfl,rfl,rfl,rfl,rfl,rfl,rfl,uh⟩,rfl,zdU rfl⟩
   ·rw[zoD h6 hq2 h0]at hr
    repeat' first|refine gG ?_|exact gP|refine gB ?_ ?_<;>intro h|refine gXE ?_|refine gR hE (nm [0,1,2,3]) ?_|refine zl ?_
    subst hr;exact gE
  ·have hge: ¬i<x.e.length:=by simpa [stT]using h
   clear h;have hi':i=x.e.length:=by omega
   subst hi';rw[qH]at hq;simp only[exsT,uV]at hq;rw[zr2 d vs res x ts h6 hq.symm]at hr;have hF1:=wD d (lsA ts 0) ((look vs x.s).getD (⟨#[]⟩:UB));have hF2:=wD d (lsA ts 1) (fieldT d (lsA ts 0) x.s).1;have hF3:=wD d (lsA ts 0) res;have hFd:=zfi d (lsA ts 0) x.s hty;have hgv:(getG V x.s).getD (.o (ks (⟨#[]⟩:UB)))= .o (ks ((look vs x.s).getD (⟨#[]⟩:UB))):=by rw[hV];cases look vs x.s<;>rfl
   have hgs:(getG V x.s).isSome=(look vs x.s).isSome:=by rw[hV];cases look vs x.s<;>rfl
   clear hq hg hp hV a6;refine gZ 140 [(9,pS (zbg ts))] [] ?_
   repeat' first|refine gG ?_|exact gD|refine gB ?_ ?_<;>intro h|refine ze ?_|refine gR hF1 (nm [0,1,2]) ?_|refine gR hF2 (nm [0,1,2]) ?_|refine gR hF3 (nm [0,1,2]) ?_|refine gR hFd (nm [0,1,2]) ?_|(refine yz (et:=9) kS hC (c0:= .string (⟨#[]⟩:UB)) (.o (ks (⟨#[]⟩:UB))) (pv:= .o (ks ((look vs x.s).getD (⟨#[]⟩:UB)))) (b:=(look vs x.s).isSome) rfl rfl rfl ud ud zqa hgv hgs rfl rfl ?_)|(refine xX T hC rfl rfl rfl ub (jW (i:=0) rfl (by simp only[uq,uu,uk]at *; omega)) rfl rfl ?_)|(refine xX T hC rfl rfl rfl ub (jW (i:=1) rfl (by simp only[uq,uu]at *; omega)) rfl rfl ?_)
   all_goals clear hF1 hF2 hF3 hFd hgv hgs
   all_goals try (simp only[zvZ, *,Ui,oQ]at hr;subst hr;exact gE)
   all_goals try (simp[zvZ, *]at hr;subst hr;exact gE)
   all_goals try (exfalso;simp only[uq,uu]at *; omega)
mutual
def smG:Sm->Prop
 | .mk op s e l els=>(∀y∈e,exG y)/\smA (.mk op s e l els)/\l.length<=1000000/\els.length<=1000000/\smGs l/\smGs els
def smGs:List Sm->Prop
 | []=>True
 |x::r=>smG x/\smGs r
end
mutual
def znF:Sm->Nat
 | .mk _ _ _ l els=>1+wO l+wO els
def wO:List Sm->Nat
 | []=>0
 |x::r=>znF x+wO r
end
theorem zik: ∀ {l:List Sm},smGs l-> ∀x∈l,smG x
 |y::l,h,x,J=>by
  simp only[smGs]at h;rcases uI.1 J with rfl|J
  ·exact h.1
  ·exact zik h.2 x J
mutual
theorem zoE(d:zg)(vs:List Fld)(res:Str): ∀(x:Sm) (n:Int),n<=(smOne d vs res x n).2/\(smOne d vs res x n).2<=n+znF x
 | .mk op s e l els,n=>by
   have h1:=zdW d vs res l (n+1);simp only[smOne,znF];by_cases h0:stmT d vs res (.mk op s e l els)=0
   ·rw[uw h0];cases hq:smsT d vs res l (n+1)with
    |mk q m=>
     rw[hq]at h1;simp only at h1⊢;have h2:=zdW d vs res els m
     grind
   grind
theorem zdW(d:zg)(vs:List Fld)(res:Str): ∀(l:List Sm) (n:Int),n<=(smsT d vs res l n).2/\(smsT d vs res l n).2<=n+wO l
 | [],n=>by simp only[smsT,wO];omega
 |x::r,n=>by
  have h1:=zoE d vs res x n;simp only[smsT,wO];cases hq:smOne d vs res x n with
  |mk q m=>
   rw[hq]at h1;simp only at h1⊢;have h2:=zdW d vs res r m
   grind
end
noncomputable abbrev stR(d:zg)(V:List (Str×EV))(n:Int):RL:=scL d V++[(4,.box [.p (ki n)])]
abbrev zxY(d:zg)(vs:List Fld)(V:List (Str×EV))(res:Str)(l:List Sm)(n:Int):Prop:=
 zf Tryz.prog 177 [scS true 0 3,pS (yF l),Sr res,.one (.bx 4 0)] (stR d V n) (.tup [I (smsT d vs res l n).1.1,I (smsT d vs res l n).1.2]) (stR d V (smsT d vs res l n).2)
def rstT(d:zg)(vs:List Fld)(res:Str)(x:Sm)(k:Nat)(m:Int):(Int×Int)×Int:=match k with
 |0=>match smsT d vs res x.l m with
  |(q,m)=>if q.2=0 then smsT d vs res x.els m else(q,m)
 |1=>smsT d vs res x.els m
 |_=>((0,0),m)
def zr4(x:Sm)(k:Nat):Nat:=match k with
 |0=>wO x.l+wO x.els
 |1=>wO x.els
 |_=>0
def partT(x:Sm)(k:Nat):List Sm:=match k with
 |0=>x.l
 |_=>x.els
theorem zfo{d:zg}{vs:List Fld}{res:Str}: ∀ {l:List Sm} {n:Int},(smsT d vs res l n).1.2=0->(smsT d vs res l n).1=(0,0)
 | [],n,_=>rfl
 |x::r,n,h=>by
  simp only[smsT]at h⊢;cases hq:smOne d vs res x n with
  |mk q m=>
   rw[hq]at h;simp only at h⊢;by_cases J:q.2=0
   ·rw[uw J]at h ⊢; exact zfo h
   simp_all
theorem zoF{vs:List Fld}{k:Nat}{m:Int}(hk:k<2):(smsT d vs res (partT x k) m).1.2=0/\rstT d vs res x k m=rstT d vs res x (k+1) (smsT d vs res (partT x k) m).2\/
 (smsT d vs res (partT x k) m).1.2≠0/\rstT d vs res x k m=smsT d vs res (partT x k) m:=by
 match k,hk with
 |0,_=>
  simp only[rstT,partT];cases smsT d vs res x.l m with
  |mk q m'=>
   simp only;by_cases h:q.2=0
   ·rw[uw h];exact .inl ⟨h,rfl⟩
   ·rw[ur h];exact .inr ⟨h,rfl⟩
 |1,_=>
  simp only[rstT,partT];by_cases h:(smsT d vs res x.els m).1.2=0
  ·refine .inl ⟨h,?_⟩;rw[show smsT d vs res x.els m=((smsT d vs res x.els m).1,(smsT d vs res x.els m).2) from rfl,zfo h]
  ·exact .inr ⟨h,uh⟩
theorem zlJ{k:Nat}(hk:k<2):zr4 x k=wO (partT x k)+zr4 x (k+1):=by
 match k,hk with
 |0,_=>rfl
 |1,_=>rfl
def zr5(x:Sm):znF x=1+zr4 x 0:=by cases x;simp only[znF,zr4,Sm.l,Sm.els];omega
def zoG(d:zg)(vs:List Fld)(res:Str)(x:Sm)(n:Int):smOne d vs res x n=if stmT d vs res x=0 then rstT d vs res x 0 (n+1)else((n,stmT d vs res x),n+1):=by
 cases x;simp only[smOne,rstT];rfl
def zoH{l:List Sm}(h:l[i]?=some x):wO (l.drop i)=znF x+wO (l.drop (i+1)):=by rw[drop_at h];rfl
noncomputable def sT(d:zg)(V:List (Str×EV))(l:List Sm)(res:Str)(q:Nat×Int):zd×Tab:=
 ([(2,Sr res),(3,.one (.bx 4 0)),(4,.one (.bx 1004 0)),(18,pS (yF l)),(19,I l.length),(20,I q.1)],[(1004,some (.box [.bx 0 0,.mp 3,.p (.k (.bool true))]))]++tb (stR d V q.2))
noncomputable def sT2(d:zg)(V:List (Str×EV))(l:List Sm)(res:Str)(x:Sm)(i:Nat)(q:Nat×Int):zd×Tab:=
 ([(2,Sr res),(3,.one (.bx 4 0)),(4,.one (.bx 1004 0)),(18,pS (yF l)),(19,I l.length),(20,I i),(44,pS (.sl 1 [[yF x.l],[yF x.els]])),(45,I 2),(46,I q.1)],[(1004,some (.box [.bx 0 0,.mp 3,.p (.k (.bool true))]))]++tb (stR d V q.2))
theorem zlK(x:Sm){k:Nat}(hk:k<2):([[yF x.l],[yF x.els]]:List (List PV))[((k:Nat):Int).toNat]?=some [yF (partT x k)]:=by
 match k,hk with
 |0,_=>rfl
 |1,_=>rfl
theorem zfp{d:zg}{vs:List Fld}{V:List (Str×EV)}(hp: ∀p∈d.procs,p.params.length<=1099511627776)(hV:wq V vs)(hty: ∀x∈d.types,x.f.length<=1099511627776)(res:Str):
 ∀(N:Nat) (l:List Sm) (n:Int),sizeOf l<=N->smGs l->l.length<=1000000->0<=n->n+wO l<=1099511627776->zxY d vs V res l n
 |0,l,n,h,_,_,_,_=>by cases l<;>simp at h
 |N+1,l,n,hN,hg,hl,hn0,hn1=>by
  show zf _ _ _ _ _ _;generalize J:smsT d vs res l n=r;refine gO T Tryz.func177 λC hC=>?_
  repeat' first|refine gG ?_|refine gB ?_ ?_<;>intro h
  rw[uk]
  refine zn (λq:Nat×Int=>q.1<=l.length/\0<=q.2/\q.2+wO (l.drop q.1)<=1099511627776/\smsT d vs res (l.drop q.1) q.2=r) (sT d V l res) (λq=>l.length - q.1) hC
   (0,n) ⟨uE _,hn0,hn1,J⟩ id gM ?_
  clear J hn0 hn1;rintro⟨i,m⟩ ⟨hi,hm0,U,J⟩;simp only at hi hm0 U J;refine zm T hC true 200 rfl ?_;refine zp rfl ?_ ?_<;>intro h
  ·have hlt:i<l.length:=by simpa [sT]using h
   clear h;obtain⟨x,hx⟩:=zb hlt;have hxg:=zik hg x (uv hx)
   obtain⟨xe,xa,xl1,xl2,xg1,xg2⟩:(∀y∈x.e,exG y)/\smA x/\x.l.length<=1000000/\x.els.length<=1000000/\smGs x.l/\smGs x.els:=by
    cases x;simpa only[smG,Sm.e,Sm.l,Sm.els]using hxg
   have hS:=zr3 hp hV hty x res xe xa;rw[zoH hx,zr5]at U;rw[drop_at hx]at J;simp only[smsT]at J;rw[zoG]at J;have hw1:IntKind.i64.wrap ((i,m).2+1)=m+1:=by rw[wrap64 (by simp only;omega)]
   by_cases h0:stmT d vs res x=0
   ·rw[uw h0]at J;rw[h0]at hS
    repeat' first|refine gG ?_|exact gD|exact gP|refine gB ?_ ?_<;>intro h|(refine gI T (jN hx) ?_)|refine gR hS (nm [0,1,2,3]) ?_|(refine gH T [[yF x.l],[yF x.els]] ?_)
    rw[hw1];have hrc:zr4 x 0+wO (l.drop (i+1))+1+m<=1099511627776:=by omega
    refine zn (λq:Nat×Int=>q.1<=2/\0<=q.2/\q.2+zr4 x q.1+wO (l.drop (i+1))<=1099511627776/\(if(rstT d vs res x q.1 q.2).1.2=0 then smsT d vs res (l.drop (i+1)) (rstT d vs res x q.1 q.2).2 else rstT d vs res x q.1 q.2)=r) (sT2 d V l res x i) (λq=>2 - q.1) hC
     (0,m+1) ⟨ua,ua,by grind,J⟩ id gM ?_
    clear J hrc hm0 U hw1;rintro⟨k,m1⟩ ⟨hk,hm0,U,J⟩;simp only at hk hm0 U J;refine zm T hC true 200 rfl ?_;refine zp rfl ?_ ?_<;>intro h
    ·have hk2:k<2:=by
      have h9:(k:Int)<2:=uj h;omega
     clear h;rw[zlJ hk2]at U
     have hsz:sizeOf (partT x k)<=N:=by
      have h1:sizeOf x<sizeOf l:=qx (uv hx)
      have h2:sizeOf (partT x k)<sizeOf x:=by
       cases x
       match k with
       |0=>simp only[partT,Sm.l,Sm.mk.sizeOf_spec];omega
       |_+1=>simp only[partT,Sm.els,Sm.mk.sizeOf_spec];omega
      omega
     have hpg:smGs (partT x k):=by
      match k with
      |0=>exact xg1
      |_+1=>exact xg2
     have hpl:(partT x k).length<=1000000:=by
      match k with
      |0=>exact xl1
      |_+1=>exact xl2
     have hI:=zfp hp hV hty res N (partT x k) m1 hsz hpg hpl hm0 ua;have hle:=zdW d vs res (partT x k) m1;have hI:zf _ _ _ _ _ _:=hI;rcases zoF (d:=d) (vs:=vs) (res:=res) (x:=x) (m:=m1) hk2 with⟨hz,hnx⟩|⟨hz,hnx⟩
     ·rw[hnx]at J;generalize smsT d vs res (partT x k) m1=w at hI hle hz J
      repeat' first|refine gG ?_|exact gD|exact gP|refine gB ?_ ?_<;>intro h|(refine gI T (zlK x hk2) ?_)|refine gR hI (nm [0,1,2,3,4]) ?_
      rw[wR (by first|omega|(simp only;omega))];exact zh (k+1,w.2) ⟨ua,ua,by grind,J⟩ id ua gM
     ·rw[hnx]at J;generalize smsT d vs res (partT x k) m1=w at hI hle hz J;simp only[ur hz]at J;subst J
      repeat' first|refine gG ?_|exact gD|exact gP|refine gB ?_ ?_<;>intro h|(refine gI T (zlK x hk2) ?_)|refine gR hI (nm [0,1,2,3,4]) ?_|refine zl ?_
      exact gE
    ·have hk2:k=2:=by
      have h9: ¬(k:Int)<2:=uo h;omega
     clear h;subst hk2;simp only[rstT,zr4,uX]at J U
     repeat' first|refine gG ?_|refine gB ?_ ?_<;>intro h|refine ze ?_
     rw[wR (by first|omega|(simp only;omega))];exact zh (i+1,m1) ⟨ua,ua,by simp only;omega,J⟩ id ua gM
   ·rw[ur h0]at J;rw[ur h0]at J;subst J
    repeat' first|refine gG ?_|exact gD|exact gP|refine gB ?_ ?_<;>intro h|(refine gI T (jN hx) ?_)|refine gR hS (nm [0,1,2,3]) ?_|refine zl ?_
    rw[hw1];exact gE
  ·have hge: ¬i<l.length:=by simpa [sT]using h
   clear h;rw[uC ua]at J;simp only[smsT]at J;subst J
   repeat' first|refine gG ?_|refine gB ?_ ?_<;>intro h|refine ze ?_
   exact gE
def ftS:Ft->S
 |none=> .one (.p (.k (.pointer none)))
 |some _=> .one (.bx 5 0)
def ftR:Ft->RL
 |none=>[]
 |some f=>[(5,.box [.p (ks f.1),.p (ki f.2.1),.p (ki f.2.2)])]
abbrev zr6(g:FuncId)(d:zg)(F:Ft):Prop:=zf Tryz.prog g [.one (.bx 0 0)] (ckR d 0 1 2) (ftS F) (ckR d 0 1 2++ftR F)
variable {g:α->Nat->Ft}
def y4{l:List α}{x:α}(J:l[i]?=some x):firstF g (l.drop i) i=orF (g x i) (firstF g (l.drop (i+1)) (i+1)):=by
 rw[drop_at J];simp only[firstF];cases g x i<;>rfl
def yG{l:List α}(hi: ¬i<l.length):firstF g (l.drop i) i=none:=by
 rw[uC ua];rfl
structure vl (d:zg):Prop where
 ty:d.types.length<=1000000
 gl:d.globals.length<=1000000
 pr:d.procs.length<=1000000
 ms:d.measures.length<=1000000
 iv:d.invs.length<=1000000
 pt:d.pots.length<=1000000
 bd:d.bounds.length<=1000000
 tyf: ∀x∈d.types,x.f.length<=1000000
 prp: ∀p∈d.procs,p.params.length<=500000
 prl: ∀p∈d.procs,p.locs.length<=500000
 prb: ∀p∈d.procs,p.body.length<=1000000
 prs: ∀p∈d.procs,smGs p.body
 prc: ∀p∈d.procs,wO p.body<=1000000
 msx: ∀m∈d.measures,exG m.x
 ivx: ∀m∈d.invs,exG m.x
 ptx: ∀m∈d.pots,exG m.x
 bdx: ∀b∈d.bounds,exG b.x
def zlL(d:zg)(hd:vl d):zr6 120 d (zcb d):=by
 show zf _ _ _ _ _ _;unfold zcb;generalize hA0:firstF (λ(t:z7) i=>if twB (d.types.map (·.n)) i=true then some (t.n, -1,10)else none) d.types 0=A;generalize hB0:firstF (λ(t:z7) _=>ftE t.n (zaS d t.f)) d.types 0=B;generalize hE0:firstF (λ(f:Fld) i=>if twB (d.globals.map (·.n)) i=true then some (f.n, -1,10)else if yQ d f.t=false then some (f.n, -1,9)else none) d.globals 0=E;refine gO T Tryz.func120 λC hC=>?_;have q1:=hd.ty;have q2:=hd.gl
 repeat' first|refine gG ?_|refine gB ?_ ?_<;>intro h
 rw[uk]
 refine zn (λi:Nat=>i<=d.types.length/\firstF (λ(t:z7) i=>if twB (d.types.map (·.n)) i=true then some (t.n, -1,10)else none) (d.types.drop i) i=A) (λi=>([(0,.one (.bx 0 0)),(14,pS (.sl 2 (d.types.map zW))),(15,I d.types.length),(16,I i)],tb (ckR d 0 1 2))) (λi=>d.types.length - i) hC
  0 ⟨uE _,hA0⟩ id gM ?_
 clear hA0;intro i ⟨hi,J⟩;refine zm T hC true 200 rfl ?_;refine zp rfl ?_ ?_<;>intro h
 ·have hlt:i<d.types.length:=by simpa using h
  clear h;obtain⟨x,hx⟩:=zb hlt;rw[y4 hx]at J;have hT:=zrP d.types i hlt;cases hw:twB (d.types.map (·.n)) i with
  |true=>
   rw[hw]at hT J;simp only[uX,uM,uB,orF]at J;subst J
   repeat' first|refine gG ?_|exact gD|refine gB ?_ ?_<;>intro h|refine gX ?_|refine gC hT ?_|refine zl ?_
   exact zi ⟨.inl rfl,mvL [(5,1031)],_,rfl,.refl _,⟨rfl,rfl,rfl,rfl,uh⟩,rfl,rfl⟩
  |false=>
   rw[hw]at hT J;simp only[uX,uM,uB,orF]at J
   repeat' first|refine gG ?_|exact gD|refine gB ?_ ?_<;>intro h|refine gX ?_|refine gC hT ?_
   rw[wR ua];exact zh (i+1) ⟨ua,J⟩ id ua gM
 have U: ¬i<d.types.length:=by simpa using h
 clear h;rw[yG U]at J;subst J;clear hi U
 repeat' first|refine gG ?_|refine gB ?_ ?_<;>intro h|refine ze ?_
 rw[uk]
 refine zn (λi:Nat=>i<=d.types.length/\firstF (λ(t:z7) _=>ftE t.n (zaS d t.f)) (d.types.drop i) i=B) (λi=>([(0,.one (.bx 0 0)),(37,pS (.sl 2 (d.types.map zW))),(38,I d.types.length),(39,I i)],tb (ckR d 0 1 2))) (λi=>d.types.length - i) hC
  0 ⟨uE _,hB0⟩ id gM ?_
 clear hB0;intro i ⟨hi,J⟩;refine zm T hC true 200 rfl ?_;refine zp rfl ?_ ?_<;>intro h
 ·have hlt:i<d.types.length:=by simpa using h
  clear h;obtain⟨x,hx⟩:=zb hlt;rw[y4 hx]at J;have hF:=zfj d x.f (by have:=hd.tyf x (uv hx);omega);unfold ftE at J;by_cases hz:zaS d x.f=0
  ·rw[uw hz]at J;simp only[uX,uM,uB,orF]at J
   repeat' first|refine gG ?_|(exfalso;simp[hz]at h;done)|refine gB ?_ ?_<;>intro h|refine gX ?_|refine gR hF (nm [0,1,2]) ?_
   rw[wR ua];exact zh (i+1) ⟨ua,J⟩ id ua gM
  ·rw[ur hz]at J;simp only[orF]at J;subst J
   repeat' first|refine gG ?_|(exfalso;simp[hz]at h;done)|refine gB ?_ ?_<;>intro h|refine gX ?_|refine gR hF (nm [0,1,2]) ?_|refine zl ?_
   exact zi ⟨.inl rfl,mvL [(5,1053)],_,rfl,.refl _,⟨rfl,rfl,rfl,rfl,uh⟩,rfl,rfl⟩
 have U: ¬i<d.types.length:=by simpa using h
 clear h;rw[yG U]at J;subst J;clear hi U
 repeat' first|refine gG ?_|refine gB ?_ ?_<;>intro h|refine ze ?_
 rw[uk]
 refine zn (λi:Nat=>i<=d.globals.length/\firstF (λ(f:Fld) i=>if twB (d.globals.map (·.n)) i=true then some (f.n, -1,10)else if yQ d f.t=false then some (f.n, -1,9)else none) (d.globals.drop i) i=E) (λi=>([(0,.one (.bx 0 0)),(59,pS (.sl 2 (d.globals.map zG))),(60,I d.globals.length),(61,I i)],tb (ckR d 0 1 2))) (λi=>d.globals.length - i) hC
  0 ⟨uE _,hE0⟩ id gM ?_
 clear hE0;intro i ⟨hi,J⟩;refine zm T hC true 200 rfl ?_;refine zp rfl ?_ ?_<;>intro h
 ·have hlt:i<d.globals.length:=by simpa using h
  clear h;obtain⟨x,hx⟩:=zb hlt;rw[y4 hx]at J;have hK:=zdS d x.t;have hT:=zrQ d.globals i hlt;cases hw:twB (d.globals.map (·.n)) i with
  |true=>
   rw[hw]at hT J;simp only[uX,uM,uB,orF]at J;subst J
   repeat' first|refine gG ?_|exact gD|refine gB ?_ ?_<;>intro h|refine gX ?_|refine gC hT ?_|refine zl ?_
   exact zi ⟨.inl rfl,mvL [(5,1076)],_,rfl,.refl _,⟨rfl,rfl,rfl,rfl,uh⟩,rfl,rfl⟩
  |false=>
   rw[hw]at hT J;simp only[uX,uM,uB,orF]at J;cases hk:yQ d x.t with
   |false=>
    rw[hk]at hK J;simp only[uX,uM,uB,orF]at J;subst J
    repeat' first|refine gG ?_|exact gD|refine gB ?_ ?_<;>intro h|refine gX ?_|refine gC hT ?_|refine gR hK (nm [0,1,2]) ?_|refine zl ?_
    exact zi ⟨.inl rfl,mvL [(5,1085)],_,rfl,.refl _,⟨rfl,rfl,rfl,rfl,uh⟩,rfl,rfl⟩
   |true=>
    rw[hk]at hK J;simp only[qz,uM,orF]at J
    repeat' first|refine gG ?_|exact gD|refine gB ?_ ?_<;>intro h|refine gX ?_|refine gC hT ?_|refine gR hK (nm [0,1,2]) ?_
    rw[wR ua];exact zh (i+1) ⟨ua,J⟩ id ua gM
 have U: ¬i<d.globals.length:=by simpa using h
 clear h;rw[yG U]at J;subst J;clear hi U
 repeat' first|refine gG ?_|refine gB ?_ ?_<;>intro h|refine ze ?_
 exact gE
def zoI(d:zg)(hd:vl d):zr6 121 d (zfe d):=by
 show zf _ _ _ _ _ _;unfold zfe;generalize hA0:firstF (λ(p:Pr) i=>if twB (d.procs.map (·.n)) i=true then some (p.n, -1,10)else if zaS d (p.params++p.locs)=0 then(if ¬p.res=(⟨#[]⟩:UB)/\yQ d p.res=false then some (p.n, -1,9)else none)else some (p.n, -1,zaS d (p.params++p.locs))) d.procs 0=A;refine gO T Tryz.func121 λC hC=>?_;have q1:=hd.pr
 repeat' first|refine gG ?_|refine gB ?_ ?_<;>intro h
 rw[uk]
 refine zn (λi:Nat=>i<=d.procs.length/\firstF (λ(p:Pr) i=>if twB (d.procs.map (·.n)) i=true then some (p.n, -1,10)else if zaS d (p.params++p.locs)=0 then(if ¬p.res=(⟨#[]⟩:UB)/\yQ d p.res=false then some (p.n, -1,9)else none)else some (p.n, -1,zaS d (p.params++p.locs))) (d.procs.drop i) i=A) (λi=>([(0,.one (.bx 0 0)),(10,pS (.sl 5 (d.procs.map zJ))),(11,I d.procs.length),(12,I i)],tb (ckR d 0 1 2))) (λi=>d.procs.length - i) hC
  0 ⟨uE _,hA0⟩ id gM ?_
 clear hA0;intro i ⟨hi,J⟩;refine zm T hC true 200 rfl ?_;refine zp rfl ?_ ?_<;>intro h
 ·have hlt:i<d.procs.length:=by simpa using h
  clear h;obtain⟨x,hx⟩:=zb hlt;rw[y4 hx]at J;have p1:=hd.prp x (uv hx);have p2:=hd.prl x (uv hx);have hK:=zdS d x.res;have U:=zc1 x.params x.locs p1 p2;have hF:=zfj d (x.params++x.locs) (by rw[uP];omega);have hT:=zrR d.procs i hlt;cases hw:twB (d.procs.map (·.n)) i with
  |true=>
   rw[hw]at hT J;simp only[uX,uM,uB,orF]at J;subst J
   repeat' first|refine gG ?_|exact gD|refine gB ?_ ?_<;>intro h|refine gX ?_|refine gC hT ?_|refine zl ?_
   exact zi ⟨.inl rfl,mvL [(5,1027)],_,rfl,.refl _,⟨rfl,rfl,rfl,rfl,uh⟩,rfl,rfl⟩
  |false=>
   rw[hw]at hT J;simp only[uX,uM,uB,orF]at J;by_cases hz:zaS d (x.params++x.locs)=0
   ·rw[uw hz]at J;rw[hz]at hF;by_cases hy:x.res=(⟨#[]⟩:UB)
    ·rw[ur (by simp[hy])]at J;simp only[orF]at J
     repeat' first|refine gG ?_|exact gD|(exfalso;simp[hy]at h;done)|refine gB ?_ ?_<;>intro h|refine gX ?_|refine gC hT ?_|(refine gH T [[zC x.params],[zC x.locs]] ?_)|refine gC U ?_|refine gR hF (nm [0,1,2]) ?_|refine gR hK (nm [0,1,2]) ?_
     rw[wR ua];exact zh (i+1) ⟨ua,J⟩ id ua gM
    ·cases hk:yQ d x.res with
     |false=>
      rw[hk]at hK J;rw[uw ⟨hy,rfl⟩]at J;simp only[orF]at J;subst J
      repeat' first|refine gG ?_|exact gD|(exfalso;simp[hy]at h;done)|refine gB ?_ ?_<;>intro h|refine gX ?_|refine gC hT ?_|(refine gH T [[zC x.params],[zC x.locs]] ?_)|refine gC U ?_|refine gR hF (nm [0,1,2]) ?_|refine gR hK (nm [0,1,2]) ?_|refine zl ?_
      exact zi ⟨.inl rfl,mvL [(5,1056)],_,rfl,.refl _,⟨rfl,rfl,rfl,rfl,uh⟩,rfl,rfl⟩
     |true=>
      rw[hk]at hK J;rw[ur ue]at J;simp only[orF]at J
      repeat' first|refine gG ?_|exact gD|(exfalso;simp[hy]at h;done)|refine gB ?_ ?_<;>intro h|refine gX ?_|refine gC hT ?_|(refine gH T [[zC x.params],[zC x.locs]] ?_)|refine gC U ?_|refine gR hF (nm [0,1,2]) ?_|refine gR hK (nm [0,1,2]) ?_
      rw[wR ua];exact zh (i+1) ⟨ua,J⟩ id ua gM
   ·rw[ur hz]at J;simp only[orF]at J;subst J
    repeat' first|refine gG ?_|exact gD|(exfalso;simp[hz]at h;done)|refine gB ?_ ?_<;>intro h|refine gX ?_|refine gC hT ?_|(refine gH T [[zC x.params],[zC x.locs]] ?_)|refine gC U ?_|refine gR hF (nm [0,1,2]) ?_|refine gR hK (nm [0,1,2]) ?_|refine zl ?_
    exact zi ⟨.inl rfl,mvL [(5,1042)],_,rfl,.refl _,⟨rfl,rfl,rfl,rfl,uh⟩,rfl,rfl⟩
 have hge: ¬i<d.procs.length:=by simpa using h
 clear h;rw[yG hge]at J;subst J;clear hi hge
 repeat' first|refine gG ?_|refine gB ?_ ?_<;>intro h|refine ze ?_
 exact gE
def zgS(d:zg)(hd:vl d):zr6 122 d (zdN d):=by
 show zf _ _ _ _ _ _;unfold zdN;generalize hA0:firstF (λ(m:Ms) i=>if twB (d.measures.map (·.n)) i=true then some (m.n, -1,10)else if yK d m.t=false then some (m.n, -1,9)else none) d.measures 0=A;generalize hB0:firstF (λ(m:Iv) i=>if twB (d.invs.map (·.n)) i=true then some (m.n, -1,10)else if ¬m.t=(⟨#[]⟩:UB)/\yK d m.t=false then some (m.n, -1,9)else none) d.invs 0=B;generalize hE0:firstF (λ(m:Pt) _=>if ¬m.t=(⟨#[]⟩:UB)/\yK d m.t=false then some ((⟨#[112,111,116,101,110,116,105,97,108]⟩:UB), -1,9)else none) d.pots 0=E;generalize hG0:firstF (λ(b:Bd) i=>if(zeu d b.p).isSome=false then some (b.p, -1,9)else if twB (d.bounds.map (·.p)) i=true then some (b.p, -1,10)else none) d.bounds 0=G;refine gO T Tryz.func122 λC hC=>?_;have q1:=hd.ms;have q2:=hd.iv;have q3:=hd.pt;have q4:=hd.bd
 repeat' first|refine gG ?_|refine gB ?_ ?_<;>intro h
 rw[uk]
 refine zn (λi:Nat=>i<=d.measures.length/\firstF (λ(m:Ms) i=>if twB (d.measures.map (·.n)) i=true then some (m.n, -1,10)else if yK d m.t=false then some (m.n, -1,9)else none) (d.measures.drop i) i=A) (λi=>([(0,.one (.bx 0 0)),(17,pS (.sl 7 (d.measures.map yI))),(18,I d.measures.length),(19,I i)],tb (ckR d 0 1 2))) (λi=>d.measures.length - i) hC
  0 ⟨uE _,hA0⟩ id gM ?_
 clear hA0;intro i ⟨hi,J⟩;refine zm T hC true 200 rfl ?_;refine zp rfl ?_ ?_<;>intro h
 ·have hlt:i<d.measures.length:=by simpa using h
  clear h;obtain⟨x,hx⟩:=zb hlt;rw[y4 hx]at J;have hK:=jV d x.t;have hT:=zrS d.measures i hlt;cases hw:twB (d.measures.map (·.n)) i with
  |true=>
   rw[hw]at hT J;simp only[uX,uM,uB,orF]at J;subst J
   repeat' first|refine gG ?_|exact gD|refine gB ?_ ?_<;>intro h|refine gX ?_|refine gC hT ?_|refine zl ?_
   exact zi ⟨.inl rfl,mvL [(5,1034)],_,rfl,.refl _,⟨rfl,rfl,rfl,rfl,uh⟩,rfl,rfl⟩
  |false=>
   rw[hw]at hT J;simp only[uX,uM,uB,orF]at J;cases hk:yK d x.t with
   |false=>
    rw[hk]at hK J;simp only[uX,uM,uB,orF]at J;subst J
    repeat' first|refine gG ?_|exact gD|refine gB ?_ ?_<;>intro h|refine gX ?_|refine gC hT ?_|refine gR hK (nm [0,1,2]) ?_|refine zl ?_
    exact zi ⟨.inl rfl,mvL [(5,1043)],_,rfl,.refl _,⟨rfl,rfl,rfl,rfl,uh⟩,rfl,rfl⟩
   |true=>
    rw[hk]at hK J;simp only[qz,uM,orF]at J
    repeat' first|refine gG ?_|exact gD|refine gB ?_ ?_<;>intro h|refine gX ?_|refine gC hT ?_|refine gR hK (nm [0,1,2]) ?_
    rw[wR ua];exact zh (i+1) ⟨ua,J⟩ id ua gM
 have U: ¬i<d.measures.length:=by simpa using h
 clear h;rw[yG U]at J;subst J;clear hi U
 repeat' first|refine gG ?_|refine gB ?_ ?_<;>intro h|refine ze ?_
 rw[uk]
 refine zn (λi:Nat=>i<=d.invs.length/\firstF (λ(m:Iv) i=>if twB (d.invs.map (·.n)) i=true then some (m.n, -1,10)else if ¬m.t=(⟨#[]⟩:UB)/\yK d m.t=false then some (m.n, -1,9)else none) (d.invs.drop i) i=B) (λi=>([(0,.one (.bx 0 0)),(49,pS (.sl 6 (d.invs.map zpJ))),(50,I d.invs.length),(51,I i)],tb (ckR d 0 1 2))) (λi=>d.invs.length - i) hC
  0 ⟨uE _,hB0⟩ id gM ?_
 clear hB0;intro i ⟨hi,J⟩;refine zm T hC true 200 rfl ?_;refine zp rfl ?_ ?_<;>intro h
 ·have hlt:i<d.invs.length:=by simpa using h
  clear h;obtain⟨x,hx⟩:=zb hlt;rw[y4 hx]at J;have hK:=jV d x.t;have hT:=zrT d.invs i hlt;cases hw:twB (d.invs.map (·.n)) i with
  |true=>
   rw[hw]at hT J;simp only[uX,uM,uB,orF]at J;subst J
   repeat' first|refine gG ?_|exact gD|refine gB ?_ ?_<;>intro h|refine gX ?_|refine gC hT ?_|refine zl ?_
   exact zi ⟨.inl rfl,mvL [(5,1066)],_,rfl,.refl _,⟨rfl,rfl,rfl,rfl,uh⟩,rfl,rfl⟩
  |false=>
   rw[hw]at hT J;simp only[uX,uM,uB,orF]at J;by_cases hy:x.t=(⟨#[]⟩:UB)
   ·rw[ur (by simp[hy])]at J;simp only[orF]at J
    repeat' first|refine gG ?_|exact gD|(exfalso;simp[hy]at h;done)|refine gB ?_ ?_<;>intro h|refine gX ?_|refine gC hT ?_|refine gR hK (nm [0,1,2]) ?_
    rw[wR ua];exact zh (i+1) ⟨ua,J⟩ id ua gM
   ·cases hk:yK d x.t with
    |false=>
     rw[hk]at hK J;rw[uw ⟨hy,rfl⟩]at J;simp only[orF]at J;subst J
     repeat' first|refine gG ?_|exact gD|(exfalso;simp[hy]at h;done)|refine gB ?_ ?_<;>intro h|refine gX ?_|refine gC hT ?_|refine gR hK (nm [0,1,2]) ?_|refine zl ?_
     exact zi ⟨.inl rfl,mvL [(5,1080)],_,rfl,.refl _,⟨rfl,rfl,rfl,rfl,uh⟩,rfl,rfl⟩
    |true=>
     rw[hk]at hK J;rw[ur ue]at J;simp only[orF]at J
     repeat' first|refine gG ?_|exact gD|(exfalso;simp[hy]at h;done)|refine gB ?_ ?_<;>intro h|refine gX ?_|refine gC hT ?_|refine gR hK (nm [0,1,2]) ?_
     rw[wR ua];exact zh (i+1) ⟨ua,J⟩ id ua gM
 have U: ¬i<d.invs.length:=by simpa using h
 clear h;rw[yG U]at J;subst J;clear hi U
 repeat' first|refine gG ?_|refine gB ?_ ?_<;>intro h|refine ze ?_
 rw[uk]
 refine zn (λi:Nat=>i<=d.pots.length/\firstF (λ(m:Pt) _=>if ¬m.t=(⟨#[]⟩:UB)/\yK d m.t=false then some ((⟨#[112,111,116,101,110,116,105,97,108]⟩:UB), -1,9)else none) (d.pots.drop i) i=E) (λi=>([(0,.one (.bx 0 0)),(86,pS (.sl 5 (d.pots.map zhB))),(87,I d.pots.length),(88,I i)],tb (ckR d 0 1 2))) (λi=>d.pots.length - i) hC
  0 ⟨uE _,hE0⟩ id gM ?_
 clear hE0;intro i ⟨hi,J⟩;refine zm T hC true 200 rfl ?_;refine zp rfl ?_ ?_<;>intro h
 ·have hlt:i<d.pots.length:=by simpa using h
  clear h;obtain⟨x,hx⟩:=zb hlt;rw[y4 hx]at J;have hK:=jV d x.t;by_cases hy:x.t=(⟨#[]⟩:UB)
  ·rw[ur (by simp[hy])]at J;simp only[orF]at J
   repeat' first|refine gG ?_|exact gD|(exfalso;simp[hy]at h;done)|refine gB ?_ ?_<;>intro h|refine gX ?_|refine gR hK (nm [0,1,2]) ?_
   rw[wR ua];exact zh (i+1) ⟨ua,J⟩ id ua gM
  ·cases hk:yK d x.t with
   |false=>
    rw[hk]at hK J;rw[uw ⟨hy,rfl⟩]at J;simp only[orF]at J;subst J
    repeat' first|refine gG ?_|exact gD|(exfalso;simp[hy]at h;done)|refine gB ?_ ?_<;>intro h|refine gX ?_|refine gR hK (nm [0,1,2]) ?_|refine zl ?_
    exact zi ⟨.inl rfl,mvL [(5,1103)],_,rfl,.refl _,⟨rfl,rfl,rfl,rfl,uh⟩,rfl,rfl⟩
   |true=>
    rw[hk]at hK J;rw[ur ue]at J;simp only[orF]at J
    repeat' first|refine gG ?_|exact gD|(exfalso;simp[hy]at h;done)|refine gB ?_ ?_<;>intro h|refine gX ?_|refine gR hK (nm [0,1,2]) ?_
    rw[wR ua];exact zh (i+1) ⟨ua,J⟩ id ua gM
 have U: ¬i<d.pots.length:=by simpa using h
 clear h;rw[yG U]at J;subst J;clear hi U
 repeat' first|refine gG ?_|refine gB ?_ ?_<;>intro h|refine ze ?_
 rw[uk]
 refine zn (λi:Nat=>i<=d.bounds.length/\firstF (λ(b:Bd) i=>if(zeu d b.p).isSome=false then some (b.p, -1,9)else if twB (d.bounds.map (·.p)) i=true then some (b.p, -1,10)else none) (d.bounds.drop i) i=G) (λi=>([(0,.one (.bx 0 0)),(109,pS (.sl 5 (d.bounds.map wm))),(110,I d.bounds.length),(111,I i)],tb (ckR d 0 1 2))) (λi=>d.bounds.length - i) hC
  0 ⟨uE _,hG0⟩ id gM ?_
 clear hG0;intro i ⟨hi,J⟩;refine zm T hC true 200 rfl ?_;refine zp rfl ?_ ?_<;>intro h
 ·have hlt:i<d.bounds.length:=by simpa using h
  clear h;obtain⟨x,hx⟩:=zb hlt;rw[y4 hx]at J;have hT:=zrU d.bounds i hlt;have hg:=zdR d x.p;cases hpr:zeu d x.p with
  |none=>
   rw[hpr]at hg J;simp only[Option.isSome,uX,orF]at J;subst J
   repeat' first|refine gG ?_|exact gD|refine gB ?_ ?_<;>intro h|refine gX ?_|refine gC hT ?_|(refine yz (et:=90) kS hC (c0:= .agg #[.string (⟨#[]⟩:UB),.slice none 0 0,.string (⟨#[]⟩:UB),.slice none 0 0,.slice none 0 0]) (.g [ks (⟨#[]⟩:UB),.k (.slice none 0 0),ks (⟨#[]⟩:UB),.k (.slice none 0 0),.k (.slice none 0 0)]) (pv:= .g [ks (⟨#[]⟩:UB),.k (.slice none 0 0),ks (⟨#[]⟩:UB),.k (.slice none 0 0),.k (.slice none 0 0)]) (b:=false) rfl rfl rfl ud ud zbb (by rw[hg];rfl) (by rw[hg];rfl) rfl rfl ?_)|refine zl ?_
   exact zi ⟨.inl rfl,mvL [(5,1131)],_,rfl,.refl _,⟨rfl,rfl,rfl,rfl,uh⟩,rfl,rfl⟩
  |some p=>
   rw[hpr]at hg J;simp only[Option.isSome,qz,uM]at J;cases hw:twB (d.bounds.map (·.p)) i with
   |true=>
    rw[hw]at hT J;simp only[uX,uM,uB,orF]at J;subst J
    repeat' first|refine gG ?_|exact gD|refine gB ?_ ?_<;>intro h|refine gX ?_|refine gC hT ?_|(refine yz (et:=90) kS hC (c0:= .agg #[.string (⟨#[]⟩:UB),.slice none 0 0,.string (⟨#[]⟩:UB),.slice none 0 0,.slice none 0 0]) (.g [ks (⟨#[]⟩:UB),.k (.slice none 0 0),ks (⟨#[]⟩:UB),.k (.slice none 0 0),.k (.slice none 0 0)]) (pv:= .g (zJ p)) (b:=true) rfl rfl rfl ud ud zbb (by rw[hg];rfl) (by rw[hg];rfl) rfl rfl ?_)|refine zl ?_
    exact zi ⟨.inl rfl,mvL [(5,1142)],_,rfl,.refl _,⟨rfl,rfl,rfl,rfl,uh⟩,rfl,rfl⟩
   |false=>
    rw[hw]at hT J;simp only[uX,uM,uB,orF]at J
    repeat' first|refine gG ?_|exact gD|refine gB ?_ ?_<;>intro h|refine gX ?_|refine gC hT ?_|(refine yz (et:=90) kS hC (c0:= .agg #[.string (⟨#[]⟩:UB),.slice none 0 0,.string (⟨#[]⟩:UB),.slice none 0 0,.slice none 0 0]) (.g [ks (⟨#[]⟩:UB),.k (.slice none 0 0),ks (⟨#[]⟩:UB),.k (.slice none 0 0),.k (.slice none 0 0)]) (pv:= .g (zJ p)) (b:=true) rfl rfl rfl ud ud zbb (by rw[hg];rfl) (by rw[hg];rfl) rfl rfl ?_)
    rw[wR ua];exact zh (i+1) ⟨ua,J⟩ id ua gM
 have U: ¬i<d.bounds.length:=by simpa using h
 clear h;rw[yG U]at J;subst J;clear hi U
 repeat' first|refine gG ?_|refine gB ?_ ?_<;>intro h|refine ze ?_
 exact gE
def zgT(d:zg)(p:Pr):wq (vsM [p.params,p.locs] d.globals) (zjZ d p):=by
 have:=zlC [p.params,p.locs] d.globals;simpa [zjZ]using this
def zfq(d:zg)(p:Pr):wq (vsM [p.params] d.globals) (p.params++d.globals):=by
 have:=zlC [p.params] d.globals;simpa using this
def vl.zv0(J:vl d): ∀p∈d.procs,p.params.length<=1099511627776:=λp U=>by have:=J.prp p U;omega
def vl.zwI(J:vl d): ∀x∈d.types,x.f.length<=1099511627776:=λp U=>by have:=J.tyf p U;omega
def zbw(hd:vl d){vs:List Fld}{V:List (Str×EV)}(hV:wq V vs)(s:Str)(e:Ex)(w:Str)(hg:exG e):
 zf Tryz.prog 178 [scS false 0 3,Sr s,zr (yp e),Sr w] (scL d V) (ftS (y5 d vs s e w)) (scL d V++ftR (y5 d vs s e w)):=by
 have J:=zbv false hd.zv0 hV hd.zwI e hg;have J:zf _ _ _ _ _ _:=J;unfold y5;generalize exT d vs false e=q at J⊢;obtain⟨t,f⟩:=q;simp only at J⊢;by_cases U:f=0
 ·rw[uw U];by_cases ht:t=w
  ·rw[uw ht];refine gO T Tryz.func178 λC hC=>?_
   repeat' first|refine gG ?_|(exfalso;simp[U]at h;done)|(exfalso;simp[ht]at h;done)|refine gB ?_ ?_<;>intro h|refine gR J (nm [0,1,2,3]) ?_|refine ze ?_
   exact gE
  ·rw[ur ht];refine gO T Tryz.func178 λC hC=>?_
   repeat' first|refine gG ?_|(exfalso;simp[U]at h;done)|(exfalso;simp[ht]at h;done)|refine gB ?_ ?_<;>intro h|refine gR J (nm [0,1,2,3]) ?_|refine ze ?_
   exact zi ⟨.inl rfl,mvL [(5,1030)],_,rfl,.refl _,⟨rfl,rfl,rfl,rfl,rfl,uh⟩,rfl,rfl⟩
 ·rw[ur U];refine gO T Tryz.func178 λC hC=>?_
  repeat' first|refine gG ?_|(exfalso;simp[U]at h;done)|refine gB ?_ ?_<;>intro h|refine gR J (nm [0,1,2,3]) ?_|refine ze ?_
  exact zi ⟨.inl rfl,mvL [(5,1023)],_,rfl,.refl _,⟨rfl,rfl,rfl,rfl,rfl,uh⟩,rfl,rfl⟩
def zlM(d:zg)(U:vl d):zr6 123 d (zcc d):=by
 show zf _ _ _ _ _ _;unfold zcc;generalize hA0:firstF (λ(p:Pr) _=>if(smsT d (zjZ d p) p.res p.body 0).1.2=0 then none else some (p.n,(smsT d (zjZ d p) p.res p.body 0).1.1,(smsT d (zjZ d p) p.res p.body 0).1.2)) d.procs 0=A;refine gO T Tryz.func123 λC hC=>?_;have q1:=U.pr
 repeat' first|refine gG ?_|refine gB ?_ ?_<;>intro h
 rw[uk]
 refine zn (λi:Nat=>i<=d.procs.length/\firstF (λ(p:Pr) _=>if(smsT d (zjZ d p) p.res p.body 0).1.2=0 then none else some (p.n,(smsT d (zjZ d p) p.res p.body 0).1.1,(smsT d (zjZ d p) p.res p.body 0).1.2)) (d.procs.drop i) i=A) (λi=>([(0,.one (.bx 0 0)),(12,pS (.sl 5 (d.procs.map zJ))),(13,I d.procs.length),(14,I i)],tb (ckR d 0 1 2))) (λi=>d.procs.length - i) hC
  0 ⟨uE _,hA0⟩ id gM ?_
 clear hA0;intro i ⟨hi,J⟩;refine zm T hC true 200 rfl ?_;refine zp rfl ?_ ?_<;>intro h
 ·have hlt:i<d.procs.length:=by simpa using h
  clear h;obtain⟨x,hx⟩:=zb hlt;rw[y4 hx]at J;have hm:=uv hx;have hP:=zlE d x (by have:=U.gl;omega) (by have:=U.prp x hm;omega) (by have:=U.prl x hm;omega);have hS:=zfp U.zv0 (zgT d x) U.zwI x.res _ x.body 0 (uJ _) (U.prs x hm) (U.prb x hm) ua (by have:=U.prc x hm;omega);have hS:zf _ _ _ _ _ _:=hS;generalize smsT d (zjZ d x) x.res x.body 0=q at hS J;by_cases h0:q.1.2=0
  ·rw[uw h0]at J;simp only[orF]at J
   repeat' first|refine gG ?_|(exfalso;simp[h0]at h;done)|refine gB ?_ ?_<;>intro h|refine gX ?_|refine gR hP (nm [0,1,2,103]) ?_|refine gR hS (nm [0,1,2,103,1005]) ?_
   rw[wR ua];exact zh (i+1) ⟨ua,J⟩ id ua gM
  ·rw[ur h0]at J;simp only[orF]at J;subst J
   repeat' first|refine gG ?_|(exfalso;simp[h0]at h;done)|refine gB ?_ ?_<;>intro h|refine gX ?_|refine gR hP (nm [0,1,2,103]) ?_|refine gR hS (nm [0,1,2,103,1005]) ?_|refine zl ?_
   exact zi ⟨.inl rfl,mvL [(5,1036)],_,rfl,.refl _,⟨rfl,rfl,rfl,rfl,uh⟩,rfl,rfl⟩
 have hge: ¬i<d.procs.length:=by simpa using h
 clear h;rw[yG hge]at J;subst J
 repeat' first|refine gG ?_|refine gB ?_ ?_<;>intro h|refine ze ?_
 exact gE
end Hw.Gm
namespace Hw
open Go
variable {P:Program}{af:Array Edge}{d:Option Nat}{g:Option (Nat×Bool)}{ps:String}{t:TypeId}{x:Operand}
section
variable {ty:TypeId} {y:Operand}
def zlN{id' e bytes:Nat}{rows2:List (List PV)}{sy:S}{rt2:RL}{tx el:TypeId}{z:List V}(hx:okc x (.one (.p (.k (.slice none 0 0)))))(hy:okc y sy)(hs:zcH P e tx sy rt2 rows2)
 (he:elemSz P t=some (el,e)) (hz:zeroV P el=some z) (hzl:z.length=e) (hby:(P.info? el).map (·.bytes)=some bytes) (hb:rows2.length*bytes<=140737488355328) (hlen:rows2.length<=9223372036854775807):
 Snd P ⟨d,.call ⟨.builtin .append,#[x,y],#[t,tx]⟩,ty,ps,af,g⟩ (rq x (.one (.p (.k (.slice none 0 0))))++rq y sy) rt2 [id'] (.one (.ar id')) [(id',some (.arr e rows2))]:=by
 intro C st M ρ a w hH h1 hT hF hd k Q hk;rw[za]at h1;have e1:=hH.evS (zt hx h1.1);have e2:=hH.evS (zt hy h1.2);simp only[RepS,RepV,RepPV]at e1;obtain⟨ii,hu,hinf,hsz⟩:=zw he;obtain⟨news,hsrc,hnews,hlen2⟩:=hs C st M ρ a w _ hH e2 hT;obtain⟨i',zv,hi',hzv,hzs⟩:=xu hz;rw[hinf]at hi';simp only[ui]at hi';subst hi';rw[hinf]at hby;simp only[uH,ui]at hby;have hnl:news.length=rows2.length*e:=hsrc.newsLen
 have hcall:execOp a.eval ⟨d,.call ⟨.builtin .append,#[x,y],#[t,tx]⟩,ty,ps,af,g⟩=(do pure (.value (<-Builtin.append_ #[t,tx] ty #[a.eval x,a.eval y]))):=by
  simp[execOp,resolve,invoke,builtin]
 have fin: ∀ {val:Value} {w':World},(Builtin.append_ #[t,tx] ty #[a.eval x,a.eval y]).run P w= .ok val w'->
  (∀b',b'<w.heap.size->w'.heap[b']?=w.heap[b']?)->w.heap.size<=w'.heap.size->w'.os=w.os->w'.tape=w.tape->w'.output=w.output->
  (∀b',Bk val b'->w.heap.size<=b')->zF M (upd ρ id' val) w' id' (.arr e rows2)->val.oneCell'=true->
  Oper.wp P ⟨d,.call ⟨.builtin .append,#[x,y],#[t,tx]⟩,ty,ps,af,g⟩ a w k Q:=λ{val w'} J g1 g2 g3 g4 g5 g6 g7 g8=>by
  unfold Oper.wp;rw[hcall];simp only[Sem.run_bind,J,Result.andThen_ok,Sem.run_pure,Oper.upon_value];exact hk _ _ _ _ (hH.step none (λb' U _=>g1 b' U) g2 g3 g4 g5 (λb' U=> .inl (g6 b' U)) hF.1 g7 (by simp only[RepS,RepV];exact⟨(zx _ _ _).symm,g8⟩) hd)
 have hex:a.eval x= .slice none 0 0:=e1.1;rcases qK rows2.length with h0|h0
 ·have e3:rows2=[]:=tc.1 h0;subst e3;have hn0:news=[]:=tr (by simpa using hnl);subst hn0
  have J:(Builtin.append_ #[t,tx] ty #[a.eval x,a.eval y]).run P w= .ok (.slice none 0 0) w:=by
   rw[hex];have hl:(Builtin.lenOf (a.eval y)).run P w= .ok 0 w:=hsrc.len w;have hc:(Builtin.firstCells e 0 (a.eval y)).run P w= .ok #[] w:=hsrc.cells;rcases hsrc.kind with⟨e',hk'⟩|hk'<;>simp[Builtin.append_,run_underlying hu,run_underlying hk',Go.sizeOf,typeInfo,hinf,hl,hsz,hc]
  exact fin J (λ_ _=>rfl) (uJ _) rfl rfl rfl (λb' U=>by simp[Bk,blk]at U) ⟨none,0,by rw[zx];rfl,ue,ue,.inl ⟨rfl,rfl⟩⟩ rfl
 ·have J:=run_append_grow_src (P:=P) w t tx ty el ii zv hu hinf hzv none 0 0 [] (run_firstCells_none w.drew _ _ _ _) (a.eval y) rows2.length news (by rw[hsz];exact hsrc) ua ua (growslice_fits ua (by rw[hby,tM];exact hb));rw[<-hex,tM]at J;have hcap:=grownCap_ge w rows2.length 0 el
  refine fin J (λb' U=>yi w.drew _ b' U) ue rfl rfl rfl (λb' U=>?_) ⟨some ⟨w.heap.size,0,none⟩,grownCap w rows2.length 0 el,by rw[zx],hcap,(by have:=grownCap_le_maxLen w rows2.length 0 el (by unfold maxLen;omega);unfold maxLen at this;omega),.inr
   ⟨w.heap.size,0,_,el,(0,0),rfl,zT w.drew _,λi _=>by simp,?_,?_⟩⟩ rfl
  ·simp only[Bk,blk,ui]at U;omega
  ·simp only[og,qp,tR,size_zeroCells,hzs,hzl,hnl,tM];rw[<-qd]
   simp_all
  ·refine RowsIn.yv (ρ:=ρ) (cs:=news) hlen2 hnews λj c hj=>?_
   grind
end
variable {C:Ctx}{Q:Exit->St->Prop}{all:Array Oper}{rest:List Oper}{tab:Tab}
variable {b:Bool}{te:TypeId}
section
variable {ty:TypeId} {t':TypeId}
def zoJ(w:World)(J:P.underlying t=some (.pointer te))(a:Option Addr):(binOp .neq t (.pointer a) (.pointer none)).run P w= .ok (.bool (!a.isNone)) w:=by
 have h: ∀d:Nat,(Op.equalIn (d+1) t (.pointer a) (.pointer none)).run P w= .ok a.isNone w:=λd=>by
  cases a<;>simp[Op.equalIn,run_underlying J]
 simp only[binOp];simp[Op.equal,Op.maxDepth,h 9999]
def ptrB:S->Option Bool
 | .one (.bx _ _)=>some false
 | .one (.p (.k (.pointer none)))=>some true
 |_=>none
def zr7{st:St}{M:Mem}{ρ:Nat->Value}{a:Act}{w:World}{s:S}{v:Value}(hH:Holds C st M ρ a w)(J:ptrB s=some b)(U:RepS M ρ s v): ∃q:Option Addr,v= .pointer q/\q.isNone=b:=by
 unfold ptrB at J;split at J
 ·simp only[RepS,RepV]at U
  grind
 ·simp only[RepS,RepV,RepPV]at U
  simp_all
 ·cases J
def zuD{s:S}(U:okc x s)(hs:ptrB s=some b)(hp:P.underlying t=some (.pointer te)):
 Snd P ⟨d,.binOp .neq t x (.const (.pointer none)) t',ty,ps,af,g⟩ (rq x s) [] [] (Bo (!b)) []:=
 zk λC st M ρ a w J h1 _=>by
  obtain⟨q,e1,rfl⟩:=zr7 J hs (J.evS (zt U h1));have hc:a.eval (.const (.pointer none))= .pointer none:=rfl;have hg:(eqGuard .neq t x (.const (.pointer none)) (.pointer q) (.pointer none)).run P w= .ok () w:=by cases q<;>rfl
  exact⟨.bool (!q.isNone),by simp only[execOp,e1,hc,Sem.run_bind,hg,zoJ w hp,Result.andThen_ok,Sem.run_pure],by simp only[RepS,RepV,RepPV];exact⟨uh,rfl⟩⟩
end
section
variable {k:List Frm} {n:Nat} {sl:zd}
def y6{d:Nat}{t' ty:TypeId}{g0:Option (Nat×Bool)}{gs:zd}{md:Mode}(hC:C.low){s:S}(J:ev sl x=some s)(U:ptrB s=some b)(hp:P.underlying t=some (.pointer te))(hm:metL all sl g0=some gs)(hd:Nat.blt d n=true)
 (g:Goal P C (.ops all rest (nx md ⟨some d,gs++rq x s,[],[],Bo (!b),[]⟩)) k n ((d,Bo (!b))::sl) tab Q):
 Goal P C (.ops all (⟨some d,.binOp .neq t x (.const (.pointer none)) t',ty,ps,af,g0⟩::rest) md) k n sl tab Q:=by
 have e1:=zu (st:=⟨n,sl,tab⟩) J;have:=zj hm (zuD (P:=P) (ty:=ty) (ps:=ps) (af:=af) (g:=g0) (d:=some d) (t':=t') e1.1 U hp) (n:=n) (tab:=tab);exact zN (L:=⟨some d,gs++rq x s,[],[],Bo (!b),[]⟩) hC this.1 rfl ⟨by rw[za];simp_all,trivial,rfl,hd⟩ g
end
end Hw
namespace Hw.Gm
open Go Go.Proofs Hw.M Ps
theorem zjt{d:zg}(h:zdN d=none): ∀(i:Nat) (b:Bd),d.bounds[i]?=some b-> ∃p,zeu d b.p=some p:=by
 unfold zdN at h;have orN: ∀ {a b:Ft},orF a b=none->a=none/\b=none:=λ{a b} h=>by cases a<;>simp_all[orF]
 have h4:=(orN (orN (orN h).2).2).2
 have key: ∀(l:List Bd) (k:Nat),firstF (λ(b:Bd) i=>if(zeu d b.p).isSome=false then some (b.p, -1,9)else if twB (d.bounds.map (·.p)) i=true then some (b.p, -1,10)else none) l k=none-> ∀b∈l,(zeu d b.p).isSome=true:=λl=>by
  induction l with
  |nil=>intro k _ b J;cases J
  |cons x r ih=>
   intro k h b J;simp only[firstF]at h;cases hx:(zeu d x.p).isSome with
   |false=>rw[hx]at h;simp at h
   |true=>
    rcases uI.1 J with rfl|J
    ·exact hx
    ·split at h
     ·cases h
     ·exact ih _ h b J
 intro i b J;have:=key d.bounds 0 h4 b (uv J);cases e:zeu d b.p with
 |none=>rw[e]at this;cases this
 |some p=>exact⟨p,rfl⟩
def zlO(d:zg)(hd:vl d)(hform:zdN d=none):zr6 124 d (zc2 d):=by
 show zf _ _ _ _ _ _;unfold zc2;have q0:d.globals.length<=1099511627776:=by have:=hd.gl;omega
 generalize hA0:firstF (λ(m:Ms) _=>y5 d (zbh d m.t) m.n m.x (⟨#[105,110,116]⟩:UB)) d.measures 0=A;generalize hB0:firstF (λ(m:Iv) _=>y5 d (zbh d m.t) m.n m.x (⟨#[98,111,111,108]⟩:UB)) d.invs 0=B;generalize hE0:firstF (λ(m:Pt) _=>y5 d (zbh d m.t) (⟨#[112,111,116,101,110,116,105,97,108]⟩:UB) m.x (⟨#[105,110,116]⟩:UB)) d.pots 0=E;generalize hG0:firstF (λ(b:Bd) _=>y5 d (zp4 d b.p) b.p b.x (⟨#[105,110,116]⟩:UB)) d.bounds 0=G;refine gO T Tryz.func124 λC hC=>?_;have q1:=hd.ms;have q2:=hd.iv;have q3:=hd.pt;have q4:=hd.bd
 repeat' first|refine gG ?_|refine gB ?_ ?_<;>intro h
 rw[uk]
 refine zn (λi:Nat=>i<=d.measures.length/\firstF (λ(m:Ms) _=>y5 d (zbh d m.t) m.n m.x (⟨#[105,110,116]⟩:UB)) (d.measures.drop i) i=A) (λi=>([(0,.one (.bx 0 0)),(19,pS (.sl 7 (d.measures.map yI))),(20,I d.measures.length),(21,I i)],tb (ckR d 0 1 2))) (λi=>d.measures.length - i) hC
  0 ⟨uE _,hA0⟩ id gM ?_
 clear hA0;intro i ⟨hi,J⟩;refine zm T hC true 200 rfl ?_;refine zp rfl ?_ ?_<;>intro h
 ·have hlt:i<d.measures.length:=by simpa using h
  clear h;obtain⟨x,hx⟩:=zb hlt;rw[y4 hx]at J;obtain⟨V,hV,hS⟩:=zaw d x.t q0;have hT:=zbw hd hV x.n x.x (⟨#[105,110,116]⟩:UB) (hd.msx x (uv hx));generalize y5 d (zbh d x.t) x.n x.x (⟨#[105,110,116]⟩:UB)=F at hT J;cases F with
  |none=>
   simp only[ftS,ftR,uV]at hT;simp only[orF]at J
   repeat' first|refine gG ?_|exact gD|refine gB ?_ ?_<;>intro h|refine gX ?_|(refine y6 hC (te:=171) rfl rfl ud rfl rfl ?_)|refine gR hS (nm [0,1,2,103]) ?_|refine gR hT (nm [0,1,2,103]) ?_
   rw[wR ua];exact zh (i+1) ⟨ua,J⟩ id ua gM
  |some f=>
   simp only[ftS,ftR]at hT;simp only[orF]at J;subst J
   repeat' first|refine gG ?_|exact gD|refine gB ?_ ?_<;>intro h|refine gX ?_|(refine y6 hC (te:=171) rfl rfl ud rfl rfl ?_)|refine gR hS (nm [0,1,2,103]) ?_|refine gR hT (nm [0,1,2,103,104,105]) ?_|refine zl ?_
   exact zi ⟨.inl rfl,mvL [(5,105)],_,rfl,.refl _,⟨rfl,rfl,rfl,rfl,uh⟩,rfl,rfl⟩
 have U: ¬i<d.measures.length:=by simpa using h
 clear h;rw[yG U]at J;subst J;clear hi U
 repeat' first|refine gG ?_|refine gB ?_ ?_<;>intro h|refine ze ?_
 rw[uk]
 refine zn (λi:Nat=>i<=d.invs.length/\firstF (λ(m:Iv) _=>y5 d (zbh d m.t) m.n m.x (⟨#[98,111,111,108]⟩:UB)) (d.invs.drop i) i=B) (λi=>([(0,.one (.bx 0 0)),(42,pS (.sl 6 (d.invs.map zpJ))),(43,I d.invs.length),(44,I i)],tb (ckR d 0 1 2))) (λi=>d.invs.length - i) hC
  0 ⟨uE _,hB0⟩ id gM ?_
 clear hB0;intro i ⟨hi,J⟩;refine zm T hC true 200 rfl ?_;refine zp rfl ?_ ?_<;>intro h
 ·have hlt:i<d.invs.length:=by simpa using h
  clear h;obtain⟨x,hx⟩:=zb hlt;rw[y4 hx]at J;obtain⟨V,hV,hS⟩:=zaw d x.t q0;have hT:=zbw hd hV x.n x.x (⟨#[98,111,111,108]⟩:UB) (hd.ivx x (uv hx));generalize y5 d (zbh d x.t) x.n x.x (⟨#[98,111,111,108]⟩:UB)=F at hT J;cases F with
  |none=>
   simp only[ftS,ftR,uV]at hT;simp only[orF]at J
   repeat' first|refine gG ?_|exact gD|refine gB ?_ ?_<;>intro h|refine gX ?_|(refine y6 hC (te:=171) rfl rfl ud rfl rfl ?_)|refine gR hS (nm [0,1,2,103]) ?_|refine gR hT (nm [0,1,2,103]) ?_
   rw[wR ua];exact zh (i+1) ⟨ua,J⟩ id ua gM
  |some f=>
   simp only[ftS,ftR]at hT;simp only[orF]at J;subst J
   repeat' first|refine gG ?_|exact gD|refine gB ?_ ?_<;>intro h|refine gX ?_|(refine y6 hC (te:=171) rfl rfl ud rfl rfl ?_)|refine gR hS (nm [0,1,2,103]) ?_|refine gR hT (nm [0,1,2,103,104,105]) ?_|refine zl ?_
   exact zi ⟨.inl rfl,mvL [(5,105)],_,rfl,.refl _,⟨rfl,rfl,rfl,rfl,uh⟩,rfl,rfl⟩
 have U: ¬i<d.invs.length:=by simpa using h
 clear h;rw[yG U]at J;subst J;clear hi U
 repeat' first|refine gG ?_|refine gB ?_ ?_<;>intro h|refine ze ?_
 rw[uk]
 refine zn (λi:Nat=>i<=d.pots.length/\firstF (λ(m:Pt) _=>y5 d (zbh d m.t) (⟨#[112,111,116,101,110,116,105,97,108]⟩:UB) m.x (⟨#[105,110,116]⟩:UB)) (d.pots.drop i) i=E) (λi=>([(0,.one (.bx 0 0)),(65,pS (.sl 5 (d.pots.map zhB))),(66,I d.pots.length),(67,I i)],tb (ckR d 0 1 2))) (λi=>d.pots.length - i) hC
  0 ⟨uE _,hE0⟩ id gM ?_
 clear hE0;intro i ⟨hi,J⟩;refine zm T hC true 200 rfl ?_;refine zp rfl ?_ ?_<;>intro h
 ·have hlt:i<d.pots.length:=by simpa using h
  clear h;obtain⟨x,hx⟩:=zb hlt;rw[y4 hx]at J;obtain⟨V,hV,hS⟩:=zaw d x.t q0;have hT:=zbw hd hV (⟨#[112,111,116,101,110,116,105,97,108]⟩:UB) x.x (⟨#[105,110,116]⟩:UB) (hd.ptx x (uv hx));generalize y5 d (zbh d x.t) (⟨#[112,111,116,101,110,116,105,97,108]⟩:UB) x.x (⟨#[105,110,116]⟩:UB)=F at hT J;cases F with
  |none=>
   simp only[ftS,ftR,uV]at hT;simp only[orF]at J
   repeat' first|refine gG ?_|exact gD|refine gB ?_ ?_<;>intro h|refine gX ?_|(refine y6 hC (te:=171) rfl rfl ud rfl rfl ?_)|refine gR hS (nm [0,1,2,103]) ?_|refine gR hT (nm [0,1,2,103]) ?_
   rw[wR ua];exact zh (i+1) ⟨ua,J⟩ id ua gM
  |some f=>
   simp only[ftS,ftR]at hT;simp only[orF]at J;subst J
   repeat' first|refine gG ?_|exact gD|refine gB ?_ ?_<;>intro h|refine gX ?_|(refine y6 hC (te:=171) rfl rfl ud rfl rfl ?_)|refine gR hS (nm [0,1,2,103]) ?_|refine gR hT (nm [0,1,2,103,104,105]) ?_|refine zl ?_
   exact zi ⟨.inl rfl,mvL [(5,105)],_,rfl,.refl _,⟨rfl,rfl,rfl,rfl,uh⟩,rfl,rfl⟩
 have U: ¬i<d.pots.length:=by simpa using h
 clear h;rw[yG U]at J;subst J;clear hi U
 repeat' first|refine gG ?_|refine gB ?_ ?_<;>intro h|refine ze ?_
 rw[uk]
 refine zn (λi:Nat=>i<=d.bounds.length/\firstF (λ(b:Bd) _=>y5 d (zp4 d b.p) b.p b.x (⟨#[105,110,116]⟩:UB)) (d.bounds.drop i) i=G) (λi=>([(0,.one (.bx 0 0)),(86,pS (.sl 5 (d.bounds.map wm))),(87,I d.bounds.length),(88,I i)],tb (ckR d 0 1 2))) (λi=>d.bounds.length - i) hC
  0 ⟨uE _,hG0⟩ id gM ?_
 clear hG0;intro i ⟨hi,J⟩;refine zm T hC true 200 rfl ?_;refine zp rfl ?_ ?_<;>intro h
 ·have hlt:i<d.bounds.length:=by simpa using h
  clear h;obtain⟨x,hx⟩:=zb hlt;rw[y4 hx]at J;obtain⟨p,hpr⟩:=zjt hform i x hx;have hg:=zdR d x.p;rw[hpr]at hg;have hV:wq (vsM [p.params] d.globals) (zp4 d x.p):=by unfold zp4;rw[hpr];exact zfq d p
  have hS:=zjr d p q0 (hd.zv0 p (qB hpr));have hT:=zbw hd hV x.p x.x (⟨#[105,110,116]⟩:UB) (hd.bdx x (uv hx));generalize y5 d (zp4 d x.p) x.p x.x (⟨#[105,110,116]⟩:UB)=F at hT J;cases F with
  |none=>
   simp only[ftS,ftR,uV]at hT;simp only[orF]at J
   repeat' first|refine gG ?_|exact gD|refine gB ?_ ?_<;>intro h|refine gX ?_|(refine y6 hC (te:=171) rfl rfl ud rfl rfl ?_)|(refine vo kS hC (et:=90) (c0:= .agg #[.string (⟨#[]⟩:UB),.slice none 0 0,.string (⟨#[]⟩:UB),.slice none 0 0,.slice none 0 0]) (.g [ks (⟨#[]⟩:UB),.k (.slice none 0 0),ks (⟨#[]⟩:UB),.k (.slice none 0 0),.k (.slice none 0 0)]) (pv:= .g (zJ p)) rfl rfl rfl ud ud zbb (by rw[hg];rfl) rfl rfl ?_)|refine gR hS (nm [0,1,2,103]) ?_|refine gR hT (nm [0,1,2,103]) ?_
   rw[wR ua];exact zh (i+1) ⟨ua,J⟩ id ua gM
  |some f=>
   simp only[ftS,ftR]at hT;simp only[orF]at J;subst J
   repeat' first|refine gG ?_|exact gD|refine gB ?_ ?_<;>intro h|refine gX ?_|(refine y6 hC (te:=171) rfl rfl ud rfl rfl ?_)|(refine vo kS hC (et:=90) (c0:= .agg #[.string (⟨#[]⟩:UB),.slice none 0 0,.string (⟨#[]⟩:UB),.slice none 0 0,.slice none 0 0]) (.g [ks (⟨#[]⟩:UB),.k (.slice none 0 0),ks (⟨#[]⟩:UB),.k (.slice none 0 0),.k (.slice none 0 0)]) (pv:= .g (zJ p)) rfl rfl rfl ud ud zbb (by rw[hg];rfl) rfl rfl ?_)|refine gR hS (nm [0,1,2,103]) ?_|refine gR hT (nm [0,1,2,103,104,105]) ?_|refine zl ?_
   exact zi ⟨.inl rfl,mvL [(5,105)],_,rfl,.refl _,⟨rfl,rfl,rfl,rfl,uh⟩,rfl,rfl⟩
 have U: ¬i<d.bounds.length:=by simpa using h
 clear h;rw[yG U]at J;subst J;clear hi U
 repeat' first|refine gG ?_|refine gB ?_ ?_<;>intro h|refine ze ?_
 exact gE
end Hw.Gm
namespace Hw
open Go
theorem jh{M:Mem}{ρ:Nat->Value}{z:V}{v:Value}(h:RepV M ρ z v): ∀n:Nat,RepVs M ρ (List.replicate n z) (List.replicate n v)
 |0=>by simp only[List.replicate,RepVs]
 |n+1=>by simp only[List.replicate,RepVs];exact⟨h,jh h n⟩
variable {P:Program}{af:Array Edge}{el t:TypeId}{f:FuncId}{fs:List V}{i:Int}{k0:IntKind}{ps:String}{ss:List S}{vparts:List (Nat×List V)}{x:Operand}{z0:V}
section
variable {d:Option Nat} {ty:TypeId} {g:Option (Nat×Bool)} {y:Operand}
def zr8{id len:Nat}{l:List (Nat×Operand)}{vs:List V}(hx:zes (l.map (·.2)) ss)(he:elemSz P t=some (el,1))(hz:zeroV P el=some [z0])
 (hv:zipParts (l.map (·.1)) ss=some vparts) (hf:fillV (λi=>some (i*1,1)) (List.replicate len z0) vparts=some vs) (h0:Nat.blt 0 len=true) (hb:Nat.ble len 16777216=true) (hm:mentVs id vs=false):
 Snd P ⟨d,.buildSlice t len l.toArray,ty,ps,af,g⟩ (rqs (l.map (·.2)) ss) [] [id] (.one (.bs id 0 len)) [(id,some (.box vs))]:=by
 intro C st M ρ a w hH h1 hT hF hd k Q hk;have e':=hH.zhu (wU hx h1);obtain⟨h2,h3⟩:=wu hv e';obtain⟨ii,hu,U,hsz⟩:=zw he;obtain⟨zv,hz1,J,_⟩:=xD hz M ρ w;have hlen:0<len:=by simpa [tI]using h0
 have hb':len<=16777216:=uS hb;have hzl:zv.cells.toList.length=1:=by have:=J.length;simpa using this
 obtain⟨zc,hzc⟩: ∃zc,zv.cells.toList=[zc]:=by
  match hq:zv.cells.toList,hzl with
  | [zc],_=>exact⟨zc,rfl⟩
 rw[hzc]at J;simp only[RepVs]at J;have hzs:zv.cells.size=1:=by rw[<-qg];exact hzl
 have hcur:((Array.range (len*1)).map λx=>zv.cells[x % zv.cells.size]!).toList=List.replicate len zc:=by
  have: ∀x:Nat,zv.cells[x % zv.cells.size]! =zc:=λx=>by
   rw[hzs,Nat.mod_one]
   have h:zv.cells= #[zc]:=by
    apply Array.toList_inj.1;rw[hzc]
   rw[h];rfl
  simp only[this];simp[List.map_const']
 have hzip:(l.toArray.map λp=>(p.1,a.eval p.2)).toList=(l.map (·.1)).zip ((l.map (·.2)).map a.eval):=by
  rw[q7];simp[oS]
 obtain⟨out,h4,h5⟩:=j3 _ vparts (List.replicate len z0) vs ((Array.range (len*1)).map λx=>zv.cells[x % zv.cells.size]!) (by rw[hcur];exact jh J.1 len) h2 h3 hf
 have hrun:(execOp a.eval ⟨d,.buildSlice t len l.toArray,ty,ps,af,g⟩).run P w= .ok (.value (.slice (some ⟨w.heap.size,0,none⟩) len len)) (w.alloc (.cells out el)):=by
  have hn: ¬16777216<len:=by omega
  have hl0: ¬len=0:=by omega
  rw[<-hzip]at h4;simp[execOp,Instr.buildSlice,run_underlying hu,run_sizeOf U,hsz,hn,hl0,newRow,hz1]at h4⊢;simp[h4]
 unfold Oper.wp;rw[hrun,Oper.upon_value]
 refine hk _ _ M _ (hH.alloc (val:= .pointer (some ⟨w.heap.size,0,none⟩)) (λb hb=>by simp only[Bk,blk,ui]at hb;exact hb.symm) hF.1
  ⟨w.heap.size,out.toList,el,zx _ _ _,by simpa using zT w _,RepVs.agree (yT ρ id _) _ _ (λi hi=>by subst hi;exact hm) h5⟩
  (by simp only[RepS,RepV];exact⟨w.heap.size,len,zx _ _ _,rfl,uJ _⟩) hd)
def zgU{l:List Operand}(J:zes l ss)(U:onesOf ss=some fs):
 Snd P ⟨d,.makeFunc (.func f) l.toArray #[],ty,ps,af,g⟩ (rqs l ss) [] [] (.one (.cl f fs [])) []:=
 zk λC st M ρ a w hH h1 _=>by
  have e:=hH.zhu (wU J h1);have e':=xG U e;exact⟨.func (.func f) (l.map a.eval).toArray #[],by simp[execOp,Instr.makeFunc],by simp only[RepS,RepV];exact⟨l.map a.eval,[],rfl,e',by simp only[RepVs]⟩⟩
def zoK{id k n:Nat}{aZ:Array TypeId}{m:Nat}(U:okc x (.one (.bs id k n)))(ha:aZ[0]?=some t)(h:elemSz P t=some (el,m)):
 Snd P ⟨d,.call ⟨.builtin .len,#[x],aZ⟩,ty,ps,af,g⟩ (rq x (.one (.bs id k n))) [] [] (I n) []:=
 zk λC st M ρ a w hH h1 _=>by
  have J:=hH.evS (zt U h1);simp only[RepS,RepV]at J;obtain⟨b,c,_,h3,_⟩:=J;obtain⟨ii,hu,hinf,hsz⟩:=zw h;exact⟨.int .i64 n,by simp[execOp,resolve,invoke,builtin,Builtin.len_,ha,h3,run_underlying hu,goInt],zjW _ _⟩
def zju{id k n:Nat}(hx:okc x (.one (.bs id k n)))(hy:okc y (Kk k0 i))(h:elemSz P t=some (el,1))(h0:0<=i)(hi:i<n):
 Snd P ⟨d,.indexAddr t x y,ty,ps,af,g⟩ (rq x (.one (.bs id k n))++rq y (Kk k0 i)) [] [] (.one (.bx id (k+i.toNat))) []:=
 zk λC st M ρ a w hH U _=>by
  rw[za]at U;have e':=hH.evS (zt hx U.1);have e2:=hH.k (zt hy U.2);simp only[RepS,RepV]at e';obtain⟨b,c,h2,h3,h4⟩:=e';obtain⟨ii,hu,J,hsz⟩:=zw h;refine⟨.pointer (some ⟨b,k+i.toNat*1,none⟩),?_,by simp only[RepS,RepV];simp_all⟩;simp only[execOp,h3,e2,Instr.indexAt,asIntOf,Sem.run_bind,Sem.run_pure,Result.andThen_ok,run_underlying hu];rw[uw ⟨h0,ua⟩];simp only[Sem.run_bind,Sem.run_pure,Result.andThen_ok,run_sizeOf J,ye,hsz]
end
variable {d:Nat}{g0:Option (Nat×Bool)}{gs:zd}{md:Mode}
section
variable {C:Ctx} {k:List Frm} {n:Nat} {sl:zd} {tab:Tab} {Q:Exit->St->Prop} {all:Array Oper} {rest:List Oper}
def zr9(T:Ty P)(hC:C.low){len:Nat}{l:List (Nat×Operand)}{ty:TypeId}{vs:List V}
 (hl:evs sl (l.map (·.2))=some ss) (he:T.es t=some (el,1)) (hz:T.zs el=some [z0]) (hv:zipParts (l.map (·.1)) ss=some vparts) (J:fillV (λi=>some (i*1,1)) (List.replicate len z0) vparts=some vs)
 (h0:Nat.blt 0 len=true) (hb:Nat.ble len 16777216=true) (U:mentVs (1000+d) vs=false) (hm:metL all sl g0=some gs) (hd:Nat.blt d n=true) (hf:(Nat.ble 100 (1000+d)&&freshB (1000+d) ⟨n,sl,tab⟩)=true)
 (g:Goal P C (.ops all rest (nx md ⟨some d,gs++rqs (l.map (·.2)) ss,[],[1000+d],.one (.bs (1000+d) 0 len),[(1000+d,some (.box vs))]⟩)) k n ((d,.one (.bs (1000+d) 0 len))::sl) ((1000+d,some (.box vs))::tab) Q):
 Goal P C (.ops all (⟨some d,.buildSlice t len l.toArray,ty,ps,af,g0⟩::rest) md) k n sl tab Q:=by
 have e2:=xl (st:=⟨n,sl,tab⟩) hl;have:=zj hm (zr8 (id:=1000+d) (ty:=ty) (ps:=ps) (af:=af) (g:=g0) (d:=some d) e2.1 (T.es_ok _ _ he) (T.zs_ok _ _ hz) hv J h0 hb U) (n:=n) (tab:=tab);exact zN (L:=⟨some d,gs++rqs (l.map (·.2)) ss,[],[1000+d],.one (.bs (1000+d) 0 len),[(1000+d,some (.box vs))]⟩) hC this.1 rfl ⟨by rw[za];simp_all,trivial,zae hf,hd⟩ g
def zgV{l:List Operand}{ty:TypeId}(hC:C.low)
 (J:evs sl l=some ss) (U:onesOf ss=some fs) (hm:metL all sl g0=some gs) (hd:Nat.blt d n=true)
 (g:Goal P C (.ops all rest (nx md ⟨some d,gs++rqs l ss,[],[],.one (.cl f fs []),[]⟩)) k n ((d,.one (.cl f fs []))::sl) tab Q):
 Goal P C (.ops all (⟨some d,.makeFunc (.func f) l.toArray #[],ty,ps,af,g0⟩::rest) md) k n sl tab Q:=by
 have e2:=xl (st:=⟨n,sl,tab⟩) J;have:=zj hm (zgU (P:=P) (f:=f) (ty:=ty) (ps:=ps) (af:=af) (g:=g0) (d:=some d) e2.1 U) (n:=n) (tab:=tab);exact zN (L:=⟨some d,gs++rqs l ss,[],[],.one (.cl f fs []),[]⟩) hC this.1 rfl ⟨by rw[za];simp_all,trivial,rfl,hd⟩ g
def zsa(T:Ty P){ty:TypeId}(hC:C.low){id k1 J m:Nat}(U:ev sl x=some (.one (.bs id k1 J)))(he:T.es t=some (el,m))(hm:metL all sl g0=some gs)(hd:Nat.blt d n=true)
 (g:Goal P C (.ops all rest (nx md ⟨some d,gs++rq x (.one (.bs id k1 J)),[],[],I J,[]⟩)) k n ((d,I J)::sl) tab Q):
 Goal P C (.ops all (⟨some d,.call ⟨.builtin .len,#[x],#[t]⟩,ty,ps,af,g0⟩::rest) md) k n sl tab Q:=by
 have e1:=zu (st:=⟨n,sl,tab⟩) U;have:=zj hm (zoK (aZ:= #[t]) (ty:=ty) (ps:=ps) (af:=af) (g:=g0) (d:=some d) e1.1 rfl (T.es_ok _ _ he)) (n:=n) (tab:=tab);exact zN (L:=⟨some d,gs++rq x (.one (.bs id k1 J)),[],[],I J,[]⟩) hC this.1 rfl ⟨by rw[za];simp_all,trivial,rfl,hd⟩ g
def ve(T:Ty P){y:Operand}{ty:TypeId}(hC:C.low){id k1 J:Nat}
 (U:ev sl x=some (.one (.bs id k1 J))) (hy:ev sl y=some (Kk k0 i)) (he:T.es t=some (el,1)) (h0:0<=i) (hi:i<J) (hm:metL all sl g0=some gs) (hd:Nat.blt d n=true)
 (g:Goal P C (.ops all rest (nx md ⟨some d,gs++(rq x (.one (.bs id k1 J))++rq y (Kk k0 i)),[],[],.one (.bx id (k1+i.toNat)),[]⟩)) k n ((d,.one (.bx id (k1+i.toNat)))::sl) tab Q):
 Goal P C (.ops all (⟨some d,.indexAddr t x y,ty,ps,af,g0⟩::rest) md) k n sl tab Q:=by
 have e1:=zu (st:=⟨n,sl,tab⟩) U;have e2:=zu (st:=⟨n,sl,tab⟩) hy;have:=zj hm (zju (ty:=ty) (ps:=ps) (af:=af) (g:=g0) (d:=some d) e1.1 e2.1 (T.es_ok _ _ he) h0 hi) (n:=n) (tab:=tab);exact zN (L:=⟨some d,gs++(rq x (.one (.bs id k1 J))++rq y (Kk k0 i)),[],[],.one (.bx id (k1+i.toNat)),[]⟩) hC this.1 rfl ⟨by rw[za,za];simp_all,trivial,rfl,hd⟩ g
end
end Hw
namespace Hw.Gm
open Go Go.Proofs Hw.M Ps
def remF(A B G D E:Ft)(k:Nat):Ft:=match k with
 |0=>orF A (orF B (orF G (orF D E)))
 |1=>orF B (orF G (orF D E))
 |2=>orF G (orF D E)
 |3=>orF D E
 |4=>orF E none
 |_=>none
def zsb(a:Ft):orF a none=a:=by cases a<;>rfl
def zxZ:List Hw.V:=[.cl 120 [.bx 0 0] [],.cl 121 [.bx 0 0] [],.cl 122 [.bx 0 0] [],.cl 123 [.bx 0 0] [],.cl 124 [.bx 0 0] []]
def zdX(d:zg)(hd:vl d):zr6 82 d (zfX d):=by
 show zf _ _ _ _ _ _;have U:=zlL d hd;have h2:=zoI d hd;have h3:=zgS d hd;have h4:=zlM d hd;have h5:zdN d=none->zr6 124 d (zc2 d):=zlO d hd;have U:zf _ _ _ _ _ _:=U;have h2:zf _ _ _ _ _ _:=h2;have h3:zf _ _ _ _ _ _:=h3;have h4:zf _ _ _ _ _ _:=h4;unfold zfX;generalize zcb d=A at U⊢;generalize zfe d=B at h2⊢;generalize zcc d=D at h4⊢;generalize zc2 d=E at h5⊢;generalize zdN d=G at h3 h5⊢;generalize hr0:orF A (orF B (orF G (orF D E)))=r;refine gO T Tryz.func82 λC hC=>?_
 repeat' first|refine gG ?_|refine gB ?_ ?_<;>intro h|(refine zgV hC rfl rfl rfl rfl ?_)|(refine zr9 T hC rfl rfl rfl rfl rfl rfl rfl rfl rfl rfl rfl ?_)|(refine zsa T hC rfl rfl rfl rfl ?_)
 refine zn (λk:Nat=>k<=5/\(3<=k->G=none)/\remF A B G D E k=r) (λk=>([(16,.one (.bs 1016 0 5)),(17,I 5),(18,I k)],(1016,some (.box zxZ))::tb (ckR d 0 1 2))) (λk=>5 - k) hC
  0 ⟨ub,λh=>absurd h ub,hr0⟩ id gM ?_
 clear hr0;intro k ⟨hk,hG,J⟩;refine zm T hC true 200 rfl ?_;refine zp rfl ?_ ?_<;>intro h
 ·have hlt:(k:Int)<5:=uj h;clear h;have h6:4<=k->zf Tryz.prog 124 [.one (.bx 0 0)] (ckR d 0 1 2) (ftS E) (ckR d 0 1 2++ftR E):=λh=>h5 (hG ua)
  clear h5;obtain rfl|rfl|rfl|rfl|rfl:k=0\/k=1\/k=2\/k=3\/k=4:=by omega
  ·simp only[remF]at J;cases A with
   |none=>
    simp only[ftS,ftR,uV]at U;simp only[orF]at J
    repeat' first|refine gG ?_|exact gD|refine gB ?_ ?_<;>intro h|(refine ve T hC rfl rfl rfl ub ub rfl rfl ?_)|(refine y6 hC (te:=171) rfl rfl ud rfl rfl ?_)|refine gR U (nm [0,1,2]) ?_
    exact zh 1 ⟨ub,λh=>absurd h ub,J⟩ id ub gM
   |some f=>
    simp only[ftS,ftR]at U;simp only[orF]at J;subst J
    repeat' first|refine gG ?_|exact gD|refine gB ?_ ?_<;>intro h|(refine ve T hC rfl rfl rfl ub ub rfl rfl ?_)|(refine y6 hC (te:=171) rfl rfl ud rfl rfl ?_)|refine gR U (nm [0,1,2,103,104,105]) ?_|refine zl ?_
    exact zi ⟨.inl rfl,mvL [(5,105)],_,rfl,.refl _,⟨rfl,rfl,rfl,rfl,uh⟩,rfl,rfl⟩
  ·simp only[remF]at J;cases B with
   |none=>
    simp only[ftS,ftR,uV]at h2;simp only[orF]at J
    repeat' first|refine gG ?_|exact gD|refine gB ?_ ?_<;>intro h|(refine ve T hC rfl rfl rfl ub ub rfl rfl ?_)|(refine y6 hC (te:=171) rfl rfl ud rfl rfl ?_)|refine gR h2 (nm [0,1,2]) ?_
    exact zh 2 ⟨ub,λh=>absurd h ub,J⟩ id ub gM
   |some f=>
    simp only[ftS,ftR]at h2;simp only[orF]at J;subst J
    repeat' first|refine gG ?_|exact gD|refine gB ?_ ?_<;>intro h|(refine ve T hC rfl rfl rfl ub ub rfl rfl ?_)|(refine y6 hC (te:=171) rfl rfl ud rfl rfl ?_)|refine gR h2 (nm [0,1,2,103,104,105]) ?_|refine zl ?_
    exact zi ⟨.inl rfl,mvL [(5,105)],_,rfl,.refl _,⟨rfl,rfl,rfl,rfl,uh⟩,rfl,rfl⟩
  ·simp only[remF]at J;cases G with
   |none=>
    simp only[ftS,ftR,uV]at h3;simp only[orF]at J
    repeat' first|refine gG ?_|exact gD|refine gB ?_ ?_<;>intro h|(refine ve T hC rfl rfl rfl ub ub rfl rfl ?_)|(refine y6 hC (te:=171) rfl rfl ud rfl rfl ?_)|refine gR h3 (nm [0,1,2]) ?_
    exact zh 3 ⟨ub,λ_=>rfl,J⟩ id ub gM
   |some f=>
    simp only[ftS,ftR]at h3;simp only[orF]at J;subst J
    repeat' first|refine gG ?_|exact gD|refine gB ?_ ?_<;>intro h|(refine ve T hC rfl rfl rfl ub ub rfl rfl ?_)|(refine y6 hC (te:=171) rfl rfl ud rfl rfl ?_)|refine gR h3 (nm [0,1,2,103,104,105]) ?_|refine zl ?_
    exact zi ⟨.inl rfl,mvL [(5,105)],_,rfl,.refl _,⟨rfl,rfl,rfl,rfl,uh⟩,rfl,rfl⟩
  ·have hG2:=hG ub;simp only[remF]at J;cases D with
   |none=>
    simp only[ftS,ftR,uV]at h4;simp only[orF]at J
    repeat' first|refine gG ?_|exact gD|refine gB ?_ ?_<;>intro h|(refine ve T hC rfl rfl rfl ub ub rfl rfl ?_)|(refine y6 hC (te:=171) rfl rfl ud rfl rfl ?_)|refine gR h4 (nm [0,1,2]) ?_
    exact zh 4 ⟨ub,λ_=>hG2,by simp only[remF,zsb];exact J⟩ id ub gM
   |some f=>
    simp only[ftS,ftR]at h4;simp only[orF]at J;subst J
    repeat' first|refine gG ?_|exact gD|refine gB ?_ ?_<;>intro h|(refine ve T hC rfl rfl rfl ub ub rfl rfl ?_)|(refine y6 hC (te:=171) rfl rfl ud rfl rfl ?_)|refine gR h4 (nm [0,1,2,103,104,105]) ?_|refine zl ?_
    exact zi ⟨.inl rfl,mvL [(5,105)],_,rfl,.refl _,⟨rfl,rfl,rfl,rfl,uh⟩,rfl,rfl⟩
  ·have hG2:=hG ub;have h6:=h6 ub;simp only[remF]at J;cases E with
   |none=>
    simp only[ftS,ftR,uV]at h6;simp only[orF]at J
    repeat' first|refine gG ?_|exact gD|refine gB ?_ ?_<;>intro h|(refine ve T hC rfl rfl rfl ub ub rfl rfl ?_)|(refine y6 hC (te:=171) rfl rfl ud rfl rfl ?_)|refine gR h6 (nm [0,1,2]) ?_
    exact zh 5 ⟨ub,λ_=>hG2,J⟩ id ub gM
   |some f=>
    simp only[ftS,ftR]at h6;simp only[orF]at J;subst J
    repeat' first|refine gG ?_|exact gD|refine gB ?_ ?_<;>intro h|(refine ve T hC rfl rfl rfl ub ub rfl rfl ?_)|(refine y6 hC (te:=171) rfl rfl ud rfl rfl ?_)|refine gR h6 (nm [0,1,2,103,104,105]) ?_|refine zl ?_
    exact zi ⟨.inl rfl,mvL [(5,105)],_,rfl,.refl _,⟨rfl,rfl,rfl,rfl,uh⟩,rfl,rfl⟩
 have hk5:k=5:=by have h9: ¬(k:Int)<5:=uo h;omega
 subst hk5;simp only[remF]at J;subst J
 repeat' first|refine gG ?_|refine gB ?_ ?_<;>intro h|refine ze ?_
 exact gE
def zcC(d:zg):Str×Int×Int:=if yl d=false then((⟨#[]⟩:UB),0,1)else zwG d
theorem zlP(d:zg)(U:yl d=true->vl d):zf Tryz.prog 49 [zr (zA d)] [] (.tup [Sr (zcC d).1,I (zcC d).2.1,I (zcC d).2.2]) []:=by
 have hV:=wM d;unfold zcC;cases hv:yl d with
 |false=>
  rw[hv]at hV;rw[uw rfl];refine gO T Tryz.func49 λC hC=>?_
  repeat' first|refine gG ?_|exact gD|refine gB ?_ ?_<;>intro h|refine gC hV ?_|refine ze ?_
  exact gF
 |true=>
  rw[hv]at hV;rw[ur ue];have U:=U hv;have hN:=vF d (by have:=U.ty;omega) (by have:=U.pr;omega);have J:zf _ _ _ _ _ _:=zdX d U;unfold zwG;cases hc:zfX d with
  |none=>
   rw[hc]at J;simp only[ftS,ftR,uV]at J;refine gO T Tryz.func49 λC hC=>?_
   repeat' first|refine gG ?_|exact gD|refine gB ?_ ?_<;>intro h|refine gC hV ?_|refine gR hN (nm [100,101,102]) ?_|refine gR J (nm [100,101,102]) ?_|(refine y6 hC (te:=171) rfl rfl ud rfl rfl ?_)|refine ze ?_
   exact gF
  |some f=>
   rw[hc]at J;simp only[ftS,ftR]at J;refine gO T Tryz.func49 λC hC=>?_
   repeat' first|refine gG ?_|exact gD|refine gB ?_ ?_<;>intro h|refine gC hV ?_|refine gR hN (nm [100,101,102]) ?_|refine gR J (nm [100,101,102,103,104,105]) ?_|(refine y6 hC (te:=171) rfl rfl ud rfl rfl ?_)|refine ze ?_
   exact gF
theorem zc8: ∀(l:List Ex) (d n:Int),0<=n->countL l d n<=1000-> ∀x∈l,countS x (d+1)<=1000
 | [],_,_,_,_,x,J=>by cases J
 |e::es,d,n,h0,h,x,J=>by
  simp only[countL]at h;have hb:=(wc e (d+1)).1;split at h
  ·omega
  ·rcases uI.1 J with rfl|J
   ·omega
   ·exact zc8 es d _ ua h x J
def zoL{e:Ex}(h:vU e=true):arB e.op e.l.length/\e.l.length<=1000000:=by
 unfold vU at h;simp only[um,uy,qS,uu,uq,uG]at h;obtain⟨⟨⟨⟨J,h2⟩,h3⟩,_⟩,_⟩:=h;unfold zX at J h2 h3;simp only[uO,um,uq]at J h2 h3;refine⟨⟨λh=>?_,λh=>?_,λh=>?_⟩,?_⟩
 ·rw[h]at J h2 h3;simp at J h2 h3;omega
 ·rcases h with h|h<;>(rw[h]at J h2 h3;simp at J h2 h3;omega)
 ·rw[h]at J h2 h3;simp at J h2 h3;omega
 ·split at h2
  ·simp at h2;rw[h2];simp
  ·split at h2
   ·simp at h2;omega
   ·split at h2
    ·rename_i U;rw[U]at h3;simp at h3;omega
    ·split at h2
     ·simp at h2;omega
     ·split at h2
      ·simp at h2;omega
      ·rename_i k1 k2 k3 k4 k5;rw[ur k1,ur k2,ur k3,ur k4,ur k5]at J;exact absurd rfl J
mutual
theorem zqb: ∀(e:Ex) (d:Int),countS e d<=1000->exG e
 | .mk op n s l,d,h=>by
   simp only[countS]at h;split at h
   ·omega
   ·rename_i hn;simp only[uO,uq,uy,oX,qD]at hn;have ha:=zoL hn.2;simp only[exG];exact⟨ha.1,ha.2,zlQ l (d+1) (zc8 l d 1 ua h)⟩
theorem zlQ: ∀(l:List Ex) (d:Int),(∀x∈l,countS x d<=1000)->exGs l
 | [],_,_=>trivial
 |x::r,d,h=>by
  simp only[exGs];exact⟨zqb x d (h x ue),zlQ r d λy hy=>h y (u3 _ hy)⟩
end
def zc9{e:Ex}(h:yE e=true):exG e:=zqb e 1 (uj h)
def xn{s:Sm}{lo J:Int}(h:wL s lo J=true):lo<=s.e.length/\(s.e.length:Int)<=J/\ ∀y∈s.e,exG y:=by
 unfold wL at h;simp only[um,uy,uu,List.all_eq_true]at h;exact⟨ua,ua,λy U=>zc9 (h.2 y U)⟩
def zjv{s:Sm}(h:vO s=true):smA s/\ ∀y∈s.e,exG y:=by
 unfold vO zhI at h;unfold smA;split at h
 ·simp only[um]at h;have:=xn h.1.2;exact⟨⟨ua,ua,ua,ua,ua⟩,this.2.2⟩
 ·split at h
  ·simp only[um]at h;have:=xn h.1.2;exact⟨⟨ua,ua,ua,ua,ua⟩,this.2.2⟩
  ·split at h
   ·simp only[um]at h;have:=xn h.2;exact⟨⟨ua,ua,ua,ua,ua⟩,this.2.2⟩
   ·split at h
    ·simp only[um]at h;have:=xn h.1.2;exact⟨⟨ua,ua,ua,ua,ua⟩,this.2.2⟩
    ·split at h
     ·simp only[um]at h;have:=xn h.1.2;exact⟨⟨ua,ua,ua,ua,ua⟩,this.2.2⟩
     ·split at h
      ·simp only[um]at h;have:=xn h.1.1.2;exact⟨⟨ua,ua,ua,ua,ua⟩,this.2.2⟩
      ·cases h
def zqc(l:List Sm)(d:Int):0<=stL l d 0:=(y9 l d 0 ua ua).1
theorem zdY: ∀l:List Sm,l.length<=wO l
 | []=>uJ _
 |x::r=>by
  have:=zdY r;have h1:1<=znF x:=by cases x;simp only[znF];omega
  simp only[uW,wO];omega
mutual
theorem zuE: ∀(s:Sm) (d n:Int),0<=n->stN s d n<=200->smG s/\n+znF s<=stN s d n
 | .mk op k e l els,d,n,h0,h=>by
   simp only[stN]at h⊢;split at h
   ·omega
   ·rename_i hn;rw[ur hn];simp only[uO,uq,uy,oX,qD]at hn;have hs:=zjv hn.2;have b1:=zqc l (d+1);have b2:=zqc els (d+1);unfold zeH at h⊢;by_cases hc:n+1<=200
    ·rw[uw hc]at h⊢;by_cases hc2:n+1+stL l (d+1) 0<=200
     ·rw[uw hc2]at h⊢;have i1:=zdZ l (d+1) 0 ua ua;have i2:=zdZ els (d+1) 0 ua ua;have c1:=zdY l;have c2:=zdY els;simp only[smG,znF];exact⟨⟨hs.2,hs.1,ua,ua,i1.1,i2.1⟩,ua⟩
     ·rw[ur hc2]at h;omega
    ·rw[ur hc,ur hc]at h;omega
theorem zdZ: ∀(l:List Sm) (d n:Int),0<=n->stL l d n<=200->smGs l/\n+wO l<=stL l d n
 | [],d,n,_,h=>⟨uh,by simp only[stL,wO];omega⟩
 |x::r,d,n,h0,h=>by
  simp only[stL]at h⊢;split at h
  ·omega
  ·rename_i hx;rw[ur hx];have i1:=zuE x d n h0 ua;have i2:=zdZ r d _ ua h;simp only[smGs,wO];exact⟨⟨i1.1,i2.1⟩,ua⟩
end
variable {d:zg}
def jB(h:yl d=true):vl d:=by
 unfold yl jx yr at h;simp only[um,uy,uu,List.all_eq_true]at h;obtain⟨⟨⟨hp,ht⟩,J⟩,⟨⟨hm,hi⟩,U⟩,hb⟩:=h
 have fl: ∀ {l:List Fld} {k:Int},xh l k=true->(l.length:Int)<=k:=λ{l k} h=>by
  unfold xh at h;simp only[um,uq]at h;exact h.1
 have hg:=fl hp.1.1.1.1.1.2
 have pr: ∀p∈d.procs,(p.params.length:Int)<=6/\(p.locs.length:Int)<=12/\stL p.body 1 0<=200:=λp h=>by
  have:=J p h;unfold zaf at this;simp only[um,uq]at this;exact⟨fl this.1.1.1.2,fl this.1.1.2,this.2⟩
 have bd: ∀p∈d.procs,smGs p.body/\(wO p.body:Int)<=200:=λp h=>by
  have:=zdZ p.body 1 0 ua (pr p h).2.2;exact⟨this.1,by have:=(pr p h).2.2;omega⟩
 refine⟨ua,ua,ua,ua,ua,ua,ua,λx hx=>?_,λp h=>by have:=(pr p h).1;omega,λp h=>by have:=(pr p h).2.1;omega,λp h=>?_,λp h=>(bd p h).1,λp h=>by have:=(bd p h).2;omega,λm h=>?_,λm h=>?_,λm h=>?_,λm h=>?_⟩
 ·have:=ht x hx;unfold zag at this;simp only[um]at this;have:=fl this.2;omega
 ·have:=(bd p h).2;have:=zdY p.body;omega
 ·have:=hm m h;unfold vP at this;simp only[um]at this;exact zc9 this.2
 ·have:=hi m h;unfold zbO at this;simp only[um]at this;exact zc9 this.2
 ·have:=U m h;unfold zbP at this;simp only[um]at this;exact zc9 this.2
 ·have:=hb m h;unfold zaJ at this;simp only[um]at this;exact zc9 this.2
def zbx(d:zg):zf Tryz.prog 49 [zr (zA d)] [] (.tup [Sr (zcC d).1,I (zcC d).2.1,I (zcC d).2.2]) []:=zlP d jB
theorem zv1(h:yl d=true)(h2:zfX d≠none):zf Tryz.prog 132 [zr (zA d),Bo true] [] (.tup [.one (.p (.k (.pointer none))),I 13]) []:=by
 have hV:=wM d;rw[h]at hV;have J:=jB h;have hN:=vF d (by have:=J.ty;omega) (by have:=J.pr;omega);have U:zf _ _ _ _ _ _:=zdX d J;cases hc:zfX d with
 |none=>exact absurd hc h2
 |some f=>
  rw[hc]at U;simp only[ftS,ftR]at U;refine gO T Tryz.func132 λC hC=>?_
  repeat' first|refine gG ?_|exact gD|refine gB ?_ ?_<;>intro h|refine gC hV ?_|refine gR hN (nm [100,101,102]) ?_|refine gR U (nm [100,101,102,103,104,105]) ?_|(refine y6 hC (te:=171) rfl rfl ud rfl rfl ?_)|refine ze ?_
  exact gF
def zoM(h:yl d=true)(h2:zfX d=none):zf Tryz.prog 132 [zr (zA d),Bo true] [] (.tup [.one (.bx 0 0),I 0]) (ckR d 0 1 2):=by
 have hV:=wM d;rw[h]at hV;have J:=jB h;have hN:=vF d (by have:=J.ty;omega) (by have:=J.pr;omega);have U:zf _ _ _ _ _ _:=zdX d J;rw[h2]at U;simp only[ftS,ftR,uV]at U;refine gO T Tryz.func132 λC hC=>?_
 repeat' first|refine gG ?_|exact gD|refine gB ?_ ?_<;>intro h|refine gC hV ?_|refine gR hN (nm [100,101,102]) ?_|refine gR U (nm [100,101,102]) ?_|(refine y6 hC (te:=171) rfl rfl ud rfl rfl ?_)|refine ze ?_
 exact gW [100,101,102]
def zgW(h:yl d=true)(h2:zfX d=none)(t:Str)(e:Ex)(he:yE e=true)(J:t=(⟨#[]⟩:UB)\/yK d t=true):
 zf Tryz.prog 92 [zr (zA d),Sr t,zr (yp e)] [] (.tup [Sr (exT d (zbh d t) false e).1,I (exT d (zbh d t) false e).2]) []:=by
 have U:=yU e;rw[he]at U;have hW:=zoM h h2;have hd:=jB h;have hN:=jV d t;obtain⟨V,hV,hS⟩:=zaw d t (by have:=hd.gl;omega);have hX:zf _ _ _ _ _ _:=zbv false hd.zv0 hV hd.zwI e (zc9 he);refine gO T Tryz.func92 λC hC=>?_;by_cases h0:t=(⟨#[]⟩:UB)
 ·repeat' first|refine gG ?_|exact gD|(exfalso;simp[h0]at h;done)|refine gB ?_ ?_<;>intro h|refine gC U ?_|refine gR hW (nm [100,101,102]) ?_|refine gR hN (nm [100,101,102]) ?_|refine gR hS (nm [100,101,102,103]) ?_|refine gR hX (nm [100,101,102,103]) ?_|refine ze ?_
  exact gF
 ·have hn:yK d t=true:=by rcases J with J|J;exact absurd J h0;exact J
  rw[hn]at hN
  repeat' first|refine gG ?_|exact gD|(exfalso;simp[h0]at h;done)|refine gB ?_ ?_<;>intro h|refine gC U ?_|refine gR hW (nm [100,101,102]) ?_|refine gR hN (nm [100,101,102]) ?_|refine gR hS (nm [100,101,102,103]) ?_|refine gR hX (nm [100,101,102,103]) ?_|refine ze ?_
  exact gF
def zd0(d:zg)(m:Hp)(fuel:Int):Int:=if(zcC d).2.2≠0\/zZ d m=false then 1 else if fuel<0\/1048576<fuel then 2 else 0
def zd1(d:zg)(m:Hp)(fuel:Int):zf Tryz.prog 127 [zr (zA d),zr (yS m),I fuel] [] (I (zd0 d m fuel)) []:=by
 have J:=zbx d;have hV:=yW d m
 have U:zd0 d m fuel=bif !decide ((zcC d).2.2=0)then 1 else bif !zZ d m then 1 else bif decide (fuel<0)then 2 else bif decide (1048576<fuel)then 2 else 0:=by
  unfold zd0;by_cases h1:(zcC d).2.2=0<;>cases zZ d m<;>by_cases h3:fuel<0<;>by_cases h4:1048576<fuel<;>simp[h1,h3,h4]
 rw[U];clear U;generalize zcC d=q at J⊢;generalize hr:(bif !decide (q.2.2=0)then(1:Int)else bif !zZ d m then 1 else bif decide (fuel<0)then 2 else bif decide (1048576<fuel)then 2 else 0)=r;refine gO T Tryz.func127 λC hC=>?_
 repeat' first|refine gG ?_|refine gB ?_ ?_<;>intro h|refine gC J ?_|refine gC hV ?_|refine ze ?_
 all_goals (simp only[*,Ui,oQ]at hr;subst hr;exact gF)
abbrev zwJ:S:= .one (.p (.k (.pointer none)))
variable {c:Cl}{m:Hp}
def zoN(hw:zgI d m)(J:zca d m c≠0)(fuel:Int):
 zf Tryz.prog 128 [zr (zA d),.agg [.ar 1,.ar 2],zr (yy c),I fuel] (zjY m 1 2 3) (.tup [zwJ,.agg (znE 0 0 0 0),I (zca d m c)]) []:=by
 have U:=zlr hw J;generalize zca d m c=e at U J⊢;refine gO T Tryz.func128 λC hC=>?_
 repeat' first|refine gG ?_|(exfalso;simp[J]at h;done)|refine gB ?_ ?_<;>intro h|refine gR U (nm [0,1,2,3]) ?_|refine ze ?_
 exact gF
def kl2:WideMaps.KeyLaw Tryz.prog 308:=deep_law (m:=2) ub ud ud ud
def zoO(q:K2):Value:= .agg #[.int .i64 (q.1.val:Int),.int .i64 (q.2.val:Int)]
def zv2(q:K2): ∃l,keyOf Tryz.prog 308 (zoO q)=some l:=by
 have U:=Tryz.underlying308;have h3:=Tryz.underlying3;have hc:Program.cellsOf Tryz.prog 308=2:=by kernel_rfl
 have J:Program.cellsOf Tryz.prog 3=1:=by kernel_rfl
 have hk:Program.keyType Tryz.prog 308=true:=by kernel_rfl
 have hp:Nat.blt 0 Tryz.prog.types.size=true:=by kernel_rfl
 have hp0:0<Tryz.prog.types.size:=by simpa [tI]using hp
 obtain⟨n,hn⟩: ∃n,Tryz.prog.types.size=n+1:=⟨Tryz.prog.types.size - 1,ua⟩;have m1:IntKind.i64.min= -9223372036854775808:=by decide
 have m2:IntKind.i64.max=9223372036854775807:=by decide
 have w1:(Lit.int .i64 (q.1.val:Int)).wf=true:=by have:=q.1.isLt;simp only[Lit.wf,um,uq,m1,m2];omega
 have w2:(Lit.int .i64 (q.2.val:Int)).wf=true:=by have:=q.2.isLt;simp only[Lit.wf,um,uq,m1,m2];omega
 unfold keyOf;rw[U,hn];simp[zoO,Value.formed,Value.cells,U,hc,hk,Program.keyLits,h3,J,w1,w2]
noncomputable def k2G:zdr Tryz.prog 308 K2 where
 enc:=zoO
 s:=λq=> .agg [.p (ki (q.1.val:Int)),.p (ki (q.2.val:Int))]
 rep:=λ{M ρ k v} hr=>by
  simp only[RepS]at hr;obtain⟨cs,rfl,h⟩:=hr
  match cs,h with
  | [a,b],h=>
    simp only[RepVs,RepV,RepPV]at h;rw[h.1.1,h.2.1.1];rfl
 inj:=λ{a b} e=>by
  simp only[zoO,Value.agg.injEq]at e;have:[Value.int .i64 (a.1.val:Int),Value.int .i64 (a.2.val:Int)]=[Value.int .i64 (b.1.val:Int),Value.int .i64 (b.2.val:Int)]:=u5 Array.toList e;simp only[qC,Value.int.injEq,Ul,qf]at this;exact oN (Fin.ext ua) (Fin.ext ua)
 check:=λw em k=>let ⟨l,h⟩:=zv2 k;kl2.check w em h
 find:=λw k es hes=>by
  obtain⟨l,h⟩:=zv2 k
  exact kl2.find w h es λe he=>by
   obtain⟨k',e2⟩:=hes e he;obtain⟨l',h'⟩:=zv2 k';exact⟨l',by rw[e2];exact h'⟩
 stays:=λw k=>let ⟨l,h⟩:=zv2 k;kl2.stays w h
noncomputable abbrev mpK(l:List (K2×EV)):Res:= .mpg (yn k2G l)
noncomputable abbrev imR(d:zg)(m:Hp)(k:Kn)(a b c:Nat):RL:=[(a,.box ((zA d).map V.p++((yS m).map V.p++[.mp b,.mp c]))),(b,mpK k.kn),(c,mpK k.bu)]
def zoP(h:(zcC d).2.2≠0\/zZ d m=false):zf Tryz.prog 89 [zr (zA d),zr (yS m)] [] (.tup [.one (.p (.k (.pointer none))),I 1]) []:=by
 have J:=zbx d;have U:=yW d m;generalize zcC d=q at J h;refine gO T Tryz.func89 λC hC=>?_
 repeat' first|refine gG ?_|refine gB ?_ ?_<;>intro h|refine gC J ?_|refine gC U ?_|refine ze ?_
 all_goals first
  |exact gF
  |(exfalso;simp only[uy,uG,uq,uu]at *; simp_all)
def zlR(h:(zcC d).2.2=0)(h2:zZ d m=true):zf Tryz.prog 89 [zr (zA d),zr (yS m)] [] (.tup [.one (.bx 0 0),I 0]) (imR d m ⟨[],[]⟩ 0 1 2):=by
 have J:=zbx d;have U:=yW d m;rw[h2]at U;generalize zcC d=q at J h;obtain⟨q1,q2,q3⟩:=q;simp only at h J;subst h;refine gO T Tryz.func89 λC hC=>?_
 repeat' first|refine gG ?_|exact gD|refine gB ?_ ?_<;>intro h|refine gC J ?_|refine gC U ?_|(refine zdu k2G hC rfl rfl rfl ?_)
 exact gW [1028,1025,1026]
def isB(m:Hp)(n:Int):Bool:=decide (0<=n)&&decide (n<=m.n.length)
def zqd(d:zg)(m:Hp)(k:Kn)(n:Int):zf Tryz.prog 91 [.one (.bx 0 0),I n] (imR d m k 0 1 2) (.bq (isB m n)) (imR d m k 0 1 2):=by
 generalize J:isB m n=r;unfold isB at J;rw[show(m.n.length:Int)=((m.n.map xL).length:Int) by rw[uk]]at J;refine gO T Tryz.func91 λC hC=>?_
 repeat' first|refine gG ?_|refine gB ?_ ?_<;>intro h|refine ze ?_
 all_goals (simp only[*,tn,tJ]at J;subst J;exact zi ⟨.inl rfl,id,_,rfl,by first|exact .refl _|exact LeS.qb rfl,⟨rfl,rfl,rfl,uh⟩,rfl,rfl⟩)
def zjw(x:Ms)(s:Str):zf Tryz.prog 201 [zr (yI x),.one (.bx 0 0)] [(0,.box [.p (ks s)])] (.bq (decide (x.n=s))) [(0,.box [.p (ks s)])]:=by
 refine gO T Tryz.func201 λC hC=>?_
 repeat' first|refine gG ?_|refine gB ?_ ?_<;>intro h|refine ze ?_
 exact gE
def zfr(d:zg)(m:Hp)(k:Kn)(s:Str):zf Tryz.prog 141 [.one (.bx 0 0),Sr s] (imR d m k 0 1 2) (I (idxI (zpL d s))) (imR d m k 0 1 2):=by
 have J:=zfm 201 d.measures (λx _=>decide (x.n=s)) (λ_ s=>s) (λc=>c=s) (λx hx c U=>⟨by subst U;exact zjw x c,λ_=>U⟩) s rfl;rw[yX]at J;refine gO T Tryz.func141 λC hC=>?_
 repeat' first|refine gG ?_|refine gB ?_ ?_<;>intro h|refine gR J (nm [1003]) ?_|refine ze ?_
 exact gE
def zlS(x:Fld)(s:Str):zf Tryz.prog 198 [zr (zG x),.one (.bx 0 0)] [(0,.box [.p (ks s)])] (.bq (decide (x.n=s))) [(0,.box [.p (ks s)])]:=by
 refine gO T Tryz.func198 λC hC=>?_
 repeat' first|refine gG ?_|refine gB ?_ ?_<;>intro h|refine ze ?_
 exact gE
noncomputable def bE(d:zg)(m:Hp):Bn->End
 | .ok v k=> .ok (I v) (imR d m k 0 1 2)
 | .flt e k=> .pn (flI e) (imR d m k 0 1 2)
 | .out=> .no
def zoQ(d:zg)(m:Hp)(k:Kn)(s:Str)(nd:Int):FnX Tryz.prog 138 [.one (.bx 0 0),Sr s,I nd] (imR d m k 0 1 2) (bE d m (namI d m nd s k)):=by
 have J:=jz 198 d.globals (λx _=>decide (x.n=s)) (λ_ s=>s) (λc=>c=s) (λx hx c hc=>⟨by subst hc;exact zlS x c,λ_=>hc⟩) s rfl;rw[yX]at J;unfold namI;by_cases U:s=(⟨#[116,104,105,115]⟩:UB)
 ·rw[uw U];show zf _ _ _ _ _ _;refine gO T Tryz.func138 λC hC=>?_
  repeat' first|refine gG ?_|(exfalso;simp[U]at h;done)|refine gB ?_ ?_<;>intro h|refine ze ?_
  exact gE
 ·rw[ur U];have hix:d.globals.findIdx? (λx=>decide (x.n=s))=ixF d.globals s:=rfl;rw[hix]at J;cases hx:ixF d.globals s with
  |none=>trivial
  |some i=>
   rw[hx]at J;simp only[idxI]at J;cases hg:m.g[i]? with
   |none=>simp only[hg];trivial
   |some v=>
    simp only[hg];show zf _ _ _ _ _ _;refine gO T Tryz.func138 λC hC=>?_
    repeat' first|refine gG ?_|(exfalso;simp[U]at h;done)|refine gB ?_ ?_<;>intro h|refine gR J (nm [1004]) ?_|(refine gI T (zq hg) ?_)|refine ze ?_
    exact gE
structure xy (m:Hp):Prop where
 g:m.g.length<=1000000
 n:m.n.length<=1000000
 f: ∀x∈m.n,x.f.length<=1000000
variable {fuel:Int}
def zgX(h:zd0 d m fuel≠0)(c:Cl):
 zf Tryz.prog 86 [zr (zA d),zr (yS m),zr (yy c),I fuel] [] (.tup [zwJ,.agg (znE 0 0 0 0),I (zd0 d m fuel)]) []:=by
 have J:=zd1 d m fuel;generalize zd0 d m fuel=e at J h⊢;refine gO T Tryz.func86 λC hC=>?_
 repeat' first|refine gG ?_|(exfalso;simp at h;simp_all;done)|refine gB ?_ ?_<;>intro h|refine gC J ?_|refine ze ?_
 exact gF
def zfs(J:xy m)(hw:zgI d m)(h:zd0 d m fuel=0)(hc:zca d m c≠0):
 zf Tryz.prog 86 [zr (zA d),zr (yS m),zr (yy c),I fuel] [] (.tup [zwJ,.agg (znE 0 0 0 0),I (zca d m c)]) []:=by
 have U:=zd1 d m fuel;rw[h]at U;have hK:=zfd m J.g J.n J.f;have hP:=zoN hw hc fuel;refine gO T Tryz.func86 λC hC=>?_
 repeat' first|refine gG ?_|exact gD|refine gB ?_ ?_<;>intro h|refine gC U ?_|refine gR hK (nm [101,102,103]) ?_|refine gR hP (nm [100,101,102,103]) ?_|refine ze ?_
 exact gF
def mcF(d:zg)(fuel:Int)(x:Mc)(a:Nat):List V:=(zA d).map V.p++[.p (yZ x.g),.p (zic x.ns),.p (ki fuel),.p (ki x.ticks),.p (ki x.calls),.p (ki x.comps),.ar a]
variable {x:Mc}
def zoR(J:xy m)(hw:zgI d m)(hc:zca d m c=0)(h:zd0 d m fuel=0){k:Nat}{fl v:Int}
 (hr: ∀i p,zaZ d c.p=some i->d.procs[i]?=some p->plF (rnV d fuel k p c.a (mc0 m))=some (fl,v,x)) (hl:x.acc.length<=1099511627776):
 zf Tryz.prog 86 [zr (zA d),zr (yS m),zr (yy c),I fuel] [] (.tup [.one (.bx 0 0),.agg (znE fl v x.comps (ndC x.acc)),I 0]) [(0,.box (mcF d fuel x 9)),(9,.arr 3 (x.acc.map zgC))]:=by
 have U:=zd1 d m fuel;rw[h]at U;have hK:=zfd m J.g J.n J.f;have hP:=zrH hw hc hr hl;refine gO T Tryz.func86 λC hC=>?_
 repeat' first|refine gG ?_|exact gD|refine gB ?_ ?_<;>intro h|refine gC U ?_|refine gR hK (nm [101,102,103]) ?_|refine gR hP (nm [100,101,102,103,104,105,106,107,108,109]) ?_
 refine zeG rfl (zjY ⟨x.g,x.ns⟩ 101 107 108) rfl [] uh [(100,.box (mcF d fuel x 109))] ⟨⟨_,rfl,rfl,LnR.box (.cons (.refl _) (.cons (.refl _) (.cons (.refl _) (.cons (.refl _) (.cons (.refl _) (.cons (.refl _) (.cons (.refl _) (.cons (.refl _) (.cons (LnV.ar (.head _)) (.cons (LnV.vw (ids:=[108]) (rows:=wRows x.ns 0) (.tail _ (.head _)) (by rw[uk,yq]) (zbu _) (zrF _ 108 x.ns (.tail _ (.tail _ (.head _))))) (zjX.refl _)))))))))))⟩,uh⟩ ?_;exact gW [100,101,102,103,104,105,106,107,108,109]
def zlT(h:zd0 d m fuel≠0)(c:Cl):
 zf Tryz.prog 51 [zr (zA d),zr (yS m),zr (yy c),I fuel] [] (.tup [.agg (znE 0 0 0 0),.agg [.p (.k (.slice none 0 0)),.p (.k (.slice none 0 0))],I (zd0 d m fuel)]) []:=by
 have J:=zgX h c;generalize zd0 d m fuel=e at J h⊢;refine gO T Tryz.func51 λC hC=>?_
 repeat' first|refine gG ?_|(exfalso;simp at h;simp_all;done)|refine gB ?_ ?_<;>intro h|refine gC J ?_|refine ze ?_
 exact gF
def zjx(hs:xy m)(hw:zgI d m)(h:zd0 d m fuel=0)(J:zca d m c≠0):
 zf Tryz.prog 51 [zr (zA d),zr (yS m),zr (yy c),I fuel] [] (.tup [.agg (znE 0 0 0 0),.agg [.p (.k (.slice none 0 0)),.p (.k (.slice none 0 0))],I (zca d m c)]) []:=by
 have U:=zfs hs hw h J;generalize zca d m c=e at U J⊢;refine gO T Tryz.func51 λC hC=>?_
 repeat' first|refine gG ?_|(exfalso;simp[J]at h;done)|refine gB ?_ ?_<;>intro h|refine gC U ?_|refine ze ?_
 exact gF
def zsc(J:xy m)(U:zgI d m)(hc:zca d m c=0)(h:zd0 d m fuel=0){k:Nat}{fl v:Int}
 (hr: ∀i p,zaZ d c.p=some i->d.procs[i]?=some p->plF (rnV d fuel k p c.a (mc0 m))=some (fl,v,x)) (hl:x.acc.length<=1099511627776):
 zf Tryz.prog 51 [zr (zA d),zr (yS m),zr (yy c),I fuel] [] (.tup [.agg (znE fl v x.comps (ndC x.acc)),zr (yS ⟨x.g,x.ns⟩),I 0]) []:=by
 have hS:=zoR J U hc h hr hl;refine gO T Tryz.func51 λC hC=>?_
 repeat' first|refine gG ?_|exact gD|refine gB ?_ ?_<;>intro h|refine gR hS (nm [100,101,102,103,104,105,106,107,108,109]) ?_|refine ze ?_
 exact gF
def zoS(x:Fld)(s:Str):zf Tryz.prog 243 [zr (zG x),.one (.bx 0 0)] [(0,.box [.p (ks s)])] (.bq (decide (x.n=s))) [(0,.box [.p (ks s)])]:=by
 refine gO T Tryz.func243 λC hC=>?_
 repeat' first|refine gG ?_|refine gB ?_ ?_<;>intro h|refine ze ?_
 exact gE
def zsd(i:Nat):zf Tryz.prog 242 [I i] [] (.tup [I i,I 0]) []:=by
 refine gO T Tryz.func242 λC hC=>?_
 repeat' first|refine gG ?_|(exfalso;have h9:=uj h;omega)|refine gB ?_ ?_<;>intro h
 exact gF
variable {i:Nat}
def zgY(t:z7)(s:Str)(h:ixF t.f s=some i):zf Tryz.prog 199 [zr (zW t),Sr s] [] (.tup [I i,I 0]) []:=by
 have J:=jz 243 t.f (λx _=>decide (x.n=s)) (λ_ s=>s) (λc=>c=s) (λx hx c hc=>⟨by subst hc;exact zoS x c,λ_=>hc⟩) s rfl;rw[yX]at J;have U:t.f.findIdx? (λx=>decide (x.n=s))=some i:=h;rw[U]at J;simp only[idxI]at J;have hI:=zsd i;refine gO T Tryz.func199 λC hC=>?_
 repeat' first|refine gG ?_|refine gB ?_ ?_<;>intro h|refine gR J (nm [1003]) ?_|refine gC hI ?_
 exact gF
def tyI(d:zg)(m:Hp)(n:Int):Str:=if n=0 then(⟨#[]⟩:UB)else tyN d (ndG m n).t
def zlU(hs:xy m)(hw:zgI d m)(k:Kn){n:Int}(h:isB m n=true):zf Tryz.prog 93 [.one (.bx 0 0),I n] (imR d m k 0 1 2) (Sr (tyI d m n)) (imR d m k 0 1 2):=by
 unfold isB at h;simp only[um,uq]at h;have hn:=hs.n;unfold tyI;by_cases h0:n=0
 ·rw[uw h0];refine gO T Tryz.func93 λC hC=>?_
  repeat' first|refine gG ?_|(exfalso;have h9:=uo h;omega)|refine gB ?_ ?_<;>intro h|refine ze ?_
  exact gE
 ·rw[ur h0];obtain⟨x,J⟩:=zb (l:=m.n) (i:=(n - 1).toNat) ua;obtain⟨h1,h2⟩:=hw x (uv J);obtain⟨y,hy⟩:=zb h2;have U:IntKind.i64.wrap (n - 1)=n - 1:=wrap64 ua;rw[show tyN d (ndG m n).t=y.n by simp only[ndG,J,Option.getD_some,tyN,hy,uH]];refine gO T Tryz.func93 λC hC=>?_
  repeat' first|refine gG ?_|(exfalso;have h9:=uj h;omega)|refine gB ?_ ?_<;>intro h|(rw[U];refine gI T (yV J) ?_)|(refine xX T hC rfl rfl rfl h1 (yV hy) rfl rfl ?_)|refine ze ?_
  exact gE
def zlV(hs:xy m)(k:Kn)(v:Int)(s:Str):FnX Tryz.prog 139 [.one (.bx 0 0),I v,Sr s] (imR d m k 0 1 2) (bE d m (fldI d m v s k)):=by
 have hn:=hs.n;unfold fldI;by_cases U:v=0
 ·rw[uw U];show zU _ _ _ _ _ _;refine zR T Tryz.func139 ud rfl rfl rfl λC hC=>?_
  repeat' first|refine gG ?_|(exfalso;have h9:=uo h;omega)|refine gB ?_ ?_<;>intro h|(refine zb7 hC [.int .i64 17] rfl ud rfl rfl ?_)|(refine xw hC rfl rfl ?_)
  all_goals first
   |exact gU (zi ⟨rfl,id,⟨rfl,rfl,rfl,uh⟩,rfl,rfl⟩)
   |exact zi ⟨rfl,id,⟨rfl,rfl,rfl,uh⟩,rfl,rfl⟩
 ·rw[ur U];by_cases hv:v<0
  ·rw[uw hv];trivial
  ·rw[ur hv];cases hx:m.n[(v - 1).toNat]? with
   |none=>trivial
   |some x=>
    simp only;by_cases ht:x.t<0
    ·rw[uw ht];trivial
    ·rw[ur ht];cases hy:d.types[x.t.toNat]? with
     |none=>trivial
     |some t=>
      simp only;cases hi:ixF t.f s with
      |none=>trivial
      |some i=>
       simp only;cases hu:x.f[i]? with
       |none=>trivial
       |some u=>
        simp only;have hlt:=(ux.1 hx).1;have J:IntKind.i64.wrap (v - 1)=v - 1:=wrap64 ua;have hF:=zgY t s hi;show zf _ _ _ _ _ _;refine gO T Tryz.func139 λC hC=>?_
        repeat' first|refine gG ?_|(exfalso;have h9:=uj h;omega)|refine gB ?_ ?_<;>intro h|(rw[J];refine gI T (yV hx) ?_)|(refine gI T (yV hy) ?_)|refine gC hF ?_|(refine gI T (zq hu) ?_)|refine ze ?_
        exact gE
abbrev zv3(d:zg)(m:Hp)(nd:Int)(e:Ex)(k:Kn)(r:Bn):Prop:=FnX Tryz.prog 96 [.one (.bx 0 0),zr (yp e),I nd] (imR d m k 0 1 2) (bE d m r)
abbrev zwK(d:zg)(m:Hp)(i:Nat)(nd:Int)(k:Kn)(r:Bn):Prop:=FnX Tryz.prog 140 [.one (.bx 0 0),I i,I nd] (imR d m k 0 1 2) (bE d m r)
def zil: ∀M,RepEV M (.o (ki 0)) (.int .i64 0):=λM=>by simp only[RepEV,RepPV];exact⟨uh,rfl⟩
def zlW{nd:Int}{q:K2}(h:zpK i nd=some q):(q.1.val:Int)=i/\(q.2.val:Int)=nd:=by
 unfold zpK at h;split at h
 ·rename_i hh;simp only[ui]at h;subst h;exact⟨rfl,by simp only;omega⟩
 ·cases h
theorem zoT(g:Nat)(hE: ∀nd e k,zv3 d m nd e k (inV d m g nd e k))(i:Nat)(nd:Int)(k:Kn):zwK d m i nd k (meV d m (g+1) i nd k):=by
 rw[meV];cases hx:d.measures[i]? with
 |none=>trivial
 |some x=>
  simp only;by_cases h0:nd=0
  ·rw[uw h0];show zf _ _ _ _ _ _;refine gO T Tryz.func140 λC hC=>?_
   repeat' first|refine gG ?_|(exfalso;have h9:=uo h;omega)|refine gB ?_ ?_<;>intro h|(refine gI T (zq hx) ?_)|refine ze ?_
   exact gE
  ·rw[ur h0];cases hq:zpK i nd with
   |none=>trivial
   |some q=>
    simp only;obtain⟨e1,e2⟩:=zlW hq;have key:(S.agg [.p (ki (i:Int)),.p (ki nd)])=k2G.s q:=by show _=S.agg [.p (ki (q.1.val:Int)),.p (ki (q.2.val:Int))];rw[e1,e2]
    cases hk:lkI k.kn q with
    |none=>trivial
    |some ov=>
     cases ov with
     |some v=>
      have J:=znQ hk;show zf _ _ _ _ _ _;refine gO T Tryz.func140 λC hC=>?_
      repeat' first|refine gG ?_|(exfalso;have h9:=uj h;omega)|exact gD|refine gB ?_ ?_<;>intro h|(refine gI T (zq hx) ?_)|(refine yz k2G hC (et:=3) (c0:= .int .i64 0) (k0:=q) (.o (ki 0)) (pv:= .o (ki v)) (b:=true) rfl (u5 some key) rfl ud ud zil (by rw[J];rfl) (by rw[J];rfl) rfl rfl ?_)|refine ze ?_
      exact gE
     |none=>
      have J:=znR hk;simp only;cases hb:lkB k.bu q with
      |none=>trivial
      |some bb=>
       have hgb:=zq3 hb;cases bb with
       |true=>
        show zU _ _ _ _ _ _;refine zR T Tryz.func140 ud rfl rfl rfl λC hC=>?_
        repeat' first|refine gG ?_|(exfalso;have h9:=uj h;omega)|exact gD|refine gB ?_ ?_<;>intro h|(refine gI T (zq hx) ?_)|(refine yz k2G hC (et:=3) (c0:= .int .i64 0) (k0:=q) (.o (ki 0)) (pv:= .o (ki 0)) (b:=false) rfl (u5 some key) rfl ud ud zil (by rw[J];rfl) (by rw[J];rfl) rfl rfl ?_)|(refine vo k2G hC (et:=4) (c0:= .bool false) (k0:=q) (.o (.k (.bool false))) (pv:= .o (.k (.bool true))) rfl (u5 some key) rfl ud ud (zfl false) hgb rfl rfl ?_)|(refine zb7 hC [.int .i64 16] rfl ud rfl rfl ?_)|(refine xw hC rfl rfl ?_)
        exact gU (zi ⟨rfl,id,⟨rfl,rfl,rfl,uh⟩,rfl,rfl⟩)
       |false=>
        simp only;have U:=hE nd x.x { k with bu:=putG k.bu q (.o (.k (.bool true))) };cases hr:inV d m g nd x.x { k with bu:=putG k.bu q (.o (.k (.bool true))) } with
        |out=>trivial
        |ok v k1=>
         rw[hr]at U;have U:zf _ _ _ _ _ _:=U;show zf _ _ _ _ _ _;refine gO T Tryz.func140 λC hC=>?_
         repeat' first|refine gG ?_|(exfalso;have h9:=uj h;omega)|exact gD|refine gB ?_ ?_<;>intro h|(refine gI T (zq hx) ?_)|(refine yz k2G hC (et:=3) (c0:= .int .i64 0) (k0:=q) (.o (ki 0)) (pv:= .o (ki 0)) (b:=false) rfl (u5 some key) rfl ud ud zil (by rw[J];rfl) (by rw[J];rfl) rfl rfl ?_)|(refine vo k2G hC (et:=4) (c0:= .bool false) (k0:=q) (.o (.k (.bool false))) (pv:= .o (.k (.bool false))) rfl (u5 some key) rfl ud ud (zfl false) hgb rfl rfl ?_)|(refine zcL k2G hC (et:=4) (k0:=q) (pv:= .o (.k (.bool true))) rfl (u5 some key) rfl rfl ud rfl rfl ?_)|refine gR U (nm [0,1,2]) ?_|(refine ztM k2G hC (et:=4) (k0:=q) rfl (u5 some key) rfl ud rfl rfl rfl ?_)|(refine zcL k2G hC (et:=3) (k0:=q) (pv:= .o (ki v)) rfl (u5 some key) rfl rfl ud rfl rfl ?_)|refine ze ?_
         exact gE
        |flt e k1=>
         rw[hr]at U;have U:zU _ _ _ _ _ _:=U;show zU _ _ _ _ _ _;refine zR T Tryz.func140 ud rfl rfl rfl λC hC=>?_
         repeat' first|refine gG ?_|(exfalso;have h9:=uj h;omega)|exact gD|refine gB ?_ ?_<;>intro h|(refine gI T (zq hx) ?_)|(refine yz k2G hC (et:=3) (c0:= .int .i64 0) (k0:=q) (.o (ki 0)) (pv:= .o (ki 0)) (b:=false) rfl (u5 some key) rfl ud ud zil (by rw[J];rfl) (by rw[J];rfl) rfl rfl ?_)|(refine vo k2G hC (et:=4) (c0:= .bool false) (k0:=q) (.o (.k (.bool false))) (pv:= .o (.k (.bool false))) rfl (u5 some key) rfl ud ud (zfl false) hgb rfl rfl ?_)|(refine zcL k2G hC (et:=4) (k0:=q) (pv:= .o (.k (.bool true))) rfl (u5 some key) rfl rfl ud rfl rfl ?_)|(refine zo hC U (nm [0,1,2]) rfl rfl (zI.refl _) rfl rfl rfl rfl rfl rfl ?_)
         exact gU (zi ⟨rfl,id,⟨rfl,rfl,rfl,uh⟩,rfl,rfl⟩)
abbrev clI(e:Ex)(nd:Int):RL:=[(5,.box [.bx 0 0]),(6,.box ((yp e).map V.p)),(7,.box [.p (ki nd)])]
noncomputable def aE(d:zg)(m:Hp)(e:Ex)(nd:Int):Bn->End
 | .ok v k=> .ok (I v) (imR d m k 0 1 2++clI e nd)
 | .flt er k=> .pn (flI er) (imR d m k 0 1 2++clI e nd)
 | .out=> .no
abbrev zwL(d:zg)(m:Hp)(nd:Int)(e:Ex)(i:Nat)(k:Kn)(r:Bn):Prop:=FnX Tryz.prog 137 [I i,.one (.bx 5 0),.one (.bx 6 0),.one (.bx 7 0)] (imR d m k 0 1 2++clI e nd) (aE d m e nd r)
theorem zoU(g:Nat)(hE: ∀nd e k,zv3 d m nd e k (inV d m g nd e k))(nd:Int)(e:Ex)(i:Nat)(k:Kn):zwL d m nd e i k (atV d m (g+1) nd e i k):=by
 rw[atV];cases U:e.l[i]? with
 |none=>trivial
 |some x=>
  simp only;have J:=hE nd x k;cases hr:inV d m g nd x k with
  |out=>trivial
  |ok v k1=>
   rw[hr]at J;have J:zf _ _ _ _ _ _:=J;show zf _ _ _ _ _ _;refine gO T Tryz.func137 λC hC=>?_
   repeat' first|refine gG ?_|refine gB ?_ ?_<;>intro h|(refine gI T (wh U) ?_)|refine gR J (nm [0,1,2]) ?_
   exact gE
  |flt er k1=>
   rw[hr]at J;have J:zU _ _ _ _ _ _:=J;show zU _ _ _ _ _ _;refine zR T Tryz.func137 ud rfl rfl rfl λC hC=>?_
   repeat' first|refine gG ?_|refine gB ?_ ?_<;>intro h|(refine gI T (wh U) ?_)|(refine xq T hC J (nm [0,1,2]) [5,6,7] rfl rfl (zI.refl _) rfl rfl rfl rfl rfl ud ud ?_)
   exact gU (zi ⟨rfl,id,⟨rfl,rfl,rfl,rfl,rfl,rfl,uh⟩,rfl,rfl⟩)
end Hw.Gm
namespace Hw
open Go
theorem zd2(σ:Nat->Nat): ∀ {A B:RL},(A++B).ren σ=A.ren σ++B.ren σ
 | [],_=>rfl
 |(i,r)::A,B=>by simp only[uL,RL.ren,zd2 σ (A:=A)]
theorem zim: ∀ {A B:RL},RL.ids (A++B)=A.ids++B.ids
 | [],_=>rfl
 |(i,r)::A,B=>by simp only[uL,RL.ids,zim (A:=A)]
theorem zlX: ∀ {A B:RL},tb (A++B)=tb A++tb B
 | [],_=>rfl
 |(i,r)::A,B=>by simp only[uL,tb,zlX (A:=A)]
theorem zin{i:Nat}: ∀ {l:List Nat} {t:Tab},i∈l->tg (xp l++t) i=none
 |x::l,t,h=>by
  simp only[xp,uL,zy];split
  ·rfl
  ·rename_i ne;rcases uI.1 h with e|h
   ·omega
   ·exact zin h
variable {i:Nat}{tab:Tab}
theorem zio{Rw Rr Rw':RL}{σ:Nat->Nat}(hT: ∀j s,(j,s)∈Rr.ren σ->tg tab j=some s){r:Res}(h:tg ((tb (Rw'.ren σ)++xp (Rw.ids.map σ))++tab) i=some r):
 tg ((tb ((Rw'++Rr).ren σ)++xp ((RL.ids (Rw++Rr)).map σ))++tab) i=some r:=by
 rw[zd2,zim,zlX,u6];simp only[tE]at h⊢;cases h1:hasB i (keysT (tb (Rw'.ren σ)))with
 |true=>
  rw[wx (b':=[]) h1]at h⊢;exact h
 |false=>
  rw[yR h1]at h⊢;rcases Classical.em (i∈Rw.ids.map σ)with U|U
  ·rw[zin U]at h;cases h
  ·rw[zbE U]at h;refine zj6 hT (λJ=>?_) h;rcases tp.1 J with J|J
   ·exact absurd J U
   ·rw[zf1];exact J
variable {P:Program}{af:Array Edge}{args ss:List S}{d:Option Nat}{f:FuncId}{g:Option (Nat×Bool)}{ps:String}{res:S}{ts:Array TypeId}{x:Operand}
section
variable {ty:TypeId}
def zse{Rw Rr Rw':RL}(h:zf P f args (Rw++Rr) res (Rw'++Rr))(σ:Nat->Nat){l:List Operand}{first caps:List V}
 (hx:okc x (.one (.cl f first caps))) (hl:zes l ss) (J:zI (ones first++ss++ones caps) (Ss.ren σ args)) (hi:injB σ (RL.ids (Rw++Rr))=true) (U:injB σ (RL.ids (Rw'++Rr))=true)
 (hc:cloS (RL.ids (Rw++Rr)++RL.ids (Rw'++Rr)) res=true) (hcR:xH (RL.ids (Rw++Rr)++RL.ids (Rw'++Rr)) (Rw'++Rr)=true):
 Snd P ⟨d,.call ⟨.value x,l.toArray,ts⟩,ty,ps,af,g⟩ (rq x (.one (.cl f first caps))++rqs l ss) ((Rw++Rr).ren σ) ((zP (Rw++Rr) (Rw'++Rr)).map σ) (res.ren σ) (tb (Rw'.ren σ)++xp (Rw.ids.map σ)):=by
 intro C st M ρ a w hH h1 hT hF hd k Q hk;refine zhz h σ hx hl J hi U hc hcR C st M ρ a w hH h1 hT hF hd k Q λa' w' M' ρ' hH'=>hk a' w' M' ρ' ?_
 refine hH'.shift rfl rfl λi r hr=>?_;exact zio (λj s hm=>xi hT (by rw[zd2];simp_all)) hr
end
variable {C:Ctx}{Q:Exit->St->Prop}{all:Array Oper}{rest:List Oper}
section
variable {k:List Frm} {n:Nat} {sl:zd}
def yd{l:List Operand}{ty:TypeId}{g0:Option (Nat×Bool)}{gs:zd}{md:Mode}(hC:C.low){first caps:List V}{Rw Rr Rw':RL}
 (h:zf P f args (Rw++Rr) res (Rw'++Rr)) (σ:Nat->Nat) (hx:ev sl x=some (.one (.cl f first caps))) (hl:evs sl l=some ss) (ha:zI (ones first++ss++ones caps) (Ss.ren σ args)) (hi:injB σ (RL.ids (Rw++Rr))=true) (J:injB σ (RL.ids (Rw'++Rr))=true)
 (hc:cloS (RL.ids (Rw++Rr)++RL.ids (Rw'++Rr)) res=true) (U:xH (RL.ids (Rw++Rr)++RL.ids (Rw'++Rr)) (Rw'++Rr)=true) (hT:rdT tab ((Rw++Rr).ren σ)=(Rw++Rr).ren σ) (hfr:allB (λid=>Nat.ble 100 id&&freshB id ⟨n,sl,tab⟩) ((zP (Rw++Rr) (Rw'++Rr)).map σ)=true) (hm:metL all sl g0=some gs) (hd:dok d n=true)
 (g:Goal P C (.ops all rest (nx md ⟨d,gs++(rq x (.one (.cl f first caps))++rqs l ss),(Rw++Rr).ren σ,(zP (Rw++Rr) (Rw'++Rr)).map σ,res.ren σ,tb (Rw'.ren σ)++xp (Rw.ids.map σ)⟩)) k n (app d (res.ren σ) (tb (Rw'.ren σ)++xp (Rw.ids.map σ)) ⟨n,sl,tab⟩).sl ((tb (Rw'.ren σ)++xp (Rw.ids.map σ))++tab) Q):
 Goal P C (.ops all (⟨d,.call ⟨.value x,l.toArray,ts⟩,ty,ps,af,g0⟩::rest) md) k n sl tab Q:=by
 have e1:=zu (st:=⟨n,sl,tab⟩) hx;have e2:=xl (st:=⟨n,sl,tab⟩) hl;have:=zj hm (zse (ty:=ty) (ps:=ps) (af:=af) (g:=g0) (d:=d) (ts:=ts) h σ e1.1 e2.1 ha hi J hc U) (n:=n) (tab:=tab);exact zN (L:=⟨d,gs++(rq x (.one (.cl f first caps))++rqs l ss),(Rw++Rr).ren σ,(zP (Rw++Rr) (Rw'++Rr)).map σ,res.ren σ,tb (Rw'.ren σ)++xp (Rw.ids.map σ)⟩) hC this.1 rfl ⟨by rw[za,za];simp_all,vW hT,hfr,hd⟩ g
end
section
variable {ty:TypeId}
def zoV{Rw Rr Rw':RL}{pv:Value}(h:zU P f args (Rw++Rr) pv (Rw'++Rr))(σ:Nat->Nat){l:List Operand}{first caps:List V}
 (hx:okc x (.one (.cl f first caps))) (hl:zes l ss) (J:zI (ones first++ss++ones caps) (Ss.ren σ args)) (hi:injB σ (RL.ids (Rw++Rr))=true) (U:injB σ (RL.ids (Rw'++Rr))=true)
 (hcR:xH (RL.ids (Rw++Rr)++RL.ids (Rw'++Rr)) (Rw'++Rr)=true):
 PnO P ⟨d,.call ⟨.value x,l.toArray,ts⟩,ty,ps,af,g⟩ (rq x (.one (.cl f first caps))++rqs l ss) ((Rw++Rr).ren σ) ((zP (Rw++Rr) (Rw'++Rr)).map σ) pv (tb (Rw'.ren σ)++xp (Rw.ids.map σ)):=by
 intro C st M ρ a w hH h1 hT hF K Q hk;refine zf3 h σ hx hl J hi U hcR C st M ρ a w hH h1 hT hF K Q λM' ρ' w' hH'=>hk M' ρ' w' ?_
 refine hH'.shift rfl rfl λi r hr=>?_;exact zio (λj s hm=>xi hT (by rw[zd2];simp_all)) hr
end
end Hw
namespace Hw.Gm
open Go Go.Proofs Hw.M Ps
def zsf{d:zg}{m:Hp}{nd:Int}{e:Ex}{k k1:Kn}{v:Int}(o:e.op=24)(hv:v<9223372036854775808)
 (U:zf Tryz.prog 137 [I 0,.one (.bx 5 0),.one (.bx 6 0),.one (.bx 7 0)] (imR d m k 0 1 2++clI e nd) (I v) (imR d m k1 0 1 2++clI e nd)):
 zf Tryz.prog 96 [.one (.bx 0 0),zr (yp e),I nd] (imR d m k 0 1 2) (I (zi5 v)) (imR d m k1 0 1 2):=by
 have hL:=zll v.toNat ua;have hm:(if(0:Int)<v then v else 0)=(v.toNat:Int):=by split<;>omega
 have hc:IntKind.u64.wrap (v.toNat:Int)=(v.toNat:Int):=by rw[IntKind.wrap_u64];omega
 have hl:(if(0:Int)<IntKind.i64.wrap ((Lib.bitLen v.toNat:Int) - 1)then IntKind.i64.wrap ((Lib.bitLen v.toNat:Int) - 1)else 0)=zi5 v:=by
  unfold zi5;by_cases J:v<1
  ·have:v.toNat=0:=by omega
   rw[this,uw J];decide
  ·rw[ur J,zaQ ua ua]
   have hlt:Nat.log2 v.toNat<64:=by
    rw[oC ua];omega
   rw[wrap64 ua];split<;>omega
 refine gO T Tryz.func96 λC hC=>?_
 repeat' first|refine gG ?_|exact gD|(exfalso;first|(have h0:=uj h;omega)|(have h0:=uo h;omega))|refine gB ?_ ?_<;>intro h|(refine yd hC U (nm [0,1,2,3,4,1003,1004,1005]) rfl rfl (zI.refl _) rfl rfl rfl rfl rfl rfl rfl rfl ?_)|(refine vQ hC (v.toNat:Int) rfl rfl hm rfl rfl ?_)|(rw[hc];refine gC hL ?_)|(refine vQ hC (zi5 v) rfl rfl hl rfl rfl ?_)
 exact gE
end Hw.Gm
