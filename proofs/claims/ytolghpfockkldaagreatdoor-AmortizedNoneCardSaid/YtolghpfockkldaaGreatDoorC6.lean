import Derived.Test.YtolghpfockkldaaGreatDoorC2
import Derived.Test.YtolghpfockkldaaGreatDoorC5
import Derived.Test.YtolghpfockkldaaGreatDoorC3
import Derived.RangeFuncLeaves
import Derived.RangeFuncRecord
import Derived.RangeFuncSeq
import Derived.OrdersIn
import Derived.TacticsIn
import Derived.Test.YtolghpfockkldaaGreatDoorC1
import Derived.Test.YtolghpfockkldaaGreatDoorC4
import Derived.Test.YtolghpfockkldaaGreatDoorE3
set_option linter.defProp false
set_option linter.unusedVariables false
set_option linter.unusedSimpArgs false
set_option linter.unusedSectionVars false
set_option linter.unnecessarySimpa false
namespace Hw.Gm
open Go Go.Proofs Hw.M Ps Tryz
variable {fuel:Int}
theorem zh5{β:Type}{m:Mc}{c:Mc->An β}:(m.ticks≥fuel/\zbH fuel m c= .flt 20 m)\/(¬m.ticks≥fuel/\zbH fuel m c= .out)\/(¬m.ticks≥fuel/\(0<=m.ticks/\m.ticks<1099511627776)/\zbH fuel m c=c m.tk):=by
 unfold zbH;by_cases h:m.ticks≥fuel
 ·rw[uw h];exact .inl ⟨h,rfl⟩
 ·rw[ur h];rcases x8 (p:=0<=m.ticks/\m.ticks<1099511627776) (x:=c { m with ticks:=m.ticks+1 })with e|⟨J,e⟩
  ·exact .inr (.inl ⟨h,e⟩)
  ·exact .inr (.inr ⟨h,J,e⟩)
inductive WhN (d:zf) (fuel:Int) (fr:Fr) (c:Ex) (l:List Sm) (m:Mc) (res:An (Option Int×Fr)) (j:Nat):Prop
 |cf (er:Int) (m1:Mc) (h:exV d fuel fr j c m= .flt er m1) (e:res= .flt er m1)
 |cn (v:Int) (m1:Mc) (h:exV d fuel fr j c m= .ok v m1) (hv:v≠1) (e:res= .ok (none,fr) m1)
 |bf (m1:Mc) (er:Int) (m2:Mc) (h:exV d fuel fr j c m= .ok 1 m1) (h2:ssV d fuel j fr l m1= .flt er m2) (e:res= .flt er m2)
 |br (m1:Mc) (r:Int) (fr2:Fr) (m2:Mc) (h:exV d fuel fr j c m= .ok 1 m1) (h2:ssV d fuel j fr l m1= .ok (some r,fr2) m2) (e:res= .ok (some r,fr2) m2)
 |tf (m1:Mc) (fr2:Fr) (m2:Mc) (h:exV d fuel fr j c m= .ok 1 m1) (h2:ssV d fuel j fr l m1= .ok (none,fr2) m2) (h3:m2.ticks≥fuel) (e:res= .flt 20 m2)
 |go (m1:Mc) (fr2:Fr) (m2:Mc) (h:exV d fuel fr j c m= .ok 1 m1) (h2:ssV d fuel j fr l m1= .ok (none,fr2) m2) (h3: ¬m2.ticks≥fuel) (h4:0<=m2.ticks/\m2.ticks<1099511627776) (e:whV d fuel j fr2 c l m2.tk=res)
variable {d:zf}
theorem zsc{fr:Fr}{k:Nat}{c:Ex}{l:List Sm}{m:Mc}{res:An (Option Int×Fr)}(h:whV d fuel k fr c l m=res)(J:res≠ .out): ∃j,k=j+1/\WhN d fuel fr c l m res j:=by
 cases k with
 |zero=>rw[whV]at h;exact absurd h.symm J
 |succ j=>
  refine⟨j,rfl,?_⟩;rw[whV]at h;cases hx:exV d fuel fr j c m with
  |out=>rw[hx]at h;exact absurd h.symm J
  |flt er m1=>rw[hx]at h;exact .cf er m1 hx h.symm
  |ok v m1=>
   rw[hx]at h;simp only[An.bind]at h;by_cases hv:v=1
   ·subst hv;rw[uw rfl]at h;cases hs:ssV d fuel j fr l m1 with
    |out=>rw[hs]at h;exact absurd h.symm J
    |flt er m2=>rw[hs]at h;exact .bf m1 er m2 hx hs h.symm
    |ok q m2=>
     rw[hs]at h;obtain⟨o,fr2⟩:=q;cases o with
     |some r=>exact .br m1 r fr2 m2 hx hs h.symm
     |none=>
      simp only at h;rcases zh5 (fuel:=fuel) (m:=m2) (c:=λm=>whV d fuel j fr2 c l m)with⟨h3,e⟩|⟨h3,e⟩|⟨h3,h4,e⟩
      ·rw[e]at h;exact .tf m1 fr2 m2 hx hs h3 h.symm
      ·rw[e]at h;exact absurd h.symm J
      ·rw[e]at h;exact .go m1 fr2 m2 hx hs h3 h4 h
   ·rw[ur hv]at h;exact .cn v m1 hx hv h.symm
def whT(d:zf)(fuel:Int)(x:Sm)(q:Nat×Fr×Mc):zb×Tab:=
 ([(0,.one (.bx 0 0)),(1,.one (.bx 5 0)),(5,.one (.bx 1005 0)),(6,.one (.bx 1006 0))],
  [(1005,some (.box ((zgp x).map V.p))),(1006,some (.box [.p (.k (.bool false)),.p (ki 0)])),(0,some (.box (mcC d fuel q.2.2 1 107 109))),(1,some (.arr 1 (q.2.2.g.map zN))),(107,some (.vw [108] 2 (wRows q.2.2.ns 0))),(108,some (.bag 1 (jP q.2.2.ns))),(109,some (.arr 3 (q.2.2.acc.map zgB))),
   (5,some (.box [.p (zw q.2.1.vs),.ar 6])),(6,some (.arr 1 (q.2.1.va.map zN)))])
set_option maxHeartbeats 2000000 in
theorem zyp{fr:Fr}{x:Sm}{m:Mc}{k:Nat}(ihE: ∀j,j<=k-> ∀fr e m,wq d fuel fr e m (exV d fuel fr j e m))(ihS: ∀j,j<=k-> ∀fr l m,ztH d fuel fr l m (ssV d fuel j fr l m))
 (hT:zh prog 273 [.one (.bx 0 0)] (mcR d fuel m 1 2 3 4) (.tup []) (mcR d fuel m.tk 1 2 3 4))
 (hop:x.op=4) {y:Ex} (hy:x.e[0]?=some y):zfP d fuel fr x m (whV d fuel k fr y x.l m.tk):=by
 obtain⟨res,hres⟩: ∃res,whV d fuel k fr y x.l m.tk=res:=⟨_,rfl⟩;rw[hres];by_cases hn:res= .out
 ·rw[hn];trivial
 refine zxP T func260 ud rfl rfl rfl rfl λC hC=>?_
 repeat' first|refine gG ?_|(exfalso;first|(have h0:=uk h;omega)|(have h0:=uo h;omega))|refine gB ?_ ?_<;>intro h|refine gR hT ir ?_
 refine zj (λq:Nat×Fr×Mc=>q.1<=k/\whV d fuel q.1 q.2.1 y x.l q.2.2=res) (whT d fuel x) (λq=>q.1) hC
  (k,fr,m.tk) ⟨uM _,hres⟩ (ms [(107,2),(108,3),(109,4)]) ⟨rfl,⟨rfl,rfl,rfl,rfl,uh⟩,⟨rfl,rfl,rfl,rfl,rfl,rfl,rfl,rfl,rfl,uh⟩,rfl,y4 rfl⟩ ?_
 clear hres hT;rintro⟨k1,fr1,m1⟩ ⟨hk,hv⟩;simp only at hk hv;obtain⟨j,rfl,hcase⟩:=zsc hv hn;have J:=ihE j ua fr1 y m1;have U:=ihS j ua fr1 x.l;rcases hcase with⟨er,m2,h1,rfl⟩|⟨v,m2,h1,hne,rfl⟩|⟨m2,er,m3,h1,h2,rfl⟩|⟨m2,r,fr2,m3,h1,h2,rfl⟩|⟨m2,fr2,m3,h1,h2,h3,rfl⟩|⟨m2,fr2,m3,h1,h2,h3,h4,hnx⟩
 ·rw[h1]at J;have J:yH _ _ _ _ _ _:=J
  repeat' first|refine gG ?_|refine gB ?_ ?_<;>intro h|refine gIt (zx hy) ?_|refine gCN J im ?_
  exact gU (zcD (gU (zeq ⟨rfl,iz,⟨rfl,rfl,rfl,rfl,rfl,uh⟩,rfl,rfl⟩)))
 ·rw[h1]at J;have J:zh _ _ _ _ _ _:=J
  repeat' first|refine gG ?_|(exfalso;exact hne (uk h))|refine gB ?_ ?_<;>intro h|refine gIt (zx hy) ?_|refine gR J im ?_|refine zd ?_
  exact zdj ⟨.inl rfl,iz,_,rfl,.refl _,⟨rfl,rfl,rfl,rfl,rfl,rfl,rfl,uh⟩,rfl,rfl⟩
 ·rw[h1]at J;have J:zh _ _ _ _ _ _:=J;have U:=U m2;rw[h2]at U;have U:yH _ _ _ _ _ _:=U
  repeat' first|refine gG ?_|exact gD|refine gB ?_ ?_<;>intro h|refine gIt (zx hy) ?_|refine gR J im ?_|refine gCN U iJ ?_
  exact gU (zcD (gU (zeq ⟨rfl,iO,⟨rfl,rfl,rfl,rfl,rfl,uh⟩,rfl,rfl⟩)))
 ·rw[h1]at J;have J:zh _ _ _ _ _ _:=J;have U:=U m2;rw[h2]at U;have U:zh _ _ _ _ _ _:=U
  repeat' first|refine gG ?_|exact gD|refine gB ?_ ?_<;>intro h|refine gIt (zx hy) ?_|refine gR J im ?_|refine gR U iJ ?_|refine zk ?_
  exact zdj ⟨.inl rfl,iO,_,rfl,.refl _,⟨rfl,rfl,rfl,rfl,rfl,rfl,rfl,uh⟩,rfl,rfl⟩
 ·rw[h1]at J;have J:zh _ _ _ _ _ _:=J;have U:=U m2;rw[h2]at U;have U:zh _ _ _ _ _ _:=U;have hK:=zlx d fuel m3 h3
  repeat' first|refine gG ?_|exact gD|refine gB ?_ ?_<;>intro h|refine gIt (zx hy) ?_|refine gR J im ?_|refine gR U iJ ?_|refine gCN hK (nm [0,1,127,128,129]) ?_
  exact gU (zcD (gU (zeq ⟨rfl,iO,⟨rfl,rfl,rfl,rfl,rfl,uh⟩,rfl,rfl⟩)))
 ·rw[h1]at J;have J:zh _ _ _ _ _ _:=J;have U:=U m2;rw[h2]at U;have U:zh _ _ _ _ _ _:=U;have hK:=zly d fuel m3 h3 h4
  repeat' first|refine gG ?_|exact gD|refine gB ?_ ?_<;>intro h|refine gIt (zx hy) ?_|refine gR J im ?_|refine gR U iJ ?_|refine gR hK (nm [0,1,127,128,129]) ?_
  exact zg (j,fr2,m3.tk) ⟨by simp only;omega,hnx⟩ (ms [(107,127),(108,128),(109,129)]) (by simp only;omega) ⟨rfl,⟨rfl,rfl,rfl,rfl,uh⟩,⟨rfl,rfl,rfl,rfl,rfl,rfl,rfl,rfl,rfl,uh⟩,rfl,y4 rfl⟩
theorem zu1{k:Nat}(ihE: ∀j,j<=k-> ∀fr e m,wq d fuel fr e m (exV d fuel fr j e m))(ihC: ∀fr e m,zr3 d fuel fr e m (clV d fuel fr k e m))(ihS: ∀j,j<=k-> ∀fr l m,ztH d fuel fr l m (ssV d fuel j fr l m))
 (fr:Fr) (x:Sm) (m:Mc):zfP d fuel fr x m (sV d fuel (k+1) fr x m):=by
 rw[sV]
 rcases zh5 (fuel:=fuel) (m:=m) (c:=λm=>
  if x.op=1 then(atA x.e 0 λy=>exV d fuel fr k y m).bind λv m=>stV d fr x.s v m
  else if x.op=2 then(atA x.e 0 λy=>exV d fuel fr k y m).bind λn m=>(atA x.e 1 λy=>exV d fuel fr k y m).bind λv m=>ptV d fr x.s n v m
  else if x.op=3 then(atA x.e 0 λy=>exV d fuel fr k y m).bind λv m=>if v=1 then ssV d fuel k fr x.l m else ssV d fuel k fr x.els m
  else if x.op=4 then atA x.e 0 λy=>whV d fuel k fr y x.l m
  else if x.op=5 then(if x.e.length=0 then .ok (some 0,fr) m else(atA x.e 0 λy=>exV d fuel fr k y m).bind λv m=> .ok (some v,fr) m)
  else if x.op=6 then(atA x.e 0 λy=>clV d fuel fr k y m).bind λ_ m=> .ok (none,fr) m
  else .ok (none,fr) m)with⟨h3,e⟩|⟨h3,e⟩|⟨h3,h4,e⟩
 ·rw[e];exact zsb h3
 ·rw[e];trivial
 rw[e];have hT:zh prog 273 [.one (.bx 0 0)] (mcR d fuel m 1 2 3 4) (.tup []) (mcR d fuel m.tk 1 2 3 4):=zly d fuel m h3 h4
 have first: ∀(f:Int->Mc->An (Option Int×Fr)),(x.op=1\/x.op=2\/x.op=3\/(x.op=5/\x.e.length≠0))->(∀y v m1,x.e[0]?=some y->wq d fuel fr y m.tk (.ok v m1)->zfP d fuel fr x m (f v m1))->
  zfP d fuel fr x m ((atA x.e 0 λy=>exV d fuel fr k y m.tk).bind f):=λf hop hf=>by
  rcases wS (l:=x.e) (i:=0) (f:=λy=>exV d fuel fr k y m.tk)with h|⟨y,J,h⟩
  ·rw[h];trivial
  rw[h];have U:=ihE k (uM _) fr y m.tk;cases hr:exV d fuel fr k y m.tk with
  |ok v m1=>rw[hr]at U;exact hf y v m1 J U
  |flt er m1=>rw[hr]at U;exact zyi hT hop J U
  |out=>trivial
 by_cases h1:x.op=1
 ·rw[uw h1];exact first _ (.inl h1) λy v m1 J U=>zyn hT h1 J U
 rw[ur h1];by_cases h2:x.op=2
 ·rw[uw h2];refine first _ (.inr (.inl h2)) λy v m1 J U=>?_
  rcases wS (l:=x.e) (i:=1) (f:=λy=>exV d fuel fr k y m1)with h|⟨z,hz,h⟩
  ·rw[h];trivial
  rw[h];have hZ:=ihE k (uM _) fr z m1;cases hr:exV d fuel fr k z m1 with
  |ok w m2=>rw[hr]at hZ;exact zyo hT h2 J U hz hZ
  |flt er m2=>rw[hr]at hZ;exact zxf hT h2 J U hz hZ
  |out=>trivial
 rw[ur h2];by_cases h33:x.op=3
 ·rw[uw h33];refine first _ (.inr (.inr (.inl h33))) λy v m1 J U=>zym hT h33 J U ?_
  split
  ·exact ihS k (uM _) fr x.l m1
  ·exact ihS k (uM _) fr x.els m1
 rw[ur h33];by_cases h44:x.op=4
 ·rw[uw h44];rcases wS (l:=x.e) (i:=0) (f:=λy=>whV d fuel k fr y x.l m.tk)with h|⟨y,J,h⟩
  ·rw[h];trivial
  rw[h];exact zyp ihE ihS hT h44 J
 rw[ur h44];by_cases h5:x.op=5
 ·rw[uw h5];by_cases he:x.e.length=0
  ·rw[uw he];exact zxe hT h5 he
  ·rw[ur he];exact first _ (.inr (.inr (.inr ⟨h5,he⟩))) λy v m1 J U=>zyl hT h5 J U
 rw[ur h5];by_cases h6:x.op=6
 ·rw[uw h6];rcases wS (l:=x.e) (i:=0) (f:=λy=>clV d fuel fr k y m.tk)with h|⟨y,J,h⟩
  ·rw[h];trivial
  rw[h];exact zyj hT h6 J (ihC fr y m.tk)
 rw[ur h6];exact zyk hT ua
theorem zoL(d:zf)(fuel:Int): ∀k,(∀fr e m,wq d fuel fr e m (exV d fuel fr k e m))/\(∀fr e m,zr3 d fuel fr e m (clV d fuel fr k e m))/\(∀p a m,zwn d fuel p a m (rnV d fuel k p a m))/\
 (∀fr l m,ztH d fuel fr l m (ssV d fuel k fr l m))/\ ∀fr x m,zfP d fuel fr x m (sV d fuel k fr x m):=by
 intro k
 induction k using Nat.strongRecOn with
 |_ k ih=>
 cases k with
 |zero=>exact⟨λfr e m=>by rw[exV];trivial,λfr e m=>by rw[clV];trivial,λp a m=>by rw[rnV];trivial,λfr l m=>by rw[ssV];trivial,λfr x m=>by rw[sV];trivial⟩
 |succ k=>
  have h:=λj (J:j<=k)=>ih j ua
  exact⟨λfr e m=>zr4 ((h k (uM _)).1 fr) ((h k (uM _)).2.1 fr) e m,λfr e m=>zr5 (λj J=>(h j J).1 fr) (h k (uM _)).2.2.1 e m,λp a m=>zr9 (h k (uM _)).2.2.2.1 p a m,
   λfr l m=>zsa (λj J=>(h j J).2.2.2.2) fr l m,λfr x m=>zu1 (λj J=>(h j J).1) (h k (uM _)).2.1 (λj J=>(h j J).2.2.2.1) fr x m⟩
def ndC(l:List (Int×Int×Int)):Nat:=(l.filter λq=>decide (0<q.2.1)).length
variable {i:Nat}
theorem zoM{l:List (Int×Int×Int)}{q:Int×Int×Int}(h:l[i]?=some q):ndC (l.take (i+1))=ndC (l.take i)+(if 0<q.2.1 then 1 else 0):=by
 unfold ndC;rw[zO h,og,uQ]
 congr 1
 simp only[q8,List.filter_nil];by_cases J:0<q.2.1
 ·rw[uw J,uw (uZ J)];rfl
 ·rw[ur J,ur (by simpa using J)];rfl
theorem zlF{s:S}:LeS s .un:=λ_ _ _ _=>by simp only[RepS]
def zh6(fl v co nd:Int):List V:=[.p (ki fl),.p (ki v),.p (ki co),.p (ki nd),.p (ki 0)]
abbrev plR(d:zf)(fuel:Int)(m:Mc)(fl v co nd:Int):RL:=mcR d fuel m 1 2 3 4++[(5,.box (zh6 fl v co nd)),(6,.box [.bx 0 0])]
set_option maxRecDepth 100000 in
theorem zh7(d:zf)(fuel:Int)(m:Mc)(v:Int)(rq:Option Int)(hl:m.acc.length<=1099511627776):
 zud prog 187 [.one (.bx 5 0),.one (.bx 6 0)] (plR d fuel m 0 v 0 0) (rq.map znI) (plR d fuel m (rq.getD 0) v m.comps (ndC m.acc)):=by
 refine zrl T (rq.map znI) (func187) ud rfl rfl rfl rfl rfl rfl rfl (by cases rq<;>rfl) λC hC=>?_;cases rq
 all_goals
  repeat' first|refine gG ?_|refine gB ?_ ?_<;>intro h|refine zjY hC rfl ud rfl rfl ?_|refine zkh hC rfl ud rfl rfl ?_|refine zrm hC [.int .i64 _] rfl ud rfl rfl rfl ?_
  rw[uj]
  refine zj (λi:Nat=>i<=m.acc.length) (λi=>([(0,.one (.bx 5 0)),(30,.one (.ar 4)),(31,I m.acc.length),(32,I i)],tb (plR d fuel m _ v m.comps (ndC (m.acc.take i))))) (λi=>m.acc.length - i) hC
   0 (uD _) id gM ?_
  intro i hi;refine gLc ?_ ?_<;>intro h
  ·have hlt:i<m.acc.length:=by simpa using h
   clear h;obtain⟨q,hq⟩:=za hlt;have J:=zoM hq;have hle:ndC (m.acc.take i)<=i:=tG (oB _ _) (by rw[u9];omega);have hw1:IntKind.i64.wrap ((ndC (m.acc.take i):Int)+1)=(ndC (m.acc.take i)+1:Nat):=by rw[wrap64 ua];omega
   have U:IntKind.i64.wrap ((i:Int)+1)=(i+1:Nat):=by rw[wrap64 ua];omega
   by_cases h0:0<q.2.1
   ·rw[uw h0]at J
    repeat' first|refine gG ?_|(exfalso;have h9:=uo h;omega)|refine gB ?_ ?_<;>intro h|refine jz T hC (rows:=m.acc.map zgB) rfl rfl rfl rfl (uL _) (by rw[uj];omega) rfl rfl ?_|refine jd T hC i 0 (rows:=m.acc.map zgB) (row:=zgB q) rfl rfl rfl ue (by rw[uO,hq];rfl) rfl rfl rfl ?_
    rw[hw1,U,<-J];exact zg (i+1) ua id ua gM
   ·rw[ur h0,qe]at J
    repeat' first|refine gG ?_|(exfalso;have h9:=uk h;omega)|refine gB ?_ ?_<;>intro h|refine jz T hC (rows:=m.acc.map zgB) rfl rfl rfl rfl (uL _) (by rw[uj];omega) rfl rfl ?_|refine jd T hC i 0 (rows:=m.acc.map zgB) (row:=zgB q) rfl rfl rfl ue (by rw[uO,hq];rfl) rfl rfl rfl ?_
    rw[U];exact zg (i+1) ua id ua ⟨rfl,⟨rfl,rfl,rfl,rfl,uh⟩,⟨rfl,rfl,rfl,rfl,rfl,(by rw[J];rfl),rfl,uh⟩,rfl,λ_ _=>rfl⟩
  ·have hge: ¬i<m.acc.length:=by simpa using h
   clear h;rw[u0 ua]
   repeat' first|refine gG ?_|refine gB ?_ ?_<;>intro h|refine zd ?_
   exact zK ⟨.inr rfl,id,_,rfl,zlF,⟨rfl,rfl,rfl,rfl,rfl,rfl,rfl,uh⟩,rfl,rfl⟩
structure Cl where
 p:Str
 a:List Int
def yf(c:Cl):List PV:=[ks c.p,yx c.a]
def zgG(d:zf)(m:Hp):Prop:= ∀x∈m.n,0<=x.t/\x.t.toNat<d.types.length
def ndG(m:Hp)(n:Int):Nd:=(m.n[(n - 1).toNat]?).getD ⟨0,[]⟩
def tyN(d:zf)(t:Int):Str:=((d.types[t.toNat]?).map (·.n)).getD (⟨#[]⟩:UI)
def rtB(d:zf)(m:Hp)(t:Str)(v:Int):Bool:=
 if t=(⟨#[105,110,116]⟩:UI)then decide (-1099511627776<=v)&&decide (v<=1099511627776)
 else if t=(⟨#[98,111,111,108]⟩:UI)then decide (v=0)||decide (v=1)
 else decide (v=0)||(decide (0<v)&&decide (v<=m.n.length)&&decide (tyN d (ndG m v).t=t))
variable {m:Hp}
theorem zu2(hw:zgG d m)(t:Str)(v:Int):zh prog 231 [zn (zr d),zn (yp m),Sr t,I v] [] (.bq (rtB d m t v)) []:=by
 refine gFo func231 λC hC=>?_;refine v7 rfl 1 1 rfl rfl λJ=>?_;rw[uj]at J;by_cases hv:0<v/\v<=m.n.length
 ·obtain⟨x,U⟩:=za (l:=m.n) (i:=(v - 1).toNat) ua;obtain⟨h1,h2⟩:=hw x (uv U);obtain⟨y,hy⟩:=za h2;have hw1:IntKind.i64.wrap (v - 1)=v - 1:=wrap64 ua;have hn:tyN d (ndG m v).t=y.n:=by simp only[ndG,U,Option.getD_some,tyN,hy,uG]
  repeat' first|refine gG ?_|refine gB ?_ ?_<;>intro h|refine gL ?_|refine gQ ?_|(rw[hw1];refine gIt (yQ U) ?_)|refine gIt (yQ hy) ?_
  all_goals (try simp only[uj]at*)
  all_goals (simp_all[rtB]<;>omega)
 ·have hv':v<=0\/(m.n.length:Int)<v:=by omega
  clear hv;rcases hv' with hv|hv
  all_goals
   repeat' first|refine gG ?_|exact gP|refine gB ?_ ?_<;>intro h|refine gL ?_|refine gQ ?_
   all_goals (try simp only[uj]at*)
   all_goals (simp_all[rtB]<;>omega)
def za6(d:zf)(m:Hp)(c:Cl):Int:=match zbG d c.p with
 |none=>9
 |some i=>match d.procs[i]? with
  |none=>9
  |some p=>if ¬c.a.length=p.params.length then 3 else if(List.zip c.a p.params).any (λq=> !rtB d m q.2.t q.1)=true then 11 else 0
theorem zbj(l:List Nd): ∀r∈l.map wy,r.length=2:=λr hr=>by obtain⟨y,_,rfl⟩:=tO.1 hr;rfl
theorem zsd(B:RL)(id:Nat)(l:List Nd)(hm:(id,.bag 1 (jP l))∈B): ∀(j:Nat) (U:PV),(l.map wy).flatten[j]?=some U-> ∃x,(wRows l 0).flatten[j]?=some x/\LnV B (toV [id] x) (.p U):=by
 refine zhN (wE l 0) (zbj l) λi row' hi=>?_;rw[uO,uR]at hi;obtain⟨y,hy,rfl⟩:=hi;refine⟨[PC.p (ki y.t),PC.n 0 i],by rw[xD,hy,uG,tJ],λc U J=>?_⟩
 match c,J with
 |0,J=>simp only[wy,List.getElem?_cons_zero,ui]at J;subst J;exact⟨_,rfl,LnV.refl _⟩
 |1,J=>simp only[wy,u6,List.getElem?_cons_zero,ui]at J;subst J;exact⟨_,rfl,LnV.nv hm (zbO hy)⟩
 |c+2,J=>simp[wy]at J
abbrev zjT(m:Hp)(a b c:Nat):RL:=[(a,.arr 1 (m.g.map zN)),(b,.vw [c] 2 (wRows m.n 0)),(c,.bag 1 (jP m.n))]
theorem zse(m:Hp)(a b c:Nat):LnS (zjT m a b c) (.agg [.ar a,.ar b]) (zn (yp m)):=
 LnS.agg (.cons (LnV.ar ue) (.cons (LnV.vw (ids:=[c]) (rows:=wRows m.n 0) ue (by rw[uj,yi]) (zbj _) (zsd _ c m.n ue)) .nil))
def zoN:Pr:=⟨(⟨#[]⟩:UI),[],(⟨#[]⟩:UI),[],[]⟩
def zPr:List PV:=[ks (⟨#[]⟩:UI),.k (.slice none 0 0),ks (⟨#[]⟩:UI),.k (.slice none 0 0),.k (.slice none 0 0)]
theorem zlG{s:Str}(h:zbG d s=some i): ∃p,d.procs[i]?=some p:=by
 obtain⟨J,_⟩:=tL.1 h;exact⟨_,th J⟩
variable {c:Cl}
theorem zlH(hw:zgG d m)(h:za6 d m c≠0):zh prog 186 [zn (zr d),.agg [.ar 1,.ar 2],zn (yf c)] (zjT m 1 2 3) (.tup [zn zPr,I (za6 d m c)]) (zjT m 1 2 3):=by
 unfold za6 at h⊢;have J:=zb1 d c.p;cases hi:zbG d c.p with
 |none=>
  have J:zh prog 230 [zn (zr d),Sr c.p] [] (I (-1)) []:=by rw[hi]at J;exact J
  refine gFo func186 λC hC=>?_
  repeat' first|refine gG ?_|exact gD|refine gB ?_ ?_<;>intro h|refine gC J ?_
  exact gE
 |some i=>
  rw[hi]at J h;obtain⟨p,hp⟩:=zlG hi;simp only[hp]at h⊢
  replace J:zh prog 230 [zn (zr d),Sr c.p] [] (I i) []:=J
  by_cases hl:c.a.length=p.params.length
  ·rw[ur (by simpa using hl)]at h⊢
   have ha:(List.zip c.a p.params).any (λq=> !rtB d m q.2.t q.1)=true:=by
    cases hh:(List.zip c.a p.params).any (λq=> !rtB d m q.2.t q.1)with
    |true=>rfl
    |false=>rw[hh]at h;exact absurd rfl h
   rw[uw ha];refine gFo func186 λC hC=>?_;refine v7 rfl 2 1 rfl rfl λU=>?_;rw[uj]at U
   repeat' first|refine gG ?_|exact gP|refine gB ?_ ?_<;>intro h|refine gC J ?_|refine gIt (zl hp) ?_
   rw[uj]
   refine zj (λi:Nat=>i<=c.a.length/\((List.zip c.a p.params).take i).any (λq=> !rtB d m q.2.t q.1)=false) (λi=>([(3,.one (.bx 1003 0)),(4,.one (.bx 1004 0)),(9,.one (.bx 1009 0)),(6,.one (.bx 1006 0)),(33,pS (yx c.a)),(34,I c.a.length),(35,I i)],
    [(1003,some (.box ((zr d).map V.p))),(1004,some (.box [.ar 1,.ar 2])),(1009,some (.box ((zD p).map V.p))),(1006,some (.box (zPr.map V.p))),(1,some (.arr 1 (m.g.map zN))),(2,some (.vw [3] 2 (wRows m.n 0))),(3,some (.bag 1 (jP m.n)))])) (λi=>c.a.length - i) hC
    0 ⟨uD _,ue⟩ id gM ?_
   rintro i ⟨hi2,hn⟩;refine gLc ?_ ?_<;>intro h
   ·have hlt:i<c.a.length:=by simpa using h
    clear h;obtain⟨v,hv⟩:=za hlt;obtain⟨f,hf⟩:=za (l:=p.params) (i:=i) ua;have hz:(List.zip c.a p.params)[i]?=some (v,f):=by rw[tq];exact⟨hv,hf⟩
    have hR:=zu2 hw f.t v;cases hr:rtB d m f.t v with
    |false=>
     rw[hr]at hR
     repeat' first|refine gG ?_|exact gD|refine gB ?_ ?_<;>intro h|refine gIt (zl hv) ?_|refine gIt (zl hf) ?_|refine zgc hC hR (zjT m 1 2 3) rfl rfl (zdA.cons (.refl _) (zdA.cons (zse m 1 2 3) (zdA.refl _))) rfl rfl rfl rfl ?_|refine zk ?_
     exact gE
    |true=>
     rw[hr]at hR
     repeat' first|refine gG ?_|exact gD|refine gB ?_ ?_<;>intro h|refine gIt (zl hv) ?_|refine gIt (zl hf) ?_|refine zgc hC hR (zjT m 1 2 3) rfl rfl (zdA.cons (.refl _) (zdA.cons (zse m 1 2 3) (zdA.refl _))) rfl rfl rfl rfl ?_|refine zk ?_
     rw[wrap64 ua];exact zg (i+1) ⟨ua,by rw[zdt hz,hn];simp[hr]⟩ id ua gM
   ·exfalso;have hge: ¬i<c.a.length:=by simpa using h
    rw[u0 (by rw[td];omega),ha]at hn;cases hn
  ·rw[uw hl];refine gFo func186 λC hC=>?_
   repeat' first|refine gG ?_|exact gP|refine gB ?_ ?_<;>intro h|refine gC J ?_|refine gIt (zl hp) ?_
   exact gE
theorem zjl(hw:zgG d m)(h:za6 d m c=0): ∃i p,zbG d c.p=some i/\d.procs[i]?=some p/\c.a.length=p.params.length/\zh prog 186 [zn (zr d),.agg [.ar 1,.ar 2],zn (yf c)] (zjT m 1 2 3) (.tup [zn (zD p),I 0]) (zjT m 1 2 3):=by
 unfold za6 at h;have U:=zb1 d c.p;cases hi:zbG d c.p with
 |none=>rw[hi]at h;simp at h
 |some i=>
  rw[hi]at U h;obtain⟨p,hp⟩:=zlG hi;simp only[hp]at h
  replace U:zh prog 230 [zn (zr d),Sr c.p] [] (I i) []:=U
  by_cases hl:c.a.length=p.params.length
  ·rw[ur (by simpa using hl)]at h
   have ha:(List.zip c.a p.params).any (λq=> !rtB d m q.2.t q.1)=false:=by
    cases hh:(List.zip c.a p.params).any (λq=> !rtB d m q.2.t q.1)with
    |false=>rfl
    |true=>rw[hh]at h;simp at h
   refine⟨i,p,rfl,hp,hl,?_⟩;clear h;refine gFo func186 λC hC=>?_;refine v7 rfl 2 1 rfl rfl λJ=>?_;rw[uj]at J
   repeat' first|refine gG ?_|exact gP|refine gB ?_ ?_<;>intro h|refine gC U ?_|refine gIt (zl hp) ?_
   rw[uj]
   refine zj (λi:Nat=>i<=c.a.length) (λi=>([(3,.one (.bx 1003 0)),(4,.one (.bx 1004 0)),(9,.one (.bx 1009 0)),(6,.one (.bx 1006 0)),(33,pS (yx c.a)),(34,I c.a.length),(35,I i)],
    [(1003,some (.box ((zr d).map V.p))),(1004,some (.box [.ar 1,.ar 2])),(1009,some (.box ((zD p).map V.p))),(1006,some (.box (zPr.map V.p))),(1,some (.arr 1 (m.g.map zN))),(2,some (.vw [3] 2 (wRows m.n 0))),(3,some (.bag 1 (jP m.n)))])) (λi=>c.a.length - i) hC
    0 (uD _) id gM ?_
   intro i hi2;refine gLc ?_ ?_<;>intro h
   ·have hlt:i<c.a.length:=by simpa using h
    clear h;obtain⟨v,hv⟩:=za hlt;obtain⟨f,hf⟩:=za (l:=p.params) (i:=i) ua;have hz:(List.zip c.a p.params)[i]?=some (v,f):=by rw[tq];exact⟨hv,hf⟩
    have hR:=zu2 hw f.t v
    have hr:rtB d m f.t v=true:=by
     have:=List.any_eq_false.1 ha (v,f) (uv hz);simpa using this
    rw[hr]at hR
    repeat' first|refine gG ?_|exact gD|refine gB ?_ ?_<;>intro h|refine gIt (zl hv) ?_|refine gIt (zl hf) ?_|refine zgc hC hR (zjT m 1 2 3) rfl rfl (zdA.cons (.refl _) (zdA.cons (zse m 1 2 3) (zdA.refl _))) rfl rfl rfl rfl ?_|refine zk ?_
    rw[wrap64 ua];exact zg (i+1) ua id ua gM
   ·clear h
    repeat' first|refine gG ?_|refine gB ?_ ?_<;>intro h|refine zd ?_
    exact gE
  ·rw[uw hl]at h;cases h
theorem zfa(m:Hp)(hg:m.g.length<=1000000)(hn:m.n.length<=1000000)(hf: ∀x∈m.n,x.f.length<=1000000):
 zh prog 129 [zn (yp m)] [] (.agg [.ar 0,.ar 1]) [(0,.arr 1 (m.g.map zN)),(1,.vw [2] 2 (wRows m.n 0)),(2,.bag 1 (jP m.n))]:=by
 have hC1:=jn m.g hg;refine gFo func129 λC hC=>?_
 repeat' first|refine gG ?_|refine gB ?_ ?_<;>intro h|refine gR hC1 iI ?_
 rw[uj];refine gA 150 2 [] [(1003,[.ar 141,.ar 150])] ?_;refine zuv hC rfl 151 1 rfl ?_;refine zux rfl 150 [151] (rows:=[]) (rows':=wRows (m.n.take 0) 0) rfl rfl ?_
 refine zj (λi:Nat=>i<=m.n.length) (λi=>([(2,.one (.bx 1002 0)),(3,.one (.bx 1003 0)),(11,pS (zh8 m.n)),(12,I m.n.length),(13,I i)],
  [(1002,some (Res.box [.p (.k (.slice none 0 0)),.p (.k (.slice none 0 0))])),(1003,some (Res.box [.ar 141,.ar 150])),(141,some (Res.arr 1 (m.g.map zN))),(150,some (Res.vw [151] 2 (wRows (m.n.take i) 0))),(151,some (Res.bag 1 (jP (m.n.take i))))])) (λi=>m.n.length - i) hC
  0 (uD _) id gM ?_
 intro i hi;refine gLc ?_ ?_<;>intro h
 ·have hlt:i<m.n.length:=by simpa using h
  clear h;obtain⟨x,hx⟩:=za hlt;have hC2:=jn x.f (hf x (uv hx));have hj:=zge (m.n.take i) x.t 151 140;have J:=yi (m.n.take i) 0;have htl:(m.n.take i).length=i:=by rw[u9];omega
  have hbt:jP (m.n.take i)++[x.f.map zN]=jP (m.n.take (i+1)):=by unfold jP;rw[zO hx,u5];rfl
  have U:=zgf (m.n.take i) x 151 140 161;rw[<-zO hx,<-zdD]at U
  repeat' first|refine gG ?_|refine gB ?_ ?_<;>intro h|refine gIt (zl hx) ?_|refine gR hC2 iE ?_|refine zkE T hC [PC.p (ki x.t),PC.a 0] [140] rfl rfl rfl rfl rfl rfl rfl rfl rfl rfl rfl rfl ?_|refine zbM T 160 hC (id:=150) (rows:=wRows (m.n.take i) 0) (rows2:=[[PC.p (ki x.t),PC.a 0]]) (ids:=[151]) (ids2:=[140]) [151,140] (wRows (m.n.take i) 0++[[PC.p (ki x.t),PC.a 1]]) (bytes:=32) rfl rfl rfl rfl (zol.vw (T.es_ok _ _ rfl)) rfl hj.1 hj.2.1 hj.2.2.1 hj.2.2.2 rfl rfl rfl ud (by rw[J,uP];omega) (by rw[J,uP];omega) rfl rfl rfl ?_
  rw[wrapN ua];refine zkz hC rfl 151 140 161 rfl rfl rfl rfl [] uh [(160,.vw [161] 2 (wRows (m.n.take (i+1)) 0))] ⟨⟨_,rfl,rfl,U⟩,uh⟩ ?_;exact zg (i+1) ua (ms [(150,160),(151,161)]) ua ⟨rfl,⟨rfl,rfl,rfl,rfl,rfl,uh⟩,⟨rfl,rfl,rfl,rfl,(by rw[<-hbt];rfl),uh⟩,rfl,y4 rfl⟩
 ·have hge: ¬i<m.n.length:=by simpa using h
  clear h;rw[u0 ua]
  repeat' first|refine gG ?_|refine gB ?_ ?_<;>intro h|refine zd ?_
  exact gW [141,150,151]
def mc0(m:Hp):Mc:=⟨m.g,m.n,0,0,0,[]⟩
def plF:An Int->Option (Int×Int×Mc)
 | .ok v x=>some (0,v,x)
 | .flt e x=>some (e,0,x)
 | .out=>none
theorem zsf(hw:zgG d m)(hc:za6 d m c=0){k:Nat}{fl v:Int}{x:Mc}
 (hr: ∀i p,zbG d c.p=some i->d.procs[i]?=some p->plF (rnV d fuel k p c.a (mc0 m))=some (fl,v,x)) (hl:x.acc.length<=1099511627776):
 zh prog 128 [zn (zr d),.agg [.ar 1,.ar 2],zn (yf c),I fuel] (zjT m 1 2 3) (.tup [.one (.bx 0 0),.agg (zh6 fl v x.comps (ndC x.acc)),I 0]) (mcR d fuel x 1 7 8 9):=by
 obtain⟨i,p,hi,hp,hal,hP⟩:=zjl hw hc;have hr:=hr i p hi hp;have J:=(zoL d fuel k).2.2.1 p c.a (mc0 m)
 refine zhx T (m:=4) (Rm:=[(1,.arr 1 (m.g.map zN)),(2,.vw [3] 2 (wRows m.n 0)),(3,.bag 1 (jP m.n)),(50,.box ((yf c).map V.p)),(51,.box ((zD p).map V.p)),(52,.box [.bx 54 0]),(53,.box (zh6 0 0 0 0)),(54,.box (mcC d fuel (mc0 m) 1 2 55)),(55,.arr 3 [])])
  (sl1:=[(6,.one (.bx 50 0)),(8,.one (.bx 52 0)),(9,.one (.bx 53 0)),(10,I 0),(11,.one (.bx 51 0))]) (func128) ud rfl rfl rfl rfl rfl rfl rfl rfl rfl rfl rfl (λC hC=>?_) (λC hC=>?_)
 ·repeat' first|refine gG ?_|exact gD|refine gB ?_ ?_<;>intro h|refine gR hP iq ?_
  refine gA 155 3 [] [(1027,mcC d fuel (mc0 m) 1 2 155)] ?_;exact zK ⟨ms [(50,1006),(51,1011),(52,1008),(53,1009),(54,1027),(55,155)],rfl,⟨rfl,rfl,rfl,rfl,rfl,uh⟩,⟨rfl,rfl,rfl,rfl,rfl,rfl,rfl,rfl,rfl,uh⟩,rfl,rfl⟩
 ·cases hrr:rnV d fuel k p c.a (mc0 m)with
  |out=>rw[hrr]at hr;cases hr
  |ok v1 x1=>
   rw[hrr]at hr J;cases hr;have J:zh _ _ _ _ _ _:=J;have U:=zh7 d fuel x v none hl
   repeat' first|refine gG ?_|refine gB ?_ ?_<;>intro h|refine gR J iT ?_
   exact zK ⟨none,_,_,_,iU,.inl rfl,U,yG.refl _,⟨rfl,rfl,rfl,rfl,rfl,rfl,rfl,uh⟩,rfl,rfl,rfl,rfl,⟨.inl rfl,iV,_,rfl,.refl _,⟨rfl,rfl,rfl,rfl,rfl,uh⟩,rfl,rfl⟩⟩
  |flt er x1=>
   rw[hrr]at hr J;cases hr;have J:yH _ _ _ _ _ _:=J;have U:=zh7 d fuel x 0 (some fl) hl
   repeat' first|refine gG ?_|refine gB ?_ ?_<;>intro h|refine gCN J iT ?_
   exact gU (zK ⟨some (znI fl),_,_,_,iU,rfl,U,yG.refl _,⟨rfl,rfl,rfl,rfl,rfl,rfl,rfl,uh⟩,rfl,rfl,rfl,rfl,⟨.inl rfl,iV,_,rfl,.refl _,⟨rfl,rfl,rfl,rfl,rfl,uh⟩,rfl,rfl⟩⟩)
end Hw.Gm
namespace Hw
open Go
variable {K:Act->World->Prop}{P:Program}{Q:Exit->Act->World->Prop}{a:Act}{o:Oper}{w:World}
theorem zh9{l n:Nat}(J: ∀c,o.op≠ .defer c)(h:o.wp P a w K Q):
 o.wpIn (Fence.wide.inRound l) n P a w K Q:=by
 refine⟨λ_ _=>trivial,?_⟩;rw[Oper.semAt_eq _ _ _ J];unfold Oper.wp at h;generalize (execOp a.eval o).run P w=r at h;cases r with
 |ok x w'=>
  cases x with
  |value v=>exact h
  |skip=>exact h
  |defer d=>exact h
  |enter f args=>exact⟨λe=>(by cases e),(callsIn_wide (n:=n - 1)).2 h⟩
  |row row args=>
   have h:Rows P row args w' λv w''=>K (a.put o.dst v) w'':=h
   refine⟨λe=>(by cases e),λc cs _=>?_⟩;obtain⟨v,w'',r,s⟩:=h c cs;exact⟨v,w'',r,stepsIn_wide.2 s⟩
  |_=>exact h.elim
 |halt x w'=>cases x<;>first|exact h|exact h.elim
structure Wk (P:Program) (all:Array Oper) (n:Nat) (sl0:zb) (tab0:Tab) (done:List Law) (rest:List Oper) (sl:zb) (tab:Tab):Prop where
 ok:wv P all ⟨n,sl0,tab0⟩ done
 sl: ∀k,sg sl k=sg (apps ⟨n,sl0,tab0⟩ done).sl k
 tab: ∀i,tg tab i=tg (apps ⟨n,sl0,tab0⟩ done).tab i
 rest:all.toList.drop done.length=rest
variable {all:Array Oper}{tab:Tab}
theorem zcV{n:Nat}{sl:zb}:Wk P all n sl tab [] all.toList sl tab:=⟨uh,λ_=>rfl,λ_=>rfl,rfl⟩
variable {L:Law}{done:List Law}{rest:List Oper}{sl0:zb}{tab0:Tab}
theorem zqs{n:Nat}{sl:zb}
 (hL:yC P all o L.rs L.rt L.fr L.v L.wt) (hd:L.d=o.dst) (h:okL L n sl tab) (w:Wk P all n sl0 tab0 done (o::rest) sl tab):Wk P all n sl0 tab0 (L::done) rest (app L.d L.v L.wt ⟨n,sl,tab⟩).sl (L.wt++tab):=by
 obtain⟨h1,h2,h3,h4⟩:=h;obtain⟨hD,J,U,hr⟩:=w;refine⟨⟨hD,o,?_,hL,hd,vP h1 λk _=>(J k).symm,wO h2 λi _=>(U i).symm,h4⟩,?_,?_,?_⟩
 ·have:(all.toList.drop done.length)[0]?=some o:=by rw[hr];rfl
  grind
 ·intro j;rw[wX];simp only[wr];obtain⟨d,rs,rt,fr,v,wt⟩:=L;cases d with
  |none=>simpa [app]using J j
  |some d=>
   simp only[app];rw[yk]
   simp_all
 ·intro i;simp only[apps,app];cases hk:hasB i (keysT L.wt)with
  |true=>exact wg hk
  |false=>rw[yN hk,yN hk];exact U i
 ·have:(all.toList.drop done.length).drop 1=rest:=by rw[hr];rfl
  rw[tC]at this;omega
theorem ya(T:Ty P){n:Nat}{sl:zb}
 (w:Wk P all n sl0 tab0 done (o::rest) sl tab) (h:stepL T n true all o sl tab=some L):Wk P all n sl0 tab0 (L::done) rest (app L.d L.v L.wt ⟨n,sl,tab⟩).sl (L.wt++tab):=by
 obtain⟨J,h2,h3⟩:=xd T h;exact zqs J h2 h3 w
variable {C:Ctx}{M:Mem}{i lp:Nat}{st:St}{ρ:Nat->Value}
section
variable {l:List Law} {ms:List Nat}
def zaH(ops:Array Oper):Bool:=ops.toList.all λo=>match o.op with
 | .defer _=>false
 |_=>true
theorem za0{ops:Array Oper}(h:zaH ops=true)(J:ops[i]?=some o): ∀c,o.op≠ .defer c:=λc e=>by
 have U:o∈ops.toList:=by
  have:=Array.mem_of_getElem? J;simpa using this
 have:=List.all_eq_true.1 h o U
 simp_all
def checkS(st:St):List Law->Bool
 | []=>true
 |L::l=>allB (λid=>Nat.ble 100 id&&freshB id st) L.fr&&allLt (λj=>match at? l j with
   |some X=>allB (λid=>noL id X) L.fr
   |none=>false) l.length&&checkS st l
theorem zb4: ∀ {l:List Law} {i:Nat} {L:Law},checkS st l=true->at? l i=some L->allB (λid=>Nat.ble 100 id&&freshB id st) L.fr=true/\ ∀(j:Nat) (X:Law),at? l j=some X->j<i-> ∀id∈L.fr,noL id X=true
 | [],_,_,_,h=>by cases h
 |Y::l,i,L,hc,h=>by
  simp only[checkS,um]at hc;rw[z7]at h;split at h
  ·rename_i e;simp only[ui]at h;subst h;refine⟨hc.1.1,λj X J hj id U=>?_⟩;rw[z7,ur ua]at J;have:=yc hc.1.2 j (xK J);rw[J]at this;exact zy this id U
  ·rename_i e;obtain⟨h1,h2⟩:=zb4 hc.2 h;refine⟨h1,λj X J hj=>?_⟩;have:=xK h;rw[z7,ur ua]at J
   grind
def okC(dr:Bool)(st:St)(l:List Law)(all:Array Oper):Bool:=match dr with
 |true=>check all (xy all.toList []) st l
 |false=>Nat.beq l.length all.size&&checkS st l
theorem zoO{id n:Nat}(hnd:zaH all=true)(hd:wv P all st l)(hlen:l.length=all.size)(hck:checkS st l=true)(hC:C.low)
 (hQ: ∀a w M ρ,Holds C (apps st l) M ρ a w->Q .normal a w) (hH:Holds C st M ρ a w):(Code.region id all false).wpIn (Fence.wide.inRound lp) n P Q a w:=by
 refine wpIn_region_list ?_
 have key: ∀(k i:Nat) (M:Mem) (ρ:Nat->Value) (a:Act) (w:World),all.size - i=k->i<=all.size->Holds C (apps st (sel (λj=>decide (j<i)) l)) M ρ a w->wpListIn (Fence.wide.inRound lp) n P all Q (all.toList.drop i) a w:=by
  intro k
  induction k with
  |zero=>
   intro i M ρ a w hk hi hH;have:i=all.size:=by omega
   subst this;rw[Ud ue];refine hQ a w M ρ ?_;rw[zaN ua]at hH;exact hH
  |succ k ih=>
   intro i M ρ a w hk hi hH;have hlt:i<all.size:=by omega
   have hoi:all[i]?=some all[i]:=tT hlt
   have hdr:all.toList.drop i=all[i]::all.toList.drop (i+1):=by
    rw[qk (by simpa using hlt)];simp
   rw[hdr];obtain⟨L,hL⟩:=zgH (l:=l) (i:=i) ua;obtain⟨o,ho,hstep,U,hS,hT,hdk⟩:=hd.at hL;rw[hoi]at ho;simp only[ui]at ho;subst ho
   have hF:okF C L.fr (apps st (sel (λj=>decide (j<i)) l)):=by
    have one: ∀id∈L.fr,we C id (apps st (sel (λj=>decide (j<i)) l)):=λid J=>by
     have:=zy (zb4 hck hL).1 id J;simp only[um]at this
     refine xx this.2 (by
      cases e:tg C.tab0 id with
      |none=>rfl
      |some r=>have:=hC id r e;have:=uS (by assumption:Nat.ble 100 id=true/\_).1;omega) λX hX=>?_
     obtain⟨j,hj,hX'⟩:=jH hX;exact(zb4 hck hL).2 j X hX' (uk hj) id J
    have: ∀fr:List Nat,(∀id∈fr,we C id (apps st (sel (λj=>decide (j<i)) l)))->okF C fr (apps st (sel (λj=>decide (j<i)) l)):=λfr=>by
     induction fr with
     |nil=>exact λ_=>trivial
     |cons x xs ih=>exact λh=>⟨h x ue,ih λid J=>h id (u3 _ J)⟩
    exact this _ one
   have nxt: ∀a' w' M' ρ',Holds C (app all[i].dst L.v L.wt (apps st (sel (λj=>decide (j<i)) l))) M' ρ' a' w'->wpListIn (Fence.wide.inRound lp) n P all Q (all.toList.drop (i+1)) a' w':=λa' w' M' ρ' hH'=>by
    refine ih (i+1) M' ρ' a' w' ua ua ?_;rw[<-U]at hH';have e:sel (λj=>decide (j<i+1)) l=L::sel (λj=>decide (j<i)) l:=sel_succ hL;rw[e];exact hH'
   have:=hstep C _ M ρ a w hH hS hT hF (by rw[xY,<-U];exact hdk) (wpListIn (Fence.wide.inRound lp) n P all Q (all.toList.drop (i+1))) Q nxt;show if _ then _ else _
   split
   ·rename_i hw;rw[uw hw]at this;exact zh9 (za0 hnd hoi) this
   ·rename_i hw;rw[ur hw]at this;exact⟨λ_ _=>trivial,this⟩
 have:=key _ 0 M ρ a w rfl (uD _) (by
  have:sel (λj=>decide (j<0)) l=[]:=ji λj _=>by simp
  rw[this];exact hH)
 simpa using this
where
 sel_succ {l:List Law} {i:Nat} {L:Law}:at? l i=some L->sel (λj=>decide (j<i+1)) l=L::sel (λj=>decide (j<i)) l:=by
  induction l with
  |nil=>intro h;cases h
  |cons X l ih=>
   intro h;rw[z7]at h;split at h
   ·rename_i e;simp only[ui]at h;subst h;subst e;simp only[sel,Ua,qE,Nat.lt_succ_self,ou];rw[zaN ua,zaN ua]
   ·rename_i e;have hlt:=xK h;simp only[sel,uI (show ¬l.length<i+1 by omega),uI (show ¬l.length<i by omega)];exact ih h
theorem zsg{n:Nat}(hnd:zaH all=true)(hd:wv P all st l)(hc:check all ms st l=true)(hC:C.low)(hQ: ∀a w M ρ,Holds C (apps st l) M ρ a w->Q .normal a w):
 ∀(fuel:Nat) (listed:Array Bool) (M:Mem) (ρ:Nat->Value) (a:Act) (w:World),listed.size=all.size->left (λj=>listed.getD j false) all.size=fuel->Down all (λj=>listed.getD j false)->
  Holds C (apps st (sel (λj=>listed.getD j false) l)) M ρ a w->wpAnyIn (Fence.wide.inRound lp) n P .any all Q fuel listed a w:=by
 have fin: ∀(listed:Array Bool) (M:Mem) (ρ:Nat->Value) (a:Act) (w:World),(∀j,j<all.size->listed.getD j false=true)->Holds C (apps st (sel (λj=>listed.getD j false) l)) M ρ a w->Q .normal a w:=
  λlisted M ρ a w h hH=>hQ a w M ρ (by rw[zgI (l:=l) λj hj=>h j (by rw[<-zb5 hc];exact hj)]at hH;exact hH)
 have full: ∀(listed:Array Bool),listed.size=all.size->Region.ready .any all listed=[]-> ∀j,j<all.size->listed.getD j false=true:=by
  intro listed hs hr j
  induction j using Nat.strongRecOn with
  |_ j ih=>
   intro hj;cases e:listed.getD j false with
   |true=>rfl
   |false=>
    obtain⟨o,L,ho,hL,J,_⟩:=jq hc hj
    have:j∈Region.ready .any all listed:=mem_ready.2 ⟨by
     have J:j<listed.size:=by omega
     simp only[Array.getD,J,oJ]at e ⊢; exact e,o,ho,λe' he hb=>ih e'.on (J _ (xM he hb)) (by have:=J _ (xM he hb);omega)⟩
    rw[hr]at this;cases this
 intro fuel
 induction fuel with
 |zero=>
  intro listed M ρ a w hs hl hD hH;have h0:=vR hl;refine⟨?_,fin listed M ρ a w h0 hH⟩;cases e:Region.ready .any all listed with
  |nil=>rfl
  |cons x xs=>
   obtain⟨h1,o,ho,_⟩:=mem_ready.1 (show x∈Region.ready .any all listed by rw[e];simp)
   grind
 |succ fuel ih=>
  intro listed M ρ a w hs hl hD hH;refine⟨λhr=>fin listed M ρ a w (full listed hs hr) hH,λi hi=>?_⟩;obtain⟨h1,o,ho,hall⟩:=mem_ready.1 hi;have hx:i<all.size:=(tA.1 ho).1;have J:i<listed.size:=by omega
  have hn:listed.getD i false=false:=by simp only[Array.getD,J,oJ]at h1 ⊢; exact h1
  have hput: ∀j,(listed.setIfInBounds i true).getD j false=zfO (λj=>listed.getD j false) i j:=λj=>by
   by_cases e:j=i
   ·subst e;simp[zU,J]
   ·rw[zt e,getD_set_ne false (λh=>e h.symm)]
  have U:(λj=>(listed.setIfInBounds i true).getD j false)=zfO (λj=>listed.getD j false) i:=funext hput
  have hp: ∀p∈zM o,listed.getD p false=true:=λp hp=>by
   obtain⟨e,he,hb,rfl⟩:=zbc hp;exact hall e he hb
  unfold wpOpIn;simp only[ho]
  have key:=zia hd hc hD hx ho hn hp hC hH (K:=wpAnyIn (Fence.wide.inRound lp) n P .any all Q fuel (listed.setIfInBounds i true)) (Q:=Q) λa' w' M' ρ' hH'=>by
   refine ih _ M' ρ' a' w' (by simpa using hs) ?_ ?_ ?_
   ·rw[U];have:=j5 (D:=λj=>listed.getD j false) hn (n:=all.size);rw[uw hx]at this;omega
   ·rw[U];intro k ok hk hDk p hpk;by_cases e:k=i
    ·subst e;rw[ho]at hk;simp only[ui]at hk;subst hk;by_cases e2:p=k
     ·subst e2;exact zU _ _
     ·rw[zt e2];exact hp p hpk
    ·rw[zt e]at hDk;have:=hD k ok hk hDk p hpk;by_cases e2:p=i
     ·subst e2;exact zU _ _
     ·rw[zt e2];exact this
   ·rw[U];exact hH'
  split
  ·rename_i hw;rw[uw hw]at key;exact zh9 (za0 hnd ho) key
  ·rename_i hw;rw[ur hw]at key;exact⟨λ_ _=>trivial,key⟩
theorem zcW{id n:Nat}{dr:Bool}(hm:P.follows .mixedOrders=true)(U:zaH all=true)(hd:wv P all st l)(hc:okC dr st l all=true)(hC:C.low)
 (hQ: ∀a w M ρ,Holds C (apps st l) M ρ a w->Q .normal a w) (hH:Holds C st M ρ a w):(Code.region id all dr).wpIn (Fence.wide.inRound lp) n P Q a w:=by
 cases dr with
 |true=>
  have h0: ∀j,(Array.replicate all.size false).getD j false=false:=λj=>by
   by_cases h:j<all.size
   ·simp[h]
   ·simp[h]
  have J:(λj=>(Array.replicate all.size false).getD j false)=λ_=>false:=funext h0
  refine wpIn_region_any hm (zsg (ms:=xy all.toList []) U hd hc hC hQ _ _ M ρ a _ ue ?_ ?_ ?_)
  ·rw[J]
   have: ∀n,left (λ_=>false) n=n:=λn=>by
    induction n with
    |zero=>rfl
    |succ n ih=>simp only[left,ih];omega
   exact this _
  ·rw[J];intro i o _ h;cases h
  ·rw[J,ji λ_ _=>rfl];exact hH.grow (λ_ _=>rfl) (uM _) rfl rfl rfl
 |false=>
  simp only[okC,um]at hc;exact zoO U hd (uA hc.1) hc.2 hC hQ hH
end
def zu3(P:Program)(n:Nat)(asg body:Code)(sl:zb)(R R':RL):Prop:=
 ∀(m lp fn:Nat) (rec:Loop),rec.state= .ready->rec.pending=none-> ∀(M:Mem) (ρ:Nat->Value) (W:World) (tmps:Array Value),tmps.size=n->(∀k s,sg sl k=some s->RepS M ρ s (tmps.getD k undef))->
  xJ M ρ W (tb ((90,.raw lp (.loop rec))::R))->Imm M W->GOk M W->RoundIn Fence.wide m P lp fn tmps asg body W λe W'=>
   e= .returned (.bool true)/\ ∃M' ρ',Ret M ρ W ((90,.raw lp (.loop rec))::R) .un ((90,.raw lp (.loop rec))::R') undef M' ρ' W'
theorem Holds.zdN(h:Holds C st M ρ a w){id r:Nat}{o:Obj}(o':Obj)(J:tg st.tab id=some (.raw r o)):
 Holds C ⟨st.n,st.sl,(id,some (.raw r o'))::st.tab⟩ M ρ a (w.putObj r o'):=by
 obtain⟨h1,h2⟩:=h.zz.res id _ J;have U:r<w.heap.size:=(tA.1 h2).1;exact h.turn (d:=none) (v:= .un) (x:=undef) J (λb hb=>World.putObj_heap_other λe=>hb (by rw[h1,e];rfl)) (by simp[World.putObj]) rfl rfl rfl ⟨h1,World.putObj_heap_same U⟩ (by simp only[RepS]) rfl
variable {R R':RL}
theorem zsh(T:Ty P){n ida idb b:Nat}{drA drB:Bool}{opsA opsB:Array Oper}{sl:zb}(hnA:zaH opsA=true)(hnB:zaH opsB=true)(hlow:allB (λi=>Nat.blt i 90) R.ids=true)
 (h: ∀(lp:Nat) (o o':Obj),∃doneA slA tabA doneB slB tabB,Wk P opsA n sl (tb ((90,.raw lp o)::R)) doneA [] slA tabA/\okC drA ⟨n,sl,tb ((90,.raw lp o)::R)⟩ doneA opsA=true/\tg tabA 90=some (.raw lp o)/\
   Wk P opsB n slA ((90,some (.raw lp o'))::tabA) doneB [] slB tabB/\okC drB ⟨n,slA,(90,some (.raw lp o'))::tabA⟩ doneB opsB=true/\tg tabB 90=some (.raw lp o')/\okT R' ⟨n,slB,tabB⟩/\hasB 90 R'.ids=false):
 zu3 P n (.region ida opsA drA) (.block b (.region idb opsB drB)) sl R R':=by
 intro m lp fn rec hst hpe M ρ W tmps hsz hs hT hI hG
 have hgf: ∀p∈G2,¬zaO (tb ((90,.raw lp (.loop rec))::R)) ρ p.1:=λp hp ⟨id,r,h1,h2⟩=>by
  obtain⟨v,hv⟩:=zj4 p hp;have:=hG.le _ _ _ hv;rw[hT.own id r p.1 h1 h2 0]at this;cases this
 let C:Ctx:=⟨W,M,ρ,tb ((90,.raw lp (.loop rec))::R),hG,hgf,[]⟩
 have hC:C.low:=λi r h=>by
  have hm:i∈RL.ids ((90,.raw lp (.loop rec))::R):=zH (zF h);rcases uF.1 hm with rfl|hm
  ·omega
  ·have:=zy hlow i hm;have:i<90:=by simpa [tH]using this
   omega
 have hH:Holds C ⟨n,sl,tb ((90,.raw lp (.loop rec))::R)⟩ M ρ { tmps:=tmps,defers:=[] } W:=
  ⟨rfl,hsz,hs,hT,λid r b h1 h2 h3=>h3.2 ⟨id,r,h1,h2⟩,⟨hI,λ_ _=>rfl,uM _,MLe.refl _,λ_ _ _ h=> .inl h,rfl,rfl,rfl⟩,λ_ _ _=>rfl⟩
 obtain⟨doneA,slA,tabA,doneB,slB,tabB,wA,cA,rA,wB,cB,rB,hR',h90⟩:=h lp (.loop rec) (.loop { rec with state:= .busy })
 have frb: ∀b,¬C.fr b->W.heap.size<=b\/zaO (tb ((90,.raw lp (.loop rec))::R)) ρ b:=λb hb=>by
  rcases tu b W.heap.size with h|h
  ·exact .inr (tU λhn=>hb ⟨h,hn⟩)
  ·exact .inl h
 refine roundIn_of_wpIn trivial ?_;refine zcW T.mix hnA wA.ok cA hC (λa w M1 ρ1 U=>?_) hH;have U:Holds C ⟨n,slA,tabA⟩ M1 ρ1 a w:=U.ext (by rw[xY]) wA.sl wA.tab;have hl:w.heap[lp]?=some (.loop rec):=(U.zz.res 90 _ rA).2;refine⟨_,run_beginRound hl hst,?_⟩;refine wpIn_block (zcW T.mix hnB wB.ok cB hC (λa2 w2 M2 ρ2 hH2=>?_) (U.zdN _ rA));have hH2:Holds C ⟨n,slB,tabB⟩ M2 ρ2 a2 w2:=hH2.ext (by rw[xY]) wB.sl wB.tab;have hl2:w2.heap[lp]?=some (.loop { rec with state:= .busy }):=(hH2.zz.res 90 _ rB).2;have J:=hH2.zdN (.loop rec) rB
 have e0:({ { rec with state:=LoopState.busy } with state:=if(none:Option Code).isNone then LoopState.ready else LoopState.done,pending:=none }:Loop)=rec:=by
  cases rec;simp only at hst hpe;subst hst;subst hpe;rfl
 have hend:=run_endRound (P:=P) none hl2;rw[e0]at hend;refine⟨_,_,hend,rfl,M2,ρ2,?_⟩
 have tk: ∀i r,tg (tb ((90,.raw lp (.loop rec))::R')) i=some r->tg ((90,some (.raw lp (.loop rec)))::tabB) i=some r:=λi r hi=>by
  simp only[tb,zm]at hi⊢;split at hi
  ·rename_i e;rw[uw e];exact hi
  ·rename_i e;rw[ur e];exact xc hR' (zF hi)
 exact⟨by simp only[RepS],⟨λi r hr=>J.zz.res _ _ (tk i r hr),λi j ri rj b e1 e2=>J.zz.dis _ _ _ _ b (tk i ri e1) (tk j rj e2),λi r b e1=>J.zz.own _ _ b (tk i r e1)⟩,
  J.run.imm,J.run.base,λb o u hu=>(J.run.newM b o u hu).imp id (frb b),λb ⟨i,r,e1,hb⟩=>frb b (J.ownf _ _ b (tk i r e1) hb),λb hb hn=>J.run.fram b ⟨hb,hn⟩,
  J.run.size,J.run.os,J.run.tape,J.run.output,λid hid=>by
   obtain⟨r,hr⟩:=vS hid
   exact J.keep id r hr⟩
theorem zlI{n:Nat}(h:o.wp P a w K Q):o.wpIn Fence.wide n P a w K Q:=by
 refine⟨λ_ _=>trivial,?_⟩;show o.uponIn Fence.wide n P a K Q ((execOp a.eval o).run P w);unfold Oper.wp at h;generalize (execOp a.eval o).run P w=r at h;cases r with
 |ok x w'=>
  cases x with
  |value v=>exact h
  |skip=>exact h
  |defer d=>exact h
  |enter f args=>exact⟨λe=>(by cases e),(callsIn_wide (n:=n - 1)).2 h⟩
  |row row args=>
   have h:Rows P row args w' λv w''=>K (a.put o.dst v) w'':=h
   refine⟨λe=>(by cases e),λc cs _=>?_⟩;obtain⟨v,w'',r,s⟩:=h c cs;exact⟨v,w'',r,stepsIn_wide.2 s⟩
  |_=>exact h.elim
 |halt x w'=>cases x<;>first|exact h|exact h.elim
def zcy(P:Program)(C:Ctx)(all:Array Oper)(rest:List Oper)(st:St)(Q:Exit->St->Prop):Prop:= ∀M ρ a w,Holds C st M ρ a w->wpListIn Fence.wide 1 P all (lift C Q) rest a w
variable {af:Array Edge}{d:Nat}{ps:String}{slr:zb}
section
variable {k:List Frm} {n:Nat} {sl:zb} {Q:Exit->St->Prop}
theorem zsi{id:Nat}{l:List Oper}(h:zcy P C l.toArray l ⟨n,sl,tab⟩ (unw P C k Q)):Goal P C (.code (.region id l.toArray false)) k n sl tab Q:=
 λM ρ a w J=>wpIn_wide.1 (wpIn_region_lit (h M ρ a w J))
theorem zlJ(h:Goal P C (.fin .normal) k n sl tab Q):zcy P C all [] ⟨n,sl,tab⟩ (unw P C k Q):=λM ρ a w J=>h M ρ a w J
theorem zqt(hC:C.low){Q:Exit->St->Prop}(hL:yC P all o L.rs L.rt L.fr L.v L.wt)(hd:L.d=o.dst)(h:okL L n sl tab)
 (g:zcy P C all rest ⟨n,(app L.d L.v L.wt ⟨n,sl,tab⟩).sl,L.wt++tab⟩ Q):zcy P C all (o::rest) ⟨n,sl,tab⟩ Q:=by
 obtain⟨h1,h2,h3,h4⟩:=h;intro M ρ a w hH
 have key:=hL C ⟨n,sl,tab⟩ M ρ a w hH h1 h2 (j6 hC h3) (by rw[<-hd];exact h4) (wpListIn Fence.wide 1 P all (lift C Q) rest) (lift C Q) λa' w' M' ρ' J=>by
  refine g M' ρ' a' w' ?_;rw[hd];exact J
 show if _ then _ else _
 split
 ·rename_i U;rw[uw U]at key;exact zlI key
 ·rename_i U;rw[ur U]at key;exact⟨λ_ _=>trivial,key⟩
theorem yJ(T:Ty P)(hC:C.low){Q:Exit->St->Prop}(h:stepL T n true all o sl tab=some L)
 (g:zcy P C all rest ⟨n,(app L.d L.v L.wt ⟨n,sl,tab⟩).sl,L.wt++tab⟩ Q):zcy P C all (o::rest) ⟨n,sl,tab⟩ Q:=by
 obtain⟨J,h2,h3⟩:=xd T h;exact zqt hC J h2 h3 g
theorem xW: ∀l:List Nat,injB id l=true
 | []=>rfl
 |i::r=>by
  simp only[injB,xW r,qj,List.all_eq_true,id_eq]
  simp_all
theorem zcX(h: ∀i∈R'.ids,i∈R.ids):zC R R'=[]:=by
 unfold zC;rw[List.filter_eq_nil_iff];intro i J;simp only[ux,qD];have:=h i J;generalize R.ids=l at this
 induction l with
 |nil=>cases this
 |cons x xs ih=>
  rcases uF.1 this with rfl|h
  ·simp[hasB]
  ·simp[hasB,ih h]
theorem zxX{bx r0:Res}(J:91∉R.ids)(U:90∉R.ids): ∀ {i:Nat} {r:Res},tg (tb R) i=some r->tg ((91,some bx)::(90,some r0)::tb R) i=some r:=λ{i r} ht=>by
 have hi:i∈R.ids:=zH (zF ht);rw[zm,ur (by rintro rfl;exact J hi),zm,ur (by rintro rfl;exact U hi)];exact ht
theorem zfb(h: ∀ {i r},(i,r)∈R->tg st.tab i=some r):okT R st:=by
 induction R with
 |nil=>trivial
 |cons x xs ih=>
  obtain⟨i,r⟩:=x;exact⟨h ue,ih λJ=>h (u3 _ J)⟩
def uniq:List Nat->Bool
 | []=>true
 |i::l=> !hasB i l&&uniq l
theorem zb6{i:Nat}: ∀ {l:List Nat},i∈l->hasB i l=true
 | [],h=>by cases h
 |x::xs,h=>by
  rcases uF.1 h with rfl|h
  ·simp[hasB]
  ·simp[hasB,zb6 h]
theorem ve: ∀ {R:RL},uniq R.ids=true-> ∀ {i:Nat} {r:Res},(i,r)∈R->tg (tb R) i=some r
 | [],_,_,_,h=>by cases h
 |(j,s)::R,hu,i,r,h=>by
  simp only[RL.ids,uniq,um,ux]at hu;simp only[tb,zm];rcases uF.1 h with e|h
  ·simp_all
  ·split
   ·rename_i e;subst e;have J:j∈RL.ids R:=zH (zF (ve hu.2 h));rw[zb6 J]at hu;cases hu.1
   ·exact ve hu.2 h
theorem zfc{a:Array Value}{k:Nat}{v:Value}(h:i≠k):(a.setIfInBounds i v).getD k undef=a.getD k undef:=by
 simp_all
theorem zdO(hC:C.low){x J U:Operand}{ts:Array TypeId}{ty:TypeId}{p0 p1 nr:Nat}{rec:Loop}{s0 s1:S}{bx:Res}{Q:Exit->St->Prop}
 (hrd:zu3 P nr rec.assign rec.body ((p1,s1)::(p0,s0)::slr) R R') (hst:rec.state= .ready) (hpe:rec.pending=none) (hpar:rec.params= #[p0,p1]) (hsz:rec.tmps.size=nr) (hp0:p0<nr) (hp1:p1<nr) (hp:p0≠p1)
 (hgh: ∀M ρ a w,Holds C ⟨n,sl,(91,some bx)::(90,some (.raw lp (.loop rec)))::tb R⟩ M ρ a w-> ∀k s,sg slr k=some s->RepS M ρ s (rec.tmps.getD k undef))
 (hx:ev sl x=some (.one (.p (.k (.func (.yield lp) #[] #[]))))) (h0:ev sl J=some s0) (h1:ev sl U=some s1)
 (hids:R'.ids=R.ids) (h91:91∉R.ids) (h90:90∉R.ids) (hu:uniq R.ids=true) (hren:R.ren id=R) (hren':R'.ren id=R') (hclo:yM ((90::R.ids)++(90::R.ids)) R'=true) (hd:Nat.blt d n=true)
 (g:zcy P C all rest ⟨n,(d,Bo true)::sl,(91,some bx)::(90,some (.raw lp (.loop rec)))::tb R'⟩ Q):
 zcy P C all (⟨some d,.call ⟨.value x,#[J,U],ts⟩,ty,ps,af,none⟩::rest) ⟨n,sl,(91,some bx)::(90,some (.raw lp (.loop rec)))::tb R⟩ Q:=by
 intro M ρ a w hH;have e1:=hH.evS hx;have e0:=hH.evS h0;have e2:=hH.evS h1;simp only[RepS,RepV,RepPV]at e1;have hl:w.heap[lp]?=some (.loop rec):=(hH.zz.res 90 (.raw lp (.loop rec)) (by simp[zm])).2;have hy:=run_yield (P:=P) (args:= #[a.eval J,a.eval U]) hl (by rw[hpar];rfl)
 have hy':(Instr.yield lp #[a.eval J,a.eval U]).run P w= .ok (.round lp rec.fn ((rec.tmps.setIfInBounds p0 (a.eval J)).setIfInBounds p1 (a.eval U)) rec.assign rec.body) w:=by
  rw[hy,hpar];simp
 have hrun:(execOp a.eval ⟨some d,.call ⟨.value x,#[J,U],ts⟩,ty,ps,af,none⟩).run P w= .ok (.round lp rec.fn ((rec.tmps.setIfInBounds p0 (a.eval J)).setIfInBounds p1 (a.eval U)) rec.assign rec.body) w:=by
  simp[execOp,resolve,e1.1,Deferred.ofValue,invoke,hy']
 show if _ then _ else _
 rw[uw (by simp[Region.wanted])];refine⟨λ_ _=>trivial,?_⟩;rw[show Fence.wide.round=none from rfl,Oper.semAt_none,hrun];refine⟨λe=>(by cases e),?_⟩
 have okT0:okT (RL.ren id ((90,.raw lp (.loop rec))::R)) ⟨n,sl,(91,some bx)::(90,some (.raw lp (.loop rec)))::tb R⟩:=by
  refine⟨by simp[zm,Res.ren],?_⟩;rw[hren];exact zfb λhm=>zxX h91 h90 (ve hu hm)
 have hTH:xJ M ρ w (tb ((90,.raw lp (.loop rec))::R)):=by
  have tk: ∀i r,tg (tb ((90,.raw lp (.loop rec))::R)) i=some r->tg ((91,some bx)::(90,some (.raw lp (.loop rec)))::tb R) i=some r:=λi r hi=>by
   simp only[tb,zm]at hi;split at hi
   ·rename_i e;subst e;simp[zm,hi]
   ·exact zxX h91 h90 hi
  exact⟨λi r hr=>hH.zz.res _ _ (tk i r hr),λi j ri rj b e1 e2=>hH.zz.dis _ _ _ _ b (tk i ri e1) (tk j rj e2),λi r b e1=>hH.zz.own _ _ b (tk i r e1)⟩
 have hsl: ∀k s,sg ((p1,s1)::(p0,s0)::slr) k=some s->RepS M ρ s (((rec.tmps.setIfInBounds p0 (a.eval J)).setIfInBounds p1 (a.eval U)).getD k undef):=λk s hk=>by
  rw[yk]at hk;split at hk
  ·rename_i e;subst e;simp only[ui]at hk;subst hk
   have:((rec.tmps.setIfInBounds p0 (a.eval J)).setIfInBounds p1 (a.eval U)).getD p1 undef=a.eval U:=by
    simp[Array.getD,hsz,hp1]
   rw[this];exact e2
  ·rename_i ne1;have g1:((rec.tmps.setIfInBounds p0 (a.eval J)).setIfInBounds p1 (a.eval U)).getD k undef=(rec.tmps.setIfInBounds p0 (a.eval J)).getD k undef:=zfc ne1;rw[g1];rw[yk]at hk;split at hk
   ·rename_i e;subst e;simp only[ui]at hk;subst hk;have:(rec.tmps.setIfInBounds p0 (a.eval J)).getD p0 undef=a.eval J:=by simp[Array.getD,hsz,hp0]
    rw[this];exact e0
   ·rename_i ne0;rw[zfc ne0];exact hgh M ρ a w hH k s hk
 refine RoundIn.mono (hrd 0 lp rec.fn rec hst hpe M ρ w _ (by simpa using hsz) hsl hTH hH.run.imm hH.gok) λe w' ⟨he,M',ρ',hr⟩=>?_;subst he
 have hr2:Ret M (λi=>ρ (id i)) w ((90,.raw lp (.loop rec))::R) (Bo true) ((90,.raw lp (.loop rec))::R') (.bool true) M' ρ' w':=
  ⟨by simp only[RepS,RepV,RepPV];exact⟨uh,rfl⟩,hr.zz,hr.imm,hr.mle,hr.newM,hr.own,hr.fram,hr.size,hr.os,hr.tape,hr.output,hr.keep⟩
 have hids':RL.ids ((90,Res.raw lp (.loop rec))::R')=RL.ids ((90,Res.raw lp (.loop rec))::R):=by simp only[RL.ids,hids]
 have hnew:zC ((90,.raw lp (.loop rec))::R) ((90,.raw lp (.loop rec))::R')=[]:=zcX (λi hi=>by rw[hids']at hi;exact hi)
 obtain⟨ρ3,h3⟩:=hH.called (d:=some d) hr2 okT0 (by rw[hnew];rfl) (xW _) (by rw[hnew];trivial) rfl (by
  rw[hids'];show(zwo _ (.raw lp (.loop rec))&&yM _ R')=true
  rw[um];exact⟨rfl,hclo⟩) hd
 refine g M' ρ3 _ _ (h3.drop rfl (λk s e=>e) λi r e=>?_)
 have hrn:RL.ren id ((90,Res.raw lp (.loop rec))::R')=(90,.raw lp (.loop rec))::R':=by
  show(90,Res.raw lp (.loop rec))::RL.ren id R'=_;rw[hren']
 show tg ((tb (RL.ren id ((90,.raw lp (.loop rec))::R'))++yF ((RL.ids ((90,Res.raw lp (.loop rec))::R)).map id))++((91,some bx)::(90,some (.raw lp (.loop rec)))::tb R)) i=some r;rw[hrn];have e:tg ((91,some bx)::(90,some (.raw lp (.loop rec)))::tb R') i=some r:=e;show tg ((90,some (.raw lp (.loop rec)))::((tb R'++yF ((RL.ids ((90,Res.raw lp (.loop rec))::R)).map id))++((91,some bx)::(90,some (.raw lp (.loop rec)))::tb R))) i=some r;rw[zm]at e⊢;by_cases h9:90=i
 ·subst h9;rw[ur ua,zm,uw rfl]at e
  simp_all
 ·rw[ur h9];by_cases h1:91=i
  ·subst h1;rw[uw rfl]at e
   have n91: ∀(r':Option Res),(91,r')∉tb R'++yF ((RL.ids ((90,Res.raw lp (.loop rec))::R)).map id):=λr' hm=>by
    rcases tp.1 hm with hm|hm
    ·have:91∈R'.ids:=tb_ids hm;rw[hids]at this;exact h91 this
    ·have:=offs_ids hm;simp only[List.map_id]at this;rcases uF.1 this with h|h
     ·omega
     ·exact h91 h
   rw[zlK n91,zm,uw rfl];exact e
  ·rw[ur h1,zm,ur h9]at e
   have hk:hasB i (keysT (tb R'))=true:=by
    have hm:=zfd e
    have: ∀ {t:Tab},(i,some r)∈t->hasB i (keysT t)=true:=λ{t}=>by
     induction t with
     |nil=>intro h;cases h
     |cons x xs ih=>
      obtain⟨j,s⟩:=x;intro h;simp only[keysT,hasB,uJ];rcases uF.1 h with h|h
      ·simp only[uz]at h;exact .inl (by rw[<-h.1];exact vq _)
      ·exact .inr (ih h)
    exact this hm
   rw[tE,wg (b':=[]) hk,uV];exact e
where
 tb_ids {R:RL} {i:Nat} {r:Option Res}:(i,r)∈tb R->i∈R.ids:=by
  induction R with
  |nil=>intro h;cases h
  |cons x xs ih=>
   obtain⟨j,s⟩:=x;intro h;rcases uF.1 h with h|h
   ·simp only[uz]at h;simp[RL.ids,h.1]
   ·simp only[RL.ids,uF];exact .inr (ih h)
 offs_ids {l:List Nat} {i:Nat} {r:Option Res}:(i,r)∈yF l->i∈l:=by
  induction l with
  |nil=>intro h;cases h
  |cons x xs ih=>
   intro h;rcases uF.1 h with h|h
   ·simp_all
   simp_all
end
def zcY(P:Program)(g:FuncId)(caps:List V)(asg body:Code)(p0 p1 n:Nat)(slr:zb)(bx:Res)(R R':RL):Prop:=
 ju P g/\ ∀(lp:Nat) (rec:Loop),rec.state= .ready->rec.pending=none->rec.params= #[p0,p1]->rec.tmps.size=n->rec.assign=asg->rec.body=body->
  ∀(M:Mem) (ρ:Nat->Value) (w:World) (xs:List Value),RepVs M ρ caps xs->(∀k s,sg slr k=some s->RepS M ρ s (rec.tmps.getD k undef))->
   xJ M ρ w (tb ((91,bx)::(90,.raw lp (.loop rec))::R))->Imm M w->GOk M w->
   Calls P g (.func (.yield lp) #[] #[]::xs).toArray w λe w'=> ∃v M' ρ',e= .returned v/\Ret M ρ w ((91,bx)::(90,.raw lp (.loop rec))::R) .un ((91,bx)::(90,.raw lp (.loop rec))::R') v M' ρ' w'
variable {c:Code}{caps:List V}{fn:Func}{g:FuncId}
theorem zsj(T:Ty P){asg body:Code}{p0 p1 n:Nat}{bx:Res}(hf:P.funcs[g]?=some fn)
 (hname:(fn.name== "runtime.NumGoroutine")=false) (hb:fn.body=some c) (hrv:fn.results=([]:List ResultVar).toArray) (hlow:allB (λi=>Nat.blt i 90) R.ids=true)
 (hn:Nat.ble (caps.length+1) fn.ntmps=true) (hcl: ∀k s,(k,s)∈slr->cloS R.ids s=true)
 (h: ∀(lp:Nat) (rec:Loop),rec.state= .ready->rec.pending=none->rec.params= #[p0,p1]->rec.tmps.size=n->rec.assign=asg->rec.body=body-> ∀C:Ctx,C.low->
   (∀st M ρ a w,Holds C st M ρ a w-> ∀k s,sg slr k=some s->RepS M ρ s (rec.tmps.getD k undef))->
   Goal P C (.code c) [] fn.ntmps (enum 0 (.one (.p (.k (.func (.yield lp) #[] #[])))::ones caps)) (tb ((91,bx)::(90,.raw lp (.loop rec))::R))
    (zcn T [] ((91,bx)::(90,.raw lp (.loop rec))::R) .un ((91,bx)::(90,.raw lp (.loop rec))::R'))):
 zcY P g caps asg body p0 p1 n slr bx R R':=by
 refine⟨⟨fn,hf,hname,by rw[hb];rfl⟩,λlp rec r1 r2 r3 r4 r5 r6 M ρ w xs hx hsl hT hI hG=>?_⟩
 have hlow':allB (λi=>Nat.blt i 100) (RL.ids ((91,bx)::(90,.raw lp (.loop rec))::R))=true:=by
  have: ∀l:List Nat,allB (λi=>Nat.blt i 90) l=true->allB (λi=>Nat.blt i 100) l=true:=λl=>by
   induction l with
   |nil=>exact λ_=>rfl
   |cons x xs ih=>
    intro h;simp only[allB,um,tH]at h⊢;exact⟨ua,ih h.2⟩
  simp only[RL.ids,allB,this _ hlow];rfl
 have hlen:(ones caps).length=caps.length:=by
  have: ∀l:List V,(ones l).length=l.length:=λl=>by
   induction l with
   |nil=>rfl
   |cons x xs ih=>simp[ones,ih]
  exact this _
 obtain⟨C,hC,e1,e2,e3,e4,e5,hH⟩:=vm (xs:= .func (.yield lp) #[] #[]::xs) (args:= .one (.p (.k (.func (.yield lp) #[] #[])))::ones caps) hlow' (m:=fn.ntmps) (by
  simp_all) ⟨by simp only[RepS,RepV,RepPV];exact⟨uh,rfl⟩,yr hx⟩ hT hI hG
 have hgh: ∀st M ρ a w,Holds C st M ρ a w-> ∀k s,sg slr k=some s->RepS M ρ s (rec.tmps.getD k undef):=λst M' ρ' a w' J k s hk=>by
  have h0:=RepS.mono (by rw[<-e2];exact J.run.base) _ _ (hsl k s hk);refine RepS.agree (X:=λi=>i∉R.ids) (ρ:=ρ) (λi hi=>?_) s _ (λi hi=>zal hi s (hcl k s (zaP hk))) h0;have hi:=qT.1 hi;obtain⟨r,hr⟩:=vS (l:=(91,bx)::(90,.raw lp (.loop rec))::R) (i:=i) (by simp[RL.ids,hi]);rw[J.keep i r (by rw[e4];exact hr),e3]
 refine calls_of_wp hf hb (wp_mono (h lp rec r1 r2 r3 r4 r5 r6 C hC hgh M ρ _ w hH) λe a w' ⟨st,M',ρ',hq,J⟩=>?_);simp only[unw]at hq;obtain⟨he,σ,ss,g1,g2,g3,g4,g5⟩:=hq;obtain⟨v,hv,hrep⟩:=wz T hrv J g1;have U:=zhu e4 J (σ:=σ) (g2 _ _ _ hrep) g3 g4 g5;rw[e1,e2,e3]at U;have hd:a.defers=[]:=by rw[J.dfr,e5]
 rcases he with rfl|rfl
 ·exact⟨hd,v,hv,v,M',_,rfl,U⟩
 ·exact⟨hd,v,hv,v,M',_,rfl,U⟩
theorem tg_tb_app{S:RL}:tg (tb (R++S)) i=(match tg (tb R) i with|some r=>some r|none=>tg (tb S) i):=by
 induction R with
 |nil=>rfl
 |cons x xs ih=>
  obtain⟨j,r⟩:=x;simp only[uK,tb,zm]
  grind
def marks(ds:List (Nat×Nat)):List Deferred:=ds.map λx=>{ target:= .collected x.2,args:= #[] }
def vD(ds:List (Nat×Nat)):RL:=ds.map λx=>(x.1,.raw x.2 (.deferred (some [])))
theorem zxg{n tm p0 p1 j:Nat}{asg body:Code}{sl:zb}{Rx:RL}{bx:Res}
 (hH:Holds C ⟨n,sl,tb ((91,bx)::(R++Rx))⟩ M ρ a w) (hIt:zcY P g caps asg body p0 p1 n slr bx R R') (hg:sg sl tm=some (.one (.cl g [] caps))) (hsl: ∀k s,sg slr k=some s->sg sl k=some s)
 (hids:R'.ids=R.ids) (hx: ∀i∈Rx.ids,i∉R.ids) (h91:91∉R.ids) (h91x:91∉Rx.ids) (h90:90∉R.ids) (h90x:90∉Rx.ids) (hjR:j∉R.ids) (hjx:j∉Rx.ids) (hj:j≠90/\j≠91)
 (hu:uniq R.ids=true) (hfj:freshB j ⟨n,sl,tb ((91,bx)::(R++Rx))⟩=true) (hf90:freshB 90 ⟨n,sl,tb ((91,bx)::(R++Rx))⟩=true)
 (hCj:tg C.tab0 j=none) (hC90:tg C.tab0 90=none) (hbx:bx.ren id=bx) (hren:R.ren id=R) (hren':R'.ren id=R')
 (hclo:yM ((91::90::R.ids)++(91::90::R.ids)) ((91,bx)::R')=true)
 (hQ: ∀D M' ρ' w',Holds { C with df:=⟨.collected D,#[]⟩::C.df } ⟨n,sl,tb ((j,.raw D (.deferred (some [])))::(R'++Rx))⟩ M' ρ' { a with defers:=⟨.collected D,#[]⟩::a.defers } w'->Q .normal { a with defers:=⟨.collected D,#[]⟩::a.defers } w'):
 (Code.rangeFunc (.tmp tm) #[p0,p1] asg body).wp P Q a w:=by
 refine(wpIn_wide (n:=1)).1 (wpIn_rangeFunc λfnid _=>?_)
 let D:=w.heap.size
 let rec0:Loop:={ state:= .ready,pending:=none,fn:=fnid,tmps:=a.tmps,params:= #[p0,p1],assign:=asg,body:=body,defers:=D }
 let wA:=w.alloc (.deferred (some []))
 let wB:=wA.alloc (.loop rec0)
 have henter:=run_enterLoop_outer (P:=P) (w:=w) fnid a.tmps #[p0,p1] asg body;have hcv:=hH.slots tm _ hg;simp only[RepS,RepV]at hcv;obtain⟨xs,ys,hval,hxs,hys⟩:=hcv;have hxs:xs=[]:=by cases xs with|nil=>rfl|cons x l=>simp only[RepVs]at hxs
 subst hxs;have hev:a.eval (.tmp tm)= .func (.func g) #[] ys.toArray:=hval
 have hres:(resolve a.eval (rangeCall (.tmp tm) (D+1)) 0).run P wB= .ok ⟨.fn (.func g) ys.toArray,#[.func (.yield (D+1)) #[] #[]]⟩ wB:=by
  have hev':a.tmps[tm]?.getD undef= .func (.func g) #[] ys.toArray:=by rw[<-hval];simp[qL]
  simp[resolve,Deferred.ofValue,Act.eval,hev']
 obtain⟨fng,k1,k2,k3⟩:=hIt.1
 have hinv:(invoke (.fn (.func g) ys.toArray) #[.func (.yield (D+1)) #[] #[]]).run P wB= .ok (.enter g (Value.func (.yield (D+1)) #[] #[]::ys).toArray) wB:=by
  have hn': ¬(fng.name= "runtime.NumGoroutine"):=by simpa using k2
  have hp:program.run P wB= .ok P wB:=rfl;have hb': ¬fng.body=none:=λe=>by rw[e]at k3;cases k3
  simp[invoke,callFunc,k1,hn',hb',hp]
 -- the two blocks
 have bkm: ∀ {x b:Nat},Bk (.map (some x)) b->b=x:=λ{x b} h=>by
  have h:some x=some b:=h;exact(uU h).symm
 have hsz1:(w.alloc (.deferred (some []))).heap.size=D+1:=World.size_alloc _ _;have hF1:we C j ⟨n,sl,tb ((91,bx)::(R++Rx))⟩:=vt hfj hCj
 have hH1:=hH.alloc (id:=j) (val:= .map (some D)) (o:= .deferred (some [])) (r':= .raw D (.deferred (some []))) (d:=none) (v:= .un) (u:=undef) (λb hb=>bkm hb) hF1
  ⟨by simp[upd],World.alloc_heap_new _ _⟩ (by simp only[RepS]) rfl
 have hF2:we C 90 ⟨n,sl,(j,some (.raw D (.deferred (some []))))::tb ((91,bx)::(R++Rx))⟩:=by
  obtain⟨f1,f2,f3⟩:=vt hf90 hC90;refine⟨f1,λi r J=>?_,f3⟩;rw[zm]at J;split at J
  ·rename_i e;subst e;simp only[ui]at J;subst J;exact⟨hj.1,rfl⟩
  ·exact f2 i r J
 have hH2:=hH1.alloc (id:=90) (val:= .map (some (D+1))) (o:= .loop rec0) (r':= .raw (D+1) (.loop rec0)) (d:=none) (v:= .un) (u:=undef) (λb hb=>by
  rw[bkm hb,hsz1]) hF2
  ⟨by simp[upd],by rw[<-hsz1];exact World.alloc_heap_new _ _⟩ (by simp only[RepS]) rfl
 let mk:Deferred:=⟨.collected D,#[]⟩
 let C1:Ctx:={ C with df:=mk::C.df }
 let a1:Act:={ a with defers:=mk::a.defers }
 let tab2:Tab:=(90,some (.raw (D+1) (.loop rec0)))::(j,some (.raw D (.deferred (some []))))::tb ((91,bx)::(R++Rx))
 let ρ2:Nat->Value:=upd (upd ρ j (.map (some D))) 90 (.map (some (D+1)))
 have hH3:Holds C1 ⟨n,sl,tab2⟩ M ρ2 a1 wB:=⟨by show _::a.defers=_;rw[hH.dfr],hH2.sz,hH2.slots,hH2.zz,hH2.ownf,⟨hH2.run.imm,hH2.run.fram,hH2.run.size,hH2.run.base,hH2.run.newM,hH2.run.os,hH2.run.tape,hH2.run.output⟩,hH2.keep⟩
 let RF:RL:=(91,bx)::(90,.raw (D+1) (.loop rec0))::R
 let RF':RL:=(91,bx)::(90,.raw (D+1) (.loop rec0))::R'
 have tF: ∀i r,tg (tb RF) i=some r->tg tab2 i=some r:=λi r J=>by
  simp only[RF,tb,zm]at J;simp only[tab2,tb,zm];by_cases i91:91=i
  ·rw[uw i91]at J;subst i91;rw[ur ua,ur hj.2,uw rfl];exact J
  ·rw[ur i91]at J;by_cases i90:90=i
   ·rw[uw i90]at J;rw[uw i90];exact J
   ·rw[ur i90]at J;have hm:i∈R.ids:=zH (zF J);rw[ur i90,ur (by rintro rfl;exact hjR hm),ur i91,tg_tb_app,J]
 have okT0:okT (RL.ren id RF) ⟨n,sl,tab2⟩:=by
  have e:RL.ren id RF=RF:=by
   show(91,bx.ren id)::(90,.raw (D+1) (.loop rec0))::RL.ren id R=_;rw[hbx,hren]
  rw[e]
  have huF:uniq RF.ids=true:=by
   have h1:hasB 91 (90::R.ids)=false:=by
    cases e:hasB 91 (90::R.ids)with
    |false=>rfl
    |true=>rcases uF.1 (zW e)with h|h
           ·omega
           ·exact absurd h h91
   have h2:hasB 90 R.ids=false:=by
    cases e:hasB 90 R.ids with
    |false=>rfl
    |true=>exact absurd (zW e) h90
   simp only[RF,RL.ids,uniq,h1,h2,hu];rfl
  exact zfb λ{i r} hm=>tF i r (ve huF hm)
 have hTF:xJ M ρ2 wB (tb RF):=⟨λi r hr=>hH3.zz.res _ _ (tF i r hr),λi k ri rk b e1 e2=>hH3.zz.dis _ _ _ _ b (tF i ri e1) (tF k rk e2),λi r b e1=>hH3.zz.own _ _ b (tF i r e1)⟩
 have hys2:RepVs M ρ2 caps ys:=by
  have h3:=hH3.slots tm _ (show sg sl tm=_ from hg);simp only[RepS,RepV]at h3;obtain⟨xs',ys',hv',_,h3⟩:=h3;have:a1.tmps.getD tm undef= .func (.func g) #[] ys.toArray:=hval;rw[this]at hv';simp only[Value.func.injEq,Uq]at hv'
  have:ys=ys':=by
   have:=u7 Array.toList hv'.2;simpa using this
  rw[this];exact h3
 have hcall:=hIt.2 (D+1) rec0 rfl rfl rfl (by exact hH.sz) rfl rfl M ρ2 wB ys hys2 (λk s hk=>hH3.slots k s (hsl k s hk)) hTF hH3.run.imm hH3.gok;refine⟨D+1,[mk],wB,⟨.fn (.func g) ys.toArray,#[.func (.yield (D+1)) #[] #[]]⟩,wB,g,(Value.func (.yield (D+1)) #[] #[]::ys).toArray,wB,henter,hres,λ_ _=>trivial,hinv,λ_=>uM _,callsIn_wide.2 (hcall.mono λe w3 he=>?_)⟩;obtain⟨v,M3,ρ3,rfl,hret⟩:=he;have hids2:RF'.ids=RF.ids:=by simp only[RF,RF',RL.ids,hids]
 have hnew:zC RF RF'=[]:=zcX (λi J=>by rw[hids2]at J;exact J);have hret':Ret M (λi=>ρ2 (id i)) wB RF .un RF' v M3 ρ3 w3:=hret
 obtain⟨ρ4,h4⟩:=hH3.called (d:=none) hret' okT0 (by rw[hnew];rfl) (xW _) (by rw[hnew];trivial) rfl (by
  rw[hids2];have:RF.ids=91::90::R.ids:=rfl;rw[this];simp only[RF',yM,um]at hclo⊢
  exact⟨hclo.1,rfl,hclo.2⟩) rfl
 have e':RL.ren id RF'=RF':=by
  show(91,bx.ren id)::(90,.raw (D+1) (.loop rec0))::RL.ren id R'=_;rw[hbx,hren']
 rw[e']at h4
 -- what the table holds now
 have tk: ∀i r,i≠90->tg (tb ((j,.raw D (.deferred (some [])))::(R'++Rx))) i=some r->tg ((tb RF'++yF (RF.ids.map id))++tab2) i=some r:=λi r i90 J=>by
  simp only[tb,zm]at J;by_cases ij:j=i
  ·rw[uw ij]at J;subst ij
   have hnot:hasB j (keysT (tb RF'++yF (RF.ids.map id)))=false:=by
    cases e:hasB j (keysT (tb RF'++yF (RF.ids.map id)))with
    |false=>rfl
    |true=>
     have hm:=zW e;have hk: ∀ {x:Nat},x∈keysT (tb RF'++yF (RF.ids.map id))->x∈RF.ids:=λ{x} hx=>keys_in (hids2 ▸ rfl) hx
     have hm:=hk hm;simp only[RF,RL.ids,uF]at hm;rcases hm with h|h|h
     ·exact absurd h hj.2
     ·exact absurd h hj.1
     ·exact absurd h hjR
   rw[yN hnot];simp only[tab2,zm];rw[ur (λe=>i90 e.symm)];simp[J]
  ·rw[ur ij,tg_tb_app]at J;cases hR:tg (tb R') i with
   |some r'=>
    rw[hR]at J;simp only[ui]at J;subst J;have hm:i∈R'.ids:=zH (zF hR)
    have e2:tg (tb RF') i=some r':=by
     simp only[RF',tb,zm];rw[ur (by rintro rfl;exact h91 (hids ▸ hm)),ur (λe=>i90 e.symm),hR]
    rw[tE];exact tg_some_app e2
   |none=>
    rw[hR]at J;simp only at J;have hm:i∈Rx.ids:=zH (zF J)
    have hnot:hasB i (keysT (tb RF'++yF (RF.ids.map id)))=false:=by
     cases e:hasB i (keysT (tb RF'++yF (RF.ids.map id)))with
     |false=>rfl
     |true=>
      have hm2:i∈RF.ids:=keys_in (hids2 ▸ rfl) (zW e);simp only[RF,RL.ids,uF]at hm2;rcases hm2 with h|h|h
      ·subst h;exact absurd hm h91x
      ·subst h;exact absurd hm h90x
      ·exact absurd h (hx i hm)
    rw[yN hnot];simp only[tab2,tb,zm];rw[ur (λe=>i90 e.symm),ur ij,ur (by rintro rfl;exact h91x hm),tg_tb_app];cases hR0:tg (tb R) i with
    |some r0=>exact absurd (zH (zF hR0)) (hx i hm)
    |none=>exact J
 have t90:tg ((tb RF'++yF (RF.ids.map id))++tab2) 90=some (.raw (D+1) (.loop rec0)):=by
  rw[tE];exact tg_some_app (by simp only[RF',tb,zm];rfl)
 have hl:w3.heap[D+1]?=some (.loop rec0):=(h4.zz.res 90 _ t90).2;have h5:=h4.zdN (.loop { rec0 with state:= .exhausted }) t90;refine⟨none,_,run_endLoop hl (by simp[rec0]),?_⟩;refine hQ D M3 ρ4 _ (h5.drop rfl (λk s e=>e) λi r J=>?_);by_cases i90:i=90
 ·subst i90;exfalso;have hm:90∈RL.ids ((j,Res.raw D (.deferred (some [])))::(R'++Rx)):=zH (zF J)
  have hap: ∀ {A B:RL} {x:Nat},x∈RL.ids (A++B)->x∈A.ids\/x∈B.ids:=λ{A B x}=>by
   induction A with
   |nil=>exact λh=> .inr h
   |cons y ys ih=>
    obtain⟨k,s⟩:=y;intro h;simp only[uK,RL.ids,uF]at h⊢;rcases h with h|h
    ·exact .inl (.inl h)
    ·exact(ih h).imp .inr id
  simp only[RL.ids,uF]at hm
  grind
 ·show tg ((90,_)::_) i=some r;rw[zm,ur (λe=>i90 e.symm)];exact tk i r i90 J
where
 tg_some_app {A B:Tab} {i:Nat} {r:Res} (h:tg A i=some r):tg (A++B) i=some r:=by
  induction A with
  |nil=>cases h
  |cons x xs ih=>
   obtain⟨k,s⟩:=x;simp only[uK,zm]at h⊢
   grind
 keys_in {A B:RL} (h:A.ids=B.ids) {x:Nat} (hx:x∈keysT (tb A++yF (B.ids.map id))):x∈B.ids:=by
  have k1: ∀ {U V:Tab},x∈keysT (U++V)->x∈keysT U\/x∈keysT V:=λ{U V}=>by
   induction U with
   |nil=>exact λh=> .inr h
   |cons y ys ih=>
    obtain⟨k,s⟩:=y;intro h;simp only[uK,keysT,uF]at h⊢;rcases h with h|h
    ·exact .inl (.inl h)
    ·exact(ih h).imp .inr id
  have k2: ∀ {U:RL},x∈keysT (tb U)->x∈U.ids:=λ{U}=>by
   induction U with
   |nil=>intro h;cases h
   |cons y ys ih=>
    obtain⟨k,s⟩:=y;intro h;simp only[tb,keysT,RL.ids,uF]at h⊢;exact h.imp id ih
  have k3: ∀ {l:List Nat},x∈keysT (yF l)->x∈l:=λ{l}=>by
   induction l with
   |nil=>intro h;cases h
   |cons y ys ih=>
    intro h;simp only[yF,keysT,uF]at h⊢;exact h.imp id ih
  rcases k1 hx with h1|h1
  ·grind
  simp_all
def flatC:Code->List Code
 | .seq a b=>flatC a++flatC b
 |c=>[c]
def wpL(P:Program):List Code->(Exit->Act->World->Prop)->Act->World->Prop
 | [],Q=>λa w=>Q .normal a w
 |c::cs,Q=>c.wp P (Exit.then (wpL P cs Q) Q)
theorem zlL{K2:Act->World->Prop}:Exit.then K (Exit.then K2 Q)=Exit.then K Q:=by
 funext e a w;cases e<;>rfl
theorem zgJ{P:Program}{m:List Code}{Q:Exit->Act->World->Prop}: ∀ {l:List Code},wpL P (l++m) Q=wpL P l (Exit.then (wpL P m Q) Q)
 | []=>rfl
 |c::cs=>by
  simp only[uK,wpL,zlL];rw[zgJ (l:=cs)]
theorem zsk: ∀ {c:Code} {Q:Exit->Act->World->Prop} {a:Act} {w:World},wpL P (flatC c) Q a w->c.wp P Q a w:=by
 have one: ∀ {c:Code} {Q:Exit->Act->World->Prop} {a:Act} {w:World},wpL P [c] Q a w->c.wp P Q a w:=λh=>wp_mono h λe a w J=>by cases e<;>exact J
 intro c
 induction c with
 |seq a b iha ihb=>
  intro Q x w h;simp only[flatC,zgJ]at h;refine wp_seq (wp_mono (iha h) λe a' w' J=>?_);cases e with
  |normal=>exact ihb J
  |_=>exact J
 |_=>intro Q a w h;exact one h
theorem zgK{P:Program}{C:Ctx}{Q:Exit->St->Prop}{W:Exit->Act->World->Prop}(U: ∀e a w,lift C Q e a w->W e a w): ∀ {l:List Code} {c:Code} {st:St} {M:Mem} {ρ:Nat->Value} {a:Act} {w:World},
 Tri P C c st (unw P C (l.map Frm.seq) Q)->Holds C st M ρ a w->wpL P (c::l) W a w
 | [],c,st,M,ρ,a,w,h,hH=>wp_mono (h M ρ a w hH) λe a' w' hl=>by
   cases e with
   |normal=>exact U _ a' w' hl
   |_=>exact U _ a' w' hl
 |b::l,c,st,M,ρ,a,w,h,hH=>wp_mono (h M ρ a w hH) λe a' w' hl=>by
  obtain⟨st',M',ρ',hq,J⟩:=hl;cases e with
  |normal=>exact zgK U (l:=l) hq J
  |_=>exact U _ a' w' ⟨st',M',ρ',zhv (l:=b::l) ue hq,J⟩
def rgA(n:Nat)(sl:zb)(R0 R:RL):Exit->St->Prop:=λe st=>e= .normal/\st.n=n/\ ∃σ:Nat->Nat,mS σ st sl/\mR σ st.tab R/\injB σ R.ids=true/\allB (λi=>Nat.beq (σ i) i) R0.ids=true
def mvL(l:List (Nat×Nat))(i:Nat):Nat:=match l.lookup i with
 |some j=>j
 |none=>i
variable {σ:Nat->Nat}
theorem Holds.named{R0:RL}(h0:C.tab0=tb R0)(h:Holds C st M ρ a w){n:Nat}{sl:zb}(hn:st.n=n)(hs:mS σ st sl)(ht:mR σ st.tab R)(hi:injB σ R.ids=true)
 (hf:allB (λi=>Nat.beq (σ i) i) R0.ids=true):Holds C ⟨n,sl,tb R⟩ M (λi=>ρ (σ i)) a w:=by
 have tk: ∀i r,tg (tb R) i=some r->tg st.tab (σ i)=some (r.ren σ):=λi r h=>zcC ht (zF h)
 have ti: ∀i r,tg (tb R) i=some r->i∈R.ids:=λi r h=>zH (zF h)
 refine⟨h.dfr,by rw[<-hn];exact h.sz,λk s hk=>(RepS.ren s _).1 (h.slots k _ (zeo hs (zaP hk))),⟨λi r hr=>(h.zz.res _ _ (tk i r hr)).ren,?_,?_⟩,?_,h.run,?_⟩
 ·intro i j ri rj b J h2 U hb1 hb2;exact h.zz.dis _ _ _ _ b (tk i ri J) (tk j rj h2) (yt hi i j (ti i ri J) (ti j rj h2) U) hb1 hb2
 ·intro i r b J hb;exact h.zz.own _ _ b (tk i r J) hb
 ·intro i r b J hb;exact h.ownf _ _ b (tk i r J) hb
 ·intro i r hr;have hm:i∈R0.ids:=zH (zF (by rw[<-h0];exact hr));have e:=uA (zy hf i hm);show ρ (σ i)=_;rw[e];exact h.keep i r hr
section
variable (T:Ty P) (fn:Func) (rv:List ResultVar) (R:RL) (res:S) (R':RL)
def zyq(C:Ctx):Exit->Act->World->Prop:=λe a w=>(e= .ret\/e= .normal)/\ ∃(ds:List (Nat×Nat)) (st:St) (M:Mem) (ρ:Nat->Value),Holds { C with df:=marks ds } st M ρ a w/\zcn T rv (R++vD ds) res (R'++vD ds) e st/\uniq (vD ds).ids=true/\allB (λi=> !hasB i (vD ds).ids) (R'.ids)=true
def zwp(l:List Code)(sl:zb)(R1:RL)(ds:List (Nat×Nat)):Prop:= ∀C:Ctx,C.low->C.tab0=tb R-> ∀M ρ a w,Holds { C with df:=marks ds } ⟨fn.ntmps,sl,tb (R1++vD ds)⟩ M ρ a w->wpL P l (zyq T rv R res R' C) a w
end
theorem zb7{A B:RL}{x:Nat}:x∈RL.ids (A++B)↔x∈A.ids\/x∈B.ids:=by
 induction A with
 |nil=>simp[RL.ids]
 |cons y ys ih=>
  obtain⟨k,s⟩:=y;simp only[uK,RL.ids,uF,ih,or_assoc]
theorem zqu{A B:RL}(h:mR σ tab (A++B)):mR σ tab A/\mR σ tab B:=by
 induction A with
 |nil=>exact⟨uh,h⟩
 |cons y ys ih=>
  obtain⟨k,s⟩:=y;exact⟨⟨h.1,(ih h.2).1⟩,(ih h.2).2⟩
theorem zoP{A B:RL}(h:injB σ (RL.ids (A++B))=true):injB σ A.ids=true:=by
 induction A with
 |nil=>rfl
 |cons y ys ih=>
  obtain⟨k,s⟩:=y;simp only[uK,RL.ids,injB,um,List.all_eq_true]at h⊢;exact⟨λj J=>h.1 j (zb7.2 (.inl J)),ih h.2⟩
theorem zoQ{p:Nat->Bool}{A B:RL}(h:allB p (RL.ids (A++B))=true):allB p A.ids=true/\allB p B.ids=true:=by
 induction A with
 |nil=>exact⟨rfl,h⟩
 |cons y ys ih=>
  obtain⟨k,s⟩:=y;simp only[uK,RL.ids,allB,um]at h⊢
  simp_all
variable {cs:List Code}{ds:List (Nat×Nat)}
section
variable (T:Ty P) {rv:List ResultVar} {res:S}
theorem zlM{sl:zb}{R1:RL}(hu:uniq (vD ds).ids=true)(J:allB (λi=> !hasB i (vD ds).ids) R'.ids=true)
 (h: ∀C:Ctx,C.low->Goal P C (.code c) (cs.map Frm.seq) fn.ntmps sl (tb (R1++vD ds)) (zcn T rv (R++vD ds) res (R'++vD ds))):zwp T fn rv R res R' (c::cs) sl R1 ds:=by
 intro C hC h0 M ρ a w hH;refine zgK (C:={ C with df:=marks ds }) (Q:=zcn T rv (R++vD ds) res (R'++vD ds)) (λe a' w' hl=>?_) (h { C with df:=marks ds } hC) hH;obtain⟨st,M',ρ',hq,U⟩:=hl;exact⟨hq.1,ds,st,M',ρ',U,hq,hu,J⟩
def zu4(l:List Nat)(R:RL):Bool:=allB (λi=> !hasB i l) R.ids
theorem yS{l:List Nat}(h:zu4 l R=true)(J:i∈l):i∉R.ids:=λU=>by
 have:=zy h i U;rw[zb6 J]at this;cases this
theorem zlN{l:List Code}{m:Nat}{c0:Code}{bid tm p0 p1 j:Nat}{asg body:Code}{cB:List Code}{sl sl1:zb}{R1 R2 R2' Rx:RL}{bx:Res}
 (hc:l.splitAt m=(c0::cs,.block bid (.rangeFunc (.tmp tm) #[p0,p1] asg body)::cB))
 (hA: ∀C:Ctx,C.low->Goal P C (.code c0) (cs.map Frm.seq) fn.ntmps sl (tb (R1++vD ds)) (rgA fn.ntmps sl1 R ((91,bx)::(R2++(Rx++vD ds)))))
 (hIt:zcY P g caps asg body p0 p1 fn.ntmps slr bx R2 R2') (hg:sg sl1 tm=some (.one (.cl g [] caps))) (hsl: ∀k s,sg slr k=some s->sg sl1 k=some s)
 (hids:R2'.ids=R2.ids) (U:zu4 [90,91,j] R2=true) (hRx:zu4 [90,91,j] (Rx++vD ds)=true) (hRR:zu4 R2.ids (Rx++vD ds)=true) (hR:zu4 [90,j] R=true) (hj:(Nat.beq j 90||Nat.beq j 91)=false) (hu:uniq R2.ids=true)
 (hfj:freshB j ⟨fn.ntmps,sl1,tb ((91,bx)::(R2++(Rx++vD ds)))⟩=true) (hf90:freshB 90 ⟨fn.ntmps,sl1,tb ((91,bx)::(R2++(Rx++vD ds)))⟩=true)
 (hbx:bx.ren id=bx) (hren:R2.ren id=R2) (hren':R2'.ren id=R2') (hclo:yM ((91::90::R2.ids)++(91::90::R2.ids)) ((91,bx)::R2')=true)
 (hB: ∀D,zwp T fn rv R res R' cB sl1 (R2'++Rx) ((j,D)::ds)):zwp T fn rv R res R' l sl R1 ds:=by
 intro C hC h0 M ρ a w hH;have hj':j≠90/\j≠91:=⟨λe=>by subst e;simp at hj,λe=>by subst e;simp at hj⟩
 have hC0: ∀i,i∉R.ids->tg C.tab0 i=none:=λi J=>by
  rw[h0];cases e:tg (tb R) i with
  |none=>rfl
  |some r=>exact absurd (zH (zF e)) J
 have hl:l=(c0::cs)++(.block bid (.rangeFunc (.tmp tm) #[p0,p1] asg body)::cB):=by
  have:=ql m l;rw[List.splitAt_eq]at hc;simp only[uz]at hc;rw[<-this,hc.1,hc.2]
 rw[hl,zgJ];refine zgK (C:={ C with df:=marks ds }) (Q:=rgA fn.ntmps sl1 R ((91,bx)::(R2++(Rx++vD ds)))) (λe a' w' hl=>?_) (hA { C with df:=marks ds } hC) hH;rcases Classical.em (e= .normal)with he|hne
 ·subst he;show wpL P _ _ a' w';simp only[wpL];obtain⟨st,M',ρ',⟨_,hn,σ,hs,ht,J,hf⟩,hH'⟩:=hl;have hH1:Holds { C with df:=marks ds } ⟨fn.ntmps,sl1,tb ((91,bx)::(R2++(Rx++vD ds)))⟩ M' (λi=>ρ' (σ i)) a' w':=Holds.named (C:={ C with df:=marks ds }) (R0:=R) h0 hH' hn hs ht J hf
  refine(wp_block (zxg hH1 hIt hg hsl hids (λi J hm=>yS hRR hm J) (yS U ue) (yS hRx ue) (yS U ue) (yS hRx ue) (yS U ue) (yS hRx ue) hj'
   hu hfj hf90 (hC0 _ (yS hR ue)) (hC0 _ (yS hR ue)) hbx hren hren' hclo λD M2 ρ2 w2 hH2=>?_))
  refine hB D C hC h0 M2 ρ2 _ w2 (hH2.drop rfl (λ_ _ e=>e) λi r J=>?_);have J:tg (tb ((R2'++Rx)++((j,Res.raw D (.deferred (some [])))::vD ds))) i=some r:=J;show tg (tb ((j,Res.raw D (.deferred (some [])))::(R2'++(Rx++vD ds)))) i=some r;rw[<-tE];simp only[tb,zm];rw[tg_tb_app]at J⊢;by_cases ij:j=i
  ·subst ij
   have:tg (tb (R2'++Rx)) j=none:=by
    cases e:tg (tb (R2'++Rx)) j with
    |none=>rfl
    |some r=>
     rcases zb7.1 (zH (zF e))with h|h
     ·rw[hids]at h;exact absurd h (yS U ue)
     ·exact absurd (zb7.2 (.inl h)) (yS hRx (by simp:j∈[90,91,j]))
   rw[this]at J;simp only[tb,zm,uW]at J⊢;exact J
  ·rw[ur ij];cases e:tg (tb (R2'++Rx)) i with
   |some r0=>simp_all
   |none=>
    rw[e]at J;simp only[tb,zm,ur ij]at J;exact J
 ·obtain⟨st,M',ρ',hq,_⟩:=hl;exact absurd hq.1 hne
theorem zam{n:Nat}{Rr:Ending->World->Prop}{C:Ctx}{M:Mem}{ρ:Nat->Value}{a:Act}: ∀(ds:List (Nat×Nat)) {st:St} {w:World},Holds C st M ρ a w->okT (vD ds) st->uniq (vD ds).ids=true->
 (∀(st':St) (w':World),st'.n=st.n->st'.sl=st.sl->(∀i,i∉(vD ds).ids->tg st'.tab i=tg st.tab i)->Holds C st' M ρ a w'-> ∃v,(results fn a.tmps).run P w'= .ok v w'/\Rr (.returned v) w')->
 LeavesInM Fence.wide n P fn a.tmps Rr (marks ds) .returning w
 | [],st,w,hH,_,_,h=>h st w rfl rfl (λ_ _=>rfl) hH
 |(j,D)::ds,st,w,hH,ht,hu,h=>by
  have ht1:tg st.tab j=some (.raw D (.deferred (some []))):=ht.1
  have U:hasB j (vD ds).ids=false/\uniq (vD ds).ids=true:=by
   have:uniq (j::(vD ds).ids)=true:=hu;simpa only[uniq,um,ux]using this
  have hl:w.heap[D]?=some (.deferred (some [])):=(hH.zz.res j _ ht1).2;have h1:=hH.zdN (.deferred none) ht1;have hnj: ∀i,i∈(vD ds).ids->j≠i:=λi J e=>by subst e;rw[zb6 J]at U;cases U.1
  refine⟨ue,.inl ⟨D,_,rfl,run_takeDeferred hl,zam ds h1 ?_ U.2 λst' w' e1 e2 e3 hH'=>h st' w' e1 e2 (λi J=>?_) hH'⟩⟩
  ·have: ∀l:RL,(∀i∈l.ids,j≠i)->okT l st->okT l ⟨st.n,st.sl,(j,some (.raw D (.deferred none)))::st.tab⟩:=λl=>by
    induction l with
    |nil=>exact λ_ _=>trivial
    |cons x xs ih=>
     obtain⟨k,s⟩:=x;intro h1 h2;refine⟨?_,ih (λi J=>h1 i (by simp[RL.ids,J])) h2.2⟩;show tg ((j,_)::st.tab) k=_;rw[zm,ur (h1 k (by simp[RL.ids]))];exact h2.1
   exact this _ hnj ht.2
  ·have J: ¬i∈j::(vD ds).ids:=J;simp only[uF,oW]at J;rw[e3 i J.2];show tg ((j,_)::st.tab) i=_;rw[zm,ur (λe=>J.1 e.symm)]
theorem zib{st st':St}(J:st'.sl=st.sl)(hb: ∀i vs,tg st.tab i=some (.box vs)->tg st'.tab i=some (.box vs)): ∀ {rv:List ResultVar} {ss:List S},rvsOf T st rv=some ss->rvsOf T st' rv=some ss
 | [],_,h=>h
 |r::rv,ss,h=>by
  have one: ∀ {s:S},rvOf T st r=some s->rvOf T st' r=some s:=λ{s} h=>by
   cases r with
   |tmp t=>simp only[rvOf,J]at h ⊢; exact h
   |cell a t=>
    simp only[rvOf,J]at h⊢;split at h
    ·rename_i id j e;split at h
     ·rename_i vs sh U e2;rw[hb id vs U,e2];exact h
     ·cases h
    ·cases h
  simp only[rvsOf]at h⊢;split at h
  ·rename_i s ss' U e2;rw[one U,zib J hb e2];exact h
  ·cases h
theorem zqv{f:FuncId}{args:List S}(hf:P.funcs[f]?=some fn)(hname:(fn.name== "runtime.NumGoroutine")=false)(hb:fn.body=some c)(hrv:fn.results=rv.toArray)
 (hlow:allB (λi=>Nat.blt i 80) R.ids=true) (hn:Nat.ble args.length fn.ntmps=true)
 (h:zwp T fn rv R res R' (flatC c) (enum 0 args) R []):zh P f args R res R':=by
 refine⟨⟨fn,hf,hname,by rw[hb];rfl⟩,λM ρ w xs hx hT hI hG=>?_⟩
 have hlow':allB (λi=>Nat.blt i 100) R.ids=true:=by
  have: ∀l:List Nat,allB (λi=>Nat.blt i 80) l=true->allB (λi=>Nat.blt i 100) l=true:=λl=>by
   induction l with
   |nil=>exact λ_=>rfl
   |cons x xs ih=>
    intro h;simp only[allB,um,tH]at h⊢;exact⟨ua,ih h.2⟩
  exact this _ hlow
 obtain⟨C,hC,e1,e2,e3,e4,e5,U⟩:=vm hlow' hn hx hT hI hG;refine(callsIn_wide (n:=1)).1 (callsIn_of_wp_marks hf hb trivial ?_);refine(wpIn_wide (n:=1)).2 ?_
 have hH0:Holds { C with df:=marks [] } ⟨fn.ntmps,enum 0 args,tb (R++vD [])⟩ M ρ { tmps:=xs.toArray++Array.replicate (fn.ntmps - xs.toArray.size) undef,defers:=[] } w:=by
  have:R++vD []=R:=by simp[vD]
  rw[this];exact⟨rfl,U.sz,U.slots,U.zz,U.ownf,⟨U.run.imm,U.run.fram,U.run.size,U.run.base,U.run.newM,U.run.os,U.run.tape,U.run.output⟩,U.keep⟩
 refine wp_mono (zsk (h C hC e4 M ρ _ w hH0)) λe a w2 ⟨he,ds,st,M2,ρ2,hH2,hq,hu,hdis⟩=>?_;have hd:a.defers=marks ds:=hH2.dfr;obtain⟨_,σ,ss,g1,g2,g3,g4,g5⟩:=hq;have g5':=zoQ g5
 have hds:okT (vD ds) st:=by
  have: ∀l:List (Nat×Nat),mR σ st.tab (vD l)->allB (λi=>Nat.beq (σ i) i) (vD l).ids=true->okT (vD l) st:=λl=>by
   induction l with
   |nil=>exact λ_ _=>trivial
   |cons x xs ih=>
    intro h1 h2;simp only[vD,uH,RL.ids,allB,um]at h1 h2;refine⟨?_,ih h1.2 h2.2⟩;have:=h1.1;rw[uA h2.1]at this;exact this
  exact this ds (zqu g3).2 g5'.2
 have key:LeavesInM Fence.wide 1 P fn a.tmps (λe w'=> ∃v M' ρ',e= .returned v/\Ret M ρ w R res R' v M' ρ' w') a.defers .returning w2:=by
  rw[hd];refine zam ds hH2 hds hu λst' w' k1 k2 k3 hH'=>?_
  obtain⟨v,hv,hrep⟩:=wz T hrv hH' (zib T k2 (λi vs e=>by
   rw[k3 i λhm=>?_]
   ·exact e
   ·obtain⟨r,hr⟩:=vS hm;have h1:=xc hds (zF hr)
    have h2: ∃D,r= .raw D (.deferred (some [])):=by
     have hm:=zF hr;simp only[vD,tO,uz]at hm;obtain⟨x,_,_,e⟩:=hm;exact⟨_,e.symm⟩
    obtain⟨D,rfl⟩:=h2
    rw[h1]at e;cases e) g1)
  have g3':mR σ st'.tab R':=by
   have: ∀l:RL,(∀i∈l.ids,i∈R'.ids)->mR σ st.tab l->mR σ st'.tab l:=λl=>by
    induction l with
    |nil=>exact λ_ _=>trivial
    |cons x xs ih=>
     obtain⟨i,r⟩:=x;intro hl h;refine⟨?_,ih (λi hi=>hl i (by simp[RL.ids,hi])) h.2⟩;rw[k3 _ ?_]
     ·exact h.1
     ·intro hm;have hi:i∈R'.ids:=hl i (by simp[RL.ids])
      have hne:i≠σ i:=λe=>by
       have:=zy hdis i hi;rw[<-e]at hm;rw[zb6 hm]at this;cases this
      have hfix:=uA (zy g5'.2 _ hm);exact yt g4 i (σ i) (zb7.2 (.inl hi)) (zb7.2 (.inr hm)) hne hfix.symm
   exact this _ (λ_ h=>h) (zqu g3).1
  have J:=zhu (C:={ C with df:=marks ds }) e4 hH' (σ:=σ) (g2 _ _ _ hrep) g3' (zoP g4) g5'.1;have J:Ret C.M0 C.ρ0 C.w0 R res R' v M2 (λi=>ρ2 (σ i)) w':=J;rw[e1,e2,e3]at J;exact⟨v,hv,v,M2,_,rfl,J⟩
 rcases he with rfl|rfl
 ·exact key
 ·exact key
end
section
variable {k:List Frm} {n:Nat} {sl:zb} {Q:Exit->St->Prop}
theorem zlO(T:Ty P)(hC:C.low){x y:Operand}{t:TypeId}{ty:TypeId}{e:Nat}{rows:List (List PV)}{k0:IntKind}{i:Int}{row:List PV}{el:TypeId}
 (J:ev sl x=some (.one (.p (.sl e rows)))) (U:ev sl y=some (Kk k0 i)) (he:T.es t=some (el,e)) (h0:0<=i) (hi:rows[i.toNat]?=some row) (hd:Nat.blt d n=true)
 (g:zcy P C all rest ⟨n,(d,.one (.pi row 0))::sl,tab⟩ Q):zcy P C all (⟨some d,.indexAddr t x y,ty,ps,af,none⟩::rest) ⟨n,sl,tab⟩ Q:=by
 have e1:=xV (st:=⟨n,sl,tab⟩) J;have e2:=xV (st:=⟨n,sl,tab⟩) U;exact zqt (L:=⟨some d,rq x (.one (.p (.sl e rows)))++rq y (Kk k0 i),[],[],.one (.pi row 0),[]⟩) hC (yC.plain rfl (zaI e1.1 e2.1 (T.es_ok _ _ he) h0 hi)) rfl ⟨by rw[ze];simp_all,trivial,rfl,hd⟩ g
theorem zgL{K:Type}[DecidableEq K]{kt:TypeId}(κ:zdl P kt K){x y u:Operand}{t et ty:TypeId}{id:Nat}{l l':List (K×EV)}{k0:K}{pv:EV}
 (w:Wk P all n sl0 tab0 done (⟨none,.mapUpdate t x y u,ty,ps,af,none⟩::rest) sl tab)
 (J:ev sl x=some (.one (.mp id))) (U:ev sl y=some (κ.s k0)) (hw:ev sl u=some (evS pv)) (hT:tg tab id=some (.mpg (yn κ l))) (hu:P.underlying t=some (.map kt et)) (hv:putG l k0 pv=l'):
 Wk P all n sl0 tab0 (⟨none,rq x (.one (.mp id))++rq y (κ.s k0)++rq u (evS pv),[(id,.mpg (yn κ l))],[],.un,[(id,some (.mpg (yn κ l')))]⟩::done) rest sl ((id,some (.mpg (yn κ l')))::tab):=by
 subst hv;have e1:=xV (st:=⟨n,sl,tab⟩) J;have e2:=xV (st:=⟨n,sl,tab⟩) U;have e3:=xV (st:=⟨n,sl,tab⟩) hw
 exact zqs (L:=⟨none,rq x (.one (.mp id))++rq y (κ.s k0)++rq u (evS pv),[(id,.mpg (yn κ l))],[],.un,[(id,some (.mpg (yn κ (putG l k0 pv))))]⟩) (yC.plain rfl (zaQ e1.1 e2.1 e3.1 hu)) rfl
  ⟨by rw[ze,ze];simp_all,⟨hT,uh⟩,rfl,rfl⟩ w
end
theorem zsl{σ:Nat->Nat}{st:St}: ∀ {t:Tab},(∀i r,(i,some r)∈t->tg st.tab (σ i)=some (r.ren σ))->mT σ st t
 | [],_=>trivial
 |(i,none)::t,h=>zsl (t:=t) λi r J=>h i r (u3 _ J)
 |(i,some r)::t,h=>⟨h i r ue,zsl (t:=t) λi r J=>h i r (u3 _ J)⟩
variable {r:Res}
theorem zsm(h:(i,some r)∈tb R):(i,r)∈R:=by
 induction R with
 |nil=>cases h
 |cons x xs ih=>
  obtain⟨j,s⟩:=x;rcases uF.1 h with h|h
  ·simp_all
  simp_all
theorem zqw(h:R.ren id=R)(J:(i,r)∈R):r.ren id=r:=by
 induction R with
 |nil=>cases J
 |cons x xs ih=>
  obtain⟨j,s⟩:=x;simp only[RL.ren,qC,uz]at h
  grind
theorem zaJ{n:Nat}{sl:zb}(U:uniq R.ids=true)(hr:R.ren id=R):mT id ⟨n,sl,tb R⟩ (tb R):=
 zsl λi r J=>by
  have J:=zsm J;rw[zqw hr J];exact ve U J
theorem zgM(U:uniq R.ids=true)(hr:R.ren id=R):mR id (tb R) R:=by
 have: ∀l:RL,(∀i r,(i,r)∈l->tg (tb R) i=some (r.ren id))->mR id (tb R) l:=λl=>by
  induction l with
  |nil=>exact λ_=>trivial
  |cons x xs ih=>
   obtain⟨j,s⟩:=x;exact λh=>⟨h j s ue,ih λi r J=>h i r (u3 _ J)⟩
 exact this R λi r J=>by rw[zqw hr J];exact ve U J
end Hw
namespace Hw.Gm
open Go Go.Proofs Hw.M Ps Tryz
theorem zgN{s:S}:LeS s .un:=λ_ _ _ _=>by simp only[RepS]
theorem zan: ∀l:List Nat,allB (λi=>Nat.beq (id i) i) l=true
 | []=>rfl
 |i::l=>by
  have h:=zan l;simp only[allB,h,qj];simp_all
variable {slr:zb}
theorem zoR{ts:List zX}{asg body:Code}{p0 p1 n:Nat}{ids:List Nat}(Rf:Nat->RL)(hp0:p0<n)(hp1:p1<n)(hp:p0≠p1)(J: ∀i,(Rf i).ids=ids)
 (hcl: ∀k s,(k,s)∈slr->cloS ids s=true) (hlow:allB (λi=>Nat.blt i 90) ids=true) (hu:uniq ids=true) (U: ∀i,(Rf i).ren id=Rf i) (hclo: ∀i,yM ((90::ids)++(90::ids)) (Rf i)=true)
 (hl:ts.length<=1099511627776)
 (hrd: ∀(i:Nat) (t:zX),ts[i]?=some t->zu3 prog n asg body ((p1,zn (zR t))::(p0,I i)::slr) (Rf (i+1)) (Rf i)):
 zcY prog 159 [.bx 91 0] asg body p0 p1 n slr (.box [.p (.sl 2 (ts.map zR))]) (Rf ts.length) (Rf 0):=by
 have hm: ∀x,x∈ids->x<90:=λx hx=>by simpa [tH]using zy hlow x hx
 have h91: ∀i,91∉(Rf i).ids:=λi h=>by rw[J]at h;have:=hm _ h;omega
 have h90: ∀i,90∉(Rf i).ids:=λi h=>by rw[J]at h;have:=hm _ h;omega
 refine zsj T (func159) ud rfl rfl (by simp_all) rfl (by grind) λlp rec r1 r2 r3 r4 r5 r6 C hC hgh=>?_;subst r5;subst r6
 have huF: ∀i,uniq (RL.ids ((91,Res.box [.p (.sl 2 (ts.map zR))])::(90,.raw lp (.loop rec))::Rf i))=true:=λi=>by
  simp only[RL.ids,uniq,um,ux];refine⟨?_,?_,by rw[J];exact hu⟩
  ·cases e:hasB 91 (90::(Rf i).ids)with
   |false=>rfl
   |true=>rcases uF.1 (zW e)with h|h
          ·omega
          ·exact absurd h (h91 i)
  ·cases e:hasB 90 (Rf i).ids with
   |false=>rfl
   |true=>exact absurd (zW e) (h90 i)
 have hrF: ∀i,RL.ren id ((91,Res.box [.p (.sl 2 (ts.map zR))])::(90,.raw lp (.loop rec))::Rf i)=(91,Res.box [.p (.sl 2 (ts.map zR))])::(90,.raw lp (.loop rec))::Rf i:=λi=>by
  show(91,_)::(90,_)::RL.ren id (Rf i)=_;rw[U];rfl
 repeat' first|refine gG ?_|refine gB ?_ ?_<;>intro h
 rw[uj,wrap64 ua]
 refine zj (λj:Nat=>j<=ts.length) (λj=>([(0,.one (.p (.k (.func (.yield lp) #[] #[])))),(1,.one (.bx 91 0)),(3,I ((j:Int) - 1))],tb ((91,Res.box [.p (.sl 2 (ts.map zR))])::(90,.raw lp (.loop rec))::Rf j))) (λj=>j) hC
  ts.length (uM _) id ⟨rfl,⟨rfl,rfl,rfl,uh⟩,zaJ (huF _) (hrF _),xW _,λ_ _=>rfl⟩ ?_
 intro j hj;refine gLc ?_ ?_<;>intro h
 ·have hge:(0:Int)<=(j:Int) - 1:=uk h;clear h;obtain⟨i,rfl⟩: ∃i,j=i+1:=⟨j - 1,ua⟩;obtain⟨t,ht⟩:=za (show i<ts.length by omega);have e1:((i+1:Nat):Int) - 1=(i:Int):=by omega
  rw[e1];refine znB T hC true 4 rfl rfl ?_;refine zsi ?_;refine yJ T hC rfl ?_;refine yJ T hC rfl ?_;refine yJ T hC rfl ?_;refine yJ T hC rfl ?_;refine zlO T hC (rows:=ts.map zR) rfl rfl rfl (uL _) (zl ht) rfl ?_;refine yJ T hC rfl ?_;refine zdO (R:=Rf (i+1)) (R':=Rf i) hC (hrd i t ht) r1 r2 r3 r4 hp0 hp1 hp (λM ρ a w hH=>hgh _ M ρ a w hH) rfl rfl rfl (by rw[J,J]) (h91 _) (h90 _) (by simp_all) (U _) (U _) (by simp_all) rfl ?_;refine yJ T hC rfl ?_;refine zlJ ?_
  repeat' first|refine gG ?_|refine gB ?_ ?_<;>intro h
  rw[wrap64 ua];exact zg i ua id ua ⟨rfl,⟨rfl,rfl,rfl,uh⟩,zaJ (huF i) (hrF i),xW _,λ_ _=>rfl⟩
 ·have hge: ¬(0:Int)<=(j:Int) - 1:=uo h;have:j=0:=by omega
  subst this
  repeat' first|refine gG ?_|refine gB ?_ ?_<;>intro h|refine zd ?_
  exact zK ⟨.inr rfl,id,_,rfl,zgN,zgM (huF _) (hrF _),xW _,zan _⟩
theorem zoS{ts:List Pr}{asg body:Code}{p0 p1 n:Nat}{ids:List Nat}(Rf:Nat->RL)(hp0:p0<n)(hp1:p1<n)(hp:p0≠p1)(J: ∀i,(Rf i).ids=ids)
 (hcl: ∀k s,(k,s)∈slr->cloS ids s=true) (hlow:allB (λi=>Nat.blt i 90) ids=true) (hu:uniq ids=true) (U: ∀i,(Rf i).ren id=Rf i) (hclo: ∀i,yM ((90::ids)++(90::ids)) (Rf i)=true)
 (hl:ts.length<=1099511627776)
 (hrd: ∀(i:Nat) (t:Pr),ts[i]?=some t->zu3 prog n asg body ((p1,zn (zD t))::(p0,I i)::slr) (Rf (i+1)) (Rf i)):
 zcY prog 160 [.bx 91 0] asg body p0 p1 n slr (.box [.p (.sl 5 (ts.map zD))]) (Rf ts.length) (Rf 0):=by
 have hm: ∀x,x∈ids->x<90:=λx hx=>by simpa [tH]using zy hlow x hx
 have h91: ∀i,91∉(Rf i).ids:=λi h=>by rw[J]at h;have:=hm _ h;omega
 have h90: ∀i,90∉(Rf i).ids:=λi h=>by rw[J]at h;have:=hm _ h;omega
 refine zsj T (func160) ud rfl rfl (by simp_all) rfl (by grind) λlp rec r1 r2 r3 r4 r5 r6 C hC hgh=>?_;subst r5;subst r6
 have huF: ∀i,uniq (RL.ids ((91,Res.box [.p (.sl 5 (ts.map zD))])::(90,.raw lp (.loop rec))::Rf i))=true:=λi=>by
  simp only[RL.ids,uniq,um,ux];refine⟨?_,?_,by rw[J];exact hu⟩
  ·cases e:hasB 91 (90::(Rf i).ids)with
   |false=>rfl
   |true=>rcases uF.1 (zW e)with h|h
          ·omega
          ·exact absurd h (h91 i)
  ·cases e:hasB 90 (Rf i).ids with
   |false=>rfl
   |true=>exact absurd (zW e) (h90 i)
 have hrF: ∀i,RL.ren id ((91,Res.box [.p (.sl 5 (ts.map zD))])::(90,.raw lp (.loop rec))::Rf i)=(91,Res.box [.p (.sl 5 (ts.map zD))])::(90,.raw lp (.loop rec))::Rf i:=λi=>by
  show(91,_)::(90,_)::RL.ren id (Rf i)=_;rw[U];rfl
 repeat' first|refine gG ?_|refine gB ?_ ?_<;>intro h
 rw[uj,wrap64 ua]
 refine zj (λj:Nat=>j<=ts.length) (λj=>([(0,.one (.p (.k (.func (.yield lp) #[] #[])))),(1,.one (.bx 91 0)),(3,I ((j:Int) - 1))],tb ((91,Res.box [.p (.sl 5 (ts.map zD))])::(90,.raw lp (.loop rec))::Rf j))) (λj=>j) hC
  ts.length (uM _) id ⟨rfl,⟨rfl,rfl,rfl,uh⟩,zaJ (huF _) (hrF _),xW _,λ_ _=>rfl⟩ ?_
 intro j hj;refine gLc ?_ ?_<;>intro h
 ·have hge:(0:Int)<=(j:Int) - 1:=uk h;clear h;obtain⟨i,rfl⟩: ∃i,j=i+1:=⟨j - 1,ua⟩;obtain⟨t,ht⟩:=za (show i<ts.length by omega);have e1:((i+1:Nat):Int) - 1=(i:Int):=by omega
  rw[e1];refine znB T hC true 4 rfl rfl ?_;refine zsi ?_;refine yJ T hC rfl ?_;refine yJ T hC rfl ?_;refine yJ T hC rfl ?_;refine yJ T hC rfl ?_;refine zlO T hC (rows:=ts.map zD) rfl rfl rfl (uL _) (zl ht) rfl ?_;refine yJ T hC rfl ?_;refine zdO (R:=Rf (i+1)) (R':=Rf i) hC (hrd i t ht) r1 r2 r3 r4 hp0 hp1 hp (λM ρ a w hH=>hgh _ M ρ a w hH) rfl rfl rfl (by rw[J,J]) (h91 _) (h90 _) (by simp_all) (U _) (U _) (by simp_all) rfl ?_;refine yJ T hC rfl ?_;refine zlJ ?_
  repeat' first|refine gG ?_|refine gB ?_ ?_<;>intro h
  rw[wrap64 ua];exact zg i ua id ua ⟨rfl,⟨rfl,rfl,rfl,uh⟩,zaJ (huF i) (hrF i),xW _,λ_ _=>rfl⟩
 ·have hge: ¬(0:Int)<=(j:Int) - 1:=uo h;have:j=0:=by omega
  subst this
  repeat' first|refine gG ?_|refine gB ?_ ?_<;>intro h|refine zd ?_
  exact zK ⟨.inr rfl,id,_,rfl,zgN,zgM (huF _) (hrF _),xW _,zan _⟩
theorem zoT{ts:List Fld}{asg body:Code}{p0 p1 n:Nat}{ids:List Nat}(Rf:Nat->RL)(hp0:p0<n)(hp1:p1<n)(hp:p0≠p1)(J: ∀i,(Rf i).ids=ids)
 (hcl: ∀k s,(k,s)∈slr->cloS ids s=true) (hlow:allB (λi=>Nat.blt i 90) ids=true) (hu:uniq ids=true) (U: ∀i,(Rf i).ren id=Rf i) (hclo: ∀i,yM ((90::ids)++(90::ids)) (Rf i)=true)
 (hl:ts.length<=1099511627776)
 (hrd: ∀(i:Nat) (t:Fld),ts[i]?=some t->zu3 prog n asg body ((p1,zn (zB t))::(p0,I i)::slr) (Rf (i+1)) (Rf i)):
 zcY prog 261 [.bx 91 0] asg body p0 p1 n slr (.box [.p (.sl 2 (ts.map zB))]) (Rf ts.length) (Rf 0):=by
 have hm: ∀x,x∈ids->x<90:=λx hx=>by simpa [tH]using zy hlow x hx
 have h91: ∀i,91∉(Rf i).ids:=λi h=>by rw[J]at h;have:=hm _ h;omega
 have h90: ∀i,90∉(Rf i).ids:=λi h=>by rw[J]at h;have:=hm _ h;omega
 refine zsj T (func261) ud rfl rfl (by simp_all) rfl (by grind) λlp rec r1 r2 r3 r4 r5 r6 C hC hgh=>?_;subst r5;subst r6
 have huF: ∀i,uniq (RL.ids ((91,Res.box [.p (.sl 2 (ts.map zB))])::(90,.raw lp (.loop rec))::Rf i))=true:=λi=>by
  simp only[RL.ids,uniq,um,ux];refine⟨?_,?_,by rw[J];exact hu⟩
  ·cases e:hasB 91 (90::(Rf i).ids)with
   |false=>rfl
   |true=>rcases uF.1 (zW e)with h|h
          ·omega
          ·exact absurd h (h91 i)
  ·cases e:hasB 90 (Rf i).ids with
   |false=>rfl
   |true=>exact absurd (zW e) (h90 i)
 have hrF: ∀i,RL.ren id ((91,Res.box [.p (.sl 2 (ts.map zB))])::(90,.raw lp (.loop rec))::Rf i)=(91,Res.box [.p (.sl 2 (ts.map zB))])::(90,.raw lp (.loop rec))::Rf i:=λi=>by
  show(91,_)::(90,_)::RL.ren id (Rf i)=_;rw[U];rfl
 repeat' first|refine gG ?_|refine gB ?_ ?_<;>intro h
 rw[uj,wrap64 ua]
 refine zj (λj:Nat=>j<=ts.length) (λj=>([(0,.one (.p (.k (.func (.yield lp) #[] #[])))),(1,.one (.bx 91 0)),(3,I ((j:Int) - 1))],tb ((91,Res.box [.p (.sl 2 (ts.map zB))])::(90,.raw lp (.loop rec))::Rf j))) (λj=>j) hC
  ts.length (uM _) id ⟨rfl,⟨rfl,rfl,rfl,uh⟩,zaJ (huF _) (hrF _),xW _,λ_ _=>rfl⟩ ?_
 intro j hj;refine gLc ?_ ?_<;>intro h
 ·have hge:(0:Int)<=(j:Int) - 1:=uk h;clear h;obtain⟨i,rfl⟩: ∃i,j=i+1:=⟨j - 1,ua⟩;obtain⟨t,ht⟩:=za (show i<ts.length by omega);have e1:((i+1:Nat):Int) - 1=(i:Int):=by omega
  rw[e1];refine znB T hC true 4 rfl rfl ?_;refine zsi ?_;refine yJ T hC rfl ?_;refine yJ T hC rfl ?_;refine yJ T hC rfl ?_;refine yJ T hC rfl ?_;refine zlO T hC (rows:=ts.map zB) rfl rfl rfl (uL _) (zl ht) rfl ?_;refine yJ T hC rfl ?_;refine zdO (R:=Rf (i+1)) (R':=Rf i) hC (hrd i t ht) r1 r2 r3 r4 hp0 hp1 hp (λM ρ a w hH=>hgh _ M ρ a w hH) rfl rfl rfl (by rw[J,J]) (h91 _) (h90 _) (by simp_all) (U _) (U _) (by simp_all) rfl ?_;refine yJ T hC rfl ?_;refine zlJ ?_
  repeat' first|refine gG ?_|refine gB ?_ ?_<;>intro h
  rw[wrap64 ua];exact zg i ua id ua ⟨rfl,⟨rfl,rfl,rfl,uh⟩,zaJ (huF i) (hrF i),xW _,λ_ _=>rfl⟩
 ·have hge: ¬(0:Int)<=(j:Int) - 1:=uo h;have:j=0:=by omega
  subst this
  repeat' first|refine gG ?_|refine gB ?_ ?_<;>intro h|refine zd ?_
  exact zK ⟨.inr rfl,id,_,rfl,zgN,zgM (huF _) (hrF _),xW _,zan _⟩
noncomputable abbrev kS:zdl prog 9 ByteArray:=zyd ud
def bkM{α:Type}(key:α->Str)(val:α->EV):List α->List (Str×EV)
 | []=>[]
 |x::r=>putG (bkM key val r) (key x) (val x)
theorem zb8{α:Type}{key:α->Str}{val:α->EV}(s:Str): ∀l:List α,getG (bkM key val l) s=(l.find? λx=>decide (key x=s)).map val
 | []=>rfl
 |x::r=>by
  rw[bkM,jk,qS];by_cases h:key x=s
  ·simp_all
  ·rw[ur h,uI h];exact zb8 s r
variable {i:Nat}{α:Type}{key:α->Str}{x:α}
theorem zdP{val:α->EV}{l:List α}(h:l[i]?=some x):bkM key val (l.drop i)=putG (bkM key val (l.drop (i+1))) (key x) (val x):=by
 obtain⟨J,rfl⟩:=uy.1 h;rw[qk J];rfl
abbrev tyM(l:List zX):List (Str×EV):=bkM (·.n) (λt=> .g (zR t)) l
abbrev prM(l:List Pr):List (Str×EV):=bkM (·.n) (λp=> .g (zD p)) l
noncomputable abbrev mpS(l:List (Str×EV)):Res:= .mpg (yn kS l)
noncomputable def ckR(d:zf)(a b c:Nat):RL:=[(a,.box ((zr d).map V.p++[.mp b,.mp c])),(b,mpS (tyM d.types)),(c,mpS (prM d.procs))]
theorem zu5(l:List zX):zh prog 118 [pS (.sl 2 (l.map zR))] [] (.one (.cl 159 [] [.bx 0 0])) [(0,.box [.p (.sl 2 (l.map zR))])]:=by
 refine gFo func118 λC hC=>?_
 repeat' first|refine gG ?_|refine gB ?_ ?_<;>intro h|refine zd ?_
 exact gW [1001]
theorem zu6(l:List Pr):zh prog 119 [pS (.sl 5 (l.map zD))] [] (.one (.cl 160 [] [.bx 0 0])) [(0,.box [.p (.sl 5 (l.map zD))])]:=by
 refine gFo func119 λC hC=>?_
 repeat' first|refine gG ?_|refine gB ?_ ?_<;>intro h|refine zd ?_
 exact gW [1001]
theorem zu7(l:List Fld):zh prog 235 [pS (zw l)] [] (.one (.cl 261 [] [.bx 0 0])) [(0,.box [.p (zw l)])]:=by
 refine gFo func235 λC hC=>?_
 repeat' first|refine gG ?_|refine gB ?_ ?_<;>intro h|refine zd ?_
 exact gW [1001]
noncomputable def ncR(d:zf)(l:List (Str×EV))(l2:List (Str×EV)):RL:=[(3,.box [.bx 12 0]),(12,.box ((zr d).map V.p++[.mp 9,.mp 10])),(9,mpS l),(10,mpS l2),(1,.box ((zr d).map V.p))]
variable {r:zb}{s0:S}
theorem zxY: ∀k s,sg [(3,s0)] k=some s->sg ((3,s0)::r) k=some s:=λk s h=>by
 have h:=zaP h;simp only[tv,uz]at h;rw[h.1,h.2];rfl
theorem vF(d:zf)(h1:d.types.length<=1099511627776)(h2:d.procs.length<=1099511627776):
 zh prog 81 [zn (zr d)] [] (.one (.bx 0 0)) (ckR d 0 1 2):=by
 have U:=zu5 d.types;have hB2:=zu6 d.procs;refine zqv T (rv:=[.tmp 2]) (func81) ud rfl rfl rfl rfl ?_
 refine zlN T (m:=3) (p0:=16) (p1:=17) (j:=80) (tm:=15) (slr:=[(3,.one (.bx 3 0))]) (sl1:=[(3,.one (.bx 3 0)),(1,.one (.bx 1 0)),(15,.one (.cl 159 [] [.bx 91 0]))]) (R2:=ncR d [] []) (R2':=ncR d (tyM d.types) []) (Rx:=[]) (bx:= .box [.p (.sl 2 (d.types.map zR))]) rfl
  (λC hC=>?_) ?_ rfl ?_ rfl rfl rfl rfl rfl rfl rfl rfl rfl rfl rfl rfl rfl λD1=>?_
 ·repeat' first|refine gG ?_|refine gB ?_ ?_<;>intro h|refine zdo kS hC rfl rfl rfl ?_|refine gR U (nm [191]) ?_
  exact zK ⟨rfl,rfl,mvL [(3,1003),(12,1012),(9,1009),(10,1010),(1,1001),(91,191)],⟨rfl,rfl,rfl,uh⟩,⟨rfl,rfl,rfl,rfl,rfl,rfl,uh⟩,rfl,rfl⟩
 ·have J:=zoR (ts:=d.types) (asg:=?_) (body:=?_) (p0:=16) (p1:=17) (n:=f81.ntmps) (slr:=[(3,.one (.bx 3 0))]) (ids:=[3,12,9,10,1]) (λi=>ncR d (bkM (·.n) (λt=> .g (zR t)) (d.types.drop i)) []) ub ub ub (λ_=>rfl)
   (by intro k s h;simp only[tv,uz]at h;rw[h.2];rfl) rfl rfl (λ_=>rfl) (λ_=>rfl) h1 ?_
  ·simp only[qI,ow]at J;exact J
  ·intro i t ht;rw[zdP ht]
   refine zsh T rfl rfl rfl λlp o o'=>⟨_,_,_,_,_,_,ya T (ya T zcV rfl) rfl,rfl,rfl,
    zgL (et:=129) (pv:= .g (zR t)) kS (ya T (ya T (ya T (ya T (ya T (ya T (ya T zcV rfl) rfl) rfl) rfl) rfl) rfl) rfl) rfl rfl rfl rfl ud rfl,rfl,rfl,?_,rfl⟩
   exact⟨rfl,rfl,rfl,rfl,rfl,uh⟩
 ·exact zxY
 ·refine zlN T (m:=1) (p0:=28) (p1:=29) (j:=81) (tm:=27) (slr:=[(3,.one (.bx 3 0))]) (sl1:=[(3,.one (.bx 3 0)),(27,.one (.cl 160 [] [.bx 91 0]))]) (R2:=ncR d (tyM d.types) []) (R2':=ncR d (tyM d.types) (prM d.procs)) (Rx:=[]) (bx:= .box [.p (.sl 5 (d.procs.map zD))]) rfl
   (λC hC=>?_) ?_ rfl ?_ rfl rfl rfl rfl rfl rfl rfl rfl rfl rfl rfl rfl rfl λD2=>?_
  ·repeat' first|refine gG ?_|refine gB ?_ ?_<;>intro h|refine gR hB2 (nm [191]) ?_
   exact zK ⟨rfl,rfl,mvL [(91,191)],⟨rfl,rfl,uh⟩,⟨rfl,rfl,rfl,rfl,rfl,rfl,rfl,uh⟩,rfl,rfl⟩
  ·have J:=zoS (ts:=d.procs) (asg:=?_) (body:=?_) (p0:=28) (p1:=29) (n:=f81.ntmps) (slr:=[(3,.one (.bx 3 0))]) (ids:=[3,12,9,10,1]) (λi=>ncR d (tyM d.types) (bkM (·.n) (λp=> .g (zD p)) (d.procs.drop i))) ub ub ub (λ_=>rfl)
    (by intro k s h;simp only[tv,uz]at h;rw[h.2];rfl) rfl rfl (λ_=>rfl) (λ_=>rfl) h2 ?_
   ·simp only[qI,ow]at J;exact J
   ·intro i t ht;rw[zdP ht]
    refine zsh T rfl rfl rfl λlp o o'=>⟨_,_,_,_,_,_,ya T (ya T zcV rfl) rfl,rfl,rfl,
     zgL (et:=90) (pv:= .g (zD t)) kS (ya T (ya T (ya T (ya T (ya T (ya T (ya T zcV rfl) rfl) rfl) rfl) rfl) rfl) rfl) rfl rfl rfl rfl ud rfl,rfl,rfl,?_,rfl⟩
    exact⟨rfl,rfl,rfl,rfl,rfl,uh⟩
  ·exact zxY
  ·refine zlM T rfl rfl λC hC=>?_
   repeat' first|refine gG ?_|refine gB ?_ ?_<;>intro h|refine zd ?_
   exact gFl (mvL [(0,12),(1,9),(2,10)]) rfl (.refl _)
def zu8:Value:= .agg #[.string (⟨#[]⟩:UI),.slice none 0 0]
def zNT:List PV:=[ks (⟨#[]⟩:UI),.k (.slice none 0 0)]
theorem zlP(d:zf)(s:Str):getG (tyM d.types) s=(zf0 d s).map λt=> .g (zR t):=zb8 s d.types
theorem zdQ(d:zf)(s:Str):getG (prM d.procs) s=(zew d s).map λt=> .g (zD t):=zb8 s d.procs
theorem zic: ∀M,RepEV M (.g zNT) zu8:=λM=>⟨[.string (⟨#[]⟩:UI),.slice none 0 0],rfl,by simp only[zNT,RepPVl,RepPV];exact⟨⟨uh,rfl⟩,⟨uh,rfl⟩,uh⟩⟩
theorem jT(d:zf)(s:Str):zh prog 133 [.one (.bx 0 0),Sr s] (ckR d 0 1 2) (.bq (yE d s)) (ckR d 0 1 2):=by
 refine gFo func133 λC hC=>?_;have J:=zlP d s;cases ht:zf0 d s with
 |none=>
  rw[ht]at J;rw[show yE d s=false by simp[yE,ht]]
  repeat' first|refine gG ?_|refine gB ?_ ?_<;>intro h|refine yq (et:=129) kS hC (c0:=zu8) (.g zNT) (pv:= .g zNT) (b:=false) rfl rfl rfl ud ud zic (by rw[J];rfl) (by rw[J];rfl) rfl rfl ?_|refine zd ?_
  exact gE
 |some t=>
  rw[ht]at J;rw[show yE d s=true by simp[yE,ht]]
  repeat' first|refine gG ?_|refine gB ?_ ?_<;>intro h|refine yq (et:=129) kS hC (c0:=zu8) (.g zNT) (pv:= .g (zR t)) (b:=true) rfl rfl rfl ud ud zic (by rw[J];rfl) (by rw[J];rfl) rfl rfl ?_|refine zd ?_
  exact gE
theorem zdR(d:zf)(s:Str):zh prog 166 [.one (.bx 0 0),Sr s] (ckR d 0 1 2) (.bq (yL d s)) (ckR d 0 1 2):=by
 have J:=jT d s;refine gFo func166 λC hC=>?_
 repeat' first|refine gG ?_|refine gB ?_ ?_<;>intro h|refine gR J ic ?_|refine zd ?_
 all_goals first|(rw[show yL d s=true by simp only[yL, *,qQ,qO,tw,od,tn,tP]];first|exact gE|exact gFl id rfl (LeS.qb rfl))|(rw[show yL d s=yE d s by simp only[yL, *,qQ,qO,tw,od,tn,tP]];first|exact gE|exact gFl id rfl (LeS.qb rfl))
theorem wm(d:zf)(a b:Str):zh prog 237 [.one (.bx 0 0),Sr a,Sr b] (ckR d 0 1 2) (.bq (yo d a b)) (ckR d 0 1 2):=by
 have J:=jT d b;refine gFo func237 λC hC=>?_
 repeat' first|refine gG ?_|refine gB ?_ ?_<;>intro h|refine gR J ic ?_|refine zd ?_
 all_goals first|(rw[show yo d a b=true by simp only[yo, *,qQ,qO,tw,od,tn,tP]];first|exact gE|exact gFl id rfl (LeS.qb rfl))|(rw[show yo d a b=false by simp only[yo, *,qQ,qO,tw,od,tn,tP]];first|exact gE|exact gFl id rfl (LeS.qb rfl))|(rw[show yo d a b=yE d b by simp only[yo, *,qQ,qO,tw,od,tn,tP]];first|exact gE|exact gFl id rfl (LeS.qb rfl))
theorem zfe(d:zf)(t s:Str)(hl: ∀x∈d.types,x.f.length<=1099511627776):zh prog 241 [.one (.bx 0 0),Sr t,Sr s] (ckR d 0 1 2) (.tup [Sr (fieldT d t s).1,I (fieldT d t s).2]) (ckR d 0 1 2):=by
 refine gFo func241 λC hC=>?_;have U:=zlP d t;cases ht:zf0 d t with
 |none=>
  rw[ht]at U;rw[show fieldT d t s=((⟨#[]⟩:UI),11) by simp[fieldT,ht]]
  repeat' first|refine gG ?_|exact gD|refine gB ?_ ?_<;>intro h|refine yq (et:=129) kS hC (c0:=zu8) (.g zNT) (pv:= .g zNT) (b:=false) rfl rfl rfl ud ud zic (by rw[U];rfl) (by rw[U];rfl) rfl rfl ?_|refine zd ?_
  exact gE
 |some x=>
  rw[ht]at U;have hx:x∈d.types:=qB ht;have hxl:=hl x hx
  repeat' first|refine gG ?_|exact gD|refine gB ?_ ?_<;>intro h|refine yq (et:=129) kS hC (c0:=zu8) (.g zNT) (pv:= .g (zR x)) (b:=true) rfl rfl rfl ud ud zic (by rw[U];rfl) (by rw[U];rfl) rfl rfl ?_
  rw[uj]
  refine zj (λi:Nat=>i<=x.f.length/\(x.f.take i).find? (λf=>decide (f.n=s))=none) (λi=>([(2,Sr s),(24,pS (zw x.f)),(25,I x.f.length),(26,I i)],tb (ckR d 0 1 2))) (λi=>x.f.length - i) hC
   0 ⟨uD _,rfl⟩ id gM ?_
  intro i ⟨hi,hn⟩;refine gLc ?_ ?_<;>intro h
  ·have J:i<x.f.length:=by simpa using h
   clear h;obtain⟨y,hy⟩:=za J
   repeat' first|refine gG ?_|refine gB ?_ ?_<;>intro h|refine gX ?_
   ·rename_i h;have h:=uk h
    rw[show fieldT d t s=(y.t,0) by
     have hf:x.f.find? (λf=>decide (f.n=s))=some y:=by
      rw[<-ql i x.f,qW,hn,qk J];have:x.f[i]=y:=by rw[th J]at hy;exact uU hy
      rw[this,qS,uZ h];rfl
     simp only[fieldT,ht,look,hf,uG]]
    exact gE
   ·rename_i h;have h:=uo h;rw[wrap64 ua];exact zg (i+1) ⟨ua,by rw[zO hy,qW,hn];simp[h]⟩ id ua gM
  ·have hge: ¬i<x.f.length:=by simpa using h
   rw[u0 ua]at hn;rw[show fieldT d t s=((⟨#[]⟩:UI),9) by simp only[fieldT,ht,look,hn,qc]]
   repeat' first|refine gG ?_|refine gB ?_ ?_<;>intro h|refine zd ?_
   exact gE
theorem zlQ{α:Type}(p:α->Bool): ∀l:List α,(anyR (λ(x:α) (_:Unit)=>p x) (λ_ s=>s) l ()).1=l.any p
 | []=>rfl
 |x::l=>by
  simp only[anyR,qp];cases p x with
  |true=>rfl
  |false=>simp[zlQ p l]
theorem zu9(key:α->Str){l:List α}{y:α}(h:l[i]?=some y):((l.take i).any λx=>decide (key x=key y))=twB (l.map key) i:=by
 unfold twB lsA;rw[<-qG,List.any_map,uO,h];rfl
inductive TwK:{α:Type}->(α->List PV)->Nat->(α->Str)->FuncId->FuncId->FuncId->FuncId->FuncId->Prop
 |ty:TwK zR 2 zX.n 162 215 115 72 161
 |fd:TwK zB 2 Fld.n 165 217 97 59 164
 |pr:TwK zD 5 Pr.n 168 218 56 112 167
 |ms:TwK yA 7 Ms.n 171 221 200 220 170
 |iv:TwK zp0 6 Iv.n 173 223 257 222 172
 |bd:TwK xZ 5 Bd.p 175 224 83 156 174
abbrev twR(a w:Nat)(rows:List (List PV))(ix:Nat):RL:=[(0,.box [.cl a [] []]),(1,.box [.p (.sl w rows)]),(2,.box [.p (ki ix)])]
section
variable {row:α->List PV} {w:Nat} {a b c d e:FuncId}
abbrev twT{f:FuncId}{lx:List α}{ix:Nat}{l:List α}{p:α->Bool}(hf: ∀x∈l,zh prog f [zn (row x),.one (.bx 0 0),.one (.bx 1 0),.one (.bx 2 0)] (twR a w (lx.map row) ix) (.bq (p x)) (twR a w (lx.map row) ix))(i:Nat):zb×Tab:=
 ([(0,pS (.sl w (l.map row))),(1,.one (.cl f [] [.bx 0 0,.bx 1 0,.bx 2 0])),(7,I l.length),(8,I i)],[(0,some (.box [.cl a [] []])),(1,some (.box [.p (.sl w (lx.map row))])),(2,some (.box [.p (ki ix)]))])
variable (hk:TwK row w key a b c d e)
include hk
theorem zlR(x:α):zh prog a [zn (row x)] [] (Sr (key x)) []:=by
 cases hk;refine gFo func162 λC hC=>?_
 rotate_left
 refine gFo func165 λC hC=>?_
 rotate_left
 refine gFo func168 λC hC=>?_
 rotate_left
 refine gFo func171 λC hC=>?_
 rotate_left
 refine gFo func173 λC hC=>?_
 rotate_left
 refine gFo func175 λC hC=>?_
 rotate_left
 all_goals
  repeat' first|refine gG ?_|refine gB ?_ ?_<;>intro h|refine zd ?_
  exact gF
theorem zva(lx:List α)(ix:Nat)(y x:α)(J:lx[ix]?=some y):zh prog b [zn (row x),.one (.bx 0 0),.one (.bx 1 0),.one (.bx 2 0)] (twR a w (lx.map row) ix) (.bq (decide (key x=key y))) (twR a w (lx.map row) ix):=by
 have U:=zlR hk x;have h2:=zlR hk y;cases hk;refine gFo func215 λC hC=>?_
 rotate_left
 refine gFo func217 λC hC=>?_
 rotate_left
 refine gFo func218 λC hC=>?_
 rotate_left
 refine gFo func221 λC hC=>?_
 rotate_left
 refine gFo func223 λC hC=>?_
 rotate_left
 refine gFo func224 λC hC=>?_
 rotate_left
 all_goals
  repeat' first|refine gG ?_|refine gB ?_ ?_<;>intro h|refine gC U ?_|refine gC h2 ?_|refine gIt (zl J) ?_|refine zd ?_
  exact gE
theorem zvb(f:FuncId)(lx:List α)(ix:Nat)(l:List α)(p:α->Bool)(hf: ∀x∈l,zh prog f [zn (row x),.one (.bx 0 0),.one (.bx 1 0),.one (.bx 2 0)] (twR a w (lx.map row) ix) (.bq (p x)) (twR a w (lx.map row) ix)):
 zh prog c [pS (.sl w (l.map row)),.one (.cl f [] [.bx 0 0,.bx 1 0,.bx 2 0])] (twR a w (lx.map row) ix) (I (ixB p l 0)) (twR a w (lx.map row) ix):=by
 cases hk;refine gFo func115 λC hC=>?_
 rotate_left
 refine gFo func97 λC hC=>?_
 rotate_left
 refine gFo func56 λC hC=>?_
 rotate_left
 refine gFo func200 λC hC=>?_
 rotate_left
 refine gFo func257 λC hC=>?_
 rotate_left
 refine gFo func83 λC hC=>?_
 rotate_left
 all_goals
  refine wG 0 rfl λhl=>?_;rw[uj]at hl
  repeat' first|refine gG ?_|refine gB ?_ ?_<;>intro h
  rw[uj];refine zj (λi:Nat=>i<=l.length/\ixB p (l.drop i) i=ixB p l 0) (twT hf) (λi=>l.length - i) hC 0 ⟨uD _,rfl⟩ id gM ?_;generalize ixB p l 0=res;rintro i ⟨hi,J⟩;change Goal _ _ _ _ _ [_,_,_,_] [_,_,_] _;refine gLc ?_ ?_<;>intro U
  ·have hlt:i<l.length:=by simpa using U
   clear U;obtain⟨x,hx⟩:=za hlt;rw[drop_at hx]at J;simp only[ixB]at J
   repeat' first|refine gG ?_|refine gB ?_ ?_<;>intro h|refine gIt (zl hx) ?_|refine gR (hf x (uv hx)) id ?_|refine zk ?_
   ·rw[uw uf]at J;subst J;exact gE
   ·have hpf:p x=false:=by assumption
    rw[hpf]at J;simp only[uB,uN]at J;rw[wrap64 ua];exact zg (i+1) ⟨ua,J⟩ id ua gM
  ·have hge: ¬i<l.length:=by simpa using U
   rw[uC ua]at J;simp only[ixB]at J;subst J
   repeat' first|refine gG ?_|refine gB ?_ ?_<;>intro h|refine zd ?_
   exact gE
theorem zvc(lx:List α)(ix:Nat)(y:α)(J:lx[ix]?=some y)(l:List α):
 zh prog d [pS (.sl w (l.map row)),.one (.cl b [] [.bx 0 0,.bx 1 0,.bx 2 0])] (twR a w (lx.map row) ix) (.bq (l.any λx=>decide (key x=key y))) (twR a w (lx.map row) ix):=by
 have U:=zvb hk b lx ix l _ (λx _=>zva hk lx ix y x J);cases hk;refine gFo func72 λC hC=>?_
 rotate_left
 refine gFo func59 λC hC=>?_
 rotate_left
 refine gFo func112 λC hC=>?_
 rotate_left
 refine gFo func220 λC hC=>?_
 rotate_left
 refine gFo func222 λC hC=>?_
 rotate_left
 refine gFo func156 λC hC=>?_
 rotate_left
 all_goals
  repeat' first|refine gG ?_|refine gB ?_ ?_<;>intro h|refine gR U ic ?_
  exact gFl id rfl (.qq (zgk _ l 0))
theorem zjm(l:List α)(i:Nat)(hi:i<l.length):zh prog e [pS (.sl w (l.map row)),I i,.one (.cl a [] [])] [] (.bq (twB (l.map key) i)) []:=by
 obtain⟨y,U⟩:=za hi;have J:=zvc hk l i y U (l.take i);rw[zu9 key U]at J;cases hk;refine gFo func161 λC hC=>?_
 rotate_left
 refine gFo func164 λC hC=>?_
 rotate_left
 refine gFo func167 λC hC=>?_
 rotate_left
 refine gFo func170 λC hC=>?_
 rotate_left
 refine gFo func172 λC hC=>?_
 rotate_left
 refine gFo func174 λC hC=>?_
 rotate_left
 all_goals
  repeat' first|refine gG ?_|refine gB ?_ ?_<;>intro h|refine gR J (nm [1005,1003,1004]) ?_|refine zbs T hC ((l.take i).map _) rfl rfl rfl (uL _) (by rw[uj];omega) (by rw[<-qG];rfl) rfl rfl ?_|refine zd ?_
  exact gF
end
theorem zsn(l:List zX)(i:Nat)(J:i<l.length):zh prog 161 [pS (.sl 2 (l.map zR)),I i,.one (.cl 162 [] [])] [] (.bq (twB (l.map (·.n)) i)) []:=zjm .ty l i J
theorem zso(l:List Fld)(i:Nat)(J:i<l.length):zh prog 164 [pS (.sl 2 (l.map zB)),I i,.one (.cl 165 [] [])] [] (.bq (twB (l.map (·.n)) i)) []:=zjm .fd l i J
theorem zsp(l:List Pr)(i:Nat)(J:i<l.length):zh prog 167 [pS (.sl 5 (l.map zD)),I i,.one (.cl 168 [] [])] [] (.bq (twB (l.map (·.n)) i)) []:=zjm .pr l i J
theorem zsq(l:List Ms)(i:Nat)(J:i<l.length):zh prog 170 [pS (.sl 7 (l.map yA)),I i,.one (.cl 171 [] [])] [] (.bq (twB (l.map (·.n)) i)) []:=zjm .ms l i J
theorem zsr(l:List Iv)(i:Nat)(J:i<l.length):zh prog 172 [pS (.sl 6 (l.map zp0)),I i,.one (.cl 173 [] [])] [] (.bq (twB (l.map (·.n)) i)) []:=zjm .iv l i J
theorem zss(l:List Bd)(i:Nat)(J:i<l.length):zh prog 174 [pS (.sl 5 (l.map xZ)),I i,.one (.cl 175 [] [])] [] (.bq (twB (l.map (·.p)) i)) []:=zjm .bd l i J
theorem zst(g x:Fld):zh prog 216 [zn (zB x),.one (.bx 0 0)] [(0,.box ((zB g).map V.p))] (.bq (decide (x.n=g.n))) [(0,.box ((zB g).map V.p))]:=by
 refine gFo func216 λC hC=>?_
 repeat' first|refine gG ?_|refine gB ?_ ?_<;>intro h|refine zd ?_
 exact gE
theorem zoU(f:FuncId)(gx:Fld)(l:List Fld)(p:Fld->Unit->Bool)(nx:Fld->Unit->Unit)(inv:Unit->Prop)
 (hf: ∀x∈l,∀s:Unit,inv s->zh prog f [zn (zB x),.one (.bx 0 0)] [(0,.box ((zB gx).map V.p))] (.bq (p x s)) ((λs:Unit=>[(0,.box ((zB gx).map V.p))]) (nx x s))/\(p x s=false->inv (nx x s))) (s:Unit) (hs:inv s):
 zh prog 97 [pS (.sl 2 (l.map zB)),.one (.cl f [] [.bx 0 0])] [(0,.box ((zB gx).map V.p))] (I (idxR p nx l 0 s).1) ((λs:Unit=>[(0,.box ((zB gx).map V.p))]) (idxR p nx l 0 s).2):=by
 refine gFo func97 λC hC=>?_;have hs0:=hs;refine wG 0 rfl λhl=>?_;rw[uj]at hl
 repeat' first|refine gG ?_|refine gB ?_ ?_<;>intro h
 rw[uj]
 refine zj (λq:Nat×Unit=>q.1<=l.length/\inv q.2/\idxR p nx (l.drop q.1) q.1 q.2=idxR p nx l 0 s) (λq=>(λs:Unit=>([(0,pS (.sl 2 (l.map zB))),(1,.one (.cl f [] [.bx 0 0])),(7,I l.length),(8,I q.1)],[(0,some (.box ((zB gx).map V.p)))])) q.2) (λq=>l.length - q.1) hC
  (0,s) ⟨uD _,hs,rfl⟩ id gM ?_
 generalize idxR p nx l 0 s=res;clear hs hs0;rintro⟨i,s⟩ ⟨hi,hv,J⟩;simp only at hi hv J;refine gLc ?_ ?_<;>intro hh
 ·have hlt:i<l.length:=by simpa using hh
  clear hh;obtain⟨x,hx⟩:=za hlt;rw[drop_at hx]at J;simp only[idxR]at J;have hv2:=(hf x (uv hx) s hv).2
  repeat' first|refine gG ?_|refine gB ?_ ?_<;>intro h|refine gIt (zl hx) ?_|refine gR (hf x (uv hx) s hv).1 id ?_|refine zk ?_
  ·rw[uw uf]at J;subst J;exact gE
  ·have U:p x s=false:=by assumption
   rw[U]at J;simp only[uB,uN]at J;rw[wrap64 ua];exact zg (i+1,nx x s) ⟨ua,hv2 U,J⟩ id ua gM
 ·have hge: ¬i<l.length:=by simpa using hh
  rw[uC ua]at J;simp only[idxR]at J;subst J
  repeat' first|refine gG ?_|refine gB ?_ ?_<;>intro h|refine zd ?_
  exact gE
theorem zoV(f:FuncId)(gx:Fld)(l:List Fld)(p:Fld->Unit->Bool)(nx:Fld->Unit->Unit)(inv:Unit->Prop)
 (hf: ∀x∈l,∀s:Unit,inv s->zh prog f [zn (zB x),.one (.bx 0 0)] [(0,.box ((zB gx).map V.p))] (.bq (p x s)) ((λs:Unit=>[(0,.box ((zB gx).map V.p))]) (nx x s))/\(p x s=false->inv (nx x s))) (s:Unit) (J:inv s):
 zh prog 59 [pS (.sl 2 (l.map zB)),.one (.cl f [] [.bx 0 0])] [(0,.box ((zB gx).map V.p))] (.bq (anyR p nx l s).1) ((λs:Unit=>[(0,.box ((zB gx).map V.p))]) (anyR p nx l s).2):=by
 refine gFo func59 λC hC=>?_
 repeat' first|refine gG ?_|refine gB ?_ ?_<;>intro h|refine gR (zoU f gx l p nx inv hf s J) iw ?_
 exact zK ⟨.inl rfl,id,_,rfl,.qq (zaV p nx l 0 s),by rw[<-zaW p nx l 0 s];exact⟨rfl,uh⟩,rfl,rfl⟩
theorem zff(d:zf)(l:List Fld)(hl:l.length<=1099511627776):zh prog 163 [.one (.bx 0 0),pS (zw l)] (ckR d 0 1 2) (I (zaz d l)) (ckR d 0 1 2):=by
 refine gFo func163 λC hC=>?_
 repeat' first|refine gG ?_|refine gB ?_ ?_<;>intro h
 rw[uj]
 refine zj (λi:Nat=>i<=l.length/\fieldsE d (l.map (·.n)) (l.drop i) i=zaz d l) (λi=>([(0,.one (.bx 0 0)),(1,pS (zw l)),(7,pS (zw l)),(8,I l.length),(9,I i)],tb (ckR d 0 1 2))) (λi=>l.length - i) hC
  0 ⟨uD _,rfl⟩ id gM ?_
 intro i ⟨hi,J⟩;refine gLc ?_ ?_<;>intro h
 ·have hlt:i<l.length:=by simpa using h
  clear h;obtain⟨y,hy⟩:=za hlt;rw[drop_at hy]at J;simp only[fieldsE]at J;have hK:=zdR d y.t;have U:=zoV 216 y (l.take i) (λx _=>decide (x.n=y.n)) (λ_ s=>s) (λ_=>True) (λx _ _ _=>⟨zst y x,λ_=>trivial⟩) () trivial;rw[zlQ (λ(x:Fld)=>decide (x.n=y.n)) (l.take i),zu9 (λ(x:Fld)=>x.n) hy]at U;cases hw:twB (l.map (·.n)) i with
  |true=>
   rw[hw]at J U;rw[uw rfl]at J;rw[<-J]
   repeat' first|refine gG ?_|exact gD|refine gB ?_ ?_<;>intro h|refine gX ?_|refine gR U iD ?_|refine zbs T hC ((l.take i).map zB) rfl rfl rfl (uL _) (by rw[uj];omega) (by rw[<-qG];rfl) rfl rfl ?_|refine zk ?_
   exact gE
  |false=>
   rw[hw]at J U;rw[ur ue]at J
   repeat' first|refine gG ?_|exact gD|refine gB ?_ ?_<;>intro h|refine gX ?_|refine gR U iD ?_|refine gR hK ic ?_|refine zbs T hC ((l.take i).map zB) rfl rfl rfl (uL _) (by rw[uj];omega) (by rw[<-qG];rfl) rfl rfl ?_|refine zk ?_
   ·rename_i h;have h:yL d y.t=false:=by simpa using h
    rw[uw h]at J;rw[<-J];exact gE
   ·rename_i h;have h:yL d y.t=true:=by simpa using h
    rw[ur (by rw[h];simp)]at J;rw[wrap64 ua];exact zg (i+1) ⟨ua,J⟩ id ua gM
 ·have hge: ¬i<l.length:=by simpa using h
  rw[uC ua]at J;simp only[fieldsE]at J;rw[<-J]
  repeat' first|refine gG ?_|refine gB ?_ ?_<;>intro h|refine zd ?_
  exact gE
def x9(V:List (Str×EV))(vs:List Fld):Prop:= ∀s,getG V s=(look vs s).map λt=> .o (ks t)
def zao(q:List (Str×EV)×List (Str×EV))(f:Fld):List (Str×EV)×List (Str×EV):=
 if(getG q.1 f.n).isSome then q else(putG q.1 f.n (.o (.k (.bool true))),putG q.2 f.n (.o (ks f.t)))
abbrev glM(l:List Fld):List (Str×EV):=bkM (·.n) (λf=> .o (ks f.t)) l
def vsM(ls:List (List Fld))(gl:List Fld):List (Str×EV):=(ls.flatten.foldl zao ([],glM gl)).2
theorem look_app(a b:List Fld)(s:Str):look (a++b) s=match look a s with|some t=>some t|none=>look b s:=by
 unfold look
 grind
theorem zgO(gl:List Fld): ∀(l p:List Fld) (q:List (Str×EV)×List (Str×EV)),(∀s,getG q.1 s=(look p s).map λ_=> .o (.k (.bool true)))->x9 q.2 (p++gl)->
 (∀s,getG (l.foldl zao q).1 s=(look (p++l) s).map λ_=> .o (.k (.bool true)))/\x9 (l.foldl zao q).2 (p++l++gl)
 | [],p,q,h1,h2=>by simp_all
 |f::l,p,q,h1,h2=>by
  have key:(∀s,getG (zao q f).1 s=(look (p++[f]) s).map λ_=> .o (.k (.bool true)))/\x9 (zao q f).2 (p++[f]++gl):=by
   have hf: ∀s,look [f] s=if f.n=s then some f.t else none:=λs=>by
    unfold look;rw[qS];by_cases h:f.n=s
    ·rw[uw h,uZ h];rfl
    ·rw[ur h,uI h];rfl
   unfold zao;cases hp:look p f.n with
   |some t=>
    have:(getG q.1 f.n).isSome=true:=by rw[h1,hp];rfl
    rw[uw this];refine⟨λs=>?_,λs=>?_⟩
    ·rw[h1,look_app];cases hs:look p s with
     |some _=>rfl
     |none=>
      rw[hf,ur (λe=>by rw[e]at hp;rw[hp]at hs;cases hs)]
    ·rw[h2,look_app,look_app,look_app];cases hs:look p s with
     |some _=>rfl
     |none=>
      rw[hf,ur (λe=>by rw[e]at hp;rw[hp]at hs;cases hs)]
   |none=>
    have: ¬(getG q.1 f.n).isSome=true:=by rw[h1,hp];simp
    rw[ur this];refine⟨λs=>?_,λs=>?_⟩
    ·rw[jk,look_app];by_cases e:f.n=s
     ·rw[uw e,<-e,hp];simp only[hf,uw];rfl
     ·rw[ur e,h1];cases hs:look p s with
      |some _=>rfl
      |none=>simp only[hf,ur e]
    ·rw[jk,look_app,look_app];by_cases e:f.n=s
     ·rw[uw e,<-e,hp];simp only[hf,uw];rfl
     ·rw[ur e,h2,look_app];cases hs:look p s with
      |some _=>rfl
      |none=>simp only[hf,ur e]
  have:=zgO gl l (p++[f]) (zao q f) key.1 key.2
  simp_all
theorem zlS(ls:List (List Fld))(gl:List Fld):x9 (vsM ls gl) (ls.flatten++gl):=by
 have h:=(zgO gl ls.flatten [] ([],glM gl) (λ_=>rfl) (λs=>by rw[tM,zb8];unfold look;cases gl.find? (λf=>decide (f.n=s))<;>rfl)).2;simpa [vsM]using h
abbrev scS(b:Bool)(a m:Nat):S:= .agg [.bx a 0,.mp m,.p (.k (.bool b))]
noncomputable def scR(d:zf)(b:Bool)(l:List (Str×EV)):RL:=[(7,.box [.bx 0 0,.mp 3,.p (.k (.bool b))]),(3,mpS l),(6,.box (zV [.ptr,.map,.bool]))]++ckR d 0 1 2
theorem zyr: ∀k s,sg [(7,s0)] k=some s->sg ((7,s0)::r) k=some s:=λk s h=>by
 have h:=zaP h;simp only[tv,uz]at h;rw[h.1,h.2];rfl
abbrev zfg(ls:List (List Fld)):PV:= .sl 1 (ls.map λl=>[zw l])
def scQ(p gl:List Fld):List (Str×EV)×List (Str×EV):=p.foldl zao ([],glM gl)
theorem zsu(p gl:List Fld)(s:Str):getG (scQ p gl).1 s=(look p s).map λ_=> .o (.k (.bool true)):=by
 have h:=(zgO gl p [] ([],glM gl) (λ_=>rfl) (λs=>by rw[tM,zb8];unfold look;cases gl.find? (λf=>decide (f.n=s))<;>rfl)).1 s;rw[tM]at h;exact h
theorem zoW(p gl:List Fld)(f:Fld):scQ (p++[f]) gl=zao (scQ p gl) f:=by unfold scQ;simp_all
theorem zlT{ls:List (List α)}{l:List α}(h:ls[i]?=some l):(ls.take (i+1)).flatten=(ls.take i).flatten++l:=by
 rw[zO h,qi];simp
theorem zfh(b:Bool): ∀M,RepEV M (.o (.k (.bool b))) (.bool b):=λM=>by simp only[RepEV,RepPV];exact⟨uh,rfl⟩
theorem zdS(d:zf)(b:Bool)(ls:List (List Fld))(h1:d.globals.length<=1099511627776)(h2:ls.length<=10)(h3: ∀l∈ls,l.length<=1099511627776):
 zh prog 195 [.one (.bx 0 0),Bo b,pS (zfg ls)] (ckR d 0 1 2) (scS b 0 3) (ckR d 0 1 2++[(3,mpS (vsM ls d.globals))]):=by
 have hB:=zu7 d.globals;refine zqv T (rv:=[.cell 6 247]) (func195) ud rfl rfl rfl rfl ?_
 refine zlN T (m:=3) (p0:=25) (p1:=26) (j:=80) (tm:=24) (slr:=[(7,.one (.bx 7 0))]) (sl1:=[(7,.one (.bx 7 0)),(6,.one (.bx 6 0)),(2,pS (zfg ls)),(24,.one (.cl 261 [] [.bx 91 0]))]) (R2:=scR d b []) (R2':=scR d b (glM d.globals)) (Rx:=[]) (bx:= .box [.p (zw d.globals)]) rfl
  (λC hC=>?_) ?_ rfl ?_ rfl rfl rfl rfl rfl rfl rfl rfl rfl rfl rfl rfl rfl λD1=>?_
 ·repeat' first|refine gG ?_|refine gB ?_ ?_<;>intro h|refine zdo kS hC rfl rfl rfl ?_|refine gR hB (nm [191]) ?_
  exact zK ⟨rfl,rfl,mvL [(7,1007),(3,1016),(6,1006),(91,191)],⟨rfl,rfl,rfl,rfl,uh⟩,⟨rfl,rfl,rfl,rfl,rfl,rfl,rfl,uh⟩,rfl,rfl⟩
 ·have h0:=zoT (ts:=d.globals) (asg:=?_) (body:=?_) (p0:=25) (p1:=26) (n:=f195.ntmps) (slr:=[(7,.one (.bx 7 0))]) (ids:=[7,3,6,0,1,2]) (λi=>scR d b (bkM (·.n) (λf=> .o (ks f.t)) (d.globals.drop i))) ub ub ub (λ_=>rfl)
   (by intro k s h;simp only[tv,uz]at h;rw[h.2];rfl) rfl rfl (λ_=>rfl) (λ_=>rfl) h1 ?_
  ·simp only[qI,ow]at h0;exact h0
  ·intro i t ht;rw[zdP ht]
   refine zsh T rfl rfl rfl λlp o o'=>⟨_,_,_,_,_,_,ya T (ya T zcV rfl) rfl,rfl,rfl,
    zgL (et:=9) (pv:= .o (ks t.t)) kS (ya T (ya T (ya T (ya T (ya T (ya T zcV rfl) rfl) rfl) rfl) rfl) rfl) rfl rfl rfl rfl ud rfl,rfl,rfl,?_,rfl⟩
   exact⟨rfl,rfl,rfl,rfl,rfl,rfl,uh⟩
 ·exact zyr
 ·refine zlM T rfl rfl λC hC=>?_
  repeat' first|refine gG ?_|refine gB ?_ ?_<;>intro h|refine zdo kS hC rfl rfl rfl ?_
  rw[uj]
  refine zj (λi:Nat=>i<=ls.length) (λi=>([(6,.one (.bx 6 0)),(7,.one (.bx 7 0)),(10,.one (.mp 1033)),(34,pS (zfg ls)),(35,I ls.length),(36,I i)],tb (scR d b (scQ (ls.take i).flatten d.globals).2++[(1033,mpS (scQ (ls.take i).flatten d.globals).1),(80,.raw D1 (.deferred (some [])))]))) (λi=>ls.length - i) hC
   0 (uD _) id gM ?_
  intro i hi;refine gLc ?_ ?_<;>intro h
  ·have hlt:i<ls.length:=by simpa using h
   clear h;obtain⟨l,hl⟩:=za hlt;have hll:=h3 l (uv hl)
   repeat' first|refine gG ?_|refine gB ?_ ?_<;>intro h|refine gX ?_
   rw[uj];generalize hp:(ls.take i).flatten=p
   refine zj (λj:Nat=>j<=l.length) (λj=>([(6,.one (.bx 6 0)),(7,.one (.bx 7 0)),(10,.one (.mp 1033)),(34,pS (zfg ls)),(35,I ls.length),(36,I i),(40,pS (zw l)),(41,I l.length),(42,I j)],tb (scR d b (scQ (p++l.take j) d.globals).2++[(1033,mpS (scQ (p++l.take j) d.globals).1),(80,.raw D1 (.deferred (some [])))]))) (λj=>l.length - j) hC
    0 (uD _) id (by rw[List.take_zero,uV];exact gM) ?_
   intro j hj;refine gLc ?_ ?_<;>intro h
   ·have hlt2:j<l.length:=by simpa using h
    clear h;obtain⟨f,hf⟩:=za hlt2;have U:scQ (p++l.take (j+1)) d.globals=zao (scQ (p++l.take j) d.globals) f:=by rw[zO hf,<-tE,zoW]
    have J:=zsu (p++l.take j) d.globals f.n;generalize hq:scQ (p++l.take j) d.globals=q at U J;cases hlk:look (p++l.take j) f.n with
    |some t=>
     rw[hlk]at J;have hq2:zao q f=q:=by unfold zao;rw[J];rfl
     repeat' first|refine gG ?_|exact gD|refine gB ?_ ?_<;>intro h|refine gX ?_|refine vo kS hC (et:=4) (c0:= .bool false) (.o (.k (.bool false))) (pv:= .o (.k (.bool true))) rfl rfl rfl ud ud (zfh false) (by rw[J];rfl) rfl rfl ?_
     rw[wrap64 ua];exact zg (j+1) ua id ua (by rw[U,hq2];exact gM)
    |none=>
     rw[hlk]at J;have hq2:zao q f=(putG q.1 f.n (.o (.k (.bool true))),putG q.2 f.n (.o (ks f.t))):=by unfold zao;rw[J];rfl
     repeat' first|refine gG ?_|exact gD|refine gB ?_ ?_<;>intro h|refine gX ?_|refine vo kS hC (et:=4) (c0:= .bool false) (.o (.k (.bool false))) (pv:= .o (.k (.bool false))) rfl rfl rfl ud ud (zfh false) (by rw[J];rfl) rfl rfl ?_|refine zcG kS hC (et:=9) (pv:= .o (ks f.t)) rfl rfl rfl rfl ud rfl rfl ?_|refine zcG kS hC (et:=4) (pv:= .o (.k (.bool true))) rfl rfl rfl rfl ud rfl rfl ?_
     rw[wrap64 ua];exact zg (j+1) ua id ua (by rw[U,hq2];exact gM)
   ·have hge: ¬j<l.length:=by simpa using h
    rw[u0 (show l.length<=j by omega),<-hp,<-zlT hl]
    repeat' first|refine gG ?_|refine gB ?_ ?_<;>intro h|refine zd ?_
    rw[wrap64 ua];exact zg (i+1) ua id ua gM
  ·have hge: ¬i<ls.length:=by simpa using h
   rw[u0 (show ls.length<=i by omega)]
   repeat' first|refine gG ?_|refine gB ?_ ?_<;>intro h|refine zd ?_
   exact gE
theorem zlU(d:zf)(p:Pr)(U:d.globals.length<=1099511627776)(h2:p.params.length<=1099511627776)(h3:p.locs.length<=1099511627776):
 zh prog 176 [.one (.bx 0 0),zn (zD p)] (ckR d 0 1 2) (scS true 0 3) (ckR d 0 1 2++[(3,mpS (vsM [p.params,p.locs] d.globals))]):=by
 have hS:=zdS d true [p.params,p.locs] U ue (by intro l J;simp only[uF,List.mem_nil_iff,oT]at J;rcases J with rfl|rfl<;>assumption);refine gFo func176 λC hC=>?_
 repeat' first|refine gG ?_|refine gB ?_ ?_<;>intro h|refine gH T [[zw p.params],[zw p.locs]] ?_|refine gR hS iu ?_|refine zd ?_
 exact gW [0,1,2,103]
theorem zjn(d:zf)(p:Pr)(U:d.globals.length<=1099511627776)(h2:p.params.length<=1099511627776):
 zh prog 179 [.one (.bx 0 0),zn (zD p)] (ckR d 0 1 2) (scS false 0 3) (ckR d 0 1 2++[(3,mpS (vsM [p.params] d.globals))]):=by
 have hS:=zdS d false [p.params] U ue (by intro l J;simp only[uF,List.mem_nil_iff,oT]at J;rcases J with rfl;assumption);refine gFo func179 λC hC=>?_
 repeat' first|refine gG ?_|refine gB ?_ ?_<;>intro h|refine gH T [[zw p.params]] ?_|refine gR hS iu ?_|refine zd ?_
 exact gW [0,1,2,103]
theorem zvd{A B:S}:yG [A,B,.one (.p (.k (.slice none 0 0)))] [A,B,pS (zfg [])]:=λM ρ xs h=>by
 match xs,h with
 | [a,b,c],h=>
   simp only[RepSs]at h⊢;refine⟨h.1,h.2.1,?_,uh⟩;have:=h.2.2.1;simp only[RepS]at this⊢;exact LeV.nil 1 _ _ _ this
theorem zap(d:zf)(t:Str)(h1:d.globals.length<=1099511627776):
 ∃V,x9 V (zbe d t)/\zh prog 134 [.one (.bx 0 0),Sr t] (ckR d 0 1 2) (scS false 0 3) (ckR d 0 1 2++[(3,mpS V)]):=by
 have U:=zdS d false [] h1 ue ue;refine⟨if t=(⟨#[]⟩:UI)then vsM [] d.globals else putG (vsM [] d.globals) (⟨#[116,104,105,115]⟩:UI) (.o (ks t)),?_,?_⟩
 ·unfold zbe;have hv:=zlS [] d.globals;rw[oD,tM]at hv;by_cases h:t=(⟨#[]⟩:UI)
  ·simp_all
  ·rw[ur h,ur h];intro s;rw[jk,hv];unfold look
   grind
 ·refine gFo func134 λC hC=>?_;by_cases J:t=(⟨#[]⟩:UI)
  ·rw[uw J]
   repeat' first|refine gG ?_|(exfalso;simp at h;exact h J)|refine gB ?_ ?_<;>intro h|refine wW hC U iu rfl rfl zvd rfl rfl rfl rfl rfl rfl rfl rfl ?_|refine zd ?_
   exact gW [0,1,2,103]
  ·rw[ur J]
   repeat' first|refine gG ?_|(exfalso;simp at h;exact J h)|refine gB ?_ ?_<;>intro h|refine wW hC U iu rfl rfl zvd rfl rfl rfl rfl rfl rfl rfl rfl ?_|refine zcG kS hC (et:=9) (pv:= .o (ks t)) rfl rfl rfl rfl ud rfl rfl ?_|refine zd ?_
   exact gW [0,1,2,103]
theorem zsv(t s:Str):zh prog 240 [Sr s,.one (.bx 0 0)] [(0,.box [.p (ks t)])] (.bq (!decide (s=t))) [(0,.box [.p (ks t)])]:=by
 refine gFo func240 λC hC=>?_
 repeat' first|refine gG ?_|refine gB ?_ ?_<;>intro h|refine zd ?_
 exact gE
theorem zsw(f:FuncId)(tx:Str)(l:List Str)(p:Str->Unit->Bool)(nx:Str->Unit->Unit)(inv:Unit->Prop)
 (hf: ∀x∈l,∀s:Unit,inv s->zh prog f [Sr x,.one (.bx 0 0)] [(0,.box [.p (ks tx)])] (.bq (p x s)) ((λs:Unit=>[(0,.box [.p (ks tx)])]) (nx x s))/\(p x s=false->inv (nx x s))) (s:Unit) (hs:inv s):
 zh prog 263 [pS (.sl 1 (l.map zei)),.one (.cl f [] [.bx 0 0])] [(0,.box [.p (ks tx)])] (I (idxR p nx l 0 s).1) ((λs:Unit=>[(0,.box [.p (ks tx)])]) (idxR p nx l 0 s).2):=by
 refine gFo func263 λC hC=>?_;have hs0:=hs;refine wG 0 rfl λhl=>?_;rw[uj]at hl
 repeat' first|refine gG ?_|refine gB ?_ ?_<;>intro h
 rw[uj]
 refine zj (λq:Nat×Unit=>q.1<=l.length/\inv q.2/\idxR p nx (l.drop q.1) q.1 q.2=idxR p nx l 0 s) (λq=>(λs:Unit=>([(0,pS (.sl 1 (l.map zei))),(1,.one (.cl f [] [.bx 0 0])),(7,I l.length),(8,I q.1)],[(0,some (.box [.p (ks tx)]))])) q.2) (λq=>l.length - q.1) hC
  (0,s) ⟨uD _,hs,rfl⟩ id gM ?_
 generalize idxR p nx l 0 s=res;clear hs hs0;rintro⟨i,s⟩ ⟨hi,hv,J⟩;simp only at hi hv J;refine gLc ?_ ?_<;>intro hh
 ·have hlt:i<l.length:=by simpa using hh
  clear hh;obtain⟨x,hx⟩:=za hlt;rw[drop_at hx]at J;simp only[idxR]at J;have hv2:=(hf x (uv hx) s hv).2
  repeat' first|refine gG ?_|refine gB ?_ ?_<;>intro h|refine gIt (zl hx) ?_|refine gR (hf x (uv hx) s hv).1 id ?_|refine zk ?_
  ·rw[uw uf]at J;subst J;exact gE
  ·have U:p x s=false:=by assumption
   rw[U]at J;simp only[uB,uN]at J;rw[wrap64 ua];exact zg (i+1,nx x s) ⟨ua,hv2 U,J⟩ id ua gM
 ·have hge: ¬i<l.length:=by simpa using hh
  rw[uC ua]at J;simp only[idxR]at J;subst J
  repeat' first|refine gG ?_|refine gB ?_ ?_<;>intro h|refine zd ?_
  exact gE
theorem zsx(f:FuncId)(tx:Str)(l:List Str)(p:Str->Unit->Bool)(nx:Str->Unit->Unit)(inv:Unit->Prop)
 (hf: ∀x∈l,∀s:Unit,inv s->zh prog f [Sr x,.one (.bx 0 0)] [(0,.box [.p (ks tx)])] (.bq (p x s)) ((λs:Unit=>[(0,.box [.p (ks tx)])]) (nx x s))/\(p x s=false->inv (nx x s))) (s:Unit) (J:inv s):
 zh prog 239 [pS (.sl 1 (l.map zei)),.one (.cl f [] [.bx 0 0])] [(0,.box [.p (ks tx)])] (.bq (anyR p nx l s).1) ((λs:Unit=>[(0,.box [.p (ks tx)])]) (anyR p nx l s).2):=by
 refine gFo func239 λC hC=>?_
 repeat' first|refine gG ?_|refine gB ?_ ?_<;>intro h|refine gR (zsw f tx l p nx inv hf s J) iw ?_
 exact zK ⟨.inl rfl,id,_,rfl,.qq (zaV p nx l 0 s),by rw[<-zaW p nx l 0 s];exact⟨rfl,uh⟩,rfl,rfl⟩
theorem zlV(l:List Str)(t r:Str):zh prog 238 [Sr t,Sr r,.one (.bx 0 0)] [(0,.box [.p (za5 l)])] (.tup [Sr (zhC l t r).1,I (zhC l t r).2]) [(0,.box [.p (za5 l)])]:=by
 have J:=zsx 240 t l (λs _=> !decide (s=t)) (λ_ s=>s) (λ_=>True) (λx _ _ _=>⟨zsv t x,λ_=>trivial⟩) () trivial;rw[zlQ (λ(s:Str)=> !decide (s=t)) l]at J;unfold zhC;generalize (l.any λs=> !decide (s=t))=q at J⊢;refine gFo func238 λC hC=>?_;cases q
 ·repeat' first|refine gG ?_|exact gD|refine gB ?_ ?_<;>intro h|refine gR J iy ?_|refine zd ?_
  exact gE
 ·repeat' first|refine gG ?_|exact gD|refine gB ?_ ?_<;>intro h|refine gR J iy ?_|refine zd ?_
  exact gE
theorem zqx: ∀M,RepEV M (.o (ks (⟨#[]⟩:UI))) (.string (⟨#[]⟩:UI)):=λM=>by simp only[RepEV,RepPV];exact⟨uh,rfl⟩
def arB(op:Int)(n:Nat):Prop:=(op=5->1<=n)/\(op=14\/op=15->2<=n)/\(op=21->3<=n)
theorem jU{l:List Str}{j:Int}(J:j=i)(h:i<l.length):(l.map zei)[j.toNat]?=some [ks (lsA l i)]:=by
 subst J;obtain⟨x,U⟩:=za h;simp[U,lsA,zei]
noncomputable abbrev scL(d:zf)(V:List (Str×EV)):RL:=ckR d 0 1 2++[(3,mpS V)]
def zve(d:zf)(l:List Str):Str×Int:=bif !yo d (lsA l 0) (lsA l 1)then(bif !yo d (lsA l 1) (lsA l 0)then((⟨#[]⟩:UI),11)else((⟨#[98,111,111,108]⟩:UI),0))else((⟨#[98,111,111,108]⟩:UI),0)
def zcZ(d:zf)(vs:List Fld)(b:Bool)(op:Int)(s:Str)(l:List Str):Str×Int:=
 bif decide (op=1)then((⟨#[105,110,116]⟩:UI),0)else bif decide (op=2)then((⟨#[98,111,111,108]⟩:UI),0)else bif decide (op=3)then((⟨#[110,105,108]⟩:UI),0)
 else bif decide (op=4)then(bif !(look vs s).isSome then((⟨#[]⟩:UI),9)else((look vs s).getD (⟨#[]⟩:UI),0))
 else bif decide (op=5)then fieldT d (lsA l 0) s
 else bif decide (op=6)then(bif !b then((⟨#[]⟩:UI),13)else bif !yE d s then((⟨#[]⟩:UI),9)else(s,0))
 else bif decide (op=14)then zve d l else bif decide (op=15)then zve d l
 else bif decide (op=16)then zhC l (⟨#[105,110,116]⟩:UI) (⟨#[98,111,111,108]⟩:UI)else bif decide (op=17)then zhC l (⟨#[105,110,116]⟩:UI) (⟨#[98,111,111,108]⟩:UI)
 else bif decide (op=18)then zhC l (⟨#[98,111,111,108]⟩:UI) (⟨#[98,111,111,108]⟩:UI)else bif decide (op=19)then zhC l (⟨#[98,111,111,108]⟩:UI) (⟨#[98,111,111,108]⟩:UI)else bif decide (op=20)then zhC l (⟨#[98,111,111,108]⟩:UI) (⟨#[98,111,111,108]⟩:UI)
 else bif decide (op=21)then(bif !decide (lsA l 0=(⟨#[98,111,111,108]⟩:UI))then((⟨#[]⟩:UI),11)else bif yo d (lsA l 1) (lsA l 2)then(lsA l 2,0)else bif yo d (lsA l 2) (lsA l 1)then(lsA l 1,0)else((⟨#[]⟩:UI),11))
 else zhC l (⟨#[105,110,116]⟩:UI) (⟨#[105,110,116]⟩:UI)
theorem zlW(d:zf)(vs:List Fld)(b:Bool)(op:Int)(s:Str)(l:List Str):zu d vs b op s l=zcZ d vs b op s l:=by
 unfold zu zcZ zve;simp only[cond_eq_ite,uq,ux];by_cases h4:op=4
 ·grind
 ·simp only[h4,uN];by_cases J:op=14
  ·grind
  ·by_cases U:op=15
   ·grind
   ·simp only[J,U,or_self,uN];by_cases h16:op=16
    ·subst h16;simp
    ·by_cases h17:op=17
     ·subst h17;simp
     grind
variable {d:zf}
set_option maxHeartbeats 4000000 in
set_option maxRecDepth 100000 in
theorem zoX{V:List (Str×EV)}{vs:List Fld}(b:Bool)(e:Ex)(l:List Str)(hV:x9 V vs)(ha:arB e.op l.length)(hty: ∀x∈d.types,x.f.length<=1099511627776):
 zh prog 197 [scS b 0 3,zn (yg e),pS (za5 l)] (scL d V) (.tup [Sr (zu d vs b e.op e.s l).1,I (zu d vs b e.op e.s l).2]) (scL d V):=by
 have hF:=zfe d (lsA l 0) e.s hty;have hN:=jT d e.s;have h01:=wm d (lsA l 0) (lsA l 1);have h10:=wm d (lsA l 1) (lsA l 0);have h12:=wm d (lsA l 1) (lsA l 2);have h21:=wm d (lsA l 2) (lsA l 1);have hib:=zlV l (⟨#[105,110,116]⟩:UI) (⟨#[98,111,111,108]⟩:UI);have hbb:=zlV l (⟨#[98,111,111,108]⟩:UI) (⟨#[98,111,111,108]⟩:UI);have hii:=zlV l (⟨#[105,110,116]⟩:UI) (⟨#[105,110,116]⟩:UI);have hgv:(getG V e.s).getD (.o (ks (⟨#[]⟩:UI)))= .o (ks ((look vs e.s).getD (⟨#[]⟩:UI))):=by rw[hV];cases look vs e.s<;>rfl
 have hgs:(getG V e.s).isSome=(look vs e.s).isSome:=by rw[hV];cases look vs e.s<;>rfl
 obtain⟨a1,a2,a3⟩:=ha;generalize hr:zu d vs b e.op e.s l=r;refine gFo func197 λC hC=>?_
 repeat' first|refine gG ?_|refine gB ?_ ?_<;>intro h|refine gR hF ic ?_|refine gR hN ic ?_|refine gR h01 ic ?_|refine gR h10 ic ?_|refine gR h12 ic ?_|refine gR h21 ic ?_|refine gR hib iB ?_|refine gR hbb iB ?_|refine gR hii iB ?_|refine yq (et:=9) kS hC (c0:= .string (⟨#[]⟩:UI)) (.o (ks (⟨#[]⟩:UI))) (pv:= .o (ks ((look vs e.s).getD (⟨#[]⟩:UI)))) (b:=(look vs e.s).isSome) rfl rfl rfl ud ud zqx hgv hgs rfl rfl ?_|refine jE T hC rfl rfl rfl ub (jU (i:=0) rfl (by simp only[uq]at *; omega)) rfl rfl ?_|refine jE T hC rfl rfl rfl ub (jU (i:=1) rfl (by simp only[uq]at *; omega)) rfl rfl ?_|refine jE T hC rfl rfl rfl ub (jU (i:=2) rfl (by simp only[uq]at *; omega)) rfl rfl ?_|refine zd ?_
 all_goals (rw[zlW]at hr)
 all_goals try (simp only[zcZ,zve, *,Un,oX]at hr;subst hr;exact gE)
 all_goals try (simp[zcZ,zve, *]at hr;subst hr;exact gE)
 all_goals try (exfalso;simp only[uq,uu]at *; omega)
 cases b
 ·repeat' first|refine gG ?_|exact gD|refine gB ?_ ?_<;>intro h|refine zd ?_
  simp only[zcZ, *,Un,oX,qA]at hr;subst hr;exact gE
 ·repeat' first|refine gG ?_|exact gD|refine gB ?_ ?_<;>intro h|refine gR hN ic ?_|refine zd ?_
  all_goals (simp only[zcZ, *,Un,oX,qo]at hr;subst hr;exact gE)
theorem find_idx{α:Type}(p:α->Bool): ∀(l:List α),(match l.findIdx? p with|some i=>(∃x,l[i]?=some x/\l.find? p=some x)|none=>l.find? p=none)
 | []=>rfl
 |x::r=>by
  rw[List.findIdx?_cons,qS];by_cases h:p x=true
  ·simp_all
  ·rw[ur h];have hf:p x=false:=by simpa using h
   rw[hf];have:=find_idx p r
   grind
theorem zvf(x:Ms)(s:Str):zh prog 262 [zn (yA x),.one (.bx 0 0)] [(0,.box [.p (ks s)])] (.bq (decide (x.n=s))) [(0,.box [.p (ks s)])]:=by
 refine gFo func262 λC hC=>?_
 repeat' first|refine gG ?_|refine gB ?_ ?_<;>intro h|refine zd ?_
 exact gE
theorem zfi(f:FuncId)(l:List Ms)(p:Ms->Str->Bool)(nx:Ms->Str->Str)(inv:Str->Prop)
 (hf: ∀x∈l,∀s:Str,inv s->zh prog f [zn (yA x),.one (.bx 0 0)] [(0,.box [.p (ks s)])] (.bq (p x s)) ((λs:Str=>[(0,.box [.p (ks s)])]) (nx x s))/\(p x s=false->inv (nx x s))) (s:Str) (hs:inv s):
 zh prog 200 [pS (.sl 7 (l.map yA)),.one (.cl f [] [.bx 0 0])] [(0,.box [.p (ks s)])] (I (idxR p nx l 0 s).1) ((λs:Str=>[(0,.box [.p (ks s)])]) (idxR p nx l 0 s).2):=by
 refine gFo func200 λC hC=>?_;have hs0:=hs;refine wG 0 rfl λhl=>?_;rw[uj]at hl
 repeat' first|refine gG ?_|refine gB ?_ ?_<;>intro h
 rw[uj]
 refine zj (λq:Nat×Str=>q.1<=l.length/\inv q.2/\idxR p nx (l.drop q.1) q.1 q.2=idxR p nx l 0 s) (λq=>(λs:Str=>([(0,pS (.sl 7 (l.map yA))),(1,.one (.cl f [] [.bx 0 0])),(7,I l.length),(8,I q.1)],[(0,some (.box [.p (ks s)]))])) q.2) (λq=>l.length - q.1) hC
  (0,s) ⟨uD _,hs,rfl⟩ id gM ?_
 generalize idxR p nx l 0 s=res;clear hs hs0;rintro⟨i,s⟩ ⟨hi,hv,J⟩;simp only at hi hv J;refine gLc ?_ ?_<;>intro hh
 ·have hlt:i<l.length:=by simpa using hh
  clear hh;obtain⟨x,hx⟩:=za hlt;rw[drop_at hx]at J;simp only[idxR]at J;have hv2:=(hf x (uv hx) s hv).2
  repeat' first|refine gG ?_|refine gB ?_ ?_<;>intro h|refine gIt (zl hx) ?_|refine gR (hf x (uv hx) s hv).1 id ?_|refine zk ?_
  ·rw[uw uf]at J;subst J;exact gE
  ·have U:p x s=false:=by assumption
   rw[U]at J;simp only[uB,uN]at J;rw[wrap64 ua];exact zg (i+1,nx x s) ⟨ua,hv2 U,J⟩ id ua gM
 ·have hge: ¬i<l.length:=by simpa using hh
  rw[uC ua]at J;simp only[idxR]at J;subst J
  repeat' first|refine gG ?_|refine gB ?_ ?_<;>intro h|refine zd ?_
  exact gE
theorem zjo(d:zf)(V:List (Str×EV))(b:Bool)(s:Str)(l:List Str)(hl:l.length<=1099511627776):
 zh prog 236 [scS b 0 3,Sr s,pS (za5 l)] (scL d V) (.tup [Sr (zay d s l).1,I (zay d s l).2]) (scL d V):=by
 have J:=zfi 262 d.measures (λx _=>decide (x.n=s)) (λ_ s=>s) (λc=>c=s) (λx hx c hc=>⟨by subst hc;exact zvf x c,λ_=>hc⟩) s rfl;rw[yR]at J;have U:=find_idx (λm:Ms=>decide (m.n=s)) d.measures;refine gFo func236 λC hC=>?_;cases hx:d.measures.findIdx? (λm=>decide (m.n=s))with
 |none=>
  rw[hx]at J U;simp only[idxI]at J;rw[show zay d s l=((⟨#[]⟩:UI),9) by simp only[zay,ztD,U]]
  repeat' first|refine gG ?_|exact gD|exact gP|refine gB ?_ ?_<;>intro h|refine gR J iC ?_|refine zd ?_
  exact gE
 |some i=>
  rw[hx]at J U;simp only[idxI]at J;obtain⟨m,hm,hfm⟩:=U;have hF:=wm d (lsA l 0) m.t;by_cases h1:l.length=1
  ·cases hq:yo d (lsA l 0) m.t with
   |false=>
    rw[hq]at hF;rw[show zay d s l=((⟨#[]⟩:UI),11) by simp[zay,ztD,hfm,h1,hq]]
    repeat' first|refine gG ?_|exact gD|exact gP|refine gB ?_ ?_<;>intro h|refine gR J iC ?_|refine gR hF ic ?_|refine jE T hC rfl rfl rfl ub (jU (i:=0) rfl ua) rfl rfl ?_|refine gIt (zl hm) ?_|refine zd ?_
    exact gE
   |true=>
    rw[hq]at hF;rw[show zay d s l=((⟨#[105,110,116]⟩:UI),0) by simp[zay,ztD,hfm,h1,hq]]
    repeat' first|refine gG ?_|exact gD|exact gP|refine gB ?_ ?_<;>intro h|refine gR J iC ?_|refine gR hF ic ?_|refine jE T hC rfl rfl rfl ub (jU (i:=0) rfl ua) rfl rfl ?_|refine gIt (zl hm) ?_|refine zd ?_
    exact gE
  ·rw[show zay d s l=((⟨#[]⟩:UI),3) by simp[zay,ztD,hfm,h1]]
   repeat' first|refine gG ?_|exact gD|exact gP|refine gB ?_ ?_<;>intro h|refine gR J iC ?_|refine zd ?_
   exact gE
theorem za1: ∀M,RepEV M (.g [ks (⟨#[]⟩:UI),.k (.slice none 0 0),ks (⟨#[]⟩:UI),.k (.slice none 0 0),.k (.slice none 0 0)]) (.agg #[.string (⟨#[]⟩:UI),.slice none 0 0,.string (⟨#[]⟩:UI),.slice none 0 0,.slice none 0 0]):=
 λM=>⟨[.string (⟨#[]⟩:UI),.slice none 0 0,.string (⟨#[]⟩:UI),.slice none 0 0,.slice none 0 0],rfl,by simp only[RepPVl,RepPV];exact⟨⟨uh,rfl⟩,⟨uh,rfl⟩,⟨uh,rfl⟩,⟨uh,rfl⟩,⟨uh,rfl⟩,uh⟩⟩
abbrev zvg(d:zf)(vs:List Fld)(V:List (Str×EV))(b:Bool)(e:Ex):Prop:=zh prog 135 [scS b 0 3,zn (yg e)] (scL d V) (.tup [Sr (exT d vs b e).1,I (exT d vs b e).2]) (scL d V)
abbrev zxZ(d:zf)(vs:List Fld)(V:List (Str×EV))(b:Bool)(e:Ex):Prop:=zh prog 196 [scS b 0 3,zn (yg e)] (scL d V) (.tup [Sr (caT d vs b e).1,I (caT d vs b e).2]) (scL d V)
variable {b:Bool}
theorem zlX{vs:List Fld}{l:List Ex}{x:Ex}{ts:List Str}{q:List Str×Int}(J:l[i]?=some x)(h:(ts++(exsT d vs b (l.drop i)).1,(exsT d vs b (l.drop i)).2)=q):
 ((exT d vs b x).2=0/\((ts++[(exT d vs b x).1])++(exsT d vs b (l.drop (i+1))).1,(exsT d vs b (l.drop (i+1))).2)=q)\/((exT d vs b x).2≠0/\q.2=(exT d vs b x).2):=by
 rw[drop_at J]at h;cases he:exT d vs b x with
 |mk t e=>
  simp only[exsT,he]at h
  grind
theorem zdT: ∀ {l:List (Nat×Nat)},(l.all λp=>Nat.ble 100 p.1)=true-> ∀i,i<100->mvL l i=i
 | [],_,_,_=>rfl
 |(a,b)::l,h,i,hi=>by
  simp only[tQ,um]at h;have ha:100<=a:=uS h.1;have:=zdT h.2 i hi;unfold mvL at this⊢
  grind
theorem wK(h:i<=1000000):IntKind.i64.wrap ((i:Int)+1)=((i+1:Nat):Int):=by rw[wrap64 ua];omega
theorem zsy{vs:List Fld}{e:Ex}{f:Int}(h:(exsT d vs b e.l).2=f)(h0:f≠0):caT d vs b e=((⟨#[]⟩:UI),f):=by
 unfold caT
 simp_all
theorem zsz{β:Type}(p:α×β->Bool){l:List α}{m:List β}{y:β}(J:l[i]?=some x)(U:m[i]?=some y):((List.zip l m).take (i+1)).any p=(((List.zip l m).take i).any p||p (x,y)):=by
 have:(List.zip l m)[i]?=some (x,y):=by rw[tq];exact⟨J,U⟩
 rw[zO this,Uo];simp
noncomputable def xpT(d:zf)(V:List (Str×EV))(b:Bool)(e:Ex)(c n i w:Nat)(q:Nat×List Str):zb×Tab:=
 ([(2,.one (.bx 1002 0)),(3,.one (.bx 1003 0)),(c,pS (v8 e.l)),(n,I e.l.length),(i,I q.1),(w,.one (.ar 140))],
  [(1002,some (.box [.bx 0 0,.mp 3,.p (.k (.bool b))])),(1003,some (.box ((yg e).map Hw.V.p))),(140,some (.arr 1 (q.2.map zei)))]++tb (scL d V))
theorem zfj{vs:List Fld}{V:List (Str×EV)}(b:Bool)(e:Ex)(hX: ∀x∈e.l,zvg d vs V b x)(hl:e.l.length<=1000000)(hp: ∀p∈d.procs,p.params.length<=1099511627776):zxZ d vs V b e:=by
 show zh _ _ _ _ _ _;generalize hr:caT d vs b e=r;refine gFo func196 λC hC=>?_
 repeat' first|refine gG ?_|refine gB ?_ ?_<;>intro h
 refine gA 140 1 [(6,.one (.ar 140))] [] ?_;rw[uj]
 refine zj (λq:Nat×List Str=>q.1<=e.l.length/\q.2.length=q.1/\(q.2++(exsT d vs b (e.l.drop q.1)).1,(exsT d vs b (e.l.drop q.1)).2)=exsT d vs b e.l) (xpT d V b e 16 17 18 6) (λq=>e.l.length - q.1) hC
  (0,[]) ⟨uD _,rfl,rfl⟩ id gM ?_
 rintro⟨i,ts⟩ ⟨hi,hv,U⟩;simp only at hi hv U;refine gLc ?_ ?_<;>intro h
 ·have hlt:i<e.l.length:=by simpa [xpT]using h
  clear h;obtain⟨x,hx⟩:=za hlt;have hE:=hX x (uv hx);have happ:ts.map zei++[[ks (exT d vs b x).1]]=(ts++[(exT d vs b x).1]).map zei:=by rw[u5];rfl
  rcases zlX hx U with⟨h0,J⟩|⟨h0,J⟩
  ·repeat' first|refine gG ?_|exact gP|refine gB ?_ ?_<;>intro h|refine gXE ?_|refine gR hE iq ?_|refine gT ?_|refine gY T 141 ((ts++[(exT d vs b x).1]).map zei) 16 ?_
   rw[wK (by simp only;omega)];exact zg (i+1,ts++[(exT d vs b x).1]) ⟨ua,by simp_all,J⟩ (mvL [(140,141)]) ua ⟨rfl,⟨rfl,rfl,rfl,rfl,rfl,rfl,uh⟩,⟨rfl,rfl,rfl,rfl,rfl,rfl,rfl,uh⟩,rfl,zdT rfl⟩
  ·repeat' first|refine gG ?_|exact gP|refine gB ?_ ?_<;>intro h|refine gXE ?_|refine gR hE iq ?_|refine zk ?_
   rw[zsy J h0]at hr;subst hr;exact gE
 ·have hge: ¬i<e.l.length:=by simpa [xpT]using h
  clear h;have hi':i=e.l.length:=by omega
  subst hi';rw[qI]at U;simp only[exsT,uV]at U;refine gZ 140 [(6,pS (za5 ts))] [] ?_;have hM:=zjo d V b e.s ts ua;cases b
  ·repeat' first|refine gG ?_|exact gD|refine gB ?_ ?_<;>intro h|refine zd ?_|refine gR hM iq ?_
   rw[show caT d vs false e=zay d e.s ts by simp[caT,<-U,vb]]at hr;subst hr;exact gE
  ·cases hpr:zew d e.s with
   |none=>
    have hg:=zdQ d e.s;rw[hpr]at hg;rw[show caT d vs true e=((⟨#[]⟩:UI),9) by simp[caT,<-U,vb,hpr]]at hr;subst hr
    repeat' first|refine gG ?_|exact gD|refine gB ?_ ?_<;>intro h|refine yq (et:=90) kS hC (c0:= .agg #[.string (⟨#[]⟩:UI),.slice none 0 0,.string (⟨#[]⟩:UI),.slice none 0 0,.slice none 0 0]) (.g [ks (⟨#[]⟩:UI),.k (.slice none 0 0),ks (⟨#[]⟩:UI),.k (.slice none 0 0),.k (.slice none 0 0)]) (pv:= .g [ks (⟨#[]⟩:UI),.k (.slice none 0 0),ks (⟨#[]⟩:UI),.k (.slice none 0 0),.k (.slice none 0 0)]) (b:=false) rfl rfl rfl ud ud za1 (by rw[hg];rfl) (by rw[hg];rfl) rfl rfl ?_|refine zd ?_
    exact gE
   |some p=>
    have hg:=zdQ d e.s;rw[hpr]at hg;have hpl:=hp p (qB hpr);by_cases hln:ts.length=p.params.length
    ·repeat' first|refine gG ?_|exact gD|exact gP|refine gB ?_ ?_<;>intro h|refine yq (et:=90) kS hC (c0:= .agg #[.string (⟨#[]⟩:UI),.slice none 0 0,.string (⟨#[]⟩:UI),.slice none 0 0,.slice none 0 0]) (.g [ks (⟨#[]⟩:UI),.k (.slice none 0 0),ks (⟨#[]⟩:UI),.k (.slice none 0 0),.k (.slice none 0 0)]) (pv:= .g (zD p)) (b:=true) rfl rfl rfl ud ud za1 (by rw[hg];rfl) (by rw[hg];rfl) rfl rfl ?_|refine zd ?_
     rw[uj]
     refine zj (λj:Nat=>j<=ts.length/\((List.zip ts p.params).take j).any (λq=> !yo d q.1 q.2.t)=false) (λj=>([(2,.one (.bx 1002 0)),(11,.one (.bx 1011 0)),(67,pS (za5 ts)),(68,I ts.length),(69,I j)],[(1002,some (.box [.bx 0 0,.mp 3,.p (.k (.bool true))])),(1011,some (.box ((zD p).map Hw.V.p)))]++tb (scL d V))) (λj=>ts.length - j) hC
      0 ⟨uD _,rfl⟩ id gM ?_
     intro j ⟨hj,hja⟩;refine gLc ?_ ?_<;>intro h
     ·have hlt:j<ts.length:=by simpa using h
      clear h;obtain⟨x,hx⟩:=za hlt;obtain⟨y,hy⟩:=za (show j<p.params.length by omega);have hF:=wm d x y.t;have hz:=zsz (λq:Str×Fld=> !yo d q.1 q.2.t) hx hy;rw[hja,tw]at hz;simp only at hz;cases hf:yo d x y.t with
      |false=>
       rw[hf]at hF hz;rw[qA]at hz
       have hany:(List.zip ts p.params).any (λq=> !yo d q.1 q.2.t)=true:=by
        rw[List.any_eq_true]at hz⊢;obtain⟨q,hq1,J⟩:=hz;exact⟨q,qd hq1,J⟩
       rw[show caT d vs true e=((⟨#[]⟩:UI),11) by simp only[caT,<-U,uW,vb,hpr,hln,hany];rfl]at hr;subst hr
       repeat' first|refine gG ?_|exact gD|exact gP|refine gB ?_ ?_<;>intro h|refine gIt (zl hx) ?_|refine gIt (zl hy) ?_|refine gR hF ic ?_|refine zk ?_
       exact gE
      |true=>
       rw[hf]at hF hz
       repeat' first|refine gG ?_|exact gD|exact gP|refine gB ?_ ?_<;>intro h|refine gIt (zl hx) ?_|refine gIt (zl hy) ?_|refine gR hF ic ?_
       rw[wK ua];exact zg (j+1) ⟨ua,by simpa using hz⟩ id ua gM
     ·have hge: ¬j<ts.length:=by simpa using h
      clear h;rw[u0 (by rw[td];omega)]at hja;rw[show caT d vs true e=(p.res,0) by simp only[caT,<-U,uW,vb,hpr,hln,hja];rfl]at hr;subst hr
      repeat' first|refine gG ?_|refine gB ?_ ?_<;>intro h|refine zd ?_
      exact gE
    ·rw[show caT d vs true e=((⟨#[]⟩:UI),3) by simp[caT,<-U,vb,hpr,hln]]at hr;subst hr
     repeat' first|refine gG ?_|exact gD|exact gP|refine gB ?_ ?_<;>intro h|refine yq (et:=90) kS hC (c0:= .agg #[.string (⟨#[]⟩:UI),.slice none 0 0,.string (⟨#[]⟩:UI),.slice none 0 0,.slice none 0 0]) (.g [ks (⟨#[]⟩:UI),.k (.slice none 0 0),ks (⟨#[]⟩:UI),.k (.slice none 0 0),.k (.slice none 0 0)]) (pv:= .g (zD p)) (b:=true) rfl rfl rfl ud ud za1 (by rw[hg];rfl) (by rw[hg];rfl) rfl rfl ?_|refine zd ?_
     exact gE
theorem zlY{vs:List Fld}{V:List (Str×EV)}(b:Bool)(e:Ex)(hX: ∀x∈e.l,zvg d vs V b x)(hl:e.l.length<=1000000)(hp: ∀p∈d.procs,p.params.length<=1099511627776)
 (hV:x9 V vs) (ha:arB e.op e.l.length) (hty: ∀x∈d.types,x.f.length<=1099511627776):zvg d vs V b e:=by
 show zh _ _ _ _ _ _;have hCl:=zfj b e hX hl hp;generalize hr:exT d vs b e=r
 have hr0:exT d vs b e=match exsT d vs b e.l with
  |(ts,f)=>if f=0 then(if e.op=7 then(if(vb d b e.s ts).2=0/\(vb d b e.s ts).1=(⟨#[]⟩:UI)then((⟨#[]⟩:UI),11)else vb d b e.s ts)else zu d vs b e.op e.s ts)else((⟨#[]⟩:UI),f):=by
  cases e;simp only[exT];rfl
 rw[hr0]at hr;by_cases h7:e.op=7
 ·have hr:(if(caT d vs b e).2=0/\(caT d vs b e).1=(⟨#[]⟩:UI)then((⟨#[]⟩:UI),11)else caT d vs b e)=r:=by
   rw[<-hr];unfold caT;cases exsT d vs b e.l with
   |mk ts f=>
    simp only;by_cases U:f=0
    ·simp only[uw U,uw h7]
    ·simp only[ur U];rw[ur (by intro h;exact U h.1)]
  have hr:(bif decide ((caT d vs b e).2=0)&&decide ((caT d vs b e).1=(⟨#[]⟩:UI))then((⟨#[]⟩:UI),11)else caT d vs b e)=r:=by
   rw[<-hr];by_cases h1:(caT d vs b e).2=0<;>by_cases h2:(caT d vs b e).1=(⟨#[]⟩:UI)<;>simp[h1,h2]
  refine gFo func135 λC hC=>?_
  repeat' first|refine gG ?_|exact gD|exact gP|refine gB ?_ ?_<;>intro h|refine gR hCl iq ?_|refine zd ?_
  all_goals (simp only[*,qj,tn,tP,qZ,Un,oX]at hr;subst hr;exact gE)
 ·refine gFo func135 λC hC=>?_
  repeat' first|refine gG ?_|exact gP|refine gB ?_ ?_<;>intro h
  refine gA 140 1 [(8,.one (.ar 140))] [] ?_;rw[uj]
  refine zj (λq:Nat×List Str=>q.1<=e.l.length/\q.2.length=q.1/\(q.2++(exsT d vs b (e.l.drop q.1)).1,(exsT d vs b (e.l.drop q.1)).2)=exsT d vs b e.l) (xpT d V b e 31 32 33 8) (λq=>e.l.length - q.1) hC
   (0,[]) ⟨uD _,rfl,rfl⟩ id gM ?_
  rintro⟨i,ts⟩ ⟨hi,hv,hq⟩;simp only at hi hv hq;refine gLc ?_ ?_<;>intro h
  ·have hlt:i<e.l.length:=by simpa [xpT]using h
   clear h;obtain⟨x,hx⟩:=za hlt;have hE:=hX x (uv hx);have happ:ts.map zei++[[ks (exT d vs b x).1]]=(ts++[(exT d vs b x).1]).map zei:=by rw[u5];rfl
   rcases zlX hx hq with⟨U,J⟩|⟨U,J⟩
   ·repeat' first|refine gG ?_|exact gP|refine gB ?_ ?_<;>intro h|refine gXE ?_|refine gR hE iq ?_|refine gT ?_|refine gY T 141 ((ts++[(exT d vs b x).1]).map zei) 16 ?_
    rw[wK (by simp only;omega)];exact zg (i+1,ts++[(exT d vs b x).1]) ⟨ua,by simp_all,J⟩ (mvL [(140,141)]) ua ⟨rfl,⟨rfl,rfl,rfl,rfl,rfl,rfl,uh⟩,⟨rfl,rfl,rfl,rfl,rfl,rfl,rfl,uh⟩,rfl,zdT rfl⟩
   ·have hr:((⟨#[]⟩:UI),(exT d vs b x).2)=r:=by
     rw[<-hr];cases hs:exsT d vs b e.l with
     |mk ts0 f=>
      rw[hs]at J;simp only at J⊢;subst J;rw[ur U]
    repeat' first|refine gG ?_|exact gP|refine gB ?_ ?_<;>intro h|refine gXE ?_|refine gR hE iq ?_|refine zk ?_
    subst hr;exact gE
  ·have hge: ¬i<e.l.length:=by simpa [xpT]using h
   clear h;have hi':i=e.l.length:=by omega
   subst hi';rw[qI]at hq;simp only[exsT,uV]at hq;rw[<-hq]at hr;simp only[uW,ur h7]at hr;have hN:=zoX b e ts hV (by rw[hv];exact ha) hty;rw[hr]at hN;refine gZ 140 [(8,pS (za5 ts))] [] ?_
   repeat' first|refine gG ?_|refine gB ?_ ?_<;>intro h|refine zd ?_|refine gR hN iq ?_
   exact gE
mutual
def exG:Ex->Prop
 | .mk op _ _ l=>arB op l.length/\l.length<=1000000/\exGs l
def exGs:List Ex->Prop
 | []=>True
 |x::r=>exG x/\exGs r
end
theorem zdU: ∀ {l:List Ex},exGs l-> ∀x∈l,exG x
 |y::l,h,x,J=>by
  simp only[exGs]at h;rcases uF.1 J with rfl|J
  ·exact h.1
  ·exact zdU h.2 x J
theorem zid{d:zf}{vs:List Fld}{V:List (Str×EV)}(b:Bool)(hp: ∀p∈d.procs,p.params.length<=1099511627776)(hV:x9 V vs)(U: ∀x∈d.types,x.f.length<=1099511627776):
 ∀(n:Nat) (e:Ex),sizeOf e<=n->exG e->zvg d vs V b e
 |0,e,h,_=>by cases e;simp at h
 |n+1,e,h,hg=>by
  have J:arB e.op e.l.length/\e.l.length<=1000000/\exGs e.l:=by cases e;simpa only[exG,Ex.op,Ex.l]using hg
  refine zlY b e (λx hx=>zid b hp hV U n x ?_ (zdU J.2.2 x hx)) J.2.1 hp hV J.1 U;have:sizeOf x<sizeOf e.l:=qw hx;cases e;simp only[Ex.mk.sizeOf_spec,Ex.l]at*;omega
theorem zbk{vs:List Fld}{V:List (Str×EV)}(b:Bool)(U: ∀p∈d.procs,p.params.length<=1099511627776)(hV:x9 V vs)(J: ∀x∈d.types,x.f.length<=1099511627776)(e:Ex)(hg:exG e):zvg d vs V b e:=
 zid b U hV J _ e (uM _) hg
theorem zoY{vs:List Fld}{V:List (Str×EV)}(b:Bool)(hp: ∀p∈d.procs,p.params.length<=1099511627776)(hV:x9 V vs)(U: ∀x∈d.types,x.f.length<=1099511627776)(e:Ex)(hg:exG e):zxZ d vs V b e:=by
 have J:arB e.op e.l.length/\e.l.length<=1000000/\exGs e.l:=by cases e;simpa only[exG,Ex.op,Ex.l]using hg
 exact zfj b e (λx hx=>zbk b hp hV U x (zdU J.2.2 x hx)) J.2.1 hp
end Hw.Gm
