import Derived.Test.YtolghpfockkldaaGreatDoorC4
import Derived.Test.YtolghpfockkldaaGreatDoorC2
import Derived.Test.YtolghpfockkldaaGreatDoorC3
import Derived.WideKeyMaps
import Derived.DeepKeys4
import Derived.Test.YtolghpfockkldaaGreatDoorC1
import Derived.Test.YtolghpfockkldaaGreatDoorProg
import Derived.KernelRfl
import Derived.Shelf.Bits.Mul64
import Derived.Test.YtolghpfockkldaaGreatDoorE3
import Derived.RangeFuncLeaves
import Derived.RangeFuncRecord
import Derived.RangeFuncSeq
import Derived.OrdersIn
import Derived.TacticsIn
set_option linter.unusedVariables false
set_option linter.unusedSimpArgs false
set_option linter.unusedSectionVars false
set_option linter.unnecessarySimpa false
namespace Hw.Gm
open Go Go.Proofs Hw.M Ps
variable {fuel:Int}{m:Mc}
theorem zik{β:Type}{c:Mc->An β}:(m.ticks≥fuel/\ziZ fuel m c= .flt 20 m)\/(¬m.ticks≥fuel/\ziZ fuel m c= .out)\/(¬m.ticks≥fuel/\(0<=m.ticks/\m.ticks<1099511627776)/\ziZ fuel m c=c m.tk):=by
 unfold ziZ;by_cases h:m.ticks≥fuel
 ·rw[uv h];exact .inl ⟨h,rfl⟩
 ·rw[uu h];rcases wx (p:=0<=m.ticks/\m.ticks<1099511627776) (x:=c { m with ticks:=m.ticks+1 })with e|⟨J,e⟩
  ·exact .inr (.inl ⟨h,e⟩)
  ·exact .inr (.inr ⟨h,J,e⟩)
inductive WhN (d:zj) (fuel:Int) (fr:Fr) (c:Ex) (l:List Sm) (m:Mc) (res:An (Option Int×Fr)) (j:Nat):Prop
 |cf (er:Int) (m1:Mc) (h:exV d fuel fr j c m= .flt er m1) (e:res= .flt er m1)
 |cn (v:Int) (m1:Mc) (h:exV d fuel fr j c m= .ok v m1) (hv:v≠1) (e:res= .ok (none,fr) m1)
 |bf (m1:Mc) (er:Int) (m2:Mc) (h:exV d fuel fr j c m= .ok 1 m1) (h2:ssV d fuel j fr l m1= .flt er m2) (e:res= .flt er m2)
 |br (m1:Mc) (r:Int) (fr2:Fr) (m2:Mc) (h:exV d fuel fr j c m= .ok 1 m1) (h2:ssV d fuel j fr l m1= .ok (some r,fr2) m2) (e:res= .ok (some r,fr2) m2)
 |tf (m1:Mc) (fr2:Fr) (m2:Mc) (h:exV d fuel fr j c m= .ok 1 m1) (h2:ssV d fuel j fr l m1= .ok (none,fr2) m2) (h3:m2.ticks≥fuel) (e:res= .flt 20 m2)
 |go (m1:Mc) (fr2:Fr) (m2:Mc) (h:exV d fuel fr j c m= .ok 1 m1) (h2:ssV d fuel j fr l m1= .ok (none,fr2) m2) (h3: ¬m2.ticks≥fuel) (h4:0<=m2.ticks/\m2.ticks<1099511627776) (e:whV d fuel j fr2 c l m2.tk=res)
variable {d:zj}
theorem zrM{fr:Fr}{k:Nat}{c:Ex}{l:List Sm}{res:An (Option Int×Fr)}(h:whV d fuel k fr c l m=res)(J:res≠ .out): ∃j,k=j+1/\WhN d fuel fr c l m res j:=by
 cases k with
 |zero=>rw[whV]at h;exact absurd h.symm J
 |succ j=>
  refine⟨j,rfl,?_⟩;rw[whV]at h;cases hx:exV d fuel fr j c m with
  |out=>rw[hx]at h;exact absurd h.symm J
  |flt er m1=>rw[hx]at h;exact .cf er m1 hx h.symm
  |ok v m1=>
   rw[hx]at h;simp only[An.bind]at h;by_cases hv:v=1
   ·subst hv;rw[uv rfl]at h;cases hs:ssV d fuel j fr l m1 with
    |out=>rw[hs]at h;exact absurd h.symm J
    |flt er m2=>rw[hs]at h;exact .bf m1 er m2 hx hs h.symm
    |ok q m2=>
     rw[hs]at h;obtain⟨o,fr2⟩:=q;cases o with
     |some r=>exact .br m1 r fr2 m2 hx hs h.symm
     |none=>
      simp only at h;rcases zik (fuel:=fuel) (m:=m2) (c:=λm=>whV d fuel j fr2 c l m)with⟨h3,e⟩|⟨h3,e⟩|⟨h3,h4,e⟩
      ·rw[e]at h;exact .tf m1 fr2 m2 hx hs h3 h.symm
      ·rw[e]at h;exact absurd h.symm J
      ·rw[e]at h;exact .go m1 fr2 m2 hx hs h3 h4 h
   ·rw[uu hv]at h;exact .cn v m1 hx hv h.symm
def whT(d:zj)(fuel:Int)(x:Sm)(q:Nat×Fr×Mc):zf×Tab:=
 ([(0,.one (.bx 0 0)),(1,.one (.bx 5 0)),(5,.one (.bx 1005 0)),(6,.one (.bx 1006 0))],
  [(1005,some (.box ((zcL x).map V.p))),(1006,some (.box [.p (.k (.bool false)),.p (ki 0)])),(0,some (.box (mcC d fuel q.2.2 1 107 109))),(1,some (.arr 1 (q.2.2.g.map yk))),(107,some (.vw [108] 2 (wRows q.2.2.ns 0))),(108,some (.bag 1 (j9 q.2.2.ns))),(109,some (.arr 3 (q.2.2.acc.map zgQ))),
   (5,some (.box [.p (zx q.2.1.vs),.ar 6])),(6,some (.arr 1 (q.2.1.va.map yk)))])
set_option maxHeartbeats 2000000 in
theorem zwH{fr:Fr}{x:Sm}{k:Nat}(ihE: ∀j,j<=k-> ∀fr e m,wP d fuel fr e m (exV d fuel fr j e m))(ihS: ∀j,j<=k-> ∀fr l m,ztj d fuel fr l m (ssV d fuel j fr l m))
 (hT:zh Tryz.prog 273 [.one (.bx 0 0)] (mcR d fuel m 1 2 3 4) (.tup []) (mcR d fuel m.tk 1 2 3 4))
 (hop:x.op=4) {y:Ex} (hy:x.e[0]?=some y):zgf d fuel fr x m (whV d fuel k fr y x.l m.tk):=by
 obtain⟨res,hres⟩: ∃res,whV d fuel k fr y x.l m.tk=res:=⟨_,rfl⟩;rw[hres];by_cases hn:res= .out
 ·rw[hn];trivial
 refine zwf T Tryz.func260 ud rfl rfl rfl rfl λC hC=>?_
 repeat' first|refine gG ?_|(exfalso;first|(have h0:=uj h;omega)|(have h0:=um h;omega))|refine gB ?_ ?_<;>intro h|refine gR hT (nm [0,1,2,3,4]) ?_
 refine zn (λq:Nat×Fr×Mc=>q.1<=k/\whV d fuel q.1 q.2.1 y x.l q.2.2=res) (whT d fuel x) (λq=>q.1) hC
  (k,fr,m.tk) ⟨uF _,hres⟩ (ms [(107,2),(108,3),(109,4)]) ⟨rfl,⟨rfl,rfl,rfl,rfl,uh⟩,⟨rfl,rfl,rfl,rfl,rfl,rfl,rfl,rfl,rfl,uh⟩,rfl,xH rfl⟩ ?_
 clear hres hT;rintro⟨k1,fr1,m1⟩ ⟨hk,hv⟩;simp only at hk hv;obtain⟨j,rfl,hcase⟩:=zrM hv hn;have J:=ihE j ua fr1 y m1;have U:=ihS j ua fr1 x.l;rcases hcase with⟨er,m2,h1,rfl⟩|⟨v,m2,h1,hne,rfl⟩|⟨m2,er,m3,h1,h2,rfl⟩|⟨m2,r,fr2,m3,h1,h2,rfl⟩|⟨m2,fr2,m3,h1,h2,h3,rfl⟩|⟨m2,fr2,m3,h1,h2,h3,h4,hnx⟩
 ·rw[h1]at J;have J:ya _ _ _ _ _ _:=J
  repeat' first|refine gG ?_|refine gB ?_ ?_<;>intro h|(refine gI T (zI hy) ?_)|(refine zr hC J (nm [0,1,107,108,109,5,6,117,118,119]) rfl rfl (zH.refl _) rfl rfl rfl rfl rfl rfl ?_)
  exact gU (zdd (gU (zfv ⟨rfl,nm [0,1,2,3,4,5,6,117,118,119],⟨rfl,rfl,rfl,rfl,rfl,uh⟩,rfl,rfl⟩)))
 ·rw[h1]at J;have J:zh _ _ _ _ _ _:=J
  repeat' first|refine gG ?_|(exfalso;exact hne (uj h))|refine gB ?_ ?_<;>intro h|(refine gI T (zI hy) ?_)|refine gR J (nm [0,1,107,108,109,5,6,117,118,119]) ?_|refine ze ?_
  exact zdX ⟨.inl rfl,nm [0,1,2,3,4,5,6,117,118,119],_,rfl,.refl _,⟨rfl,rfl,rfl,rfl,rfl,rfl,rfl,uh⟩,rfl,rfl⟩
 ·rw[h1]at J;have J:zh _ _ _ _ _ _:=J;have U:=U m2;rw[h2]at U;have U:ya _ _ _ _ _ _:=U
  repeat' first|refine gG ?_|exact gD|refine gB ?_ ?_<;>intro h|(refine gI T (zI hy) ?_)|refine gR J (nm [0,1,107,108,109,5,6,117,118,119]) ?_|(refine zr hC U (nm [0,1,117,118,119,5,6,127,128,129]) rfl rfl (zH.refl _) rfl rfl rfl rfl rfl rfl ?_)
  exact gU (zdd (gU (zfv ⟨rfl,nm [0,1,2,3,4,5,6,127,128,129],⟨rfl,rfl,rfl,rfl,rfl,uh⟩,rfl,rfl⟩)))
 ·rw[h1]at J;have J:zh _ _ _ _ _ _:=J;have U:=U m2;rw[h2]at U;have U:zh _ _ _ _ _ _:=U
  repeat' first|refine gG ?_|exact gD|refine gB ?_ ?_<;>intro h|(refine gI T (zI hy) ?_)|refine gR J (nm [0,1,107,108,109,5,6,117,118,119]) ?_|refine gR U (nm [0,1,117,118,119,5,6,127,128,129]) ?_|refine zo ?_
  exact zdX ⟨.inl rfl,nm [0,1,2,3,4,5,6,127,128,129],_,rfl,.refl _,⟨rfl,rfl,rfl,rfl,rfl,rfl,rfl,uh⟩,rfl,rfl⟩
 ·rw[h1]at J;have J:zh _ _ _ _ _ _:=J;have U:=U m2;rw[h2]at U;have U:zh _ _ _ _ _ _:=U;have hK:=zlA d fuel m3 h3
  repeat' first|refine gG ?_|exact gD|refine gB ?_ ?_<;>intro h|(refine gI T (zI hy) ?_)|refine gR J (nm [0,1,107,108,109,5,6,117,118,119]) ?_|refine gR U (nm [0,1,117,118,119,5,6,127,128,129]) ?_|(refine zr hC hK (nm [0,1,127,128,129]) rfl rfl (zH.refl _) rfl rfl rfl rfl rfl rfl ?_)
  exact gU (zdd (gU (zfv ⟨rfl,nm [0,1,2,3,4,5,6,127,128,129],⟨rfl,rfl,rfl,rfl,rfl,uh⟩,rfl,rfl⟩)))
 ·rw[h1]at J;have J:zh _ _ _ _ _ _:=J;have U:=U m2;rw[h2]at U;have U:zh _ _ _ _ _ _:=U;have hK:=zlB d fuel m3 h3 h4
  repeat' first|refine gG ?_|exact gD|refine gB ?_ ?_<;>intro h|(refine gI T (zI hy) ?_)|refine gR J (nm [0,1,107,108,109,5,6,117,118,119]) ?_|refine gR U (nm [0,1,117,118,119,5,6,127,128,129]) ?_|refine gR hK (nm [0,1,127,128,129]) ?_
  exact zg (j,fr2,m3.tk) ⟨by simp only;omega,hnx⟩ (ms [(107,127),(108,128),(109,129)]) (by simp only;omega) ⟨rfl,⟨rfl,rfl,rfl,rfl,uh⟩,⟨rfl,rfl,rfl,rfl,rfl,rfl,rfl,rfl,rfl,uh⟩,rfl,xH rfl⟩
theorem zuc{k:Nat}(ihE: ∀j,j<=k-> ∀fr e m,wP d fuel fr e m (exV d fuel fr j e m))(ihC: ∀fr e m,zrE d fuel fr e m (clV d fuel fr k e m))(ihS: ∀j,j<=k-> ∀fr l m,ztj d fuel fr l m (ssV d fuel j fr l m))
 (fr:Fr) (x:Sm) (m:Mc):zgf d fuel fr x m (sV d fuel (k+1) fr x m):=by
 rw[sV]
 rcases zik (fuel:=fuel) (m:=m) (c:=λm=>
  if x.op=1 then(atA x.e 0 λy=>exV d fuel fr k y m).bind λv m=>stV d fr x.s v m
  else if x.op=2 then(atA x.e 0 λy=>exV d fuel fr k y m).bind λn m=>(atA x.e 1 λy=>exV d fuel fr k y m).bind λv m=>ptV d fr x.s n v m
  else if x.op=3 then(atA x.e 0 λy=>exV d fuel fr k y m).bind λv m=>if v=1 then ssV d fuel k fr x.l m else ssV d fuel k fr x.els m
  else if x.op=4 then atA x.e 0 λy=>whV d fuel k fr y x.l m
  else if x.op=5 then(if x.e.length=0 then .ok (some 0,fr) m else(atA x.e 0 λy=>exV d fuel fr k y m).bind λv m=> .ok (some v,fr) m)
  else if x.op=6 then(atA x.e 0 λy=>clV d fuel fr k y m).bind λ_ m=> .ok (none,fr) m
  else .ok (none,fr) m)with⟨h3,e⟩|⟨h3,e⟩|⟨h3,h4,e⟩
 ·rw[e];exact zrL h3
 ·rw[e];trivial
 rw[e];have hT:zh Tryz.prog 273 [.one (.bx 0 0)] (mcR d fuel m 1 2 3 4) (.tup []) (mcR d fuel m.tk 1 2 3 4):=zlB d fuel m h3 h4
 have first: ∀(f:Int->Mc->An (Option Int×Fr)),(x.op=1\/x.op=2\/x.op=3\/(x.op=5/\x.e.length≠0))->(∀y v m1,x.e[0]?=some y->wP d fuel fr y m.tk (.ok v m1)->zgf d fuel fr x m (f v m1))->
  zgf d fuel fr x m ((atA x.e 0 λy=>exV d fuel fr k y m.tk).bind f):=λf hop hf=>by
  rcases vi (l:=x.e) (i:=0) (f:=λy=>exV d fuel fr k y m.tk)with h|⟨y,J,h⟩
  ·rw[h];trivial
  rw[h];have U:=ihE k (uF _) fr y m.tk;cases hr:exV d fuel fr k y m.tk with
  |ok v m1=>rw[hr]at U;exact hf y v m1 J U
  |flt er m1=>rw[hr]at U;exact zwA hT hop J U
  |out=>trivial
 by_cases h1:x.op=1
 ·rw[uv h1];exact first _ (.inl h1) λy v m1 J U=>zwF hT h1 J U
 rw[uu h1];by_cases h2:x.op=2
 ·rw[uv h2];refine first _ (.inr (.inl h2)) λy v m1 J U=>?_
  rcases vi (l:=x.e) (i:=1) (f:=λy=>exV d fuel fr k y m1)with h|⟨z,hz,h⟩
  ·rw[h];trivial
  rw[h];have hZ:=ihE k (uF _) fr z m1;cases hr:exV d fuel fr k z m1 with
  |ok w m2=>rw[hr]at hZ;exact zwG hT h2 J U hz hZ
  |flt er m2=>rw[hr]at hZ;exact zvJ hT h2 J U hz hZ
  |out=>trivial
 rw[uu h2];by_cases h33:x.op=3
 ·rw[uv h33];refine first _ (.inr (.inr (.inl h33))) λy v m1 J U=>zwE hT h33 J U ?_
  split
  ·exact ihS k (uF _) fr x.l m1
  ·exact ihS k (uF _) fr x.els m1
 rw[uu h33];by_cases h44:x.op=4
 ·rw[uv h44];rcases vi (l:=x.e) (i:=0) (f:=λy=>whV d fuel k fr y x.l m.tk)with h|⟨y,J,h⟩
  ·rw[h];trivial
  rw[h];exact zwH ihE ihS hT h44 J
 rw[uu h44];by_cases h5:x.op=5
 ·rw[uv h5];by_cases he:x.e.length=0
  ·rw[uv he];exact zvI hT h5 he
  ·rw[uu he];exact first _ (.inr (.inr (.inr ⟨h5,he⟩))) λy v m1 J U=>zwD hT h5 J U
 rw[uu h5];by_cases h6:x.op=6
 ·rw[uv h6];rcases vi (l:=x.e) (i:=0) (f:=λy=>clV d fuel fr k y m.tk)with h|⟨y,J,h⟩
  ·rw[h];trivial
  rw[h];exact zwB hT h6 J (ihC fr y m.tk)
 rw[uu h6];exact zwC hT ua
theorem zoI(d:zj)(fuel:Int): ∀k,(∀fr e m,wP d fuel fr e m (exV d fuel fr k e m))/\(∀fr e m,zrE d fuel fr e m (clV d fuel fr k e m))/\(∀p a m,zu6 d fuel p a m (rnV d fuel k p a m))/\
 (∀fr l m,ztj d fuel fr l m (ssV d fuel k fr l m))/\ ∀fr x m,zgf d fuel fr x m (sV d fuel k fr x m):=by
 intro k
 induction k using Nat.strongRecOn with
 |_ k ih=>
 cases k with
 |zero=>exact⟨λfr e m=>by rw[exV];trivial,λfr e m=>by rw[clV];trivial,λp a m=>by rw[rnV];trivial,λfr l m=>by rw[ssV];trivial,λfr x m=>by rw[sV];trivial⟩
 |succ k=>
  have h:=λj (J:j<=k)=>ih j ua
  exact⟨λfr e m=>zrF ((h k (uF _)).1 fr) ((h k (uF _)).2.1 fr) e m,λfr e m=>zrG (λj J=>(h j J).1 fr) (h k (uF _)).2.2.1 e m,λp a m=>zrJ (h k (uF _)).2.2.2.1 p a m,
   λfr l m=>zrK (λj J=>(h j J).2.2.2.2) fr l m,λfr x m=>zuc (λj J=>(h j J).1) (h k (uF _)).2.1 (λj J=>(h j J).2.2.2.1) fr x m⟩
def ndC(l:List (Int×Int×Int)):Nat:=(l.filter λq=>decide (0<q.2.1)).length
variable {i:Nat}
theorem zoJ{l:List (Int×Int×Int)}{q:Int×Int×Int}(h:l[i]?=some q):ndC (l.take (i+1))=ndC (l.take i)+(if 0<q.2.1 then 1 else 0):=by
 unfold ndC;rw[yd h,oa,uC]
 congr 1
 simp only[oy,List.filter_nil];by_cases J:0<q.2.1
 ·rw[uv J,uv (uT J)];rfl
 ·rw[uu J,uu (by simpa using J)];rfl
theorem zlI{s:S}:LeS s .un:=λ_ _ _ _=>by simp only[RepS]
def znN(fl v co nd:Int):List V:=[.p (ki fl),.p (ki v),.p (ki co),.p (ki nd),.p (ki 0)]
abbrev plR(d:zj)(fuel:Int)(m:Mc)(fl v co nd:Int):RL:=mcR d fuel m 1 2 3 4++[(5,.box (znN fl v co nd)),(6,.box [.bx 0 0])]
set_option maxRecDepth 100000 in
theorem zil(d:zj)(fuel:Int)(m:Mc)(v:Int)(rq:Option Int)(hl:m.acc.length<=1099511627776):
 ztQ Tryz.prog 187 [.one (.bx 5 0),.one (.bx 6 0)] (plR d fuel m 0 v 0 0) (rq.map znM) (plR d fuel m (rq.getD 0) v m.comps (ndC m.acc)):=by
 refine zrw T (rq.map znM) (Tryz.func187) ud rfl rfl rfl rfl rfl rfl rfl (by cases rq<;>rfl) λC hC=>?_;cases rq
 all_goals
  repeat' first|refine gG ?_|refine gB ?_ ?_<;>intro h|(refine zkg hC rfl ud rfl rfl ?_)|(refine zlr hC rfl ud rfl rfl ?_)|(refine zrx hC [.int .i64 _] rfl ud rfl rfl rfl ?_)
  rw[uk]
  refine zn (λi:Nat=>i<=m.acc.length) (λi=>([(0,.one (.bx 5 0)),(30,.one (.ar 4)),(31,I m.acc.length),(32,I i)],tb (plR d fuel m _ v m.comps (ndC (m.acc.take i))))) (λi=>m.acc.length - i) hC
   0 (uz _) id gM ?_
  intro i hi;refine zq T hC true 200 rfl ?_;refine zt rfl ?_ ?_<;>intro h
  ·have hlt:i<m.acc.length:=by simpa using h
   clear h;obtain⟨q,hq⟩:=zd hlt;have J:=zoJ hq;have hle:ndC (m.acc.take i)<=i:=tZ (Up _ _) (by rw[td];omega);have hw1:IntKind.i64.wrap ((ndC (m.acc.take i):Int)+1)=(ndC (m.acc.take i)+1:Nat):=by rw[wrap64 ua];omega
   have U:IntKind.i64.wrap ((i:Int)+1)=(i+1:Nat):=by rw[wrap64 ua];omega
   by_cases h0:0<q.2.1
   ·rw[uv h0]at J
    repeat' first|refine gG ?_|(exfalso;have h9:=um h;omega)|refine gB ?_ ?_<;>intro h|(refine jV T hC (rows:=m.acc.map zgQ) rfl rfl rfl rfl (uE _) (by rw[uk];omega) rfl rfl ?_)|(refine jw T hC i 0 (rows:=m.acc.map zgQ) (row:=zgQ q) rfl rfl rfl ue (by rw[uK,hq];rfl) rfl rfl rfl ?_)
    rw[hw1,U,<-J];exact zg (i+1) ua id ua gM
   ·rw[uu h0,tY]at J
    repeat' first|refine gG ?_|(exfalso;have h9:=uj h;omega)|refine gB ?_ ?_<;>intro h|(refine jV T hC (rows:=m.acc.map zgQ) rfl rfl rfl rfl (uE _) (by rw[uk];omega) rfl rfl ?_)|(refine jw T hC i 0 (rows:=m.acc.map zgQ) (row:=zgQ q) rfl rfl rfl ue (by rw[uK,hq];rfl) rfl rfl rfl ?_)
    rw[U];exact zg (i+1) ua id ua ⟨rfl,⟨rfl,rfl,rfl,rfl,uh⟩,⟨rfl,rfl,rfl,rfl,rfl,(by rw[J];rfl),rfl,uh⟩,rfl,λ_ _=>rfl⟩
  ·have hge: ¬i<m.acc.length:=by simpa using h
   clear h;rw[u5 ua]
   repeat' first|refine gG ?_|refine gB ?_ ?_<;>intro h|refine ze ?_
   exact zi ⟨.inr rfl,id,_,rfl,zlI,⟨rfl,rfl,rfl,rfl,rfl,rfl,rfl,uh⟩,rfl,rfl⟩
structure Cl where
 p:Str
 a:List Int
def wY(c:Cl):List PV:=[ks c.p,xw c.a]
def zgU(d:zj)(m:Hp):Prop:= ∀x∈m.n,0<=x.t/\x.t.toNat<d.types.length
def ndG(m:Hp)(n:Int):Nd:=(m.n[(n - 1).toNat]?).getD ⟨0,[]⟩
def tyN(d:zj)(t:Int):Str:=((d.types[t.toNat]?).map (·.n)).getD (⟨#[]⟩:UH)
def rtB(d:zj)(m:Hp)(t:Str)(v:Int):Bool:=
 if t=(⟨#[105,110,116]⟩:UH)then decide (-1099511627776<=v)&&decide (v<=1099511627776)
 else if t=(⟨#[98,111,111,108]⟩:UH)then decide (v=0)||decide (v=1)
 else decide (v=0)||(decide (0<v)&&decide (v<=m.n.length)&&decide (tyN d (ndG m v).t=t))
theorem zud{m:Hp}(hw:zgU d m)(t:Str)(v:Int):zh Tryz.prog 231 [zF (zJ d),zF (xP m),Sr t,I v] [] (.bq (rtB d m t v)) []:=by
 refine gO T Tryz.func231 λC hC=>?_;refine jn rfl 1 1 rfl rfl λJ=>?_;rw[uk]at J;by_cases hv:0<v/\v<=m.n.length
 ·obtain⟨x,U⟩:=zd (l:=m.n) (i:=(v - 1).toNat) ua;obtain⟨h1,h2⟩:=hw x (List.mem_of_getElem? U);obtain⟨y,hy⟩:=zd h2;have hw1:IntKind.i64.wrap (v - 1)=v - 1:=wrap64 ua;have hn:tyN d (ndG m v).t=y.n:=by simp only[ndG,U,Option.getD_some,tyN,hy,uO]
  repeat' first|refine gG ?_|refine gB ?_ ?_<;>intro h|refine gL ?_|refine gQ ?_|(rw[hw1];refine gI T (yZ U) ?_)|(refine xz T hC rfl rfl rfl h1 (yZ hy) rfl rfl ?_)
  all_goals (try simp only[uk]at*)
  all_goals (simp_all[rtB]<;>omega)
 ·have hv':v<=0\/(m.n.length:Int)<v:=by omega
  clear hv;rcases hv' with hv|hv
  all_goals
   repeat' first|refine gG ?_|exact gP|refine gB ?_ ?_<;>intro h|refine gL ?_|refine gQ ?_
   all_goals (try simp only[uk]at*)
   all_goals (simp_all[rtB]<;>omega)
def zd3(d:zj)(m:Hp)(c:Cl):Int:=match zcZ d c.p with
 |none=>9
 |some i=>match d.procs[i]? with
  |none=>9
  |some p=>if ¬c.a.length=p.params.length then 3 else if(List.zip c.a p.params).any (λq=> !rtB d m q.2.t q.1)=true then 11 else 0
theorem zbF(l:List Nd): ∀r∈l.map vy,r.length=2:=λr J=>by obtain⟨y,_,rfl⟩:=tS.1 J;rfl
theorem zrN(B:RL)(id:Nat)(l:List Nd)(hm:(id,.bag 1 (j9 l))∈B): ∀(j:Nat) (U:PV),(l.map vy).flatten[j]?=some U-> ∃x,(wRows l 0).flatten[j]?=some x/\LnV B (toV [id] x) (.p U):=by
 refine zhT (wU l 0) (zbF l) λi row' hi=>?_;rw[uK,uM]at hi;obtain⟨y,hy,rfl⟩:=hi;refine⟨[PC.p (ki y.t),PC.n 0 i],by rw[x5,hy,uO,tC],λc U J=>?_⟩
 match c,J with
 |0,J=>simp only[vy,List.getElem?_cons_zero,ui]at J;subst J;exact⟨_,rfl,LnV.refl _⟩
 |1,J=>simp only[vy,tr,List.getElem?_cons_zero,ui]at J;subst J;exact⟨_,rfl,LnV.nv hm (zbX hy)⟩
 |c+2,J=>simp[vy]at J
abbrev zj8(m:Hp)(a b c:Nat):RL:=[(a,.arr 1 (m.g.map yk)),(b,.vw [c] 2 (wRows m.n 0)),(c,.bag 1 (j9 m.n))]
theorem zrO(m:Hp)(a b c:Nat):LnS (zj8 m a b c) (.agg [.ar a,.ar b]) (zF (xP m)):=
 LnS.agg (.cons (LnV.ar ue) (.cons (LnV.vw (ids:=[c]) (rows:=wRows m.n 0) ue (by rw[uk,yw]) (zbF _) (zrN _ c m.n ue)) .nil))
def zoK:Pr:=⟨(⟨#[]⟩:UH),[],(⟨#[]⟩:UH),[],[]⟩
def zPr:List PV:=[ks (⟨#[]⟩:UH),.k (.slice none 0 0),ks (⟨#[]⟩:UH),.k (.slice none 0 0),.k (.slice none 0 0)]
theorem zlJ{s:Str}(h:zcZ d s=some i): ∃p,d.procs[i]?=some p:=by
 obtain⟨J,_⟩:=tN.1 h;exact⟨_,ta J⟩
variable {c:Cl}
theorem zlK{m:Hp}(hw:zgU d m)(h:zd3 d m c≠0):zh Tryz.prog 186 [zF (zJ d),.agg [.ar 1,.ar 2],zF (wY c)] (zj8 m 1 2 3) (.tup [zF zPr,I (zd3 d m c)]) (zj8 m 1 2 3):=by
 unfold zd3 at h⊢;have J:=zcn d c.p;cases hi:zcZ d c.p with
 |none=>
  have J:zh Tryz.prog 230 [zF (zJ d),Sr c.p] [] (I (-1)) []:=by rw[hi]at J;exact J
  refine gO T Tryz.func186 λC hC=>?_
  repeat' first|refine gG ?_|exact gD|refine gB ?_ ?_<;>intro h|refine gC J ?_
  exact gE
 |some i=>
  rw[hi]at J h;obtain⟨p,hp⟩:=zlJ hi;simp only[hp]at h⊢
  replace J:zh Tryz.prog 230 [zF (zJ d),Sr c.p] [] (I i) []:=J
  by_cases hl:c.a.length=p.params.length
  ·rw[uu (by simpa using hl)]at h⊢
   have ha:(List.zip c.a p.params).any (λq=> !rtB d m q.2.t q.1)=true:=by
    cases hh:(List.zip c.a p.params).any (λq=> !rtB d m q.2.t q.1)with
    |true=>rfl
    |false=>rw[hh]at h;exact absurd rfl h
   rw[uv ha];refine gO T Tryz.func186 λC hC=>?_;refine jn rfl 2 1 rfl rfl λU=>?_;rw[uk]at U
   repeat' first|refine gG ?_|exact gP|refine gB ?_ ?_<;>intro h|refine gC J ?_|(refine gI T (zl hp) ?_)
   rw[uk]
   refine zn (λi:Nat=>i<=c.a.length/\((List.zip c.a p.params).take i).any (λq=> !rtB d m q.2.t q.1)=false) (λi=>([(3,.one (.bx 1003 0)),(4,.one (.bx 1004 0)),(9,.one (.bx 1009 0)),(6,.one (.bx 1006 0)),(33,pS (xw c.a)),(34,I c.a.length),(35,I i)],
    [(1003,some (.box ((zJ d).map V.p))),(1004,some (.box [.ar 1,.ar 2])),(1009,some (.box ((zZ p).map V.p))),(1006,some (.box (zPr.map V.p))),(1,some (.arr 1 (m.g.map yk))),(2,some (.vw [3] 2 (wRows m.n 0))),(3,some (.bag 1 (j9 m.n)))])) (λi=>c.a.length - i) hC
    0 ⟨uz _,ue⟩ id gM ?_
   rintro i ⟨hi2,hn⟩;refine zq T hC true 200 rfl ?_;refine zt rfl ?_ ?_<;>intro h
   ·have hlt:i<c.a.length:=by simpa using h
    clear h;obtain⟨v,hv⟩:=zd hlt;obtain⟨f,hf⟩:=zd (l:=p.params) (i:=i) ua;have hz:(List.zip c.a p.params)[i]?=some (v,f):=by rw[qa];exact⟨hv,hf⟩
    have hR:=zud hw f.t v;cases hr:rtB d m f.t v with
    |false=>
     rw[hr]at hR
     repeat' first|refine gG ?_|exact gD|refine gB ?_ ?_<;>intro h|(refine gI T (zl hv) ?_)|(refine gI T (zl hf) ?_)|(refine zgr hC hR (zj8 m 1 2 3) rfl rfl (zdK.cons (.refl _) (zdK.cons (zrO m 1 2 3) (zdK.refl _))) rfl rfl rfl rfl ?_)|refine zo ?_
     exact gE
    |true=>
     rw[hr]at hR
     repeat' first|refine gG ?_|exact gD|refine gB ?_ ?_<;>intro h|(refine gI T (zl hv) ?_)|(refine gI T (zl hf) ?_)|(refine zgr hC hR (zj8 m 1 2 3) rfl rfl (zdK.cons (.refl _) (zdK.cons (zrO m 1 2 3) (zdK.refl _))) rfl rfl rfl rfl ?_)|refine zo ?_
     rw[wrap64 ua];exact zg (i+1) ⟨ua,by rw[zim hz,hn];simp[hr]⟩ id ua gM
   ·exfalso;have hge: ¬i<c.a.length:=by simpa using h
    rw[u5 (by rw[th];omega),ha]at hn;cases hn
  ·rw[uv hl];refine gO T Tryz.func186 λC hC=>?_
   repeat' first|refine gG ?_|exact gP|refine gB ?_ ?_<;>intro h|refine gC J ?_|(refine gI T (zl hp) ?_)
   exact gE
theorem zjn{m:Hp}(hw:zgU d m)(h:zd3 d m c=0): ∃i p,zcZ d c.p=some i/\d.procs[i]?=some p/\c.a.length=p.params.length/\zh Tryz.prog 186 [zF (zJ d),.agg [.ar 1,.ar 2],zF (wY c)] (zj8 m 1 2 3) (.tup [zF (zZ p),I 0]) (zj8 m 1 2 3):=by
 unfold zd3 at h;have U:=zcn d c.p;cases hi:zcZ d c.p with
 |none=>rw[hi]at h;simp at h
 |some i=>
  rw[hi]at U h;obtain⟨p,hp⟩:=zlJ hi;simp only[hp]at h
  replace U:zh Tryz.prog 230 [zF (zJ d),Sr c.p] [] (I i) []:=U
  by_cases hl:c.a.length=p.params.length
  ·rw[uu (by simpa using hl)]at h
   have ha:(List.zip c.a p.params).any (λq=> !rtB d m q.2.t q.1)=false:=by
    cases hh:(List.zip c.a p.params).any (λq=> !rtB d m q.2.t q.1)with
    |false=>rfl
    |true=>rw[hh]at h;simp at h
   refine⟨i,p,rfl,hp,hl,?_⟩;clear h;refine gO T Tryz.func186 λC hC=>?_;refine jn rfl 2 1 rfl rfl λJ=>?_;rw[uk]at J
   repeat' first|refine gG ?_|exact gP|refine gB ?_ ?_<;>intro h|refine gC U ?_|(refine gI T (zl hp) ?_)
   rw[uk]
   refine zn (λi:Nat=>i<=c.a.length) (λi=>([(3,.one (.bx 1003 0)),(4,.one (.bx 1004 0)),(9,.one (.bx 1009 0)),(6,.one (.bx 1006 0)),(33,pS (xw c.a)),(34,I c.a.length),(35,I i)],
    [(1003,some (.box ((zJ d).map V.p))),(1004,some (.box [.ar 1,.ar 2])),(1009,some (.box ((zZ p).map V.p))),(1006,some (.box (zPr.map V.p))),(1,some (.arr 1 (m.g.map yk))),(2,some (.vw [3] 2 (wRows m.n 0))),(3,some (.bag 1 (j9 m.n)))])) (λi=>c.a.length - i) hC
    0 (uz _) id gM ?_
   intro i hi2;refine zq T hC true 200 rfl ?_;refine zt rfl ?_ ?_<;>intro h
   ·have hlt:i<c.a.length:=by simpa using h
    clear h;obtain⟨v,hv⟩:=zd hlt;obtain⟨f,hf⟩:=zd (l:=p.params) (i:=i) ua;have hz:(List.zip c.a p.params)[i]?=some (v,f):=by rw[qa];exact⟨hv,hf⟩
    have hR:=zud hw f.t v
    have hr:rtB d m f.t v=true:=by
     have:=List.any_eq_false.1 ha (v,f) (List.mem_of_getElem? hz);simpa using this
    rw[hr]at hR
    repeat' first|refine gG ?_|exact gD|refine gB ?_ ?_<;>intro h|(refine gI T (zl hv) ?_)|(refine gI T (zl hf) ?_)|(refine zgr hC hR (zj8 m 1 2 3) rfl rfl (zdK.cons (.refl _) (zdK.cons (zrO m 1 2 3) (zdK.refl _))) rfl rfl rfl rfl ?_)|refine zo ?_
    rw[wrap64 ua];exact zg (i+1) ua id ua gM
   ·clear h
    repeat' first|refine gG ?_|refine gB ?_ ?_<;>intro h|refine ze ?_
    exact gE
  ·rw[uv hl]at h;cases h
structure EnT where
 ac:Int
 be:Int
 af:Int
 bo:Int
def enR(x:EnT):List PV:=[ki x.ac,ki x.be,ki x.af,ki x.bo]
def enL(l:List EnT):PV:= .sl 4 (l.map enR)
def bdB(n:Int):Bool:=decide (-1099511627776<=n)&&decide (n<=1099511627776)
def yN(x:EnT):Bool:=decide (x.ac<0)|| !bdB x.ac|| !bdB x.be|| !bdB x.af|| !bdB x.bo
theorem jK{x:EnT}(h:yN x=false):(0<=x.ac/\x.ac<=1099511627776)/\(-1099511627776<=x.be/\x.be<=1099511627776)/\(-1099511627776<=x.af/\x.af<=1099511627776)/\ -1099511627776<=x.bo/\x.bo<=1099511627776:=by
 simp only[yN,bdB,uW,uG,uo,uq,ur]at h;omega
def j7(x:EnT):Bool:= !decide (x.bo=1099511627776)&&decide (x.ac+x.af - x.be>x.bo)
theorem zlL(f:FuncId)(l:List EnT)(p:EnT->Unit->Bool)(nx:EnT->Unit->Unit)(inv:Unit->Prop)
 (hf: ∀x∈l,∀s:Unit,inv s->zh Tryz.prog f [zF (enR x)] [] (.bq (p x s)) ((λs:Unit=>[]) (nx x s))/\(p x s=false->inv (nx x s))) (s:Unit) (hs:inv s):
 zh Tryz.prog 36 [pS (.sl 4 (l.map enR)),.one (.cl f [] [])] [] (I (idxR p nx l 0 s).1) ((λs:Unit=>[]) (idxR p nx l 0 s).2):=by
 refine gO T Tryz.func36 λC hC=>?_;have hs0:=hs;refine wJ 0 rfl λhl=>?_;rw[uk]at hl
 repeat' first|refine gG ?_|refine gB ?_ ?_<;>intro h
 rw[uk]
 refine zn (λq:Nat×Unit=>q.1<=l.length/\inv q.2/\idxR p nx (l.drop q.1) q.1 q.2=idxR p nx l 0 s) (λq=>(λs:Unit=>([(0,pS (.sl 4 (l.map enR))),(1,.one (.cl f [] [])),(7,I l.length),(8,I q.1)],[])) q.2) (λq=>l.length - q.1) hC
  (0,s) ⟨uz _,hs,rfl⟩ id gM ?_
 generalize idxR p nx l 0 s=res;clear hs hs0;rintro⟨i,s⟩ ⟨hi,hv,J⟩;simp only at hi hv J;refine zq T hC true 200 rfl ?_;refine zt rfl ?_ ?_<;>intro hh
 ·have hlt:i<l.length:=by simpa using hh
  clear hh;obtain⟨x,hx⟩:=zd hlt;rw[drop_at hx]at J;simp only[idxR]at J;have hv2:=(hf x (List.mem_of_getElem? hx) s hv).2
  repeat' first|refine gG ?_|refine gB ?_ ?_<;>intro h|refine gI T (zl hx) ?_|refine zu hC (hf x (List.mem_of_getElem? hx) s hv).1 id rfl rfl (zH.refl _) rfl rfl rfl rfl rfl rfl rfl rfl ?_|refine zo ?_
  ·rw[uv uf]at J;subst J;exact gF
  ·have U:p x s=false:=by assumption
   rw[U]at J;simp only[uy,uL]at J;rw[wrap64 ua];exact zg (i+1,nx x s) ⟨by simp only;omega,hv2 U,J⟩ id (by simp only;omega) gM
 ·have hge: ¬i<l.length:=by simpa using hh
  rw[uA ua]at J;simp only[idxR]at J;subst J
  repeat' first|refine gG ?_|refine gB ?_ ?_<;>intro h|refine ze ?_
  exact gF
theorem zrP(f:FuncId)(l:List EnT)(p:EnT->Unit->Bool)(nx:EnT->Unit->Unit)(inv:Unit->Prop)
 (hf: ∀x∈l,∀s:Unit,inv s->zh Tryz.prog f [zF (enR x)] [] (.bq (p x s)) ((λs:Unit=>[]) (nx x s))/\(p x s=false->inv (nx x s))) (s:Unit) (J:inv s):
 zh Tryz.prog 34 [pS (.sl 4 (l.map enR)),.one (.cl f [] [])] [] (.bq (anyR p nx l s).1) ((λs:Unit=>[]) (anyR p nx l s).2):=by
 refine gO T Tryz.func34 λC hC=>?_
 repeat' first|refine gG ?_|refine gB ?_ ?_<;>intro h|refine gR (zlL f l p nx inv hf s J) (nm []) ?_
 exact zi ⟨.inl rfl,id,_,rfl,.qq (zbb p nx l 0 s),by rw[<-zbc p nx l 0 s];exact uh,rfl,rfl⟩
theorem vz(n:Int):zh Tryz.prog 38 [I n] [] (.bq (bdB n)) []:=by
 unfold bdB;refine gO T Tryz.func38 λC hC=>?_
 repeat' first|refine gG ?_|refine gB ?_ ?_<;>intro h|refine gQ ?_|refine gL ?_
 all_goals (try simp only[uk]at*)
 all_goals first
  |rfl
  |(simp;done)
  |(simp_all;done)
  |(simp_all;omega)
  |(intros;simp_all<;>omega)
theorem zoL(x:EnT):zh Tryz.prog 35 [zF (enR x)] [] (.bq (yN x)) []:=by
 have J:=vz x.ac;have h2:=vz x.be;have h3:=vz x.af;have h4:=vz x.bo;unfold yN;generalize bdB x.ac=b1 at*;generalize bdB x.be=b2 at*;generalize bdB x.af=b3 at*;generalize bdB x.bo=b4 at*;refine gO T Tryz.func35 λC hC=>?_
 repeat' first|refine gG ?_|refine gB ?_ ?_<;>intro h|refine gC J ?_|refine gC h2 ?_|refine gC h3 ?_|refine gC h4 ?_|refine gQ ?_|refine gL ?_
 all_goals (try simp only[uk]at*)
 all_goals first
  |rfl
  |(simp;done)
  |(simp_all;done)
  |(simp_all;omega)
  |(intros;simp_all<;>omega)
end Hw.Gm
namespace Hw
open Go Go.MapKept
structure zd4 (P:Program) (kt:TypeId) (K:Type) where
 enc:K->Value
 s:K->S
 rep: ∀ {M:Mem} {ρ:Nat->Value} {k:K} {v:Value},RepS M ρ (s k) v->v=enc k
 inj: ∀ {a b:K},enc a=enc b->a=b
 check: ∀(w:World) (em:Bool) (k:K),(Instr.checkKey em 10000 kt (enc k)).run P w= .ok () w
 find: ∀(w:World) (k:K) (es:List MapEntry),(∀e∈es,∃k',e.key=enc k')->
  ((Instr.findKey kt (enc k) es).run P w= .ok none w/\ ∀e∈es,e.key≠enc k)\/ ∃j e,(Instr.findKey kt (enc k) es).run P w= .ok (some (j,e.val)) w/\es[j]?=some e/\e.key=enc k
 stays: ∀(w:World) (k:K),(Instr.keyThatStays (enc k) (enc k)).run P w= .ok (enc k) w
variable {P:Program}{kt:TypeId}
def zwI(h:P.underlying kt=some .string):zd4 P kt ByteArray where
 enc:=λs=> .string s
 s:=Sr
 rep:=λ{M ρ k v} hr=>by simp only[RepS,RepV,RepPV]at hr;exact hr.1
 inj:=λe=>by simpa using e
 check:=λw em k=>run_checkKey h (by simp[IsKey]) em _
 find:=λw k es hes=>by
  rcases findNow_spec (d:= .string) (k:= .string k) (by simp[IsKey]) es 0 (λx hx=>by obtain⟨k',e⟩:=hes x hx;rw[e];simp[IsKey])with⟨h1,h2⟩|⟨j,e,h1,h2,h3⟩
  ·exact .inl ⟨run_findKey h h1,h2⟩
  ·exact .inr ⟨j,e,by rw[tC]at h1;exact run_findKey h h1,h2,h3⟩
 stays:=λw k=>run_keyThatStays (d:= .string) (by simp[IsKey])
def evS:EV->S
 | .o x=> .one (.p x)
 | .g row=> .agg (row.map V.p)
theorem zlM{M:Mem}{ρ:Nat->Value}: ∀ {row:List PV} {cs:List Value},RepVs M ρ (row.map V.p) cs↔RepPVl M row cs
 | [],[]=>by simp[RepVs,RepPVl]
 | [],_::_=>by simp[RepVs,RepPVl]
 |_::_,[]=>by simp[RepVs,RepPVl]
 |x::xs,c::cs=>by simp only[uQ,RepVs,RepV,RepPVl,zlM (row:=xs)]
variable {M:Mem}{ρ:Nat->Value}
theorem zfx{e:EV}{v:Value}:RepS M ρ (evS e) v↔RepEV M e v:=by
 cases e with
 |o x=>simp only[evS,RepS,RepV,RepEV]
 |g row=>simp only[evS,RepS,RepEV,zlM]
variable {K:Type}{κ:zd4 P kt K}
section
variable [DecidableEq K]
def yt(κ:zd4 P kt K)(l:List (K×EV)):List (Value×EV):=l.map λp=>(κ.enc p.1,p.2)
def getG:List (K×EV)->K->Option EV
 | [],_=>none
 |(a,b)::r,k=>if a=k then some b else getG r k
def putG:List (K×EV)->K->EV->List (K×EV)
 | [],k,v=>[(k,v)]
 |(a,b)::r,k,v=>if a=k then(k,v)::r else(a,b)::putG r k v
def zgV:List (K×EV)->K->List (K×EV)
 | [],_=>[]
 |(a,b)::r,k=>if a=k then r else(a,b)::zgV r k
theorem zbG(l:List (K×EV))(k k':K)(v:EV):getG (putG l k v) k'=if k=k' then some v else getG l k':=by
 induction l with
 |nil=>simp[putG,getG]
 |cons x r ih=>
  obtain⟨a,b⟩:=x;simp only[putG];by_cases h:a=k
  ·subst h;simp only[uZ,getG];split<;>rfl
  ·rw[uu h];simp only[getG,ih];by_cases h2:a=k'
   ·subst h2;rw[uv rfl,uv rfl,uu (λe=>h e.symm)]
   ·rw[uu h2,uu h2]
theorem zcq{κ:zd4 P kt K}{M:Mem}: ∀ {l:List (K×EV)} {ms:List MapEntry},EntsG M (yt κ l) ms->ms.map (·.key)=l.map λp=>κ.enc p.1
 | [],[],_=>rfl
 | [],_::_,h=>by simp[yt,EntsG]at h
 |_::_,[],h=>by simp[yt,EntsG]at h
 |(a,b)::l,m::ms,h=>by
  have J:m.key=κ.enc a/\RepEV M b m.val/\EntsG M (yt κ l) ms:=by simpa only[yt,uQ,EntsG]using h
  simp only[uQ,J.1,zcq J.2.2]
theorem zd5{l:List (K×EV)}{ms:List MapEntry}(h:EntsG M (yt κ l) ms): ∀e∈ms,∃k',e.key=κ.enc k':=λe J=>by
 have:e.key∈ms.map (·.key):=tS.2 ⟨e,J,rfl⟩;rw[zcq h]at this;obtain⟨p,_,U⟩:=tS.1 this;exact⟨p.1,U.symm⟩
theorem zaE{κ:zd4 P kt K}{M:Mem}{k:K}: ∀ {l:List (K×EV)} {ms:List MapEntry},EntsG M (yt κ l) ms->(∀e∈ms,e.key≠κ.enc k)->getG l k=none/\(∀v,putG l k v=l++[(k,v)])/\zgV l k=l
 | [],_,_,_=>⟨rfl,λ_=>rfl,rfl⟩
 |_::_,[],h,_=>by simp[yt,EntsG]at h
 |(a,b)::l,m::ms,h,hn=>by
  have J:m.key=κ.enc a/\RepEV M b m.val/\EntsG M (yt κ l) ms:=by simpa only[yt,uQ,EntsG]using h
  have e: ¬a=k:=λe=>hn m ue (by rw[J.1,e])
  obtain⟨U,h2,h3⟩:=zaE J.2.2 λe he=>hn e (uP _ he)
  exact⟨by simp only[getG,uu e,U],λv=>by simp only[putG,uu e,h2 v,uN],by simp only[zgV,uu e,h3]⟩
theorem zd6{κ:zd4 P kt K}{M:Mem}{k:K}{e:MapEntry}: ∀ {l:List (K×EV)} {ms:List MapEntry} {j:Nat},EntsG M (yt κ l) ms->((yt κ l).map (·.1)).Nodup->ms[j]?=some e->e.key=κ.enc k->
 (∃x,getG l k=some x/\RepEV M x e.val)/\(∀v c,RepEV M v c->EntsG M (yt κ (putG l k v)) (ms.modify j λe=>{ e with key:=κ.enc k,val:=c })/\((yt κ (putG l k v)).map (·.1))=(yt κ l).map (·.1))/\EntsG M (yt κ (zgV l k)) (ms.eraseIdx j)/\((yt κ (zgV l k)).map (·.1)).Sublist ((yt κ l).map (·.1))
 | [],[],_,_,_,hj,_=>by simp at hj
 | [],_::_,_,h,_,_,_=>by simp[yt,EntsG]at h
 |_::_,[],_,h,_,_,_=>by simp[yt,EntsG]at h
 |(a,b)::l,m::ms,j,h,hnd,hj,hk=>by
  have J:m.key=κ.enc a/\RepEV M b m.val/\EntsG M (yt κ l) ms:=by simpa only[yt,uQ,EntsG]using h
  have U:κ.enc a∉(yt κ l).map (·.1)/\((yt κ l).map (·.1)).Nodup:=by simpa only[yt,uQ,oI]using hnd
  cases j with
  |zero=>
   simp only[List.getElem?_cons_zero,ui]at hj;subst hj;have e:a=k:=κ.inj (J.1.symm.trans hk);subst e;refine⟨⟨b,by simp only[getG,uZ],J.2.1⟩,λv c hc=>⟨?_,?_⟩,?_,?_⟩
   ·simp only[putG,uZ,yt,uQ,EntsG,Uk];exact⟨uh,hc,by simpa only[yt]using J.2.2⟩
   ·simp only[putG,uZ,yt,uQ]
   ·simp only[zgV,uZ,List.eraseIdx_zero,List.tail_cons];exact J.2.2
   ·simp only[zgV,uZ,yt,uQ];exact List.sublist_cons_self _ _
  |succ j=>
   simp only[tr]at hj
   have ne: ¬a=k:=λe=>by
    subst e;have hmem:e.key∈ms.map (·.key):=tS.2 ⟨e,List.mem_of_getElem? hj,rfl⟩;rw[zcq J.2.2]at hmem
    apply U.1
    rw[<-hk];simpa only[yt,q5,Function.comp_def]using hmem
   obtain⟨⟨x,h1,h2⟩,h3,h4,h5⟩:=zd6 J.2.2 U.2 hj hk;refine⟨⟨x,by simp only[getG,uu ne,h1],h2⟩,λv c hc=>⟨?_,?_⟩,?_,?_⟩
   ·have:=(h3 v c hc).1;simp only[putG,uu ne,yt,uQ,EntsG,Ul]at this⊢;exact⟨J.1,J.2.1,this⟩
   ·have:=(h3 v c hc).2;simp only[putG,uu ne,yt,uQ]at this⊢;rw[this]
   ·simp only[zgV,uu ne,List.eraseIdx_cons_succ,yt,uQ,EntsG]at h4⊢;exact⟨J.1,J.2.1,h4⟩
   ·simp only[zgV,uu ne,yt,uQ]at h5⊢;exact h5.cons_cons _
theorem EntsG.append{M:Mem}: ∀ {a b:List (Value×EV)} {x y:List MapEntry},EntsG M a x->EntsG M b y->EntsG M (a++b) (x++y)
 | [],_,[],_,_,h=>by simpa using h
 | [],_,_::_,_,h,_=>by simp only[EntsG]at h
 |_::_,_,[],_,h,_=>by simp only[EntsG]at h
 |(p,q)::a,_,x::xs,_,h,h'=>by
  simp only[EntsG,uN]at h⊢;exact⟨h.1,h.2.1,h.2.2.append h'⟩
end
variable {af:Array Edge}{c0:Value}{d:Option Nat}{k0:K}{ps:String}
section
variable [DecidableEq K] {ty:TypeId} {g:Option (Nat×Bool)} {x y u:Operand} {t et:TypeId}
theorem zjo{id:Nat}:Snd P ⟨d,.makeMap t none,ty,ps,af,g⟩ [] [] [id] (.one (.mp id)) [(id,some (.mpg []))]:=by
 intro C st M ρ a w hH h1 hT hF hd k Q hk
 have J:(execOp a.eval ⟨d,.makeMap t none,ty,ps,af,g⟩).run P w= .ok (.value (.map (some w.heap.size))) (w.alloc (.map #[] 0)):=by
  simp[execOp,Instr.makeMap]
 unfold Oper.wp;rw[J,Oper.upon_value]
 refine hk _ _ M _ (hH.alloc (val:= .map (some w.heap.size)) (λb U=>by simp only[Bk,blk,ui]at U;exact U.symm) hF.1
  ⟨w.heap.size,#[],0,zG _ _ _,zY w _,by simp[EntsG],ue,ue,ue⟩ (by simp only[RepS,RepV];exact⟨(zG _ _ _).symm,rfl⟩) hd)
theorem zfy{id:Nat}{l:List (K×EV)}{ok:Bool}{z:EV}(hx:okc x (.one (.mp id)))(hy:okc y (κ.s k0))(hu:P.underlying t=some (.map kt et))(J:(P.info? et).bind (·.zero)=some c0)(h0: ∀M,RepEV M z c0):
 Snd P ⟨d,.lookup t x y ok,ty,ps,af,g⟩ (rq x (.one (.mp id))++rq y (κ.s k0)) [(id,.mpg (yt κ l))] []
  (if ok then .tup [evS ((getG l k0).getD z),.bq (getG l k0).isSome]else evS ((getG l k0).getD z)) []:=
 zm λC st M ρ a w hH h1 ht=>by
  rw[za]at h1;have e1:=hH.evS (zz hx h1.1);have e2:=κ.rep (hH.evS (zz hy h1.2));simp only[RepS,RepV]at e1;obtain⟨r,ms,cl,h2,h3,h4,h5,h6,h7⟩:=hH.zP.res id _ ht.1;have U:a.eval x= .map (some r):=e1.1.trans h2
  have hz1:(zeroValue et).run P w= .ok c0 w:=by
   cases hi:P.info? et with
   |none=>rw[hi]at J;cases J
   |some i=>rw[hi]at J;simp only[ow]at J;simp[zeroValue,typeInfo,hi,J]
  rcases κ.find w k0 ms.toList (zd5 h4)with⟨g1,g2⟩|⟨j,e,g1,g2,g3⟩
  ·obtain⟨g4,_,_⟩:=zaE h4 g2;refine⟨if ok then .tuple #[c0,.bool false]else c0,?_,?_⟩
   ·simp[execOp,U,e2,Instr.lookup,run_underlying hu,run_getObj_map h3,κ.check,g1,hz1,Result.andThen]
   ·cases ok
    ·simp only[uy,uL,g4,oz];exact zfx.2 (h0 M)
    ·simp only[uZ,g4,oz,Option.isSome_none,RepS];exact⟨[c0,.bool false],rfl,by simp only[RepSs,RepS];exact⟨zfx.2 (h0 M),trivial,uh⟩⟩
  ·obtain⟨⟨x,g4,g5⟩,_⟩:=zd6 h4 h7 g2 g3;refine⟨if ok then .tuple #[e.val,.bool true]else e.val,?_,?_⟩
   ·simp[execOp,U,e2,Instr.lookup,run_underlying hu,run_getObj_map h3,κ.check,g1,Result.andThen]
   ·cases ok
    ·simp only[uy,uL,g4,Option.getD_some];exact zfx.2 g5
    ·simp only[uZ,g4,Option.getD_some,Option.isSome_some,RepS];exact⟨[e.val,.bool true],rfl,by simp only[RepSs,RepS];exact⟨zfx.2 g5,trivial,uh⟩⟩
theorem zjp{l:List (K×EV)}{v:EV}(h:((yt κ l).map (·.1)).Nodup):((yt κ (putG l k0 v)).map (·.1)).Nodup:=by
 have key: ∀(l:List (K×EV)),∀q,q∈(yt κ (putG l k0 v)).map (·.1)->q=κ.enc k0\/q∈(yt κ l).map (·.1):=λl=>by
  induction l with
  |nil=>intro q J;simp only[putG,yt,uQ,qt,tB]at J;exact .inl J
  |cons p l U=>
   obtain⟨a,b⟩:=p;intro q J;simp only[putG]at J;by_cases e:a=k0
   ·subst e;rw[uv rfl]at J;simp only[yt,uQ,uI]at J⊢;rcases J with h|h
    ·exact .inl h
    ·exact .inr (.inr h)
   ·rw[uu e]at J;simp only[yt,uQ,uI]at J⊢;rcases J with h|h
    ·exact .inr (.inl h)
    ·rcases U q (by simpa only[yt]using h)with h|h
     ·exact .inl h
     ·exact .inr (.inr (by simpa only[yt]using h))
 induction l with
 |nil=>simp[putG,yt]
 |cons p l U=>
  obtain⟨a,b⟩:=p;have h':κ.enc a∉(yt κ l).map (·.1)/\((yt κ l).map (·.1)).Nodup:=by simpa only[yt,uQ,oI]using h
  simp only[putG];by_cases e:a=k0
  ·subst e;rw[uv rfl];simpa only[yt,uQ,oI]using h
  ·rw[uu e]
   have hn:κ.enc a∉(yt κ (putG l k0 v)).map (·.1):=λhm=>by
    rcases key l _ hm with h|h
    ·exact e (κ.inj h)
    ·exact h'.1 h
   have:=U h'.2;simp only[yt,uQ,oI]at hn this⊢;exact⟨hn,this⟩
theorem zbi{id:Nat}{l:List (K×EV)}{v:EV}(hx:okc x (.one (.mp id)))(hy:okc y (κ.s k0))(hv:okc u (evS v))(hu:P.underlying t=some (.map kt et)):
 Snd P ⟨d,.mapUpdate t x y u,ty,ps,af,g⟩ (rq x (.one (.mp id))++rq y (κ.s k0)++rq u (evS v)) [(id,.mpg (yt κ l))] [] .un [(id,some (.mpg (yt κ (putG l k0 v))))]:=by
 intro C st M ρ a w hH h1 hT hF hd k Q hk;rw[za,za]at h1;have e1:=hH.evS (zz hx h1.1.1);have e2:=κ.rep (hH.evS (zz hy h1.1.2));have e3:=zfx.1 (hH.evS (zz hv h1.2));simp only[RepS,RepV]at e1;obtain⟨r,ms,cl,h2,h3,h4,h5,hnd,hnk⟩:=hH.zP.res id _ hT.1;have hex:a.eval x= .map (some r):=e1.1.trans h2
 have fin: ∀(ms':Array MapEntry) (cl':Nat),(execOp a.eval ⟨d,.mapUpdate t x y u,ty,ps,af,g⟩).run P w= .ok .skip { w with heap:=w.heap.setIfInBounds r (.map ms' cl') }->
  EntsG M (yt κ (putG l k0 v)) ms'.toList->(∀m∈ms',m.born<cl')->(ms'.toList.map (·.born)).Nodup->Oper.wp P ⟨d,.mapUpdate t x y u,ty,ps,af,g⟩ a w k Q:=λms' cl' hrun g1 U g3=>by
  unfold Oper.wp;rw[hrun,Oper.upon_skip];have J:=heap_set (o':= .map ms' cl') h3;refine hk _ _ M ρ (hH.turn (id:=id) hT.1 (λb hb=>J.2 b λe=>hb (by rw[h2,e];rfl)) ue rfl rfl rfl ⟨r,ms',cl',h2,J.1,g1,U,g3,zjp hnk⟩ (by simp only[RepS]) hd)
 rcases κ.find w k0 ms.toList (zd5 h4)with⟨g1,U⟩|⟨j,m',g1,U,g3⟩
 ·obtain⟨_,g5,_⟩:=zaE h4 U;refine fin (ms.push { key:=κ.enc k0,val:=a.eval u,born:=cl }) (cl+1) ?_ ?_ ?_ ?_
  ·simp[execOp,hex,e2,Instr.mapUpdate,run_underlying hu,run_getObj_map h3,κ.check,g1,run_setObj_map _ h3,Result.andThen]
  ·rw[g5 v];simp only[yt,u6,od];refine EntsG.append (by simpa only[yt]using h4) ?_;simp only[uQ,qt,EntsG];exact⟨uh,e3,uh⟩
  ·intro m hm;rcases Array.mem_push.1 hm with h|rfl
   ·have:=h5 m h;omega
   ·simp
  ·simp only[od,u6,uQ,qt];rw[oe];refine⟨hnd,ue,λx hx y hy=>?_⟩;simp only[tB]at hy;subst hy;obtain⟨m,hm,rfl⟩:=tS.1 hx;have:=h5 m (by simpa using hm);omega
 ·have g4':ms[j]?=some m':=by simpa using U
  refine fin (ms.modify j λe=>{ e with key:=κ.enc k0,val:=a.eval u }) cl ?_ ?_ ?_ ?_
  ·simp[execOp,hex,e2,Instr.mapUpdate,run_underlying hu,run_getObj_map h3,κ.check,g1,run_setObj_map _ h3,Result.andThen,g4',g3,κ.stays]
  ·have:=((zd6 h4 hnk U g3).2.1 v (a.eval u) e3).1;simpa using this
  ·intro m hm;obtain⟨i,hi,rfl⟩:=Um.1 hm;have hi':i<ms.size:=by simpa using hi
   simp only[Uu];split
   ·exact h5 ms[i] (og hi')
   ·exact h5 ms[i] (og hi')
  ·have e:((ms.modify j λe=>{ e with key:=κ.enc k0,val:=a.eval u }).toList.map (·.born))=ms.toList.map (·.born):=by
    rw[Array.toList_modify]
    apply List.ext_getElem?
    intro i;rw[uK,Uv,uK];cases ms.toList[i]? with
    |none=>rfl
    |some m=>simp only[uO];by_cases h:j=i<;>simp[h]
   rw[e];exact hnd
theorem zlN{id:Nat}{l:List (K×EV)}{t2:TypeId}(hx:okc x (.one (.mp id)))(hy:okc y (κ.s k0))(hu:P.underlying t=some (.map kt et)):
 Snd P ⟨d,.call ⟨.builtin .delete,#[x,y],#[t,t2]⟩,ty,ps,af,g⟩ (rq x (.one (.mp id))++rq y (κ.s k0)) [(id,.mpg (yt κ l))] [] .un [(id,some (.mpg (yt κ (zgV l k0))))]:=by
 intro C st M ρ a w hH h1 hT hF hd k Q hk;rw[za]at h1;have e1:=hH.evS (zz hx h1.1);have e2:=κ.rep (hH.evS (zz hy h1.2));simp only[RepS,RepV]at e1;obtain⟨r,ms,cl,h2,h3,h4,h5,hnd,U⟩:=hH.zP.res id _ hT.1;have hex:a.eval x= .map (some r):=e1.1.trans h2
 have fin: ∀(ms':Array MapEntry),(execOp a.eval ⟨d,.call ⟨.builtin .delete,#[x,y],#[t,t2]⟩,ty,ps,af,g⟩).run P w= .ok (.value (.tuple #[])) { w with heap:=w.heap.setIfInBounds r (.map ms' cl) }->
  EntsG M (yt κ (zgV l k0)) ms'.toList->ms'.toList.Sublist ms.toList->((yt κ (zgV l k0)).map (·.1)).Nodup->Oper.wp P ⟨d,.call ⟨.builtin .delete,#[x,y],#[t,t2]⟩,ty,ps,af,g⟩ a w k Q:=λms' hrun g1 g2 g3=>by
  unfold Oper.wp;rw[hrun,Oper.upon_value];have J:=heap_set (o':= .map ms' cl) h3;refine hk _ _ M ρ (hH.turn (id:=id) hT.1 (λb hb=>J.2 b λe=>hb (by rw[h2,e];rfl)) ue rfl rfl rfl ⟨r,ms',cl,h2,J.1,g1,λm hm=>h5 m (by simpa using g2.subset (by simpa using hm)),(g2.map _).nodup hnd,g3⟩ (by simp only[RepS]) hd)
 rcases κ.find w k0 ms.toList (zd5 h4)with⟨g1,g2⟩|⟨j,m',g1,g2,g3⟩
 ·obtain⟨_,_,g6⟩:=zaE h4 g2;refine fin ms ?_ (by rw[g6];exact h4) (List.Sublist.refl _) (by rw[g6];exact U);simp[execOp,resolve,invoke,builtin,Builtin.delete_,hex,e2,run_underlying hu,run_getObj_map h3,κ.check,g1,run_setObj_map _ h3,Result.andThen]
 ·have hj:j<ms.size:=by
   have:=(uw.1 g2).1;simpa using this
  obtain⟨_,_,g4,g5⟩:=zd6 h4 U g2 g3
  have el:(ms.eraseIdxIfInBounds j).toList=ms.toList.eraseIdx j:=by
   unfold Array.eraseIdxIfInBounds;rw[ou hj,Array.toList_eraseIdx]
  refine fin (ms.eraseIdxIfInBounds j) ?_ (by rw[el];exact g4) (by rw[el];exact List.eraseIdx_sublist _ _) (g5.nodup U);simp[execOp,resolve,invoke,builtin,Builtin.delete_,hex,e2,run_underlying hu,run_getObj_map h3,κ.check,g1,run_setObj_map _ h3,Result.andThen]
theorem zoM{id:Nat}{es:List (Value×EV)}(hx:okc x (.one (.mp id)))(hu:P.underlying t=some (.map kt et)):
 Snd P ⟨d,.call ⟨.builtin .clear,#[x],#[t]⟩,ty,ps,af,g⟩ (rq x (.one (.mp id))) [(id,.mpg es)] [] .un [(id,some (.mpg []))]:=by
 intro C st M ρ a w hH h1 hT hF hd k Q hk;have e1:=hH.evS (zz hx h1);simp only[RepS,RepV]at e1;obtain⟨r,ms,cl,h2,h3,h4,h5,hnd,hnk⟩:=hH.zP.res id _ hT.1;have hex:a.eval x= .map (some r):=e1.1.trans h2
 have U:(execOp a.eval ⟨d,.call ⟨.builtin .clear,#[x],#[t]⟩,ty,ps,af,g⟩).run P w= .ok (.value (.tuple #[])) { w with heap:=w.heap.setIfInBounds r (.map #[] cl) }:=by
  simp[execOp,resolve,invoke,builtin,Builtin.clear_,hex,run_underlying hu,run_getObj_map h3,run_setObj_map _ h3,Result.andThen]
 unfold Oper.wp;rw[U,Oper.upon_value];have J:=heap_set (o':= .map #[] cl) h3;refine hk _ _ M ρ (hH.turn (id:=id) hT.1 (λb hb=>J.2 b λe=>hb (by rw[h2,e];rfl)) ue rfl rfl rfl ⟨r,#[],cl,h2,J.1,by simp[EntsG],ue,ue,ue⟩ (by simp only[RepS]) hd)
end
variable {g0:Option (Nat×Bool)}{gs:zf}{md:Mode}{pv:EV}
section
variable {C:Ctx} {k:List Frm} {n:Nat} {sl:zf} {tab:Tab} {Q:Exit->St->Prop} {all:Array Oper} {rest:List Oper} [DecidableEq K]
theorem zd7(κ:zd4 P kt K){d:Nat}{t ty:TypeId}(hC:C.low)
 (J:metL all sl g0=some gs) (U:Nat.blt d n=true) (hf:freshB (1000+d) ⟨n,sl,tab⟩=true)
 (g:Goal P C (.ops all rest (nx md ⟨some d,gs,[],[1000+d],.one (.mp (1000+d)),[(1000+d,some (.mpg (yt κ [])))]⟩)) k n ((d,.one (.mp (1000+d)))::sl) ((1000+d,some (.mpg (yt κ [])))::tab) Q):
 Goal P C (.ops all (⟨some d,.makeMap t none,ty,ps,af,g0⟩::rest) md) k n sl tab Q:=by
 have:=zk J (zjo (P:=P) (ty:=ty) (ps:=ps) (af:=af) (g:=g0) (d:=some d) (t:=t) (id:=1000+d)) (n:=n) (tab:=tab);simp only[u0]at this;refine zT (L:=⟨some d,gs,[],[1000+d],.one (.mp (1000+d)),[(1000+d,some (.mpg (yt κ [])))]⟩) hC this.1 rfl ⟨this.2,trivial,?_,U⟩ g;simp only[allB,hf,qk];rw[Nat.ble_eq];omega
theorem yH(κ:zd4 P kt K){d:Nat}{x y:Operand}{t et ty:TypeId}(hC:C.low){id:Nat}{l:List (K×EV)}(z:EV){b:Bool}
 (hx:ev sl x=some (.one (.mp id))) (hy:ev sl y=some (κ.s k0)) (hT:tg tab id=some (.mpg (yt κ l))) (hu:P.underlying t=some (.map kt et)) (hz:(P.info? et).bind (·.zero)=some c0) (h0: ∀M,RepEV M z c0)
 (hv:(getG l k0).getD z=pv) (hs:(getG l k0).isSome=b) (hm:metL all sl g0=some gs) (hd:Nat.blt d n=true)
 (g:Goal P C (.ops all rest (nx md ⟨some d,gs++(rq x (.one (.mp id))++rq y (κ.s k0)),[(id,.mpg (yt κ l))],[],.tup [evS pv,.bq b],[]⟩)) k n ((d,.tup [evS pv,.bq b])::sl) tab Q):
 Goal P C (.ops all (⟨some d,.lookup t x y true,ty,ps,af,g0⟩::rest) md) k n sl tab Q:=by
 subst hv;subst hs;have J:=zB (st:=⟨n,sl,tab⟩) hx;have U:=zB (st:=⟨n,sl,tab⟩) hy;have:=zk hm (zfy (P:=P) (ty:=ty) (ps:=ps) (af:=af) (g:=g0) (d:=some d) (ok:=true) (l:=l) J.1 U.1 hu hz h0) (n:=n) (tab:=tab);exact zT (L:=⟨some d,gs++(rq x (.one (.mp id))++rq y (κ.s k0)),[(id,.mpg (yt κ l))],[],.tup [evS ((getG l k0).getD z),.bq (getG l k0).isSome],[]⟩) hC this.1 rfl ⟨by rw[za,za];exact⟨this.2,J.2,U.2⟩,⟨hT,uh⟩,rfl,hd⟩ g
theorem vQ(κ:zd4 P kt K){d:Nat}{x y:Operand}{t et ty:TypeId}(hC:C.low){id:Nat}{l:List (K×EV)}(z:EV)
 (hx:ev sl x=some (.one (.mp id))) (hy:ev sl y=some (κ.s k0)) (hT:tg tab id=some (.mpg (yt κ l))) (hu:P.underlying t=some (.map kt et)) (hz:(P.info? et).bind (·.zero)=some c0) (h0: ∀M,RepEV M z c0)
 (hv:(getG l k0).getD z=pv) (hm:metL all sl g0=some gs) (hd:Nat.blt d n=true)
 (g:Goal P C (.ops all rest (nx md ⟨some d,gs++(rq x (.one (.mp id))++rq y (κ.s k0)),[(id,.mpg (yt κ l))],[],evS pv,[]⟩)) k n ((d,evS pv)::sl) tab Q):
 Goal P C (.ops all (⟨some d,.lookup t x y false,ty,ps,af,g0⟩::rest) md) k n sl tab Q:=by
 subst hv;have J:=zB (st:=⟨n,sl,tab⟩) hx;have U:=zB (st:=⟨n,sl,tab⟩) hy;have:=zk hm (zfy (P:=P) (ty:=ty) (ps:=ps) (af:=af) (g:=g0) (d:=some d) (ok:=false) (l:=l) J.1 U.1 hu hz h0) (n:=n) (tab:=tab);exact zT (L:=⟨some d,gs++(rq x (.one (.mp id))++rq y (κ.s k0)),[(id,.mpg (yt κ l))],[],evS ((getG l k0).getD z),[]⟩) hC this.1 rfl ⟨by rw[za,za];exact⟨this.2,J.2,U.2⟩,⟨hT,uh⟩,rfl,hd⟩ g
theorem zdi(κ:zd4 P kt K){x y u:Operand}{t et ty:TypeId}(hC:C.low){id:Nat}{l l':List (K×EV)}
 (hx:ev sl x=some (.one (.mp id))) (hy:ev sl y=some (κ.s k0)) (hw:ev sl u=some (evS pv)) (hT:tg tab id=some (.mpg (yt κ l))) (hu:P.underlying t=some (.map kt et))
 (hv:putG l k0 pv=l') (hm:metL all sl g0=some gs)
 (g:Goal P C (.ops all rest (nx md ⟨none,gs++(rq x (.one (.mp id))++rq y (κ.s k0)++rq u (evS pv)),[(id,.mpg (yt κ l))],[],.un,[(id,some (.mpg (yt κ l')))]⟩)) k n sl ((id,some (.mpg (yt κ l')))::tab) Q):
 Goal P C (.ops all (⟨none,.mapUpdate t x y u,ty,ps,af,g0⟩::rest) md) k n sl tab Q:=by
 subst hv;have J:=zB (st:=⟨n,sl,tab⟩) hx;have U:=zB (st:=⟨n,sl,tab⟩) hy;have e3:=zB (st:=⟨n,sl,tab⟩) hw;have:=zk hm (zbi (P:=P) (ty:=ty) (ps:=ps) (af:=af) (g:=g0) (d:=none) (l:=l) J.1 U.1 e3.1 hu) (n:=n) (tab:=tab);exact zT (L:=⟨none,gs++(rq x (.one (.mp id))++rq y (κ.s k0)++rq u (evS pv)),[(id,.mpg (yt κ l))],[],.un,[(id,some (.mpg (yt κ (putG l k0 pv))))]⟩) hC this.1 rfl ⟨by rw[za,za,za];exact⟨this.2,⟨J.2,U.2⟩,e3.2⟩,⟨hT,uh⟩,rfl,rfl⟩ g
theorem zue(κ:zd4 P kt K){x y:Operand}{t t2 et ty:TypeId}(hC:C.low){id:Nat}{l l':List (K×EV)}
 (hx:ev sl x=some (.one (.mp id))) (hy:ev sl y=some (κ.s k0)) (hT:tg tab id=some (.mpg (yt κ l))) (hu:P.underlying t=some (.map kt et))
 (hv:zgV l k0=l') (hm:metL all sl g0=some gs) (hd:dok d n=true)
 (g:Goal P C (.ops all rest (nx md ⟨d,gs++(rq x (.one (.mp id))++rq y (κ.s k0)),[(id,.mpg (yt κ l))],[],.un,[(id,some (.mpg (yt κ l')))]⟩)) k n (app d .un [(id,some (.mpg (yt κ l')))] ⟨n,sl,tab⟩).sl ((id,some (.mpg (yt κ l')))::tab) Q):
 Goal P C (.ops all (⟨d,.call ⟨.builtin .delete,#[x,y],#[t,t2]⟩,ty,ps,af,g0⟩::rest) md) k n sl tab Q:=by
 subst hv;have J:=zB (st:=⟨n,sl,tab⟩) hx;have U:=zB (st:=⟨n,sl,tab⟩) hy;have:=zk hm (zlN (P:=P) (ty:=ty) (ps:=ps) (af:=af) (g:=g0) (d:=d) (t2:=t2) (l:=l) J.1 U.1 hu) (n:=n) (tab:=tab);exact zT (L:=⟨d,gs++(rq x (.one (.mp id))++rq y (κ.s k0)),[(id,.mpg (yt κ l))],[],.un,[(id,some (.mpg (yt κ (zgV l k0))))]⟩) hC this.1 rfl ⟨by rw[za,za];exact⟨this.2,J.2,U.2⟩,⟨hT,uh⟩,rfl,hd⟩ g
end
end Hw
namespace Hw.Gm
open Go Go.Proofs Hw.M
abbrev K2:=Fin 1000000×Fin 1000000
def zu7(i:Nat)(nd:Int):Option K2:=if h:i<1000000/\0<=nd/\nd<1000000 then some (⟨i,h.1⟩,⟨nd.toNat,ua⟩)else none
structure Kn where
 kn:List (K2×EV)
 bu:List (K2×EV)
inductive Bn where
 |ok (v:Int) (k:Kn)
 |flt (e:Int) (k:Kn)
 |out
def Bn.bind:Bn->(Int->Kn->Bn)->Bn
 | .ok v k,f=>f v k
 | .flt e k,_=> .flt e k
 | .out,_=> .out
def bdI(n:Int)(k:Kn):Bn:=if n< -1099511627776\/1099511627776<n then .flt 5 k else .ok n k
def znO(n:Int):Prop:= -9223372036854775808<n/\n<9223372036854775808
instance (n:Int):Decidable (znO n):=inferInstanceAs (Decidable (_/\_))
def zqt(a b:Int)(k:Kn):Bn:=if znO a/\znO b then(if a.natAbs*b.natAbs>1099511627776 then .flt 5 k else .ok (a*b) k)else .out
def znP(op a b:Int)(k:Kn):Bn:=
 if op=9 then bdI (IntKind.i64.wrap (a+b)) k else if op=10 then bdI (IntKind.i64.wrap (a - b)) k
 else if op=11 then zqt a b k
 else if op=22 then .ok (if a<b then b else a) k else if op=23 then .ok (if b<a then b else a) k
 else if op=14 then .ok (zeS (decide (a=b))) k else if op=15 then .ok (zeS (!decide (a=b))) k
 else if op=16 then .ok (zeS (decide (a<b))) k else if op=17 then .ok (zeS (decide (a<=b))) k
 else if b=0 then .flt 18 k else if op=12 then bdI (IntKind.i64.wrap (Int.tdiv a b)) k else .ok (Int.tmod a b) k
def zuf(d:zj)(s:Str):Option Nat:=d.measures.findIdx? λm=>decide (m.n=s)
def namI(d:zj)(m:Hp)(nd:Int)(s:Str)(k:Kn):Bn:=if s=(⟨#[116,104,105,115]⟩:UH)then .ok nd k else match ixF d.globals s with
 |none=> .out
 |some i=>match m.g[i]? with
  |none=> .out
  |some v=> .ok v k
def fldI(d:zj)(m:Hp)(v:Int)(s:Str)(k:Kn):Bn:=if v=0 then .flt 17 k else if v<0 then .out else match m.n[(v - 1).toNat]? with
 |none=> .out
 |some x=>if x.t<0 then .out else match d.types[x.t.toNat]? with
  |none=> .out
  |some t=>match ixF t.f s with
   |none=> .out
   |some i=>match x.f[i]? with
    |none=> .out
    |some u=> .ok u k
def zlO(v:Int):Int:=if v<1 then 0 else Nat.log2 v.toNat
def lkI(l:List (K2×EV))(q:K2):Option (Option Int):=match getG l q with
 |none=>some none
 |some (.o (.k (.int .i64 v)))=>some (some v)
 |some _=>none
def lkB(l:List (K2×EV))(q:K2):Option Bool:=match getG l q with
 |none=>some false
 |some (.o (.k (.bool b)))=>some b
 |some _=>none
variable {q:K2}
theorem zoN{l:List (K2×EV)}{v:Int}(h:lkI l q=some (some v)):getG l q=some (.o (ki v)):=by
 unfold lkI at h;split at h
 ·cases h
 ·rename_i u J;simp only[ui]at h;subst h;exact J
 ·cases h
theorem zoO{l:List (K2×EV)}(h:lkI l q=some none):getG l q=none:=by
 unfold lkI at h;split at h
 ·assumption
 ·cases h
 ·cases h
theorem zrQ{l:List (K2×EV)}{b:Bool}(h:lkB l q=some b):(getG l q).getD (.o (.k (.bool false)))= .o (.k (.bool b)):=by
 unfold lkB at h;split at h
 ·rename_i J;simp only[ui]at h;subst h;rw[J];rfl
 ·rename_i u J;simp only[ui]at h;subst h;rw[J];rfl
 ·cases h
mutual
def inV(d:zj)(m:Hp):Nat->Int->Ex->Kn->Bn
 |0,_,_,_=> .out
 |g+1,nd,e,k=>
  if e.op=1\/e.op=2 then .ok e.n k else if e.op=3 then .ok 0 k
  else if e.op=4 then namI d m nd e.s k
  else if e.op=5 then(atV d m g nd e 0 k).bind λv k=>fldI d m v e.s k
  else if e.op=7 then(match zuf d e.s with
   |none=> .out
   |some i=>(atV d m g nd e 0 k).bind λv k=>meV d m g i v k)
  else if e.op=8 then(atV d m g nd e 0 k).bind λv k=>bdI (IntKind.i64.wrap (-v)) k
  else if e.op=18 then(atV d m g nd e 0 k).bind λv k=> .ok (IntKind.i64.wrap (1 - v)) k
  else if e.op=24 then(atV d m g nd e 0 k).bind λv k=>if v<9223372036854775808 then .ok (zlO v) k else .out
  else if e.op=19 then(atV d m g nd e 0 k).bind λv k=>if v=0 then .ok 0 k else atV d m g nd e 1 k
  else if e.op=20 then(atV d m g nd e 0 k).bind λv k=>if v=0 then atV d m g nd e 1 k else .ok 1 k
  else if e.op=21 then(atV d m g nd e 0 k).bind λv k=>if v=0 then atV d m g nd e 2 k else atV d m g nd e 1 k
  else(atV d m g nd e 0 k).bind λa k=>(atV d m g nd e 1 k).bind λb k=>znP e.op a b k
def atV(d:zj)(m:Hp):Nat->Int->Ex->Nat->Kn->Bn
 |0,_,_,_,_=> .out
 |g+1,nd,e,i,k=>match e.l[i]? with
  |none=> .out
  |some x=>inV d m g nd x k
def meV(d:zj)(m:Hp):Nat->Nat->Int->Kn->Bn
 |0,_,_,_=> .out
 |g+1,i,nd,k=>match d.measures[i]? with
  |none=> .out
  |some x=>if nd=0 then .ok x.z k else match zu7 i nd with
   |none=> .out
   |some q=>match lkI k.kn q with
    |none=> .out
    |some (some v)=> .ok v k
    |some none=>match lkB k.bu q with
     |none=> .out
     |some true=> .flt 16 k
     |some false=>(inV d m g nd x.x { k with bu:=putG k.bu q (.o (.k (.bool true))) }).bind λv k=> .ok v ⟨putG k.kn q (.o (ki v)),zgV k.bu q⟩
end
end Hw.Gm
namespace Hw.Gm
open Go Go.Proofs Go.Shelf
def zgW:Go.Shelf.Ren:=⟨λ|264=>245|n=>n,λ|53=>314|46=>259|n=>n,λ|n=>n⟩
theorem zrR:Go.Proofs.Lays.n264 Tryz.prog zgW where
 mixed:=by kernel_rfl
 f264:=Tryz.func245.trans (uX some ud)
 t46:=Tryz.underlying259
 a46:=Tryz.isAgg259
 z46:=Tryz.sizeOf259
 v46:=Tryz.zeroValue259
 t53:=Tryz.underlying314
 a53:=Tryz.isAgg314
 z53:=Tryz.sizeOf314
 v53:=Tryz.zeroValue314
end Hw.Gm
namespace Hw.Gm
open Go Go.Proofs Go.Shelf Hw.M Ps
abbrev flI(e:Int):Value:= .iface 251 (.agg #[.int .i64 e])
def pE:Bn->End
 | .ok v _=> .ok (I v) []
 | .flt e _=> .pn (flI e) []
 | .out=> .no
theorem zin(n:Int)(k:Kn):FnX Tryz.prog 142 [I n] [] (pE (bdI n k)):=by
 unfold bdI;by_cases J:n< -1099511627776\/1099511627776<n
 ·rw[uv J];show ya _ _ _ _ _ _;refine zX T Tryz.func142 ud rfl rfl rfl λC hC=>?_
  repeat' first|refine gG ?_|refine gB ?_ ?_<;>intro h|(refine zcm hC [.int .i64 5] rfl ud rfl rfl ?_)|(refine xF hC rfl rfl ?_)
  all_goals first
   |exact gU (zi ⟨rfl,id,trivial,rfl,rfl⟩)
   |exact zi ⟨rfl,id,trivial,rfl,rfl⟩
   |(exfalso;simp only[uq,ur]at *; omega)
 ·rw[uu J];show zh _ _ _ _ _ _;refine gO T Tryz.func142 λC hC=>?_
  repeat' first|refine gG ?_|(exfalso;have h2:=uj h;omega)|refine gB ?_ ?_<;>intro h
  exact gF
theorem zaF(b:Bool):zh Tryz.prog 205 [.bq b] [] (I (zeS b)) []:=by
 cases b
 ·refine gO T Tryz.func205 λC hC=>?_
  repeat' first|refine gG ?_|exact gD|refine gB ?_ ?_<;>intro h
  all_goals exact gF
 ·refine gO T Tryz.func205 λC hC=>?_
  repeat' first|refine gG ?_|exact gD|refine gB ?_ ?_<;>intro h
  all_goals exact gF
theorem zoP{P:Program}{f:FuncId}{a b v u:Value}(J:jM P f)(h: ∀w:World,Calls P f #[a,b] w λe w'=>e= .returned (.tuple #[v,u])/\w'=w)(U:v.oneCell'=true)(h2:u.oneCell'=true):
 zh P f [.one (.p (.k a)),.one (.p (.k b))] [] (.tup [.one (.p (.k v)),.one (.p (.k u))]) []:=by
 refine⟨J,λM ρ w xs hx _ hI _=>?_⟩;obtain rfl:=zeQ (av:=[a,b]) hx;refine(h w).mono λe w' ⟨he,hw⟩=>?_;subst hw;refine⟨_,M,ρ,he,by simp only[RepS,RepSs,RepV,RepPV];exact⟨[v,u],rfl,⟨rfl,U⟩,⟨rfl,h2⟩,uh⟩,⟨λ_ _ h=>(by cases h),λ_ _ _ _ _ h=>(by cases h),λ_ _ _ h=>(by cases h)⟩,hI,MLe.refl M,λb o u hu=> .inl hu,λb hb=>?_,λb _ _=>rfl,uF _,rfl,rfl,rfl,λid hid=>rfl⟩;obtain⟨i,r,h,_⟩:=hb;cases h
theorem zlP(x y:Nat)(J:x<18446744073709551616)(U:y<18446744073709551616):
 zh Tryz.prog 245 [u64 x,u64 y] [] (.tup [u64 ((x*y / 18446744073709551616:Nat):Int),u64 ((x*y % 18446744073709551616:Nat):Int)]) []:=
 zoP (⟨_,Tryz.func245,ud,ud⟩) (λw=>Any.bits_Mul64 zrR x y J U w) rfl rfl
theorem zfz(a:Int)(h:znO a):zh Tryz.prog 244 [I a] [] (u64 (a.natAbs:Int)) []:=by
 unfold znO at h;have J:IntKind.i64.wrap (0 - a)= -a:=by rw[wrap64 ua];omega
 have U:(if a< -a then -a else a)=(a.natAbs:Int):=by split<;>omega
 have hc:IntKind.u64.wrap (a.natAbs:Int)=(a.natAbs:Int):=by rw[IntKind.wrap_u64];omega
 refine gO T Tryz.func244 λC hC=>?_
 repeat' first|refine gG ?_|refine gB ?_ ?_<;>intro h|refine zdD hC rfl rfl rfl ?_|(rw[J];refine v7 hC (a.natAbs:Int) rfl rfl U rfl rfl ?_)
 rw[hc];exact gF
theorem zrS(a b:Int)(k:Kn):FnX Tryz.prog 204 [I a,I b] [] (pE (zqt a b k)):=by
 unfold zqt;by_cases h:znO a/\znO b
 ·rw[uv h];have U:=zfz a h.1;have hB:=zfz b h.2;have h1:=h.1;have h2:=h.2;unfold znO at h1 h2;have J:=zlP a.natAbs b.natAbs ua ua;have hp:((a.natAbs*b.natAbs:Nat):Int)=(a*b).natAbs:=by rw[Int.natAbs_mul]
  generalize hq:a.natAbs*b.natAbs=q at J hp⊢;by_cases h0:q>1099511627776
  ·rw[uv h0];show ya _ _ _ _ _ _;refine zX T Tryz.func204 ud rfl rfl rfl λC hC=>?_
   repeat' first|refine gG ?_|refine gB ?_ ?_<;>intro h|refine gC U ?_|refine gC hB ?_|refine gC J ?_|(refine zcm hC [.int .i64 5] rfl ud rfl rfl ?_)|(refine xF hC rfl rfl ?_)
   all_goals first
    |exact gU (zi ⟨rfl,id,trivial,rfl,rfl⟩)
    |exact zi ⟨rfl,id,trivial,rfl,rfl⟩
    |(exfalso;simp only[ux,uG,uq,ur]at *; omega)
  ·rw[uu h0];have hw:IntKind.i64.wrap (a*b)=a*b:=by rw[wrap64 ua]
   show zh _ _ _ _ _ _;refine gO T Tryz.func204 λC hC=>?_
   repeat' first|refine gG ?_|(exfalso;simp only[ux,uG,uq,ur]at h;omega)|refine gB ?_ ?_<;>intro h|refine gC U ?_|refine gC hB ?_|refine gC J ?_
   rw[hw];exact gF
 ·rw[uu h];trivial
theorem zrT(op a b:Int)(k:Kn):FnX Tryz.prog 144 [I op,I a,I b] [] (pE (znP op a b k)):=by
 have J:=zin (IntKind.i64.wrap (a+b)) k;have U:=zin (IntKind.i64.wrap (a - b)) k;have hQuo:=zin (IntKind.i64.wrap (Int.tdiv a b)) k;have hMul:=zrS a b k;have hT1:=zaF (decide (a=b));have hT2:=zaF (!decide (a=b));have hT3:=zaF (decide (a<b));have hT4:=zaF (decide (a<=b));unfold znP;by_cases o9:op=9
 ·subst o9;simp only[Int.reduceEq,uZ,uL];cases hr:bdI (IntKind.i64.wrap (a+b)) k with
  |out=>trivial
  |ok v k1=>
   rw[hr]at J;have J:zh _ _ _ _ _ _:=J;show zh _ _ _ _ _ _;refine gO T Tryz.func144 λC hC=>?_
   repeat' first|refine gG ?_|exact gD|refine gB ?_ ?_<;>intro h|refine gC J ?_
   exact gF
  |flt e k1=>
   rw[hr]at J;have J:ya _ _ _ _ _ _:=J;show ya _ _ _ _ _ _;refine zX T Tryz.func144 ud rfl rfl rfl λC hC=>?_
   repeat' first|refine gG ?_|exact gD|refine gB ?_ ?_<;>intro h|(refine zr hC J id rfl rfl (zH.refl _) rfl rfl rfl rfl rfl rfl ?_)
   exact gU (zi ⟨rfl,id,trivial,rfl,rfl⟩)
 by_cases o10:op=10
 ·subst o10;simp only[Int.reduceEq,uZ,uL];cases hr:bdI (IntKind.i64.wrap (a - b)) k with
  |out=>trivial
  |ok v k1=>
   rw[hr]at U;have U:zh _ _ _ _ _ _:=U;show zh _ _ _ _ _ _;refine gO T Tryz.func144 λC hC=>?_
   repeat' first|refine gG ?_|exact gD|refine gB ?_ ?_<;>intro h|refine gC U ?_
   exact gF
  |flt e k1=>
   rw[hr]at U;have U:ya _ _ _ _ _ _:=U;show ya _ _ _ _ _ _;refine zX T Tryz.func144 ud rfl rfl rfl λC hC=>?_
   repeat' first|refine gG ?_|exact gD|refine gB ?_ ?_<;>intro h|(refine zr hC U id rfl rfl (zH.refl _) rfl rfl rfl rfl rfl rfl ?_)
   exact gU (zi ⟨rfl,id,trivial,rfl,rfl⟩)
 by_cases o11:op=11
 ·subst o11;simp only[Int.reduceEq,uZ,uL];cases hr:zqt a b k with
  |out=>trivial
  |ok v k1=>
   rw[hr]at hMul;have hMul:zh _ _ _ _ _ _:=hMul;show zh _ _ _ _ _ _;refine gO T Tryz.func144 λC hC=>?_
   repeat' first|refine gG ?_|exact gD|refine gB ?_ ?_<;>intro h|refine gC hMul ?_
   exact gF
  |flt e k1=>
   rw[hr]at hMul;have hMul:ya _ _ _ _ _ _:=hMul;show ya _ _ _ _ _ _;refine zX T Tryz.func144 ud rfl rfl rfl λC hC=>?_
   repeat' first|refine gG ?_|exact gD|refine gB ?_ ?_<;>intro h|(refine zr hC hMul id rfl rfl (zH.refl _) rfl rfl rfl rfl rfl rfl ?_)
   exact gU (zi ⟨rfl,id,trivial,rfl,rfl⟩)
 by_cases o22:op=22
 ·subst o22;simp only[Int.reduceEq,uZ,uL];show zh _ _ _ _ _ _;refine gO T Tryz.func144 λC hC=>?_
  repeat' first|refine gG ?_|exact gD|refine gB ?_ ?_<;>intro h|(refine v7 hC (if a<b then b else a) rfl rfl rfl rfl rfl ?_)
  exact gF
 by_cases o23:op=23
 ·subst o23;simp only[Int.reduceEq,uZ,uL];show zh _ _ _ _ _ _;refine gO T Tryz.func144 λC hC=>?_
  repeat' first|refine gG ?_|exact gD|refine gB ?_ ?_<;>intro h|(refine zly hC (if b<a then b else a) rfl rfl rfl rfl rfl ?_)
  exact gF
 by_cases o14:op=14
 ·subst o14;simp only[Int.reduceEq,uZ,uL];show zh _ _ _ _ _ _;refine gO T Tryz.func144 λC hC=>?_
  repeat' first|refine gG ?_|exact gD|refine gB ?_ ?_<;>intro h|refine gC hT1 ?_
  exact gF
 by_cases o15:op=15
 ·subst o15;simp only[Int.reduceEq,uZ,uL];show zh _ _ _ _ _ _;refine gO T Tryz.func144 λC hC=>?_
  repeat' first|refine gG ?_|exact gD|refine gB ?_ ?_<;>intro h|refine gC hT2 ?_
  exact gF
 by_cases o16:op=16
 ·subst o16;simp only[Int.reduceEq,uZ,uL];show zh _ _ _ _ _ _;refine gO T Tryz.func144 λC hC=>?_
  repeat' first|refine gG ?_|exact gD|refine gB ?_ ?_<;>intro h|refine gC hT3 ?_
  exact gF
 by_cases o17:op=17
 ·subst o17;simp only[Int.reduceEq,uZ,uL];show zh _ _ _ _ _ _;refine gO T Tryz.func144 λC hC=>?_
  repeat' first|refine gG ?_|exact gD|refine gB ?_ ?_<;>intro h|refine gC hT4 ?_
  exact gF
 simp only[o9,o10,o11,o22,o23,o14,o15,o16,o17,uL];by_cases hb:b=0
 ·rw[uv hb];show ya _ _ _ _ _ _;refine zX T Tryz.func144 ud rfl rfl rfl λC hC=>?_
  repeat' first|refine gG ?_|(exfalso;have h9:=uj h;omega)|(exfalso;have h9:=um h;omega)|refine gB ?_ ?_<;>intro h|(refine zcm hC [.int .i64 18] rfl ud rfl rfl ?_)|(refine xF hC rfl rfl ?_)
  all_goals first
   |exact gU (zi ⟨rfl,id,trivial,rfl,rfl⟩)
   |exact zi ⟨rfl,id,trivial,rfl,rfl⟩
 ·rw[uu hb];by_cases o12:op=12
  ·rw[uv o12];cases hr:bdI (IntKind.i64.wrap (Int.tdiv a b)) k with
   |out=>trivial
   |ok v k1=>
    rw[hr]at hQuo;have hQuo:zh _ _ _ _ _ _:=hQuo;show zh _ _ _ _ _ _;refine gO T Tryz.func144 λC hC=>?_
    repeat' first|refine gG ?_|(exfalso;have h9:=uj h;omega)|(exfalso;have h9:=um h;omega)|refine gB ?_ ?_<;>intro h|(refine zeP hC rfl rfl hb rfl rfl ?_)|refine gC hQuo ?_
    exact gF
   |flt e k1=>
    rw[hr]at hQuo;have hQuo:ya _ _ _ _ _ _:=hQuo;show ya _ _ _ _ _ _;refine zX T Tryz.func144 ud rfl rfl rfl λC hC=>?_
    repeat' first|refine gG ?_|(exfalso;have h9:=uj h;omega)|(exfalso;have h9:=um h;omega)|refine gB ?_ ?_<;>intro h|(refine zeP hC rfl rfl hb rfl rfl ?_)|(refine zr hC hQuo id rfl rfl (zH.refl _) rfl rfl rfl rfl rfl rfl ?_)
    exact gU (zi ⟨rfl,id,trivial,rfl,rfl⟩)
  ·rw[uu o12];show zh _ _ _ _ _ _;refine gO T Tryz.func144 λC hC=>?_
   repeat' first|refine gG ?_|(exfalso;have h9:=uj h;omega)|(exfalso;have h9:=um h;omega)|refine gB ?_ ?_<;>intro h|(refine zqY hC rfl rfl hb rfl rfl ?_)
   exact gF
end Hw.Gm
namespace Hw.Gm
open Go Go.Proofs Hw.M Ps
theorem zfA(m:Hp)(hg:m.g.length<=1000000)(hn:m.n.length<=1000000)(hf: ∀x∈m.n,x.f.length<=1000000):
 zh Tryz.prog 129 [zF (xP m)] [] (.agg [.ar 0,.ar 1]) [(0,.arr 1 (m.g.map yk)),(1,.vw [2] 2 (wRows m.n 0)),(2,.bag 1 (j9 m.n))]:=by
 have hC1:=jF m.g hg;refine gO T Tryz.func129 λC hC=>?_
 repeat' first|refine gG ?_|refine gB ?_ ?_<;>intro h|refine gR hC1 (nm [141]) ?_
 rw[uk];refine gA 150 2 [] [(1003,[.ar 141,.ar 150])] ?_;refine ztB hC rfl 151 1 rfl ?_;refine ztG rfl 150 [151] (rows:=[]) (rows':=wRows (m.n.take 0) 0) rfl rfl ?_
 refine zn (λi:Nat=>i<=m.n.length) (λi=>([(2,.one (.bx 1002 0)),(3,.one (.bx 1003 0)),(11,pS (zio m.n)),(12,I m.n.length),(13,I i)],
  [(1002,some (Res.box [.p (.k (.slice none 0 0)),.p (.k (.slice none 0 0))])),(1003,some (Res.box [.ar 141,.ar 150])),(141,some (Res.arr 1 (m.g.map yk))),(150,some (Res.vw [151] 2 (wRows (m.n.take i) 0))),(151,some (Res.bag 1 (j9 (m.n.take i))))])) (λi=>m.n.length - i) hC
  0 (uz _) id gM ?_
 intro i hi;refine zq T hC true 200 rfl ?_;refine zt rfl ?_ ?_<;>intro h
 ·have hlt:i<m.n.length:=by simpa using h
  clear h;obtain⟨x,hx⟩:=zd hlt;have hC2:=jF x.f (hf x (List.mem_of_getElem? hx));have hj:=zgt (m.n.take i) x.t 151 140;have J:=yw (m.n.take i) 0;have htl:(m.n.take i).length=i:=by rw[td];omega
  have hbt:j9 (m.n.take i)++[x.f.map yk]=j9 (m.n.take (i+1)):=by unfold j9;rw[yd hx,u6];rfl
  have U:=zgu (m.n.take i) x 151 140 161;rw[<-yd hx,<-zdN]at U
  repeat' first|refine gG ?_|refine gB ?_ ?_<;>intro h|(refine gI T (zl hx) ?_)|refine gR hC2 (nm [140]) ?_|(refine zkx T hC [PC.p (ki x.t),PC.a 0] [140] rfl rfl rfl rfl rfl rfl rfl rfl rfl rfl rfl rfl ?_)|(refine zbU T 160 hC (id:=150) (rows:=wRows (m.n.take i) 0) (rows2:=[[PC.p (ki x.t),PC.a 0]]) (ids:=[151]) (ids2:=[140]) [151,140] (wRows (m.n.take i) 0++[[PC.p (ki x.t),PC.a 1]]) (bytes:=32) rfl rfl rfl rfl (zoh.vw (T.es_ok _ _ rfl)) rfl hj.1 hj.2.1 hj.2.2.1 hj.2.2.2 rfl rfl rfl ud (by rw[J,uD];omega) (by rw[J,uD];omega) rfl rfl rfl ?_)
  rw[wrapN ua];refine zkn hC rfl 151 140 161 rfl rfl rfl rfl [] uh [(160,.vw [161] 2 (wRows (m.n.take (i+1)) 0))] ⟨⟨_,rfl,rfl,U⟩,uh⟩ ?_;exact zg (i+1) ua (ms [(150,160),(151,161)]) ua ⟨rfl,⟨rfl,rfl,rfl,rfl,rfl,uh⟩,⟨rfl,rfl,rfl,rfl,(by rw[<-hbt];rfl),uh⟩,rfl,xH rfl⟩
 ·have hge: ¬i<m.n.length:=by simpa using h
  clear h;rw[u5 ua]
  repeat' first|refine gG ?_|refine gB ?_ ?_<;>intro h|refine ze ?_
  exact gW [141,150,151]
def mc0(m:Hp):Mc:=⟨m.g,m.n,0,0,0,[]⟩
def plF:An Int->Option (Int×Int×Mc)
 | .ok v x=>some (0,v,x)
 | .flt e x=>some (e,0,x)
 | .out=>none
theorem zrU{d:zj}{m:Hp}(hw:zgU d m){c:Cl}(hc:zd3 d m c=0){fuel:Int}{k:Nat}{fl v:Int}{x:Mc}
 (J: ∀i p,zcZ d c.p=some i->d.procs[i]?=some p->plF (rnV d fuel k p c.a (mc0 m))=some (fl,v,x)) (hl:x.acc.length<=1099511627776):
 zh Tryz.prog 128 [zF (zJ d),.agg [.ar 1,.ar 2],zF (wY c),I fuel] (zj8 m 1 2 3) (.tup [.one (.bx 0 0),.agg (znN fl v x.comps (ndC x.acc)),I 0]) (mcR d fuel x 1 7 8 9):=by
 obtain⟨i,p,hi,hp,hal,hP⟩:=zjn hw hc;have J:=J i p hi hp;have U:=(zoI d fuel k).2.2.1 p c.a (mc0 m)
 refine zib T (m:=4) (Rm:=[(1,.arr 1 (m.g.map yk)),(2,.vw [3] 2 (wRows m.n 0)),(3,.bag 1 (j9 m.n)),(50,.box ((wY c).map V.p)),(51,.box ((zZ p).map V.p)),(52,.box [.bx 54 0]),(53,.box (znN 0 0 0 0)),(54,.box (mcC d fuel (mc0 m) 1 2 55)),(55,.arr 3 [])])
  (sl1:=[(6,.one (.bx 50 0)),(8,.one (.bx 52 0)),(9,.one (.bx 53 0)),(10,I 0),(11,.one (.bx 51 0))]) (Tryz.func128) ud rfl rfl rfl rfl rfl rfl rfl rfl rfl rfl rfl (λC hC=>?_) (λC hC=>?_)
 ·repeat' first|refine gG ?_|exact gD|refine gB ?_ ?_<;>intro h|refine gR hP (nm [0,1,2,3]) ?_
  refine gA 155 3 [] [(1027,mcC d fuel (mc0 m) 1 2 155)] ?_;exact zi ⟨ms [(50,1006),(51,1011),(52,1008),(53,1009),(54,1027),(55,155)],rfl,⟨rfl,rfl,rfl,rfl,rfl,uh⟩,⟨rfl,rfl,rfl,rfl,rfl,rfl,rfl,rfl,rfl,uh⟩,rfl,rfl⟩
 ·cases hrr:rnV d fuel k p c.a (mc0 m)with
  |out=>rw[hrr]at J;cases J
  |ok v1 x1=>
   rw[hrr]at J U;cases J;have U:zh _ _ _ _ _ _:=U;have hD:=zil d fuel x v none hl
   repeat' first|refine gG ?_|refine gB ?_ ?_<;>intro h|refine gR U (nm [54,1,2,3,55,5,6,107,108,109]) ?_
   exact zi ⟨none,_,_,_,nm [54,1,107,108,109,53,52],.inl rfl,hD,zH.refl _,⟨rfl,rfl,rfl,rfl,rfl,rfl,rfl,uh⟩,rfl,rfl,rfl,rfl,⟨.inl rfl,nm [54,1,2,3,4,5,6,107,108,109],_,rfl,.refl _,⟨rfl,rfl,rfl,rfl,rfl,uh⟩,rfl,rfl⟩⟩
  |flt er x1=>
   rw[hrr]at J U;cases J;have U:ya _ _ _ _ _ _:=U;have hD:=zil d fuel x 0 (some fl) hl
   repeat' first|refine gG ?_|refine gB ?_ ?_<;>intro h|(refine zr hC U (nm [54,1,2,3,55,5,6,107,108,109]) rfl rfl (zH.refl _) rfl rfl rfl rfl rfl rfl ?_)
   exact gU (zi ⟨some (znM fl),_,_,_,nm [54,1,107,108,109,53,52],rfl,hD,zH.refl _,⟨rfl,rfl,rfl,rfl,rfl,rfl,rfl,uh⟩,rfl,rfl,rfl,rfl,⟨.inl rfl,nm [54,1,2,3,4,5,6,107,108,109],_,rfl,.refl _,⟨rfl,rfl,rfl,rfl,rfl,uh⟩,rfl,rfl⟩⟩)
end Hw.Gm
namespace Hw.Gm
open Go Go.Proofs Hw.M
def look(l:List Fld)(s:Str):Option Str:=(l.find? λf=>decide (f.n=s)).map (·.t)
def ztk(d:zj)(s:Str):Option yn:=d.types.find? λt=>decide (t.n=s)
def zjq(d:zj)(s:Str):Option Pr:=d.procs.find? λp=>decide (p.n=s)
def xN(d:zj)(s:Str):Bool:=(ztk d s).isSome
def wy(d:zj)(s:Str):Bool:=decide (s=(⟨#[105,110,116]⟩:UH))||decide (s=(⟨#[98,111,111,108]⟩:UH))||xN d s
def y4(d:zj)(a b:Str):Bool:=decide (a=b)||decide (a=(⟨#[110,105,108]⟩:UH))&&xN d b
def fieldT(d:zj)(t s:Str):Str×Int:=match ztk d t with
 |none=>((⟨#[]⟩:UH),11)
 |some x=>match look x.f s with
  |some u=>(u,0)
  |none=>((⟨#[]⟩:UH),9)
def lsA(l:List Str)(i:Nat):Str:=(l[i]?).getD (⟨#[]⟩:UH)
def zj9(l:List Str)(t r:Str):Str×Int:=if l.any (λu=> !decide (u=t))=true then((⟨#[]⟩:UH),11)else(r,0)
def zcr(d:zj)(vs:List Fld)(body:Bool)(op:Int)(s:Str)(l:List Str):Str×Int:=
 if op=1 then((⟨#[105,110,116]⟩:UH),0)else if op=2 then((⟨#[98,111,111,108]⟩:UH),0)else if op=3 then((⟨#[110,105,108]⟩:UH),0)
 else if op=4 then(match look vs s with|some t=>(t,0)|none=>((⟨#[]⟩:UH),9))
 else if op=5 then fieldT d (lsA l 0) s
 else if op=6 then(if body=false then((⟨#[]⟩:UH),13)else if xN d s=false then((⟨#[]⟩:UH),9)else(s,0))
 else if op=14\/op=15 then(if y4 d (lsA l 0) (lsA l 1)=false/\y4 d (lsA l 1) (lsA l 0)=false then((⟨#[]⟩:UH),11)else((⟨#[98,111,111,108]⟩:UH),0))
 else if op=16\/op=17 then zj9 l (⟨#[105,110,116]⟩:UH) (⟨#[98,111,111,108]⟩:UH)
 else if op=18\/op=19\/op=20 then zj9 l (⟨#[98,111,111,108]⟩:UH) (⟨#[98,111,111,108]⟩:UH)
 else if op=21 then(if lsA l 0=(⟨#[98,111,111,108]⟩:UH)then(if y4 d (lsA l 1) (lsA l 2)=true then(lsA l 2,0)else if y4 d (lsA l 2) (lsA l 1)=true then(lsA l 1,0)else((⟨#[]⟩:UH),11))else((⟨#[]⟩:UH),11))
 else zj9 l (⟨#[105,110,116]⟩:UH) (⟨#[105,110,116]⟩:UH)
def zug(d:zj)(s:Str):Option Ms:=d.measures.find? λm=>decide (m.n=s)
def zbr(d:zj)(s:Str)(l:List Str):Str×Int:=match zug d s with
 |none=>((⟨#[]⟩:UH),9)
 |some m=>if ¬l.length=1 then((⟨#[]⟩:UH),3)else if y4 d (lsA l 0) m.t=false then((⟨#[]⟩:UH),11)else((⟨#[105,110,116]⟩:UH),0)
def zbs(d:zj)(body:Bool)(s:Str)(l:List Str):Str×Int:=if body=false then zbr d s l else match zjq d s with
 |none=>((⟨#[]⟩:UH),9)
 |some p=>if ¬l.length=p.params.length then((⟨#[]⟩:UH),3)else if(List.zip l p.params).any (λq=> !y4 d q.1 q.2.t)=true then((⟨#[]⟩:UH),11)else(p.res,0)
mutual
def exT(d:zj)(vs:List Fld)(body:Bool):Ex->Str×Int
 | .mk op _ s l=>match exsT d vs body l with
   |(ts,e)=>if e=0 then(if op=7 then(if(zbs d body s ts).2=0/\(zbs d body s ts).1=(⟨#[]⟩:UH)then((⟨#[]⟩:UH),11)else zbs d body s ts)else zcr d vs body op s ts)else((⟨#[]⟩:UH),e)
def exsT(d:zj)(vs:List Fld)(body:Bool):List Ex->List Str×Int
 | []=>([],0)
 |x::r=>match exT d vs body x with
  |(t,e)=>if e=0 then(match exsT d vs body r with|(ts,f)=>(t::ts,f))else([],e)
end
def caT(d:zj)(vs:List Fld)(body:Bool)(x:Ex):Str×Int:=match exsT d vs body x.l with
 |(ts,e)=>if e=0 then zbs d body x.s ts else((⟨#[]⟩:UH),e)
def exA(l:List Ex)(i:Nat):Ex:=(l[i]?).getD (.mk 0 0 (⟨#[]⟩:UH) [])
def stmT(d:zj)(vs:List Fld)(res:Str)(x:Sm):Int:=
 if x.op=6 then(caT d vs true (exA x.e 0)).2 else match exsT d vs true x.e with
  |(l,e)=>if e=0 then
     (if x.op=1 then(match look vs x.s with|none=>9|some t=>if y4 d (lsA l 0) t=true then 0 else 11)
     else if x.op=2 then(if(fieldT d (lsA l 0) x.s).2=0 then(if y4 d (lsA l 1) (fieldT d (lsA l 0) x.s).1=true then 0 else 11)else(fieldT d (lsA l 0) x.s).2)
     else if x.op=3\/x.op=4 then(if lsA l 0=(⟨#[98,111,111,108]⟩:UH)then 0 else 11)
     else if x.op=5 then(if l.length=0 then(if res=(⟨#[]⟩:UH)then 0 else 11)else if ¬res=(⟨#[]⟩:UH)/\y4 d (lsA l 0) res=true then 0 else 11)
     else 0)else e
mutual
def smsT(d:zj)(vs:List Fld)(res:Str):List Sm->Int->(Int×Int)×Int
 | [],n=>((0,0),n)
 |x::r,n=>match smOne d vs res x n with
  |(q,m)=>if q.2=0 then smsT d vs res r m else(q,m)
def smOne(d:zj)(vs:List Fld)(res:Str):Sm->Int->(Int×Int)×Int
 | .mk op s e l els,n=>if stmT d vs res (.mk op s e l els)=0 then(match smsT d vs res l (n+1)with
    |(q,m)=>if q.2=0 then smsT d vs res els m else(q,m))else((n,stmT d vs res (.mk op s e l els)),n+1)
end
def twB(l:List Str)(i:Nat):Bool:=(l.take i).any λs=>decide (s=lsA l i)
def fieldsE(d:zj)(all:List Str):List Fld->Nat->Int
 | [],_=>0
 |f::r,i=>if twB all i=true then 10 else if wy d f.t=false then 9 else fieldsE d all r (i+1)
def za1(d:zj)(l:List Fld):Int:=fieldsE d (l.map (·.n)) l 0
abbrev Ft:Type:=Option (Str×Int×Int)
def firstF{α:Type}(g:α->Nat->Ft):List α->Nat->Ft
 | [],_=>none
 |x::r,i=>match g x i with
  |some f=>some f
  |none=>firstF g r (i+1)
def ftE(s:Str)(e:Int):Ft:=if e=0 then none else some (s, -1,e)
def orF(a b:Ft):Ft:=match a with
 |some f=>some f
 |none=>b
def zcs(d:zj):Ft:=orF (firstF (λ(t:yn) i=>if twB (d.types.map (·.n)) i=true then some (t.n, -1,10)else none) d.types 0)
 (orF (firstF (λ(t:yn) _=>ftE t.n (za1 d t.f)) d.types 0)
   (firstF (λ(f:Fld) i=>if twB (d.globals.map (·.n)) i=true then some (f.n, -1,10)else if wy d f.t=false then some (f.n, -1,9)else none) d.globals 0))
def zfB(d:zj):Ft:=firstF (λ(p:Pr) i=>if twB (d.procs.map (·.n)) i=true then some (p.n, -1,10)else if za1 d (p.params++p.locs)=0 then(if ¬p.res=(⟨#[]⟩:UH)/\wy d p.res=false then some (p.n, -1,9)else none)else some (p.n, -1,za1 d (p.params++p.locs))) d.procs 0
def zd8(d:zj):Ft:=orF (firstF (λ(m:Ms) i=>if twB (d.measures.map (·.n)) i=true then some (m.n, -1,10)else if xN d m.t=false then some (m.n, -1,9)else none) d.measures 0)
 (orF (firstF (λ(m:Iv) i=>if twB (d.invs.map (·.n)) i=true then some (m.n, -1,10)else if ¬m.t=(⟨#[]⟩:UH)/\xN d m.t=false then some (m.n, -1,9)else none) d.invs 0)
   (orF (firstF (λ(m:Pt) _=>if ¬m.t=(⟨#[]⟩:UH)/\xN d m.t=false then some ((⟨#[112,111,116,101,110,116,105,97,108]⟩:UH), -1,9)else none) d.pots 0)
     (firstF (λ(b:Bd) i=>if(zjq d b.p).isSome=false then some (b.p, -1,9)else if twB (d.bounds.map (·.p)) i=true then some (b.p, -1,10)else none) d.bounds 0)))
def zka(d:zj)(p:Pr):List Fld:=p.params++p.locs++d.globals
def zd9(d:zj)(t:Str):List Fld:=if t=(⟨#[]⟩:UH)then d.globals else⟨(⟨#[116,104,105,115]⟩:UH),t⟩::d.globals
def ztl(d:zj)(s:Str):List Fld:=((zjq d s).map (·.params)).getD []++d.globals
def zct(d:zj):Ft:=firstF (λ(p:Pr) _=>if(smsT d (zka d p) p.res p.body 0).1.2=0 then none else some (p.n,(smsT d (zka d p) p.res p.body 0).1.1,(smsT d (zka d p) p.res p.body 0).1.2)) d.procs 0
def xt(d:zj)(vs:List Fld)(s:Str)(x:Ex)(want:Str):Ft:=if(exT d vs false x).2=0 then(if(exT d vs false x).1=want then none else some (s, -1,11))else some (s, -1,(exT d vs false x).2)
def zdj(d:zj):Ft:=orF (firstF (λ(m:Ms) _=>xt d (zd9 d m.t) m.n m.x (⟨#[105,110,116]⟩:UH)) d.measures 0)
 (orF (firstF (λ(m:Iv) _=>xt d (zd9 d m.t) m.n m.x (⟨#[98,111,111,108]⟩:UH)) d.invs 0)
   (orF (firstF (λ(m:Pt) _=>xt d (zd9 d m.t) (⟨#[112,111,116,101,110,116,105,97,108]⟩:UH) m.x (⟨#[105,110,116]⟩:UH)) d.pots 0)
     (firstF (λ(b:Bd) _=>xt d (ztl d b.p) b.p b.x (⟨#[105,110,116]⟩:UH)) d.bounds 0)))
def zkb(d:zj):Ft:=orF (zcs d) (orF (zfB d) (orF (zd8 d) (orF (zct d) (zdj d))))
def zvK(d:zj):Str×Int×Int:=(zkb d).getD ((⟨#[]⟩:UH),0,0)
end Hw.Gm
namespace Hw
open Go
variable {K:Act->World->Prop}{P:Program}{Q:Exit->Act->World->Prop}{a:Act}{o:Oper}{w:World}
theorem ziq{l n:Nat}(J: ∀c,o.op≠ .defer c)(h:o.wp P a w K Q):
 o.wpIn (Fence.wide.inRound l) n P a w K Q:=by
 refine⟨λ_ _=>trivial,?_⟩;rw[Oper.semAt_eq _ _ _ J];unfold Oper.wp at h;generalize (execOp a.eval o).run P w=r at h;cases r with
 |ok x w'=>
  cases x with
  |value v=>exact h
  |skip=>exact h
  |defer d=>exact h
  |enter f args=>exact⟨λe=>(by cases e),(callsIn_wide (n:=n - 1)).2 h⟩
  |row row args=>
   have h:Rows P row args w' λv w''=>K (a.put o.dst v) w'':=h
   refine⟨λe=>(by cases e),λc cs _=>?_⟩;obtain⟨v,w'',r,s⟩:=h c cs;exact⟨v,w'',r,stepsIn_wide.2 s⟩
  |_=>exact h.elim
 |halt x w'=>cases x<;>first|exact h|exact h.elim
structure Wk (P:Program) (all:Array Oper) (n:Nat) (sl0:zf) (tab0:Tab) (done:List Law) (rest:List Oper) (sl:zf) (tab:Tab):Prop where
 ok:wW P all ⟨n,sl0,tab0⟩ done
 sl: ∀k,sg sl k=sg (apps ⟨n,sl0,tab0⟩ done).sl k
 tab: ∀i,tg tab i=tg (apps ⟨n,sl0,tab0⟩ done).tab i
 rest:all.toList.drop done.length=rest
variable {all:Array Oper}{tab:Tab}
theorem zdk{n:Nat}{sl:zf}:Wk P all n sl tab [] all.toList sl tab:=⟨uh,λ_=>rfl,λ_=>rfl,rfl⟩
variable {L:Law}{done:List Law}{rest:List Oper}{sl0:zf}{tab0:Tab}
theorem zqu{n:Nat}{sl:zf}
 (hL:xc P all o L.rs L.rt L.fr L.v L.wt) (hd:L.d=o.dst) (h:okL L n sl tab) (w:Wk P all n sl0 tab0 done (o::rest) sl tab):Wk P all n sl0 tab0 (L::done) rest (app L.d L.v L.wt ⟨n,sl,tab⟩).sl (L.wt++tab):=by
 obtain⟨h1,h2,h3,h4⟩:=h;obtain⟨hD,J,U,hr⟩:=w;refine⟨⟨hD,o,?_,hL,hd,jT h1 λk _=>(J k).symm,vh h2 λi _=>(U i).symm,h4⟩,?_,?_,?_⟩
 ·have:(all.toList.drop done.length)[0]?=some o:=by rw[hr];rfl
  rw[uY]at this;simpa using this
 ·intro j;rw[vo];simp only[wr];obtain⟨d,rs,rt,fr,v,wt⟩:=L;cases d with
  |none=>simpa [app]using J j
  |some d=>
   simp only[app];rw[yz];by_cases e:d=j
   ·subst e;simp
   ·simp[e,xj e,J j]
 ·intro i;simp only[apps,app];cases hk:hasB i (keysT L.wt)with
  |true=>exact wM hk
  |false=>rw[y2 hk,y2 hk];exact U i
 ·have:(all.toList.drop done.length).drop 1=rest:=by rw[hr];rfl
  rw[tv]at this;simpa [oO]using this
theorem yo(T:Ty P){n:Nat}{sl:zf}
 (w:Wk P all n sl0 tab0 done (o::rest) sl tab) (h:stepL T n true all o sl tab=some L):Wk P all n sl0 tab0 (L::done) rest (app L.d L.v L.wt ⟨n,sl,tab⟩).sl (L.wt++tab):=by
 obtain⟨J,h2,h3⟩:=xq T h;exact zqu J h2 h3 w
variable {C:Ctx}{M:Mem}{i lp:Nat}{st:St}{ρ:Nat->Value}
section
variable {l:List Law} {ms:List Nat}
def za2(ops:Array Oper):Bool:=ops.toList.all λo=>match o.op with
 | .defer _=>false
 |_=>true
theorem zbj{ops:Array Oper}(h:za2 ops=true)(J:ops[i]?=some o): ∀c,o.op≠ .defer c:=λc e=>by
 have U:o∈ops.toList:=by
  have:=Array.mem_of_getElem? J;simpa using this
 have:=List.all_eq_true.1 h o U;rw[e]at this;cases this
def checkS(st:St):List Law->Bool
 | []=>true
 |L::l=>allB (λid=>Nat.ble 100 id&&freshB id st) L.fr&&allLt (λj=>match at? l j with
   |some X=>allB (λid=>noL id X) L.fr
   |none=>false) l.length&&checkS st l
theorem zcu: ∀ {l:List Law} {i:Nat} {L:Law},checkS st l=true->at? l i=some L->allB (λid=>Nat.ble 100 id&&freshB id st) L.fr=true/\ ∀(j:Nat) (X:Law),at? l j=some X->j<i-> ∀id∈L.fr,noL id X=true
 | [],_,_,_,h=>by cases h
 |Y::l,i,L,hc,h=>by
  simp only[checkS,uo]at hc;rw[yA]at h;split at h
  ·rename_i e;simp only[ui]at h;subst h;refine⟨hc.1.1,λj X J hj id U=>?_⟩;rw[yA,uu ua]at J;have:=yv hc.1.2 j (wi J);rw[J]at this;exact zM this id U
  ·rename_i e;obtain⟨h1,h2⟩:=zcu hc.2 h;refine⟨h1,λj X J hj=>?_⟩;have:=wi h;rw[yA,uu ua]at J;exact h2 j X J hj
def okC(dr:Bool)(st:St)(l:List Law)(all:Array Oper):Bool:=match dr with
 |true=>check all (vM all.toList []) st l
 |false=>Nat.beq l.length all.size&&checkS st l
theorem zoQ{id n:Nat}(hnd:za2 all=true)(hd:wW P all st l)(hlen:l.length=all.size)(hck:checkS st l=true)(hC:C.low)
 (hQ: ∀a w M ρ,Holds C (apps st l) M ρ a w->Q .normal a w) (hH:Holds C st M ρ a w):(Code.region id all false).wpIn (Fence.wide.inRound lp) n P Q a w:=by
 refine wpIn_region_list ?_
 have key: ∀(k i:Nat) (M:Mem) (ρ:Nat->Value) (a:Act) (w:World),all.size - i=k->i<=all.size->Holds C (apps st (sel (λj=>decide (j<i)) l)) M ρ a w->wpListIn (Fence.wide.inRound lp) n P all Q (all.toList.drop i) a w:=by
  intro k
  induction k with
  |zero=>
   intro i M ρ a w hk hi hH;have:i=all.size:=by omega
   subst this;rw[Uh ue];refine hQ a w M ρ ?_;rw[zbg ua]at hH;exact hH
  |succ k ih=>
   intro i M ρ a w hk hi hH;have hlt:i<all.size:=by omega
   have hoi:all[i]?=some all[i]:=tR hlt
   have hdr:all.toList.drop i=all[i]::all.toList.drop (i+1):=by
    rw[qm (by simpa using hlt)];simp
   rw[hdr];obtain⟨L,hL⟩:=zlQ (l:=l) (i:=i) ua;obtain⟨o,ho,hstep,U,hS,hT,hdk⟩:=hd.at hL;rw[hoi]at ho;simp only[ui]at ho;subst ho
   have hF:okF C L.fr (apps st (sel (λj=>decide (j<i)) l)):=by
    have one: ∀id∈L.fr,wG C id (apps st (sel (λj=>decide (j<i)) l)):=λid J=>by
     have:=zM (zcu hck hL).1 id J;simp only[uo]at this
     refine xX this.2 (by
      cases e:tg C.tab0 id with
      |none=>rfl
      |some r=>have:=hC id r e;have:=uV (by assumption:Nat.ble 100 id=true/\_).1;omega) λX hX=>?_
     obtain⟨j,hj,hX'⟩:=zag hX;exact(zcu hck hL).2 j X hX' (uj hj) id J
    have: ∀fr:List Nat,(∀id∈fr,wG C id (apps st (sel (λj=>decide (j<i)) l)))->okF C fr (apps st (sel (λj=>decide (j<i)) l)):=λfr=>by
     induction fr with
     |nil=>exact λ_=>trivial
     |cons x xs ih=>exact λh=>⟨h x ue,ih λid J=>h id (uP _ J)⟩
    exact this _ one
   have nxt: ∀a' w' M' ρ',Holds C (app all[i].dst L.v L.wt (apps st (sel (λj=>decide (j<i)) l))) M' ρ' a' w'->wpListIn (Fence.wide.inRound lp) n P all Q (all.toList.drop (i+1)) a' w':=λa' w' M' ρ' hH'=>by
    refine ih (i+1) M' ρ' a' w' ua ua ?_;rw[<-U]at hH';have e:sel (λj=>decide (j<i+1)) l=L::sel (λj=>decide (j<i)) l:=sel_succ hL;rw[e];exact hH'
   have:=hstep C _ M ρ a w hH hS hT hF (by rw[wv,<-U];exact hdk) (wpListIn (Fence.wide.inRound lp) n P all Q (all.toList.drop (i+1))) Q nxt;show if _ then _ else _
   split
   ·rename_i hw;rw[uv hw]at this;exact ziq (zbj hnd hoi) this
   ·rename_i hw;rw[uu hw]at this;exact⟨λ_ _=>trivial,this⟩
 have:=key _ 0 M ρ a w rfl (uz _) (by
  have:sel (λj=>decide (j<0)) l=[]:=jH λj _=>by simp
  rw[this];exact hH)
 simpa using this
where
 sel_succ {l:List Law} {i:Nat} {L:Law}:at? l i=some L->sel (λj=>decide (j<i+1)) l=L::sel (λj=>decide (j<i)) l:=by
  induction l with
  |nil=>intro h;cases h
  |cons X l ih=>
   intro h;rw[yA]at h;split at h
   ·rename_i e;simp only[ui]at h;subst h;subst e;simp only[sel,Uc,qH,qJ,oo];rw[zbg ua,zbg ua]
   ·rename_i e;have hlt:=wi h;simp only[sel,uJ (show ¬l.length<i+1 by omega),uJ (show ¬l.length<i by omega)];exact ih h
theorem zrV{n:Nat}(hnd:za2 all=true)(hd:wW P all st l)(hc:check all ms st l=true)(hC:C.low)(hQ: ∀a w M ρ,Holds C (apps st l) M ρ a w->Q .normal a w):
 ∀(fuel:Nat) (listed:Array Bool) (M:Mem) (ρ:Nat->Value) (a:Act) (w:World),listed.size=all.size->left (λj=>listed.getD j false) all.size=fuel->Down all (λj=>listed.getD j false)->
  Holds C (apps st (sel (λj=>listed.getD j false) l)) M ρ a w->wpAnyIn (Fence.wide.inRound lp) n P .any all Q fuel listed a w:=by
 have fin: ∀(listed:Array Bool) (M:Mem) (ρ:Nat->Value) (a:Act) (w:World),(∀j,j<all.size->listed.getD j false=true)->Holds C (apps st (sel (λj=>listed.getD j false) l)) M ρ a w->Q .normal a w:=
  λlisted M ρ a w h hH=>hQ a w M ρ (by rw[zgX (l:=l) λj hj=>h j (by rw[<-zcv hc];exact hj)]at hH;exact hH)
 have full: ∀(listed:Array Bool),listed.size=all.size->Region.ready .any all listed=[]-> ∀j,j<all.size->listed.getD j false=true:=by
  intro listed hs hr j
  induction j using Nat.strongRecOn with
  |_ j ih=>
   intro hj;cases e:listed.getD j false with
   |true=>rfl
   |false=>
    obtain⟨o,L,ho,hL,J,_⟩:=jL hc hj
    have:j∈Region.ready .any all listed:=mem_ready.2 ⟨by
     have J:j<listed.size:=by omega
     simp only[Array.getD,J,ou]at e ⊢; exact e,o,ho,λe' he hb=>ih e'.on (J _ (wm he hb)) (by have:=J _ (wm he hb);omega)⟩
    rw[hr]at this;cases this
 intro fuel
 induction fuel with
 |zero=>
  intro listed M ρ a w hs hl hD hH;have h0:=ju hl;refine⟨?_,fin listed M ρ a w h0 hH⟩;cases e:Region.ready .any all listed with
  |nil=>rfl
  |cons x xs=>
   obtain⟨h1,o,ho,_⟩:=mem_ready.1 (show x∈Region.ready .any all listed by rw[e];simp);have hx:x<all.size:=(tz.1 ho).1;have h2:=h0 x hx;have J:x<listed.size:=by omega
   simp only[Array.getD,J,ou]at h1 h2;rw[h1]at h2;cases h2
 |succ fuel ih=>
  intro listed M ρ a w hs hl hD hH;refine⟨λhr=>fin listed M ρ a w (full listed hs hr) hH,λi hi=>?_⟩;obtain⟨h1,o,ho,hall⟩:=mem_ready.1 hi;have hx:i<all.size:=(tz.1 ho).1;have J:i<listed.size:=by omega
  have hn:listed.getD i false=false:=by simp only[Array.getD,J,ou]at h1 ⊢; exact h1
  have hput: ∀j,(listed.setIfInBounds i true).getD j false=zge (λj=>listed.getD j false) i j:=λj=>by
   by_cases e:j=i
   ·subst e;simp[yf,J]
   ·rw[zA e,getD_set_ne false (λh=>e h.symm)]
  have U:(λj=>(listed.setIfInBounds i true).getD j false)=zge (λj=>listed.getD j false) i:=funext hput
  have hp: ∀p∈yb o,listed.getD p false=true:=λp hp=>by
   obtain⟨e,he,hb,rfl⟩:=zbD hp;exact hall e he hb
  unfold wpOpIn;simp only[ho]
  have key:=zir hd hc hD hx ho hn hp hC hH (K:=wpAnyIn (Fence.wide.inRound lp) n P .any all Q fuel (listed.setIfInBounds i true)) (Q:=Q) λa' w' M' ρ' hH'=>by
   refine ih _ M' ρ' a' w' (by simpa using hs) ?_ ?_ ?_
   ·rw[U];have:=zaA (D:=λj=>listed.getD j false) hn (n:=all.size);rw[uv hx]at this;omega
   ·rw[U];intro k ok hk hDk p hpk;by_cases e:k=i
    ·subst e;rw[ho]at hk;simp only[ui]at hk;subst hk;by_cases e2:p=k
     ·subst e2;exact yf _ _
     ·rw[zA e2];exact hp p hpk
    ·rw[zA e]at hDk;have:=hD k ok hk hDk p hpk;by_cases e2:p=i
     ·subst e2;exact yf _ _
     ·rw[zA e2];exact this
   ·rw[U];exact hH'
  split
  ·rename_i hw;rw[uv hw]at key;exact ziq (zbj hnd ho) key
  ·rename_i hw;rw[uu hw]at key;exact⟨λ_ _=>trivial,key⟩
theorem zdl{id n:Nat}{dr:Bool}(hm:P.follows .mixedOrders=true)(U:za2 all=true)(hd:wW P all st l)(hc:okC dr st l all=true)(hC:C.low)
 (hQ: ∀a w M ρ,Holds C (apps st l) M ρ a w->Q .normal a w) (hH:Holds C st M ρ a w):(Code.region id all dr).wpIn (Fence.wide.inRound lp) n P Q a w:=by
 cases dr with
 |true=>
  have h0: ∀j,(Array.replicate all.size false).getD j false=false:=λj=>by
   by_cases h:j<all.size
   ·simp[h]
   ·simp[h]
  have J:(λj=>(Array.replicate all.size false).getD j false)=λ_=>false:=funext h0
  refine wpIn_region_any hm (zrV (ms:=vM all.toList []) U hd hc hC hQ _ _ M ρ a _ ue ?_ ?_ ?_)
  ·rw[J]
   have: ∀n,left (λ_=>false) n=n:=λn=>by
    induction n with
    |zero=>rfl
    |succ n ih=>simp only[left,ih];omega
   exact this _
  ·rw[J];intro i o _ h;cases h
  ·rw[J,jH λ_ _=>rfl];exact hH.grow (λ_ _=>rfl) (uF _) rfl rfl rfl
 |false=>
  simp only[okC,uo]at hc;exact zoQ U hd (uH hc.1) hc.2 hC hQ hH
end
def zuh(P:Program)(n:Nat)(asg body:Code)(sl:zf)(R R':RL):Prop:=
 ∀(m lp fn:Nat) (rec:Loop),rec.state= .ready->rec.pending=none-> ∀(M:Mem) (ρ:Nat->Value) (W:World) (tmps:Array Value),tmps.size=n->(∀k s,sg sl k=some s->RepS M ρ s (tmps.getD k undef))->
  wc M ρ W (tb ((90,.raw lp (.loop rec))::R))->Imm M W->GOk M W->RoundIn Fence.wide m P lp fn tmps asg body W λe W'=>
   e= .returned (.bool true)/\ ∃M' ρ',Ret M ρ W ((90,.raw lp (.loop rec))::R) .un ((90,.raw lp (.loop rec))::R') undef M' ρ' W'
theorem Holds.zea(h:Holds C st M ρ a w){id r:Nat}{o:Obj}(o':Obj)(J:tg st.tab id=some (.raw r o)):
 Holds C ⟨st.n,st.sl,(id,some (.raw r o'))::st.tab⟩ M ρ a (w.putObj r o'):=by
 obtain⟨h1,h2⟩:=h.zP.res id _ J;have U:r<w.heap.size:=(tz.1 h2).1;exact h.turn (d:=none) (v:= .un) (x:=undef) J (λb hb=>World.putObj_heap_other λe=>hb (by rw[h1,e];rfl)) (by simp[World.putObj]) rfl rfl rfl ⟨h1,World.putObj_heap_same U⟩ (by simp only[RepS]) rfl
variable {R R':RL}
theorem zrW(T:Ty P){n ida idb b:Nat}{drA drB:Bool}{opsA opsB:Array Oper}{sl:zf}(hnA:za2 opsA=true)(hnB:za2 opsB=true)(hlow:allB (λi=>Nat.blt i 90) R.ids=true)
 (h: ∀(lp:Nat) (o o':Obj),∃doneA slA tabA doneB slB tabB,Wk P opsA n sl (tb ((90,.raw lp o)::R)) doneA [] slA tabA/\okC drA ⟨n,sl,tb ((90,.raw lp o)::R)⟩ doneA opsA=true/\tg tabA 90=some (.raw lp o)/\
   Wk P opsB n slA ((90,some (.raw lp o'))::tabA) doneB [] slB tabB/\okC drB ⟨n,slA,(90,some (.raw lp o'))::tabA⟩ doneB opsB=true/\tg tabB 90=some (.raw lp o')/\okT R' ⟨n,slB,tabB⟩/\hasB 90 R'.ids=false):
 zuh P n (.region ida opsA drA) (.block b (.region idb opsB drB)) sl R R':=by
 intro m lp fn rec hst hpe M ρ W tmps hsz hs hT hI hG
 have hgf: ∀p∈G2,¬zeN (tb ((90,.raw lp (.loop rec))::R)) ρ p.1:=λp hp ⟨id,r,h1,h2⟩=>by
  obtain⟨v,hv⟩:=zlo p hp;have:=hG.le _ _ _ hv;rw[hT.own id r p.1 h1 h2 0]at this;cases this
 let C:Ctx:=⟨W,M,ρ,tb ((90,.raw lp (.loop rec))::R),hG,hgf,[]⟩
 have hC:C.low:=λi r h=>by
  have hm:i∈RL.ids ((90,.raw lp (.loop rec))::R):=zR (zQ h);rcases uI.1 hm with rfl|hm
  ·omega
  ·have:=zM hlow i hm;have:i<90:=by simpa [tG]using this
   omega
 have hH:Holds C ⟨n,sl,tb ((90,.raw lp (.loop rec))::R)⟩ M ρ { tmps:=tmps,defers:=[] } W:=
  ⟨rfl,hsz,hs,hT,λid r b h1 h2 h3=>h3.2 ⟨id,r,h1,h2⟩,⟨hI,λ_ _=>rfl,uF _,MLe.refl _,λ_ _ _ h=> .inl h,rfl,rfl,rfl⟩,λ_ _ _=>rfl⟩
 obtain⟨doneA,slA,tabA,doneB,slB,tabB,wA,cA,rA,wB,cB,rB,hR',h90⟩:=h lp (.loop rec) (.loop { rec with state:= .busy })
 have frb: ∀b,¬C.fr b->W.heap.size<=b\/zeN (tb ((90,.raw lp (.loop rec))::R)) ρ b:=λb hb=>by
  rcases tp b W.heap.size with h|h
  ·exact .inr (qD λhn=>hb ⟨h,hn⟩)
  ·exact .inl h
 refine roundIn_of_wpIn trivial ?_;refine zdl T.mix hnA wA.ok cA hC (λa w M1 ρ1 U=>?_) hH;have U:Holds C ⟨n,slA,tabA⟩ M1 ρ1 a w:=U.ext (by rw[wv]) wA.sl wA.tab;have hl:w.heap[lp]?=some (.loop rec):=(U.zP.res 90 _ rA).2;refine⟨_,run_beginRound hl hst,?_⟩;refine wpIn_block (zdl T.mix hnB wB.ok cB hC (λa2 w2 M2 ρ2 hH2=>?_) (U.zea _ rA));have hH2:Holds C ⟨n,slB,tabB⟩ M2 ρ2 a2 w2:=hH2.ext (by rw[wv]) wB.sl wB.tab;have hl2:w2.heap[lp]?=some (.loop { rec with state:= .busy }):=(hH2.zP.res 90 _ rB).2;have J:=hH2.zea (.loop rec) rB
 have e0:({ { rec with state:=LoopState.busy } with state:=if(none:Option Code).isNone then LoopState.ready else LoopState.done,pending:=none }:Loop)=rec:=by
  cases rec;simp only at hst hpe;subst hst;subst hpe;rfl
 have hend:=run_endRound (P:=P) none hl2;rw[e0]at hend;refine⟨_,_,hend,rfl,M2,ρ2,?_⟩
 have tk: ∀i r,tg (tb ((90,.raw lp (.loop rec))::R')) i=some r->tg ((90,some (.raw lp (.loop rec)))::tabB) i=some r:=λi r hi=>by
  simp only[tb,zC]at hi⊢;split at hi
  ·rename_i e;rw[uv e];exact hi
  ·rename_i e;rw[uu e];exact xm hR' (zQ hi)
 exact⟨by simp only[RepS],⟨λi r hr=>J.zP.res _ _ (tk i r hr),λi j ri rj b e1 e2=>J.zP.dis _ _ _ _ b (tk i ri e1) (tk j rj e2),λi r b e1=>J.zP.own _ _ b (tk i r e1)⟩,
  J.run.imm,J.run.base,λb o u hu=>(J.run.newM b o u hu).imp id (frb b),λb ⟨i,r,e1,hb⟩=>frb b (J.ownf _ _ b (tk i r e1) hb),λb hb hn=>J.run.fram b ⟨hb,hn⟩,
  J.run.size,J.run.os,J.run.tape,J.run.output,λid hid=>by
   obtain⟨r,hr⟩:=jU hid
   exact J.keep id r hr⟩
theorem zlR{n:Nat}(h:o.wp P a w K Q):o.wpIn Fence.wide n P a w K Q:=by
 refine⟨λ_ _=>trivial,?_⟩;show o.uponIn Fence.wide n P a K Q ((execOp a.eval o).run P w);unfold Oper.wp at h;generalize (execOp a.eval o).run P w=r at h;cases r with
 |ok x w'=>
  cases x with
  |value v=>exact h
  |skip=>exact h
  |defer d=>exact h
  |enter f args=>exact⟨λe=>(by cases e),(callsIn_wide (n:=n - 1)).2 h⟩
  |row row args=>
   have h:Rows P row args w' λv w''=>K (a.put o.dst v) w'':=h
   refine⟨λe=>(by cases e),λc cs _=>?_⟩;obtain⟨v,w'',r,s⟩:=h c cs;exact⟨v,w'',r,stepsIn_wide.2 s⟩
  |_=>exact h.elim
 |halt x w'=>cases x<;>first|exact h|exact h.elim
def zcS(P:Program)(C:Ctx)(all:Array Oper)(rest:List Oper)(st:St)(Q:Exit->St->Prop):Prop:= ∀M ρ a w,Holds C st M ρ a w->wpListIn Fence.wide 1 P all (lift C Q) rest a w
variable {af:Array Edge}{d:Nat}{ps:String}{slr:zf}
section
variable {k:List Frm} {n:Nat} {sl:zf} {Q:Exit->St->Prop}
theorem zrX{id:Nat}{l:List Oper}(h:zcS P C l.toArray l ⟨n,sl,tab⟩ (unw P C k Q)):Goal P C (.code (.region id l.toArray false)) k n sl tab Q:=
 λM ρ a w J=>wpIn_wide.1 (wpIn_region_lit (h M ρ a w J))
theorem zlS(h:Goal P C (.fin .normal) k n sl tab Q):zcS P C all [] ⟨n,sl,tab⟩ (unw P C k Q):=λM ρ a w J=>h M ρ a w J
theorem zqv(hC:C.low){Q:Exit->St->Prop}(hL:xc P all o L.rs L.rt L.fr L.v L.wt)(hd:L.d=o.dst)(h:okL L n sl tab)
 (g:zcS P C all rest ⟨n,(app L.d L.v L.wt ⟨n,sl,tab⟩).sl,L.wt++tab⟩ Q):zcS P C all (o::rest) ⟨n,sl,tab⟩ Q:=by
 obtain⟨h1,h2,h3,h4⟩:=h;intro M ρ a w hH
 have key:=hL C ⟨n,sl,tab⟩ M ρ a w hH h1 h2 (zaB hC h3) (by rw[<-hd];exact h4) (wpListIn Fence.wide 1 P all (lift C Q) rest) (lift C Q) λa' w' M' ρ' J=>by
  refine g M' ρ' a' w' ?_;rw[hd];exact J
 show if _ then _ else _
 split
 ·rename_i U;rw[uv U]at key;exact zlR key
 ·rename_i U;rw[uu U]at key;exact⟨λ_ _=>trivial,key⟩
theorem yS(T:Ty P)(hC:C.low){Q:Exit->St->Prop}(h:stepL T n true all o sl tab=some L)
 (g:zcS P C all rest ⟨n,(app L.d L.v L.wt ⟨n,sl,tab⟩).sl,L.wt++tab⟩ Q):zcS P C all (o::rest) ⟨n,sl,tab⟩ Q:=by
 obtain⟨J,h2,h3⟩:=xq T h;exact zqv hC J h2 h3 g
theorem wq: ∀l:List Nat,injB id l=true
 | []=>rfl
 |i::r=>by
  simp only[injB,wq r,qk,List.all_eq_true,id_eq];intro j _;cases Nat.beq i j<;>rfl
theorem zdm(h: ∀i∈R'.ids,i∈R.ids):yc R R'=[]:=by
 unfold yc;rw[List.filter_eq_nil_iff];intro i J;simp only[ux,oh];have:=h i J;generalize R.ids=l at this
 induction l with
 |nil=>cases this
 |cons x xs ih=>
  rcases uI.1 this with rfl|h
  ·simp[hasB]
  ·simp[hasB,ih h]
theorem zwi{bx r0:Res}(J:91∉R.ids)(U:90∉R.ids): ∀ {i:Nat} {r:Res},tg (tb R) i=some r->tg ((91,some bx)::(90,some r0)::tb R) i=some r:=λ{i r} ht=>by
 have hi:i∈R.ids:=zR (zQ ht);rw[zC,uu (by rintro rfl;exact J hi),zC,uu (by rintro rfl;exact U hi)];exact ht
theorem zfC(h: ∀ {i r},(i,r)∈R->tg st.tab i=some r):okT R st:=by
 induction R with
 |nil=>trivial
 |cons x xs ih=>
  obtain⟨i,r⟩:=x;exact⟨h ue,ih λJ=>h (uP _ J)⟩
def uniq:List Nat->Bool
 | []=>true
 |i::l=> !hasB i l&&uniq l
theorem zcw{i:Nat}: ∀ {l:List Nat},i∈l->hasB i l=true
 | [],h=>by cases h
 |x::xs,h=>by
  rcases uI.1 h with rfl|h
  ·simp[hasB]
  ·simp[hasB,zcw h]
theorem vA: ∀ {R:RL},uniq R.ids=true-> ∀ {i:Nat} {r:Res},(i,r)∈R->tg (tb R) i=some r
 | [],_,_,_,h=>by cases h
 |(j,s)::R,hu,i,r,h=>by
  simp only[RL.ids,uniq,uo,ux]at hu;simp only[tb,zC];rcases uI.1 h with e|h
  ·simp only[uB]at e;obtain⟨rfl,rfl⟩:=e;simp
  ·split
   ·rename_i e;subst e;have J:j∈RL.ids R:=zR (zQ (vA hu.2 h));rw[zcw J]at hu;cases hu.1
   ·exact vA hu.2 h
theorem zfD{a:Array Value}{k:Nat}{v:Value}(h:i≠k):(a.setIfInBounds i v).getD k undef=a.getD k undef:=by
 simp only[qu,oE,uu h]
theorem zeb(hC:C.low){x J y1:Operand}{ts:Array TypeId}{ty:TypeId}{p0 p1 nr:Nat}{rec:Loop}{s0 s1:S}{bx:Res}{Q:Exit->St->Prop}
 (hrd:zuh P nr rec.assign rec.body ((p1,s1)::(p0,s0)::slr) R R') (hst:rec.state= .ready) (hpe:rec.pending=none) (hpar:rec.params= #[p0,p1]) (hsz:rec.tmps.size=nr) (hp0:p0<nr) (hp1:p1<nr) (hp:p0≠p1)
 (hgh: ∀M ρ a w,Holds C ⟨n,sl,(91,some bx)::(90,some (.raw lp (.loop rec)))::tb R⟩ M ρ a w-> ∀k s,sg slr k=some s->RepS M ρ s (rec.tmps.getD k undef))
 (hx:ev sl x=some (.one (.p (.k (.func (.yield lp) #[] #[]))))) (h0:ev sl J=some s0) (h1:ev sl y1=some s1)
 (hids:R'.ids=R.ids) (h91:91∉R.ids) (h90:90∉R.ids) (hu:uniq R.ids=true) (hren:R.ren id=R) (hren':R'.ren id=R') (hclo:x9 ((90::R.ids)++(90::R.ids)) R'=true) (hd:Nat.blt d n=true)
 (g:zcS P C all rest ⟨n,(d,Bo true)::sl,(91,some bx)::(90,some (.raw lp (.loop rec)))::tb R'⟩ Q):
 zcS P C all (⟨some d,.call ⟨.value x,#[J,y1],ts⟩,ty,ps,af,none⟩::rest) ⟨n,sl,(91,some bx)::(90,some (.raw lp (.loop rec)))::tb R⟩ Q:=by
 intro M ρ a w hH;have e1:=hH.evS hx;have e0:=hH.evS h0;have e2:=hH.evS h1;simp only[RepS,RepV,RepPV]at e1;have hl:w.heap[lp]?=some (.loop rec):=(hH.zP.res 90 (.raw lp (.loop rec)) (by simp[zC])).2;have hy:=run_yield (P:=P) (args:= #[a.eval J,a.eval y1]) hl (by rw[hpar];rfl)
 have hy':(Instr.yield lp #[a.eval J,a.eval y1]).run P w= .ok (.round lp rec.fn ((rec.tmps.setIfInBounds p0 (a.eval J)).setIfInBounds p1 (a.eval y1)) rec.assign rec.body) w:=by
  rw[hy,hpar];simp
 have hrun:(execOp a.eval ⟨some d,.call ⟨.value x,#[J,y1],ts⟩,ty,ps,af,none⟩).run P w= .ok (.round lp rec.fn ((rec.tmps.setIfInBounds p0 (a.eval J)).setIfInBounds p1 (a.eval y1)) rec.assign rec.body) w:=by
  simp[execOp,resolve,e1.1,Deferred.ofValue,invoke,hy']
 show if _ then _ else _
 rw[uv (by simp[Region.wanted])];refine⟨λ_ _=>trivial,?_⟩;rw[show Fence.wide.round=none from rfl,Oper.semAt_none,hrun];refine⟨λe=>(by cases e),?_⟩
 have okT0:okT (RL.ren id ((90,.raw lp (.loop rec))::R)) ⟨n,sl,(91,some bx)::(90,some (.raw lp (.loop rec)))::tb R⟩:=by
  refine⟨by simp[zC,Res.ren],?_⟩;rw[hren];exact zfC λhm=>zwi h91 h90 (vA hu hm)
 have hTH:wc M ρ w (tb ((90,.raw lp (.loop rec))::R)):=by
  have tk: ∀i r,tg (tb ((90,.raw lp (.loop rec))::R)) i=some r->tg ((91,some bx)::(90,some (.raw lp (.loop rec)))::tb R) i=some r:=λi r hi=>by
   simp only[tb,zC]at hi;split at hi
   ·rename_i e;subst e;simp[zC,hi]
   ·exact zwi h91 h90 hi
  exact⟨λi r U=>hH.zP.res _ _ (tk i r U),λi j ri rj b e1 e2=>hH.zP.dis _ _ _ _ b (tk i ri e1) (tk j rj e2),λi r b e1=>hH.zP.own _ _ b (tk i r e1)⟩
 have hsl: ∀k s,sg ((p1,s1)::(p0,s0)::slr) k=some s->RepS M ρ s (((rec.tmps.setIfInBounds p0 (a.eval J)).setIfInBounds p1 (a.eval y1)).getD k undef):=λk s hk=>by
  rw[yz]at hk;split at hk
  ·rename_i e;subst e;simp only[ui]at hk;subst hk
   have:((rec.tmps.setIfInBounds p0 (a.eval J)).setIfInBounds p1 (a.eval y1)).getD p1 undef=a.eval y1:=by
    simp[Array.getD,hsz,hp1]
   rw[this];exact e2
  ·rename_i ne1;have g1:((rec.tmps.setIfInBounds p0 (a.eval J)).setIfInBounds p1 (a.eval y1)).getD k undef=(rec.tmps.setIfInBounds p0 (a.eval J)).getD k undef:=zfD ne1;rw[g1];rw[yz]at hk;split at hk
   ·rename_i e;subst e;simp only[ui]at hk;subst hk;have:(rec.tmps.setIfInBounds p0 (a.eval J)).getD p0 undef=a.eval J:=by simp[Array.getD,hsz,hp0]
    rw[this];exact e0
   ·rename_i ne0;rw[zfD ne0];exact hgh M ρ a w hH k s hk
 refine RoundIn.mono (hrd 0 lp rec.fn rec hst hpe M ρ w _ (by simpa using hsz) hsl hTH hH.run.imm hH.gok) λe w' ⟨he,M',ρ',U⟩=>?_;subst he
 have hr2:Ret M (λi=>ρ (id i)) w ((90,.raw lp (.loop rec))::R) (Bo true) ((90,.raw lp (.loop rec))::R') (.bool true) M' ρ' w':=
  ⟨by simp only[RepS,RepV,RepPV];exact⟨uh,rfl⟩,U.zP,U.imm,U.mle,U.newM,U.own,U.fram,U.size,U.os,U.tape,U.output,U.keep⟩
 have hids':RL.ids ((90,Res.raw lp (.loop rec))::R')=RL.ids ((90,Res.raw lp (.loop rec))::R):=by simp only[RL.ids,hids]
 have hnew:yc ((90,.raw lp (.loop rec))::R) ((90,.raw lp (.loop rec))::R')=[]:=zdm (λi hi=>by rw[hids']at hi;exact hi)
 obtain⟨ρ3,h3⟩:=hH.called (d:=some d) hr2 okT0 (by rw[hnew];rfl) (wq _) (by rw[hnew];trivial) rfl (by
  rw[hids'];show(zu8 _ (.raw lp (.loop rec))&&x9 _ R')=true
  rw[uo];exact⟨rfl,hclo⟩) hd
 refine g M' ρ3 _ _ (h3.drop rfl (λk s e=>e) λi r e=>?_)
 have hrn:RL.ren id ((90,Res.raw lp (.loop rec))::R')=(90,.raw lp (.loop rec))::R':=by
  show(90,Res.raw lp (.loop rec))::RL.ren id R'=_;rw[hren']
 show tg ((tb (RL.ren id ((90,.raw lp (.loop rec))::R'))++xy ((RL.ids ((90,Res.raw lp (.loop rec))::R)).map id))++((91,some bx)::(90,some (.raw lp (.loop rec)))::tb R)) i=some r;rw[hrn];have e:tg ((91,some bx)::(90,some (.raw lp (.loop rec)))::tb R') i=some r:=e;show tg ((90,some (.raw lp (.loop rec)))::((tb R'++xy ((RL.ids ((90,Res.raw lp (.loop rec))::R)).map id))++((91,some bx)::(90,some (.raw lp (.loop rec)))::tb R))) i=some r;rw[zC]at e⊢;by_cases h9:90=i
 ·subst h9;rw[uu ua,zC,uv rfl]at e;rw[uv rfl];exact e
 ·rw[uu h9];by_cases h1:91=i
  ·subst h1;rw[uv rfl]at e
   have n91: ∀(r':Option Res),(91,r')∉tb R'++xy ((RL.ids ((90,Res.raw lp (.loop rec))::R)).map id):=λr' hm=>by
    rcases tj.1 hm with hm|hm
    ·have:91∈R'.ids:=tb_ids hm;rw[hids]at this;exact h91 this
    ·have:=offs_ids hm;simp only[List.map_id]at this;rcases uI.1 this with h|h
     ·omega
     ·exact h91 h
   rw[zlT n91,zC,uv rfl];exact e
  ·rw[uu h1,zC,uu h9]at e
   have hk:hasB i (keysT (tb R'))=true:=by
    have hm:=zfE e
    have: ∀ {t:Tab},(i,some r)∈t->hasB i (keysT t)=true:=λ{t}=>by
     induction t with
     |nil=>intro h;cases h
     |cons x xs ih=>
      obtain⟨j,s⟩:=x;intro h;simp only[keysT,hasB,uU];rcases uI.1 h with h|h
      ·simp only[uB]at h;exact .inl (by rw[<-h.1];exact wH _)
      ·exact .inr (ih h)
    exact this hm
   rw[tq,wM (b':=[]) hk,u0];exact e
where
 tb_ids {R:RL} {i:Nat} {r:Option Res}:(i,r)∈tb R->i∈R.ids:=by
  induction R with
  |nil=>intro h;cases h
  |cons x xs ih=>
   obtain⟨j,s⟩:=x;intro h;rcases uI.1 h with h|h
   ·simp only[uB]at h;simp[RL.ids,h.1]
   ·simp only[RL.ids,uI];exact .inr (ih h)
 offs_ids {l:List Nat} {i:Nat} {r:Option Res}:(i,r)∈xy l->i∈l:=by
  induction l with
  |nil=>intro h;cases h
  |cons x xs ih=>
   intro h;rcases uI.1 h with h|h
   ·simp only[uB]at h;simp[h.1]
   ·exact uP _ (ih h)
end
def zdn(P:Program)(g:FuncId)(caps:List V)(asg body:Code)(p0 p1 n:Nat)(slr:zf)(bx:Res)(R R':RL):Prop:=
 jM P g/\ ∀(lp:Nat) (rec:Loop),rec.state= .ready->rec.pending=none->rec.params= #[p0,p1]->rec.tmps.size=n->rec.assign=asg->rec.body=body->
  ∀(M:Mem) (ρ:Nat->Value) (w:World) (xs:List Value),RepVs M ρ caps xs->(∀k s,sg slr k=some s->RepS M ρ s (rec.tmps.getD k undef))->
   wc M ρ w (tb ((91,bx)::(90,.raw lp (.loop rec))::R))->Imm M w->GOk M w->
   Calls P g (.func (.yield lp) #[] #[]::xs).toArray w λe w'=> ∃v M' ρ',e= .returned v/\Ret M ρ w ((91,bx)::(90,.raw lp (.loop rec))::R) .un ((91,bx)::(90,.raw lp (.loop rec))::R') v M' ρ' w'
variable {c:Code}{caps:List V}{fn:Func}{g:FuncId}
theorem zrY(T:Ty P){asg body:Code}{p0 p1 n:Nat}{bx:Res}(hf:P.funcs[g]?=some fn)
 (hname:(fn.name== "runtime.NumGoroutine")=false) (hb:fn.body=some c) (hrv:fn.results=([]:List ResultVar).toArray) (hlow:allB (λi=>Nat.blt i 90) R.ids=true)
 (hn:Nat.ble (caps.length+1) fn.ntmps=true) (hcl: ∀k s,(k,s)∈slr->cloS R.ids s=true)
 (h: ∀(lp:Nat) (rec:Loop),rec.state= .ready->rec.pending=none->rec.params= #[p0,p1]->rec.tmps.size=n->rec.assign=asg->rec.body=body-> ∀C:Ctx,C.low->
   (∀st M ρ a w,Holds C st M ρ a w-> ∀k s,sg slr k=some s->RepS M ρ s (rec.tmps.getD k undef))->
   Goal P C (.code c) [] fn.ntmps (enum 0 (.one (.p (.k (.func (.yield lp) #[] #[])))::ones caps)) (tb ((91,bx)::(90,.raw lp (.loop rec))::R))
    (zeL T [] ((91,bx)::(90,.raw lp (.loop rec))::R) .un ((91,bx)::(90,.raw lp (.loop rec))::R'))):
 zdn P g caps asg body p0 p1 n slr bx R R':=by
 refine⟨⟨fn,hf,hname,by rw[hb];rfl⟩,λlp rec r1 r2 r3 r4 r5 r6 M ρ w xs hx hsl hT hI hG=>?_⟩
 have hlow':allB (λi=>Nat.blt i 100) (RL.ids ((91,bx)::(90,.raw lp (.loop rec))::R))=true:=by
  have: ∀l:List Nat,allB (λi=>Nat.blt i 90) l=true->allB (λi=>Nat.blt i 100) l=true:=λl=>by
   induction l with
   |nil=>exact λ_=>rfl
   |cons x xs ih=>
    intro h;simp only[allB,uo,tG]at h⊢;exact⟨ua,ih h.2⟩
  simp only[RL.ids,allB,this _ hlow];rfl
 have hlen:(ones caps).length=caps.length:=by
  have: ∀l:List V,(ones l).length=l.length:=λl=>by
   induction l with
   |nil=>rfl
   |cons x xs ih=>simp[ones,ih]
  exact this _
 obtain⟨C,hC,e1,e2,e3,e4,e5,hH⟩:=vN (xs:= .func (.yield lp) #[] #[]::xs) (args:= .one (.p (.k (.func (.yield lp) #[] #[])))::ones caps) hlow' (m:=fn.ntmps) (by
  rw[uR,hlen];exact hn) ⟨by simp only[RepS,RepV,RepPV];exact⟨uh,rfl⟩,yJ hx⟩ hT hI hG
 have hgh: ∀st M ρ a w,Holds C st M ρ a w-> ∀k s,sg slr k=some s->RepS M ρ s (rec.tmps.getD k undef):=λst M' ρ' a w' J k s hk=>by
  have h0:=RepS.mono (by rw[<-e2];exact J.run.base) _ _ (hsl k s hk);refine RepS.agree (X:=λi=>i∉R.ids) (ρ:=ρ) (λi hi=>?_) s _ (λi hi=>zaG hi s (hcl k s (zbh hk))) h0;have hi:=oV.1 hi;obtain⟨r,hr⟩:=jU (l:=(91,bx)::(90,.raw lp (.loop rec))::R) (i:=i) (by simp[RL.ids,hi]);rw[J.keep i r (by rw[e4];exact hr),e3]
 refine calls_of_wp hf hb (wp_mono (h lp rec r1 r2 r3 r4 r5 r6 C hC hgh M ρ _ w hH) λe a w' ⟨st,M',ρ',hq,J⟩=>?_);simp only[unw]at hq;obtain⟨he,σ,ss,g1,g2,g3,g4,g5⟩:=hq;obtain⟨v,hv,hrep⟩:=wX T hrv J g1;have U:=zh8 e4 J (σ:=σ) (g2 _ _ _ hrep) g3 g4 g5;rw[e1,e2,e3]at U;have hd:a.defers=[]:=by rw[J.dfr,e5]
 rcases he with rfl|rfl
 ·exact⟨hd,v,hv,v,M',_,rfl,U⟩
 ·exact⟨hd,v,hv,v,M',_,rfl,U⟩
theorem tg_tb_app{S:RL}:tg (tb (R++S)) i=(match tg (tb R) i with|some r=>some r|none=>tg (tb S) i):=by
 induction R with
 |nil=>rfl
 |cons x xs ih=>
  obtain⟨j,r⟩:=x;simp only[uN,tb,zC];split
  ·rfl
  ·exact ih
def marks(ds:List (Nat×Nat)):List Deferred:=ds.map λx=>{ target:= .collected x.2,args:= #[] }
def vR(ds:List (Nat×Nat)):RL:=ds.map λx=>(x.1,.raw x.2 (.deferred (some [])))
theorem zvL{n tm p0 p1 j:Nat}{asg body:Code}{sl:zf}{Rx:RL}{bx:Res}
 (hH:Holds C ⟨n,sl,tb ((91,bx)::(R++Rx))⟩ M ρ a w) (hIt:zdn P g caps asg body p0 p1 n slr bx R R') (hg:sg sl tm=some (.one (.cl g [] caps))) (hsl: ∀k s,sg slr k=some s->sg sl k=some s)
 (hids:R'.ids=R.ids) (hx: ∀i∈Rx.ids,i∉R.ids) (h91:91∉R.ids) (h91x:91∉Rx.ids) (h90:90∉R.ids) (h90x:90∉Rx.ids) (hjR:j∉R.ids) (hjx:j∉Rx.ids) (hj:j≠90/\j≠91)
 (hu:uniq R.ids=true) (hfj:freshB j ⟨n,sl,tb ((91,bx)::(R++Rx))⟩=true) (hf90:freshB 90 ⟨n,sl,tb ((91,bx)::(R++Rx))⟩=true)
 (hCj:tg C.tab0 j=none) (hC90:tg C.tab0 90=none) (hbx:bx.ren id=bx) (hren:R.ren id=R) (hren':R'.ren id=R')
 (hclo:x9 ((91::90::R.ids)++(91::90::R.ids)) ((91,bx)::R')=true)
 (hQ: ∀D M' ρ' w',Holds { C with df:=⟨.collected D,#[]⟩::C.df } ⟨n,sl,tb ((j,.raw D (.deferred (some [])))::(R'++Rx))⟩ M' ρ' { a with defers:=⟨.collected D,#[]⟩::a.defers } w'->Q .normal { a with defers:=⟨.collected D,#[]⟩::a.defers } w'):
 (Code.rangeFunc (.tmp tm) #[p0,p1] asg body).wp P Q a w:=by
 refine(wpIn_wide (n:=1)).1 (wpIn_rangeFunc λfnid _=>?_)
 let D:=w.heap.size
 let rec0:Loop:={ state:= .ready,pending:=none,fn:=fnid,tmps:=a.tmps,params:= #[p0,p1],assign:=asg,body:=body,defers:=D }
 let wA:=w.alloc (.deferred (some []))
 let wB:=wA.alloc (.loop rec0)
 have henter:=run_enterLoop_outer (P:=P) (w:=w) fnid a.tmps #[p0,p1] asg body;have hcv:=hH.slots tm _ hg;simp only[RepS,RepV]at hcv;obtain⟨xs,ys,hval,hxs,hys⟩:=hcv;have hxs:xs=[]:=by cases xs with|nil=>rfl|cons x l=>simp only[RepVs]at hxs
 subst hxs;have hev:a.eval (.tmp tm)= .func (.func g) #[] ys.toArray:=hval
 have hres:(resolve a.eval (rangeCall (.tmp tm) (D+1)) 0).run P wB= .ok ⟨.fn (.func g) ys.toArray,#[.func (.yield (D+1)) #[] #[]]⟩ wB:=by
  have hev':a.tmps[tm]?.getD undef= .func (.func g) #[] ys.toArray:=by rw[<-hval];simp[qu]
  simp[resolve,Deferred.ofValue,Act.eval,hev']
 obtain⟨fng,k1,k2,k3⟩:=hIt.1
 have hinv:(invoke (.fn (.func g) ys.toArray) #[.func (.yield (D+1)) #[] #[]]).run P wB= .ok (.enter g (Value.func (.yield (D+1)) #[] #[]::ys).toArray) wB:=by
  have hn': ¬(fng.name= "runtime.NumGoroutine"):=by simpa using k2
  have hp:program.run P wB= .ok P wB:=rfl;have hb': ¬fng.body=none:=λe=>by rw[e]at k3;cases k3
  simp[invoke,callFunc,k1,hn',hb',hp]
 -- the two blocks
 have bkm: ∀ {x b:Nat},Bk (.map (some x)) b->b=x:=λ{x b} h=>by
  have h:some x=some b:=h;exact(uS h).symm
 have hsz1:(w.alloc (.deferred (some []))).heap.size=D+1:=World.size_alloc _ _;have hF1:wG C j ⟨n,sl,tb ((91,bx)::(R++Rx))⟩:=vF hfj hCj
 have hH1:=hH.alloc (id:=j) (val:= .map (some D)) (o:= .deferred (some [])) (r':= .raw D (.deferred (some []))) (d:=none) (v:= .un) (u:=undef) (λb hb=>bkm hb) hF1
  ⟨by simp[upd],World.alloc_heap_new _ _⟩ (by simp only[RepS]) rfl
 have hF2:wG C 90 ⟨n,sl,(j,some (.raw D (.deferred (some []))))::tb ((91,bx)::(R++Rx))⟩:=by
  obtain⟨f1,f2,f3⟩:=vF hf90 hC90;refine⟨f1,λi r J=>?_,f3⟩;rw[zC]at J;split at J
  ·rename_i e;subst e;simp only[ui]at J;subst J;exact⟨hj.1,rfl⟩
  ·exact f2 i r J
 have hH2:=hH1.alloc (id:=90) (val:= .map (some (D+1))) (o:= .loop rec0) (r':= .raw (D+1) (.loop rec0)) (d:=none) (v:= .un) (u:=undef) (λb hb=>by
  rw[bkm hb,hsz1]) hF2
  ⟨by simp[upd],by rw[<-hsz1];exact World.alloc_heap_new _ _⟩ (by simp only[RepS]) rfl
 let mk:Deferred:=⟨.collected D,#[]⟩
 let C1:Ctx:={ C with df:=mk::C.df }
 let a1:Act:={ a with defers:=mk::a.defers }
 let tab2:Tab:=(90,some (.raw (D+1) (.loop rec0)))::(j,some (.raw D (.deferred (some []))))::tb ((91,bx)::(R++Rx))
 let ρ2:Nat->Value:=upd (upd ρ j (.map (some D))) 90 (.map (some (D+1)))
 have hH3:Holds C1 ⟨n,sl,tab2⟩ M ρ2 a1 wB:=⟨by show _::a.defers=_;rw[hH.dfr],hH2.sz,hH2.slots,hH2.zP,hH2.ownf,⟨hH2.run.imm,hH2.run.fram,hH2.run.size,hH2.run.base,hH2.run.newM,hH2.run.os,hH2.run.tape,hH2.run.output⟩,hH2.keep⟩
 let RF:RL:=(91,bx)::(90,.raw (D+1) (.loop rec0))::R
 let RF':RL:=(91,bx)::(90,.raw (D+1) (.loop rec0))::R'
 have tF: ∀i r,tg (tb RF) i=some r->tg tab2 i=some r:=λi r J=>by
  simp only[RF,tb,zC]at J;simp only[tab2,tb,zC];by_cases i91:91=i
  ·rw[uv i91]at J;subst i91;rw[uu ua,uu hj.2,uv rfl];exact J
  ·rw[uu i91]at J;by_cases i90:90=i
   ·rw[uv i90]at J;rw[uv i90];exact J
   ·rw[uu i90]at J;have hm:i∈R.ids:=zR (zQ J);rw[uu i90,uu (by rintro rfl;exact hjR hm),uu i91,tg_tb_app,J]
 have okT0:okT (RL.ren id RF) ⟨n,sl,tab2⟩:=by
  have e:RL.ren id RF=RF:=by
   show(91,bx.ren id)::(90,.raw (D+1) (.loop rec0))::RL.ren id R=_;rw[hbx,hren]
  rw[e]
  have huF:uniq RF.ids=true:=by
   have h1:hasB 91 (90::R.ids)=false:=by
    cases e:hasB 91 (90::R.ids)with
    |false=>rfl
    |true=>rcases uI.1 (yh e)with h|h
           ·omega
           ·exact absurd h h91
   have h2:hasB 90 R.ids=false:=by
    cases e:hasB 90 R.ids with
    |false=>rfl
    |true=>exact absurd (yh e) h90
   simp only[RF,RL.ids,uniq,h1,h2,hu];rfl
  exact zfC λ{i r} hm=>tF i r (vA huF hm)
 have hTF:wc M ρ2 wB (tb RF):=⟨λi r hr=>hH3.zP.res _ _ (tF i r hr),λi k ri rk b e1 e2=>hH3.zP.dis _ _ _ _ b (tF i ri e1) (tF k rk e2),λi r b e1=>hH3.zP.own _ _ b (tF i r e1)⟩
 have hys2:RepVs M ρ2 caps ys:=by
  have h3:=hH3.slots tm _ (show sg sl tm=_ from hg);simp only[RepS,RepV]at h3;obtain⟨xs',ys',hv',_,h3⟩:=h3;have:a1.tmps.getD tm undef= .func (.func g) #[] ys.toArray:=hval;rw[this]at hv';simp only[Value.func.injEq,Ub]at hv'
  have:ys=ys':=by
   have:=uX Array.toList hv'.2;simpa using this
  rw[this];exact h3
 have hcall:=hIt.2 (D+1) rec0 rfl rfl rfl (by exact hH.sz) rfl rfl M ρ2 wB ys hys2 (λk s hk=>hH3.slots k s (hsl k s hk)) hTF hH3.run.imm hH3.gok;refine⟨D+1,[mk],wB,⟨.fn (.func g) ys.toArray,#[.func (.yield (D+1)) #[] #[]]⟩,wB,g,(Value.func (.yield (D+1)) #[] #[]::ys).toArray,wB,henter,hres,λ_ _=>trivial,hinv,λ_=>uF _,callsIn_wide.2 (hcall.mono λe w3 he=>?_)⟩;obtain⟨v,M3,ρ3,rfl,hret⟩:=he;have hids2:RF'.ids=RF.ids:=by simp only[RF,RF',RL.ids,hids]
 have hnew:yc RF RF'=[]:=zdm (λi J=>by rw[hids2]at J;exact J);have hret':Ret M (λi=>ρ2 (id i)) wB RF .un RF' v M3 ρ3 w3:=hret
 obtain⟨ρ4,h4⟩:=hH3.called (d:=none) hret' okT0 (by rw[hnew];rfl) (wq _) (by rw[hnew];trivial) rfl (by
  rw[hids2];have:RF.ids=91::90::R.ids:=rfl;rw[this];simp only[RF',x9,uo]at hclo⊢
  exact⟨hclo.1,rfl,hclo.2⟩) rfl
 have e':RL.ren id RF'=RF':=by
  show(91,bx.ren id)::(90,.raw (D+1) (.loop rec0))::RL.ren id R'=_;rw[hbx,hren']
 rw[e']at h4
 -- what the table holds now
 have tk: ∀i r,i≠90->tg (tb ((j,.raw D (.deferred (some [])))::(R'++Rx))) i=some r->tg ((tb RF'++xy (RF.ids.map id))++tab2) i=some r:=λi r i90 J=>by
  simp only[tb,zC]at J;by_cases ij:j=i
  ·rw[uv ij]at J;subst ij
   have hnot:hasB j (keysT (tb RF'++xy (RF.ids.map id)))=false:=by
    cases e:hasB j (keysT (tb RF'++xy (RF.ids.map id)))with
    |false=>rfl
    |true=>
     have hm:=yh e;have hk: ∀ {x:Nat},x∈keysT (tb RF'++xy (RF.ids.map id))->x∈RF.ids:=λ{x} hx=>keys_in (hids2 ▸ rfl) hx
     have hm:=hk hm;simp only[RF,RL.ids,uI]at hm;rcases hm with h|h|h
     ·exact absurd h hj.2
     ·exact absurd h hj.1
     ·exact absurd h hjR
   rw[y2 hnot];simp only[tab2,zC];rw[uu (λe=>i90 e.symm)];simp[J]
  ·rw[uu ij,tg_tb_app]at J;cases hR:tg (tb R') i with
   |some r'=>
    rw[hR]at J;simp only[ui]at J;subst J;have hm:i∈R'.ids:=zR (zQ hR)
    have e2:tg (tb RF') i=some r':=by
     simp only[RF',tb,zC];rw[uu (by rintro rfl;exact h91 (hids ▸ hm)),uu (λe=>i90 e.symm),hR]
    rw[tq];exact tg_some_app e2
   |none=>
    rw[hR]at J;simp only at J;have hm:i∈Rx.ids:=zR (zQ J)
    have hnot:hasB i (keysT (tb RF'++xy (RF.ids.map id)))=false:=by
     cases e:hasB i (keysT (tb RF'++xy (RF.ids.map id)))with
     |false=>rfl
     |true=>
      have hm2:i∈RF.ids:=keys_in (hids2 ▸ rfl) (yh e);simp only[RF,RL.ids,uI]at hm2;rcases hm2 with h|h|h
      ·subst h;exact absurd hm h91x
      ·subst h;exact absurd hm h90x
      ·exact absurd h (hx i hm)
    rw[y2 hnot];simp only[tab2,tb,zC];rw[uu (λe=>i90 e.symm),uu ij,uu (by rintro rfl;exact h91x hm),tg_tb_app];cases hR0:tg (tb R) i with
    |some r0=>exact absurd (zR (zQ hR0)) (hx i hm)
    |none=>exact J
 have t90:tg ((tb RF'++xy (RF.ids.map id))++tab2) 90=some (.raw (D+1) (.loop rec0)):=by
  rw[tq];exact tg_some_app (by simp only[RF',tb,zC];rfl)
 have hl:w3.heap[D+1]?=some (.loop rec0):=(h4.zP.res 90 _ t90).2;have h5:=h4.zea (.loop { rec0 with state:= .exhausted }) t90;refine⟨none,_,run_endLoop hl (by simp[rec0]),?_⟩;refine hQ D M3 ρ4 _ (h5.drop rfl (λk s e=>e) λi r J=>?_);by_cases i90:i=90
 ·subst i90;exfalso;have hm:90∈RL.ids ((j,Res.raw D (.deferred (some [])))::(R'++Rx)):=zR (zQ J)
  have hap: ∀ {A B:RL} {x:Nat},x∈RL.ids (A++B)->x∈A.ids\/x∈B.ids:=λ{A B x}=>by
   induction A with
   |nil=>exact λh=> .inr h
   |cons y ys ih=>
    obtain⟨k,s⟩:=y;intro h;simp only[uN,RL.ids,uI]at h⊢;rcases h with h|h
    ·exact .inl (.inl h)
    ·exact(ih h).imp .inr id
  simp only[RL.ids,uI]at hm;rcases hm with h|h
  ·exact hj.1 h.symm
  ·rcases hap h with h|h
   ·rw[hids]at h;exact h90 h
   ·exact h90x h
 ·show tg ((90,_)::_) i=some r;rw[zC,uu (λe=>i90 e.symm)];exact tk i r i90 J
where
 tg_some_app {A B:Tab} {i:Nat} {r:Res} (h:tg A i=some r):tg (A++B) i=some r:=by
  induction A with
  |nil=>cases h
  |cons x xs ih=>
   obtain⟨k,s⟩:=x;simp only[uN,zC]at h⊢;split
   ·rename_i e;rw[uv e]at h;exact h
   ·rename_i e;rw[uu e]at h;exact ih h
 keys_in {A B:RL} (h:A.ids=B.ids) {x:Nat} (hx:x∈keysT (tb A++xy (B.ids.map id))):x∈B.ids:=by
  have k1: ∀ {U V:Tab},x∈keysT (U++V)->x∈keysT U\/x∈keysT V:=λ{U V}=>by
   induction U with
   |nil=>exact λh=> .inr h
   |cons y ys ih=>
    obtain⟨k,s⟩:=y;intro h;simp only[uN,keysT,uI]at h⊢;rcases h with h|h
    ·exact .inl (.inl h)
    ·exact(ih h).imp .inr id
  have k2: ∀ {U:RL},x∈keysT (tb U)->x∈U.ids:=λ{U}=>by
   induction U with
   |nil=>intro h;cases h
   |cons y ys ih=>
    obtain⟨k,s⟩:=y;intro h;simp only[tb,keysT,RL.ids,uI]at h⊢;exact h.imp id ih
  have k3: ∀ {l:List Nat},x∈keysT (xy l)->x∈l:=λ{l}=>by
   induction l with
   |nil=>intro h;cases h
   |cons y ys ih=>
    intro h;simp only[xy,keysT,uI]at h⊢;exact h.imp id ih
  rcases k1 hx with h1|h1
  ·rw[<-h];exact k2 h1
  ·have:=k3 h1;simpa using this
def flatC:Code->List Code
 | .seq a b=>flatC a++flatC b
 |c=>[c]
def wpL(P:Program):List Code->(Exit->Act->World->Prop)->Act->World->Prop
 | [],Q=>λa w=>Q .normal a w
 |c::cs,Q=>c.wp P (Exit.then (wpL P cs Q) Q)
theorem zlU{K2:Act->World->Prop}:Exit.then K (Exit.then K2 Q)=Exit.then K Q:=by
 funext e a w;cases e<;>rfl
theorem zgY{P:Program}{m:List Code}{Q:Exit->Act->World->Prop}: ∀ {l:List Code},wpL P (l++m) Q=wpL P l (Exit.then (wpL P m Q) Q)
 | []=>rfl
 |c::cs=>by
  simp only[uN,wpL,zlU];rw[zgY (l:=cs)]
theorem zrZ: ∀ {c:Code} {Q:Exit->Act->World->Prop} {a:Act} {w:World},wpL P (flatC c) Q a w->c.wp P Q a w:=by
 have one: ∀ {c:Code} {Q:Exit->Act->World->Prop} {a:Act} {w:World},wpL P [c] Q a w->c.wp P Q a w:=λh=>wp_mono h λe a w J=>by cases e<;>exact J
 intro c
 induction c with
 |seq a b iha ihb=>
  intro Q x w h;simp only[flatC,zgY]at h;refine wp_seq (wp_mono (iha h) λe a' w' J=>?_);cases e with
  |normal=>exact ihb J
  |_=>exact J
 |_=>intro Q a w h;exact one h
theorem zgZ{P:Program}{C:Ctx}{Q:Exit->St->Prop}{W:Exit->Act->World->Prop}(U: ∀e a w,lift C Q e a w->W e a w): ∀ {l:List Code} {c:Code} {st:St} {M:Mem} {ρ:Nat->Value} {a:Act} {w:World},
 Tri P C c st (unw P C (l.map Frm.seq) Q)->Holds C st M ρ a w->wpL P (c::l) W a w
 | [],c,st,M,ρ,a,w,h,hH=>wp_mono (h M ρ a w hH) λe a' w' hl=>by
   cases e with
   |normal=>exact U _ a' w' hl
   |_=>exact U _ a' w' hl
 |b::l,c,st,M,ρ,a,w,h,hH=>wp_mono (h M ρ a w hH) λe a' w' hl=>by
  obtain⟨st',M',ρ',hq,J⟩:=hl;cases e with
  |normal=>exact zgZ U (l:=l) hq J
  |_=>exact U _ a' w' ⟨st',M',ρ',zh9 (l:=b::l) ue hq,J⟩
def rgA(n:Nat)(sl:zf)(R0 R:RL):Exit->St->Prop:=λe st=>e= .normal/\st.n=n/\ ∃σ:Nat->Nat,mS σ st sl/\mR σ st.tab R/\injB σ R.ids=true/\allB (λi=>Nat.beq (σ i) i) R0.ids=true
def mvL(l:List (Nat×Nat))(i:Nat):Nat:=match l.lookup i with
 |some j=>j
 |none=>i
variable {σ:Nat->Nat}
theorem Holds.named{R0:RL}(h0:C.tab0=tb R0)(h:Holds C st M ρ a w){n:Nat}{sl:zf}(hn:st.n=n)(hs:mS σ st sl)(ht:mR σ st.tab R)(hi:injB σ R.ids=true)
 (hf:allB (λi=>Nat.beq (σ i) i) R0.ids=true):Holds C ⟨n,sl,tb R⟩ M (λi=>ρ (σ i)) a w:=by
 have tk: ∀i r,tg (tb R) i=some r->tg st.tab (σ i)=some (r.ren σ):=λi r h=>zdc ht (zQ h)
 have ti: ∀i r,tg (tb R) i=some r->i∈R.ids:=λi r h=>zR (zQ h)
 refine⟨h.dfr,by rw[<-hn];exact h.sz,λk s hk=>(RepS.ren s _).1 (h.slots k _ (zfu hs (zbh hk))),⟨λi r U=>(h.zP.res _ _ (tk i r U)).ren,?_,?_⟩,?_,h.run,?_⟩
 ·intro i j ri rj b J h2 hne hb1 hb2;exact h.zP.dis _ _ _ _ b (tk i ri J) (tk j rj h2) (yK hi i j (ti i ri J) (ti j rj h2) hne) hb1 hb2
 ·intro i r b J hb;exact h.zP.own _ _ b (tk i r J) hb
 ·intro i r b J hb;exact h.ownf _ _ b (tk i r J) hb
 ·intro i r U;have hm:i∈R0.ids:=zR (zQ (by rw[<-h0];exact U));have e:=uH (zM hf i hm);show ρ (σ i)=_;rw[e];exact h.keep i r U
section
variable (T:Ty P) (fn:Func) (rv:List ResultVar) (R:RL) (res:S) (R':RL)
def zwJ(C:Ctx):Exit->Act->World->Prop:=λe a w=>(e= .ret\/e= .normal)/\ ∃(ds:List (Nat×Nat)) (st:St) (M:Mem) (ρ:Nat->Value),Holds { C with df:=marks ds } st M ρ a w/\zeL T rv (R++vR ds) res (R'++vR ds) e st/\uniq (vR ds).ids=true/\allB (λi=> !hasB i (vR ds).ids) (R'.ids)=true
def zu9(l:List Code)(sl:zf)(R1:RL)(ds:List (Nat×Nat)):Prop:= ∀C:Ctx,C.low->C.tab0=tb R-> ∀M ρ a w,Holds { C with df:=marks ds } ⟨fn.ntmps,sl,tb (R1++vR ds)⟩ M ρ a w->wpL P l (zwJ T rv R res R' C) a w
end
theorem zcx{A B:RL}{x:Nat}:x∈RL.ids (A++B)↔x∈A.ids\/x∈B.ids:=by
 induction A with
 |nil=>simp[RL.ids]
 |cons y ys ih=>
  obtain⟨k,s⟩:=y;simp only[uN,RL.ids,uI,ih,or_assoc]
theorem zqw{A B:RL}(h:mR σ tab (A++B)):mR σ tab A/\mR σ tab B:=by
 induction A with
 |nil=>exact⟨uh,h⟩
 |cons y ys ih=>
  obtain⟨k,s⟩:=y;exact⟨⟨h.1,(ih h.2).1⟩,(ih h.2).2⟩
theorem zoR{A B:RL}(h:injB σ (RL.ids (A++B))=true):injB σ A.ids=true:=by
 induction A with
 |nil=>rfl
 |cons y ys ih=>
  obtain⟨k,s⟩:=y;simp only[uN,RL.ids,injB,uo,List.all_eq_true]at h⊢;exact⟨λj J=>h.1 j (zcx.2 (.inl J)),ih h.2⟩
theorem zoS{p:Nat->Bool}{A B:RL}(h:allB p (RL.ids (A++B))=true):allB p A.ids=true/\allB p B.ids=true:=by
 induction A with
 |nil=>exact⟨rfl,h⟩
 |cons y ys ih=>
  obtain⟨k,s⟩:=y;simp only[uN,RL.ids,allB,uo]at h⊢;exact⟨⟨h.1,(ih h.2).1⟩,(ih h.2).2⟩
variable {cs:List Code}{ds:List (Nat×Nat)}
section
variable (T:Ty P) {rv:List ResultVar} {res:S}
theorem zlV{sl:zf}{R1:RL}(hu:uniq (vR ds).ids=true)(J:allB (λi=> !hasB i (vR ds).ids) R'.ids=true)
 (h: ∀C:Ctx,C.low->Goal P C (.code c) (cs.map Frm.seq) fn.ntmps sl (tb (R1++vR ds)) (zeL T rv (R++vR ds) res (R'++vR ds))):zu9 T fn rv R res R' (c::cs) sl R1 ds:=by
 intro C hC h0 M ρ a w hH;refine zgZ (C:={ C with df:=marks ds }) (Q:=zeL T rv (R++vR ds) res (R'++vR ds)) (λe a' w' hl=>?_) (h { C with df:=marks ds } hC) hH;obtain⟨st,M',ρ',hq,U⟩:=hl;exact⟨hq.1,ds,st,M',ρ',U,hq,hu,J⟩
def zui(l:List Nat)(R:RL):Bool:=allB (λi=> !hasB i l) R.ids
theorem y5{l:List Nat}(h:zui l R=true)(J:i∈l):i∉R.ids:=λU=>by
 have:=zM h i U;rw[zcw J]at this;cases this
theorem zlW{l:List Code}{m:Nat}{c0:Code}{bid tm p0 p1 j:Nat}{asg body:Code}{cB:List Code}{sl sl1:zf}{R1 R2 R2' Rx:RL}{bx:Res}
 (hc:l.splitAt m=(c0::cs,.block bid (.rangeFunc (.tmp tm) #[p0,p1] asg body)::cB))
 (hA: ∀C:Ctx,C.low->Goal P C (.code c0) (cs.map Frm.seq) fn.ntmps sl (tb (R1++vR ds)) (rgA fn.ntmps sl1 R ((91,bx)::(R2++(Rx++vR ds)))))
 (hIt:zdn P g caps asg body p0 p1 fn.ntmps slr bx R2 R2') (hg:sg sl1 tm=some (.one (.cl g [] caps))) (hsl: ∀k s,sg slr k=some s->sg sl1 k=some s)
 (hids:R2'.ids=R2.ids) (U:zui [90,91,j] R2=true) (hRx:zui [90,91,j] (Rx++vR ds)=true) (hRR:zui R2.ids (Rx++vR ds)=true) (hR:zui [90,j] R=true) (hj:(Nat.beq j 90||Nat.beq j 91)=false) (hu:uniq R2.ids=true)
 (hfj:freshB j ⟨fn.ntmps,sl1,tb ((91,bx)::(R2++(Rx++vR ds)))⟩=true) (hf90:freshB 90 ⟨fn.ntmps,sl1,tb ((91,bx)::(R2++(Rx++vR ds)))⟩=true)
 (hbx:bx.ren id=bx) (hren:R2.ren id=R2) (hren':R2'.ren id=R2') (hclo:x9 ((91::90::R2.ids)++(91::90::R2.ids)) ((91,bx)::R2')=true)
 (hB: ∀D,zu9 T fn rv R res R' cB sl1 (R2'++Rx) ((j,D)::ds)):zu9 T fn rv R res R' l sl R1 ds:=by
 intro C hC h0 M ρ a w hH;have hj':j≠90/\j≠91:=⟨λe=>by subst e;simp at hj,λe=>by subst e;simp at hj⟩
 have hC0: ∀i,i∉R.ids->tg C.tab0 i=none:=λi J=>by
  rw[h0];cases e:tg (tb R) i with
  |none=>rfl
  |some r=>exact absurd (zR (zQ e)) J
 have hl:l=(c0::cs)++(.block bid (.rangeFunc (.tmp tm) #[p0,p1] asg body)::cB):=by
  have:=qo m l;rw[List.splitAt_eq]at hc;simp only[uB]at hc;rw[<-this,hc.1,hc.2]
 rw[hl,zgY];refine zgZ (C:={ C with df:=marks ds }) (Q:=rgA fn.ntmps sl1 R ((91,bx)::(R2++(Rx++vR ds)))) (λe a' w' hl=>?_) (hA { C with df:=marks ds } hC) hH;rcases Classical.em (e= .normal)with he|hne
 ·subst he;show wpL P _ _ a' w';simp only[wpL];obtain⟨st,M',ρ',⟨_,hn,σ,hs,ht,J,hf⟩,hH'⟩:=hl;have hH1:Holds { C with df:=marks ds } ⟨fn.ntmps,sl1,tb ((91,bx)::(R2++(Rx++vR ds)))⟩ M' (λi=>ρ' (σ i)) a' w':=Holds.named (C:={ C with df:=marks ds }) (R0:=R) h0 hH' hn hs ht J hf
  refine(wp_block (zvL hH1 hIt hg hsl hids (λi J hm=>y5 hRR hm J) (y5 U ue) (y5 hRx ue) (y5 U ue) (y5 hRx ue) (y5 U ue) (y5 hRx ue) hj'
   hu hfj hf90 (hC0 _ (y5 hR ue)) (hC0 _ (y5 hR ue)) hbx hren hren' hclo λD M2 ρ2 w2 hH2=>?_))
  refine hB D C hC h0 M2 ρ2 _ w2 (hH2.drop rfl (λ_ _ e=>e) λi r J=>?_);have J:tg (tb ((R2'++Rx)++((j,Res.raw D (.deferred (some [])))::vR ds))) i=some r:=J;show tg (tb ((j,Res.raw D (.deferred (some [])))::(R2'++(Rx++vR ds)))) i=some r;rw[<-tq];simp only[tb,zC];rw[tg_tb_app]at J⊢;by_cases ij:j=i
  ·subst ij
   have:tg (tb (R2'++Rx)) j=none:=by
    cases e:tg (tb (R2'++Rx)) j with
    |none=>rfl
    |some r=>
     rcases zcx.1 (zR (zQ e))with h|h
     ·rw[hids]at h;exact absurd h (y5 U ue)
     ·exact absurd (zcx.2 (.inl h)) (y5 hRx (by simp:j∈[90,91,j]))
   rw[this]at J;simp only[tb,zC,uZ]at J⊢;exact J
  ·rw[uu ij];cases e:tg (tb (R2'++Rx)) i with
   |some r0=>rw[e]at J;exact J
   |none=>
    rw[e]at J;simp only[tb,zC,uu ij]at J;exact J
 ·obtain⟨st,M',ρ',hq,_⟩:=hl;exact absurd hq.1 hne
theorem zaH{n:Nat}{Rr:Ending->World->Prop}{C:Ctx}{M:Mem}{ρ:Nat->Value}{a:Act}: ∀(ds:List (Nat×Nat)) {st:St} {w:World},Holds C st M ρ a w->okT (vR ds) st->uniq (vR ds).ids=true->
 (∀(st':St) (w':World),st'.n=st.n->st'.sl=st.sl->(∀i,i∉(vR ds).ids->tg st'.tab i=tg st.tab i)->Holds C st' M ρ a w'-> ∃v,(results fn a.tmps).run P w'= .ok v w'/\Rr (.returned v) w')->
 LeavesInM Fence.wide n P fn a.tmps Rr (marks ds) .returning w
 | [],st,w,hH,_,_,h=>h st w rfl rfl (λ_ _=>rfl) hH
 |(j,D)::ds,st,w,hH,ht,hu,h=>by
  have ht1:tg st.tab j=some (.raw D (.deferred (some []))):=ht.1
  have U:hasB j (vR ds).ids=false/\uniq (vR ds).ids=true:=by
   have:uniq (j::(vR ds).ids)=true:=hu;simpa only[uniq,uo,ux]using this
  have hl:w.heap[D]?=some (.deferred (some [])):=(hH.zP.res j _ ht1).2;have h1:=hH.zea (.deferred none) ht1;have hnj: ∀i,i∈(vR ds).ids->j≠i:=λi J e=>by subst e;rw[zcw J]at U;cases U.1
  refine⟨ue,.inl ⟨D,_,rfl,run_takeDeferred hl,zaH ds h1 ?_ U.2 λst' w' e1 e2 e3 hH'=>h st' w' e1 e2 (λi J=>?_) hH'⟩⟩
  ·have: ∀l:RL,(∀i∈l.ids,j≠i)->okT l st->okT l ⟨st.n,st.sl,(j,some (.raw D (.deferred none)))::st.tab⟩:=λl=>by
    induction l with
    |nil=>exact λ_ _=>trivial
    |cons x xs ih=>
     obtain⟨k,s⟩:=x;intro h1 h2;refine⟨?_,ih (λi J=>h1 i (by simp[RL.ids,J])) h2.2⟩;show tg ((j,_)::st.tab) k=_;rw[zC,uu (h1 k (by simp[RL.ids]))];exact h2.1
   exact this _ hnj ht.2
  ·have J: ¬i∈j::(vR ds).ids:=J;simp only[uI,Uz]at J;rw[e3 i J.2];show tg ((j,_)::st.tab) i=_;rw[zC,uu (λe=>J.1 e.symm)]
theorem zis{st st':St}(J:st'.sl=st.sl)(hb: ∀i vs,tg st.tab i=some (.box vs)->tg st'.tab i=some (.box vs)): ∀ {rv:List ResultVar} {ss:List S},rvsOf T st rv=some ss->rvsOf T st' rv=some ss
 | [],_,h=>h
 |r::rv,ss,h=>by
  have one: ∀ {s:S},rvOf T st r=some s->rvOf T st' r=some s:=λ{s} h=>by
   cases r with
   |tmp t=>simp only[rvOf,J]at h ⊢; exact h
   |cell a t=>
    simp only[rvOf,J]at h⊢;split at h
    ·rename_i id j e;split at h
     ·rename_i vs sh U e2;rw[hb id vs U,e2];exact h
     ·cases h
    ·cases h
  simp only[rvsOf]at h⊢;split at h
  ·rename_i s ss' U e2;rw[one U,zis J hb e2];exact h
  ·cases h
theorem zqx{f:FuncId}{args:List S}(hf:P.funcs[f]?=some fn)(hname:(fn.name== "runtime.NumGoroutine")=false)(hb:fn.body=some c)(hrv:fn.results=rv.toArray)
 (hlow:allB (λi=>Nat.blt i 80) R.ids=true) (hn:Nat.ble args.length fn.ntmps=true)
 (h:zu9 T fn rv R res R' (flatC c) (enum 0 args) R []):zh P f args R res R':=by
 refine⟨⟨fn,hf,hname,by rw[hb];rfl⟩,λM ρ w xs hx hT hI hG=>?_⟩
 have hlow':allB (λi=>Nat.blt i 100) R.ids=true:=by
  have: ∀l:List Nat,allB (λi=>Nat.blt i 80) l=true->allB (λi=>Nat.blt i 100) l=true:=λl=>by
   induction l with
   |nil=>exact λ_=>rfl
   |cons x xs ih=>
    intro h;simp only[allB,uo,tG]at h⊢;exact⟨ua,ih h.2⟩
  exact this _ hlow
 obtain⟨C,hC,e1,e2,e3,e4,e5,U⟩:=vN hlow' hn hx hT hI hG;refine(callsIn_wide (n:=1)).1 (callsIn_of_wp_marks hf hb trivial ?_);refine(wpIn_wide (n:=1)).2 ?_
 have hH0:Holds { C with df:=marks [] } ⟨fn.ntmps,enum 0 args,tb (R++vR [])⟩ M ρ { tmps:=xs.toArray++Array.replicate (fn.ntmps - xs.toArray.size) undef,defers:=[] } w:=by
  have:R++vR []=R:=by simp[vR]
  rw[this];exact⟨rfl,U.sz,U.slots,U.zP,U.ownf,⟨U.run.imm,U.run.fram,U.run.size,U.run.base,U.run.newM,U.run.os,U.run.tape,U.run.output⟩,U.keep⟩
 refine wp_mono (zrZ (h C hC e4 M ρ _ w hH0)) λe a w2 ⟨he,ds,st,M2,ρ2,hH2,hq,hu,hdis⟩=>?_;have hd:a.defers=marks ds:=hH2.dfr;obtain⟨_,σ,ss,g1,g2,g3,g4,g5⟩:=hq;have g5':=zoS g5
 have hds:okT (vR ds) st:=by
  have: ∀l:List (Nat×Nat),mR σ st.tab (vR l)->allB (λi=>Nat.beq (σ i) i) (vR l).ids=true->okT (vR l) st:=λl=>by
   induction l with
   |nil=>exact λ_ _=>trivial
   |cons x xs ih=>
    intro h1 h2;simp only[vR,uQ,RL.ids,allB,uo]at h1 h2;refine⟨?_,ih h1.2 h2.2⟩;have:=h1.1;rw[uH h2.1]at this;exact this
  exact this ds (zqw g3).2 g5'.2
 have key:LeavesInM Fence.wide 1 P fn a.tmps (λe w'=> ∃v M' ρ',e= .returned v/\Ret M ρ w R res R' v M' ρ' w') a.defers .returning w2:=by
  rw[hd];refine zaH ds hH2 hds hu λst' w' k1 k2 k3 hH'=>?_
  obtain⟨v,hv,hrep⟩:=wX T hrv hH' (zis T k2 (λi vs e=>by
   rw[k3 i λhm=>?_]
   ·exact e
   ·obtain⟨r,hr⟩:=jU hm;have h1:=xm hds (zQ hr)
    have h2: ∃D,r= .raw D (.deferred (some [])):=by
     have hm:=zQ hr;simp only[vR,tS,uB]at hm;obtain⟨x,_,_,e⟩:=hm;exact⟨_,e.symm⟩
    obtain⟨D,rfl⟩:=h2
    rw[h1]at e;cases e) g1)
  have g3':mR σ st'.tab R':=by
   have: ∀l:RL,(∀i∈l.ids,i∈R'.ids)->mR σ st.tab l->mR σ st'.tab l:=λl=>by
    induction l with
    |nil=>exact λ_ _=>trivial
    |cons x xs ih=>
     obtain⟨i,r⟩:=x;intro hl h;refine⟨?_,ih (λi hi=>hl i (by simp[RL.ids,hi])) h.2⟩;rw[k3 _ ?_]
     ·exact h.1
     ·intro hm;have hi:i∈R'.ids:=hl i (by simp[RL.ids])
      have hne:i≠σ i:=λe=>by
       have:=zM hdis i hi;rw[<-e]at hm;rw[zcw hm]at this;cases this
      have hfix:=uH (zM g5'.2 _ hm);exact yK g4 i (σ i) (zcx.2 (.inl hi)) (zcx.2 (.inr hm)) hne hfix.symm
   exact this _ (λ_ h=>h) (zqw g3).1
  have J:=zh8 (C:={ C with df:=marks ds }) e4 hH' (σ:=σ) (g2 _ _ _ hrep) g3' (zoR g4) g5'.1;have J:Ret C.M0 C.ρ0 C.w0 R res R' v M2 (λi=>ρ2 (σ i)) w':=J;rw[e1,e2,e3]at J;exact⟨v,hv,v,M2,_,rfl,J⟩
 rcases he with rfl|rfl
 ·exact key
 ·exact key
end
section
variable {k:List Frm} {n:Nat} {sl:zf} {Q:Exit->St->Prop}
theorem zlX(T:Ty P)(hC:C.low){x y:Operand}{t:TypeId}{ty:TypeId}{e:Nat}{rows:List (List PV)}{k0:IntKind}{i:Int}{row:List PV}{el:TypeId}
 (hx:ev sl x=some (.one (.p (.sl e rows)))) (hy:ev sl y=some (Kk k0 i)) (he:T.es t=some (el,e)) (h0:0<=i) (hi:rows[i.toNat]?=some row) (hd:Nat.blt d n=true)
 (g:zcS P C all rest ⟨n,(d,.one (.pi row 0))::sl,tab⟩ Q):zcS P C all (⟨some d,.indexAddr t x y,ty,ps,af,none⟩::rest) ⟨n,sl,tab⟩ Q:=by
 have J:=zB (st:=⟨n,sl,tab⟩) hx;have U:=zB (st:=⟨n,sl,tab⟩) hy;exact zqv (L:=⟨some d,rq x (.one (.p (.sl e rows)))++rq y (Kk k0 i),[],[],.one (.pi row 0),[]⟩) hC (xc.plain rfl (zdo J.1 U.1 (T.es_ok _ _ he) h0 hi)) rfl ⟨by rw[za];exact⟨J.2,U.2⟩,trivial,rfl,hd⟩ g
theorem zg0{K:Type}[DecidableEq K]{kt:TypeId}(κ:zd4 P kt K){x y u:Operand}{t et ty:TypeId}{id:Nat}{l l':List (K×EV)}{k0:K}{pv:EV}
 (w:Wk P all n sl0 tab0 done (⟨none,.mapUpdate t x y u,ty,ps,af,none⟩::rest) sl tab)
 (hx:ev sl x=some (.one (.mp id))) (hy:ev sl y=some (κ.s k0)) (hw:ev sl u=some (evS pv)) (hT:tg tab id=some (.mpg (yt κ l))) (hu:P.underlying t=some (.map kt et)) (hv:putG l k0 pv=l'):
 Wk P all n sl0 tab0 (⟨none,rq x (.one (.mp id))++rq y (κ.s k0)++rq u (evS pv),[(id,.mpg (yt κ l))],[],.un,[(id,some (.mpg (yt κ l')))]⟩::done) rest sl ((id,some (.mpg (yt κ l')))::tab):=by
 subst hv;have J:=zB (st:=⟨n,sl,tab⟩) hx;have U:=zB (st:=⟨n,sl,tab⟩) hy;have e3:=zB (st:=⟨n,sl,tab⟩) hw
 exact zqu (L:=⟨none,rq x (.one (.mp id))++rq y (κ.s k0)++rq u (evS pv),[(id,.mpg (yt κ l))],[],.un,[(id,some (.mpg (yt κ (putG l k0 pv))))]⟩) (xc.plain rfl (zbi J.1 U.1 e3.1 hu)) rfl
  ⟨by rw[za,za];exact⟨⟨J.2,U.2⟩,e3.2⟩,⟨hT,uh⟩,rfl,rfl⟩ w
end
theorem zr0{σ:Nat->Nat}{st:St}: ∀ {t:Tab},(∀i r,(i,some r)∈t->tg st.tab (σ i)=some (r.ren σ))->mT σ st t
 | [],_=>trivial
 |(i,none)::t,h=>zr0 (t:=t) λi r J=>h i r (uP _ J)
 |(i,some r)::t,h=>⟨h i r ue,zr0 (t:=t) λi r J=>h i r (uP _ J)⟩
variable {r:Res}
theorem zr1(h:(i,some r)∈tb R):(i,r)∈R:=by
 induction R with
 |nil=>cases h
 |cons x xs ih=>
  obtain⟨j,s⟩:=x;rcases uI.1 h with h|h
  ·simp only[uB,ui]at h;simp[h.1,h.2]
  ·exact uP _ (ih h)
theorem zqy(h:R.ren id=R)(J:(i,r)∈R):r.ren id=r:=by
 induction R with
 |nil=>cases J
 |cons x xs ih=>
  obtain⟨j,s⟩:=x;simp only[RL.ren,q8,uB]at h;rcases uI.1 J with e|J
  ·simp only[uB]at e;rw[e.2];exact h.1.2
  ·exact ih h.2 J
theorem za3{n:Nat}{sl:zf}(U:uniq R.ids=true)(hr:R.ren id=R):mT id ⟨n,sl,tb R⟩ (tb R):=
 zr0 λi r J=>by
  have J:=zr1 J;rw[zqy hr J];exact vA U J
theorem zg1(U:uniq R.ids=true)(hr:R.ren id=R):mR id (tb R) R:=by
 have: ∀l:RL,(∀i r,(i,r)∈l->tg (tb R) i=some (r.ren id))->mR id (tb R) l:=λl=>by
  induction l with
  |nil=>exact λ_=>trivial
  |cons x xs ih=>
   obtain⟨j,s⟩:=x;exact λh=>⟨h j s ue,ih λi r J=>h i r (uP _ J)⟩
 exact this R λi r J=>by rw[zqy hr J];exact vA U J
end Hw
namespace Hw.Gm
open Go Go.Proofs Hw.M Ps
theorem zg2{s:S}:LeS s .un:=λ_ _ _ _=>by simp only[RepS]
theorem zaI: ∀l:List Nat,allB (λi=>Nat.beq (id i) i) l=true
 | []=>rfl
 |i::l=>by
  have h:=zaI l;simp only[allB,h,qk];exact Nat.beq_refl i
variable {slr:zf}
theorem zoT{ts:List yn}{asg body:Code}{p0 p1 n:Nat}{ids:List Nat}(Rf:Nat->RL)(hp0:p0<n)(hp1:p1<n)(hp:p0≠p1)(J: ∀i,(Rf i).ids=ids)
 (hcl: ∀k s,(k,s)∈slr->cloS ids s=true) (hlow:allB (λi=>Nat.blt i 90) ids=true) (hu:uniq ids=true) (U: ∀i,(Rf i).ren id=Rf i) (hclo: ∀i,x9 ((90::ids)++(90::ids)) (Rf i)=true)
 (hl:ts.length<=1099511627776)
 (hrd: ∀(i:Nat) (t:yn),ts[i]?=some t->zuh Tryz.prog n asg body ((p1,zF (zS t))::(p0,I i)::slr) (Rf (i+1)) (Rf i)):
 zdn Tryz.prog 159 [.bx 91 0] asg body p0 p1 n slr (.box [.p (.sl 2 (ts.map zS))]) (Rf ts.length) (Rf 0):=by
 have hm: ∀x,x∈ids->x<90:=λx hx=>by simpa [tG]using zM hlow x hx
 have h91: ∀i,91∉(Rf i).ids:=λi h=>by rw[J]at h;have:=hm _ h;omega
 have h90: ∀i,90∉(Rf i).ids:=λi h=>by rw[J]at h;have:=hm _ h;omega
 refine zrY T (Tryz.func159) ud rfl rfl (by rw[J];exact hlow) rfl (by rw[J];exact hcl) λlp rec r1 r2 r3 r4 r5 r6 C hC hgh=>?_;subst r5;subst r6
 have huF: ∀i,uniq (RL.ids ((91,Res.box [.p (.sl 2 (ts.map zS))])::(90,.raw lp (.loop rec))::Rf i))=true:=λi=>by
  simp only[RL.ids,uniq,uo,ux];refine⟨?_,?_,by rw[J];exact hu⟩
  ·cases e:hasB 91 (90::(Rf i).ids)with
   |false=>rfl
   |true=>rcases uI.1 (yh e)with h|h
          ·omega
          ·exact absurd h (h91 i)
  ·cases e:hasB 90 (Rf i).ids with
   |false=>rfl
   |true=>exact absurd (yh e) (h90 i)
 have hrF: ∀i,RL.ren id ((91,Res.box [.p (.sl 2 (ts.map zS))])::(90,.raw lp (.loop rec))::Rf i)=(91,Res.box [.p (.sl 2 (ts.map zS))])::(90,.raw lp (.loop rec))::Rf i:=λi=>by
  show(91,_)::(90,_)::RL.ren id (Rf i)=_;rw[U];rfl
 repeat' first|refine gG ?_|refine gB ?_ ?_<;>intro h
 rw[uk,wrap64 ua]
 refine zn (λj:Nat=>j<=ts.length) (λj=>([(0,.one (.p (.k (.func (.yield lp) #[] #[])))),(1,.one (.bx 91 0)),(3,I ((j:Int) - 1))],tb ((91,Res.box [.p (.sl 2 (ts.map zS))])::(90,.raw lp (.loop rec))::Rf j))) (λj=>j) hC
  ts.length (uF _) id ⟨rfl,⟨rfl,rfl,rfl,uh⟩,za3 (huF _) (hrF _),wq _,λ_ _=>rfl⟩ ?_
 intro j hj;refine zq T hC true 200 rfl ?_;refine zt rfl ?_ ?_<;>intro h
 ·have hge:(0:Int)<=(j:Int) - 1:=uj h;clear h;obtain⟨i,rfl⟩: ∃i,j=i+1:=⟨j - 1,ua⟩;obtain⟨t,ht⟩:=zd (show i<ts.length by omega);have e1:((i+1:Nat):Int) - 1=(i:Int):=by omega
  rw[e1];refine znJ T hC true 4 rfl rfl ?_;refine zrX ?_;refine yS T hC rfl ?_;refine yS T hC rfl ?_;refine yS T hC rfl ?_;refine yS T hC rfl ?_;refine zlX T hC (rows:=ts.map zS) rfl rfl rfl (uE _) (zl ht) rfl ?_;refine yS T hC rfl ?_;refine zeb (R:=Rf (i+1)) (R':=Rf i) hC (hrd i t ht) r1 r2 r3 r4 hp0 hp1 hp (λM ρ a w hH=>hgh _ M ρ a w hH) rfl rfl rfl (by rw[J,J]) (h91 _) (h90 _) (by rw[J];exact hu) (U _) (U _) (by rw[J];exact hclo i) rfl ?_;refine yS T hC rfl ?_;refine zlS ?_
  repeat' first|refine gG ?_|refine gB ?_ ?_<;>intro h
  rw[wrap64 ua];exact zg i ua id ua ⟨rfl,⟨rfl,rfl,rfl,uh⟩,za3 (huF i) (hrF i),wq _,λ_ _=>rfl⟩
 ·have hge: ¬(0:Int)<=(j:Int) - 1:=um h;have:j=0:=by omega
  subst this
  repeat' first|refine gG ?_|refine gB ?_ ?_<;>intro h|refine ze ?_
  exact zi ⟨.inr rfl,id,_,rfl,zg2,zg1 (huF _) (hrF _),wq _,zaI _⟩
theorem zoU{ts:List Pr}{asg body:Code}{p0 p1 n:Nat}{ids:List Nat}(Rf:Nat->RL)(hp0:p0<n)(hp1:p1<n)(hp:p0≠p1)(J: ∀i,(Rf i).ids=ids)
 (hcl: ∀k s,(k,s)∈slr->cloS ids s=true) (hlow:allB (λi=>Nat.blt i 90) ids=true) (hu:uniq ids=true) (U: ∀i,(Rf i).ren id=Rf i) (hclo: ∀i,x9 ((90::ids)++(90::ids)) (Rf i)=true)
 (hl:ts.length<=1099511627776)
 (hrd: ∀(i:Nat) (t:Pr),ts[i]?=some t->zuh Tryz.prog n asg body ((p1,zF (zZ t))::(p0,I i)::slr) (Rf (i+1)) (Rf i)):
 zdn Tryz.prog 160 [.bx 91 0] asg body p0 p1 n slr (.box [.p (.sl 5 (ts.map zZ))]) (Rf ts.length) (Rf 0):=by
 have hm: ∀x,x∈ids->x<90:=λx hx=>by simpa [tG]using zM hlow x hx
 have h91: ∀i,91∉(Rf i).ids:=λi h=>by rw[J]at h;have:=hm _ h;omega
 have h90: ∀i,90∉(Rf i).ids:=λi h=>by rw[J]at h;have:=hm _ h;omega
 refine zrY T (Tryz.func160) ud rfl rfl (by rw[J];exact hlow) rfl (by rw[J];exact hcl) λlp rec r1 r2 r3 r4 r5 r6 C hC hgh=>?_;subst r5;subst r6
 have huF: ∀i,uniq (RL.ids ((91,Res.box [.p (.sl 5 (ts.map zZ))])::(90,.raw lp (.loop rec))::Rf i))=true:=λi=>by
  simp only[RL.ids,uniq,uo,ux];refine⟨?_,?_,by rw[J];exact hu⟩
  ·cases e:hasB 91 (90::(Rf i).ids)with
   |false=>rfl
   |true=>rcases uI.1 (yh e)with h|h
          ·omega
          ·exact absurd h (h91 i)
  ·cases e:hasB 90 (Rf i).ids with
   |false=>rfl
   |true=>exact absurd (yh e) (h90 i)
 have hrF: ∀i,RL.ren id ((91,Res.box [.p (.sl 5 (ts.map zZ))])::(90,.raw lp (.loop rec))::Rf i)=(91,Res.box [.p (.sl 5 (ts.map zZ))])::(90,.raw lp (.loop rec))::Rf i:=λi=>by
  show(91,_)::(90,_)::RL.ren id (Rf i)=_;rw[U];rfl
 repeat' first|refine gG ?_|refine gB ?_ ?_<;>intro h
 rw[uk,wrap64 ua]
 refine zn (λj:Nat=>j<=ts.length) (λj=>([(0,.one (.p (.k (.func (.yield lp) #[] #[])))),(1,.one (.bx 91 0)),(3,I ((j:Int) - 1))],tb ((91,Res.box [.p (.sl 5 (ts.map zZ))])::(90,.raw lp (.loop rec))::Rf j))) (λj=>j) hC
  ts.length (uF _) id ⟨rfl,⟨rfl,rfl,rfl,uh⟩,za3 (huF _) (hrF _),wq _,λ_ _=>rfl⟩ ?_
 intro j hj;refine zq T hC true 200 rfl ?_;refine zt rfl ?_ ?_<;>intro h
 ·have hge:(0:Int)<=(j:Int) - 1:=uj h;clear h;obtain⟨i,rfl⟩: ∃i,j=i+1:=⟨j - 1,ua⟩;obtain⟨t,ht⟩:=zd (show i<ts.length by omega);have e1:((i+1:Nat):Int) - 1=(i:Int):=by omega
  rw[e1];refine znJ T hC true 4 rfl rfl ?_;refine zrX ?_;refine yS T hC rfl ?_;refine yS T hC rfl ?_;refine yS T hC rfl ?_;refine yS T hC rfl ?_;refine zlX T hC (rows:=ts.map zZ) rfl rfl rfl (uE _) (zl ht) rfl ?_;refine yS T hC rfl ?_;refine zeb (R:=Rf (i+1)) (R':=Rf i) hC (hrd i t ht) r1 r2 r3 r4 hp0 hp1 hp (λM ρ a w hH=>hgh _ M ρ a w hH) rfl rfl rfl (by rw[J,J]) (h91 _) (h90 _) (by rw[J];exact hu) (U _) (U _) (by rw[J];exact hclo i) rfl ?_;refine yS T hC rfl ?_;refine zlS ?_
  repeat' first|refine gG ?_|refine gB ?_ ?_<;>intro h
  rw[wrap64 ua];exact zg i ua id ua ⟨rfl,⟨rfl,rfl,rfl,uh⟩,za3 (huF i) (hrF i),wq _,λ_ _=>rfl⟩
 ·have hge: ¬(0:Int)<=(j:Int) - 1:=um h;have:j=0:=by omega
  subst this
  repeat' first|refine gG ?_|refine gB ?_ ?_<;>intro h|refine ze ?_
  exact zi ⟨.inr rfl,id,_,rfl,zg2,zg1 (huF _) (hrF _),wq _,zaI _⟩
theorem zoV{ts:List Fld}{asg body:Code}{p0 p1 n:Nat}{ids:List Nat}(Rf:Nat->RL)(hp0:p0<n)(hp1:p1<n)(hp:p0≠p1)(J: ∀i,(Rf i).ids=ids)
 (hcl: ∀k s,(k,s)∈slr->cloS ids s=true) (hlow:allB (λi=>Nat.blt i 90) ids=true) (hu:uniq ids=true) (U: ∀i,(Rf i).ren id=Rf i) (hclo: ∀i,x9 ((90::ids)++(90::ids)) (Rf i)=true)
 (hl:ts.length<=1099511627776)
 (hrd: ∀(i:Nat) (t:Fld),ts[i]?=some t->zuh Tryz.prog n asg body ((p1,zF (zw t))::(p0,I i)::slr) (Rf (i+1)) (Rf i)):
 zdn Tryz.prog 261 [.bx 91 0] asg body p0 p1 n slr (.box [.p (.sl 2 (ts.map zw))]) (Rf ts.length) (Rf 0):=by
 have hm: ∀x,x∈ids->x<90:=λx hx=>by simpa [tG]using zM hlow x hx
 have h91: ∀i,91∉(Rf i).ids:=λi h=>by rw[J]at h;have:=hm _ h;omega
 have h90: ∀i,90∉(Rf i).ids:=λi h=>by rw[J]at h;have:=hm _ h;omega
 refine zrY T (Tryz.func261) ud rfl rfl (by rw[J];exact hlow) rfl (by rw[J];exact hcl) λlp rec r1 r2 r3 r4 r5 r6 C hC hgh=>?_;subst r5;subst r6
 have huF: ∀i,uniq (RL.ids ((91,Res.box [.p (.sl 2 (ts.map zw))])::(90,.raw lp (.loop rec))::Rf i))=true:=λi=>by
  simp only[RL.ids,uniq,uo,ux];refine⟨?_,?_,by rw[J];exact hu⟩
  ·cases e:hasB 91 (90::(Rf i).ids)with
   |false=>rfl
   |true=>rcases uI.1 (yh e)with h|h
          ·omega
          ·exact absurd h (h91 i)
  ·cases e:hasB 90 (Rf i).ids with
   |false=>rfl
   |true=>exact absurd (yh e) (h90 i)
 have hrF: ∀i,RL.ren id ((91,Res.box [.p (.sl 2 (ts.map zw))])::(90,.raw lp (.loop rec))::Rf i)=(91,Res.box [.p (.sl 2 (ts.map zw))])::(90,.raw lp (.loop rec))::Rf i:=λi=>by
  show(91,_)::(90,_)::RL.ren id (Rf i)=_;rw[U];rfl
 repeat' first|refine gG ?_|refine gB ?_ ?_<;>intro h
 rw[uk,wrap64 ua]
 refine zn (λj:Nat=>j<=ts.length) (λj=>([(0,.one (.p (.k (.func (.yield lp) #[] #[])))),(1,.one (.bx 91 0)),(3,I ((j:Int) - 1))],tb ((91,Res.box [.p (.sl 2 (ts.map zw))])::(90,.raw lp (.loop rec))::Rf j))) (λj=>j) hC
  ts.length (uF _) id ⟨rfl,⟨rfl,rfl,rfl,uh⟩,za3 (huF _) (hrF _),wq _,λ_ _=>rfl⟩ ?_
 intro j hj;refine zq T hC true 200 rfl ?_;refine zt rfl ?_ ?_<;>intro h
 ·have hge:(0:Int)<=(j:Int) - 1:=uj h;clear h;obtain⟨i,rfl⟩: ∃i,j=i+1:=⟨j - 1,ua⟩;obtain⟨t,ht⟩:=zd (show i<ts.length by omega);have e1:((i+1:Nat):Int) - 1=(i:Int):=by omega
  rw[e1];refine znJ T hC true 4 rfl rfl ?_;refine zrX ?_;refine yS T hC rfl ?_;refine yS T hC rfl ?_;refine yS T hC rfl ?_;refine yS T hC rfl ?_;refine zlX T hC (rows:=ts.map zw) rfl rfl rfl (uE _) (zl ht) rfl ?_;refine yS T hC rfl ?_;refine zeb (R:=Rf (i+1)) (R':=Rf i) hC (hrd i t ht) r1 r2 r3 r4 hp0 hp1 hp (λM ρ a w hH=>hgh _ M ρ a w hH) rfl rfl rfl (by rw[J,J]) (h91 _) (h90 _) (by rw[J];exact hu) (U _) (U _) (by rw[J];exact hclo i) rfl ?_;refine yS T hC rfl ?_;refine zlS ?_
  repeat' first|refine gG ?_|refine gB ?_ ?_<;>intro h
  rw[wrap64 ua];exact zg i ua id ua ⟨rfl,⟨rfl,rfl,rfl,uh⟩,za3 (huF i) (hrF i),wq _,λ_ _=>rfl⟩
 ·have hge: ¬(0:Int)<=(j:Int) - 1:=um h;have:j=0:=by omega
  subst this
  repeat' first|refine gG ?_|refine gB ?_ ?_<;>intro h|refine ze ?_
  exact zi ⟨.inr rfl,id,_,rfl,zg2,zg1 (huF _) (hrF _),wq _,zaI _⟩
noncomputable abbrev kS:zd4 Tryz.prog 9 ByteArray:=zwI ud
def bkM{α:Type}(key:α->Str)(val:α->EV):List α->List (Str×EV)
 | []=>[]
 |x::r=>putG (bkM key val r) (key x) (val x)
theorem zcy{α:Type}{key:α->Str}{val:α->EV}(s:Str): ∀l:List α,getG (bkM key val l) s=(l.find? λx=>decide (key x=s)).map val
 | []=>rfl
 |x::r=>by
  rw[bkM,zbG,qG];by_cases h:key x=s
  ·rw[uv h,uT h];rfl
  ·rw[uu h,uJ h];exact zcy s r
variable {α:Type}{key:α->Str}
theorem zec{val:α->EV}{l:List α}{i:Nat}{x:α}(h:l[i]?=some x):bkM key val (l.drop i)=putG (bkM key val (l.drop (i+1))) (key x) (val x):=by
 obtain⟨J,rfl⟩:=uw.1 h;rw[qm J];rfl
abbrev tyM(l:List yn):List (Str×EV):=bkM (·.n) (λt=> .g (zS t)) l
abbrev prM(l:List Pr):List (Str×EV):=bkM (·.n) (λp=> .g (zZ p)) l
noncomputable abbrev mpS(l:List (Str×EV)):Res:= .mpg (yt kS l)
noncomputable def ckR(d:zj)(a b c:Nat):RL:=[(a,.box ((zJ d).map V.p++[.mp b,.mp c])),(b,mpS (tyM d.types)),(c,mpS (prM d.procs))]
theorem zuj(l:List yn):zh Tryz.prog 118 [pS (.sl 2 (l.map zS))] [] (.one (.cl 159 [] [.bx 0 0])) [(0,.box [.p (.sl 2 (l.map zS))])]:=by
 refine gO T Tryz.func118 λC hC=>?_
 repeat' first|refine gG ?_|refine gB ?_ ?_<;>intro h|refine ze ?_
 exact gW [1001]
theorem zuk(l:List Pr):zh Tryz.prog 119 [pS (.sl 5 (l.map zZ))] [] (.one (.cl 160 [] [.bx 0 0])) [(0,.box [.p (.sl 5 (l.map zZ))])]:=by
 refine gO T Tryz.func119 λC hC=>?_
 repeat' first|refine gG ?_|refine gB ?_ ?_<;>intro h|refine ze ?_
 exact gW [1001]
theorem zul(l:List Fld):zh Tryz.prog 235 [pS (zx l)] [] (.one (.cl 261 [] [.bx 0 0])) [(0,.box [.p (zx l)])]:=by
 refine gO T Tryz.func235 λC hC=>?_
 repeat' first|refine gG ?_|refine gB ?_ ?_<;>intro h|refine ze ?_
 exact gW [1001]
noncomputable def ncR(d:zj)(l:List (Str×EV))(l2:List (Str×EV)):RL:=[(3,.box [.bx 12 0]),(12,.box ((zJ d).map V.p++[.mp 9,.mp 10])),(9,mpS l),(10,mpS l2),(1,.box ((zJ d).map V.p))]
theorem zwj{J:S}{r:zf}: ∀k s,sg [(3,J)] k=some s->sg ((3,J)::r) k=some s:=λk s h=>by
 have h:=zbh h;simp only[tB,uB]at h;rw[h.1,h.2];rfl
theorem vS(d:zj)(h1:d.types.length<=1099511627776)(h2:d.procs.length<=1099511627776):
 zh Tryz.prog 81 [zF (zJ d)] [] (.one (.bx 0 0)) (ckR d 0 1 2):=by
 have U:=zuj d.types;have hB2:=zuk d.procs;refine zqx T (rv:=[.tmp 2]) (Tryz.func81) ud rfl rfl rfl rfl ?_
 refine zlW T (m:=3) (p0:=16) (p1:=17) (j:=80) (tm:=15) (slr:=[(3,.one (.bx 3 0))]) (sl1:=[(3,.one (.bx 3 0)),(1,.one (.bx 1 0)),(15,.one (.cl 159 [] [.bx 91 0]))]) (R2:=ncR d [] []) (R2':=ncR d (tyM d.types) []) (Rx:=[]) (bx:= .box [.p (.sl 2 (d.types.map zS))]) rfl
  (λC hC=>?_) ?_ rfl ?_ rfl rfl rfl rfl rfl rfl rfl rfl rfl rfl rfl rfl rfl λD1=>?_
 ·repeat' first|refine gG ?_|refine gB ?_ ?_<;>intro h|(refine zd7 kS hC rfl rfl rfl ?_)|refine gR U (nm [191]) ?_
  exact zi ⟨rfl,rfl,mvL [(3,1003),(12,1012),(9,1009),(10,1010),(1,1001),(91,191)],⟨rfl,rfl,rfl,uh⟩,⟨rfl,rfl,rfl,rfl,rfl,rfl,uh⟩,rfl,rfl⟩
 ·have J:=zoT (ts:=d.types) (asg:=?_) (body:=?_) (p0:=16) (p1:=17) (n:=Tryz.f81.ntmps) (slr:=[(3,.one (.bx 3 0))]) (ids:=[3,12,9,10,1]) (λi=>ncR d (bkM (·.n) (λt=> .g (zS t)) (d.types.drop i)) []) ub ub ub (λ_=>rfl)
   (by intro k s h;simp only[tB,uB]at h;rw[h.2];rfl) rfl rfl (λ_=>rfl) (λ_=>rfl) h1 ?_
  ·simp only[qK,qW]at J;exact J
  ·intro i t ht;rw[zec ht]
   refine zrW T rfl rfl rfl λlp o o'=>⟨_,_,_,_,_,_,yo T (yo T zdk rfl) rfl,rfl,rfl,
    zg0 (et:=129) (pv:= .g (zS t)) kS (yo T (yo T (yo T (yo T (yo T (yo T (yo T zdk rfl) rfl) rfl) rfl) rfl) rfl) rfl) rfl rfl rfl rfl ud rfl,rfl,rfl,?_,rfl⟩
   exact⟨rfl,rfl,rfl,rfl,rfl,uh⟩
 ·exact zwj
 ·refine zlW T (m:=1) (p0:=28) (p1:=29) (j:=81) (tm:=27) (slr:=[(3,.one (.bx 3 0))]) (sl1:=[(3,.one (.bx 3 0)),(27,.one (.cl 160 [] [.bx 91 0]))]) (R2:=ncR d (tyM d.types) []) (R2':=ncR d (tyM d.types) (prM d.procs)) (Rx:=[]) (bx:= .box [.p (.sl 5 (d.procs.map zZ))]) rfl
   (λC hC=>?_) ?_ rfl ?_ rfl rfl rfl rfl rfl rfl rfl rfl rfl rfl rfl rfl rfl λD2=>?_
  ·repeat' first|refine gG ?_|refine gB ?_ ?_<;>intro h|refine gR hB2 (nm [191]) ?_
   exact zi ⟨rfl,rfl,mvL [(91,191)],⟨rfl,rfl,uh⟩,⟨rfl,rfl,rfl,rfl,rfl,rfl,rfl,uh⟩,rfl,rfl⟩
  ·have J:=zoU (ts:=d.procs) (asg:=?_) (body:=?_) (p0:=28) (p1:=29) (n:=Tryz.f81.ntmps) (slr:=[(3,.one (.bx 3 0))]) (ids:=[3,12,9,10,1]) (λi=>ncR d (tyM d.types) (bkM (·.n) (λp=> .g (zZ p)) (d.procs.drop i))) ub ub ub (λ_=>rfl)
    (by intro k s h;simp only[tB,uB]at h;rw[h.2];rfl) rfl rfl (λ_=>rfl) (λ_=>rfl) h2 ?_
   ·simp only[qK,qW]at J;exact J
   ·intro i t ht;rw[zec ht]
    refine zrW T rfl rfl rfl λlp o o'=>⟨_,_,_,_,_,_,yo T (yo T zdk rfl) rfl,rfl,rfl,
     zg0 (et:=90) (pv:= .g (zZ t)) kS (yo T (yo T (yo T (yo T (yo T (yo T (yo T zdk rfl) rfl) rfl) rfl) rfl) rfl) rfl) rfl rfl rfl rfl ud rfl,rfl,rfl,?_,rfl⟩
    exact⟨rfl,rfl,rfl,rfl,rfl,uh⟩
  ·exact zwj
  ·refine zlV T rfl rfl λC hC=>?_
   repeat' first|refine gG ?_|refine gB ?_ ?_<;>intro h|refine ze ?_
   exact zi ⟨.inl rfl,mvL [(0,12),(1,9),(2,10)],_,rfl,.refl _,⟨rfl,rfl,rfl,rfl,rfl,uh⟩,rfl,rfl⟩
end Hw.Gm
