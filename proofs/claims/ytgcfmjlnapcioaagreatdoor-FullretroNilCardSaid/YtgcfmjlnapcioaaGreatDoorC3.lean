/- The engine and the contracts. -/
import Derived.Test.YtgcfmjlnapcioaaGreatDoorC2
import Derived.Test.YtgcfmjlnapcioaaGreatDoorProg
import Derived.KernelRfl
import Derived.Shelf.Small.Strs
import Derived.Shelf.Strings.Prefix
import Derived.Shelf.Strconv.AtoiAll
import Derived.Test.YtgcfmjlnapcioaaGreatDoorC1
import Derived.Test.YtgcfmjlnapcioaaGreatDoorE3
set_option linter.unusedVariables false
set_option linter.unusedSimpArgs false
namespace Hw.Fr.Ps
open Go Go.Proofs Hw.M
section
variable {l:List Tok} (hl:wE l)
include hl
theorem zod{n i:Nat}{s:Str}{j:Nat}{b:Bool}{u:Unit}(h:(if n=0 then PJ.ok () i else vi l s i)=some (u,j,b)):(n=0∧j=i∧b=false)∨(n≠0∧isA l i s=true∧j=i+1∧b=false)∨(n≠0∧ ¬isA l i s=true∧j=i∧b=true):=by
 have _:=hl
 split at h
 ·rename_i h0;cases h;exact .inl ⟨h0,rfl,rfl⟩
 ·rename_i h0
  unfold vi at h
  split at h
  ·rename_i hs;cases h;exact .inr (.inl ⟨h0,hs,rfl,rfl⟩)
  ·rename_i hs;cases h;exact .inr (.inr ⟨h0,hs,rfl,rfl⟩)
theorem zhV(f:Nat)(ih: ∀g,g≤f→EX l g)(i:Nat)(hi:i<l.length):RJ l 332 [rdV,Sr (⟨#[44]⟩:ByteArray),Sr (⟨#[41]⟩:ByteArray),.one (.cl 228 [.bx 0 0] [])] (fun a=>pS (xX a)) i (argsJ l (f+1) i []):=by
 intro af jf bf hR
 have hjf:=(jC hl (f+1)).2.2.2.2.1 i [] hi _ _ _ hR
 refine⟨hjf,?_⟩
 have hll:=hl.len
 refine gO T Tryz.func332 fun C hC=>?_
 repeat' first|refine gG ?_|refine gB (fun h=>?_) (fun h=>?_)
 refine yo hC rfl 101 4 rfl [(9,.one (.ar 101))] ⟨⟨_,rfl,AdS.nil⟩,trivial⟩ [] trivial ?_
 refine zy (fun q:List Ex×Nat×Bool×Nat=>q.2.1<l.length∧q.2.2.2≤f+1∧q.1.length≤100001∧(q.2.2.1=false→q.1.length≤q.2.1∧argsJ l q.2.2.2 q.2.1 q.1=some (af,jf,bf))∧(q.2.2.1=true→af=q.1∧jf=q.2.1∧bf=true))
  (fun q=>([(0,rdV),(1,Sr (⟨#[44]⟩:ByteArray)),(2,Sr (⟨#[41]⟩:ByteArray)),(3,.one (.cl 228 [.bx 0 0] [])),(9,.one (.ar 101))],[(0,some (rdR l q.2.1 q.2.2.1)),(101,some (Res.arr 4 (q.1.map zO)))])) (fun q=>if q.2.2.1 then 0 else q.2.2.2+1) hC
  ([],i,false,f+1) ⟨hi,Nat.le_refl _,Nat.zero_le _,fun _=>⟨Nat.zero_le _,hR⟩,fun h=>by cases h⟩ id gM ?_
 clear hi hR
 rintro⟨acc,k,b1,g⟩ ⟨hk,hgf,hlen,hg,hb⟩
 simp only at hk hgf hlen hg hb
 cases b1 with
 |true=>
  obtain⟨rfl,rfl,rfl⟩:=hb rfl
  repeat' first|refine gG ?_|refine gB (fun h=>?_) (fun h=>?_)|refine gR (yi hl _ hk _) (nm [0]) ?_|refine zp ?_|refine gL ?_
  refine zm rfl (id:=101) (e:=4) (rows:=af.map zO) rfl [(8,pS (xX af))] ⟨⟨_,rfl,FrS.ar⟩,trivial⟩ [] trivial ?_
  exact gE
 |false=>
  obtain⟨hak,hd⟩:=hg rfl
  clear hg hb
  cases g with
  |zero=>simp only[argsJ]at hd;cases hd
  |succ g=>
   simp only[argsJ]at hd
   have hal:(acc.map zO).length=acc.length:=List.length_map _
   by_cases hs:isA l k (⟨#[41]⟩:ByteArray)=true
   ·rw[if_pos hs]at hd
    cases hd
    repeat' first|refine gG ?_|refine gB (fun h=>?_) (fun h=>?_)|refine gR (zhP hl hs) (nm [0]) ?_|refine zp ?_|refine gR (jB hl hs) (nm [0]) ?_|refine gL ?_
    refine zm rfl (id:=101) (e:=4) (rows:=af.map zO) rfl [(8,pS (xX af))] ⟨⟨_,rfl,FrS.ar⟩,trivial⟩ [] trivial ?_
    exact gE
   ·rw[if_neg hs]at hd
    obtain⟨u,k1,b1,h1,h2,h3⟩:=yx hd
    rcases zod hl h1 with⟨h0,rfl,rfl⟩|⟨h0,hsep,rfl,rfl⟩|⟨h0,hsep,rfl,rfl⟩
    ·obtain⟨y,k2,b2,h4,h5,h6⟩:=yx (h2 rfl)
     obtain⟨hk2,hE⟩:=yS hl (ih g (by omega)) _ hk _ _ _ h4
     have hal':(acc++[y]).length=acc.length+1:=by simp
     repeat' first|refine gG ?_|(exfalso;have h':=of_decide_eq_true h;rw[hal]at h';omega)|refine gB (fun h=>?_) (fun h=>?_)|refine gR (zbA hl hk hs) (nm [0]) ?_|refine gR hE (nm [0]) ?_|refine ya T hC (rows:=[zO y]) rfl rfl rfl (by simp only[zK];rfl) rfl rfl rfl rfl rfl ?_|(refine zC T 102 hC (rows:=acc.map zO) (rows2:=[zO y]) (rows3:=(acc++[y]).map zO) (bytes:=56) rfl rfl rfl rfl (xj.sl (T.es_ok _ _ rfl)) (by rw[List.map_append];rfl) rfl rfl rfl (by kernel_rfl) (by rw[hal,List.length_singleton];omega) (by rw[hal,List.length_singleton];omega) rfl rfl rfl ?_)
     exact zh (acc++[y],k2,b2,g) ⟨hk2,by simp only;omega,by simp only;omega,fun e=>by subst e;exact⟨by have:=zd2 h4;simp only;omega,h5 rfl⟩,h6⟩ (mvP 101 102) (by cases b2<;>simp) ⟨rfl,⟨rfl,rfl,rfl,rfl,rfl,trivial⟩,⟨rfl,rfl,trivial⟩,rfl,fun i hi=>xx (by omega) hi⟩
    ·obtain⟨y,k2,b2,h4,h5,h6⟩:=yx (h2 rfl)
     obtain⟨hk2,hE⟩:=yS hl (ih g (by omega)) _ (zl hl hsep) _ _ _ h4
     have hal':(acc++[y]).length=acc.length+1:=by simp
     repeat' first|refine gG ?_|(exfalso;have h':=of_decide_eq_false h;rw[hal]at h';omega)|refine gB (fun h=>?_) (fun h=>?_)|refine gR (zbA hl hk hs) (nm [0]) ?_|refine gR (jB hl hsep) (nm [0]) ?_|refine gR hE (nm [0]) ?_|refine ya T hC (rows:=[zO y]) rfl rfl rfl (by simp only[zK];rfl) rfl rfl rfl rfl rfl ?_|(refine zC T 102 hC (rows:=acc.map zO) (rows2:=[zO y]) (rows3:=(acc++[y]).map zO) (bytes:=56) rfl rfl rfl rfl (xj.sl (T.es_ok _ _ rfl)) (by rw[List.map_append];rfl) rfl rfl rfl (by kernel_rfl) (by rw[hal,List.length_singleton];omega) (by rw[hal,List.length_singleton];omega) rfl rfl rfl ?_)
     exact zh (acc++[y],k2,b2,g) ⟨hk2,by simp only;omega,by simp only;omega,fun e=>by subst e;exact⟨by have:=zd2 h4;simp only;omega,h5 rfl⟩,h6⟩ (mvP 101 102) (by cases b2<;>simp) ⟨rfl,⟨rfl,rfl,rfl,rfl,rfl,trivial⟩,⟨rfl,rfl,trivial⟩,rfl,fun i hi=>xx (by omega) hi⟩
    ·have h3:=h3 rfl
     have hal':(acc++[E0]).length=acc.length+1:=by simp
     repeat' first|refine gG ?_|(exfalso;have h':=of_decide_eq_false h;rw[hal]at h';omega)|refine gB (fun h=>?_) (fun h=>?_)|refine gR (zbA hl hk hs) (nm [0]) ?_|refine gR (zfr hl hk hsep) (nm [0]) ?_|refine gR (wg hl _ hk) (nm [0]) ?_|refine ya T hC (rows:=[zO E0]) rfl rfl rfl (by simp only[zK];rfl) rfl rfl rfl rfl rfl ?_|(refine zC T 102 hC (rows:=acc.map zO) (rows2:=[zO E0]) (rows3:=(acc++[E0]).map zO) (bytes:=56) rfl rfl rfl rfl (xj.sl (T.es_ok _ _ rfl)) (by rw[List.map_append];rfl) rfl rfl rfl (by kernel_rfl) (by rw[hal,List.length_singleton];omega) (by rw[hal,List.length_singleton];omega) rfl rfl rfl ?_)
     exact zh (acc++[E0],k1,true,g) ⟨hk,by simp only;omega,by simp only;omega,(fun e=>by cases e),fun _=>h3⟩ (mvP 101 102) (by simp) ⟨rfl,⟨rfl,rfl,rfl,rfl,rfl,trivial⟩,⟨rfl,rfl,trivial⟩,rfl,fun i hi=>xx (by omega) hi⟩
end
end Hw.Fr.Ps
namespace Hw.Fr.Ps
open Go Go.Proofs Hw.M
section
variable {l:List Tok} (hl:wE l)
include hl
theorem zfw(f:Nat)(ih: ∀g,g≤f→EX l g)(i k:Nat)(op:Int)(hk1:1≤k)(hk3:k≤3)(hi:i<l.length):RJ l 333 [rdV,I op,I (k:Nat)] (fun a=>enE (.mk op 0 (⟨#[]⟩:ByteArray) a)) i (partsJ l (f+1) k i []):=by
 intro af jf bf hR
 have hjf:=(jC hl (f+1)).2.2.2.2.2.1 k i [] hi _ _ _ hR
 refine⟨hjf,?_⟩
 have hll:=hl.len
 simp only[partsJ]at hR
 rw[if_neg (by omega)]at hR
 obtain⟨j0,b0,hT,hj0,hA,hB⟩: ∃j0 b0,zj Tryz.prog 147 [rdV,Sr (⟨#[40]⟩:ByteArray)] [(0,rdR l i false)] (.tup []) [(0,rdR l j0 b0)]∧j0<l.length∧(b0=false→PJ.go (exprJ l f 0 j0) (fun x i=>partsJ l f (k - 1) i ([]++[x])) (fun x=>[]++[x]++List.replicate (k - 1) E0)=some (af,jf,bf))∧(b0=true→af=List.replicate k E0∧jf=j0∧bf=true):=by
  obtain⟨u,j0,b0,h1,h2,h3⟩:=yx hR
  have h1':vi l (⟨#[40]⟩:ByteArray) i=some (u,j0,b0):=h1
  obtain⟨h4,h5⟩:=xu hl i hi _ _ _ _ h1'
  exact⟨j0,b0,h5,h4,h2,fun h=>by have:=h3 h;simpa using this⟩
 clear hR
 refine gO T Tryz.func333 fun C hC=>?_
 repeat' first|refine gG ?_|refine gB (fun h=>?_) (fun h=>?_)|refine gR hT (nm [0]) ?_
 refine yo hC rfl 101 4 rfl [] trivial [(1007,[.p (ki op),.p (ki 0),.p (ks (⟨#[]⟩:ByteArray)),.ar 101])] ⟨⟨_,rfl,by decide,.cons (.refl _) (.cons (.refl _) (.cons (.refl _) (.cons .nil .nil)))⟩,trivial⟩ ?_
 refine zy (fun q:List Ex×Nat×Bool×Nat=>q.1.length≤k∧q.2.1<l.length∧q.2.2.2≤f∧
  (q.2.2.1=false→q.1=[]→PJ.go (exprJ l q.2.2.2 0 q.2.1) (fun x i=>partsJ l q.2.2.2 (k - 1) i ([]++[x])) (fun x=>[]++[x]++List.replicate (k - 1) E0)=some (af,jf,bf))∧
  (q.2.2.1=false→q.1≠ []→partsJ l q.2.2.2 (k - q.1.length) q.2.1 q.1=some (af,jf,bf))∧(q.2.2.1=true→af=q.1++List.replicate (k - q.1.length) E0∧jf=q.2.1∧bf=true))
  (fun q=>([(0,rdV),(6,.one (.bx 1006 0)),(7,.one (.bx 1007 0)),(13,I (k:Nat)),(14,I (q.1.length:Nat))],[(0,some (rdR l q.2.1 q.2.2.1)),(1006,some z44),(1007,some (Res.box [.p (ki op),.p (ki 0),.p (ks (⟨#[]⟩:ByteArray)),.ar 101])),(101,some (Res.arr 4 (q.1.map zO)))])) (fun q=>k - q.1.length) hC
  ([],j0,b0,f) ⟨Nat.zero_le _,hj0,Nat.le_refl _,fun h _=>hA h,fun _ h=>absurd rfl h,fun h=>by have:=hB h;simpa using this⟩ id gM ?_
 clear hA hB hT hj0
 rintro⟨acc,j,b,g⟩ ⟨hck,hj,hgf,h1,h2,h3⟩
 simp only at hck hj hgf h1 h2 h3
 have hal:(acc.map zO).length=acc.length:=List.length_map _
 refine zI T hC true 200 rfl ?_
 refine zP rfl (fun hh=>?_) (fun hh=>?_)
 rotate_left
 ·have hge:acc.length=k:=by have:=of_decide_eq_false hh;(try dsimp only at this);omega
  clear hh
  refine zm rfl (id:=101) (e:=4) (rows:=acc.map zO) rfl [] trivial [(1007,[.p (ki op),.p (ki 0),.p (ks (⟨#[]⟩:ByteArray)),.p (xX acc)])] ⟨⟨_,rfl,by decide,.cons (.refl _) (.cons (.refl _) (.cons (.refl _) (.cons .ar .nil)))⟩,trivial⟩ ?_
  cases b with
  |true=>
   obtain⟨e,rfl,rfl⟩:=h3 rfl
   have e:af=acc:=by rw[e,hge,Nat.sub_self];simp
   subst e
   repeat' first|refine gG ?_|refine gB (fun h=>?_) (fun h=>?_)|refine zp ?_|refine gR (yi hl _ hj _) (nm [0]) ?_|refine gL ?_
   exact gE
  |false=>
   have h2:=h2 rfl (fun e=>by rw[e]at hge;simp at hge;omega)
   cases g with
   |zero=>simp only[partsJ]at h2;cases h2
   |succ g=>
    simp only[partsJ]at h2
    rw[if_pos (by omega)]at h2
    obtain⟨u,j5,b5,h5,h6,h7⟩:=yx h2
    obtain⟨_,hT⟩:=xu hl _ hj _ _ _ _ h5
    have hfin:af=acc∧jf=j5∧bf=b5:=by
     cases b5 with
     |false=>have h6:=h6 rfl;cases h6;exact⟨rfl,rfl,rfl⟩
     |true=>exact h7 rfl
    obtain⟨rfl,rfl,rfl⟩:=hfin
    repeat' first|refine gG ?_|refine gB (fun h=>?_) (fun h=>?_)|refine zp ?_|refine gR hT (nm [0]) ?_|refine gL ?_
    exact gE
 ·have hlt:acc.length<k:=by have:=of_decide_eq_true hh;(try dsimp only at this);omega
  clear hh
  cases b with
  |true=>
   obtain⟨e,rfl,rfl⟩:=h3 rfl
   have e2:af=(acc++[E0])++List.replicate (k - (acc++[E0]).length) E0:=by
    rw[e,List.length_append,List.length_singleton,List.append_assoc]
    congr 1
    rw[show k - acc.length=(k - (acc.length+1))+1 by omega,List.replicate_succ]
    rfl
   clear h1 h2 h3
   by_cases h0:acc.length=0
   ·repeat' first|refine gG ?_|(exfalso;have h':=of_decide_eq_true h;(try dsimp only at h');omega)|refine gB (fun h=>?_) (fun h=>?_)|refine gR (wg hl _ hj) (nm [0]) ?_|refine ya T hC (rows:=[zO E0]) rfl rfl rfl (by simp only[zK];rfl) rfl rfl rfl rfl rfl ?_|(refine zC T 102 hC (rows:=acc.map zO) (rows2:=[zO E0]) (rows3:=(acc++[E0]).map zO) (bytes:=56) rfl rfl rfl rfl (xj.sl (T.es_ok _ _ rfl)) (by rw[List.map_append];rfl) rfl rfl rfl (by kernel_rfl) (by rw[hal,List.length_singleton];omega) (by rw[hal,List.length_singleton];omega) rfl rfl rfl ?_)
    dsimp only
    rw[yq (i:=acc.length) (by omega),show((acc.length+1:Nat):Int)=((acc++[E0]).length:Int) by simp]
    exact zh (acc++[E0],jf,true,g) ⟨by simp;omega,hj,hgf,(fun h=>by cases h),(fun h=>by cases h),fun _=>⟨e2,rfl,rfl⟩⟩ (mvP 101 102) (by simp;omega) ⟨rfl,⟨rfl,rfl,rfl,rfl,rfl,trivial⟩,⟨rfl,rfl,rfl,rfl,trivial⟩,rfl,fun i hi=>xx (by omega) hi⟩
   ·repeat' first|refine gG ?_|(exfalso;have h':=of_decide_eq_false h;(try dsimp only at h');omega)|refine gB (fun h=>?_) (fun h=>?_)|refine gR (yi hl _ hj _) (nm [0]) ?_|refine gR (wg hl _ hj) (nm [0]) ?_|refine ya T hC (rows:=[zO E0]) rfl rfl rfl (by simp only[zK];rfl) rfl rfl rfl rfl rfl ?_|(refine zC T 102 hC (rows:=acc.map zO) (rows2:=[zO E0]) (rows3:=(acc++[E0]).map zO) (bytes:=56) rfl rfl rfl rfl (xj.sl (T.es_ok _ _ rfl)) (by rw[List.map_append];rfl) rfl rfl rfl (by kernel_rfl) (by rw[hal,List.length_singleton];omega) (by rw[hal,List.length_singleton];omega) rfl rfl rfl ?_)
    dsimp only
    rw[yq (i:=acc.length) (by omega),show((acc.length+1:Nat):Int)=((acc++[E0]).length:Int) by simp]
    exact zh (acc++[E0],jf,true,g) ⟨by simp;omega,hj,hgf,(fun h=>by cases h),(fun h=>by cases h),fun _=>⟨e2,rfl,rfl⟩⟩ (mvP 101 102) (by simp;omega) ⟨rfl,⟨rfl,rfl,rfl,rfl,rfl,trivial⟩,⟨rfl,rfl,rfl,rfl,trivial⟩,rfl,fun i hi=>xx (by omega) hi⟩
  |false=>
   clear h3
   by_cases h0:acc.length=0
   ·have h0':acc=[]:=List.length_eq_zero_iff.1 h0
    subst h0'
    obtain⟨y,k2,b2,h4,h5,h6⟩:=yx (h1 rfl rfl)
    obtain⟨hk2,hE⟩:=yS hl (ih g hgf) _ hj _ _ _ h4
    clear h1 h2
    repeat' first|refine gG ?_|(exfalso;have h':=of_decide_eq_true h;simp at h';done)|(exfalso;simp at h;done)|refine gB (fun h=>?_) (fun h=>?_)|refine gR hE (nm [0]) ?_|refine ya T hC (rows:=[zO y]) rfl rfl rfl (by simp only[zK];rfl) rfl rfl rfl rfl rfl ?_|(refine zC T 102 hC (rows:=[]) (rows2:=[zO y]) (rows3:=[y].map zO) (bytes:=56) rfl rfl rfl rfl (xj.sl (T.es_ok _ _ rfl)) rfl rfl rfl rfl (by kernel_rfl) (by rw[List.length_singleton,List.length_nil];decide) (by rw[List.length_singleton,List.length_nil];decide) rfl rfl rfl ?_)
    exact zh ([y],k2,b2,g) ⟨by simp;omega,hk2,hgf,(fun _ h=>by cases h),fun h _=>h5 h,fun h=>by have:=h6 h;simpa using this⟩ (mvP 101 102) (by simp;omega) ⟨rfl,⟨rfl,rfl,rfl,rfl,rfl,trivial⟩,⟨rfl,rfl,rfl,rfl,trivial⟩,rfl,fun i hi=>xx (by omega) hi⟩
   ·have h2:=h2 rfl (fun e=>h0 (by rw[e];rfl))
    clear h1
    cases g with
    |zero=>simp only[partsJ]at h2;cases h2
    |succ g=>
     simp only[partsJ]at h2
     rw[if_neg (by omega),if_neg h0]at h2
     obtain⟨u,j5,b5,h5,h6,h7⟩:=yx h2
     obtain⟨hj5,hT⟩:=xu hl _ hj _ _ _ _ h5
     cases b5 with
     |false=>
      obtain⟨y,k2,b2,h8,h9,h10⟩:=yx (h6 rfl)
      obtain⟨hk2,hE⟩:=yS hl (ih g (by omega)) _ hj5 _ _ _ h8
      have hle:(acc++[y]).length=acc.length+1:=by simp
      repeat' first|refine gG ?_|(exfalso;have h':=of_decide_eq_false h;(try dsimp only at h');omega)|refine gB (fun h=>?_) (fun h=>?_)|refine gR hT (nm [0]) ?_|refine gR hE (nm [0]) ?_|refine ya T hC (rows:=[zO y]) rfl rfl rfl (by simp only[zK];rfl) rfl rfl rfl rfl rfl ?_|(refine zC T 102 hC (rows:=acc.map zO) (rows2:=[zO y]) (rows3:=(acc++[y]).map zO) (bytes:=56) rfl rfl rfl rfl (xj.sl (T.es_ok _ _ rfl)) (by rw[List.map_append];rfl) rfl rfl rfl (by kernel_rfl) (by rw[hal,List.length_singleton];omega) (by rw[hal,List.length_singleton];omega) rfl rfl rfl ?_)
      dsimp only
      rw[yq (i:=acc.length) (by omega),←hle]
      exact zh (acc++[y],k2,b2,g) ⟨by simp only;omega,hk2,by simp only;omega,(fun _ h=>by simp at h),(fun h _=>by simp only;rw[hle,←Nat.sub_sub];exact h9 h),fun h=>by simp only;rw[hle,←Nat.sub_sub];exact h10 h⟩ (mvP 101 102) (by simp only;omega) ⟨rfl,⟨rfl,rfl,rfl,rfl,rfl,trivial⟩,⟨rfl,rfl,rfl,rfl,trivial⟩,rfl,fun i hi=>xx (by omega) hi⟩
     |true=>
      obtain⟨e,rfl,rfl⟩:=h7 rfl
      have e2:af=(acc++[E0])++List.replicate (k - (acc++[E0]).length) E0:=by
       rw[e,List.length_append,List.length_singleton,List.append_assoc]
       congr 1
       rw[show k - acc.length=(k - (acc.length+1))+1 by omega,List.replicate_succ]
       rfl
      have hle:(acc++[E0]).length=acc.length+1:=by simp
      repeat' first|refine gG ?_|(exfalso;have h':=of_decide_eq_false h;(try dsimp only at h');omega)|refine gB (fun h=>?_) (fun h=>?_)|refine gR hT (nm [0]) ?_|refine gR (wg hl _ hj5) (nm [0]) ?_|refine ya T hC (rows:=[zO E0]) rfl rfl rfl (by simp only[zK];rfl) rfl rfl rfl rfl rfl ?_|(refine zC T 102 hC (rows:=acc.map zO) (rows2:=[zO E0]) (rows3:=(acc++[E0]).map zO) (bytes:=56) rfl rfl rfl rfl (xj.sl (T.es_ok _ _ rfl)) (by rw[List.map_append];rfl) rfl rfl rfl (by kernel_rfl) (by rw[hal,List.length_singleton];omega) (by rw[hal,List.length_singleton];omega) rfl rfl rfl ?_)
      dsimp only
      rw[yq (i:=acc.length) (by omega),←hle]
      exact zh (acc++[E0],jf,true,g) ⟨by simp only;omega,hj5,by simp only;omega,(fun h=>by cases h),(fun h=>by cases h),fun _=>⟨e2,rfl,rfl⟩⟩ (mvP 101 102) (by simp only;omega) ⟨rfl,⟨rfl,rfl,rfl,rfl,rfl,trivial⟩,⟨rfl,rfl,rfl,rfl,trivial⟩,rfl,fun i hi=>xx (by omega) hi⟩
end
end Hw.Fr.Ps
namespace Hw.Fr.Ps
open Go Go.Proofs Hw.M
theorem zaO{α β:Type}{r:PJ α}{g:α→β}{x:β}{j:Nat}{b:Bool}(h:PJ.go r (fun a i=>PJ.ok (g a) i) g=some (x,j,b)): ∃a,r=some (a,j,b)∧x=g a:=by
 rcases r with _|⟨y,k,_|_⟩
 ·cases h
 ·cases h;exact⟨y,rfl,rfl⟩
 ·cases h;exact⟨y,rfl,rfl⟩
section
variable {l:List Tok} (hl:wE l)
include hl
set_option maxHeartbeats 1000000 in
theorem zhW(f:Nat)(ih: ∀g,g≤f→EX l g)(i:Nat)(hi:i<l.length):RJ l 320 [rdV] enE i (primJ l (f+1) i):=by
 intro xf jf bf hR
 have hjf:=(jC hl (f+1)).2.2.2.2.2.2 i hi _ _ _ hR
 refine⟨hjf,?_⟩
 have hF:=ih f (Nat.le_refl _)
 obtain⟨t,ht⟩:=zf hi
 simp only[primJ]at hR
 rw[ht]at hR
 simp only at hR
 by_cases hk2:t.k=2
 ·rw[if_pos hk2]at hR
  cases hR
  have hI:zj Tryz.prog 227 [rdV] [(0,rdR l i false)] (I t.n) [(0,rdR l (i+1) false)]:=(zfs hl i hi t.n (i+1) false (by unfold zji;rw[ht];exact if_pos hk2)).2
  refine gO T Tryz.func320 fun C hC=>?_
  repeat' first|refine gG ?_|(exfalso;exact absurd hk2 (by simpa using h))|refine gB (fun h=>?_) (fun h=>?_)|refine gI T (zu ht) ?_|refine gR hI (nm [0]) ?_|refine gL ?_
  exact zg ⟨.inl rfl,id,_,rfl,jV _ _ _,⟨rfl,trivial⟩,rfl,rfl⟩
 rw[if_neg hk2]at hR
 by_cases hk1:t.k=1
 ·rw[if_pos hk1]at hR
  have hnx:=hl.next ht (by omega)
  have hN:zj Tryz.prog 148 [rdV] [(0,rdR l i false)] (Sr t.t) [(0,rdR l (i+1) false)]:=(xw hl i hi t.t (i+1) false (by unfold nameJ;rw[ht];exact if_pos hk1)).2
  by_cases hs:isA l (i+1) (⟨#[40]⟩:ByteArray)=true
  ·rw[if_pos hs]at hR
   obtain⟨a,ha,rfl⟩:=zaO hR
   have hA:=(hF.args _ (zl hl hs) _ _ _ ha).2
   refine gO T Tryz.func320 fun C hC=>?_
   repeat' first|refine gG ?_|(exfalso;exact absurd hk2 (by simpa using h))|(exfalso;exact absurd hk1 (by simpa using h))|refine gB (fun h=>?_) (fun h=>?_)|refine gI T (zu ht) ?_|refine gR hN (nm [0]) ?_|refine gR (zQ hl hs) (nm [0]) ?_|refine zl8 hC rfl rfl rfl rfl rfl rfl ?_|refine gR hA (nm [0]) ?_|refine gL ?_
   exact gE
  ·rw[if_neg hs]at hR
   cases hR
   refine gO T Tryz.func320 fun C hC=>?_
   repeat' first|refine gG ?_|(exfalso;exact absurd hk2 (by simpa using h))|(exfalso;exact absurd hk1 (by simpa using h))|refine gB (fun h=>?_) (fun h=>?_)|refine gI T (zu ht) ?_|refine gR hN (nm [0]) ?_|refine gR (zH hl hnx hs) (nm [0]) ?_|refine gL ?_
   exact zg ⟨.inl rfl,id,_,rfl,jV _ _ _,⟨rfl,trivial⟩,rfl,rfl⟩
 rw[if_neg hk1]at hR
 by_cases h1:isA l i (⟨#[116,114,117,101]⟩:ByteArray)=true
 ·rw[if_pos h1]at hR
  cases hR
  refine gO T Tryz.func320 fun C hC=>?_
  repeat' first|refine gG ?_|(exfalso;exact absurd (by simpa using h) hk2)|(exfalso;exact absurd (by simpa using h) hk1)|refine gB (fun h=>?_) (fun h=>?_)|refine gI T (zu ht) ?_|refine zr hC ((zH hl hi (by assumption))) (nm [0]) rfl rfl (yJ.refl _) rfl rfl rfl rfl rfl rfl rfl rfl ?_|refine gR (zQ hl h1) (nm [0]) ?_|refine gL ?_
  exact zg ⟨.inl rfl,id,_,rfl,jV _ _ _,⟨rfl,trivial⟩,rfl,rfl⟩
 rw[if_neg h1]at hR
 by_cases h2:isA l i (⟨#[102,97,108,115,101]⟩:ByteArray)=true
 ·rw[if_pos h2]at hR
  cases hR
  refine gO T Tryz.func320 fun C hC=>?_
  repeat' first|refine gG ?_|(exfalso;exact absurd (by simpa using h) hk2)|(exfalso;exact absurd (by simpa using h) hk1)|refine gB (fun h=>?_) (fun h=>?_)|refine gI T (zu ht) ?_|refine zr hC ((zH hl hi (by assumption))) (nm [0]) rfl rfl (yJ.refl _) rfl rfl rfl rfl rfl rfl rfl rfl ?_|refine gR (zQ hl h2) (nm [0]) ?_|refine gL ?_
  exact zg ⟨.inl rfl,id,_,rfl,jV _ _ _,⟨rfl,trivial⟩,rfl,rfl⟩
 rw[if_neg h2]at hR
 by_cases h3:isA l i (⟨#[110,105,108]⟩:ByteArray)=true
 ·rw[if_pos h3]at hR
  cases hR
  refine gO T Tryz.func320 fun C hC=>?_
  repeat' first|refine gG ?_|(exfalso;exact absurd (by simpa using h) hk2)|(exfalso;exact absurd (by simpa using h) hk1)|refine gB (fun h=>?_) (fun h=>?_)|refine gI T (zu ht) ?_|refine zr hC ((zH hl hi (by assumption))) (nm [0]) rfl rfl (yJ.refl _) rfl rfl rfl rfl rfl rfl rfl rfl ?_|refine gR (zQ hl h3) (nm [0]) ?_|refine gL ?_
  exact zg ⟨.inl rfl,id,_,rfl,jV _ _ _,⟨rfl,trivial⟩,rfl,rfl⟩
 rw[if_neg h3]at hR
 by_cases h4:isA l i (⟨#[116,104,105,115]⟩:ByteArray)=true
 ·rw[if_pos h4]at hR
  cases hR
  refine gO T Tryz.func320 fun C hC=>?_
  repeat' first|refine gG ?_|(exfalso;exact absurd (by simpa using h) hk2)|(exfalso;exact absurd (by simpa using h) hk1)|refine gB (fun h=>?_) (fun h=>?_)|refine gI T (zu ht) ?_|refine zr hC ((zH hl hi (by assumption))) (nm [0]) rfl rfl (yJ.refl _) rfl rfl rfl rfl rfl rfl rfl rfl ?_|refine gR (zQ hl h4) (nm [0]) ?_|refine gL ?_
  exact zg ⟨.inl rfl,id,_,rfl,jV _ _ _,⟨rfl,trivial⟩,rfl,rfl⟩
 rw[if_neg h4]at hR
 by_cases h5:isA l i (⟨#[110,101,119]⟩:ByteArray)=true
 ·rw[if_pos h5]at hR
  obtain⟨a,ha,rfl⟩:=zaO hR
  have hN:=(xw hl _ (zl hl h5) _ _ _ ha).2
  refine gO T Tryz.func320 fun C hC=>?_
  repeat' first|refine gG ?_|(exfalso;exact absurd (by simpa using h) hk2)|(exfalso;exact absurd (by simpa using h) hk1)|refine gB (fun h=>?_) (fun h=>?_)|refine gI T (zu ht) ?_|refine zr hC ((zH hl hi (by assumption))) (nm [0]) rfl rfl (yJ.refl _) rfl rfl rfl rfl rfl rfl rfl rfl ?_|refine gR (zQ hl h5) (nm [0]) ?_|refine gR hN (nm [0]) ?_|refine gL ?_
  exact zg ⟨.inl rfl,id,_,rfl,jV _ _ _,⟨rfl,trivial⟩,rfl,rfl⟩
 rw[if_neg h5]at hR
 by_cases h6:isA l i (⟨#[105,102]⟩:ByteArray)=true
 ·rw[if_pos h6]at hR
  obtain⟨a,ha,rfl⟩:=zaO hR
  have hN:=(hF.parts _ 3 21 (by decide) (by decide) (zl hl h6) _ _ _ ha).2
  refine gO T Tryz.func320 fun C hC=>?_
  repeat' first|refine gG ?_|(exfalso;exact absurd (by simpa using h) hk2)|(exfalso;exact absurd (by simpa using h) hk1)|refine gB (fun h=>?_) (fun h=>?_)|refine gI T (zu ht) ?_|refine zr hC ((zH hl hi (by assumption))) (nm [0]) rfl rfl (yJ.refl _) rfl rfl rfl rfl rfl rfl rfl rfl ?_|refine gR (zQ hl h6) (nm [0]) ?_|refine gR hN (nm [0]) ?_|refine gL ?_
  exact gE
 rw[if_neg h6]at hR
 by_cases h7:isA l i (⟨#[109,97,120]⟩:ByteArray)=true
 ·rw[if_pos h7]at hR
  obtain⟨a,ha,rfl⟩:=zaO hR
  have hN:=(hF.parts _ 2 22 (by decide) (by decide) (zl hl h7) _ _ _ ha).2
  refine gO T Tryz.func320 fun C hC=>?_
  repeat' first|refine gG ?_|(exfalso;exact absurd (by simpa using h) hk2)|(exfalso;exact absurd (by simpa using h) hk1)|refine gB (fun h=>?_) (fun h=>?_)|refine gI T (zu ht) ?_|refine zr hC ((zH hl hi (by assumption))) (nm [0]) rfl rfl (yJ.refl _) rfl rfl rfl rfl rfl rfl rfl rfl ?_|refine gR (zQ hl h7) (nm [0]) ?_|refine gR hN (nm [0]) ?_|refine gL ?_
  exact gE
 rw[if_neg h7]at hR
 by_cases h8:isA l i (⟨#[109,105,110]⟩:ByteArray)=true
 ·rw[if_pos h8]at hR
  obtain⟨a,ha,rfl⟩:=zaO hR
  have hN:=(hF.parts _ 2 23 (by decide) (by decide) (zl hl h8) _ _ _ ha).2
  refine gO T Tryz.func320 fun C hC=>?_
  repeat' first|refine gG ?_|(exfalso;exact absurd (by simpa using h) hk2)|(exfalso;exact absurd (by simpa using h) hk1)|refine gB (fun h=>?_) (fun h=>?_)|refine gI T (zu ht) ?_|refine zr hC ((zH hl hi (by assumption))) (nm [0]) rfl rfl (yJ.refl _) rfl rfl rfl rfl rfl rfl rfl rfl ?_|refine gR (zQ hl h8) (nm [0]) ?_|refine gR hN (nm [0]) ?_|refine gL ?_
  exact gE
 rw[if_neg h8]at hR
 by_cases h9:isA l i (⟨#[108,111,103]⟩:ByteArray)=true
 ·rw[if_pos h9]at hR
  obtain⟨a,ha,rfl⟩:=zaO hR
  have hN:=(hF.parts _ 1 24 (by decide) (by decide) (zl hl h9) _ _ _ ha).2
  refine gO T Tryz.func320 fun C hC=>?_
  repeat' first|refine gG ?_|(exfalso;exact absurd (by simpa using h) hk2)|(exfalso;exact absurd (by simpa using h) hk1)|refine gB (fun h=>?_) (fun h=>?_)|refine gI T (zu ht) ?_|refine zr hC ((zH hl hi (by assumption))) (nm [0]) rfl rfl (yJ.refl _) rfl rfl rfl rfl rfl rfl rfl rfl ?_|refine gR (zQ hl h9) (nm [0]) ?_|refine gR hN (nm [0]) ?_|refine gL ?_
  exact gE
 rw[if_neg h9]at hR
 by_cases h10:isA l i (⟨#[40]⟩:ByteArray)=true
 ·rw[if_pos h10]at hR
  obtain⟨y,k,b1,hp,hg,hb⟩:=yx hR
  obtain⟨hk,hE⟩:=yS hl hF _ (zl hl h10) _ _ _ hp
  cases b1 with
  |false=>
   obtain⟨u,k2,b2,h11,h12,h13⟩:=yx (hg rfl)
   have hfin:xf=y∧jf=k2∧bf=b2:=by
    cases b2 with
    |false=>have e:=h12 rfl;cases e;exact⟨rfl,rfl,rfl⟩
    |true=>exact h13 rfl
   obtain⟨rfl,rfl,rfl⟩:=hfin
   have hT:=(xu hl _ hk _ _ _ _ h11).2
   refine gO T Tryz.func320 fun C hC=>?_
   repeat' first|refine gG ?_|(exfalso;exact absurd (by simpa using h) hk2)|(exfalso;exact absurd (by simpa using h) hk1)|refine gB (fun h=>?_) (fun h=>?_)|refine gI T (zu ht) ?_|refine zr hC ((zH hl hi (by assumption))) (nm [0]) rfl rfl (yJ.refl _) rfl rfl rfl rfl rfl rfl rfl rfl ?_|refine gR (zQ hl h10) (nm [0]) ?_|refine gR hE (nm [0]) ?_|refine gR hT (nm [0]) ?_|refine gL ?_
   exact gE
  |true=>
   obtain⟨rfl,rfl,rfl⟩:=hb rfl
   refine gO T Tryz.func320 fun C hC=>?_
   repeat' first|refine gG ?_|(exfalso;exact absurd (by simpa using h) hk2)|(exfalso;exact absurd (by simpa using h) hk1)|refine gB (fun h=>?_) (fun h=>?_)|refine gI T (zu ht) ?_|refine zr hC ((zH hl hi (by assumption))) (nm [0]) rfl rfl (yJ.refl _) rfl rfl rfl rfl rfl rfl rfl rfl ?_|refine gR (zQ hl h10) (nm [0]) ?_|refine gR hE (nm [0]) ?_|refine gR (yi hl _ hk _) (nm [0]) ?_|refine gL ?_
   exact gE
 rw[if_neg h10]at hR
 cases hR
 refine gO T Tryz.func320 fun C hC=>?_
 repeat' first|refine gG ?_|(exfalso;exact absurd (by simpa using h) hk2)|(exfalso;exact absurd (by simpa using h) hk1)|refine gB (fun h=>?_) (fun h=>?_)|refine gI T (zu ht) ?_|refine zr hC ((zH hl hi (by assumption))) (nm [0]) rfl rfl (yJ.refl _) rfl rfl rfl rfl rfl rfl rfl rfl ?_|refine gL ?_
 exact zg ⟨.inl rfl,id,_,rfl,jV _ _ _,⟨rfl,trivial⟩,rfl,rfl⟩
theorem zjM: ∀f:Nat,EX l f:=by
 intro f
 induction f using Nat.strongRecOn with
 |_ f ih=>
  cases f with
  |zero=>exact⟨(fun _ _ _ _ _ _ _ h=>by simp only[exprJ]at h;cases h),(fun _ _ _ _ _ h=>by simp only[postJ]at h;cases h),(fun _ _ _ _ _ h=>by simp only[primJ]at h;cases h),(fun _ _ _ _ _ h=>by simp only[argsJ]at h;cases h),(fun _ _ _ _ _ _ _ _ _ h=>by simp only[partsJ]at h;cases h)⟩
  |succ f=>
   have ih': ∀g,g≤f→EX l g:=fun g hg=>ih g (by omega)
   exact⟨fun n i hn hi=>zhU hl f ih' n i hn hi,fun i hi=>zhS hl f ih' i hi,fun i hi=>zhW hl f ih' i hi,fun i hi=>zhV hl f ih' i hi,fun i k op h1 h3 hi=>zfw hl f ih' i k op h1 h3 hi⟩
end
end Hw.Fr.Ps
namespace Hw.Fr.Ps
open Go Go.Proofs Hw.M
def F5(x:Ex):Prop:=x.op=5→ ∃y,x.l=[y]
theorem F5.of{op n:Int}{s:Str}{l:List Ex}(h:op≠5):F5 (.mk op n s l):=fun e=>absurd e h
theorem F5.one{op n:Int}{s:Str}{y:Ex}:F5 (.mk op n s [y]):=fun _=>⟨y,rfl⟩
theorem zpf{l:List Tok}{i n:Nat}{op:Int}(h:opA l i n=some op):9≤op:=by
 unfold opA at h
 rw[Option.map_eq_some_iff]at h
 obtain⟨a,h1,rfl⟩:=h
 have hm:=List.mem_of_find?_eq_some h1
 have: ∀n,∀a∈opsA n,9≤a.2:=by
  intro n
  by_cases h:n<6
  ·have:n=0∨n=1∨n=2∨n=3∨n=4∨n=5:=by omega
   rcases this with rfl|rfl|rfl|rfl|rfl|rfl<;>decide
  ·have:opsA n=[]:=by unfold opsA;split<;>first|omega|rfl
   rw[this];simp
 exact this n a hm
section
variable {l:List Tok}
theorem zuc: ∀f:Nat,(∀n i x j,exprA l f n i= .ok x j→F5 x)∧(∀n y i x j,F5 y→moreA l f n y i= .ok x j→F5 x)∧(∀i x j,postA l f i= .ok x j→F5 x)∧(∀y i x j,F5 y→dotsA l f y i= .ok x j→F5 x)∧(∀i x j,primA l f i= .ok x j→F5 x):=by
 intro f
 induction f with
 |zero=>
  refine⟨fun n i x j h=>?_,fun n y i x j _ h=>?_,fun i x j h=>?_,fun y i x j _ h=>?_,fun i x j h=>?_⟩
  all_goals simp only[exprA,moreA,postA,dotsA,primA,reduceCtorEq]at h
 |succ f ih=>
  obtain⟨iE,iM,iP,iD,iR⟩:=ih
  refine⟨fun n i x j h=>?_,fun n y i x j hy h=>?_,fun i x j h=>?_,fun y i x j hy h=>?_,fun i x j h=>?_⟩
  ·unfold exprA at h
   split at h
   ·split at h
    ·obtain⟨y,k,h1,h⟩:=ze h
     cases h;exact .one
    ·exact iE _ _ _ _ h
   ·split at h
    ·split at h
     ·obtain⟨y,k,h1,h⟩:=ze h
      cases h;exact .one
     ·exact iP _ _ _ h
    ·obtain⟨y,k,h1,h⟩:=ze h
     exact iM _ _ _ _ _ (iE _ _ _ _ h1) h
  ·unfold moreA at h
   split at h
   ·cases h;exact hy
   ·rename_i op ho
    have hb:=zpf ho
    obtain⟨z,k,h1,h⟩:=ze h
    split at h
    ·cases h;exact .of (by omega)
    ·exact iM _ _ _ _ _ (.of (by omega)) h
  ·unfold postA at h
   obtain⟨y,k,h1,h⟩:=ze h
   exact iD _ _ _ _ (iR _ _ _ h1) h
  ·unfold dotsA at h
   split at h
   ·obtain⟨s,k,h1,h⟩:=ze h
    exact iD _ _ _ _ .one h
   ·cases h;exact hy
  ·unfold primA at h
   cases hl:l[i]? with
   |none=>rw[hl]at h;cases h
   |some t=>
   rw[hl]at h
   simp only at h
   rcases zw h with⟨_,h⟩|⟨_,h⟩
   ·cases h;exact .of (by decide)
   rcases zw h with⟨_,h⟩|⟨_,h⟩
   ·rcases zw h with⟨_,h⟩|⟨_,h⟩
    ·obtain⟨a,k,h1,h⟩:=ze h;cases h;exact .of (by decide)
    ·cases h;exact .of (by decide)
   rcases zw h with⟨_,h⟩|⟨_,h⟩
   ·cases h;exact .of (by decide)
   rcases zw h with⟨_,h⟩|⟨_,h⟩
   ·cases h;exact .of (by decide)
   rcases zw h with⟨_,h⟩|⟨_,h⟩
   ·cases h;exact .of (by decide)
   rcases zw h with⟨_,h⟩|⟨_,h⟩
   ·cases h;exact .of (by decide)
   rcases zw h with⟨_,h⟩|⟨_,h⟩
   ·obtain⟨a,k,h1,h⟩:=ze h;cases h;exact .of (by decide)
   rcases zw h with⟨_,h⟩|⟨_,h⟩
   ·obtain⟨a,k,h1,h⟩:=ze h;cases h;exact .of (by decide)
   rcases zw h with⟨_,h⟩|⟨_,h⟩
   ·obtain⟨a,k,h1,h⟩:=ze h;cases h;exact .of (by decide)
   rcases zw h with⟨_,h⟩|⟨_,h⟩
   ·obtain⟨a,k,h1,h⟩:=ze h;cases h;exact .of (by decide)
   rcases zw h with⟨_,h⟩|⟨_,h⟩
   ·obtain⟨a,k,h1,h⟩:=ze h;cases h;exact .of (by decide)
   rcases zw h with⟨_,h⟩|⟨_,h⟩
   ·obtain⟨a,k,h1,h⟩:=ze h;obtain⟨u,k2,h2,h⟩:=ze h;cases h;exact iE _ _ _ _ h1
   ·cases h
theorem zjN{f i:Nat}{x:Ex}{j:Nat}(h:postJ l f i=some (x,j,false)):F5 x:=by
 have:=zmv h
 rw[(zbu f).2.2.1]at this
 exact(zuc f).2.2.1 _ _ _ this
end
end Hw.Fr.Ps
namespace Hw.Fr.Ps
open Go Go.Proofs Hw.M
section
variable {l:List Tok} (hl:wE l)
include hl
set_option maxHeartbeats 2000000 in
theorem zhX(f i:Nat)(hi:i<l.length)(h1: ¬isA l i (⟨#[105,102]⟩:ByteArray)=true)(h2: ¬isA l i (⟨#[119,104,105,108,101]⟩:ByteArray)=true)(h3: ¬isA l i (⟨#[114,101,116,117,114,110]⟩:ByteArray)=true){xf:Sm}{jf:Nat}{bf:Bool}
 (hR:PJ.go (postJ l f i) (fun x i=>
   if isA l i (⟨#[61]⟩:ByteArray)=true∧x.op=4∧x.s≠(⟨#[116,104,105,115]⟩:ByteArray)then PJ.go (exprJ l f 0 (i+1)) (fun y i=>PJ.go (vi l (⟨#[59]⟩:ByteArray) i) (fun _ i=> .ok (.mk 1 x.s [y] [] []) i) (fun _=> .mk 1 x.s [y] [] [])) (fun y=> .mk 1 x.s [y] [] [])
   else if isA l i (⟨#[61]⟩:ByteArray)=true∧x.op=5 then PJ.go (exprJ l f 0 (i+1)) (fun y i=>PJ.go (vi l (⟨#[59]⟩:ByteArray) i) (fun _ i=> .ok (.mk 2 x.s (x.l.take 1++[y]) [] []) i) (fun _=> .mk 2 x.s (x.l.take 1++[y]) [] [])) (fun y=> .mk 2 x.s (x.l.take 1++[y]) [] [])
   else if x.op=7 then PJ.go (vi l (⟨#[59]⟩:ByteArray) i) (fun _ i=> .ok (.mk 6 (⟨#[]⟩:ByteArray) [x] [] []) i) (fun _=> .mk 6 (⟨#[]⟩:ByteArray) [x] [] [])
   else .no (.mk 6 (⟨#[]⟩:ByteArray) [x] [] []) i) (fun x=> .mk 6 (⟨#[]⟩:ByteArray) [x] [] [])=some (xf,jf,bf)):
 zj Tryz.prog 270 [rdV] [(0,rdR l i false)] (zz (zc0 xf)) [(0,rdR l jf bf)]:=by
 have hll:=hl.len
 have hX:=zjM hl f
 obtain⟨x,k,b,hx,hg,hb⟩:=yx hR
 obtain⟨hk,hP⟩:=hX.post i hi _ _ _ hx
 cases b with
 |true=>
  obtain⟨rfl,rfl,rfl⟩:=hb rfl
  obtain⟨op,n,s,L⟩:=x
  refine gO T Tryz.func270 fun C hC=>?_
  repeat' first|refine gG ?_|(exfalso;simp at h;done)|refine gB (fun h=>?_) (fun h=>?_)|refine zr hC ((zH hl hi (by assumption))) (nm [0]) rfl rfl (yJ.refl _) rfl rfl rfl rfl rfl rfl rfl rfl ?_|refine gR hP (nm [0]) ?_|refine ya T hC (rows:=[zO (.mk op n s L)]) rfl rfl rfl (by simp only[zK];rfl) rfl rfl rfl rfl rfl ?_|refine gR (y8 hl _ hk _) (nm [0]) ?_|refine gR (yi hl _ hk _) (nm [0]) ?_|refine gL ?_
  all_goals (exact zg ⟨.inl rfl,id,_,rfl,.agg (.cons (.refl _) (.cons (.refl _) (.cons (.refl _) (.cons (.nil 5) (.cons (.nil 5) .nil))))),⟨rfl,trivial⟩,rfl,rfl⟩)
 |false=>
  have h5:=zjN hx
  have hd:=hg rfl
  clear hg hb hR hx
  obtain⟨op,n,s,L⟩:=x
  simp only[Ex.op,Ex.s,Ex.l]at hd
  simp only[F5,Ex.op,Ex.l]at h5
  by_cases h4:op=4
  ·subst h4
   simp only[true_and,reduceCtorEq,and_false,if_false,show ¬((4:Int)=5) by decide,show ¬((4:Int)=7) by decide]at hd
   by_cases ht:s=(⟨#[116,104,105,115]⟩:ByteArray)
   ·simp only[ht,ne_eq,not_true_eq_false,and_false,if_false]at hd
    subst ht
    have hd':xf= .mk 6 (⟨#[]⟩:ByteArray) [.mk 4 n (⟨#[116,104,105,115]⟩:ByteArray) L] [] []∧jf=k∧bf=true:=by cases hd;exact⟨rfl,rfl,rfl⟩
    obtain⟨rfl,rfl,rfl⟩:=hd'
    refine gO T Tryz.func270 fun C hC=>?_
    repeat' first|refine gG ?_|(exfalso;simp[Ex.op,Ex.s]at h;done)|refine gB (fun h=>?_) (fun h=>?_)|refine zr hC ((zH hl hi (by assumption))) (nm [0]) rfl rfl (yJ.refl _) rfl rfl rfl rfl rfl rfl rfl rfl ?_|refine gR hP (nm [0]) ?_|refine ya T hC (rows:=[zO (.mk 4 n (⟨#[116,104,105,115]⟩:ByteArray) L)]) rfl rfl rfl (by simp only[zK];rfl) rfl rfl rfl rfl rfl ?_|refine zr hC ((zH hl hk (by assumption))) (nm [0]) rfl rfl (yJ.refl _) rfl rfl rfl rfl rfl rfl rfl rfl ?_|refine gR (yi hl _ hk _) (nm [0]) ?_|refine gL ?_
    all_goals (exact zg ⟨.inl rfl,id,_,rfl,.agg (.cons (.refl _) (.cons (.refl _) (.cons (.refl _) (.cons (.nil 5) (.cons (.nil 5) .nil))))),⟨rfl,trivial⟩,rfl,rfl⟩)
   ·by_cases hs:isA l k (⟨#[61]⟩:ByteArray)=true
    ·rw[if_pos ⟨hs,ht⟩]at hd
     obtain⟨y,k1,b1,hy,hg1,hb1⟩:=yx hd
     obtain⟨hk1,hE⟩:=yS hl hX _ (zl hl hs) _ _ _ hy
     cases b1 with
     |true=>
      obtain⟨rfl,rfl,rfl⟩:=hb1 rfl
      refine gO T Tryz.func270 fun C hC=>?_
      repeat' first|refine gG ?_|(exfalso;simp[Ex.op,Ex.s,ht]at h;done)|refine gB (fun h=>?_) (fun h=>?_)|refine zr hC ((zH hl hi (by assumption))) (nm [0]) rfl rfl (yJ.refl _) rfl rfl rfl rfl rfl rfl rfl rfl ?_|refine gR hP (nm [0]) ?_|refine ya T hC (rows:=[zO (.mk 4 n s L)]) rfl rfl rfl (by simp only[zK];rfl) rfl rfl rfl rfl rfl ?_|refine gR (zQ hl hs) (nm [0]) ?_|refine gR hE (nm [0]) ?_|refine ya T hC (rows:=[zO y]) rfl rfl rfl (by simp only[zK];rfl) rfl rfl rfl rfl rfl ?_|refine gR (yi hl _ hk1 _) (nm [0]) ?_|refine gL ?_
      exact zg ⟨.inl rfl,id,_,rfl,.agg (.cons (.refl _) (.cons (.refl _) (.cons (.refl _) (.cons (.nil 5) (.cons (.nil 5) .nil))))),⟨rfl,trivial⟩,rfl,rfl⟩
     |false=>
      obtain⟨u,k2,b2,h4,h6,h7⟩:=yx (hg1 rfl)
      obtain⟨_,hT⟩:=xu hl _ hk1 _ _ _ _ h4
      have hfin:xf= .mk 1 s [y] [] []∧jf=k2∧bf=b2:=by
       cases b2 with
       |false=>have e:=h6 rfl;cases e;exact⟨rfl,rfl,rfl⟩
       |true=>exact h7 rfl
      obtain⟨rfl,rfl,rfl⟩:=hfin
      refine gO T Tryz.func270 fun C hC=>?_
      repeat' first|refine gG ?_|(exfalso;simp[Ex.op,Ex.s,ht]at h;done)|refine gB (fun h=>?_) (fun h=>?_)|refine zr hC ((zH hl hi (by assumption))) (nm [0]) rfl rfl (yJ.refl _) rfl rfl rfl rfl rfl rfl rfl rfl ?_|refine gR hP (nm [0]) ?_|refine ya T hC (rows:=[zO (.mk 4 n s L)]) rfl rfl rfl (by simp only[zK];rfl) rfl rfl rfl rfl rfl ?_|refine gR (zQ hl hs) (nm [0]) ?_|refine gR hE (nm [0]) ?_|refine ya T hC (rows:=[zO y]) rfl rfl rfl (by simp only[zK];rfl) rfl rfl rfl rfl rfl ?_|refine gR hT (nm [0]) ?_|refine gL ?_
      exact zg ⟨.inl rfl,id,_,rfl,.agg (.cons (.refl _) (.cons (.refl _) (.cons (.refl _) (.cons (.nil 5) (.cons (.nil 5) .nil))))),⟨rfl,trivial⟩,rfl,rfl⟩
    ·simp only[hs,false_and,if_false]at hd
     have hd':xf= .mk 6 (⟨#[]⟩:ByteArray) [.mk 4 n s L] [] []∧jf=k∧bf=true:=by cases hd;exact⟨rfl,rfl,rfl⟩
     obtain⟨rfl,rfl,rfl⟩:=hd'
     refine gO T Tryz.func270 fun C hC=>?_
     repeat' first|refine gG ?_|(exfalso;simp[Ex.op,Ex.s,ht]at h;done)|refine gB (fun h=>?_) (fun h=>?_)|refine zr hC ((zH hl hi (by assumption))) (nm [0]) rfl rfl (yJ.refl _) rfl rfl rfl rfl rfl rfl rfl rfl ?_|refine gR hP (nm [0]) ?_|refine ya T hC (rows:=[zO (.mk 4 n s L)]) rfl rfl rfl (by simp only[zK];rfl) rfl rfl rfl rfl rfl ?_|refine zr hC ((zH hl hk (by assumption))) (nm [0]) rfl rfl (yJ.refl _) rfl rfl rfl rfl rfl rfl rfl rfl ?_|refine gR (yi hl _ hk _) (nm [0]) ?_|refine gL ?_
     all_goals (exact zg ⟨.inl rfl,id,_,rfl,.agg (.cons (.refl _) (.cons (.refl _) (.cons (.refl _) (.cons (.nil 5) (.cons (.nil 5) .nil))))),⟨rfl,trivial⟩,rfl,rfl⟩)
  simp only[h4,false_and,and_false,if_false]at hd
  by_cases h55:op=5
  ·subst h55
   obtain⟨y0,rfl⟩:=h5 rfl
   simp only[and_true,show ¬((5:Int)=7) by decide,if_false]at hd
   by_cases hs:isA l k (⟨#[61]⟩:ByteArray)=true
   ·rw[if_pos hs]at hd
    obtain⟨y,k1,b1,hy,hg1,hb1⟩:=yx hd
    obtain⟨hk1,hE⟩:=yS hl hX _ (zl hl hs) _ _ _ hy
    cases b1 with
    |true=>
     obtain⟨rfl,rfl,rfl⟩:=hb1 rfl
     refine gO T Tryz.func270 fun C hC=>?_
     repeat' first|refine gG ?_|(exfalso;simp[Ex.op,Ex.s]at h;done)|refine gB (fun h=>?_) (fun h=>?_)|refine zr hC ((zH hl hi (by assumption))) (nm [0]) rfl rfl (yJ.refl _) rfl rfl rfl rfl rfl rfl rfl rfl ?_|refine gR hP (nm [0]) ?_|refine ya T hC (rows:=[zO (.mk 5 n s [y0])]) rfl rfl rfl (by simp only[zK];rfl) rfl rfl rfl rfl rfl ?_|refine gR (zQ hl hs) (nm [0]) ?_|refine yh T hC (row:=yQ y0) rfl rfl rfl (Int.le_refl _) (zaj (l:=[y0]) (i:=0) rfl) rfl rfl ?_|refine gR hE (nm [0]) ?_|refine ya T hC (rows:=[zO y0,zO y]) rfl rfl rfl (by simp only[zK];rfl) rfl rfl rfl rfl rfl ?_|refine gR (yi hl _ hk1 _) (nm [0]) ?_|refine gL ?_
     exact zg ⟨.inl rfl,id,_,rfl,.agg (.cons (.refl _) (.cons (.refl _) (.cons (.refl _) (.cons (.nil 5) (.cons (.nil 5) .nil))))),⟨rfl,trivial⟩,rfl,rfl⟩
    |false=>
     obtain⟨u,k2,b2,h4,h6,h7⟩:=yx (hg1 rfl)
     obtain⟨_,hT⟩:=xu hl _ hk1 _ _ _ _ h4
     have hfin:xf= .mk 2 s [y0,y] [] []∧jf=k2∧bf=b2:=by
      cases b2 with
      |false=>have e:=h6 rfl;cases e;exact⟨rfl,rfl,rfl⟩
      |true=>exact h7 rfl
     obtain⟨rfl,rfl,rfl⟩:=hfin
     refine gO T Tryz.func270 fun C hC=>?_
     repeat' first|refine gG ?_|(exfalso;simp[Ex.op,Ex.s]at h;done)|refine gB (fun h=>?_) (fun h=>?_)|refine zr hC ((zH hl hi (by assumption))) (nm [0]) rfl rfl (yJ.refl _) rfl rfl rfl rfl rfl rfl rfl rfl ?_|refine gR hP (nm [0]) ?_|refine ya T hC (rows:=[zO (.mk 5 n s [y0])]) rfl rfl rfl (by simp only[zK];rfl) rfl rfl rfl rfl rfl ?_|refine gR (zQ hl hs) (nm [0]) ?_|refine yh T hC (row:=yQ y0) rfl rfl rfl (Int.le_refl _) (zaj (l:=[y0]) (i:=0) rfl) rfl rfl ?_|refine gR hE (nm [0]) ?_|refine ya T hC (rows:=[zO y0,zO y]) rfl rfl rfl (by simp only[zK];rfl) rfl rfl rfl rfl rfl ?_|refine gR hT (nm [0]) ?_|refine gL ?_
     exact zg ⟨.inl rfl,id,_,rfl,.agg (.cons (.refl _) (.cons (.refl _) (.cons (.refl _) (.cons (.nil 5) (.cons (.nil 5) .nil))))),⟨rfl,trivial⟩,rfl,rfl⟩
   ·rw[if_neg hs]at hd
    have hd':xf= .mk 6 (⟨#[]⟩:ByteArray) [.mk 5 n s [y0]] [] []∧jf=k∧bf=true:=by cases hd;exact⟨rfl,rfl,rfl⟩
    obtain⟨rfl,rfl,rfl⟩:=hd'
    refine gO T Tryz.func270 fun C hC=>?_
    repeat' first|refine gG ?_|(exfalso;simp[Ex.op,Ex.s]at h;done)|refine gB (fun h=>?_) (fun h=>?_)|refine zr hC ((zH hl hi (by assumption))) (nm [0]) rfl rfl (yJ.refl _) rfl rfl rfl rfl rfl rfl rfl rfl ?_|refine gR hP (nm [0]) ?_|refine ya T hC (rows:=[zO (.mk 5 n s [y0])]) rfl rfl rfl (by simp only[zK];rfl) rfl rfl rfl rfl rfl ?_|refine zr hC ((zH hl hk (by assumption))) (nm [0]) rfl rfl (yJ.refl _) rfl rfl rfl rfl rfl rfl rfl rfl ?_|refine gR (yi hl _ hk _) (nm [0]) ?_|refine gL ?_
    all_goals (exact zg ⟨.inl rfl,id,_,rfl,.agg (.cons (.refl _) (.cons (.refl _) (.cons (.refl _) (.cons (.nil 5) (.cons (.nil 5) .nil))))),⟨rfl,trivial⟩,rfl,rfl⟩)
  simp only[h55,and_false,if_false]at hd
  by_cases h7:op=7
  ·subst h7
   simp only[eq_self,if_true]at hd
   obtain⟨u,k2,b2,h4',h6,h7⟩:=yx hd
   obtain⟨_,hT⟩:=xu hl _ hk _ _ _ _ h4'
   have hfin:xf= .mk 6 (⟨#[]⟩:ByteArray) [.mk 7 n s L] [] []∧jf=k2∧bf=b2:=by
    cases b2 with
    |false=>have e:=h6 rfl;cases e;exact⟨rfl,rfl,rfl⟩
    |true=>exact h7 rfl
   obtain⟨rfl,rfl,rfl⟩:=hfin
   refine gO T Tryz.func270 fun C hC=>?_
   repeat' first|refine gG ?_|(exfalso;simp[Ex.op,Ex.s]at h;done)|refine gB (fun h=>?_) (fun h=>?_)|refine zr hC ((zH hl hi (by assumption))) (nm [0]) rfl rfl (yJ.refl _) rfl rfl rfl rfl rfl rfl rfl rfl ?_|refine gR hP (nm [0]) ?_|refine ya T hC (rows:=[zO (.mk 7 n s L)]) rfl rfl rfl (by simp only[zK];rfl) rfl rfl rfl rfl rfl ?_|refine gR hT (nm [0]) ?_|refine gL ?_
   exact zg ⟨.inl rfl,id,_,rfl,.agg (.cons (.refl _) (.cons (.refl _) (.cons (.refl _) (.cons (.nil 5) (.cons (.nil 5) .nil))))),⟨rfl,trivial⟩,rfl,rfl⟩
  simp only[h7,if_false]at hd
  have hd':xf= .mk 6 (⟨#[]⟩:ByteArray) [.mk op n s L] [] []∧jf=k∧bf=true:=by cases hd;exact⟨rfl,rfl,rfl⟩
  obtain⟨rfl,rfl,rfl⟩:=hd'
  refine gO T Tryz.func270 fun C hC=>?_
  repeat' first|refine gG ?_|(exfalso;simp[Ex.op,Ex.s,h4,h55,h7]at h;done)|refine gB (fun h=>?_) (fun h=>?_)|refine zr hC ((zH hl hi (by assumption))) (nm [0]) rfl rfl (yJ.refl _) rfl rfl rfl rfl rfl rfl rfl rfl ?_|refine gR hP (nm [0]) ?_|refine ya T hC (rows:=[zO (.mk op n s L)]) rfl rfl rfl (by simp only[zK];rfl) rfl rfl rfl rfl rfl ?_|refine zr hC ((zH hl hk (by assumption))) (nm [0]) rfl rfl (yJ.refl _) rfl rfl rfl rfl rfl rfl rfl rfl ?_|refine gR (yi hl _ hk _) (nm [0]) ?_|refine gL ?_
  all_goals (exact zg ⟨.inl rfl,id,_,rfl,.agg (.cons (.refl _) (.cons (.refl _) (.cons (.refl _) (.cons (.nil 5) (.cons (.nil 5) .nil))))),⟨rfl,trivial⟩,rfl,rfl⟩)
end
end Hw.Fr.Ps
namespace Hw.Fr.Ps
open Go Go.Proofs Hw.M
theorem zjO{l:List Tok}{f i:Nat}{x:Sm}{j:Nat}(h:zaV l f i=some (x,j,false)):i<j:=by
 have:=zmv h
 rw[(zjl f).2.2]at this
 exact((zcY f).2.2 _ _ _ this).1
structure SX (l:List Tok) (f:Nat):Prop where
 stmts: ∀i,i<l.length→RJ l 226 [rdV] (fun a=>pS (y7 a)) i (stmtsJ l f i [])
 block: ∀i,i<l.length→RJ l 296 [rdV] (fun a=>pS (y7 a)) i (wN l f i)
 stmt: ∀i,i<l.length→RJ l 270 [rdV] (fun s=>zz (zc0 s)) i (zaV l f i)
section
variable {l:List Tok} (hl:wE l)
include hl
theorem zfx(f:Nat)(ih: ∀g,g≤f→SX l g)(i:Nat)(hi:i<l.length):RJ l 296 [rdV] (fun a=>pS (y7 a)) i (wN l (f+1) i):=by
 intro xf jf bf hR
 have hjf:=(zc4 hl (f+1)).2.1 i hi _ _ _ hR
 refine⟨hjf,?_⟩
 simp only[wN]at hR
 obtain⟨u,k,b,h1,h2,h3⟩:=yx hR
 obtain⟨hk,hT⟩:=xu hl i hi _ _ _ _ h1
 cases b with
 |true=>
  obtain⟨rfl,rfl,rfl⟩:=h3 rfl
  refine gO T Tryz.func296 fun C hC=>?_
  repeat' first|refine gG ?_|refine gB (fun h=>?_) (fun h=>?_)|refine gR hT (nm [0]) ?_|refine gR (zan hl _ hk) (nm [0]) ?_|refine gL ?_
  exact gE
 |false=>
  obtain⟨_,hS⟩:=(ih f (Nat.le_refl _)).stmts k hk _ _ _ (h2 rfl)
  refine gO T Tryz.func296 fun C hC=>?_
  repeat' first|refine gG ?_|refine gB (fun h=>?_) (fun h=>?_)|refine gR hT (nm [0]) ?_|refine gR hS (nm [0]) ?_|refine gL ?_
  exact gE
theorem zfy(f:Nat)(ih: ∀g,g≤f→SX l g)(i:Nat)(hi:i<l.length):RJ l 226 [rdV] (fun a=>pS (y7 a)) i (stmtsJ l (f+1) i []):=by
 intro af jf bf hR
 have hjf:=(zc4 hl (f+1)).1 i [] hi _ _ _ hR
 refine⟨hjf,?_⟩
 have hll:=hl.len
 refine gO T Tryz.func226 fun C hC=>?_
 repeat' first|refine gG ?_|refine gB (fun h=>?_) (fun h=>?_)
 refine yo hC rfl 101 5 rfl [(3,.one (.ar 101))] ⟨⟨_,rfl,AdS.nil⟩,trivial⟩ [] trivial ?_
 refine zy (fun q:List Sm×Nat×Bool×Nat=>q.2.1<l.length∧q.2.2.2≤f+1∧q.1.length≤100001∧(q.2.2.1=false→q.1.length≤q.2.1∧stmtsJ l q.2.2.2 q.2.1 q.1=some (af,jf,bf))∧(q.2.2.1=true→af=q.1∧jf=q.2.1∧bf=true))
  (fun q=>([(0,rdV),(3,.one (.ar 101))],[(0,some (rdR l q.2.1 q.2.2.1)),(101,some (Res.arr 5 (q.1.map wF)))])) (fun q=>if q.2.2.1 then 0 else q.2.2.2+1) hC
  ([],i,false,f+1) ⟨hi,Nat.le_refl _,Nat.zero_le _,fun _=>⟨Nat.zero_le _,hR⟩,fun h=>by cases h⟩ id gM ?_
 clear hi hR
 rintro⟨acc,k,b1,g⟩ ⟨hk,hgf,hlen,hg,hb⟩
 simp only at hk hgf hlen hg hb
 cases b1 with
 |true=>
  obtain⟨rfl,rfl,rfl⟩:=hb rfl
  repeat' first|refine gG ?_|(exfalso;simp at h;done)|refine gB (fun h=>?_) (fun h=>?_)|refine zp ?_|refine gR (yi hl _ hk _) (nm [0]) ?_|refine gL ?_
  refine zm rfl (id:=101) (e:=5) (rows:=af.map wF) rfl [(2,pS (y7 af))] ⟨⟨_,rfl,FrS.ar⟩,trivial⟩ [] trivial ?_
  exact gE
 |false=>
  obtain⟨hak,hd⟩:=hg rfl
  clear hg hb
  cases g with
  |zero=>simp only[stmtsJ]at hd;cases hd
  |succ g=>
   simp only[stmtsJ]at hd
   have hal:(acc.map wF).length=acc.length:=List.length_map _
   by_cases hs:isA l k ⟨#[125]⟩=true
   ·rw[if_pos hs]at hd
    cases hd
    repeat' first|refine gG ?_|(exfalso;simp at h;done)|refine gB (fun h=>?_) (fun h=>?_)|refine gR (zhP hl hs) (nm [0]) ?_|refine zp ?_|refine gR (jB hl hs) (nm [0]) ?_|refine gL ?_
    refine zm rfl (id:=101) (e:=5) (rows:=af.map wF) rfl [(2,pS (y7 af))] ⟨⟨_,rfl,FrS.ar⟩,trivial⟩ [] trivial ?_
    exact gE
   ·rw[if_neg hs]at hd
    obtain⟨y,k2,b2,h4,h5,h6⟩:=yx hd
    obtain⟨hk2,hE⟩:=(ih g (by omega)).stmt k hk _ _ _ h4
    have hal':(acc++[y]).length=acc.length+1:=by simp
    repeat' first|refine gG ?_|(exfalso;simp at h;done)|refine gB (fun h=>?_) (fun h=>?_)|refine gR (zbA hl hk hs) (nm [0]) ?_|refine gR hE (nm [0]) ?_|refine ya T hC (rows:=[wF y]) rfl rfl rfl (by simp only[zc6];rfl) rfl rfl rfl rfl rfl ?_|(refine zC T 102 hC (rows:=acc.map wF) (rows2:=[wF y]) (rows3:=(acc++[y]).map wF) (bytes:=96) rfl rfl rfl rfl (xj.sl (T.es_ok _ _ rfl)) (by rw[List.map_append];rfl) rfl rfl rfl (by kernel_rfl) (by rw[hal,List.length_singleton];omega) (by rw[hal,List.length_singleton];omega) rfl rfl rfl ?_)
    exact zh (acc++[y],k2,b2,g) ⟨hk2,by simp only;omega,by simp only;omega,fun e=>by subst e;exact⟨by have:=zjO h4;simp only;omega,h5 rfl⟩,h6⟩ (mvP 101 102) (by cases b2<;>simp) ⟨rfl,⟨rfl,rfl,trivial⟩,⟨rfl,rfl,trivial⟩,rfl,fun i hi=>xx (by omega) hi⟩
set_option maxHeartbeats 2000000 in
theorem zhY(f:Nat)(ih: ∀g,g≤f→SX l g)(i:Nat)(hi:i<l.length):RJ l 270 [rdV] (fun s=>zz (zc0 s)) i (zaV l (f+1) i):=by
 intro xf jf bf hR
 have hjf:=(zc4 hl (f+1)).2.2 i hi _ _ _ hR
 refine⟨hjf,?_⟩
 have hll:=hl.len
 have hS:=ih f (Nat.le_refl _)
 have hX:=zjM hl f
 simp only[zaV]at hR
 by_cases h1:isA l i (⟨#[105,102]⟩:ByteArray)=true
 ·rw[if_pos h1]at hR
  have hi1:=zl hl h1
  obtain⟨x,k,b,hx,hg,hb⟩:=yx hR
  obtain⟨hk,hE⟩:=yS hl hX _ hi1 _ _ _ hx
  cases b with
  |true=>
   obtain⟨rfl,rfl,rfl⟩:=hb rfl
   refine gO T Tryz.func270 fun C hC=>?_
   repeat' first|refine gG ?_|refine gB (fun h=>?_) (fun h=>?_)|refine gR (zQ hl h1) (nm [0]) ?_|refine gR hE (nm [0]) ?_|refine ya T hC (rows:=[zO x]) rfl rfl rfl (by simp only[zK];rfl) rfl rfl rfl rfl rfl ?_|refine gR (zcl hl _ hk) (nm [0]) ?_|refine gR (y8 hl _ hk _) (nm [0]) ?_|refine gL ?_
   exact zg ⟨.inl rfl,id,_,rfl,.agg (.cons (.refl _) (.cons (.refl _) (.cons (.refl _) (.cons (.refl _) (.cons (.nil 5) .nil))))),⟨rfl,trivial⟩,rfl,rfl⟩
  |false=>
   obtain⟨a,k2,b2,ha,hg2,hb2⟩:=yx (hg rfl)
   obtain⟨hk2,hB⟩:=hS.block k hk _ _ _ ha
   cases b2 with
   |true=>
    obtain⟨rfl,rfl,rfl⟩:=hb2 rfl
    refine gO T Tryz.func270 fun C hC=>?_
    repeat' first|refine gG ?_|refine gB (fun h=>?_) (fun h=>?_)|refine gR (zQ hl h1) (nm [0]) ?_|refine gR hE (nm [0]) ?_|refine ya T hC (rows:=[zO x]) rfl rfl rfl (by simp only[zK];rfl) rfl rfl rfl rfl rfl ?_|refine gR hB (nm [0]) ?_|refine gR (y8 hl _ hk2 _) (nm [0]) ?_|refine gL ?_
    exact zg ⟨.inl rfl,id,_,rfl,.agg (.cons (.refl _) (.cons (.refl _) (.cons (.refl _) (.cons (.refl _) (.cons (.nil 5) .nil))))),⟨rfl,trivial⟩,rfl,rfl⟩
   |false=>
    have hd:=hg2 rfl
    by_cases hs:isA l k2 (⟨#[101,108,115,101]⟩:ByteArray)=true
    ·rw[if_pos hs]at hd
     obtain⟨c,hc,rfl⟩:=zaO hd
     obtain⟨_,hB2⟩:=hS.block _ (zl hl hs) _ _ _ hc
     refine gO T Tryz.func270 fun C hC=>?_
     repeat' first|refine gG ?_|refine gB (fun h=>?_) (fun h=>?_)|refine gR (zQ hl h1) (nm [0]) ?_|refine gR hE (nm [0]) ?_|refine ya T hC (rows:=[zO x]) rfl rfl rfl (by simp only[zK];rfl) rfl rfl rfl rfl rfl ?_|refine gR hB (nm [0]) ?_|refine gR (zQ hl hs) (nm [0]) ?_|refine gR hB2 (nm [0]) ?_|refine gL ?_
     exact zg ⟨.inl rfl,id,_,rfl,.agg (.cons (.refl _) (.cons (.refl _) (.cons (.refl _) (.cons (.refl _) (.cons (.refl _) .nil))))),⟨rfl,trivial⟩,rfl,rfl⟩
    ·rw[if_neg hs]at hd
     cases hd
     refine gO T Tryz.func270 fun C hC=>?_
     repeat' first|refine gG ?_|refine gB (fun h=>?_) (fun h=>?_)|refine gR (zQ hl h1) (nm [0]) ?_|refine gR hE (nm [0]) ?_|refine ya T hC (rows:=[zO x]) rfl rfl rfl (by simp only[zK];rfl) rfl rfl rfl rfl rfl ?_|refine gR hB (nm [0]) ?_|refine gR (zH hl hk2 hs) (nm [0]) ?_|refine gL ?_
     exact zg ⟨.inl rfl,id,_,rfl,.agg (.cons (.refl _) (.cons (.refl _) (.cons (.refl _) (.cons (.refl _) (.cons (.nil 5) .nil))))),⟨rfl,trivial⟩,rfl,rfl⟩
 rw[if_neg h1]at hR
 by_cases h2:isA l i (⟨#[119,104,105,108,101]⟩:ByteArray)=true
 ·rw[if_pos h2]at hR
  have hi1:=zl hl h2
  obtain⟨x,k,b,hx,hg,hb⟩:=yx hR
  obtain⟨hk,hE⟩:=yS hl hX _ hi1 _ _ _ hx
  cases b with
  |true=>
   obtain⟨rfl,rfl,rfl⟩:=hb rfl
   refine gO T Tryz.func270 fun C hC=>?_
   repeat' first|refine gG ?_|refine gB (fun h=>?_) (fun h=>?_)|refine zr hC ((zH hl hi (by assumption))) (nm [0]) rfl rfl (yJ.refl _) rfl rfl rfl rfl rfl rfl rfl rfl ?_|refine gR (zQ hl h2) (nm [0]) ?_|refine gR hE (nm [0]) ?_|refine ya T hC (rows:=[zO x]) rfl rfl rfl (by simp only[zK];rfl) rfl rfl rfl rfl rfl ?_|refine gR (zcl hl _ hk) (nm [0]) ?_|refine gL ?_
   exact zg ⟨.inl rfl,id,_,rfl,.agg (.cons (.refl _) (.cons (.refl _) (.cons (.refl _) (.cons (.refl _) (.cons (.nil 5) .nil))))),⟨rfl,trivial⟩,rfl,rfl⟩
  |false=>
   obtain⟨a,ha,rfl⟩:=zaO (hg rfl)
   obtain⟨_,hB⟩:=hS.block k hk _ _ _ ha
   refine gO T Tryz.func270 fun C hC=>?_
   repeat' first|refine gG ?_|refine gB (fun h=>?_) (fun h=>?_)|refine zr hC ((zH hl hi (by assumption))) (nm [0]) rfl rfl (yJ.refl _) rfl rfl rfl rfl rfl rfl rfl rfl ?_|refine gR (zQ hl h2) (nm [0]) ?_|refine gR hE (nm [0]) ?_|refine ya T hC (rows:=[zO x]) rfl rfl rfl (by simp only[zK];rfl) rfl rfl rfl rfl rfl ?_|refine gR hB (nm [0]) ?_|refine gL ?_
   exact zg ⟨.inl rfl,id,_,rfl,.agg (.cons (.refl _) (.cons (.refl _) (.cons (.refl _) (.cons (.refl _) (.cons (.nil 5) .nil))))),⟨rfl,trivial⟩,rfl,rfl⟩
 rw[if_neg h2]at hR
 by_cases h3:isA l i (⟨#[114,101,116,117,114,110]⟩:ByteArray)=true
 ·rw[if_pos h3]at hR
  have hi1:=zl hl h3
  by_cases hs:isA l (i+1) (⟨#[59]⟩:ByteArray)=true
  ·rw[if_pos hs]at hR
   cases hR
   refine gO T Tryz.func270 fun C hC=>?_
   repeat' first|refine gG ?_|(exfalso;simp at h;done)|refine gB (fun h=>?_) (fun h=>?_)|refine zr hC ((zH hl hi (by assumption))) (nm [0]) rfl rfl (yJ.refl _) rfl rfl rfl rfl rfl rfl rfl rfl ?_|refine gR (zQ hl h3) (nm [0]) ?_|refine gR (zhP hl hs) (nm [0]) ?_|refine gR (jB hl hs) (nm [0]) ?_|refine gL ?_
   exact zg ⟨.inl rfl,id,_,rfl,.agg (.cons (.refl _) (.cons (.refl _) (.cons (.nil 4) (.cons (.nil 5) (.cons (.nil 5) .nil))))),⟨rfl,trivial⟩,rfl,rfl⟩
  ·rw[if_neg hs]at hR
   obtain⟨x,k,b,hx,hg,hb⟩:=yx hR
   obtain⟨hk,hE⟩:=yS hl hX _ hi1 _ _ _ hx
   cases b with
   |true=>
    obtain⟨rfl,rfl,rfl⟩:=hb rfl
    refine gO T Tryz.func270 fun C hC=>?_
    repeat' first|refine gG ?_|(exfalso;simp at h;done)|refine gB (fun h=>?_) (fun h=>?_)|refine zr hC ((zH hl hi (by assumption))) (nm [0]) rfl rfl (yJ.refl _) rfl rfl rfl rfl rfl rfl rfl rfl ?_|refine gR (zQ hl h3) (nm [0]) ?_|refine gR (zbA hl hi1 hs) (nm [0]) ?_|refine gR hE (nm [0]) ?_|refine ya T hC (rows:=[zO x]) rfl rfl rfl (by simp only[zK];rfl) rfl rfl rfl rfl rfl ?_|refine gR (yi hl _ hk _) (nm [0]) ?_|refine gL ?_
    exact zg ⟨.inl rfl,id,_,rfl,.agg (.cons (.refl _) (.cons (.refl _) (.cons (.refl _) (.cons (.nil 5) (.cons (.nil 5) .nil))))),⟨rfl,trivial⟩,rfl,rfl⟩
   |false=>
    obtain⟨u,k2,b2,h4,h5,h6⟩:=yx (hg rfl)
    obtain⟨_,hT⟩:=xu hl _ hk _ _ _ _ h4
    have hfin:xf= .mk 5 (⟨#[]⟩:ByteArray) [x] [] []∧jf=k2∧bf=b2:=by
     cases b2 with
     |false=>have e:=h5 rfl;cases e;exact⟨rfl,rfl,rfl⟩
     |true=>exact h6 rfl
    obtain⟨rfl,rfl,rfl⟩:=hfin
    refine gO T Tryz.func270 fun C hC=>?_
    repeat' first|refine gG ?_|(exfalso;simp at h;done)|refine gB (fun h=>?_) (fun h=>?_)|refine zr hC ((zH hl hi (by assumption))) (nm [0]) rfl rfl (yJ.refl _) rfl rfl rfl rfl rfl rfl rfl rfl ?_|refine gR (zQ hl h3) (nm [0]) ?_|refine gR (zbA hl hi1 hs) (nm [0]) ?_|refine gR hE (nm [0]) ?_|refine ya T hC (rows:=[zO x]) rfl rfl rfl (by simp only[zK];rfl) rfl rfl rfl rfl rfl ?_|refine gR hT (nm [0]) ?_|refine gL ?_
    exact zg ⟨.inl rfl,id,_,rfl,.agg (.cons (.refl _) (.cons (.refl _) (.cons (.refl _) (.cons (.nil 5) (.cons (.nil 5) .nil))))),⟨rfl,trivial⟩,rfl,rfl⟩
 rw[if_neg h3]at hR
 exact zhX hl f i hi h1 h2 h3 hR
theorem zrb: ∀f:Nat,SX l f:=by
 intro f
 induction f using Nat.strongRecOn with
 |_ f ih=>
  cases f with
  |zero=>exact⟨(fun _ _ _ _ _ h=>by simp only[stmtsJ]at h;cases h),(fun _ _ _ _ _ h=>by simp only[wN]at h;cases h),(fun _ _ _ _ _ h=>by simp only[zaV]at h;cases h)⟩
  |succ f=>
   have ih': ∀g,g≤f→SX l g:=fun g hg=>ih g (by omega)
   exact⟨fun i hi=>zfy hl f ih' i hi,fun i hi=>zfx hl f ih' i hi,fun i hi=>zhY hl f ih' i hi⟩
end
end Hw.Fr.Ps
namespace Hw.Fr.Ps
open Go Go.Proofs Hw.M
theorem zcm{l:List Tok}{i:Nat}{x:Fld}{j:Nat}(h:xR l i=some (x,j,false)):i<j:=by
 have:=zmv h
 rw[za4]at this
 exact wv this
abbrev F0:Fld:=⟨(⟨#[]⟩:ByteArray),(⟨#[]⟩:ByteArray)⟩
section
variable {l:List Tok} (hl:wE l)
include hl
theorem zjP(sep fin:Str)(f i:Nat)(hi:i<l.length):RJ l 174 [rdV,Sr sep,Sr fin,.one (.cl 175 [.bx 0 0] [])] (fun a=>pS (yE a)) i (listJ l F0 sep fin (xR l) f i []):=by
 intro af jf bf hR
 have hjf:=zc5 hl F0 sep fin (xR l) (fun _ h=> .field hl h) f i [] hi _ _ _ hR
 refine⟨hjf,?_⟩
 have hll:=hl.len
 refine gO T Tryz.func174 fun C hC=>?_
 repeat' first|refine gG ?_|refine gB (fun h=>?_) (fun h=>?_)
 refine yo hC rfl 101 2 rfl [(9,.one (.ar 101))] ⟨⟨_,rfl,AdS.nil⟩,trivial⟩ [] trivial ?_
 refine zy (fun q:List Fld×Nat×Bool×Nat=>q.2.1<l.length∧q.2.2.2≤f∧q.1.length≤100001∧(q.2.2.1=false→q.1.length≤q.2.1∧listJ l F0 sep fin (xR l) q.2.2.2 q.2.1 q.1=some (af,jf,bf))∧(q.2.2.1=true→af=q.1∧jf=q.2.1∧bf=true))
  (fun q=>([(0,rdV),(1,Sr sep),(2,Sr fin),(3,.one (.cl 175 [.bx 0 0] [])),(9,.one (.ar 101))],[(0,some (rdR l q.2.1 q.2.2.1)),(101,some (Res.arr 2 (q.1.map zn)))])) (fun q=>if q.2.2.1 then 0 else q.2.2.2+1) hC
  ([],i,false,f) ⟨hi,Nat.le_refl _,Nat.zero_le _,fun _=>⟨Nat.zero_le _,hR⟩,fun h=>by cases h⟩ id gM ?_
 clear hi hR
 rintro⟨acc,k,b1,g⟩ ⟨hk,hgf,hlen,hg,hb⟩
 simp only at hk hgf hlen hg hb
 cases b1 with
 |true=>
  obtain⟨rfl,rfl,rfl⟩:=hb rfl
  repeat' first|refine gG ?_|refine gB (fun h=>?_) (fun h=>?_)|refine gR (yi hl _ hk _) (nm [0]) ?_|refine zp ?_|refine gL ?_
  refine zm rfl (id:=101) (e:=2) (rows:=af.map zn) rfl [(8,pS (yE af))] ⟨⟨_,rfl,FrS.ar⟩,trivial⟩ [] trivial ?_
  exact gE
 |false=>
  obtain⟨hak,hd⟩:=hg rfl
  clear hg hb
  cases g with
  |zero=>simp only[listJ]at hd;cases hd
  |succ g=>
   simp only[listJ]at hd
   have hal:(acc.map zn).length=acc.length:=List.length_map _
   by_cases hs:isA l k fin=true
   ·rw[if_pos hs]at hd
    cases hd
    repeat' first|refine gG ?_|refine gB (fun h=>?_) (fun h=>?_)|refine gR (zhP hl hs) (nm [0]) ?_|refine zp ?_|refine gR (jB hl hs) (nm [0]) ?_|refine gL ?_
    refine zm rfl (id:=101) (e:=2) (rows:=af.map zn) rfl [(8,pS (yE af))] ⟨⟨_,rfl,FrS.ar⟩,trivial⟩ [] trivial ?_
    exact gE
   ·rw[if_neg hs]at hd
    obtain⟨u,k1,b1,h1,h2,h3⟩:=yx hd
    rcases zod hl h1 with⟨h0,rfl,rfl⟩|⟨h0,hsep,rfl,rfl⟩|⟨h0,hsep,rfl,rfl⟩
    ·obtain⟨y,k2,b2,h4,h5,h6⟩:=yx (h2 rfl)
     obtain⟨hk2,hE⟩:=jU hl _ hk _ _ _ h4
     have hal':(acc++[y]).length=acc.length+1:=by simp
     repeat' first|refine gG ?_|(exfalso;have h':=of_decide_eq_true h;rw[hal]at h';omega)|refine gB (fun h=>?_) (fun h=>?_)|refine gR (zbA hl hk hs) (nm [0]) ?_|refine gR hE (nm [0]) ?_|refine ya T hC (rows:=[zn y]) rfl rfl rfl rfl rfl rfl rfl rfl rfl ?_|(refine zC T 102 hC (rows:=acc.map zn) (rows2:=[zn y]) (rows3:=(acc++[y]).map zn) (bytes:=32) rfl rfl rfl rfl (xj.sl (T.es_ok _ _ rfl)) (by rw[List.map_append];rfl) rfl rfl rfl (by kernel_rfl) (by rw[hal,List.length_singleton];omega) (by rw[hal,List.length_singleton];omega) rfl rfl rfl ?_)
     exact zh (acc++[y],k2,b2,g) ⟨hk2,by simp only;omega,by simp only;omega,fun e=>by subst e;exact⟨by have:=zcm h4;simp only;omega,h5 rfl⟩,h6⟩ (mvP 101 102) (by cases b2<;>simp) ⟨rfl,⟨rfl,rfl,rfl,rfl,rfl,trivial⟩,⟨rfl,rfl,trivial⟩,rfl,fun i hi=>xx (by omega) hi⟩
    ·obtain⟨y,k2,b2,h4,h5,h6⟩:=yx (h2 rfl)
     obtain⟨hk2,hE⟩:=jU hl _ (zl hl hsep) _ _ _ h4
     have hal':(acc++[y]).length=acc.length+1:=by simp
     repeat' first|refine gG ?_|(exfalso;have h':=of_decide_eq_false h;rw[hal]at h';omega)|refine gB (fun h=>?_) (fun h=>?_)|refine gR (zbA hl hk hs) (nm [0]) ?_|refine gR (jB hl hsep) (nm [0]) ?_|refine gR hE (nm [0]) ?_|refine ya T hC (rows:=[zn y]) rfl rfl rfl rfl rfl rfl rfl rfl rfl ?_|(refine zC T 102 hC (rows:=acc.map zn) (rows2:=[zn y]) (rows3:=(acc++[y]).map zn) (bytes:=32) rfl rfl rfl rfl (xj.sl (T.es_ok _ _ rfl)) (by rw[List.map_append];rfl) rfl rfl rfl (by kernel_rfl) (by rw[hal,List.length_singleton];omega) (by rw[hal,List.length_singleton];omega) rfl rfl rfl ?_)
     exact zh (acc++[y],k2,b2,g) ⟨hk2,by simp only;omega,by simp only;omega,fun e=>by subst e;exact⟨by have:=zcm h4;simp only;omega,h5 rfl⟩,h6⟩ (mvP 101 102) (by cases b2<;>simp) ⟨rfl,⟨rfl,rfl,rfl,rfl,rfl,trivial⟩,⟨rfl,rfl,trivial⟩,rfl,fun i hi=>xx (by omega) hi⟩
    ·have h3:=h3 rfl
     have hal':(acc++[F0]).length=acc.length+1:=by simp
     repeat' first|refine gG ?_|(exfalso;have h':=of_decide_eq_false h;rw[hal]at h';omega)|refine gB (fun h=>?_) (fun h=>?_)|refine gR (zbA hl hk hs) (nm [0]) ?_|refine gR (zfr hl hk hsep) (nm [0]) ?_|refine gR (zck hl _ hk) (nm [0]) ?_|refine ya T hC (rows:=[zn F0]) rfl rfl rfl rfl rfl rfl rfl rfl rfl ?_|(refine zC T 102 hC (rows:=acc.map zn) (rows2:=[zn F0]) (rows3:=(acc++[F0]).map zn) (bytes:=32) rfl rfl rfl rfl (xj.sl (T.es_ok _ _ rfl)) (by rw[List.map_append];rfl) rfl rfl rfl (by kernel_rfl) (by rw[hal,List.length_singleton];omega) (by rw[hal,List.length_singleton];omega) rfl rfl rfl ?_)
     exact zh (acc++[F0],k1,true,g) ⟨hk,by simp only;omega,by simp only;omega,(fun e=>by cases e),fun _=>h3⟩ (mvP 101 102) (by simp) ⟨rfl,⟨rfl,rfl,rfl,rfl,rfl,trivial⟩,⟨rfl,rfl,trivial⟩,rfl,fun i hi=>xx (by omega) hi⟩
end
end Hw.Fr.Ps
namespace Hw.Fr.Ps
open Go Go.Proofs Hw.M
def tJ{α:Type}(b:Bool)(z:α)(k:Nat)(r:PJ α):PJ α:=match b with
 |true=>some (z,k,true)
 |false=>r
def RT{α:Type}(l:List Tok)(f:FuncId)(args:List S)(enc:α→S)(k:Nat)(b:Bool)(z:α)(r:PJ α):Prop:=
 ∀x j c,tJ b z k r=some (x,j,c)→j<l.length∧zj Tryz.prog f args [(0,rdR l k b)] (enc x) [(0,rdR l j c)]
theorem RT.of{α:Type}{l:List Tok}{f:FuncId}{args:List S}{enc:α→S}{k:Nat}{z:α}{r:PJ α}(hk:k<l.length)(h:RJ l f args enc k r)(hb:zj Tryz.prog f args [(0,rdR l k true)] (enc z) [(0,rdR l k true)])(b:Bool):RT l f args enc k b z r:=by
 intro x j c e
 cases b with
 |true=>cases e;exact⟨hk,hb⟩
 |false=>exact h _ _ _ e
theorem tgo{α β:Type}{b:Bool}{w:β}{k:Nat}{r:PJ α}{f:α→Nat→PJ β}{g:α→β}{x:β}{j:Nat}{c:Bool}(h:tJ b w k (PJ.go r f g)=some (x,j,c))(z:α)(hw:w=g z):
 ∃y k2 b2,tJ b z k r=some (y,k2,b2)∧tJ b2 (g y) k2 (f y k2)=some (x,j,c):=by
 subst hw
 cases b with
 |true=>exact⟨z,k,true,rfl,h⟩
 |false=>
  rcases r with _|⟨y,k2,b2⟩
  ·cases h
  ·refine⟨y,k2,b2,rfl,?_⟩
   cases b2 with
   |true=>exact h
   |false=>exact h
theorem zhZ{α:Type}{b:Bool}{v x:α}{k j:Nat}{c:Bool}(h:tJ b v k (PJ.ok v k)=some (x,j,c)):x=v∧j=k∧c=b:=by
 cases b<;>(cases h;exact⟨rfl,rfl,rfl⟩)
section
variable {l:List Tok} (hl:wE l)
include hl
theorem zrc{i:Nat}(hi:i<l.length)(s:Str):RJ l 147 [rdV,Sr s] (fun _=> .tup []) i (vi l s i):=fun _ _ _ e=>xu hl i hi _ _ _ _ e
theorem wH{i:Nat}(hi:i<l.length)(b:Bool)(s:Str):RT l 147 [rdV,Sr s] (fun _=> .tup []) i b () (vi l s i):= .of hi (zrc hl hi s) (yi hl i hi s) b
theorem vm{i:Nat}(hi:i<l.length)(b:Bool):RT l 148 [rdV] Sr i b (⟨#[]⟩:ByteArray) (nameJ l i):= .of hi (fun x j b e=>xw hl i hi x j b e) (zbB hl i hi) b
theorem zrd{i:Nat}(hi:i<l.length)(b:Bool):RT l 227 [rdV] (fun n=>I n) i b 0 (zji l i):= .of hi (fun x j b e=>zfs hl i hi x j b e) (zmt hl i hi) b
theorem zre{i:Nat}(hi:i<l.length)(b:Bool):RT l 225 [rdV] Sr i b (⟨#[]⟩:ByteArray) (zfh l i):= .of hi (zft hl i hi) (zc2 hl i hi) b
theorem zc7{i:Nat}(hi:i<l.length)(b:Bool):RT l 175 [rdV] (fun f=>zz (zn f)) i b F0 (xR l i):= .of hi (jU hl i hi) (zck hl i hi) b
theorem zgy{i:Nat}(hi:i<l.length)(b:Bool)(sep fin:Str)(f:Nat):RT l 174 [rdV,Sr sep,Sr fin,.one (.cl 175 [.bx 0 0] [])] (fun a=>pS (yE a)) i b [] (listJ l F0 sep fin (xR l) f i []):= .of hi (zjP hl sep fin f i hi) (zhR hl i hi sep fin) b
theorem zmx{i:Nat}(hi:i<l.length)(b:Bool)(f:Nat):RT l 226 [rdV] (fun a=>pS (y7 a)) i b [] (stmtsJ l f i []):= .of hi ((zrb hl f).stmts i hi) (zan hl i hi) b
theorem zmy{i:Nat}(hi:i<l.length)(b:Bool)(f:Nat):RT l 228 [rdV] enE i b E0 (exprJ l f 0 i):= .of hi (yS hl (zjM hl f) i hi) (wg hl i hi) b
def isB(l:List Tok)(b:Bool)(i:Nat)(s:Str):Bool:= !b&&isA l i s
theorem zs4{i:Nat}(hi:i<l.length)(b:Bool)(s:Str):zj Tryz.prog 179 [rdV,Sr s] [(0,rdR l i b)] (Bo (isB l b i s)) [(0,rdR l i b)]:=by
 cases b with
 |true=>exact zfq hl i hi s
 |false=>exact zpc (zgv hl i hi s) (.bq (by simp[isB]))
theorem zc8{i:Nat}(hi:i<l.length)(b:Bool)(s:Str):zj Tryz.prog 173 [rdV,Sr s] [(0,rdR l i b)] (Bo (isB l b i s)) [(0,rdR l (if isB l b i s=true then i+1 else i) b)]:=by
 cases b with
 |true=>exact y8 hl i hi s
 |false=>
  by_cases h:isA l i s=true
  ·have e:isB l false i s=true:=by simp[isB,h]
   rw[e,if_pos rfl];exact zQ hl h
  ·have e:isB l false i s=false:=by simpa [isB]using h
   rw[e,if_neg (by simp)];exact zH hl hi h
theorem zfz(f i:Nat)(hi:i<l.length):RJ l 178 [rdV] enE i (xM l f i):=by
 intro xf jf bf hR
 obtain⟨_,k1,b1,e1,hR⟩:=tgo (b:=false) (w:=E0) (k:=i) hR () rfl
 obtain⟨hk1,h1⟩:=wH hl hi false _ _ _ _ e1
 obtain⟨hk2,h2⟩:=zmy hl hk1 b1 f _ _ _ hR
 refine⟨hk2,?_⟩
 refine gO T Tryz.func178 fun C hC=>?_
 repeat' first|refine gG ?_|refine gB (fun h=>?_) (fun h=>?_)|refine gR h1 (nm [0]) ?_|refine gR h2 (nm [0]) ?_|refine gL ?_
 exact gE
theorem wh{i:Nat}(hi:i<l.length)(b:Bool)(f:Nat):RT l 178 [rdV] enE i b E0 (xM l f i):= .of hi (zfz hl f i hi) (zd1 hl i hi) b
end
end Hw.Fr.Ps
namespace Hw.Fr.Ps
open Go Go.Proofs Hw.M
theorem zjQ{l:List Tok}{s:Str}{i j:Nat}{u:Unit}{b:Bool}(h:vi l s i=some (u,j,b)):i≤j:=by
 unfold vi at h
 split at h
 ·cases h;omega
 ·cases h;exact Nat.le_refl _
theorem zgz{l:List Tok}{s:Str}{i j:Nat}{b:Bool}(h:nameJ l i=some (s,j,b)):i≤j:=by
 unfold nameJ at h
 repeat' (split at h)
 all_goals (cases h;omega)
theorem zpg{l:List Tok}{s:Str}{i j:Nat}{b:Bool}(h:zfh l i=some (s,j,b)):i≤j:=by
 unfold zfh at h
 split at h
 ·cases h;omega
 ·split at h
  ·cases h;omega
  ·exact zgz h
theorem zjR{α:Type}{b:Bool}{z x:α}{k j:Nat}{r:PJ α}{c:Bool}(h:tJ b z k r=some (x,j,c))(hr:r=some (x,j,c)→k≤j):k≤j:=by
 cases b with
 |true=>cases h;exact Nat.le_refl _
 |false=>exact hr h
theorem zd3{l:List Tok}{x:Fld}{i j:Nat}{b:Bool}(h:xR l i=some (x,j,b)):i≤j:=by
 obtain⟨n,k,b1,e1,h⟩:=tgo (b:=false) (w:=F0) (k:=i) h (⟨#[]⟩:ByteArray) rfl
 obtain⟨t,k2,b2,e2,h⟩:=tgo h (⟨#[]⟩:ByteArray) rfl
 obtain⟨_,rfl,_⟩:=zhZ h
 exact Nat.le_trans (zgz e1) (zjR e2 zpg)
section
variable {l:List Tok} (hl:wE l)
include hl
set_option maxHeartbeats 1000000 in
theorem zmz(f i:Nat)(hi:i<l.length):RJ l 176 [rdV] (fun p=>zz (ye p)) i (zjj l f i):=by
 intro xf jf bf hR
 have hll:=hl.len
 obtain⟨n,k1,b1,e1,hR⟩:=tgo (b:=false) (w:=⟨(⟨#[]⟩:ByteArray),[],(⟨#[]⟩:ByteArray),[],[]⟩) (k:=i) hR (⟨#[]⟩:ByteArray) rfl
 obtain⟨hk1,h1⟩:=vm hl hi false _ _ _ e1
 obtain⟨_,k2,b2,e2,hR⟩:=tgo hR () rfl
 obtain⟨hk2,h2⟩:=wH hl hk1 b1 _ _ _ _ e2
 obtain⟨ps,k3,b3,e3,hR⟩:=tgo hR [] rfl
 obtain⟨hk3,h3⟩:=zgy hl hk2 b2 _ _ f _ _ _ e3
 obtain⟨r,k4,b4,e4,hR⟩:=tgo hR (⟨#[]⟩:ByteArray) rfl
 obtain⟨_,k5,b5,e5,hR⟩:=tgo hR () rfl
 obtain⟨ls,k6,b6,e6,hR⟩:=tgo hR [] rfl
 obtain⟨bd,k7,b7,e7,hR⟩:=tgo hR [] rfl
 obtain⟨rfl,rfl,rfl⟩:=zhZ hR
 clear hR
 have hk6:k6<l.length:=by
  have hk4:k4<l.length:=by
   cases b3 with
   |true=>cases e4;exact hk3
   |false=>
    simp only[tJ]at e4
    split at e4
    ·cases e4;exact hk3
    ·exact(RG.typ hl hk3) _ _ _ e4
  have hk5:k5<l.length:=(wH hl hk4 b4 _ _ _ _ e5).1
  cases b5 with
  |true=>cases e6;exact hk5
  |false=>exact zfv hl f _ _ hk5 _ _ _ e6
 obtain⟨hk7,h7⟩:=zmx hl hk6 b6 f _ _ _ e7
 refine⟨hk7,?_⟩
 have hI:=zs4 hl hk3 b3 ⟨#[123]⟩
 by_cases hc:isB l b3 k3 ⟨#[123]⟩=true
 ·rw[hc]at hI
  have hb3:b3=false∧isA l k3 ⟨#[123]⟩=true:=by unfold isB at hc;simpa using hc
  obtain⟨rfl,hs⟩:=hb3
  simp only[tJ]at e4
  rw[if_pos hs]at e4
  cases e4
  obtain⟨hk5,h5⟩:=wH hl hk3 false _ _ _ _ e5
  refine gO T Tryz.func176 fun C hC=>?_
  repeat' first|refine gG ?_|(exfalso;simp at h;done)|refine gB (fun h=>?_) (fun h=>?_)|refine gR h1 (nm [0]) ?_|refine gR h2 (nm [0]) ?_|refine zl8 hC rfl rfl rfl rfl rfl rfl ?_|refine gR h3 (nm [0]) ?_|refine gR hI (nm [0]) ?_|refine gR h5 (nm [0]) ?_
  refine yo hC rfl 101 2 rfl [] trivial [(1003,[.p (ks n),.p (yE ps),.p (ks (⟨#[]⟩:ByteArray)),.ar 101,.p (.k (.slice none 0 0))])] ⟨⟨_,rfl,by decide,.cons (.refl _) (.cons (.refl _) (.cons (.refl _) (.cons .nil (.cons (.refl _) .nil))))⟩,trivial⟩ ?_
  refine zy (fun q:List Fld×Nat×Bool×Nat=>q.2.1<l.length∧q.1.length≤q.2.1∧tJ q.2.2.1 q.1 q.2.1 (locsJ l q.2.2.2 q.2.1 q.1)=some (ls,k6,b6))
   (fun q=>([(0,rdV),(2,.one (.bx 1002 0)),(3,.one (.bx 1003 0))],[(0,some (rdR l q.2.1 q.2.2.1)),(1002,some (Res.box (zV [ZK.str,ZK.slice,ZK.str,ZK.slice,ZK.slice]))),(1003,some (Res.box [.p (ks n),.p (yE ps),.p (ks (⟨#[]⟩:ByteArray)),.ar 101,.p (.k (.slice none 0 0))])),(101,some (Res.arr 2 (q.1.map zn)))])) (fun q=>q.2.2.2) hC
   ([],k5,b5,f) ⟨hk5,Nat.zero_le _,e6⟩ id gM ?_
  clear e1 e2 e3 e5 e6 h1 h2 h3 h5 hI hk5
  rintro⟨acc,k,b,g⟩ ⟨hk,hak,hd⟩
  simp only at hk hak hd
  have hal:(acc.map zn).length=acc.length:=List.length_map _
  by_cases hlo:isB l b k (⟨#[108,111,99,97,108]⟩:ByteArray)=true
  ·have hb:b=false∧isA l k (⟨#[108,111,99,97,108]⟩:ByteArray)=true:=by unfold isB at hlo;simpa using hlo
   obtain⟨rfl,hs⟩:=hb
   cases g with
   |zero=>simp only[tJ,locsJ]at hd;cases hd
   |succ g=>
    simp only[tJ,locsJ]at hd
    rw[if_pos hs]at hd
    obtain⟨x,j2,c2,a1,hd⟩:=tgo (b:=false) (w:=acc++[F0]) (k:=k+1) hd F0 rfl
    obtain⟨hj2,hF⟩:=zc7 hl (zl hl hs) false _ _ _ a1
    obtain⟨_,j3,c3,a2,hd⟩:=tgo hd () rfl
    obtain⟨hj3,hT⟩:=wH hl hj2 c2 _ _ _ _ a2
    have m1:k+1≤j2:=zjR a1 zd3
    have m2:j2≤j3:=zjR a2 zjQ
    have hal':(acc++[x]).length=acc.length+1:=by simp
    repeat' first|refine gG ?_|(exfalso;simp at h;done)|refine gB (fun h=>?_) (fun h=>?_)|refine gR (zQ hl hs) (nm [0]) ?_|refine gR hF (nm [0]) ?_|refine ya T hC (rows:=[zn x]) rfl rfl rfl rfl rfl rfl rfl rfl rfl ?_|(refine zC T 102 hC (rows:=acc.map zn) (rows2:=[zn x]) (rows3:=(acc++[x]).map zn) (bytes:=32) rfl rfl rfl rfl (xj.sl (T.es_ok _ _ rfl)) (by rw[List.map_append];rfl) rfl rfl rfl (by kernel_rfl) (by rw[hal,List.length_singleton];omega) (by rw[hal,List.length_singleton];omega) rfl rfl rfl ?_)|refine gR hT (nm [0]) ?_
    exact zh (acc++[x],j3,c3,g) ⟨hj3,by simp only;omega,hd⟩ (mvP 101 102) (Nat.lt_succ_self _) ⟨rfl,⟨rfl,rfl,rfl,trivial⟩,⟨rfl,rfl,rfl,rfl,trivial⟩,rfl,fun i hi=>xx (by omega) hi⟩
  ·have hS:=zc8 hl hk b (⟨#[108,111,99,97,108]⟩:ByteArray)
   rw[if_neg hlo]at hS
   rw[Bool.not_eq_true]at hlo
   rw[hlo]at hS
   have hfin:ls=acc∧k6=k∧b6=b:=by
    cases b with
    |true=>cases hd;exact⟨rfl,rfl,rfl⟩
    |false=>
     have hs: ¬isA l k (⟨#[108,111,99,97,108]⟩:ByteArray)=true:=by unfold isB at hlo;simpa using hlo
     cases g with
     |zero=>simp only[tJ,locsJ]at hd;cases hd
     |succ g=>simp only[tJ,locsJ]at hd;rw[if_neg hs]at hd;cases hd;exact⟨rfl,rfl,rfl⟩
   obtain⟨rfl,rfl,rfl⟩:=hfin
   repeat' first|refine gG ?_|(exfalso;simp at h;done)|refine gB (fun h=>?_) (fun h=>?_)|refine gR hS (nm [0]) ?_|refine zp ?_
   refine zm rfl (id:=101) (e:=2) (rows:=ls.map zn) rfl [] trivial [(1003,[.p (ks n),.p (yE ps),.p (ks (⟨#[]⟩:ByteArray)),.p (yE ls),.p (.k (.slice none 0 0))])] ⟨⟨_,rfl,by decide,.cons (.refl _) (.cons (.refl _) (.cons (.refl _) (.cons .ar (.cons (.refl _) .nil))))⟩,trivial⟩ ?_
   repeat' first|refine gG ?_|refine gB (fun h=>?_) (fun h=>?_)|refine gR h7 (nm [0]) ?_|refine gL ?_
   exact gE
 ·rw[Bool.not_eq_true]at hc
  rw[hc]at hI
  have e4':tJ b3 (⟨#[]⟩:ByteArray) k3 (zfh l k3)=some (r,k4,b4):=by
   cases b3 with
   |true=>exact e4
   |false=>
    have hs: ¬isA l k3 ⟨#[123]⟩=true:=by unfold isB at hc;simpa using hc
    simp only[tJ]at e4⊢
    rw[if_neg hs]at e4
    exact e4
  obtain⟨hk4,h4⟩:=zre hl hk3 b3 _ _ _ e4'
  obtain⟨hk5,h5⟩:=wH hl hk4 b4 _ _ _ _ e5
  refine gO T Tryz.func176 fun C hC=>?_
  repeat' first|refine gG ?_|(exfalso;simp at h;done)|refine gB (fun h=>?_) (fun h=>?_)|refine gR h1 (nm [0]) ?_|refine gR h2 (nm [0]) ?_|refine zl8 hC rfl rfl rfl rfl rfl rfl ?_|refine gR h3 (nm [0]) ?_|refine gR hI (nm [0]) ?_|refine gR h4 (nm [0]) ?_|refine gR h5 (nm [0]) ?_
  refine yo hC rfl 101 2 rfl [] trivial [(1003,[.p (ks n),.p (yE ps),.p (ks r),.ar 101,.p (.k (.slice none 0 0))])] ⟨⟨_,rfl,by decide,.cons (.refl _) (.cons (.refl _) (.cons (.refl _) (.cons .nil (.cons (.refl _) .nil))))⟩,trivial⟩ ?_
  refine zy (fun q:List Fld×Nat×Bool×Nat=>q.2.1<l.length∧q.1.length≤q.2.1∧tJ q.2.2.1 q.1 q.2.1 (locsJ l q.2.2.2 q.2.1 q.1)=some (ls,k6,b6))
   (fun q=>([(0,rdV),(2,.one (.bx 1002 0)),(3,.one (.bx 1003 0))],[(0,some (rdR l q.2.1 q.2.2.1)),(1002,some (Res.box (zV [ZK.str,ZK.slice,ZK.str,ZK.slice,ZK.slice]))),(1003,some (Res.box [.p (ks n),.p (yE ps),.p (ks r),.ar 101,.p (.k (.slice none 0 0))])),(101,some (Res.arr 2 (q.1.map zn)))])) (fun q=>q.2.2.2) hC
   ([],k5,b5,f) ⟨hk5,Nat.zero_le _,e6⟩ id gM ?_
  clear e1 e2 e3 e5 e6 h1 h2 h3 h5 hI hk5
  rintro⟨acc,k,b,g⟩ ⟨hk,hak,hd⟩
  simp only at hk hak hd
  have hal:(acc.map zn).length=acc.length:=List.length_map _
  by_cases hlo:isB l b k (⟨#[108,111,99,97,108]⟩:ByteArray)=true
  ·have hb:b=false∧isA l k (⟨#[108,111,99,97,108]⟩:ByteArray)=true:=by unfold isB at hlo;simpa using hlo
   obtain⟨rfl,hs⟩:=hb
   cases g with
   |zero=>simp only[tJ,locsJ]at hd;cases hd
   |succ g=>
    simp only[tJ,locsJ]at hd
    rw[if_pos hs]at hd
    obtain⟨x,j2,c2,a1,hd⟩:=tgo (b:=false) (w:=acc++[F0]) (k:=k+1) hd F0 rfl
    obtain⟨hj2,hF⟩:=zc7 hl (zl hl hs) false _ _ _ a1
    obtain⟨_,j3,c3,a2,hd⟩:=tgo hd () rfl
    obtain⟨hj3,hT⟩:=wH hl hj2 c2 _ _ _ _ a2
    have m1:k+1≤j2:=zjR a1 zd3
    have m2:j2≤j3:=zjR a2 zjQ
    have hal':(acc++[x]).length=acc.length+1:=by simp
    repeat' first|refine gG ?_|(exfalso;simp at h;done)|refine gB (fun h=>?_) (fun h=>?_)|refine gR (zQ hl hs) (nm [0]) ?_|refine gR hF (nm [0]) ?_|refine ya T hC (rows:=[zn x]) rfl rfl rfl rfl rfl rfl rfl rfl rfl ?_|(refine zC T 102 hC (rows:=acc.map zn) (rows2:=[zn x]) (rows3:=(acc++[x]).map zn) (bytes:=32) rfl rfl rfl rfl (xj.sl (T.es_ok _ _ rfl)) (by rw[List.map_append];rfl) rfl rfl rfl (by kernel_rfl) (by rw[hal,List.length_singleton];omega) (by rw[hal,List.length_singleton];omega) rfl rfl rfl ?_)|refine gR hT (nm [0]) ?_
    exact zh (acc++[x],j3,c3,g) ⟨hj3,by simp only;omega,hd⟩ (mvP 101 102) (Nat.lt_succ_self _) ⟨rfl,⟨rfl,rfl,rfl,trivial⟩,⟨rfl,rfl,rfl,rfl,trivial⟩,rfl,fun i hi=>xx (by omega) hi⟩
  ·have hS:=zc8 hl hk b (⟨#[108,111,99,97,108]⟩:ByteArray)
   rw[if_neg hlo]at hS
   rw[Bool.not_eq_true]at hlo
   rw[hlo]at hS
   have hfin:ls=acc∧k6=k∧b6=b:=by
    cases b with
    |true=>cases hd;exact⟨rfl,rfl,rfl⟩
    |false=>
     have hs: ¬isA l k (⟨#[108,111,99,97,108]⟩:ByteArray)=true:=by unfold isB at hlo;simpa using hlo
     cases g with
     |zero=>simp only[tJ,locsJ]at hd;cases hd
     |succ g=>simp only[tJ,locsJ]at hd;rw[if_neg hs]at hd;cases hd;exact⟨rfl,rfl,rfl⟩
   obtain⟨rfl,rfl,rfl⟩:=hfin
   repeat' first|refine gG ?_|(exfalso;simp at h;done)|refine gB (fun h=>?_) (fun h=>?_)|refine gR hS (nm [0]) ?_|refine zp ?_
   refine zm rfl (id:=101) (e:=2) (rows:=ls.map zn) rfl [] trivial [(1003,[.p (ks n),.p (yE ps),.p (ks r),.p (yE ls),.p (.k (.slice none 0 0))])] ⟨⟨_,rfl,by decide,.cons (.refl _) (.cons (.refl _) (.cons (.refl _) (.cons .ar (.cons (.refl _) .nil))))⟩,trivial⟩ ?_
   repeat' first|refine gG ?_|refine gB (fun h=>?_) (fun h=>?_)|refine gR h7 (nm [0]) ?_|refine gL ?_
   exact gE
end
end Hw.Fr.Ps
namespace Hw.Fr.Ps
open Go Go.Proofs Hw.M
section
variable {l:List Tok} (hl:wE l)
include hl
theorem zmA{i:Nat}{z:Int}{j:Nat}{b:Bool}(h:zji l i=some (z,j,b)):0≤z∧z≤1099511627776∧(b=true→z=0):=by
 unfold zji at h
 split at h
 ·rename_i t ht
  split at h
  ·cases h
   have:=hl.num t (List.mem_of_getElem? ht)
   exact⟨this.1,this.2,fun h=>by cases h⟩
  ·cases h;exact⟨Int.le_refl _,by decide,fun _=>rfl⟩
 ·cases h;exact⟨Int.le_refl _,by decide,fun _=>rfl⟩
theorem zfA(f i:Nat)(hi:i<l.length):RJ l 177 [rdV] (fun m=>zz (zB m)) i (jT l f i):=by
 intro xf jf bf hR
 have hll:=hl.len
 obtain⟨n,k1,b1,e1,hR⟩:=tgo (b:=false) (w:=⟨(⟨#[]⟩:ByteArray),(⟨#[]⟩:ByteArray),0,E0⟩) (k:=i) hR (⟨#[]⟩:ByteArray) rfl
 obtain⟨hk1,h1⟩:=vm hl hi false _ _ _ e1
 obtain⟨_,k2,b2,e2,hR⟩:=tgo hR () rfl
 obtain⟨hk2,h2⟩:=wH hl hk1 b1 _ _ _ _ e2
 obtain⟨t,k3,b3,e3,hR⟩:=tgo hR (⟨#[]⟩:ByteArray) rfl
 obtain⟨hk3,h3⟩:=vm hl hk2 b2 _ _ _ e3
 obtain⟨_,k4,b4,e4,hR⟩:=tgo hR () rfl
 obtain⟨hk4,h4⟩:=wH hl hk3 b3 _ _ _ _ e4
 obtain⟨_,k5,b5,e5,hR⟩:=tgo hR () rfl
 obtain⟨hk5,h5⟩:=wH hl hk4 b4 _ _ _ _ e5
 obtain⟨z,k6,b6,e6,hR⟩:=tgo hR 0 rfl
 have hS:=zc8 hl hk5 b5 (⟨#[45]⟩:ByteArray)
 generalize hc:isB l b5 k5 (⟨#[45]⟩:ByteArray)=c at hS
 have hk5':(if c=true then k5+1 else k5)<l.length:=by
  split
  ·rename_i h;rw[h]at hc;unfold isB at hc;simp only[Bool.and_eq_true]at hc;exact zl hl hc.2
  ·exact hk5
 have e6':tJ b5 0 (if c=true then k5+1 else k5) (zji l (if c=true then k5+1 else k5))=some (z,k6,b6):=by
  cases b5 with
  |true=>
   have:c=false:=by rw[←hc];rfl
   subst this
   exact e6
  |false=>
   have:c=isA l k5 (⟨#[45]⟩:ByteArray):=by rw[←hc];simp[isB]
   subst this
   exact e6
 obtain⟨hk6,h6⟩:=zrd hl hk5' b5 _ _ _ e6'
 have hz:0≤z∧z≤1099511627776∧(b6=true→z=0):=by
  cases b5 with
  |true=>cases e6';exact⟨Int.le_refl _,by decide,fun _=>rfl⟩
  |false=>exact zmA hl e6'
 obtain⟨z0,z1,zb⟩:=hz
 have hR':tJ b6 ⟨n,t,if isA l k5 (⟨#[45]⟩:ByteArray)=true then -z else z,E0⟩ k6 (PJ.go (xM l f k6) (fun x j=> .ok ⟨n,t,if isA l k5 (⟨#[45]⟩:ByteArray)=true then -z else z,x⟩ j) (fun x=>⟨n,t,if isA l k5 (⟨#[45]⟩:ByteArray)=true then -z else z,x⟩))=some (xf,jf,bf):=by
  cases b6 with
  |true=>
   have:(if isA l k5 (⟨#[45]⟩:ByteArray)=true then -z else z)=0:=by rw[zb rfl];split<;>rfl
   rw[this];exact hR
  |false=>exact hR
 clear hR
 obtain⟨x,k7,b7,e7,hR⟩:=tgo hR' E0 rfl
 obtain⟨hk7,h7⟩:=wh hl hk6 b6 f _ _ _ e7
 obtain⟨rfl,rfl,rfl⟩:=zhZ hR
 refine⟨hk7,?_⟩
 clear hR hR' e1 e2 e3 e4 e5 e6 e7
 have hv:(if isA l k5 (⟨#[45]⟩:ByteArray)=true then -z else z)=if c=true then -z else z:=by
  cases b5 with
  |true=>
   cases e6'
   split<;>split<;>rfl
  |false=>
   have:c=isA l k5 (⟨#[45]⟩:ByteArray):=by rw[←hc];simp[isB]
   rw[this]
 rw[hv]
 cases c with
 |true=>
  simp only[if_true]at hS h6⊢
  refine gO T Tryz.func177 fun C hC=>?_
  repeat' first|refine gG ?_|(exfalso;simp at h;done)|refine gB (fun h=>?_) (fun h=>?_)|refine gR h1 (nm [0]) ?_|refine gR h2 (nm [0]) ?_|refine gR h3 (nm [0]) ?_|refine gR h4 (nm [0]) ?_|refine gR h5 (nm [0]) ?_|refine gR hS (nm [0]) ?_|refine gR h6 (nm [0]) ?_|refine gR h7 (nm [0]) ?_|refine gL ?_
  rw[show IntKind.i64.wrap (-1*z)= -z by rw[wrap64 (by omega)];omega]
  exact gE
 |false=>
  simp only[Bool.false_eq_true,if_false]at hS h6⊢
  refine gO T Tryz.func177 fun C hC=>?_
  repeat' first|refine gG ?_|(exfalso;simp at h;done)|refine gB (fun h=>?_) (fun h=>?_)|refine gR h1 (nm [0]) ?_|refine gR h2 (nm [0]) ?_|refine gR h3 (nm [0]) ?_|refine gR h4 (nm [0]) ?_|refine gR h5 (nm [0]) ?_|refine gR hS (nm [0]) ?_|refine gR h6 (nm [0]) ?_|refine gR h7 (nm [0]) ?_|refine gL ?_
  rw[show IntKind.i64.wrap (1*z)=z by rw[wrap64 (by omega)];omega]
  exact gE
end
end Hw.Fr.Ps
namespace Hw.Fr.Ps
open Go Go.Proofs Hw.M
def dR(a:Nat)(d:xk):RL:=[(1,.box [.p (ks d.n),.ar a,.ar (a+1),.ar (a+2),.ar (a+3),.ar (a+4),.ar (a+5),.ar (a+6)]),(a,.arr 2 (d.types.map zG)),(a+1,.arr 2 (d.globals.map zn)),(a+2,.arr 5 (d.procs.map ye)),(a+3,.arr 7 (d.measures.map zB)),(a+4,.arr 6 (d.invs.map w6)),(a+5,.arr 5 (d.pots.map jg)),(a+6,.arr 5 (d.bounds.map yC))]
def wO(d:xk):Nat:=d.types.length+d.globals.length+d.procs.length+d.measures.length+d.invs.length+d.pots.length+d.bounds.length
def kwI(l:List Tok)(i:Nat):Bool:=isA l i (⟨#[116,121,112,101]⟩:ByteArray)||isA l i (⟨#[118,97,114]⟩:ByteArray)||isA l i (⟨#[112,114,111,99]⟩:ByteArray)||isA l i (⟨#[109,101,97,115,117,114,101]⟩:ByteArray)||isA l i (⟨#[105,110,118,97,114,105,97,110,116]⟩:ByteArray)||isA l i (⟨#[112,111,116,101,110,116,105,97,108]⟩:ByteArray)||isA l i (⟨#[98,111,117,110,100]⟩:ByteArray)
section
variable {l:List Tok} (hl:wE l)
include hl
theorem jW(f i:Nat)(d:xk)(hi:i<l.length)(hk:kwI l i=false):zj Tryz.prog 149 [rdV,.one (.bx 1 0)] ((0,rdR l i false)::dR 2 d) (Bo false) ((0,rdR l i false)::dR 2 d):=by
 unfold kwI at hk
 simp only[Bool.or_eq_false_iff]at hk
 obtain⟨⟨⟨⟨⟨⟨h1,h2⟩,h3⟩,h4⟩,h5⟩,h6⟩,h7⟩:=hk
 rw[←Bool.not_eq_true]at h1 h2 h3 h4 h5 h6 h7
 refine gO T Tryz.func149 fun C hC=>?_
 repeat' first|refine gG ?_|(exfalso;simp at h;done)|refine gB (fun h=>?_) (fun h=>?_)|refine zr hC ((zH hl hi (by assumption))) (nm [0]) rfl rfl (yJ.refl _) rfl rfl rfl rfl rfl rfl rfl rfl ?_|refine gL ?_
 exact zg ⟨.inl rfl,id,_,rfl,.refl _,⟨rfl,rfl,rfl,rfl,rfl,rfl,rfl,rfl,rfl,trivial⟩,rfl,rfl⟩
set_option maxHeartbeats 1000000 in
theorem zh0(f i:Nat)(d:xk)(hi:i<l.length)(hd:wO d≤2000000){xf:xk}{jf:Nat}{bf:Bool}(hR:wD l f i d=some (xf,jf,bf))(hs:isA l i (⟨#[116,121,112,101]⟩:ByteArray)=true):jf<l.length∧wO xf≤wO d+1∧zj Tryz.prog 149 [rdV,.one (.bx 1 0)] ((0,rdR l i false)::dR 2 d) (Bo true) ((0,rdR l jf bf)::dR 9 xf):=by
 have hi1:=zl hl hs
 unfold wO at hd
 simp only[wD]at hR
 rw[if_pos hs]at hR
 obtain⟨n,k1,b1,e1,hR⟩:=tgo (b:=false) (w:={ d with types:=d.types++[⟨(⟨#[]⟩:ByteArray),[]⟩] }) (k:=i+1) hR (⟨#[]⟩:ByteArray) rfl
 obtain⟨hk1,c1⟩:=vm hl hi1 false _ _ _ e1
 obtain⟨_,k2,b2,e2,hR⟩:=tgo hR () rfl
 obtain⟨hk2,c2⟩:=wH hl hk1 b1 _ _ _ _ e2
 obtain⟨fs,k3,b3,e3,hR⟩:=tgo hR [] rfl
 obtain⟨hkf,c3⟩:=zgy hl hk2 b2 _ _ f _ _ _ e3
 obtain⟨rfl,rfl,rfl⟩:=zhZ hR
 refine⟨hkf,by simp only[wO,List.length_append,List.length_singleton];omega,?_⟩
 clear hR
 refine gO T Tryz.func149 fun C hC=>?_
 repeat' first|refine gG ?_|(exfalso;simp at h;done)|refine gB (fun h=>?_) (fun h=>?_)|refine zr hC ((zH hl hi (by assumption))) (nm [0]) rfl rfl (yJ.refl _) rfl rfl rfl rfl rfl rfl rfl rfl ?_|refine gR (zQ hl hs) (nm [0]) ?_|refine gR c1 (nm [0]) ?_|refine gR c2 (nm [0]) ?_|refine zl8 hC rfl rfl rfl rfl rfl rfl ?_|refine gR c3 (nm [0]) ?_|refine ya T hC (rows:=[zG (⟨n,fs⟩:jx)]) rfl rfl rfl rfl rfl rfl rfl rfl rfl ?_|(refine zC T 102 hC (rows:=d.types.map zG) (rows2:=[zG (⟨n,fs⟩:jx)]) (rows3:=(d.types++[(⟨n,fs⟩:jx)]).map zG) (bytes:=40) rfl rfl rfl rfl (xj.sl (T.es_ok _ _ rfl)) (by rw[List.map_append];rfl) rfl rfl rfl (by kernel_rfl) (by rw[List.length_map,List.length_singleton];omega) (by rw[List.length_map,List.length_singleton];omega) rfl rfl rfl ?_)|refine gL ?_
 exact zg ⟨.inl rfl,nm [0,1,2,3,4,5,6,7,8,102,3,4,5,6,7,8],_,rfl,.refl _,⟨rfl,rfl,rfl,rfl,rfl,rfl,rfl,rfl,rfl,trivial⟩,rfl,rfl⟩
set_option maxHeartbeats 1000000 in
theorem zjS(f i:Nat)(d:xk)(hi:i<l.length)(hd:wO d≤2000000){xf:xk}{jf:Nat}{bf:Bool}(hR:wD l f i d=some (xf,jf,bf))(h1: ¬isA l i (⟨#[116,121,112,101]⟩:ByteArray)=true)(hs:isA l i (⟨#[118,97,114]⟩:ByteArray)=true):jf<l.length∧wO xf≤wO d+1∧zj Tryz.prog 149 [rdV,.one (.bx 1 0)] ((0,rdR l i false)::dR 2 d) (Bo true) ((0,rdR l jf bf)::dR 9 xf):=by
 have hi1:=zl hl hs
 unfold wO at hd
 simp only[wD]at hR
 rw[if_neg h1]at hR
 rw[if_pos hs]at hR
 obtain⟨x,k1,b1,e1,hR⟩:=tgo (b:=false) (w:={ d with globals:=d.globals++[F0] }) (k:=i+1) hR F0 rfl
 obtain⟨hkf,c1⟩:=zc7 hl hi1 false _ _ _ e1
 obtain⟨rfl,rfl,rfl⟩:=zhZ hR
 refine⟨hkf,by simp only[wO,List.length_append,List.length_singleton];omega,?_⟩
 clear hR
 refine gO T Tryz.func149 fun C hC=>?_
 repeat' first|refine gG ?_|(exfalso;simp at h;done)|refine gB (fun h=>?_) (fun h=>?_)|refine zr hC ((zH hl hi (by assumption))) (nm [0]) rfl rfl (yJ.refl _) rfl rfl rfl rfl rfl rfl rfl rfl ?_|refine gR (zQ hl hs) (nm [0]) ?_|refine gR c1 (nm [0]) ?_|refine ya T hC (rows:=[zn x]) rfl rfl rfl rfl rfl rfl rfl rfl rfl ?_|(refine zC T 102 hC (rows:=d.globals.map zn) (rows2:=[zn x]) (rows3:=(d.globals++[x]).map zn) (bytes:=32) rfl rfl rfl rfl (xj.sl (T.es_ok _ _ rfl)) (by rw[List.map_append];rfl) rfl rfl rfl (by kernel_rfl) (by rw[List.length_map,List.length_singleton];omega) (by rw[List.length_map,List.length_singleton];omega) rfl rfl rfl ?_)|refine gL ?_
 exact zg ⟨.inl rfl,nm [0,1,2,3,4,5,6,7,8,2,102,4,5,6,7,8],_,rfl,.refl _,⟨rfl,rfl,rfl,rfl,rfl,rfl,rfl,rfl,rfl,trivial⟩,rfl,rfl⟩
set_option maxHeartbeats 1000000 in
theorem zh1(f i:Nat)(d:xk)(hi:i<l.length)(hd:wO d≤2000000){xf:xk}{jf:Nat}{bf:Bool}(hR:wD l f i d=some (xf,jf,bf))(h1: ¬isA l i (⟨#[116,121,112,101]⟩:ByteArray)=true)(h2: ¬isA l i (⟨#[118,97,114]⟩:ByteArray)=true)(hs:isA l i (⟨#[112,114,111,99]⟩:ByteArray)=true):jf<l.length∧wO xf≤wO d+1∧zj Tryz.prog 149 [rdV,.one (.bx 1 0)] ((0,rdR l i false)::dR 2 d) (Bo true) ((0,rdR l jf bf)::dR 9 xf):=by
 have hi1:=zl hl hs
 unfold wO at hd
 simp only[wD]at hR
 rw[if_neg h1]at hR
 rw[if_neg h2]at hR
 rw[if_pos hs]at hR
 obtain⟨x,k1,b1,e1,hR⟩:=tgo (b:=false) (w:={ d with procs:=d.procs++[⟨(⟨#[]⟩:ByteArray),[],(⟨#[]⟩:ByteArray),[],[]⟩] }) (k:=i+1) hR ⟨(⟨#[]⟩:ByteArray),[],(⟨#[]⟩:ByteArray),[],[]⟩ rfl
 obtain⟨hkf,c1⟩:=zmz hl f _ hi1 _ _ _ e1
 obtain⟨rfl,rfl,rfl⟩:=zhZ hR
 refine⟨hkf,by simp only[wO,List.length_append,List.length_singleton];omega,?_⟩
 clear hR
 refine gO T Tryz.func149 fun C hC=>?_
 repeat' first|refine gG ?_|(exfalso;simp at h;done)|refine gB (fun h=>?_) (fun h=>?_)|refine zr hC ((zH hl hi (by assumption))) (nm [0]) rfl rfl (yJ.refl _) rfl rfl rfl rfl rfl rfl rfl rfl ?_|refine gR (zQ hl hs) (nm [0]) ?_|refine gR c1 (nm [0]) ?_|refine ya T hC (rows:=[ye x]) rfl rfl rfl rfl rfl rfl rfl rfl rfl ?_|(refine zC T 102 hC (rows:=d.procs.map ye) (rows2:=[ye x]) (rows3:=(d.procs++[x]).map ye) (bytes:=104) rfl rfl rfl rfl (xj.sl (T.es_ok _ _ rfl)) (by rw[List.map_append];rfl) rfl rfl rfl (by kernel_rfl) (by rw[List.length_map,List.length_singleton];omega) (by rw[List.length_map,List.length_singleton];omega) rfl rfl rfl ?_)|refine gL ?_
 exact zg ⟨.inl rfl,nm [0,1,2,3,4,5,6,7,8,2,3,102,5,6,7,8],_,rfl,.refl _,⟨rfl,rfl,rfl,rfl,rfl,rfl,rfl,rfl,rfl,trivial⟩,rfl,rfl⟩
set_option maxHeartbeats 1000000 in
theorem zc9(f i:Nat)(d:xk)(hi:i<l.length)(hd:wO d≤2000000){xf:xk}{jf:Nat}{bf:Bool}(hR:wD l f i d=some (xf,jf,bf))(h1: ¬isA l i (⟨#[116,121,112,101]⟩:ByteArray)=true)(h2: ¬isA l i (⟨#[118,97,114]⟩:ByteArray)=true)(h3: ¬isA l i (⟨#[112,114,111,99]⟩:ByteArray)=true)(hs:isA l i (⟨#[109,101,97,115,117,114,101]⟩:ByteArray)=true):jf<l.length∧wO xf≤wO d+1∧zj Tryz.prog 149 [rdV,.one (.bx 1 0)] ((0,rdR l i false)::dR 2 d) (Bo true) ((0,rdR l jf bf)::dR 9 xf):=by
 have hi1:=zl hl hs
 unfold wO at hd
 simp only[wD]at hR
 rw[if_neg h1]at hR
 rw[if_neg h2]at hR
 rw[if_neg h3]at hR
 rw[if_pos hs]at hR
 obtain⟨x,k1,b1,e1,hR⟩:=tgo (b:=false) (w:={ d with measures:=d.measures++[⟨(⟨#[]⟩:ByteArray),(⟨#[]⟩:ByteArray),0,E0⟩] }) (k:=i+1) hR ⟨(⟨#[]⟩:ByteArray),(⟨#[]⟩:ByteArray),0,E0⟩ rfl
 obtain⟨hkf,c1⟩:=zfA hl f _ hi1 _ _ _ e1
 obtain⟨rfl,rfl,rfl⟩:=zhZ hR
 refine⟨hkf,by simp only[wO,List.length_append,List.length_singleton];omega,?_⟩
 clear hR
 refine gO T Tryz.func149 fun C hC=>?_
 repeat' first|refine gG ?_|(exfalso;simp at h;done)|refine gB (fun h=>?_) (fun h=>?_)|refine zr hC ((zH hl hi (by assumption))) (nm [0]) rfl rfl (yJ.refl _) rfl rfl rfl rfl rfl rfl rfl rfl ?_|refine gR (zQ hl hs) (nm [0]) ?_|refine gR c1 (nm [0]) ?_|refine ya T hC (rows:=[zB x]) rfl rfl rfl rfl rfl rfl rfl rfl rfl ?_|(refine zC T 102 hC (rows:=d.measures.map zB) (rows2:=[zB x]) (rows3:=(d.measures++[x]).map zB) (bytes:=96) rfl rfl rfl rfl (xj.sl (T.es_ok _ _ rfl)) (by rw[List.map_append];rfl) rfl rfl rfl (by kernel_rfl) (by rw[List.length_map,List.length_singleton];omega) (by rw[List.length_map,List.length_singleton];omega) rfl rfl rfl ?_)|refine gL ?_
 exact zg ⟨.inl rfl,nm [0,1,2,3,4,5,6,7,8,2,3,4,102,6,7,8],_,rfl,.refl _,⟨rfl,rfl,rfl,rfl,rfl,rfl,rfl,rfl,rfl,trivial⟩,rfl,rfl⟩
set_option maxHeartbeats 1000000 in
theorem zfB(f i:Nat)(d:xk)(hi:i<l.length)(hd:wO d≤2000000){xf:xk}{jf:Nat}{bf:Bool}(hR:wD l f i d=some (xf,jf,bf))(h1: ¬isA l i (⟨#[116,121,112,101]⟩:ByteArray)=true)(h2: ¬isA l i (⟨#[118,97,114]⟩:ByteArray)=true)(h3: ¬isA l i (⟨#[112,114,111,99]⟩:ByteArray)=true)(h4: ¬isA l i (⟨#[109,101,97,115,117,114,101]⟩:ByteArray)=true)(h5: ¬isA l i (⟨#[105,110,118,97,114,105,97,110,116]⟩:ByteArray)=true)(h6: ¬isA l i (⟨#[112,111,116,101,110,116,105,97,108]⟩:ByteArray)=true)(hs:isA l i (⟨#[98,111,117,110,100]⟩:ByteArray)=true):jf<l.length∧wO xf≤wO d+1∧zj Tryz.prog 149 [rdV,.one (.bx 1 0)] ((0,rdR l i false)::dR 2 d) (Bo true) ((0,rdR l jf bf)::dR 9 xf):=by
 have hi1:=zl hl hs
 unfold wO at hd
 simp only[wD]at hR
 rw[if_neg h1]at hR
 rw[if_neg h2]at hR
 rw[if_neg h3]at hR
 rw[if_neg h4]at hR
 rw[if_neg h5]at hR
 rw[if_neg h6]at hR
 rw[if_pos hs]at hR
 obtain⟨n,k1,b1,e1,hR⟩:=tgo (b:=false) (w:={ d with bounds:=d.bounds++[⟨(⟨#[]⟩:ByteArray),E0⟩] }) (k:=i+1) hR (⟨#[]⟩:ByteArray) rfl
 obtain⟨hk1,c1⟩:=vm hl hi1 false _ _ _ e1
 obtain⟨x,k2,b2,e2,hR⟩:=tgo hR E0 rfl
 obtain⟨hkf,c2⟩:=wh hl hk1 b1 f _ _ _ e2
 obtain⟨rfl,rfl,rfl⟩:=zhZ hR
 refine⟨hkf,by simp only[wO,List.length_append,List.length_singleton];omega,?_⟩
 clear hR
 refine gO T Tryz.func149 fun C hC=>?_
 repeat' first|refine gG ?_|(exfalso;simp at h;done)|refine gB (fun h=>?_) (fun h=>?_)|refine zr hC ((zH hl hi (by assumption))) (nm [0]) rfl rfl (yJ.refl _) rfl rfl rfl rfl rfl rfl rfl rfl ?_|refine gR (zQ hl hs) (nm [0]) ?_|refine gR c1 (nm [0]) ?_|refine gR c2 (nm [0]) ?_|refine ya T hC (rows:=[yC (⟨n,x⟩:Bd)]) rfl rfl rfl rfl rfl rfl rfl rfl rfl ?_|(refine zC T 102 hC (rows:=d.bounds.map yC) (rows2:=[yC (⟨n,x⟩:Bd)]) (rows3:=(d.bounds++[(⟨n,x⟩:Bd)]).map yC) (bytes:=72) rfl rfl rfl rfl (xj.sl (T.es_ok _ _ rfl)) (by rw[List.map_append];rfl) rfl rfl rfl (by kernel_rfl) (by rw[List.length_map,List.length_singleton];omega) (by rw[List.length_map,List.length_singleton];omega) rfl rfl rfl ?_)|refine gL ?_
 exact zg ⟨.inl rfl,nm [0,1,2,3,4,5,6,7,8,2,3,4,5,6,7,102],_,rfl,.refl _,⟨rfl,rfl,rfl,rfl,rfl,rfl,rfl,rfl,rfl,trivial⟩,rfl,rfl⟩
set_option maxHeartbeats 1000000 in
theorem zbC(f i:Nat)(d:xk)(hi:i<l.length)(hd:wO d≤2000000){xf:xk}{jf:Nat}{bf:Bool}(hR:wD l f i d=some (xf,jf,bf))(h1: ¬isA l i (⟨#[116,121,112,101]⟩:ByteArray)=true)(h2: ¬isA l i (⟨#[118,97,114]⟩:ByteArray)=true)(h3: ¬isA l i (⟨#[112,114,111,99]⟩:ByteArray)=true)(h4: ¬isA l i (⟨#[109,101,97,115,117,114,101]⟩:ByteArray)=true)(h5: ¬isA l i (⟨#[105,110,118,97,114,105,97,110,116]⟩:ByteArray)=true)(hs:isA l i (⟨#[112,111,116,101,110,116,105,97,108]⟩:ByteArray)=true):jf<l.length∧wO xf≤wO d+1∧zj Tryz.prog 149 [rdV,.one (.bx 1 0)] ((0,rdR l i false)::dR 2 d) (Bo true) ((0,rdR l jf bf)::dR 9 xf):=by
 have hi1:=zl hl hs
 unfold wO at hd
 simp only[wD]at hR
 rw[if_neg h1]at hR
 rw[if_neg h2]at hR
 rw[if_neg h3]at hR
 rw[if_neg h4]at hR
 rw[if_neg h5]at hR
 rw[if_pos hs]at hR
 obtain⟨t,k1,b1,e1,hR1⟩:=tgo (b:=false) (w:={ d with pots:=d.pots++[⟨(⟨#[]⟩:ByteArray),E0⟩] }) (k:=i+1) hR (⟨#[]⟩:ByteArray) rfl
 clear hR
 simp only[tJ]at e1
 by_cases hq:isA l (i+1) (⟨#[61]⟩:ByteArray)=true
 ·rw[if_pos hq]at e1
  have hfin:t=(⟨#[]⟩:ByteArray)∧k1=i+1∧b1=false:=by cases e1;exact⟨rfl,rfl,rfl⟩
  obtain⟨rfl,rfl,rfl⟩:=hfin
  obtain⟨x,k2,b2,e2,hR2⟩:=tgo hR1 E0 rfl
  obtain⟨hkf,c2⟩:=wh hl hi1 false f _ _ _ e2
  obtain⟨rfl,rfl,rfl⟩:=zhZ hR2
  refine⟨hkf,by simp only[wO,List.length_append,List.length_singleton];omega,?_⟩
  clear hR1 hR2
  refine gO T Tryz.func149 fun C hC=>?_
  repeat' first|refine gG ?_|(exfalso;simp at h;done)|refine gB (fun h=>?_) (fun h=>?_)|refine zr hC ((zH hl hi (by assumption))) (nm [0]) rfl rfl (yJ.refl _) rfl rfl rfl rfl rfl rfl rfl rfl ?_|refine gR (zQ hl hs) (nm [0]) ?_|refine gR (zhP hl hq) (nm [0]) ?_|refine gR c2 (nm [0]) ?_|refine ya T hC (rows:=[jg (⟨(⟨#[]⟩:ByteArray),x⟩:Pt)]) rfl rfl rfl rfl rfl rfl rfl rfl rfl ?_|(refine zC T 102 hC (rows:=d.pots.map jg) (rows2:=[jg (⟨(⟨#[]⟩:ByteArray),x⟩:Pt)]) (rows3:=(d.pots++[(⟨(⟨#[]⟩:ByteArray),x⟩:Pt)]).map jg) (bytes:=72) rfl rfl rfl rfl (xj.sl (T.es_ok _ _ rfl)) (by rw[List.map_append];rfl) rfl rfl rfl (by kernel_rfl) (by rw[List.length_map,List.length_singleton];omega) (by rw[List.length_map,List.length_singleton];omega) rfl rfl rfl ?_)|refine gL ?_
  exact zg ⟨.inl rfl,nm [0,1,2,3,4,5,6,7,8,2,3,4,5,6,102,8],_,rfl,.refl _,⟨rfl,rfl,rfl,rfl,rfl,rfl,rfl,rfl,rfl,trivial⟩,rfl,rfl⟩
 ·rw[if_neg hq]at e1
  obtain⟨hk1,c1⟩:=vm hl hi1 false _ _ _ e1
  obtain⟨x,k2,b2,e2,hR2⟩:=tgo hR1 E0 rfl
  obtain⟨hkf,c2⟩:=wh hl hk1 b1 f _ _ _ e2
  obtain⟨rfl,rfl,rfl⟩:=zhZ hR2
  refine⟨hkf,by simp only[wO,List.length_append,List.length_singleton];omega,?_⟩
  clear hR1 hR2
  refine gO T Tryz.func149 fun C hC=>?_
  repeat' first|refine gG ?_|(exfalso;simp at h;done)|refine gB (fun h=>?_) (fun h=>?_)|refine zr hC ((zH hl hi (by assumption))) (nm [0]) rfl rfl (yJ.refl _) rfl rfl rfl rfl rfl rfl rfl rfl ?_|refine gR (zQ hl hs) (nm [0]) ?_|refine gR (zbA hl hi1 hq) (nm [0]) ?_|refine gR c1 (nm [0]) ?_|refine gR c2 (nm [0]) ?_|refine ya T hC (rows:=[jg (⟨t,x⟩:Pt)]) rfl rfl rfl rfl rfl rfl rfl rfl rfl ?_|(refine zC T 102 hC (rows:=d.pots.map jg) (rows2:=[jg (⟨t,x⟩:Pt)]) (rows3:=(d.pots++[(⟨t,x⟩:Pt)]).map jg) (bytes:=72) rfl rfl rfl rfl (xj.sl (T.es_ok _ _ rfl)) (by rw[List.map_append];rfl) rfl rfl rfl (by kernel_rfl) (by rw[List.length_map,List.length_singleton];omega) (by rw[List.length_map,List.length_singleton];omega) rfl rfl rfl ?_)|refine gL ?_
  exact zg ⟨.inl rfl,nm [0,1,2,3,4,5,6,7,8,2,3,4,5,6,102,8],_,rfl,.refl _,⟨rfl,rfl,rfl,rfl,rfl,rfl,rfl,rfl,rfl,trivial⟩,rfl,rfl⟩
set_option maxHeartbeats 1000000 in
theorem zbD(f i:Nat)(d:xk)(hi:i<l.length)(hd:wO d≤2000000){xf:xk}{jf:Nat}{bf:Bool}(hR:wD l f i d=some (xf,jf,bf))(h1: ¬isA l i (⟨#[116,121,112,101]⟩:ByteArray)=true)(h2: ¬isA l i (⟨#[118,97,114]⟩:ByteArray)=true)(h3: ¬isA l i (⟨#[112,114,111,99]⟩:ByteArray)=true)(h4: ¬isA l i (⟨#[109,101,97,115,117,114,101]⟩:ByteArray)=true)(hs:isA l i (⟨#[105,110,118,97,114,105,97,110,116]⟩:ByteArray)=true):jf<l.length∧wO xf≤wO d+1∧zj Tryz.prog 149 [rdV,.one (.bx 1 0)] ((0,rdR l i false)::dR 2 d) (Bo true) ((0,rdR l jf bf)::dR 9 xf):=by
 have hi1:=zl hl hs
 unfold wO at hd
 simp only[wD]at hR
 rw[if_neg h1]at hR
 rw[if_neg h2]at hR
 rw[if_neg h3]at hR
 rw[if_neg h4]at hR
 rw[if_pos hs]at hR
 obtain⟨n,k1,b1,e1,hR1⟩:=tgo (b:=false) (w:={ d with invs:=d.invs++[⟨(⟨#[]⟩:ByteArray),(⟨#[]⟩:ByteArray),E0⟩] }) (k:=i+1) hR (⟨#[]⟩:ByteArray) rfl
 obtain⟨hk1,c1⟩:=vm hl hi1 false _ _ _ e1
 obtain⟨t,k2,b2,e2,hR2⟩:=tgo hR1 (⟨#[]⟩:ByteArray) rfl
 clear hR hR1
 have hS:=zc8 hl hk1 b1 (⟨#[40]⟩:ByteArray)
 by_cases hq:isB l b1 k1 (⟨#[40]⟩:ByteArray)=true
 ·rw[hq]at hS
  have hb:b1=false∧isA l k1 (⟨#[40]⟩:ByteArray)=true:=by unfold isB at hq;simpa using hq
  obtain⟨rfl,hp⟩:=hb
  simp only[tJ]at e2
  rw[if_pos hp]at e2
  obtain⟨t2,k3,b3,e3,e4⟩:=tgo (b:=false) (w:=(⟨#[]⟩:ByteArray)) (k:=k1+1) e2 (⟨#[]⟩:ByteArray) rfl
  obtain⟨hk3,c3⟩:=vm hl (zl hl hp) false _ _ _ e3
  obtain⟨_,k4,b4,e5,e6⟩:=tgo e4 () rfl
  obtain⟨hk4,c4⟩:=wH hl hk3 b3 _ _ _ _ e5
  obtain⟨rfl,rfl,rfl⟩:=zhZ e6
  obtain⟨x,k5,b5,e7,hR3⟩:=tgo hR2 E0 rfl
  obtain⟨hkf,c5⟩:=wh hl hk4 _ f _ _ _ e7
  obtain⟨rfl,rfl,rfl⟩:=zhZ hR3
  refine⟨hkf,by simp only[wO,List.length_append,List.length_singleton];omega,?_⟩
  clear hR2 hR3
  refine gO T Tryz.func149 fun C hC=>?_
  repeat' first|refine gG ?_|(exfalso;simp at h;done)|refine gB (fun h=>?_) (fun h=>?_)|refine zr hC ((zH hl hi (by assumption))) (nm [0]) rfl rfl (yJ.refl _) rfl rfl rfl rfl rfl rfl rfl rfl ?_|refine gR (zQ hl hs) (nm [0]) ?_|refine gR c1 (nm [0]) ?_|refine gR hS (nm [0]) ?_|refine gR c3 (nm [0]) ?_|refine gR c4 (nm [0]) ?_|refine gR c5 (nm [0]) ?_|refine ya T hC (rows:=[w6 (⟨n,t,x⟩:Iv)]) rfl rfl rfl rfl rfl rfl rfl rfl rfl ?_|(refine zC T 102 hC (rows:=d.invs.map w6) (rows2:=[w6 (⟨n,t,x⟩:Iv)]) (rows3:=(d.invs++[(⟨n,t,x⟩:Iv)]).map w6) (bytes:=88) rfl rfl rfl rfl (xj.sl (T.es_ok _ _ rfl)) (by rw[List.map_append];rfl) rfl rfl rfl (by kernel_rfl) (by rw[List.length_map,List.length_singleton];omega) (by rw[List.length_map,List.length_singleton];omega) rfl rfl rfl ?_)|refine gL ?_
  exact zg ⟨.inl rfl,nm [0,1,2,3,4,5,6,7,8,2,3,4,5,102,7,8],_,rfl,.refl _,⟨rfl,rfl,rfl,rfl,rfl,rfl,rfl,rfl,rfl,trivial⟩,rfl,rfl⟩
 ·rw[Bool.not_eq_true]at hq
  rw[hq]at hS
  have hfin:t=(⟨#[]⟩:ByteArray)∧k2=k1∧b2=b1:=by
   cases b1 with
   |true=>cases e2;exact⟨rfl,rfl,rfl⟩
   |false=>
    have hp: ¬isA l k1 (⟨#[40]⟩:ByteArray)=true:=by unfold isB at hq;simpa using hq
    simp only[tJ]at e2
    rw[if_neg hp]at e2
    cases e2;exact⟨rfl,rfl,rfl⟩
  obtain⟨rfl,rfl,rfl⟩:=hfin
  simp only[Bool.false_eq_true,if_false]at hS
  obtain⟨x,k5,b5,e7,hR3⟩:=tgo hR2 E0 rfl
  obtain⟨hkf,c5⟩:=wh hl hk1 _ f _ _ _ e7
  obtain⟨rfl,rfl,rfl⟩:=zhZ hR3
  refine⟨hkf,by simp only[wO,List.length_append,List.length_singleton];omega,?_⟩
  clear hR2 hR3
  refine gO T Tryz.func149 fun C hC=>?_
  repeat' first|refine gG ?_|(exfalso;simp at h;done)|refine gB (fun h=>?_) (fun h=>?_)|refine zr hC ((zH hl hi (by assumption))) (nm [0]) rfl rfl (yJ.refl _) rfl rfl rfl rfl rfl rfl rfl rfl ?_|refine gR (zQ hl hs) (nm [0]) ?_|refine gR c1 (nm [0]) ?_|refine gR hS (nm [0]) ?_|refine gR c5 (nm [0]) ?_|refine ya T hC (rows:=[w6 (⟨n,(⟨#[]⟩:ByteArray),x⟩:Iv)]) rfl rfl rfl rfl rfl rfl rfl rfl rfl ?_|(refine zC T 102 hC (rows:=d.invs.map w6) (rows2:=[w6 (⟨n,(⟨#[]⟩:ByteArray),x⟩:Iv)]) (rows3:=(d.invs++[(⟨n,(⟨#[]⟩:ByteArray),x⟩:Iv)]).map w6) (bytes:=88) rfl rfl rfl rfl (xj.sl (T.es_ok _ _ rfl)) (by rw[List.map_append];rfl) rfl rfl rfl (by kernel_rfl) (by rw[List.length_map,List.length_singleton];omega) (by rw[List.length_map,List.length_singleton];omega) rfl rfl rfl ?_)|refine gL ?_
  exact zg ⟨.inl rfl,nm [0,1,2,3,4,5,6,7,8,2,3,4,5,102,7,8],_,rfl,.refl _,⟨rfl,rfl,rfl,rfl,rfl,rfl,rfl,rfl,rfl,trivial⟩,rfl,rfl⟩
theorem zmB(f i:Nat)(d:xk)(hi:i<l.length)(hd:wO d≤2000000){xf:xk}{jf:Nat}{bf:Bool}(hR:wD l f i d=some (xf,jf,bf))(hk:kwI l i=true):jf<l.length∧wO xf≤wO d+1∧zj Tryz.prog 149 [rdV,.one (.bx 1 0)] ((0,rdR l i false)::dR 2 d) (Bo true) ((0,rdR l jf bf)::dR 9 xf):=by
 by_cases h1:isA l i (⟨#[116,121,112,101]⟩:ByteArray)=true
 ·exact zh0 hl f i d hi hd hR h1
 by_cases h2:isA l i (⟨#[118,97,114]⟩:ByteArray)=true
 ·exact zjS hl f i d hi hd hR h1 h2
 by_cases h3:isA l i (⟨#[112,114,111,99]⟩:ByteArray)=true
 ·exact zh1 hl f i d hi hd hR h1 h2 h3
 by_cases h4:isA l i (⟨#[109,101,97,115,117,114,101]⟩:ByteArray)=true
 ·exact zc9 hl f i d hi hd hR h1 h2 h3 h4
 by_cases h5:isA l i (⟨#[105,110,118,97,114,105,97,110,116]⟩:ByteArray)=true
 ·exact zbD hl f i d hi hd hR h1 h2 h3 h4 h5
 by_cases h6:isA l i (⟨#[112,111,116,101,110,116,105,97,108]⟩:ByteArray)=true
 ·exact zbC hl f i d hi hd hR h1 h2 h3 h4 h5 h6
 have h7:isA l i (⟨#[98,111,117,110,100]⟩:ByteArray)=true:=by unfold kwI at hk;simpa [h1,h2,h3,h4,h5,h6]using hk
 exact zfB hl f i d hi hd hR h1 h2 h3 h4 h5 h6 h7
end
end Hw.Fr.Ps
/- The library's functions at this program: their numbers. -/
namespace Hw.Fr
open Go Go.Proofs Go.Shelf
def zfC:Go.Shelf.Ren:=⟨fun|137=>224|217=>217|266=>264|n=>n,fun|9=>9|5=>5|3=>3|n=>n,fun|n=>n⟩
theorem zph:Go.Proofs.Lays.n137 Tryz.prog zfC where
 mixed:=by kernel_rfl
 f137:=Tryz.func224.trans (congrArg some (by kernel_rfl))
 f217:=Tryz.func217.trans (congrArg some (by kernel_rfl))
 f266:=Tryz.func264.trans (congrArg some (by kernel_rfl))
 t3:=Tryz.underlying3
 a3:=Tryz.isAgg3
 z3:=Tryz.sizeOf3
 v3:=Tryz.zeroValue3
 t5:=Tryz.underlying5
 a5:=Tryz.isAgg5
 z5:=Tryz.sizeOf5
 v5:=Tryz.zeroValue5
 t9:=Tryz.underlying9
 a9:=Tryz.isAgg9
 z9:=Tryz.sizeOf9
 v9:=Tryz.zeroValue9
def zfD:Go.Shelf.Ren:=⟨fun|99=>223|206=>269|n=>n,fun|9=>9|4=>4|3=>3|n=>n,fun|n=>n⟩
theorem zpi:Go.Proofs.Lays.n99 Tryz.prog zfD where
 mixed:=by kernel_rfl
 f99:=Tryz.func223.trans (congrArg some (by kernel_rfl))
 f206:=Tryz.func269.trans (congrArg some (by kernel_rfl))
 t3:=Tryz.underlying3
 a3:=Tryz.isAgg3
 z3:=Tryz.sizeOf3
 v3:=Tryz.zeroValue3
 t4:=Tryz.underlying4
 a4:=Tryz.isAgg4
 z4:=Tryz.sizeOf4
 v4:=Tryz.zeroValue4
 t9:=Tryz.underlying9
 a9:=Tryz.isAgg9
 z9:=Tryz.sizeOf9
 v9:=Tryz.zeroValue9
end Hw.Fr
/- The library's functions at this program: their numbers. -/
namespace Hw.Fr
open Go Go.Proofs Go.Shelf
def wI:Go.Shelf.Ren:=⟨fun|172=>268|244=>294|245=>295|247=>315|279=>316|280=>317|281=>318|282=>319|287=>329|316=>330|171=>143|205=>331|321=>338|322=>339|243=>168|246=>216|283=>260|284=>261|285=>262|286=>263|129=>200|317=>287|318=>288|319=>289|320=>290|337=>310|338=>311|n=>n,fun|9=>9|3=>3|75=>208|76=>209|4=>4|5=>5|167=>378|37=>41|0=>0|85=>379|2=>2|168=>381|53=>286|175=>392|46=>178|210=>395|127=>243|145=>415|143=>413|21=>21|171=>338|173=>340|212=>359|51=>284|20=>20|213=>360|232=>385|233=>386|80=>212|n=>n,fun|15=>6|16=>7|17=>1|18=>3|19=>4|n=>n⟩
theorem zgA:Go.Proofs.LaysC.n172 Tryz.prog wI where
 mixed:=by kernel_rfl
 f129:=Tryz.func200.trans (congrArg some (by kernel_rfl))
 f171:=Tryz.func143.trans (congrArg some (by kernel_rfl))
 f172:=Tryz.func268.trans (congrArg some (by kernel_rfl))
 f205:=Tryz.func331.trans (congrArg some (by kernel_rfl))
 f243:=Tryz.func168.trans (congrArg some (by kernel_rfl))
 f244:=Tryz.func294.trans (congrArg some (by kernel_rfl))
 f245:=Tryz.func295.trans (congrArg some (by kernel_rfl))
 f246:=Tryz.func216.trans (congrArg some (by kernel_rfl))
 f247:=Tryz.func315.trans (congrArg some (by kernel_rfl))
 f279:=Tryz.func316.trans (congrArg some (by kernel_rfl))
 f280:=Tryz.func317.trans (congrArg some (by kernel_rfl))
 f281:=Tryz.func318.trans (congrArg some (by kernel_rfl))
 f282:=Tryz.func319.trans (congrArg some (by kernel_rfl))
 f283:=Tryz.func260.trans (congrArg some (by kernel_rfl))
 f284:=Tryz.func261.trans (congrArg some (by kernel_rfl))
 f285:=Tryz.func262.trans (congrArg some (by kernel_rfl))
 f286:=Tryz.func263.trans (congrArg some (by kernel_rfl))
 f287:=Tryz.func329.trans (congrArg some (by kernel_rfl))
 f316:=Tryz.func330.trans (congrArg some (by kernel_rfl))
 f317:=Tryz.func287.trans (congrArg some (by kernel_rfl))
 f318:=Tryz.func288.trans (congrArg some (by kernel_rfl))
 f319:=Tryz.func289.trans (congrArg some (by kernel_rfl))
 f320:=Tryz.func290.trans (congrArg some (by kernel_rfl))
 f321:=Tryz.func338.trans (congrArg some (by kernel_rfl))
 f322:=Tryz.func339.trans (congrArg some (by kernel_rfl))
 f337:=Tryz.func310.trans (congrArg some (by kernel_rfl))
 f338:=Tryz.func311.trans (congrArg some (by kernel_rfl))
 t0:=Tryz.underlying0
 a0:=Tryz.isAgg0
 z0:=Tryz.sizeOf0
 v0:=Tryz.zeroValue0
 t2:=Tryz.underlying2
 a2:=Tryz.isAgg2
 z2:=Tryz.sizeOf2
 v2:=Tryz.zeroValue2
 t3:=Tryz.underlying3
 a3:=Tryz.isAgg3
 z3:=Tryz.sizeOf3
 v3:=Tryz.zeroValue3
 t4:=Tryz.underlying4
 a4:=Tryz.isAgg4
 z4:=Tryz.sizeOf4
 v4:=Tryz.zeroValue4
 t5:=Tryz.underlying5
 a5:=Tryz.isAgg5
 z5:=Tryz.sizeOf5
 v5:=Tryz.zeroValue5
 t9:=Tryz.underlying9
 a9:=Tryz.isAgg9
 z9:=Tryz.sizeOf9
 v9:=Tryz.zeroValue9
 t20:=Tryz.underlying20
 a20:=Tryz.isAgg20
 z20:=Tryz.sizeOf20
 v20:=Tryz.zeroValue20
 t21:=Tryz.underlying21
 a21:=Tryz.isAgg21
 z21:=Tryz.sizeOf21
 v21:=Tryz.zeroValue21
 t37:=Tryz.underlying41
 a37:=Tryz.isAgg41
 z37:=Tryz.sizeOf41
 v37:=Tryz.zeroValue41
 t46:=Tryz.underlying178
 a46:=Tryz.isAgg178
 z46:=Tryz.sizeOf178
 v46:=Tryz.zeroValue178
 t51:=Tryz.underlying284
 a51:=Tryz.isAgg284
 z51:=Tryz.sizeOf284
 v51:=Tryz.zeroValue284
 t53:=Tryz.underlying286
 a53:=Tryz.isAgg286
 z53:=Tryz.sizeOf286
 v53:=Tryz.zeroValue286
 t75:=Tryz.underlying208
 a75:=Tryz.isAgg208
 z75:=Tryz.sizeOf208
 v75:=Tryz.zeroValue208
 t76:=Tryz.underlying209
 a76:=Tryz.isAgg209
 z76:=Tryz.sizeOf209
 v76:=Tryz.zeroValue209
 t85:=Tryz.underlying379
 a85:=Tryz.isAgg379
 z85:=Tryz.sizeOf379
 v85:=Tryz.zeroValue379
 t127:=Tryz.underlying243
 a127:=Tryz.isAgg243
 z127:=Tryz.sizeOf243
 v127:=Tryz.zeroValue243
 t143:=Tryz.underlying413
 a143:=Tryz.isAgg413
 z143:=Tryz.sizeOf413
 v143:=Tryz.zeroValue413
 t145:=Tryz.underlying415
 a145:=Tryz.isAgg415
 z145:=Tryz.sizeOf415
 v145:=Tryz.zeroValue415
 t167:=Tryz.underlying378
 a167:=Tryz.isAgg378
 z167:=Tryz.sizeOf378
 v167:=Tryz.zeroValue378
 t168:=Tryz.underlying381
 a168:=Tryz.isAgg381
 z168:=Tryz.sizeOf381
 v168:=Tryz.zeroValue381
 t171:=Tryz.underlying338
 a171:=Tryz.isAgg338
 z171:=Tryz.sizeOf338
 v171:=Tryz.zeroValue338
 t173:=Tryz.underlying340
 a173:=Tryz.isAgg340
 z173:=Tryz.sizeOf340
 v173:=Tryz.zeroValue340
 t175:=Tryz.underlying392
 a175:=Tryz.isAgg392
 z175:=Tryz.sizeOf392
 v175:=Tryz.zeroValue392
 t210:=Tryz.underlying395
 a210:=Tryz.isAgg395
 z210:=Tryz.sizeOf395
 v210:=Tryz.zeroValue395
 t212:=Tryz.underlying359
 a212:=Tryz.isAgg359
 z212:=Tryz.sizeOf359
 v212:=Tryz.zeroValue359
 t213:=Tryz.underlying360
 a213:=Tryz.isAgg360
 z213:=Tryz.sizeOf360
 t232:=Tryz.underlying385
 a232:=Tryz.isAgg385
 z232:=Tryz.sizeOf385
 v232:=Tryz.zeroValue385
 t233:=Tryz.underlying386
 a233:=Tryz.isAgg386
 z233:=Tryz.sizeOf386
 v233:=Tryz.zeroValue386
 g15:=by kernel_rfl
 g16:=by kernel_rfl
 g17:=by kernel_rfl
 g18:=by kernel_rfl
 g19:=by kernel_rfl
 t80:=Tryz.underlying212
 a80:=Tryz.isAgg212
 z80:=Tryz.sizeOf212
 v80:=Tryz.zeroValue212
 i0:=by kernel_rfl
 i2:=by kernel_rfl
 i3:=by kernel_rfl
 i4:=by kernel_rfl
 i5:=by kernel_rfl
 i9:=by kernel_rfl
 i20:=by kernel_rfl
 i21:=by kernel_rfl
 i37:=by kernel_rfl
 i46:=by kernel_rfl
 i51:=by kernel_rfl
 i53:=by kernel_rfl
 i75:=by kernel_rfl
 i76:=by kernel_rfl
 i80:=by kernel_rfl
 i85:=by kernel_rfl
 i127:=by kernel_rfl
 i143:=by kernel_rfl
 i145:=by kernel_rfl
 i167:=by kernel_rfl
 i168:=by kernel_rfl
 i171:=by kernel_rfl
 i173:=by kernel_rfl
 i175:=by kernel_rfl
 i210:=by kernel_rfl
 i212:=by kernel_rfl
 i232:=by kernel_rfl
 i233:=by kernel_rfl
 m15:=by kernel_rfl
 m16:=by kernel_rfl
 m17:=by kernel_rfl
 m18:=by kernel_rfl
 m19:=by kernel_rfl
 c0:=by kernel_rfl
 c2:=by kernel_rfl
 c3:=by kernel_rfl
 c4:=by kernel_rfl
 c5:=by kernel_rfl
 c9:=by kernel_rfl
 c20:=by kernel_rfl
 c21:=by kernel_rfl
 c37:=by kernel_rfl
 c46:=by kernel_rfl
 c51:=by kernel_rfl
 c53:=by kernel_rfl
 c75:=by kernel_rfl
 c76:=by kernel_rfl
 c80:=by kernel_rfl
 c85:=by kernel_rfl
 c127:=by kernel_rfl
 c143:=by kernel_rfl
 c145:=by kernel_rfl
 c167:=by kernel_rfl
 c168:=by kernel_rfl
 c171:=by kernel_rfl
 c173:=by kernel_rfl
 c175:=by kernel_rfl
 c210:=by kernel_rfl
 c212:=by kernel_rfl
 c213:=by kernel_rfl
 c232:=by kernel_rfl
 c233:=by kernel_rfl
end Hw.Fr
namespace Hw.Fr.Ps
open Go Go.Proofs Go.Shelf Hw.M
theorem jD{f:FuncId}{fn:Func}(h:Tryz.prog.funcs[f]?=some fn)(h1:(fn.name== "runtime.NumGoroutine")=false)(h2:fn.body.isNone=false):ji Tryz.prog f:=⟨fn,h,h1,h2⟩
theorem zda(s p:Str):zj Tryz.prog 223 [Sr s,Sr p] [] (Bo ((lst p).isPrefixOf (lst s))) []:=
 @zgj _ _ [.string s,.string p] _ (jD Tryz.func223 (by kernel_rfl) (by kernel_rfl)) (fun w _=>Any.strings_HasPrefix zpi s p w) rfl
theorem zd4(s:Str)(c:UInt8):zj Tryz.prog 224 [Sr s,uc c.toNat] [] (I (Lib.indexByte (lst s) c)) []:=
 @zgj _ _ [.string s,.int .u8 c.toNat] _ (jD Tryz.func224 (by kernel_rfl) (by kernel_rfl)) (fun w _=>by
  have:=Any.strings_IndexByte zph s c.toNat w
  have e:((c.toNat:Int).toNat).toUInt8=c:=by simp
  rw[e]at this
  exact this) rfl
theorem zpj{s:Str}{v:Int}(h:Lib.atoiAll (lst s)= .ok v)(hs:s.size≤1000000):zj Tryz.prog 268 [Sr s] [] (.tup [I v,.one (.p (.k .nilIface))]) []:=by
 refine⟨jD Tryz.func268 (by kernel_rfl) (by kernel_rfl),fun M ρ w xs hx _ hI hG=>?_⟩
 obtain rfl:=zbl (av:=[.string s]) hx
 refine(Any.strconv_Atoi_ok zgA s (by omega) v h w).mono fun e w' ⟨he,hw⟩=>?_
 have hb:RowKit.Below w.heap.size w w':=by
  rcases hw with rfl|⟨t,rfl⟩
  ·exact RowKit.Below.refl _ _
  ·exact Lib.bytesWorld_below w _ t
 exact⟨_,M,ρ,he,zbm hI hb (by simp only[RepS];exact⟨[.int .i64 v,.nilIface],rfl,by simp only[RepSs,RepS,RepV,RepPV];exact⟨⟨trivial,rfl⟩,⟨trivial,rfl⟩,trivial⟩⟩)⟩
theorem zh2{s:Str}(h:Lib.atoiAll (lst s)= .range)(hs:s.size≤1000000)(hn:Lib.atoiSat (lst s)=9223372036854775807):zj Tryz.prog 268 [Sr s] [] (.tup [I 9223372036854775807,.one (.ar 0)]) [(0,.ifc)]:=by
 refine⟨jD Tryz.func268 (by kernel_rfl) (by kernel_rfl),fun M ρ w xs hx hT hI hG=>?_⟩
 obtain rfl:=zbl (av:=[.string s]) hx
 obtain⟨te,pe,hev⟩:=hG.er 7 (by simp[G3])
 have hv:=hI _ _ _ hev
 refine(Any.strconv_Atoi_range zgA s (by omega) h _ w hv (.inr ⟨te,pe,rfl⟩)).mono fun e w' ⟨N,he,_,_,hb⟩=>?_
 have hn':Lib.atoiSat s.data.toList=9223372036854775807:=hn
 rw[hn']at he
 have only: ∀i r,tg (tb [(0,Res.ifc)]) i=some r→i=0∧r= .ifc:=fun i r hi=>by
  simp only[tb,yc]at hi
  split at hi
  ·rename_i e;exact⟨e.symm,(Option.some.inj hi).symm⟩
  ·cases hi
 have nob: ∀ {i r b},tg (tb [(0,Res.ifc)]) i=some r→Bk (upd ρ 0 (.iface (wI.t 168) (.pointer (some ⟨N,0,none⟩))) i) b→False:=fun {i r b} hi hb=>by
  obtain⟨rfl,_⟩:=only i r hi
  rw[zt]at hb
  simp[Bk,blk]at hb
 refine⟨_,M,upd ρ 0 (.iface (wI.t 168) (.pointer (some ⟨N,0,none⟩))),he,?_⟩
 refine⟨?_,⟨fun i r hi=>?_,fun i j ri rj b hi _ _ hb _=>nob hi hb,fun i r b hi hb=>(nob hi hb).elim⟩,fun b o u hu=>by rw[cell_of_heap (hb.block b (xp (hI b o u hu)))];exact hI b o u hu,MLe.refl M,fun b o u hu=> .inl hu,
  fun b ⟨i,r,hi,hb⟩=>(nob hi hb).elim,fun b h _=>hb.block b h,hb.size,hb.os,hb.tape,hb.output,fun id hid=>by simp[RL.ids]at hid⟩
 ·simp only[RepS]
  exact⟨[.int .i64 9223372036854775807,.iface (wI.t 168) (.pointer (some ⟨N,0,none⟩))],rfl,by simp only[RepSs,RepS,RepV,RepPV];exact⟨⟨trivial,rfl⟩,⟨by rw[zt],rfl⟩,trivial⟩⟩
 ·obtain⟨rfl,rfl⟩:=only i r hi
  exact⟨_,_,zt _ _ _⟩
theorem vz{s:Str}{i:Nat}{b:UInt8}(h:(lst s)[i]?=some b):s[((i:Nat):Int).toNat]?=some b:=by
 have hlt:i<s.data.size:=by
  have:=(List.getElem?_eq_some_iff.1 h).1
  simpa [lst]using this
 have:s.data[i]=b:=by unfold lst at h;rw[Array.getElem?_toList,Array.getElem?_eq_getElem hlt]at h;exact Option.some.inj h
 have hlt':i<s.size:=hlt
 simp only[Int.toNat_natCast]
 rw[getElem?_pos s i hlt']
 exact congrArg some this
theorem zd5(c:Int):decide (xl c=3)=isDigit c:=by
 unfold xl isDigit
 by_cases h1:c=32
 ·subst h1;rfl
 by_cases h2:c=9
 ·subst h2;rfl
 by_cases h3:c=13
 ·subst h3;rfl
 by_cases h4:c=10
 ·subst h4;rfl
 simp only[h1,h2,h3,h4,if_false]
 by_cases h5:(decide (97≤c)&&decide (c≤122))=true
 ·rw[if_pos h5]
  simp only[Bool.and_eq_true,decide_eq_true_eq]at h5
  rw[decide_eq_false (show ¬c≤57 by omega)];simp
 ·rw[if_neg h5]
  by_cases h6:(decide (65≤c)&&decide (c≤90))=true
  ·rw[if_pos h6]
   simp only[Bool.and_eq_true,decide_eq_true_eq]at h6
   rw[decide_eq_false (show ¬c≤57 by omega)];simp
  ·rw[if_neg h6]
   by_cases h7:(decide (48≤c)&&decide (c≤57))=true
   ·rw[if_pos h7,h7];rfl
   ·rw[if_neg h7]
    have h7':(decide (48≤c)&&decide (c≤57))=false:=by simpa using h7
    rw[h7']
    by_cases h8:c=95
    ·rw[if_pos h8];rfl
    ·rw[if_neg h8];rfl
def zfE(w:By):Bool:=decide (w=[])||(decide (1<w.length)&&decide (w.head?=some 48))
theorem zdb(w:By):zcT w=(!zfE w&&w.all dB&&decide (numV w 0≤1099511627776)):=by
 unfold zcT zfE;cases decide (w=[])<;>cases(decide (1<w.length)&&decide (w.head?=some 48))<;>simp
def zoe(w:By):Int:=if(!zfE w&&w.all dB)=true then zo3 w else 0
theorem zh3{w:By}(hne:w≠ [])(hd:w.all dB=true):Lib.atoiSat w=9223372036854775807:=by
 cases w with
 |nil=>exact absurd rfl hne
 |cons c r=>
  have hc:=zgr.1 (by simp only[List.all_cons,Bool.and_eq_true]at hd;exact hd.1)
  exact Lib.atoiSat_other c r (by omega)
theorem zh4(s:Str)(hs:s.size≤1000000):zj Tryz.prog 222 [Sr s] [] (.tup [I (zoe (lst s)),.bq (zcT (lst s))]) []:=by
 have hl:=va s
 have no:zfE (lst s)=true→zoe (lst s)=0∧zcT (lst s)=false:=fun h=>by
  rw[zdb];unfold zoe;rw[h];simp
 by_cases h0:s=⟨#[]⟩
 ·obtain⟨e1,e2⟩:=no (by rw[h0];rfl)
  rw[e1,e2]
  refine gO T Tryz.func222 fun C hC=>?_
  repeat' first|refine gG ?_|refine gB (fun h=>?_) (fun h=>?_)
  all_goals first
   |exact zg ⟨.inl rfl,id,_,rfl,LeS.tup (.cons (.refl _) (.cons (.qb rfl) .nil)),trivial,rfl,rfl⟩
   |(exfalso;simp_all;done)
 have hne:lst s≠ []:=fun e=>h0 (by rw[←zcS s,e];rfl)
 have hpos:0<(lst s).length:=List.length_pos_iff.2 hne
 obtain⟨b,hb⟩:=zf hpos
 have hhd:(lst s).head?=some b:=by rw[List.head?_eq_getElem?];exact hb
 by_cases h1:(decide (1<(lst s).length)&&decide ((lst s).head?=some 48))=true
 ·obtain⟨e1,e2⟩:=no (by unfold zfE;rw[h1];simp)
  rw[e1,e2]
  simp only[Bool.and_eq_true,decide_eq_true_eq,hhd,Option.some.injEq]at h1
  obtain⟨h1,rfl⟩:=h1
  refine gO T Tryz.func222 fun C hC=>?_
  repeat' first|refine gG ?_|refine gB (fun h=>?_) (fun h=>?_)|refine wm T hC rfl rfl rfl (Int.le_refl _) (vz hb) rfl rfl ?_
  all_goals first
   |exact zg ⟨.inl rfl,id,_,rfl,LeS.tup (.cons (.refl _) (.cons (.qb rfl) .nil)),trivial,rfl,rfl⟩
   |(exfalso;simp_all;done)
   |(exfalso;simp only[decide_eq_true_eq,decide_eq_false_iff_not]at *; omega)
   |(exfalso;revert h;decide)
 have hnn:zfE (lst s)=false:=by
  unfold zfE
  rw[decide_eq_false hne];simpa using h1
 have hif:zoe (lst s)=if(lst s).all dB=true then zo3 (lst s)else 0:=by unfold zoe;rw[hnn];simp
 have hok:zcT (lst s)=((lst s).all dB&&decide (numV (lst s) 0≤1099511627776)):=by rw[zdb,hnn];rfl
 have h48:1<(lst s).length→b≠48:=fun h e=>h1 (by rw[hhd,e];simp[h])
 rw[hif,hok]
 clear no h1 hhd
 refine gO T Tryz.func222 fun C hC=>?_
 repeat' first|refine gG ?_|refine gB (fun h=>?_) (fun h=>?_)|refine wm T hC rfl rfl rfl (Int.le_refl _) (vz hb) rfl rfl ?_
 all_goals first
  |(exfalso;simp_all;done)
  |(exfalso;simp only[decide_eq_true_eq,decide_eq_false_iff_not]at *; refine h48 (by omega) ?_;apply UInt8.toNat_inj.1;have h48':(48:UInt8).toNat=48:=rfl;omega)
  |skip
 all_goals
  refine zy (fun i:Nat=>i≤s.size∧((lst s).take i).all dB=true) (fun i=>([(0,Sr s),(20,I s.size),(21,I i)],[])) (fun i=>s.size - i) hC
   0 ⟨Nat.zero_le _,by simp⟩ id gM ?_
  rintro i ⟨hi,hn⟩
  refine zI T hC true 200 rfl ?_
  refine zP rfl (fun hh=>?_) (fun hh=>?_)
  ·have hlt:i<(lst s).length:=by have:=of_decide_eq_true hh;omega
   clear hh
   obtain⟨x,hx⟩:=zf hlt
   repeat' first|refine gG ?_|refine gB (fun h=>?_) (fun h=>?_)|refine wm T hC rfl rfl rfl (Int.natCast_nonneg _) (vz hx) rfl rfl ?_|refine gC (xr _) ?_|refine zT ?_
   all_goals first
    |(have hd:dB x=false:=by unfold dB;rw[←zd5];simpa using h
      rw[jP hx hd]
      exact zg ⟨.inl rfl,id,_,rfl,LeS.tup (.cons (.refl _) (.cons (.qb rfl) .nil)),trivial,rfl,rfl⟩)
    |(have hd:dB x=true:=by unfold dB;rw[←zd5];simpa using h
      rw[yq (by omega)]
      refine zh (i+1) ⟨by omega,?_⟩ id (by omega) gM
      rw[xq hx,hn,hd];rfl)
  ·have hge: ¬i<(lst s).length:=by have:=of_decide_eq_false hh;omega
   have hall:=zai (p:=dB) (by omega) hn
   clear hh
   rw[hall,Bool.true_and]
   have ha:=zfd hne hall
   have hsat:=zh3 hne hall
   by_cases hv:numV (lst s) 0≤9223372036854775807
   ·rw[if_pos hv]at ha
    have hA:=zpj ha hs
    have hi':zo3 (lst s)=numV (lst s) 0:=by unfold zo3;rw[if_pos hv]
    rw[hi',if_pos rfl]
    repeat' first|refine gG ?_|refine gB (fun h=>?_) (fun h=>?_)|refine zp ?_|refine gC hA ?_|refine zq2 hC rfl (by kernel_rfl) rfl rfl ?_
    all_goals first
     |exact zg ⟨.inl rfl,id,_,rfl,LeS.tup (.cons (.refl _) (.cons (.qq rfl) .nil)),trivial,rfl,rfl⟩
     |(exfalso;simp_all;done)
   ·rw[if_neg hv]at ha
    have hA:=zh2 ha hs hsat
    have hi':zo3 (lst s)=9223372036854775807:=by unfold zo3;rw[if_neg hv]
    rw[hi',decide_eq_false (show ¬numV (lst s) 0≤1099511627776 by omega),if_pos rfl]
    repeat' first|refine gG ?_|refine gB (fun h=>?_) (fun h=>?_)|refine zp ?_|(refine gR hA (nm [140]) ?_)|refine zq1 hC rfl rfl (by kernel_rfl) rfl rfl ?_
    all_goals first
     |exact zg ⟨.inl rfl,id,_,rfl,LeS.tup (.cons (.refl _) (.cons (.qb rfl) .nil)),trivial,rfl,rfl⟩
     |(exfalso;simp_all;done)
theorem zfF(s:Str)(i j:Nat):lst (s.extract i j)=((lst s).drop i).take (j - i):=by
 simp only[lst,ByteArray.data_extract,Array.toList_extract,List.extract_eq_take_drop]
theorem jE(s:Str)(i j:Nat):s.extract i j=strOf (((lst s).drop i).take (j - i)):=by rw[←zfF,zcS]
theorem zjT{c:UInt8}{r:By}(h: ∀y∈[(⟨#[61,61]⟩:ByteArray),(⟨#[33,61]⟩:ByteArray),(⟨#[60,61]⟩:ByteArray),(⟨#[45,62]⟩:ByteArray)],(lst y).isPrefixOf (c::r)=false):ziP (c::r)=if 0≤Lib.indexByte (lst (⟨#[40,41,123,125,91,93,44,59,58,46,61,60,43,45,42,47,37]⟩:Str)) c then some (strOf [c])else none:=by
 have key: ∀i:Fin 256,(([(⟨#[40]⟩:ByteArray),(⟨#[41]⟩:ByteArray),⟨#[123]⟩,⟨#[125]⟩,(⟨#[91]⟩:ByteArray),(⟨#[93]⟩:ByteArray),(⟨#[44]⟩:ByteArray),(⟨#[59]⟩:ByteArray),(⟨#[58]⟩:ByteArray),(⟨#[46]⟩:ByteArray),(⟨#[61]⟩:ByteArray),(⟨#[60]⟩:ByteArray),(⟨#[43]⟩:ByteArray),(⟨#[45]⟩:ByteArray),(⟨#[42]⟩:ByteArray),(⟨#[47]⟩:ByteArray),(⟨#[37]⟩:ByteArray)]:List Str).find? fun y=>(lst y).isPrefixOf [UInt8.ofNat i.val])=
  if 0≤Lib.indexByte (lst (⟨#[40,41,123,125,91,93,44,59,58,46,61,60,43,45,42,47,37]⟩:Str)) (UInt8.ofNat i.val)then some (strOf [UInt8.ofNat i.val])else none:=by decide+kernel
 have hci:UInt8.ofNat c.toNat=c:=by simp
 have hk:=key ⟨c.toNat,c.toNat_lt⟩
 simp only[hci]at hk
 rw[←hk]
 have e:syms=[(⟨#[61,61]⟩:ByteArray),(⟨#[33,61]⟩:ByteArray),(⟨#[60,61]⟩:ByteArray),(⟨#[45,62]⟩:ByteArray)]++[(⟨#[40]⟩:ByteArray),(⟨#[41]⟩:ByteArray),⟨#[123]⟩,⟨#[125]⟩,(⟨#[91]⟩:ByteArray),(⟨#[93]⟩:ByteArray),(⟨#[44]⟩:ByteArray),(⟨#[59]⟩:ByteArray),(⟨#[58]⟩:ByteArray),(⟨#[46]⟩:ByteArray),(⟨#[61]⟩:ByteArray),(⟨#[60]⟩:ByteArray),(⟨#[43]⟩:ByteArray),(⟨#[45]⟩:ByteArray),(⟨#[42]⟩:ByteArray),(⟨#[47]⟩:ByteArray),(⟨#[37]⟩:ByteArray)]:=rfl
 unfold ziP
 rw[e,List.find?_append]
 have hn:([(⟨#[61,61]⟩:ByteArray),(⟨#[33,61]⟩:ByteArray),(⟨#[60,61]⟩:ByteArray),(⟨#[45,62]⟩:ByteArray)]:List Str).find? (fun y=>(lst y).isPrefixOf (c::r))=none:=by
  rw[List.find?_eq_none]
  intro y hy
  rw[h y hy];simp
 rw[hn,Option.none_or]
 have one: ∀y∈([(⟨#[40]⟩:ByteArray),(⟨#[41]⟩:ByteArray),⟨#[123]⟩,⟨#[125]⟩,(⟨#[91]⟩:ByteArray),(⟨#[93]⟩:ByteArray),(⟨#[44]⟩:ByteArray),(⟨#[59]⟩:ByteArray),(⟨#[58]⟩:ByteArray),(⟨#[46]⟩:ByteArray),(⟨#[61]⟩:ByteArray),(⟨#[60]⟩:ByteArray),(⟨#[43]⟩:ByteArray),(⟨#[45]⟩:ByteArray),(⟨#[42]⟩:ByteArray),(⟨#[47]⟩:ByteArray),(⟨#[37]⟩:ByteArray)]:List Str),(lst y).length=1:=by decide+kernel
 have: ∀l:List Str,(∀y∈l,(lst y).length=1)→l.find? (fun y=>(lst y).isPrefixOf (c::r))=l.find? (fun y=>(lst y).isPrefixOf [c]):=fun l=>by
  induction l with
  |nil=>intro _;rfl
  |cons y l ih=>
   intro hl
   have hy:=hl y (by simp)
   have e2:(lst y).isPrefixOf (c::r)=(lst y).isPrefixOf [c]:=by
    match lst y,hy with
    | [u],_=>rfl
    | [],hy=>simp at hy
    |_::_::_,hy=>simp at hy
   rw[List.find?_cons,List.find?_cons,e2,ih fun z hz=>hl z (by simp[hz])]
 exact this _ one
theorem zmC:ziP []=none:=by decide+kernel
theorem zjU(s:Str):zj Tryz.prog 172 [Sr s] [] (Sr ((ziP (lst s)).getD (⟨#[]⟩:ByteArray))) []:=by
 have hl:=va s
 have hP:=fun y:Str=>zda s y
 refine gO T Tryz.func172 fun C hC=>?_
 repeat' first|refine gG ?_|refine gB (fun h=>?_) (fun h=>?_)|(refine zl4 (vs:=[.p (ks (⟨#[61,61]⟩:ByteArray)),.p (ks (⟨#[33,61]⟩:ByteArray)),.p (ks (⟨#[60,61]⟩:ByteArray)),.p (ks (⟨#[45,62]⟩:ByteArray))]) (len:=4) (e:=1) (el:=9) (zs:=List.replicate 4 (.p (ks (⟨#[]⟩:ByteArray)))) hC rfl (by kernel_rfl) (by kernel_rfl) (by kernel_rfl) rfl (by kernel_rfl) rfl rfl ?_)
 refine zy (fun i:Nat=>i≤4∧ ∀y∈([(⟨#[61,61]⟩:ByteArray),(⟨#[33,61]⟩:ByteArray),(⟨#[60,61]⟩:ByteArray),(⟨#[45,62]⟩:ByteArray)]:List Str).take i,(lst y).isPrefixOf (lst s)=false) (fun i=>([(0,Sr s),(5,.agg [.p (ks (⟨#[61,61]⟩:ByteArray)),.p (ks (⟨#[33,61]⟩:ByteArray)),.p (ks (⟨#[60,61]⟩:ByteArray)),.p (ks (⟨#[45,62]⟩:ByteArray))]),(6,I i)],[])) (fun i=>4 - i) hC
  0 ⟨Nat.zero_le _,by simp⟩ id gM ?_
 rintro i ⟨hi,hn⟩
 refine zI T hC true 200 rfl ?_
 refine zP rfl (fun hh=>?_) (fun hh=>?_)
 ·have hlt:i<4:=by have:=of_decide_eq_true hh;omega
  clear hh
  obtain⟨y,hy⟩:=zf (l:=([(⟨#[61,61]⟩:ByteArray),(⟨#[33,61]⟩:ByteArray),(⟨#[60,61]⟩:ByteArray),(⟨#[45,62]⟩:ByteArray)]:List Str)) (i:=i) (by simpa using hlt)
  have hyv:([.p (ks (⟨#[61,61]⟩:ByteArray)),.p (ks (⟨#[33,61]⟩:ByteArray)),.p (ks (⟨#[60,61]⟩:ByteArray)),.p (ks (⟨#[45,62]⟩:ByteArray))]:List V)[((i:Nat):Int).toNat]?=some (.p (ks y)):=by
   have:([.p (ks (⟨#[61,61]⟩:ByteArray)),.p (ks (⟨#[33,61]⟩:ByteArray)),.p (ks (⟨#[60,61]⟩:ByteArray)),.p (ks (⟨#[45,62]⟩:ByteArray))]:List V)=([(⟨#[61,61]⟩:ByteArray),(⟨#[33,61]⟩:ByteArray),(⟨#[60,61]⟩:ByteArray),(⟨#[45,62]⟩:ByteArray)]:List Str).map fun y=>V.p (ks y):=rfl
   rw[this,List.getElem?_map,Int.toNat_natCast,hy];rfl
  have hPy:=hP y
  cases hp:(lst y).isPrefixOf (lst s)with
  |true=>
   rw[hp]at hPy
   have hsy:ziP (lst s)=some y:=by
    unfold ziP
    have e:syms=([(⟨#[61,61]⟩:ByteArray),(⟨#[33,61]⟩:ByteArray),(⟨#[60,61]⟩:ByteArray),(⟨#[45,62]⟩:ByteArray)]:List Str)++[(⟨#[40]⟩:ByteArray),(⟨#[41]⟩:ByteArray),⟨#[123]⟩,⟨#[125]⟩,(⟨#[91]⟩:ByteArray),(⟨#[93]⟩:ByteArray),(⟨#[44]⟩:ByteArray),(⟨#[59]⟩:ByteArray),(⟨#[58]⟩:ByteArray),(⟨#[46]⟩:ByteArray),(⟨#[61]⟩:ByteArray),(⟨#[60]⟩:ByteArray),(⟨#[43]⟩:ByteArray),(⟨#[45]⟩:ByteArray),(⟨#[42]⟩:ByteArray),(⟨#[47]⟩:ByteArray),(⟨#[37]⟩:ByteArray)]:=rfl
    rw[e,List.find?_append]
    have:([(⟨#[61,61]⟩:ByteArray),(⟨#[33,61]⟩:ByteArray),(⟨#[60,61]⟩:ByteArray),(⟨#[45,62]⟩:ByteArray)]:List Str).find? (fun y=>(lst y).isPrefixOf (lst s))=some y:=by
     rw[List.find?_eq_some_iff_getElem]
     refine⟨hp,i,by simpa using hlt,?_,fun j hj=>?_⟩
     ·have:=(List.getElem?_eq_some_iff.1 hy).2;exact this
     ·have:=hn (([(⟨#[61,61]⟩:ByteArray),(⟨#[33,61]⟩:ByteArray),(⟨#[60,61]⟩:ByteArray),(⟨#[45,62]⟩:ByteArray)]:List Str)[j]'(by simp;omega)) (List.mem_take_iff_getElem.2 ⟨j,by simp;omega,rfl⟩)
      rw[this];rfl
    rw[this];rfl
   rw[hsy]
   repeat' first|refine gG ?_|refine gB (fun h=>?_) (fun h=>?_)|(refine zgl (len:=4) (el:=9) hC rfl rfl (by kernel_rfl) (by kernel_rfl) (by kernel_rfl) (Int.natCast_nonneg _) (by omega) hyv rfl rfl ?_)|refine gC hPy ?_|refine zT ?_
   exact gF
  |false=>
   rw[hp]at hPy
   repeat' first|refine gG ?_|refine gB (fun h=>?_) (fun h=>?_)|(refine zgl (len:=4) (el:=9) hC rfl rfl (by kernel_rfl) (by kernel_rfl) (by kernel_rfl) (Int.natCast_nonneg _) (by omega) hyv rfl rfl ?_)|refine gC hPy ?_
   rw[yq (by omega)]
   refine zh (i+1) ⟨by omega,fun z hz=>?_⟩ id (by omega) gM
   rw[List.take_add_one,hy]at hz
   rcases List.mem_append.1 hz with hz|hz
   ·exact hn z hz
   ·simp only[Option.toList_some,List.mem_singleton]at hz;subst hz;exact hp
 ·have hge:i=4:=by have:=of_decide_eq_false hh;omega
  subst hge
  clear hh
  have hn4: ∀y∈([(⟨#[61,61]⟩:ByteArray),(⟨#[33,61]⟩:ByteArray),(⟨#[60,61]⟩:ByteArray),(⟨#[45,62]⟩:ByteArray)]:List Str),(lst y).isPrefixOf (lst s)=false:=fun y hy=>hn y (by simpa using hy)
  match hls:lst s with
  | []=>
    have h0:s=⟨#[]⟩:=by rw[←zcS s,hls];rfl
    subst h0
    rw[zmC]
    repeat' first|refine gG ?_|refine gB (fun h=>?_) (fun h=>?_)|refine zp ?_
    all_goals first
     |exact gF
     |(exfalso;simp_all;done)
  |c::r=>
   rw[hls]at hn4 hl
   have hsz:1≤s.size:=by simp only[List.length_cons]at hl;omega
   have hc0:(lst s)[0]?=some c:=by rw[hls];rfl
   have hI:=zd4 ⟨#[40,41,123,125,91,93,44,59,58,46,61,60,43,45,42,47,37]⟩ c
   have hne:s≠⟨#[]⟩:=fun e=>by subst e;simp[lst]at hls
   rw[zjT hn4]
   generalize Lib.indexByte (lst (⟨#[40,41,123,125,91,93,44,59,58,46,61,60,43,45,42,47,37]⟩:Str)) c=q at hI
   have hx:s.extract 0 (1:Int).toNat=strOf [c]:=by
    rw[jE,hls];rfl
   repeat' first|refine gG ?_|refine gB (fun h=>?_) (fun h=>?_)|refine zp ?_|refine wm T hC rfl rfl rfl (Int.le_refl _) (vz hc0) rfl rfl ?_|refine gC hI ?_|(refine zq0 hC rfl rfl (by kernel_rfl) (by decide) (by omega) rfl rfl ?_)
   all_goals first
    |(rw[if_pos (by simpa using h),hx]
      exact gF)
    |(rw[if_neg (by simpa using h)]
      exact gF)
    |(exfalso;simp_all;done)
def zt2(k:Int)(t:Str)(n ln cl:Int):List PV:=[ki k,ks t,ki n,ki ln,ki cl]
theorem zh5(s:Str)(hs:s.size≤1000000):(∀t,zmi (lst s)=some t→zj Tryz.prog 171 [Sr s] [] (.tup [zz (zt2 t.1 t.2.1 t.2.2 0 0),Bo true]) [])∧(zmi (lst s)=none→zj Tryz.prog 171 [Sr s] [] (.tup [zz (zt2 2 (⟨#[]⟩:ByteArray) (zoe (lst s)) 0 0),Bo false]) []):=by
 have hK:=jQ s
 have hN:=yz s
 have hI:=zh4 s hs
 have hif:zcT (lst s)=true→zoe (lst s)=numV (lst s) 0:=fun h=>by
  rw[zdb]at h
  simp only[Bool.and_eq_true,decide_eq_true_eq]at h
  unfold zoe zo3
  rw[if_pos (by simp[h.1.1,h.1.2]),if_pos (by omega)]
 unfold zmi
 rw[zcS]
 cases hk:y6 s with
 |true=>
  rw[hk]at hK
  refine⟨fun t ht=>?_,fun h=>by simp at h⟩
  rw[if_pos rfl]at ht
  obtain rfl:=Option.some.inj ht
  refine gO T Tryz.func171 fun C hC=>?_
  repeat' first|refine gG ?_|refine gB (fun h=>?_) (fun h=>?_)|refine gC hK ?_
  all_goals first
   |exact gF
   |(exfalso;simp_all;done)
 |false=>
 rw[hk]at hK
 cases hn:isName s with
 |true=>
  rw[hn]at hN
  refine⟨fun t ht=>?_,fun h=>by simp at h⟩
  simp only[Bool.false_eq_true,if_false,if_true]at ht
  obtain rfl:=Option.some.inj ht
  refine gO T Tryz.func171 fun C hC=>?_
  repeat' first|refine gG ?_|refine gB (fun h=>?_) (fun h=>?_)|refine gC hK ?_|refine gC hN ?_
  all_goals first
   |exact gF
   |(exfalso;simp_all;done)
 |false=>
 rw[hn]at hN
 cases ho:zcT (lst s)with
 |true=>
  rw[ho,hif ho]at hI
  refine⟨fun t ht=>?_,fun h=>by simp at h⟩
  simp only[Bool.false_eq_true,if_false,if_true]at ht
  obtain rfl:=Option.some.inj ht
  refine gO T Tryz.func171 fun C hC=>?_
  repeat' first|refine gG ?_|refine gB (fun h=>?_) (fun h=>?_)|refine gC hK ?_|refine gC hN ?_|refine gC hI ?_
  all_goals first
   |exact zg ⟨.inl rfl,id,_,rfl,LeS.tup (.cons (.refl _) (.cons (.bq rfl) .nil)),trivial,rfl,rfl⟩
   |exact gF
   |(exfalso;simp_all;done)
 |false=>
  rw[ho]at hI
  refine⟨fun t ht=>by simp at ht,fun _=>?_⟩
  refine gO T Tryz.func171 fun C hC=>?_
  repeat' first|refine gG ?_|refine gB (fun h=>?_) (fun h=>?_)|refine gC hK ?_|refine gC hN ?_|refine gC hI ?_
  all_goals first
   |exact zg ⟨.inl rfl,id,_,rfl,LeS.tup (.cons (.refl _) (.cons (.bq rfl) .nil)),trivial,rfl,rfl⟩
   |exact gF
   |(exfalso;simp_all;done)
end Hw.Fr.Ps
namespace Hw.Fr.Ps
open Go Go.Proofs Go.Shelf Hw.M
theorem zpk{w:By}(h:w.all dB=true):0≤numV w 0:=by
 have:=zcU w 0 h
 have e0:((0:Nat):Int)=0:=rfl
 rw[e0]at this;omega
end Hw.Fr.Ps
namespace Hw.Fr.Ps
open Go Go.Proofs Go.Shelf Hw.M
def mvU(a b i:Nat):Nat:=match Nat.beq i a with
 |true=>b
 |false=>i
theorem yg{a b i:Nat}(ha:100≤a)(hi:i<100):mvU a b i=i:=by
 unfold mvU;rw[yK (by omega)]
theorem zjV{p:UInt8→Bool}: ∀(l:By) (k:Nat),(l.take k).all p=true→(∀x,l[k]?=some x→p x=false)→l.takeWhile p=l.take k
 | [],k,_,_=>by simp
 |x::l,0,_,h=>by
  have:=h x rfl
  rw[List.takeWhile_cons,if_neg (by simp[this])];rfl
 |x::l,k+1,ha,h=>by
  rw[List.take_succ_cons,List.all_cons,Bool.and_eq_true]at ha
  rw[List.takeWhile_cons,if_pos ha.1,List.take_succ_cons,zjV l k ha.2 (fun y hy=>h y (by simpa using hy))]
theorem zfG{l:By}{i:Nat}{c:UInt8}(h:l[i]?=some c):l.drop i=c::l.drop (i+1):=by
 obtain⟨hi,rfl⟩:=List.getElem?_eq_some_iff.1 h
 exact List.drop_eq_getElem_cons hi
theorem zjW{c:UInt8}:blB c=true↔xl c.toNat=1:=by unfold blB;exact decide_eq_true_iff
theorem zjX{c:UInt8}:wB c=true↔2≤xl c.toNat:=by
 have:=zak c.toNat
 unfold wB
 cases h:isWord (c.toNat:Int)with
 |true=>rw[h]at this;simp at this;simpa using this
 |false=>rw[h]at this;simp at this;simp;omega
theorem zh6{l:By}{i:Nat}{c:UInt8}(p:Int×Int)(out:List Tok)(h:l[i]?=some c)(hb:blB c=true):lxx (l.drop i) p out=lxx (l.drop (i+1)) (mv p c) out:=by
 have ht:tk (l.drop i)=some (1,none):=by rw[zfG h];simp only[tk,if_pos hb]
 rw[za3 p out ht,List.drop_drop,zfG h]
 simp
theorem zd6{l:By}{p:UInt8→Bool}(hp:p 10=false)(q:Int×Int):(l.take (l.takeWhile p).length).foldl mv q=(q.1,q.2+(l.takeWhile p).length):=by
 have e:l.take (l.takeWhile p).length=l.takeWhile p:=(List.prefix_iff_eq_take.1 (List.takeWhile_prefix p)).symm
 rw[e]
 refine zfc _ _ fun b hb e=>?_
 subst e
 have:=(List.all_eq_true.1 (List.all_takeWhile (p:=p) (l:=l))) _ hb
 rw[hp]at this;cases this
theorem zmD{l:By}{i k:Nat}(p:Int×Int)(out:List Tok)(h:l[i]?=some 35)(hk:((l.drop i).takeWhile fun b=>decide (b≠10)).length=k):lxx (l.drop i) p out=lxx (l.drop (i+k)) (p.1,p.2+k) out:=by
 subst hk
 have ht:tk (l.drop i)=some (((l.drop i).takeWhile fun b=>decide (b≠10)).length,none):=by
  rw[zfG h];simp only[tk];rw[if_neg (by decide)];rfl
 rw[za3 p out ht,List.drop_drop,zd6 (by decide)]
 simp
theorem zjY{l:By}{i:Nat}{c:UInt8}(p:Int×Int)(out:List Tok)(h:l[i]?=some c)(hb:blB c=false)(hc:c≠35)(hw:wB c=true){t:Int×Str×Int}(ht:zmi ((l.drop i).takeWhile wB)=some t):lxx (l.drop i) p out=lxx (l.drop (i+((l.drop i).takeWhile wB).length)) (p.1,p.2+((l.drop i).takeWhile wB).length) (out++[xt p t]):=by
 have hk:tk (l.drop i)=some (((l.drop i).takeWhile wB).length,some t):=by
  rw[zfG h]at ht⊢
  simp only[tk]
  rw[if_neg (by simp[hb]),if_neg hc,if_pos hw,ht];rfl
 rw[za3 p out hk,List.drop_drop,zd6 (by decide)]
 rfl
theorem zmE{l:By}{i:Nat}{c:UInt8}(p:Int×Int)(out:List Tok)(h:l[i]?=some c)(hb:blB c=false)(hc:c≠35)(hw:wB c=true)(ht:zmi ((l.drop i).takeWhile wB)=none):lxx (l.drop i) p out=([],p,7):=by
 rw[zfG h]at ht⊢
 refine zja p out ?_
 simp only[tk]
 rw[if_neg (by simp[hb]),if_neg hc,if_pos hw,ht];rfl
theorem zjZ: ∀y∈syms,∀b∈lst y,b≠10:=by decide+kernel
theorem zmF{l:By}{y:Str}(h:ziP l=some y)(q:Int×Int):(l.take y.size).foldl mv q=(q.1,q.2+(y.size:Int)):=by
 obtain⟨h1,h2⟩:=zgq h
 have e:l.take y.size=lst y:=by
  rw[←va];exact(List.prefix_iff_eq_take.1 (List.isPrefixOf_iff_prefix.1 h2)).symm
 rw[e,zfc _ _ (zjZ y h1),va]
theorem zmG{l:By}{i:Nat}{c:UInt8}(p:Int×Int)(out:List Tok)(h:l[i]?=some c)(hb:blB c=false)(hc:c≠35)(hw:wB c=false){y:Str}(ht:ziP (l.drop i)=some y):lxx (l.drop i) p out=lxx (l.drop (i+y.size)) (p.1,p.2+(y.size:Int)) (out++[xt p (4,y,0)]):=by
 have hk:tk (l.drop i)=some (y.size,some (4,y,0)):=by
  rw[zfG h]at ht⊢
  simp only[tk]
  rw[if_neg (by simp[hb]),if_neg hc,if_neg (by simp[hw]),ht];rfl
 rw[za3 p out hk,List.drop_drop,zmF ht]
 rfl
theorem zpl{l:By}{i:Nat}{c:UInt8}(p:Int×Int)(out:List Tok)(h:l[i]?=some c)(hb:blB c=false)(hc:c≠35)(hw:wB c=false)(ht:ziP (l.drop i)=none):lxx (l.drop i) p out=([],p,7):=by
 rw[zfG h]at ht⊢
 refine zja p out ?_
 simp only[tk]
 rw[if_neg (by simp[hb]),if_neg hc,if_neg (by simp[hw]),ht];rfl
end Hw.Fr.Ps
namespace Hw.Fr.Ps
open Go Go.Proofs Go.Shelf Hw.M
theorem zd7(s:Str)(hs:s.size≤1000000):zj Tryz.prog 146 [Sr s] [] (.tup [pS (zmh (yR s).1),zz [ki (yR s).2.1.1,ki (yR s).2.1.2],I (yR s).2.2]) []:=by
 have hl:=va s
 by_cases hbig:65536<s.size
 ·have hR:yR s=([],(0,0),4):=if_pos hbig
  rw[hR]
  refine gO T Tryz.func146 fun C hC=>?_
  repeat' first|refine gG ?_|refine gB (fun h=>?_) (fun h=>?_)
  all_goals first
   |exact zg ⟨.inl rfl,id,_,rfl,LeS.tup (.cons (LeS.one (.nil 5)) (.cons (.refl _) (.cons (.refl _) .nil))),trivial,rfl,rfl⟩
   |(exfalso;simp only[decide_eq_false_iff_not]at h;omega)
 have hR:yR s=lxx ((lst s).drop 0) (1,1) []:=if_neg hbig
 generalize yR s=R at hR
 refine gO T Tryz.func146 fun C hC=>?_
 repeat' first|refine gG ?_|refine gB (fun h=>?_) (fun h=>?_)
 ·exfalso;have:=of_decide_eq_true h;omega
 refine yo hC rfl 101 5 rfl [(5,.one (.ar 101))] ⟨⟨_,rfl,AdS.nil⟩,trivial⟩ [] trivial ?_
 refine zy (fun q:Nat×Nat×Nat×List Tok=>q.1≤s.size∧q.2.2.1≤q.1∧q.2.1≤q.1+1∧q.2.2.2.length≤q.1∧R=lxx ((lst s).drop q.1) (q.2.1,(q.1:Int) - q.2.2.1+1) q.2.2.2) (fun q=>([(0,Sr s),(3,.one (.bx 1003 0)),(5,.one (.ar 101)),(6,I q.2.1),(7,I q.2.2.1),(8,I q.1)],[(1003,some (Res.box [.p (ki 0),.p (ki 0)])),(101,some (Res.arr 5 (q.2.2.2.map zal)))])) (fun q=>s.size - q.1) hC
  (0,1,0,[]) ⟨Nat.zero_le _,Nat.zero_le _,by decide,Nat.zero_le _,hR⟩ id gM ?_
 rintro⟨i,ln,bg,out⟩ ⟨hi,hb,hlnn,hout,hL⟩
 simp only at hi hb hlnn hout hL
 refine zI T hC true 200 rfl ?_
 refine zP rfl (fun hh=>?_) (fun hh=>?_)
 rotate_left
 ·have hge:i=s.size:=by have:=of_decide_eq_false hh;omega
  clear hh
  rw[List.drop_of_length_le (by omega),zo2]at hL
  subst hL
  have w1:IntKind.i64.wrap ((s.size:Int) - bg)=(s.size:Int) - bg:=wrap64 (by omega)
  have w2:IntKind.i64.wrap ((s.size:Int) - bg+1)=(s.size:Int) - bg+1:=wrap64 (by omega)
  have hol:(out.map zal).length=out.length:=List.length_map _
  have happ:out.map zal++[[ki 5,ks (⟨#[]⟩:ByteArray),ki 0,ki ln,ki (IntKind.i64.wrap (IntKind.i64.wrap ((s.size:Int) - bg)+1))]]=(out++[(⟨5,(⟨#[]⟩:ByteArray),0,ln,(i:Int) - bg+1⟩:Tok)]).map zal:=by rw[w1,w2,hge,List.map_append];rfl
  repeat' first|refine gG ?_|refine gB (fun h=>?_) (fun h=>?_)|refine zp ?_|refine ya T hC rfl rfl rfl rfl rfl rfl rfl rfl rfl ?_|(refine zC T 102 hC (rows:=out.map zal) (rows2:=[[ki 5,ks (⟨#[]⟩:ByteArray),ki 0,ki ln,ki (IntKind.i64.wrap (IntKind.i64.wrap ((s.size:Int) - bg)+1))]]) (rows3:=(out++[(⟨5,(⟨#[]⟩:ByteArray),0,ln,(i:Int) - bg+1⟩:Tok)]).map zal) (bytes:=48) rfl rfl rfl rfl (xj.sl (T.es_ok _ _ rfl)) happ rfl rfl rfl (by kernel_rfl) (by rw[hol,List.length_singleton];omega) (by rw[hol,List.length_singleton];omega) rfl rfl rfl ?_)
  refine zm rfl (id:=102) (e:=5) (rows:=(out++[(⟨5,(⟨#[]⟩:ByteArray),0,ln,(i:Int) - bg+1⟩:Tok)]).map zal) rfl [(2,pS (zmh (out++[(⟨5,(⟨#[]⟩:ByteArray),0,ln,(i:Int) - bg+1⟩:Tok)])))] ⟨⟨_,rfl,FrS.ar⟩,trivial⟩ [] trivial ?_
  exact gF
 have hlt:i<(lst s).length:=by have:=of_decide_eq_true hh;omega
 clear hh
 obtain⟨c,hc⟩:=zf hlt
 have hK:=xr c.toNat
 have w1:IntKind.i64.wrap ((i:Int) - bg)=(i:Int) - bg:=wrap64 (by omega)
 have w2:IntKind.i64.wrap ((i:Int) - bg+1)=(i:Int) - bg+1:=wrap64 (by omega)
 cases hbl:blB c with
 |true=>
  have hcl:=zjW.1 hbl
  rw[zh6 _ _ hc hbl]at hL
  rw[hcl]at hK
  repeat' first|refine gG ?_|(exfalso;simp at h;done)|refine gB (fun h=>?_) (fun h=>?_)|refine wm T hC rfl rfl rfl (Int.natCast_nonneg _) (vz hc) rfl rfl ?_|refine gC hK ?_
  ·have h10:c=10:=UInt8.toNat_inj.1 (by have:=of_decide_eq_true h;have e:(10:UInt8).toNat=10:=rfl;omega)
   subst h10
   dsimp only
   rw[yq (by omega),yq (by omega)]
   refine zh (i+1,ln+1,i+1,out) ⟨by simp only;omega,Nat.le_refl _,by simp only;omega,by simp only;omega,?_⟩ id (by simp only;omega) gM
   rw[hL];simp[mv]
  ·have h10:c≠10:=fun e=>by subst e;exact absurd h (by decide)
   dsimp only
   rw[yq (by omega)]
   refine zh (i+1,ln,bg,out) ⟨by simp only;omega,by simp only;omega,by simp only;omega,by simp only;omega,?_⟩ id (by simp only;omega) gM
   rw[hL];unfold mv;rw[if_neg h10]
   congr 2
   show(i:Int) - bg+1+1=((i+1:Nat):Int) - bg+1
   omega
 |false=>
 have hcl:xl c.toNat≠1:=fun e=>by rw[zjW.2 e]at hbl;cases hbl
 by_cases h35:c=35
 ·subst h35
  rw[show xl ((35:UInt8).toNat:Int)=0 from rfl]at hK
  repeat' first|refine gG ?_|(exfalso;simp at h;done)|refine gB (fun h=>?_) (fun h=>?_)|refine wm T hC rfl rfl rfl (Int.natCast_nonneg _) (vz hc) rfl rfl ?_|refine gC hK ?_
  all_goals (try (exfalso;revert h;decide))
  refine zy (fun k:Nat=>i+k≤s.size∧(((lst s).drop i).take k).all (fun b=>decide (b≠10))=true) (fun k=>([(0,Sr s),(3,.one (.bx 1003 0)),(5,.one (.ar 101)),(6,I ln),(7,I bg),(8,I (i+k:Nat))],[(1003,some (Res.box [.p (ki 0),.p (ki 0)])),(101,some (Res.arr 5 (out.map zal)))])) (fun k=>s.size - i - k) hC
   0 ⟨by omega,by simp⟩ id gM ?_
  rintro k ⟨hk,hall⟩
  have hcom:(∀x,((lst s).drop i)[k]?=some x→x=10)→0<k∧R=lxx ((lst s).drop (i+k)) (ln,((i+k:Nat):Int) - bg+1) out:=fun hx=>by
   have htw:=zjV _ k hall (fun x h=>by simpa using hx x h)
   refine⟨?_,?_⟩
   ·rcases Nat.eq_zero_or_pos k with rfl|h
    ·have:=hx 35 (by rw[List.getElem?_drop];exact hc)
     cases this
    ·exact h
   ·rw[hL,zmD _ _ hc (k:=k) (by rw[htw,List.length_take,List.length_drop];omega)]
    have e:(i:Int) - bg+1+k=((i+k:Nat):Int) - bg+1:=by omega
    show lxx _ ((ln:Int),(i:Int) - bg+1+k) out=_
    rw[e]
  refine zI T hC true 200 rfl ?_
  by_cases hj:i+k<s.size
  ·obtain⟨x,hx⟩:=zf (l:=lst s) (i:=i+k) (by omega)
   have hxd:((lst s).drop i)[k]?=some x:=by rw[List.getElem?_drop];exact hx
   repeat' first|refine gG ?_|(exfalso;have h2:=of_decide_eq_false h;omega)|refine gB (fun h=>?_) (fun h=>?_)|refine wm T hC rfl rfl rfl (Int.natCast_nonneg _) (vz hx) rfl rfl ?_|refine zp ?_
   ·have hx10:x≠10:=fun e=>by subst e;exact absurd h (by decide)
    rw[yq (by omega)]
    exact zh (k+1) ⟨by omega,by rw[xq hxd,hall];simpa using hx10⟩ id (by omega) gM
   ·obtain⟨h0,hL'⟩:=hcom fun y hy=>by
     rw[hxd]at hy
     obtain rfl:=Option.some.inj hy
     exact UInt8.toNat_inj.1 (by have e2:(10:UInt8).toNat=10:=rfl;simp at h;omega)
    exact zh (i+k,ln,bg,out) ⟨by simp only;omega,by simp only;omega,by simp only;omega,by simp only;omega,hL'⟩ id (by simp only;omega) gM
  ·repeat' first|refine gG ?_|(exfalso;have h2:=of_decide_eq_true h;omega)|refine gB (fun h=>?_) (fun h=>?_)|refine zp ?_
   obtain⟨h0,hL'⟩:=hcom fun y hy=>by
    rw[List.getElem?_drop,List.getElem?_eq_none (by omega)]at hy
    cases hy
   exact zh (i+k,ln,bg,out) ⟨by simp only;omega,by simp only;omega,by simp only;omega,by simp only;omega,hL'⟩ id (by simp only;omega) gM
 have hwd:= @zjX c
 have h35c: ¬(c.toNat:Int)=35:=fun e=>h35 (UInt8.toNat_inj.1 (by have e2:(35:UInt8).toNat=35:=rfl;omega))
 generalize hcv:xl (c.toNat:Int)=cv at hK hcl hwd
 cases hw:wB c with
 |true=>
  rw[hw]at hwd
  have hcw:2≤cv:=hwd.1 rfl
  repeat' first|refine gG ?_|(exfalso;have h2:=of_decide_eq_true h;omega)|(exfalso;have h2:=of_decide_eq_false h;omega)|refine gB (fun h=>?_) (fun h=>?_)|refine wm T hC rfl rfl rfl (Int.natCast_nonneg _) (vz hc) rfl rfl ?_|refine gC hK ?_
  dsimp only
  rw[w1,w2]
  refine zy (fun k:Nat=>i+k≤s.size∧(((lst s).drop i).take k).all wB=true) (fun k=>([(0,Sr s),(3,.one (.bx 1003 0)),(5,.one (.ar 101)),(6,I ln),(7,I bg),(8,I i),(9,.one (.bx 1009 0)),(11,I (i+k:Nat))],[(1003,some (Res.box [.p (ki 0),.p (ki 0)])),(1009,some (Res.box [.p (ki ln),.p (ki ((i:Int) - bg+1))])),(101,some (Res.arr 5 (out.map zal)))])) (fun k=>s.size - i - k) hC
   0 ⟨by omega,by simp⟩ id gM ?_
  rintro k ⟨hk,hall⟩
  have hwe:(∀x,((lst s).drop i)[k]?=some x→wB x=false)→0<k∧((lst s).drop i).takeWhile wB=((lst s).drop i).take k∧(((lst s).drop i).takeWhile wB).length=k:=fun hx=>by
   have htw:=zjV _ k hall hx
   refine⟨?_,htw,?_⟩
   ·rcases Nat.eq_zero_or_pos k with rfl|h
    ·have:=hx c (by rw[List.getElem?_drop];exact hc)
     rw[hw]at this;cases this
    ·exact h
   ·rw[htw,List.length_take,List.length_drop];omega
  have hex:s.extract i (i+k)=strOf (((lst s).drop i).take k):=by rw[jE,show i+k - i=k by omega]
  have hlx:lst (s.extract ((i:Nat):Int).toNat ((i+k:Nat):Int).toNat)=((lst s).drop i).take k:=by rw[Int.toNat_natCast,Int.toNat_natCast,hex,zi8]
  have hW:=zh5 (s.extract ((i:Nat):Int).toNat ((i+k:Nat):Int).toNat) (by rw[←va,hlx,List.length_take];omega)
  rw[hlx]at hW
  have hol:(out.map zal).length=out.length:=List.length_map _
  by_cases hend: ∃x,(lst s)[i+k]?=some x∧wB x=true
  ·obtain⟨x,hx,hwx⟩:=hend
   have hxd:((lst s).drop i)[k]?=some x:=by rw[List.getElem?_drop];exact hx
   have hxl:=(List.getElem?_eq_some_iff.1 hx).1
   have hKx:=xr x.toNat
   have hcx:=zjX.1 hwx
   refine zI T hC true 200 rfl ?_
   repeat' first|refine gG ?_|(exfalso;have h2:=of_decide_eq_true h;omega)|(exfalso;have h2:=of_decide_eq_false h;omega)|refine gB (fun h=>?_) (fun h=>?_)|refine wm T hC rfl rfl rfl (Int.natCast_nonneg _) (vz hx) rfl rfl ?_|refine gC hKx ?_
   rw[yq (by omega)]
   exact zh (k+1) ⟨by omega,by rw[xq hxd,hall,hwx];rfl⟩ id (by omega) gM
  ·have hno: ∀x,((lst s).drop i)[k]?=some x→wB x=false:=fun x hx=>by
    rw[List.getElem?_drop]at hx
    cases hwx:wB x with
    |false=>rfl
    |true=>exact absurd ⟨x,hx,hwx⟩ hend
   obtain⟨h0,htw,hlen⟩:=hwe hno
   have hend2:s.size≤i+k∨ ∃x,(lst s)[i+k]?=some x∧ ¬2≤xl (x.toNat:Int):=by
    by_cases hz:s.size≤i+k
    ·exact .inl hz
    ·obtain⟨x,hx⟩:=zf (l:=lst s) (i:=i+k) (by omega)
     refine .inr ⟨x,hx,fun e=>?_⟩
     have:=hno x (by rw[List.getElem?_drop];exact hx)
     rw[zjX.2 e]at this;cases this
   cases ht:zmi (((lst s).drop i).take k)with
   |none=>
    have hW2:=hW.2 ht
    have hbad:=zmE ((ln:Int),(i:Int) - bg+1) out hc hbl h35 hw (by rw[htw];exact ht)
    rw[hbad]at hL
    subst hL
    refine zI T hC true 200 rfl ?_
    rcases hend2 with hz|⟨x,hx,hcx⟩
    ·repeat' first|refine gG ?_|(exfalso;have h2:=of_decide_eq_true h;omega)|(exfalso;have h2:=of_decide_eq_false h;omega)|refine gB (fun h=>?_) (fun h=>?_)|refine zp ?_|(refine zcO hC rfl rfl rfl (by kernel_rfl) (Int.natCast_nonneg _) (by omega) (by omega) rfl rfl ?_)|refine gC hW2 ?_|refine zT ?_
     exact zg ⟨.inl rfl,id,_,rfl,LeS.tup (.cons (LeS.one (.nil 5)) (.cons (.refl _) (.cons (.refl _) .nil))),trivial,rfl,rfl⟩
    ·have hKx:=xr x.toNat
     have hxl:=(List.getElem?_eq_some_iff.1 hx).1
     repeat' first|refine gG ?_|(exfalso;have h2:=of_decide_eq_true h;omega)|(exfalso;have h2:=of_decide_eq_false h;omega)|refine gB (fun h=>?_) (fun h=>?_)|refine wm T hC rfl rfl rfl (Int.natCast_nonneg _) (vz hx) rfl rfl ?_|refine gC hKx ?_|refine zp ?_|(refine zcO hC rfl rfl rfl (by kernel_rfl) (Int.natCast_nonneg _) (by omega) (by omega) rfl rfl ?_)|refine gC hW2 ?_|refine zT ?_
     exact zg ⟨.inl rfl,id,_,rfl,LeS.tup (.cons (LeS.one (.nil 5)) (.cons (.refl _) (.cons (.refl _) .nil))),trivial,rfl,rfl⟩
   |some t=>
    have hW1:=hW.1 t ht
    have hgo:=zjY ((ln:Int),(i:Int) - bg+1) out hc hbl h35 hw (t:=t) (by rw[htw];exact ht)
    rw[hlen]at hgo
    rw[hgo]at hL
    have e:(i:Int) - bg+1+k=((i+k:Nat):Int) - bg+1:=by omega
    simp only[e]at hL
    have happ:out.map zal++[zal (xt ((ln:Int),(i:Int) - bg+1) t)]=(out++[xt ((ln:Int),(i:Int) - bg+1) t]).map zal:=by rw[List.map_append];rfl
    refine zI T hC true 200 rfl ?_
    rcases hend2 with hz|⟨x,hx,hcx⟩
    ·repeat' first|refine gG ?_|(exfalso;have h2:=of_decide_eq_true h;omega)|(exfalso;have h2:=of_decide_eq_false h;omega)|refine gB (fun h=>?_) (fun h=>?_)|refine zp ?_|(refine zcO hC rfl rfl rfl (by kernel_rfl) (Int.natCast_nonneg _) (by omega) (by omega) rfl rfl ?_)|refine gC hW1 ?_|refine ya T hC rfl rfl rfl rfl rfl rfl rfl rfl rfl ?_|(refine zC T 102 hC (rows:=out.map zal) (rows2:=[zal (xt ((ln:Int),(i:Int) - bg+1) t)]) (rows3:=(out++[xt ((ln:Int),(i:Int) - bg+1) t]).map zal) (bytes:=48) rfl rfl rfl rfl (xj.sl (T.es_ok _ _ rfl)) happ rfl rfl rfl (by kernel_rfl) (by rw[hol,List.length_singleton];omega) (by rw[hol,List.length_singleton];omega) rfl rfl rfl ?_)|refine zT ?_
     exact zh (i+k,ln,bg,out++[xt ((ln:Int),(i:Int) - bg+1) t]) ⟨by simp only;omega,by simp only;omega,by simp only;omega,by simp only[List.length_append,List.length_singleton];omega,hL⟩ (mvU 101 102) (by simp only;omega) ⟨rfl,⟨rfl,rfl,rfl,rfl,rfl,rfl,trivial⟩,⟨rfl,rfl,trivial⟩,rfl,fun i hi=>yg (by omega) hi⟩
    ·have hKx:=xr x.toNat
     have hxl:=(List.getElem?_eq_some_iff.1 hx).1
     repeat' first|refine gG ?_|(exfalso;have h2:=of_decide_eq_true h;omega)|(exfalso;have h2:=of_decide_eq_false h;omega)|refine gB (fun h=>?_) (fun h=>?_)|refine wm T hC rfl rfl rfl (Int.natCast_nonneg _) (vz hx) rfl rfl ?_|refine gC hKx ?_|refine zp ?_|(refine zcO hC rfl rfl rfl (by kernel_rfl) (Int.natCast_nonneg _) (by omega) (by omega) rfl rfl ?_)|refine gC hW1 ?_|refine ya T hC rfl rfl rfl rfl rfl rfl rfl rfl rfl ?_|(refine zC T 102 hC (rows:=out.map zal) (rows2:=[zal (xt ((ln:Int),(i:Int) - bg+1) t)]) (rows3:=(out++[xt ((ln:Int),(i:Int) - bg+1) t]).map zal) (bytes:=48) rfl rfl rfl rfl (xj.sl (T.es_ok _ _ rfl)) happ rfl rfl rfl (by kernel_rfl) (by rw[hol,List.length_singleton];omega) (by rw[hol,List.length_singleton];omega) rfl rfl rfl ?_)|refine zT ?_
     exact zh (i+k,ln,bg,out++[xt ((ln:Int),(i:Int) - bg+1) t]) ⟨by simp only;omega,by simp only;omega,by simp only;omega,by simp only[List.length_append,List.length_singleton];omega,hL⟩ (mvU 101 102) (by simp only;omega) ⟨rfl,⟨rfl,rfl,rfl,rfl,rfl,rfl,trivial⟩,⟨rfl,rfl,trivial⟩,rfl,fun i hi=>yg (by omega) hi⟩
 |false=>
  rw[hw]at hwd
  have hcw: ¬2≤cv:=fun e=>by have:=hwd.2 e;cases this
  repeat' first|refine gG ?_|(exfalso;have h2:=of_decide_eq_true h;omega)|(exfalso;have h2:=of_decide_eq_false h;omega)|refine gB (fun h=>?_) (fun h=>?_)|refine wm T hC rfl rfl rfl (Int.natCast_nonneg _) (vz hc) rfl rfl ?_|refine gC hK ?_
  dsimp only
  rw[w1,w2]
  have hsx:lst (s.extract ((i:Nat):Int).toNat s.size)=(lst s).drop i:=by rw[Int.toNat_natCast,jE,zi8,List.take_of_length_le (by rw[List.length_drop];omega)]
  have hS:=zjU (s.extract ((i:Nat):Int).toNat s.size)
  rw[hsx]at hS
  have hol:(out.map zal).length=out.length:=List.length_map _
  cases hy:ziP ((lst s).drop i)with
  |none=>
   rw[hy]at hS
   have hbad:=zpl ((ln:Int),(i:Int) - bg+1) out hc hbl h35 hw hy
   rw[hbad]at hL
   subst hL
   repeat' first|refine gG ?_|(exfalso;exact absurd h (by decide))|refine gB (fun h=>?_) (fun h=>?_)|(refine zgk hC rfl rfl (by kernel_rfl) (Int.natCast_nonneg _) (by omega) rfl rfl ?_)|refine gC hS ?_|refine zT ?_
   exact zg ⟨.inl rfl,id,_,rfl,LeS.tup (.cons (LeS.one (.nil 5)) (.cons (.refl _) (.cons (.refl _) .nil))),trivial,rfl,rfl⟩
  |some y=>
   rw[hy]at hS
   have hys:=zgq hy
   have hyz:=zdL y hys.1
   have hyl:=vE hys.2
   rw[va,List.length_drop]at hyl
   have hyne:y≠⟨#[]⟩:=fun e=>by subst e;exact absurd hyz.1 (by decide)
   have hgo:=zmG ((ln:Int),(i:Int) - bg+1) out hc hbl h35 hw hy
   rw[hgo]at hL
   have e:(i:Int) - bg+1+(y.size:Int)=((i+y.size:Nat):Int) - bg+1:=by omega
   simp only[e]at hL
   have happ:out.map zal++[zal (xt ((ln:Int),(i:Int) - bg+1) (4,y,0))]=(out++[xt ((ln:Int),(i:Int) - bg+1) (4,y,0)]).map zal:=by rw[List.map_append];rfl
   repeat' first|refine gG ?_|(exfalso;exact hyne (of_decide_eq_true h))|refine gB (fun h=>?_) (fun h=>?_)|(refine zgk hC rfl rfl (by kernel_rfl) (Int.natCast_nonneg _) (by omega) rfl rfl ?_)|refine gC hS ?_|refine ya T hC rfl rfl rfl rfl rfl rfl rfl rfl rfl ?_|(refine zC T 102 hC (rows:=out.map zal) (rows2:=[zal (xt ((ln:Int),(i:Int) - bg+1) (4,y,0))]) (rows3:=(out++[xt ((ln:Int),(i:Int) - bg+1) (4,y,0)]).map zal) (bytes:=48) rfl rfl rfl rfl (xj.sl (T.es_ok _ _ rfl)) happ rfl rfl rfl (by kernel_rfl) (by rw[hol,List.length_singleton];omega) (by rw[hol,List.length_singleton];omega) rfl rfl rfl ?_)|refine zT ?_
   show Goal _ _ _ _ _ ((8,Kk IntKind.i64 (IntKind.i64.wrap ((i:Int)+(y.size:Int))))::_) _ _
   rw[show IntKind.i64.wrap ((i:Int)+(y.size:Int))=((i+y.size:Nat):Int) from by rw[wrap64 (by omega)];omega]
   exact zh (i+y.size,ln,bg,out++[xt ((ln:Int),(i:Int) - bg+1) (4,y,0)]) ⟨by simp only;omega,by simp only;omega,by simp only;omega,by simp only[List.length_append,List.length_singleton];omega,hL⟩ (mvU 101 102) (by simp only;omega) ⟨rfl,⟨rfl,rfl,rfl,rfl,rfl,rfl,trivial⟩,⟨rfl,rfl,trivial⟩,rfl,fun i hi=>yg (by omega) hi⟩
end Hw.Fr.Ps
namespace Hw.Fr.Ps
open Go Go.Proofs Go.Shelf Hw.M
def zpm(s:Str):Bool:=syms.any fun x=>decide (x=s)
def jt(t:Tok):Bool:=if t.k=1 then isName t.t&&decide (t.n=0)else if t.k=3 then y6 t.t&&decide (t.n=0)else if t.k=4 then zpm t.t&&decide (t.n=0)else if t.k=2 then decide (t.t=(⟨#[]⟩:ByteArray))&&(decide (0≤t.n)&&decide (t.n≤1099511627776))else if t.k=5 then decide (t.t=(⟨#[]⟩:ByteArray))&&decide (t.n=0)else false
theorem zj0(s:Str):zpm s=true↔s∈syms:=by
 unfold zpm;rw[List.any_eq_true]
 exact⟨fun⟨x,h1,h2⟩=>by have:=of_decide_eq_true h2;subst this;exact h1,fun h=>⟨s,h,decide_eq_true rfl⟩⟩
end Hw.Fr.Ps