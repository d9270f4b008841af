/- The engine and the contracts. -/
import Derived.Test.YtgcfmjlnapcioaaGreatDoorC5
import Derived.Test.YtgcfmjlnapcioaaGreatDoorProg
import Derived.KernelRfl
import Derived.Shelf.Sort.Plain
import Derived.Test.YtgcfmjlnapcioaaGreatDoorC1
import Derived.Sort.Grow
import Derived.Shelf.Slices.In.SortNone
import Derived.Shelf.SlicesE.Delete
import Derived.Shelf.SlicesE.Reverse
import Derived.Shelf.Spec.SlicesInsertGrow
set_option linter.unusedVariables false
set_option linter.unusedSimpArgs false
namespace Hw.Fr.Md
open Go Go.Proofs Hw.M
end Hw.Fr.Md
namespace Hw.Fr.Md
open Go Go.Proofs Hw.M
theorem zm8{l:List Int}{i:Nat}{x:Int}(h:l[i]?=some x):l.drop i=x::l.drop (i+1):=by
 obtain⟨hi,rfl⟩:=List.getElem?_eq_some_iff.1 h
 exact List.drop_eq_getElem_cons hi
theorem zcr(a b:List Int):zj Tryz.prog 129 [pS (zA a),pS (zA b)] [] (I (cmpI a b)) []:=by
 refine gO T Tryz.func129 fun C hC=>?_
 refine w9 0 rfl fun hlen=>?_
 rw[List.length_map]at hlen
 repeat' first|refine gG ?_|refine gB (fun h=>?_) (fun h=>?_)
 rw[List.length_map]
 refine zy (fun i:Nat=>i≤a.length∧i≤b.length∧cmpI (a.drop i) (b.drop i)=cmpI a b) (fun i=>([(0,pS (zA a)),(1,pS (zA b)),(9,pS (zA a)),(10,I a.length),(11,I i)],[])) (fun i=>a.length - i) hC
  0 ⟨Nat.zero_le _,Nat.zero_le _,rfl⟩ id gM ?_
 rintro i ⟨hi,hj,hn⟩
 refine zI T hC true 200 rfl ?_
 refine zP rfl (fun h=>?_) (fun h=>?_)
 ·have hlt:i<a.length:=by simpa using h
  clear h
  obtain⟨x,hx⟩:=zf hlt
  rw[zm8 hx]at hn
  by_cases hb:i<b.length
  ·obtain⟨y,hy⟩:=zf hb
   rw[zm8 hy]at hn
   simp only[cmpI]at hn
   repeat' first|refine gG ?_|(exfalso;first|(simp only[decide_eq_true_eq,decide_eq_false_iff_not,List.length_map,Bool.not_eq_true',Bool.not_eq_false']at *; omega)|(simp at h;done))|refine gB (fun h=>?_) (fun h=>?_)|refine gI T (zu hx) ?_|refine gI T (zu hy) ?_|refine gC (zkm _ _) ?_|refine zT ?_|refine gN ?_
   ·unfold zou at h⊢
    rw[←hn]
    by_cases h1:x<y
    ·rw[if_pos h1,if_pos h1]
    ·rw[if_neg h1,if_neg h1]
     by_cases h2:y<x
     ·rw[if_pos h2,if_pos h2]
     ·rw[if_neg h1,if_neg h2]at h;simp at h
   ·have hxy:x=y:=by
     unfold zou at h
     by_cases h1:x<y
     ·rw[if_pos h1]at h;simp at h
     ·rw[if_neg h1]at h
      by_cases h2:y<x
      ·rw[if_pos h2]at h;simp at h
      ·omega
    subst hxy
    rw[if_neg (by omega),if_neg (by omega)]at hn
    rw[yq (by omega)]
    exact zh (i+1) ⟨by omega,by omega,hn⟩ id (by omega) gM
  ·rw[List.drop_of_length_le (l:=b) (by omega)]at hn
   simp only[cmpI]at hn
   repeat' first|refine gG ?_|(exfalso;first|(simp only[decide_eq_true_eq,decide_eq_false_iff_not,List.length_map,Bool.not_eq_true',Bool.not_eq_false']at *; omega)|(simp at h;done))|refine gB (fun h=>?_) (fun h=>?_)|refine gI T (zu hx) ?_|refine zT ?_|refine gN ?_
   exact hn
 ·have hge: ¬i<a.length:=by simpa using h
  rw[List.drop_of_length_le (l:=a) (by omega)]at hn
  by_cases hb:i<b.length
  ·obtain⟨y,hy⟩:=zf hb
   rw[zm8 hy]at hn
   simp only[cmpI]at hn
   repeat' first|refine gG ?_|(exfalso;first|(simp only[decide_eq_true_eq,decide_eq_false_iff_not,List.length_map,Bool.not_eq_true',Bool.not_eq_false']at *; omega)|(simp at h;done))|refine gB (fun h=>?_) (fun h=>?_)|refine zp ?_|refine gN ?_
   exact hn
  ·rw[List.drop_of_length_le (by omega)]at hn
   simp only[cmpI]at hn
   repeat' first|refine gG ?_|(exfalso;first|(simp only[decide_eq_true_eq,decide_eq_false_iff_not,List.length_map,Bool.not_eq_true',Bool.not_eq_false']at *; omega)|(simp at h;done))|refine gB (fun h=>?_) (fun h=>?_)|refine zp ?_|refine gN ?_
   exact hn
theorem zgM(a b:Rw):ltC 0 a b=false:=by cases a<;>cases b<;>rfl
theorem zgN(r key:Rw)(h:key.length≤r.length)(h2:key.length≤1000):zj Tryz.prog 157 [pS (zA r),pS (zA key)] [] (I (cmpI (r.take key.length) key)) []:=by
 have hX:=zcr (r.take key.length) key
 refine gO T Tryz.func157 fun C hC=>?_
 repeat' first|refine gG ?_|refine gB (fun h=>?_) (fun h=>?_)|(refine yP T hC ((r.take key.length).map zS) rfl rfl rfl (Int.natCast_nonneg _) (by simp only[List.length_map];omega) (by simp only[List.length_map,Int.toNat_natCast,List.map_take]) rfl rfl ?_)|refine gC hX ?_
 exact gF
theorem zpH{c:Nat}{R:Rws}{a r:Rw}(h:R[vA c R a]?=some r):hasC c R a=decide (r.take c=a.take c):=by unfold hasC;rw[h]
theorem zm9(R:Rws)(key:Rw)(hk:key.length≤1000)(hR:R.length≤1000)(hw: ∀r∈R,key.length≤r.length)(hm: ∀(i j:Nat) r s,i≤j→R[i]?=some r→R[j]?=some s→ltC key.length s key=true→ltC key.length r key=true):
 zj Tryz.prog 156 [pS (z8 R),pS (zA key),.one (.cl 157 [] [])] [] (.tup [I (vA key.length R key),.bq (hasC key.length R key)]) []:=by
 have key_take:key.take key.length=key:=List.take_length
 have hcmp: ∀r∈R,(cmpI (r.take key.length) key<0↔ltC key.length r key=true)∧(cmpI (r.take key.length) key=0↔r.take key.length=key):=fun r hr=>by
  have:=zgF key.length r key (hw r hr) (Nat.le_refl _)
  rw[key_take]at this
  exact this
 refine gO T Tryz.func156 fun C hC=>?_
 repeat' first|refine gG ?_|refine gB (fun h=>?_) (fun h=>?_)
 rw[List.length_map]
 refine zy (fun p:Nat×Nat=>p.1≤p.2∧p.2≤R.length∧(∀(t:Nat) r,t<p.1→R[t]?=some r→ltC key.length r key=true)∧(∀(t:Nat) r,p.2≤t→R[t]?=some r→ltC key.length r key=false)) (fun p=>([(0,pS (z8 R)),(1,pS (zA key)),(2,.one (.cl 157 [] [])),(8,I R.length),(9,I p.1),(10,I p.2)],[])) (fun p=>p.2 - p.1) hC
  (0,R.length) ⟨Nat.zero_le _,Nat.le_refl _,fun t r h=>absurd h (Nat.not_lt_zero _),fun t r h hr=>absurd (List.getElem?_eq_some_iff.1 hr).1 (by omega)⟩ id gM ?_
 rintro⟨i,j⟩ ⟨hij,hj,hb,ha⟩
 simp only at hij hj hb ha
 refine zI T hC true 200 rfl ?_
 refine zP rfl (fun h=>?_) (fun h=>?_)
 ·have hlt:i<j:=by simpa using h
  clear h
  repeat' first|refine gG ?_|refine gB (fun h=>?_) (fun h=>?_)|refine zoY hC rfl rfl (by decide) (by decide) rfl rfl ?_
  have hmid:IntKind.i64.wrap (IntKind.u64.wrap (IntKind.i64.wrap ((i:Int)+(j:Int))) / 2 ^ (1:Int).toNat)=(((i+j) / 2:Nat):Int):=by
   have e1:IntKind.i64.wrap ((i:Int)+(j:Int))=(i:Int)+(j:Int):=wrap64 (by omega)
   rw[e1]
   have:IntKind.u64.wrap ((i:Int)+(j:Int))=((i+j:Nat):Int):=by
    unfold IntKind.wrap
    simp[IntKind.bits,IntKind.signed]
    omega
   rw[this]
   rw[show((i+j:Nat):Int) / 2 ^ (1:Int).toNat=(((i+j) / 2:Nat):Int) by
    rw[show(2:Int) ^ (1:Int).toNat=2 by decide];omega]
   exact wrap64 (by omega)
  simp only
  rw[hmid]
  obtain⟨x,hx⟩:=zf (l:=R) (i:=(i+j) / 2) (by omega)
  have hxm:=List.mem_of_getElem? hx
  have hF:=zgN x key (hw x hxm) hk
  have hcx:=(hcmp x hxm).1
  generalize hme:(i+j) / 2=m at*
  repeat' first|refine gG ?_|refine gB (fun h=>?_) (fun h=>?_)|refine gI T (zu hx) ?_|refine gC hF ?_
  ·rw[yq (by omega)]
   have h1:=hcx.1 (of_decide_eq_true h)
   exact zh (m+1,j) ⟨by simp only;omega,hj,fun t r ht hr=>hm t m r x (by simp only at ht;omega) hr hx h1,ha⟩ id (by simp only;omega) gM
  ·have h1:ltC key.length x key=false:=by
    cases h2:ltC key.length x key with
    |false=>rfl
    |true=>exact absurd (hcx.2 h2) (of_decide_eq_false h)
   refine zh (i,m) ⟨by simp only;omega,by simp only;omega,hb,fun t r ht hr=>?_⟩ id (by simp only;omega) gM
   cases h2:ltC key.length r key with
   |false=>rfl
   |true=>rw[hm m t x r ht hx hr h2]at h1;cases h1
 ·have hge:i=j:=by have:=of_decide_eq_false h;simp only at this;omega
  subst hge
  clear h
  have hpos:vA key.length R key=i:=zkc (p:=fun r=>ltC key.length r key) hj (fun t r ht hr=>hb t r ht hr) fun r hr=>ha i r (Nat.le_refl _) hr
  by_cases hlt:i<R.length
  ·obtain⟨x,hx⟩:=zf hlt
   have hxm:=List.mem_of_getElem? hx
   have hF:=zgN x key (hw x hxm) hk
   have hq:hasC key.length R key=decide (cmpI (x.take key.length) key=0):=by
    rw[zpH (r:=x) (by rw[hpos];exact hx),key_take]
    exact decide_eq_decide.2 (hcmp x hxm).2.symm
   rw[hq,hpos]
   repeat' first|refine gG ?_|(exfalso;first|(simp only[decide_eq_true_eq,decide_eq_false_iff_not,List.length_map,Bool.not_eq_true',Bool.not_eq_false']at *; omega)|(simp at h;done))|refine gB (fun h=>?_) (fun h=>?_)|refine zp ?_|refine gI T (zu hx) ?_|refine gC hF ?_
   exact gF
  ·have hq:hasC key.length R key=false:=by
    unfold hasC
    rw[hpos,List.getElem?_eq_none (by omega)]
   rw[hq,hpos]
   repeat' first|refine gG ?_|(exfalso;first|(simp only[decide_eq_true_eq,decide_eq_false_iff_not,List.length_map,Bool.not_eq_true',Bool.not_eq_false']at *; omega)|(simp at h;done))|refine gB (fun h=>?_) (fun h=>?_)|refine zp ?_
   exact zg ⟨.inl rfl,id,_,rfl,LeS.tup (.cons (.refl _) (.cons (LeS.qb rfl) .nil)),trivial,rfl,rfl⟩
theorem zko(R:Rws)(key:Rw)(hk:key.length≤1000)(hR:R.length≤1000)(hw: ∀r∈R,key.length≤r.length)(hm: ∀(i j:Nat) r s,i≤j→R[i]?=some r→R[j]?=some s→ltC key.length s key=true→ltC key.length r key=true):
 zj Tryz.prog 134 [pS (z8 R),pS (zA key)] [] (.tup [I (vA key.length R key),.bq (hasC key.length R key)]) []:=by
 have hX:=zm9 R key hk hR hw hm
 refine gO T Tryz.func134 fun C hC=>?_
 repeat' first|refine gG ?_|refine gB (fun h=>?_) (fun h=>?_)|refine gC hX ?_
 exact gF
end Hw.Fr.Md
namespace Hw.Fr.Md
open Go Go.Proofs Hw.M
def rowOk(w:Nat)(p:Rw→Rw→Bool)(R:Rws)(i:Nat):Bool:=match R[i]? with
 |none=>true
 |some r=>decide (r.length=w)&&r.all vC&&match i with
  |0=>true
  |j+1=>match R[j]? with
   |none=>true
   |some q=>p q r
theorem zfX{w:Nat}{p:Rw→Rw→Bool}{R:Rws}{r:Rw}(h:R[0]?=some r):rowOk w p R 0=(decide (r.length=w)&&r.all vC):=by
 unfold rowOk;rw[h];simp
theorem zdf{w:Nat}{p:Rw→Rw→Bool}{R:Rws}{i:Nat}{q r:Rw}(hi:0<i)(h:R[i]?=some r)(hq:R[i - 1]?=some q):rowOk w p R i=(decide (r.length=w)&&r.all vC&&p q r):=by
 cases i with
 |zero=>omega
 |succ j=>unfold rowOk;rw[h];simp only[Nat.add_sub_cancel]at hq;simp only[hq]
theorem zfY(w:Nat)(p:Rw→Rw→Bool)(R:Rws):tableB w p R=(List.range R.length).all (rowOk w p R):=by
 rw[Bool.eq_iff_iff]
 unfold tableB
 simp only[Bool.and_eq_true,List.all_eq_true,List.mem_range,vX]
 constructor
 ·rintro⟨h1,h2⟩ i hi
  obtain⟨r,hr⟩:=zf hi
  have h3:=h1 r (List.mem_of_getElem? hr)
  rcases Nat.eq_zero_or_pos i with rfl|h0
  ·rw[zfX hr];simpa using h3
  ·obtain⟨q,hq⟩:=zf (l:=R) (i:=i - 1) (by omega)
   rw[zdf h0 hr hq]
   have h4:=h2 (i - 1) q r hq (by rw[show i - 1+1=i by omega];exact hr)
   simp only[Bool.and_eq_true,List.all_eq_true]
   exact⟨⟨h3.1,h3.2⟩,h4⟩
 ·intro h
  refine⟨fun r hr=>?_,fun i a b ha hb=>?_⟩
  ·obtain⟨i,hi⟩:=List.mem_iff_getElem?.1 hr
   have hlt:=(List.getElem?_eq_some_iff.1 hi).1
   have h3:=h i hlt
   rcases Nat.eq_zero_or_pos i with rfl|h0
   ·rw[zfX hi]at h3;simpa using h3
   ·obtain⟨q,hq⟩:=zf (l:=R) (i:=i - 1) (by omega)
    rw[zdf h0 hi hq]at h3
    simp only[Bool.and_eq_true,List.all_eq_true]at h3
    exact h3.1
  ·have hlt:=(List.getElem?_eq_some_iff.1 hb).1
   have h3:=h (i+1) hlt
   rw[zdf (by omega) hb (by simpa using ha)]at h3
   simp only[Bool.and_eq_true]at h3
   exact h3.2
theorem vq{n i:Nat}(h:i<n):(List.range n)[i]?=some i:=by rw[List.getElem?_range h]
theorem zpI{w:Nat}{p:Rw→Rw→Bool}{R:Rws}{i j:Nat}{r:Rw}(h:((List.range R.length).take i).all (rowOk w p R)=true)(hj:j<i)(hr:R[j]?=some r):r.length=w:=by
 have hlt:=(List.getElem?_eq_some_iff.1 hr).1
 have h1:rowOk w p R j=true:=List.all_eq_true.1 h j (by
  rw[List.mem_iff_getElem?]
  exact⟨j,by rw[List.getElem?_take,if_pos hj];exact vq hlt⟩)
 unfold rowOk at h1
 simp only[hr,Bool.and_eq_true,decide_eq_true_eq]at h1
 exact h1.1.1
theorem zgO: ∀(c:Nat) {a b:Rw},ltC c a b=true→ltC c b a=false:=fun c a b h=>by
 cases h2:ltC c b a with
 |false=>rfl
 |true=>have:=vI c h h2;rw[zfM]at this;cases this
theorem zgP: ∀(a b:List Int),cmpI b a= - cmpI a b
 | [],[]=>rfl
 | [],_::_=>rfl
 |_::_,[]=>rfl
 |x::a,y::b=>by
  simp only[cmpI]
  by_cases h1:x<y
  ·rw[if_pos h1,if_neg (by omega),if_pos h1];rfl
  ·rw[if_neg h1]
   by_cases h2:y<x
   ·rw[if_pos h2,if_neg h1,if_pos h2]
   ·rw[if_neg h2,if_neg h1,if_neg h2];exact zgP a b
def pT(c:Nat)(s:Bool)(a b:Rw):Bool:=if c=0 then true else !((s&& !ltC c a b)||ltC c b a)
theorem zep{c:Nat}(h:c≠0):pT c true=ltC c:=by
 funext a b
 unfold pT
 rw[if_neg h]
 cases h1:ltC c a b with
 |true=>rw[zgO c h1];rfl
 |false=>simp
theorem zpJ{c:Nat}(h:c≠0):pT c false=fun a b=> !ltC c b a:=by
 funext a b
 unfold pT
 rw[if_neg h];simp
theorem zpK(s:Bool):pT 0 s=fun _ _=>true:=by funext a b;unfold pT;rw[if_pos rfl]
end Hw.Fr.Md
namespace Hw.Fr.Md
open Go Go.Proofs Hw.M
def wK(k:Int):Nat:=if k=1 then 2 else if k=5 then 3 else 1
def cK(k:Int):Nat:=if k=1 then 1 else if k=5 then 2 else if k=2 then 1 else 0
def sK(k:Int):Bool:=decide (k≠2)
theorem zna(k:Int):zj Tryz.prog 127 [I k] [] (.tup [I (wK k),I (cK k)]) []:=by
 have hcs:k=1∨k=5∨k=2∨(k≠1∧k≠5∧k≠2):=by omega
 rcases hcs with rfl|rfl|rfl|⟨h1,h5,h2⟩
 ·refine gO T Tryz.func127 fun C hC=>?_
  repeat' first|refine gG ?_|(exfalso;simp at h;done)|refine gB (fun h=>?_) (fun h=>?_)
  exact gF
 ·refine gO T Tryz.func127 fun C hC=>?_
  repeat' first|refine gG ?_|(exfalso;simp at h;done)|refine gB (fun h=>?_) (fun h=>?_)
  exact gF
 ·refine gO T Tryz.func127 fun C hC=>?_
  repeat' first|refine gG ?_|(exfalso;simp at h;done)|refine gB (fun h=>?_) (fun h=>?_)
  exact gF
 ·have e1:wK k=1:=by unfold wK;rw[if_neg h1,if_neg h5]
  have e2:cK k=0:=by unfold cK;rw[if_neg h1,if_neg h5,if_neg h2]
  rw[e1,e2]
  refine gO T Tryz.func127 fun C hC=>?_
  repeat' first|refine gG ?_|(exfalso;first|(simp only[decide_eq_true_eq,decide_eq_false_iff_not,List.length_map,Bool.not_eq_true',Bool.not_eq_false']at *; omega)|(simp at h;done))|refine gB (fun h=>?_) (fun h=>?_)
  exact gF
theorem znb(n:Int):zj Tryz.prog 128 [I n] [] (.bq (!vC n)) []:=by
 have hX:=zeo n
 generalize vC n=q at hX⊢
 refine gO T Tryz.func128 fun C hC=>?_
 repeat' first|refine gG ?_|refine gB (fun h=>?_) (fun h=>?_)|refine gC hX ?_|refine gQ ?_|refine gL ?_
 all_goals rfl
theorem znc(n:Int):zj Tryz.prog 93 [I n] [] (.bq (!zdE n)) []:=by
 have hX:=zaP n
 generalize zdE n=q at hX⊢
 refine gO T Tryz.func93 fun C hC=>?_
 repeat' first|refine gG ?_|refine gB (fun h=>?_) (fun h=>?_)|refine gC hX ?_|refine gQ ?_|refine gL ?_
 all_goals rfl
theorem zrt(k:Int):cK k≤wK k:=by unfold cK wK;repeat' split
                                 all_goals omega
theorem zta(k:Int):wK k≤3:=by unfold wK;repeat' split
                              all_goals omega
theorem zru{k:Int}{q r:Rw}(hq:q.length=wK k)(hr:r.length=wK k)(hc:cK k≠0)(hk:k=1∨k=5∨k=2):
 pT (cK k) (sK k) q r= !(decide (0<cmpI (q.take (cK k)) (r.take (cK k)))||(decide (cmpI (q.take (cK k)) (r.take (cK k))=0)&& !decide (k=2))):=by
 have hcw:=zrt k
 have h1:=(zgF (cK k) q r (by omega) (by omega)).1
 have h2:=(zgF (cK k) r q (by omega) (by omega)).1
 rw[zgP (q.take (cK k)) (r.take (cK k))]at h2
 generalize cmpI (q.take (cK k)) (r.take (cK k))=z at h1 h2⊢
 unfold pT
 rw[if_neg hc]
 have hs:sK k= !decide (k=2):=by unfold sK;by_cases h:k=2<;>simp[h]
 rw[hs]
 have e1:ltC (cK k) q r=decide (z<0):=by
  cases h:ltC (cK k) q r with
  |true=>exact(decide_eq_true (h1.2 h)).symm
  |false=>exact(decide_eq_false fun hz=>by rw[h1.1 hz]at h;cases h).symm
 have e2:ltC (cK k) r q=decide (0<z):=by
  cases h:ltC (cK k) r q with
  |true=>exact(decide_eq_true (by have:=h2.2 h;omega)).symm
  |false=>exact(decide_eq_false fun hz=>by rw[h2.1 (by omega)]at h;cases h).symm
 rw[e1,e2]
 rcases Int.lt_trichotomy z 0 with hz|hz|hz
 ·rw[decide_eq_true hz,decide_eq_false (by omega: ¬0<z),decide_eq_false (by omega: ¬z=0)];simp
 ·subst hz;simp
 ·rw[decide_eq_true hz,decide_eq_false (by omega: ¬z<0),decide_eq_false (by omega: ¬z=0)];simp
theorem zeq{k:Int}(R:Rws):zj Tryz.prog 90 [zz (stR k R)] [] (.bq (decide (R.length≤500)&&tableB (wK k) (pT (cK k) (sK k)) R)) []:=by
 by_cases hR:R.length≤500
 case neg=>
  rw[decide_eq_false hR]
  refine gO T Tryz.func90 fun C hC=>?_
  repeat' first|refine gG ?_|(exfalso;first|(simp only[decide_eq_true_eq,decide_eq_false_iff_not,List.length_map,Bool.not_eq_true',Bool.not_eq_false']at *; omega)|(simp at h;done))|refine gB (fun h=>?_) (fun h=>?_)|refine gL ?_
  all_goals rfl
 rw[decide_eq_true hR,Bool.true_and,zfY]
 have hW:=zna k
 have hcw:=zrt k
 have hw3:=zta k
 refine gO T Tryz.func90 fun C hC=>?_
 repeat' first|refine gG ?_|(exfalso;first|(simp only[decide_eq_true_eq,decide_eq_false_iff_not,List.length_map,Bool.not_eq_true',Bool.not_eq_false']at *; omega)|(simp at h;done))|refine gB (fun h=>?_) (fun h=>?_)|refine gC hW ?_
 rw[List.length_map]
 refine zy (fun i:Nat=>i≤R.length∧((List.range R.length).take i).all (rowOk (wK k) (pT (cK k) (sK k)) R)=true) (fun i=>([(1,.one (.bx 1001 0)),(3,I (wK k)),(4,I (cK k)),(19,pS (z8 R)),(20,I R.length),(21,I i)],[(1001,some (.box ((stR k R).map V.p)))])) (fun i=>R.length - i) hC
  0 ⟨Nat.zero_le _,by simp⟩ id gM ?_
 clear hW
 rintro i ⟨hi,hn⟩
 refine zI T hC true 200 rfl ?_
 refine zP rfl (fun h=>?_) (fun h=>?_)
 rotate_left
 ·have hge: ¬i<R.length:=by simpa using h
  repeat' first|refine gG ?_|refine gB (fun h=>?_) (fun h=>?_)|refine zp ?_|refine gL ?_
  rw[List.take_of_length_le (by rw[List.length_range];omega)]at hn
  exact hn.symm
 have hlt:i<R.length:=by simpa using h
 clear h
 obtain⟨r,hx⟩:=zf hlt
 have hN:=zba 128 r (fun n=> !vC n) (fun n _=>znb n)
 rw[zby]at hN
 by_cases hlen:r.length=wK k
 case neg=>
  have hbad:rowOk (wK k) (pT (cK k) (sK k)) R i=false:=by unfold rowOk;simp only[hx];rw[decide_eq_false hlen];rfl
  repeat' first|refine gG ?_|(exfalso;first|(simp only[decide_eq_true_eq,decide_eq_false_iff_not,List.length_map,Bool.not_eq_true',Bool.not_eq_false']at *; omega)|(simp at h;done))|refine gB (fun h=>?_) (fun h=>?_)|refine gX ?_|refine zT ?_|refine gL ?_
  exact(jP (vq hlt) hbad).symm
 cases hall:r.all vC with
 |false=>
  have hbad:rowOk (wK k) (pT (cK k) (sK k)) R i=false:=by unfold rowOk;simp only[hx];rw[hall,Bool.and_false];rfl
  rw[hall]at hN
  repeat' first|refine gG ?_|(exfalso;first|(simp only[decide_eq_true_eq,decide_eq_false_iff_not,List.length_map,Bool.not_eq_true',Bool.not_eq_false']at *; omega)|(simp at h;done))|(exfalso;simp at h;done)|refine gB (fun h=>?_) (fun h=>?_)|refine gX ?_|refine gC hN ?_|refine zT ?_|refine gL ?_
  exact(jP (vq hlt) hbad).symm
 |true=>
  rw[hall]at hN
  by_cases hi0:0<i
  ·obtain⟨q,hq⟩:=zf (l:=R) (i:=i - 1) (by omega)
   have hok:rowOk (wK k) (pT (cK k) (sK k)) R i=pT (cK k) (sK k) q r:=by rw[zdf hi0 hx hq,decide_eq_true hlen,hall];rfl
   have hql:=zpI hn (by omega) hq
   have w1:IntKind.i64.wrap ((i:Int) - 1)=(i:Int) - 1:=wrap64 (by omega)
   have hq':R[((i:Int) - 1).toNat]?=some q:=by rw[show((i:Int) - 1).toNat=i - 1 by omega];exact hq
   by_cases hc0:cK k=0
   ·have hp:rowOk (wK k) (pT (cK k) (sK k)) R i=true:=by rw[hok];unfold pT;rw[if_pos hc0]
    repeat' first|refine gG ?_|(exfalso;first|(simp only[decide_eq_true_eq,decide_eq_false_iff_not,List.length_map,Bool.not_eq_true',Bool.not_eq_false']at *; omega)|(simp at h;done))|(exfalso;simp at h;done)|refine gB (fun h=>?_) (fun h=>?_)|refine gX ?_|refine gC hN ?_
    all_goals
     rw[yq (by omega)]
     refine zh (i+1) ⟨by omega,?_⟩ id (by omega) gM
     rw[xq (p:=rowOk (wK k) (pT (cK k) (sK k)) R) (vq hlt),hn,Bool.true_and];exact hp
   ·have hkk:k=1∨k=5∨k=2:=by
     unfold cK at hc0
     by_cases h1:k=1
     ·exact .inl h1
     ·by_cases h5:k=5
      ·exact .inr (.inl h5)
      ·by_cases h2:k=2
       ·exact .inr (.inr h2)
       ·rw[if_neg h1,if_neg h5,if_neg h2]at hc0;exact absurd rfl hc0
    have hp:rowOk (wK k) (pT (cK k) (sK k)) R i=_:=hok.trans (zru hql hlen hc0 hkk)
    have hK:=zcr (q.take (cK k)) (r.take (cK k))
    generalize cmpI (q.take (cK k)) (r.take (cK k))=z at hK hp
    repeat' first|refine gG ?_|(exfalso;first|(simp only[decide_eq_true_eq,decide_eq_false_iff_not,List.length_map,Bool.not_eq_true',Bool.not_eq_false']at *; omega)|(simp at h;done))|(exfalso;simp at h;done)|refine gB (fun h=>?_) (fun h=>?_)|(rw[w1];refine yh T hC rfl rfl rfl (by omega) (xA hq') rfl rfl ?_)|refine gI T (zu hx) ?_|refine gC hN ?_|(refine yP T hC (rows:=q.map zS) ((q.take (cK k)).map zS) rfl rfl rfl (Int.natCast_nonneg _) (by simp only[List.length_map];omega) (by simp only[Int.toNat_natCast,List.map_take]) rfl rfl ?_)|(refine yP T hC (rows:=r.map zS) ((r.take (cK k)).map zS) rfl rfl rfl (Int.natCast_nonneg _) (by simp only[List.length_map];omega) (by simp only[Int.toNat_natCast,List.map_take]) rfl rfl ?_)|refine gC hK ?_|refine zT ?_|refine gL ?_
    all_goals first
     |(have hbad:rowOk (wK k) (pT (cK k) (sK k)) R i=false:=by rw[hp];clear hn hK hN hx hq hq' hok hp hcw hw3 hlen hql hall hkk hc0 w1;simp_all
       exact(jP (vq hlt) hbad).symm)
     |(have hgood:rowOk (wK k) (pT (cK k) (sK k)) R i=true:=by rw[hp];clear hn hK hN hx hq hq' hok hp hcw hw3 hlen hql hall hkk hc0 w1;simp_all
       rw[yq (by omega)]
       refine zh (i+1) ⟨by omega,?_⟩ id (by omega) gM
       rw[xq (p:=rowOk (wK k) (pT (cK k) (sK k)) R) (vq hlt),hn,Bool.true_and];exact hgood)
  ·obtain rfl:i=0:=by omega
   have hp:rowOk (wK k) (pT (cK k) (sK k)) R 0=true:=by rw[zfX hx,decide_eq_true hlen,hall];rfl
   repeat' first|refine gG ?_|(exfalso;first|(simp only[decide_eq_true_eq,decide_eq_false_iff_not,List.length_map,Bool.not_eq_true',Bool.not_eq_false']at *; omega)|(simp at h;done))|(exfalso;simp at h;done)|refine gB (fun h=>?_) (fun h=>?_)|refine gX ?_|refine gC hN ?_
   all_goals
    rw[yq (by omega)]
    refine zh (0+1) ⟨by omega,?_⟩ id (by omega) gM
    rw[xq (p:=rowOk (wK k) (pT (cK k) (sK k)) R) (vq hlt),hn,Bool.true_and];exact hp
end Hw.Fr.Md
/- The library's functions at this program: their numbers. -/
namespace Hw.Fr
open Go Go.Proofs Go.Shelf
def zer:Go.Shelf.Ren:=⟨fun|189=>130|125=>155|257=>154|128=>199|129=>200|294=>190|295=>191|296=>192|297=>193|298=>194|299=>195|216=>196|300=>197|301=>198|328=>240|329=>241|330=>242|331=>243|332=>244|215=>89|343=>279|n=>n,fun|28=>31|3=>3|46=>178|0=>0|51=>284|53=>286|4=>4|183=>278|182=>277|131=>98|5=>5|9=>9|218=>319|222=>323|228=>352|229=>188|n=>n,fun|n=>n⟩
theorem zgQ:Go.Proofs.Lays.n189 Tryz.prog zer where
 mixed:=by kernel_rfl
 f125:=Tryz.func155.trans (congrArg some (by kernel_rfl))
 f128:=Tryz.func199.trans (congrArg some (by kernel_rfl))
 f129:=Tryz.func200.trans (congrArg some (by kernel_rfl))
 f189:=Tryz.func130.trans (congrArg some (by kernel_rfl))
 f215:=Tryz.func89.trans (congrArg some (by kernel_rfl))
 f216:=Tryz.func196.trans (congrArg some (by kernel_rfl))
 f257:=Tryz.func154.trans (congrArg some (by kernel_rfl))
 f294:=Tryz.func190.trans (congrArg some (by kernel_rfl))
 f295:=Tryz.func191.trans (congrArg some (by kernel_rfl))
 f296:=Tryz.func192.trans (congrArg some (by kernel_rfl))
 f297:=Tryz.func193.trans (congrArg some (by kernel_rfl))
 f298:=Tryz.func194.trans (congrArg some (by kernel_rfl))
 f299:=Tryz.func195.trans (congrArg some (by kernel_rfl))
 f300:=Tryz.func197.trans (congrArg some (by kernel_rfl))
 f301:=Tryz.func198.trans (congrArg some (by kernel_rfl))
 f328:=Tryz.func240.trans (congrArg some (by kernel_rfl))
 f329:=Tryz.func241.trans (congrArg some (by kernel_rfl))
 f330:=Tryz.func242.trans (congrArg some (by kernel_rfl))
 f331:=Tryz.func243.trans (congrArg some (by kernel_rfl))
 f332:=Tryz.func244.trans (congrArg some (by kernel_rfl))
 f343:=Tryz.func279.trans (congrArg some (by kernel_rfl))
 t0:=Tryz.underlying0
 a0:=Tryz.isAgg0
 z0:=Tryz.sizeOf0
 v0:=Tryz.zeroValue0
 t3:=Tryz.underlying3
 a3:=Tryz.isAgg3
 z3:=Tryz.sizeOf3
 v3:=Tryz.zeroValue3
 t4:=Tryz.underlying4
 a4:=Tryz.isAgg4
 z4:=Tryz.sizeOf4
 v4:=Tryz.zeroValue4
 t5:=Tryz.underlying5
 a5:=Tryz.isAgg5
 z5:=Tryz.sizeOf5
 v5:=Tryz.zeroValue5
 t9:=Tryz.underlying9
 a9:=Tryz.isAgg9
 z9:=Tryz.sizeOf9
 v9:=Tryz.zeroValue9
 t28:=Tryz.underlying31
 a28:=Tryz.isAgg31
 z28:=Tryz.sizeOf31
 v28:=Tryz.zeroValue31
 t46:=Tryz.underlying178
 a46:=Tryz.isAgg178
 z46:=Tryz.sizeOf178
 v46:=Tryz.zeroValue178
 t51:=Tryz.underlying284
 a51:=Tryz.isAgg284
 z51:=Tryz.sizeOf284
 v51:=Tryz.zeroValue284
 t53:=Tryz.underlying286
 a53:=Tryz.isAgg286
 z53:=Tryz.sizeOf286
 v53:=Tryz.zeroValue286
 t131:=Tryz.underlying98
 a131:=Tryz.isAgg98
 z131:=Tryz.sizeOf98
 v131:=Tryz.zeroValue98
 t182:=Tryz.underlying277
 a182:=Tryz.isAgg277
 z182:=Tryz.sizeOf277
 v182:=Tryz.zeroValue277
 t183:=Tryz.underlying278
 a183:=Tryz.isAgg278
 z183:=Tryz.sizeOf278
 v183:=Tryz.zeroValue278
 t218:=Tryz.underlying319
 a218:=Tryz.isAgg319
 z218:=Tryz.sizeOf319
 v218:=Tryz.zeroValue319
 t222:=Tryz.underlying323
 a222:=Tryz.isAgg323
 z222:=Tryz.sizeOf323
 v222:=Tryz.zeroValue323
 t228:=Tryz.underlying352
 a228:=Tryz.isAgg352
 z228:=Tryz.sizeOf352
 v228:=Tryz.zeroValue352
 t229:=Tryz.underlying188
 a229:=Tryz.isAgg188
 z229:=Tryz.sizeOf188
 v229:=Tryz.zeroValue188
end Hw.Fr
/- The engine, part BO: what a call of the library's leaves, in general; rows that are laid over; arrays sorted. -/
namespace Hw
open Go Go.Proofs Go.Sort
theorem zfZ{M:Mem}{ρ ρ':Nat→Value}{w w':World}{R R':RL}{res:S}{v:Value}(hT:vx M ρ w (tb R))(hI:Imm M w)(hrep:RepS M ρ' res v)(hres: ∀i r,tg (tb R') i=some r→zJ M ρ' w' i r)
 (hdis: ∀i j ri rj b,tg (tb R') i=some ri→tg (tb R') j=some rj→i≠j→Bk (ρ' i) b→Bk (ρ' j) b→False)
 (hown: ∀i r b,tg (tb R') i=some r→Bk (ρ' i) b→w.heap.size≤b∨zb8 (tb R) ρ b) (hf: ∀b,b<w.heap.size→ ¬zb8 (tb R) ρ b→w'.heap[b]?=w.heap[b]?)
 (hs:w.heap.size≤w'.heap.size) (h1:w'.os=w.os) (h2:w'.tape=w.tape) (h3:w'.output=w.output) (hk: ∀id,id∈R.ids→ρ' id=ρ id):Ret M ρ w R res R' v M ρ' w':=by
 refine⟨hrep,⟨hres,hdis,fun i r b hi hb q=>?_⟩,fun b q u hu=>?_,MLe.refl M,fun b q u hu=> .inl hu,fun b ⟨i,r,hi,hb⟩=>hown i r b hi hb,hf,hs,h1,h2,h3,hk⟩
 ·rcases hown i r b hi hb with h|⟨j,s,hj,hjb⟩
  ·cases hm:M b q with
   |none=>rfl
   |some u=>have:=xp (hI b q u hm);omega
  ·exact hT.own j s b hj hjb q
 ·have hbl:=xp (hI b q u hu)
  rw[cell_of_heap (hf b hbl fun⟨j,s,hj,hjb⟩=>by rw[hT.own j s b hj hjb q]at hu;cases hu)]
  exact hI b q u hu
theorem zgR{M:Mem}{ρ:Nat→Value}{w w':World}{R R':RL}{res:S}{v:Value}(hT:vx M ρ w (tb R))(hI:Imm M w)(hrep:RepS M ρ res v)(hsub: ∀i r,tg (tb R') i=some r→ ∃r0,tg (tb R) i=some r0)(hres: ∀i r,tg (tb R') i=some r→zJ M ρ w' i r)
 (hf: ∀b,b<w.heap.size→ ¬zb8 (tb R) ρ b→w'.heap[b]?=w.heap[b]?) (hs:w.heap.size≤w'.heap.size) (h1:w'.os=w.os) (h2:w'.tape=w.tape) (h3:w'.output=w.output):Ret M ρ w R res R' v M ρ w':=
 zfZ hT hI hrep hres (fun i j ri rj b hi hj hne hb hb'=>let ⟨r0,e0⟩:=hsub i ri hi;let ⟨r1,e1⟩:=hsub j rj hj;hT.dis i j r0 r1 b e0 e1 hne hb hb')
  (fun i r b hi hb=>let ⟨r0,e0⟩:=hsub i r hi; .inr ⟨i,r0,e0,hb⟩) hf hs h1 h2 h3 fun _ _=>rfl
section
variable {α:Type} [Inhabited α]
theorem zbO(enc:α→Value)(w:World)(b off:Nat)(d:Array α){cs:Array Value}{el:TypeId}{fz:Nat×Nat}(h:w.heap[b]?=some (.cells cs el fz)):(putRow enc w b off d).heap[b]?=some (.cells (putCells enc off d cs) el fz):=by
 unfold putRow mapBlock
 simp only[Array.getElem?_modify,if_true,h,Option.map_some,onCells]
theorem zau(enc:α→Value)(w:World)(b off:Nat)(d:Array α){k:Nat}(h:k≠b):(putRow enc w b off d).heap[k]?=w.heap[k]?:=by
 unfold putRow mapBlock
 simp only[Array.getElem?_modify]
 rw[if_neg fun e=>h e.symm]
theorem vr(enc:α→Value)(w:World)(b off:Nat)(d:Array α):(putRow enc w b off d).heap.size=w.heap.size:=by
 unfold putRow mapBlock;simp
theorem yZ(enc:α→Value)(off:Nat)(d:Array α)(c:Array Value):(putCells enc off d c).size=c.size:=by simp[putCells]
theorem jH(enc:α→Value)(off:Nat)(d:Array α)(c:Array Value){j:Nat}{x:α}(hx:d[j]?=some x)(hc:off+j<c.size):(putCells enc off d c)[off+j]?=some (enc x):=by
 obtain⟨hj,rfl⟩:=Array.getElem?_eq_some_iff.1 hx
 simp only[putCells,Array.getElem?_mapIdx]
 rw[Array.getElem?_eq_getElem hc,Option.map_some,if_pos ⟨by omega,by omega⟩,show off+j - off=j by omega,getElem!_pos d j hj]
end
theorem holds_of{α:Type}[Inhabited α]{enc:α→Value}{w:World}{b o:Nat}{cs:Array Value}{el:TypeId}{fz:Nat×Nat}{d:Array α}(h:w.heap[b]?=some (.cells cs el fz))(hU:xa fz cs.size)(hc: ∀j x,d[j]?=some x→cs[o+j]?=some (enc x)):Sort.Holds enc w b o d:=by
 intro j hj
 have h1:=hc j d[j] (Array.getElem?_eq_getElem hj)
 have hlt:=(Array.getElem?_eq_some_iff.1 h1).1
 refine⟨?_,?_⟩
 ·rw[getElem!_pos d j hj]
  simp[World.cell?,h,h1]
 ·simp only[World.frozen?,h]
  exact hU _ hlt
end Hw
namespace Hw.Fr.Md
open Go Go.Proofs Go.Shelf Hw.M
abbrev iv(x:Int):Value:= .int .i64 x
theorem zgS(M:Mem)(ρ:Nat→Value): ∀l:List Int,RepVs M ρ ((l.map zS).flatten.map V.p) (l.map iv)
 | []=>by simp only[List.map_nil,List.flatten_nil,RepVs]
 |a::l=>by
  have ih:=zgS M ρ l
  simp only[List.map_cons,List.flatten_cons,zS,List.singleton_append,RepVs,RepV,RepPV]
  exact⟨⟨trivial,rfl⟩,ih⟩
theorem znd(l:List Int): ∀r∈l.map zS,r.length=1:=fun r hr=>by obtain⟨x,_,rfl⟩:=List.mem_map.1 hr;rfl
theorem zpL{M:Mem}{g:Nat→Option Value}{l:List Int}{o:Nat}(h: ∀j c,(l.map iv)[j]?=some c→g (o+j)=some c):RowsIn M g 1 (l.map zS) o:=
 ziS (znd l) (zgS M _ l) h
theorem zpM{M:Mem}{g:Nat→Option Value}{l:List Int}{o:Nat}(h:RowsIn M g 1 (l.map zS) o): ∀j c,(l.map iv)[j]?=some c→g (o+j)=some c:=fun j c hj=>by
 rw[List.getElem?_map]at hj
 simp only[Option.map_eq_some_iff]at hj
 obtain⟨x,hx,rfl⟩:=hj
 have:=(h.get (i:=j) (by rw[List.getElem?_map,hx];rfl)).2
 rw[Nat.mul_one]at this
 simp only[zS,RowIn,RepPV]at this
 obtain⟨⟨c,h1,h2⟩,_⟩:=this
 rw[h1,h2.1]
def yy(l:List Int):List Int:=l.mergeSort fun x y=>decide (x≤y)
theorem xm(l:List Int):(yy l).Perm l:=List.mergeSort_perm l _
theorem wR(l:List Int):(yy l).Pairwise (· ≤ ·):=by
 have:=List.pairwise_mergeSort (le:=fun x y:Int=>decide (x≤y)) (fun a b c h1 h2=>by simp at *; omega) (fun a b=>by simp;omega) l
 exact this.imp fun h=>by simpa using h
theorem zes(l:List Int):(yy l).length=l.length:=(xm l).length_eq
theorem zf0(l:List Int)(hl:l.length≤1000000):zj Tryz.prog 130 [.one (.ar 0)] [(0,.arr 1 (l.map zS))] .un [(0,.arr 1 ((yy l).map zS))]:=by
 refine⟨⟨_,Tryz.func130,by kernel_rfl,by kernel_rfl⟩,fun M ρ w xs hx hT hI hG=>?_⟩
 match xs,hx with
 | [x0],hx=>
   simp only[RepSs,RepS,RepV]at hx
   obtain⟨⟨rfl,_⟩,_⟩:=hx
   obtain⟨a,cap,e0,e1,e2,e3⟩:=hT.res 0 _ rfl
   rw[List.length_map]at e0 e1
   have one: ∀ {r:Res} i q,tg (tb [(0,r)]) i=some q→i=0∧q=r:=fun {r} i q hi=>by
    simp only[tb,yc]at hi
    split at hi
    ·rename_i e;exact⟨e.symm,(Option.some.inj hi).symm⟩
    ·cases hi
   by_cases h0:l.length=0
   ·have hl0:l=[]:=List.length_eq_zero_iff.1 h0
    subst hl0
    rw[e0]
    refine(Any.slices_Sort_int_none zgQ a cap w).mono ?_
    rintro e w' ⟨rfl,rfl⟩
    exact⟨_,M,ρ,rfl,zgR hT hI (by simp only[RepS]) (fun i r hi=>by obtain⟨rfl,_⟩:=one i r hi;exact⟨_,rfl⟩) (fun i r hi=>by obtain⟨rfl,rfl⟩:=one i r hi;rw[show yy []=[] by simp[yy]];exact hT.res 0 _ rfl) (fun _ _ _=>rfl) (Nat.le_refl _) rfl rfl rfl⟩
   ·rcases e3 with⟨_,h⟩|⟨b,o,cs,el,fz,rfl,h6,h6',h7,h8⟩
    ·omega
    rw[Nat.mul_one]at h7
    have hcl:=zpM h8
    have hb:b<w.heap.size:=(Array.getElem?_eq_some_iff.1 h6).1
    have hH:Sort.Holds (Value.int .i64) w b o l.toArray:=holds_of h6 h6' fun j x hx=>hcl j _ (by rw[List.getElem?_map];simp at hx;rw[hx];rfl)
    rw[e0]
    refine(Any.slices_Sort_int zgQ b o cap l w hH hb (by omega)).mono ?_
    rintro e w' ⟨rfl,q,os,rfl⟩
    rw[show(l.mergeSort fun x y=>decide (x≤y))=yy l from rfl]
    have hsz:(yy l).length=l.length:=zes l
    have heap: ∀k,k<w.heap.size→(Sort.grow (Sort.putRow (Value.int .i64) (Sort.ahead w q) b o (yy l).toArray) os).heap[k]?=(Sort.putRow (Value.int .i64) (Sort.ahead w q) b o (yy l).toArray).heap[k]?:=fun k hk=>by
     show((Sort.putRow (Value.int .i64) (Sort.ahead w q) b o (yy l).toArray).heap++os)[k]?=_
     rw[Array.getElem?_append_left (by rw[vr];exact hk)]
    refine⟨_,M,ρ,rfl,zgR hT hI (by simp only[RepS]) (fun i r hi=>by obtain⟨rfl,_⟩:=one i r hi;exact⟨_,rfl⟩) (fun i r hi=>?_) (fun k hk hn=>?_) ?_ rfl rfl rfl⟩
    ·obtain⟨rfl,rfl⟩:=one i r hi
     refine⟨_,cap,by rw[List.length_map,hsz];exact e0,by rw[List.length_map,hsz];exact e1,e2,.inr ⟨b,o,Sort.putCells (Value.int .i64) o (yy l).toArray cs,el,fz,rfl,?_,?_,?_,zpL fun j c hj=>?_⟩⟩
     ·rw[heap b hb]
      exact zbO (Value.int .i64) (Sort.ahead w q) b o (yy l).toArray h6
     ·rw[yZ];exact h6'
     ·rw[yZ,Nat.mul_one];exact h7
     ·rw[List.getElem?_map,Option.map_eq_some_iff]at hj
      obtain⟨x,hx,rfl⟩:=hj
      have hlt:=(List.getElem?_eq_some_iff.1 hx).1
      exact jH _ o _ cs (by simpa using hx) (by omega)
    ·rw[heap k hk]
     exact zau _ _ b o _ fun e=>hn ⟨0,_,rfl,by rw[e0,e];rfl⟩
    ·show w.heap.size≤((Sort.putRow (Value.int .i64) (Sort.ahead w q) b o (yy l).toArray).heap++os).size
     rw[Array.size_append,vr]
     exact Nat.le_add_right _ _
 | [],hx=>simp[RepSs]at hx
 |_::_::_,hx=>simp[RepSs]at hx
end Hw.Fr.Md
namespace Hw.Fr.Md
open Go Go.Proofs Go.Shelf Hw.M
def mvU(a b i:Nat):Nat:=match Nat.beq i a with
 |true=>b
 |false=>i
theorem yg{a b i:Nat}(ha:100≤a)(hi:i<100):mvU a b i=i:=by
 unfold mvU;rw[yK (by omega)]
theorem zgT: ∀ {l m:List Int},l.Nodup→(∀x∈l,x∈m)→m.length≤l.length→l.Perm m
 | [],m,_,_,h=>by
   have:m=[]:=List.length_eq_zero_iff.1 (by simpa using h)
   rw[this]
 |x::l,m,hn,hs,h=>by
  have hn':=List.nodup_cons.1 hn
  have hx:=hs x (List.mem_cons_self ..)
  have hp:=List.perm_cons_erase hx
  have hl:(m.erase x).length=m.length - 1:=List.length_erase_of_mem hx
  have ih:=zgT (l:=l) (m:=m.erase x) hn'.2 (fun y hy=>(List.mem_erase_of_ne fun e=>hn'.1 (by rw[←e];exact hy)).2 (hs y (List.mem_cons_of_mem _ hy))) (by rw[hl];simp only[List.length_cons]at h;omega)
  exact(ih.cons x).trans hp.symm
def wS(n:Nat):List Int:=(List.range n).map fun i:Nat=>(i:Int)
theorem zcs(n:Nat):(wS n).length=n:=by simp[wS]
theorem zkp{n i:Nat}(h:i<n):(wS n)[i]?=some (i:Int):=by simp[wS,h]
theorem zct{n:Nat}{x:Int}:x∈wS n↔0≤x∧x<(n:Int):=by
 simp only[wS,List.mem_map,List.mem_range]
 constructor
 ·rintro⟨i,hi,rfl⟩;omega
 ·rintro⟨h1,h2⟩;exact⟨x.toNat,by omega,by omega⟩
theorem zcu(n:Nat):(wS n).Pairwise (· < ·):=by
 rw[wS,List.pairwise_map]
 exact List.pairwise_lt_range.imp fun h=>by omega
theorem zet(n:Nat):(wS n).Nodup:=(zcu n).imp fun h=>by omega
theorem zij{F:List Int}:yy F=wS F.length↔(∀x∈F,0≤x∧x<(F.length:Int))∧F.Nodup:=by
 constructor
 ·intro h
  have hp:=(xm F).symm
  rw[h]at hp
  exact⟨fun x hx=>zct.1 (hp.mem_iff.1 hx),hp.nodup_iff.2 (zet _)⟩
 ·rintro⟨h1,h2⟩
  have hp:F.Perm (wS F.length):=zgT h2 (fun x hx=>zct.2 (h1 x hx)) (by rw[zcs];exact Nat.le_refl _)
  exact jZ ((xm F).trans hp) (wR F) (zrk (zcu _))
structure zeu (R:Rws) (i:Nat):Prop where
 ne: ∀(j:Nat) r,j<i→R[j]?=some r→r≠ []
 asc: ∀(j:Nat) r,j<i→R[j]?=some r→r.Pairwise (· < ·)
 fst: ∀(j:Nat) q r,j+1<i→R[j]?=some q→R[j+1]?=some r→at0 q 0<at0 r 0
theorem zeu.zero(R:Rws):zeu R 0:=⟨fun _ _ h=>absurd h (Nat.not_lt_zero _),fun _ _ h=>absurd h (Nat.not_lt_zero _),fun _ _ _ h=>absurd h (Nat.not_lt_zero _)⟩
theorem zeu.next{R:Rws}{i:Nat}(h:zeu R i){r:Rw}(hr:R[i]?=some r)(h1:r≠ [])(h2:r.Pairwise (· < ·))(h3: ∀q,0<i→R[i - 1]?=some q→at0 q 0<at0 r 0):zeu R (i+1):=by
 refine⟨fun j s hj hs=>?_,fun j s hj hs=>?_,fun j q s hj hq hs=>?_⟩
 ·rcases Nat.lt_or_ge j i with hlt|hge
  ·exact h.ne j s hlt hs
  ·obtain rfl:j=i:=by omega
   rw[hr]at hs;rw[←Option.some.inj hs];exact h1
 ·rcases Nat.lt_or_ge j i with hlt|hge
  ·exact h.asc j s hlt hs
  ·obtain rfl:j=i:=by omega
   rw[hr]at hs;rw[←Option.some.inj hs];exact h2
 ·rcases Nat.lt_or_ge (j+1) i with hlt|hge
  ·exact h.fst j q s hlt hq hs
  ·obtain rfl:i=j+1:=by omega
   rw[hr]at hs;rw[←Option.some.inj hs];exact h3 q (by omega) (by simpa using hq)
theorem yM.of{R:Rws}(h:zeu R R.length)(ht:R.flatten.length≤500)(hr: ∀x∈R.flatten,0≤x∧x<(R.flatten.length:Int))(hn:R.flatten.Nodup):yM R:=by
 refine⟨ht,fun r hr=>?_,fun r hr=>?_,?_,hr,hn⟩
 ·obtain⟨j,hj⟩:=List.mem_iff_getElem?.1 hr
  exact h.ne j r (List.getElem?_eq_some_iff.1 hj).1 hj
 ·obtain⟨j,hj⟩:=List.mem_iff_getElem?.1 hr
  exact h.asc j r (List.getElem?_eq_some_iff.1 hj).1 hj
 ·rw[List.pairwise_map]
  have:=(wJ (p:=fun a b=>decide (at0 a 0<at0 b 0)) (R:=R) fun a b d _ _ _ h h2=>by
   have:=of_decide_eq_true h;have:=of_decide_eq_true h2;exact decide_eq_true (by omega)).1 (vX.2 fun i a b ha hb=>decide_eq_true (h.fst i a b (List.getElem?_eq_some_iff.1 hb).1 ha hb))
  exact this.imp fun h=>of_decide_eq_true h
theorem yM.len{R:Rws}(h:yM R):R.length≤500:=Nat.le_trans (zok h.ne) h.tot
theorem yM.ztb{R:Rws}(h:yM R){i:Nat}{q r:Rw}(hq:R[i]?=some q)(hr:R[i+1]?=some r):at0 q 0<at0 r 0:=by
 have:=h.fst
 rw[List.pairwise_map,List.pairwise_iff_getElem]at this
 obtain⟨h1,rfl⟩:=List.getElem?_eq_some_iff.1 hq
 obtain⟨h2,rfl⟩:=List.getElem?_eq_some_iff.1 hr
 exact this i (i+1) h1 h2 (by omega)
theorem zpN{R:Rws}(i:Nat):(R.take i).flatten.length≤R.flatten.length:=by
 have:R.flatten=(R.take i).flatten++(R.drop i).flatten:=by rw[←List.flatten_append,List.take_append_drop]
 rw[this,List.length_append];omega
theorem zkq{R:Rws}{i:Nat}{r:Rw}(h:R[i]?=some r):(R.take (i+1)).flatten=(R.take i).flatten++r:=by
 rw[List.take_add_one,h];simp
theorem v7{R:Rws}(h: ¬yM R):zao R=false:=Bool.eq_false_iff.2 fun e=>h (j4.1 e)
def zne(r:Rw)(k:Nat):Prop:= ∀(j:Nat) a b,j+1<k→r[j]?=some a→r[j+1]?=some b→a<b
theorem zne.all{r:Rw}(h:zne r r.length):r.Pairwise (· < ·):=by
 have: ∀(n j:Nat) a b,r[j]?=some a→r[j+1+n]?=some b→a<b:=fun n=>by
  induction n with
  |zero=>exact fun j a b ha hb=>h j a b (List.getElem?_eq_some_iff.1 hb).1 ha hb
  |succ n ih=>
   intro j a b ha hb
   have hlt:=(List.getElem?_eq_some_iff.1 hb).1
   obtain⟨c,hc⟩:=zf (l:=r) (i:=j+1+n) (by omega)
   have h1:=ih j a c ha hc
   have h2:=h (j+1+n) c b (by omega) hc (by rw[show j+1+n+1=j+1+(n+1) by omega];exact hb)
   omega
 rw[List.pairwise_iff_getElem]
 intro i j hi hj hij
 exact this (j - i - 1) i _ _ (List.getElem?_eq_getElem hi) (by rw[show i+1+(j - i - 1)=j by omega];exact List.getElem?_eq_getElem hj)
theorem zrv{r:Rw}(h:r.Pairwise (· < ·)){j:Nat}{a b:Int}(ha:r[j]?=some a)(hb:r[j+1]?=some b):a<b:=by
 rw[List.pairwise_iff_getElem]at h
 obtain⟨h1,rfl⟩:=List.getElem?_eq_some_iff.1 ha
 obtain⟨h2,rfl⟩:=List.getElem?_eq_some_iff.1 hb
 exact h j (j+1) h1 h2 (by omega)
theorem zdg{r:Rw}{x:Int}(h:r[0]?=some x):at0 r 0=x:=zrh h
set_option maxHeartbeats 1000000 in
theorem zev(R:Rws)(hw: ∀r∈R,r.length≤1000000):zj Tryz.prog 91 [pS (z8 R)] [] (.bq (zao R)) []:=by
 by_cases hR:R.length≤500
 case neg=>
  rw[v7 fun h=>hR h.len]
  refine gO T Tryz.func91 fun C hC=>?_
  repeat' first|refine gG ?_|(exfalso;first|(simp only[decide_eq_true_eq,decide_eq_false_iff_not,List.length_map,Bool.not_eq_true',Bool.not_eq_false']at *; omega)|(simp at h;done))|refine gB (fun h=>?_) (fun h=>?_)|refine gL ?_
  all_goals rfl
 refine gO T Tryz.func91 fun C hC=>?_
 repeat' first|refine gG ?_|(exfalso;first|(simp only[decide_eq_true_eq,decide_eq_false_iff_not,List.length_map,Bool.not_eq_true',Bool.not_eq_false']at *; omega)|(simp at h;done))|refine gB (fun h=>?_) (fun h=>?_)
 rw[List.length_map]
 refine yo hC rfl 101 1 rfl [(3,.one (.ar 101))] ⟨⟨_,rfl,AdS.nil⟩,trivial⟩ [] trivial ?_
 refine zy (fun i:Nat=>i≤R.length∧zeu R i∧(R.take i).flatten.length≤500) (fun i=>([(0,pS (z8 R)),(3,.one (.ar 101)),(12,pS (z8 R)),(13,I R.length),(14,I i)],[(101,some (Res.arr 1 ((R.take i).flatten.map zS)))])) (fun i=>R.length - i) hC
  0 ⟨Nat.zero_le _,zeu.zero R,by simp⟩ id gM ?_
 clear h
 rintro i ⟨hi,hA,ht⟩
 refine zI T hC true 200 rfl ?_
 refine zP rfl (fun h=>?_) (fun h=>?_)
 ·have hlt:i<R.length:=by simpa using h
  clear h
  obtain⟨r,hx⟩:=zf hlt
  have hfl:=zkq hx
  have hrw:=hw r (List.mem_of_getElem? hx)
  cases r with
  |nil=>
   have hbad: ¬yM R:=fun h=>h.ne [] (List.mem_of_getElem? hx) rfl
   rw[v7 hbad]
   repeat' first|refine gG ?_|(exfalso;simp at h;done)|(exfalso;first|(simp only[decide_eq_true_eq,decide_eq_false_iff_not,List.length_map,Bool.not_eq_true',Bool.not_eq_false']at *; omega)|(simp at h;done))|refine gB (fun h=>?_) (fun h=>?_)|refine gI T (zu hx) ?_|refine zT ?_|refine gL ?_
   all_goals rfl
  |cons x0 r0=>
   generalize hr:x0::r0=r at hx hfl hrw
   have hr0:r[0]?=some x0:=by rw[←hr];rfl
   have hrl:0<r.length:=by rw[←hr];simp
   have hne:r≠ []:=by rw[←hr];simp
   have hlm:((R.take i).flatten.map zS).length=(R.take i).flatten.length:=List.length_map _
   have w3:IntKind.i64.wrap (((R.take i).flatten.length:Int)+(r.length:Int))=((R.take i).flatten.length:Int)+(r.length:Int):=wrap64 (by omega)
   by_cases h500:(R.take i).flatten.length+r.length≤500
   case neg=>
    have hbad: ¬yM R:=fun h=>h500 (by
     have:=zpN (R:=R) (i+1)
     rw[hfl,List.length_append]at this
     exact Nat.le_trans this h.tot)
    rw[v7 hbad]
    repeat' first|refine gG ?_|(exfalso;first|(simp only[decide_eq_true_eq,decide_eq_false_iff_not,List.length_map,Bool.not_eq_true',Bool.not_eq_false']at *; omega)|(simp at h;done))|(exfalso;have h2:=of_decide_eq_false h;rw[List.length_map,List.length_map,w3]at h2;omega)|refine gB (fun h=>?_) (fun h=>?_)|refine gI T (zu hx) ?_|refine zT ?_|refine gL ?_
    all_goals rfl
   have hfst: ∀q,0<i→R[i - 1]?=some q→ ¬at0 q 0<at0 r 0→ ¬yM R:=fun q h0 hq hn h=>hn (h.ztb hq (by rw[show i - 1+1=i by omega];exact hx))
   have w1:IntKind.i64.wrap ((i:Int) - 1)=(i:Int) - 1:=wrap64 (by omega)
   by_cases hi0:0<i∧ ∃q,R[i - 1]?=some q∧ ¬at0 q 0<at0 r 0
   ·obtain⟨h0,q,hq,hn⟩:=hi0
    rw[v7 (hfst q h0 hq hn)]
    have hq':R[((i:Int) - 1).toNat]?=some q:=by rw[show((i:Int) - 1).toNat=i - 1 by omega];exact hq
    have hqn:q≠ []:=hA.ne (i - 1) q (by omega) hq
    obtain⟨y0,hy⟩:=zf (l:=q) (i:=0) (List.length_pos_iff.2 hqn)
    rw[zdg hr0,zdg hy]at hn
    repeat' first|refine gG ?_|(exfalso;first|(simp only[decide_eq_true_eq,decide_eq_false_iff_not,List.length_map,Bool.not_eq_true',Bool.not_eq_false']at *; omega)|(simp at h;done))|(exfalso;have h2:=of_decide_eq_true h;rw[List.length_map,List.length_map,w3]at h2;omega)|refine gB (fun h=>?_) (fun h=>?_)|refine gI T (zu hx) ?_|(rw[w1];refine yh T hC rfl rfl rfl (by omega) (xA hq') rfl rfl ?_)|refine yh T hC (rows:=q.map zS) rfl rfl rfl (by decide) (xA hy) rfl rfl ?_|refine yh T hC (rows:=r.map zS) rfl rfl rfl (by decide) (xA hr0) rfl rfl ?_|refine zT ?_|refine gL ?_
    all_goals rfl
   have hstep: ∀q,0<i→R[i - 1]?=some q→at0 q 0<at0 r 0:=fun q h0 hq=>by
    by_cases h:at0 q 0<at0 r 0
    ·exact h
    ·exact absurd ⟨h0,q,hq,h⟩ hi0
   by_cases h0:0<i
   ·obtain⟨q,hq⟩:=zf (l:=R) (i:=i - 1) (by omega)
    have hlt2:=hstep q h0 hq
    have hq':R[((i:Int) - 1).toNat]?=some q:=by rw[show((i:Int) - 1).toNat=i - 1 by omega];exact hq
    have hqn:q≠ []:=hA.ne (i - 1) q (by omega) hq
    obtain⟨y0,hy⟩:=zf (l:=q) (i:=0) (List.length_pos_iff.2 hqn)
    rw[zdg hr0,zdg hy]at hlt2
    repeat' first|refine gG ?_|(exfalso;first|(simp only[decide_eq_true_eq,decide_eq_false_iff_not,List.length_map,Bool.not_eq_true',Bool.not_eq_false']at *; omega)|(simp at h;done))|(exfalso;have h2:=of_decide_eq_true h;rw[List.length_map,List.length_map,w3]at h2;omega)|refine gB (fun h=>?_) (fun h=>?_)|refine gI T (zu hx) ?_|(rw[w1];refine yh T hC rfl rfl rfl (by omega) (xA hq') rfl rfl ?_)|refine yh T hC (rows:=q.map zS) rfl rfl rfl (by decide) (xA hy) rfl rfl ?_|refine yh T hC (rows:=r.map zS) rfl rfl rfl (by decide) (xA hr0) rfl rfl ?_
    refine zy (fun k:Nat=>1≤k∧k≤r.length∧zne r k) (fun k=>([(0,pS (z8 R)),(3,.one (.ar 101)),(5,pS (zA r)),(6,I k),(12,pS (z8 R)),(13,I R.length),(14,I i)],[(101,some (Res.arr 1 ((R.take i).flatten.map zS)))])) (fun k=>r.length - k) hC
     1 ⟨Nat.le_refl _,hrl,fun j a b hj=>absurd hj (by omega)⟩ id gM ?_
    clear h
    rintro k ⟨hk1,hkl,hka⟩
    refine zI T hC true 200 rfl ?_
    refine zP rfl (fun h=>?_) (fun h=>?_)
    ·have hkt:k<r.length:=by simpa using h
     clear h
     obtain⟨a,ha⟩:=zf (l:=r) (i:=k - 1) (by omega)
     obtain⟨b,hb⟩:=zf hkt
     have w2:IntKind.i64.wrap ((k:Int) - 1)=(k:Int) - 1:=wrap64 (by omega)
     have ha':r[((k:Int) - 1).toNat]?=some a:=by rw[show((k:Int) - 1).toNat=k - 1 by omega];exact ha
     repeat' first|refine gG ?_|refine gB (fun h=>?_) (fun h=>?_)|(rw[w2];refine yh T hC rfl rfl rfl (by omega) (xA ha') rfl rfl ?_)|refine gI T (zu hb) ?_|refine zT ?_|refine zT ?_|refine gL ?_
     ·have hge:=of_decide_eq_true h
      rw[v7 fun hS=>absurd (zrv (hS.asc r (List.mem_of_getElem? hx)) ha (by rw[show k - 1+1=k by omega];exact hb)) (by omega)]
     ·have hlt3:=of_decide_eq_false h
      rw[yq (by omega)]
      refine zh (k+1) ⟨by omega,by omega,fun j c d hj hc hd=>?_⟩ id (by omega) gM
      rcases Nat.lt_or_ge (j+1) k with h1|h1
      ·exact hka j c d h1 hc hd
      ·obtain rfl:k=j+1:=by omega
       rw[show j+1 - 1=j by omega,hc]at ha
       rw[hd]at hb
       obtain rfl:=Option.some.inj ha
       obtain rfl:=Option.some.inj hb
       omega
    ·have hge: ¬k<r.length:=by simpa using h
     have hkr:k=r.length:=by omega
     subst hkr
     clear h
     repeat' first|refine gG ?_|refine gB (fun h=>?_) (fun h=>?_)|refine zp ?_|(refine zC T 102 hC (rows:=(R.take i).flatten.map zS) (rows2:=r.map zS) (rows3:=(R.take (i+1)).flatten.map zS) (bytes:=8) rfl rfl rfl rfl (xj.sl (T.es_ok _ _ rfl)) (by rw[hfl,List.map_append]) rfl rfl rfl (by kernel_rfl) (by simp only[List.length_map];omega) (by simp only[List.length_map];omega) rfl rfl rfl ?_)
     rw[yq (by omega)]
     exact zh (i+1) ⟨by omega,hA.next hx hne hka.all hstep,by rw[hfl,List.length_append];exact h500⟩ (mvU 101 102) (by omega) ⟨rfl,⟨rfl,rfl,rfl,rfl,rfl,trivial⟩,⟨rfl,trivial⟩,rfl,fun i hi=>yg (by omega) hi⟩
   ·repeat' first|refine gG ?_|(exfalso;first|(simp only[decide_eq_true_eq,decide_eq_false_iff_not,List.length_map,Bool.not_eq_true',Bool.not_eq_false']at *; omega)|(simp at h;done))|(exfalso;have h2:=of_decide_eq_true h;rw[List.length_map,List.length_map,w3]at h2;omega)|refine gB (fun h=>?_) (fun h=>?_)|refine gI T (zu hx) ?_
    refine zy (fun k:Nat=>1≤k∧k≤r.length∧zne r k) (fun k=>([(0,pS (z8 R)),(3,.one (.ar 101)),(5,pS (zA r)),(6,I k),(12,pS (z8 R)),(13,I R.length),(14,I i)],[(101,some (Res.arr 1 ((R.take i).flatten.map zS)))])) (fun k=>r.length - k) hC
     1 ⟨Nat.le_refl _,hrl,fun j a b hj=>absurd hj (by omega)⟩ id gM ?_
    clear h
    rintro k ⟨hk1,hkl,hka⟩
    refine zI T hC true 200 rfl ?_
    refine zP rfl (fun h=>?_) (fun h=>?_)
    ·have hkt:k<r.length:=by simpa using h
     clear h
     obtain⟨a,ha⟩:=zf (l:=r) (i:=k - 1) (by omega)
     obtain⟨b,hb⟩:=zf hkt
     have w2:IntKind.i64.wrap ((k:Int) - 1)=(k:Int) - 1:=wrap64 (by omega)
     have ha':r[((k:Int) - 1).toNat]?=some a:=by rw[show((k:Int) - 1).toNat=k - 1 by omega];exact ha
     repeat' first|refine gG ?_|refine gB (fun h=>?_) (fun h=>?_)|(rw[w2];refine yh T hC rfl rfl rfl (by omega) (xA ha') rfl rfl ?_)|refine gI T (zu hb) ?_|refine zT ?_|refine zT ?_|refine gL ?_
     ·have hge:=of_decide_eq_true h
      rw[v7 fun hS=>absurd (zrv (hS.asc r (List.mem_of_getElem? hx)) ha (by rw[show k - 1+1=k by omega];exact hb)) (by omega)]
     ·have hlt3:=of_decide_eq_false h
      rw[yq (by omega)]
      refine zh (k+1) ⟨by omega,by omega,fun j c d hj hc hd=>?_⟩ id (by omega) gM
      rcases Nat.lt_or_ge (j+1) k with h1|h1
      ·exact hka j c d h1 hc hd
      ·obtain rfl:k=j+1:=by omega
       rw[show j+1 - 1=j by omega,hc]at ha
       rw[hd]at hb
       obtain rfl:=Option.some.inj ha
       obtain rfl:=Option.some.inj hb
       omega
    ·have hge: ¬k<r.length:=by simpa using h
     have hkr:k=r.length:=by omega
     subst hkr
     clear h
     repeat' first|refine gG ?_|refine gB (fun h=>?_) (fun h=>?_)|refine zp ?_|(refine zC T 102 hC (rows:=(R.take i).flatten.map zS) (rows2:=r.map zS) (rows3:=(R.take (i+1)).flatten.map zS) (bytes:=8) rfl rfl rfl rfl (xj.sl (T.es_ok _ _ rfl)) (by rw[hfl,List.map_append]) rfl rfl rfl (by kernel_rfl) (by simp only[List.length_map];omega) (by simp only[List.length_map];omega) rfl rfl rfl ?_)
     rw[yq (by omega)]
     exact zh (i+1) ⟨by omega,hA.next hx hne hka.all hstep,by rw[hfl,List.length_append];exact h500⟩ (mvU 101 102) (by omega) ⟨rfl,⟨rfl,rfl,rfl,rfl,rfl,trivial⟩,⟨rfl,trivial⟩,rfl,fun i hi=>yg (by omega) hi⟩
 ·have hge: ¬i<R.length:=by simpa using h
  have hiR:i=R.length:=by omega
  subst hiR
  rw[List.take_length]at ht⊢
  clear h
  have hS:=zf0 R.flatten (by omega)
  have hsl:=zes R.flatten
  have hres:zao R=decide (yy R.flatten=wS R.flatten.length):=by
   rw[Bool.eq_iff_iff,j4,decide_eq_true_eq,zij]
   exact⟨fun h=>⟨h.rng,h.nd⟩,fun h=>yM.of hA ht h.1 h.2⟩
  rw[hres]
  repeat' first|refine gG ?_|refine gB (fun h=>?_) (fun h=>?_)|refine zp ?_|(refine gR hS (nm [101]) ?_;refine zm rfl (id:=101) (e:=1) (rows:=(yy R.flatten).map zS) rfl [(3,pS (zA (yy R.flatten)))] ⟨⟨_,rfl,FrS.ar⟩,trivial⟩ [] trivial ?_)
  rw[List.length_map,hsl]
  refine zy (fun i:Nat=>i≤R.flatten.length∧(yy R.flatten).take i=(wS R.flatten.length).take i) (fun i=>([(69,pS (zA (yy R.flatten))),(70,I R.flatten.length),(71,I i)],[])) (fun i=>R.flatten.length - i) hC
   0 ⟨Nat.zero_le _,by simp⟩ id gM ?_
  clear hS hA hi hge
  rintro i ⟨hi,hn⟩
  refine zI T hC true 200 rfl ?_
  refine zP rfl (fun h=>?_) (fun h=>?_)
  ·have hlt:i<R.flatten.length:=by simpa using h
   clear h
   obtain⟨x,hx⟩:=zf (l:=yy R.flatten) (i:=i) (by omega)
   have hy:=zkp hlt
   repeat' first|refine gG ?_|refine gB (fun h=>?_) (fun h=>?_)|refine gI T (zu hx) ?_|refine zT ?_|refine gL ?_
   ·have hxy: ¬x=(i:Int):=by simpa using h
    exact(decide_eq_false fun e=>hxy (by rw[e,hy]at hx;exact(Option.some.inj hx).symm)).symm
   ·have hxy:x=(i:Int):=by simpa using h
    subst hxy
    rw[yq (by omega)]
    exact zh (i+1) ⟨by omega,j8 hx hy hn⟩ id (by omega) gM
  ·have hge: ¬i<R.flatten.length:=by simpa using h
   repeat' first|refine gG ?_|refine gB (fun h=>?_) (fun h=>?_)|refine zp ?_|refine gL ?_
   rw[List.take_of_length_le (by omega),List.take_of_length_le (by rw[zcs];omega)]at hn
   exact(decide_eq_true hn).symm
end Hw.Fr.Md
namespace Hw.Fr.Md
open Go Go.Proofs Go.Shelf Hw.M
end Hw.Fr.Md
namespace Hw.Fr.Md
open Go Go.Proofs Go.Shelf Hw.M
def zrw(k:Int)(R:Rws):Bool:=decide (R.length≤500)&&tableB (wK k) (pT (cK k) (sK k)) R
theorem zrx(R:Rws):zrw 1 R=zU 1 R:=by
 show(decide (R.length≤500)&&tableB 2 (pT 1 true) R)=(decide (R.length≤500)&&tableB 2 (ltC 1) R)
 rw[zep (by decide)]
theorem zry(R:Rws):zrw 2 R=zU 2 R:=by
 show(decide (R.length≤500)&&tableB 1 (pT 1 false) R)=(decide (R.length≤500)&&tableB 1 (fun a b=> !ltC 1 b a) R)
 rw[zpJ (by decide)]
theorem zrz(R:Rws):zrw 3 R=zU 3 R:=by
 show(decide (R.length≤500)&&tableB 1 (pT 0 true) R)=(decide (R.length≤500)&&tableB 1 (fun _ _=>true) R)
 rw[zpK]
theorem zrA(R:Rws):zrw 5 R=zU 5 R:=by
 show(decide (R.length≤500)&&tableB 3 (pT 2 true) R)=(decide (R.length≤500)&&tableB 3 (ltC 2) R)
 rw[zep (by decide)]
theorem zpO(R:Rws):zU 4 R=zao R:=by
 show(decide (R.length≤500)&&zao R)=zao R
 cases h:zao R with
 |false=>exact Bool.and_false _
 |true=>rw[decide_eq_true (j4.1 h).len];rfl
theorem zpP(R:Rws):zU 6 R=textB R:=by
 show(decide (R.length≤500)&&textB R)=textB R
 match R with
 | []=>rfl
 | [r]=>rfl
 |a::b::c=>simp[textB]
theorem znf{k:Int}(hk: ¬(1≤k∧k≤6))(R:Rws):zU k R=false:=by
 unfold zU
 rw[if_neg (by omega),if_neg (by omega),if_neg (by omega),if_neg (by omega),if_neg (by omega),if_neg (by omega),Bool.and_false]
theorem zew(k:Int)(R:Rws)(hw: ∀r∈R,r.length≤1000000)(hR:R.length≤1000000):zj Tryz.prog 64 [zz (stR k R)] [] (.bq (zU k R)) []:=by
 by_cases hk:1≤k∧k≤6
 case neg=>
  rw[znf hk]
  refine gO T Tryz.func64 fun C hC=>?_
  repeat' first|refine gG ?_|(exfalso;first|(simp only[decide_eq_true_eq,decide_eq_false_iff_not,List.length_map,Bool.not_eq_true',Bool.not_eq_false']at *; omega)|(simp at h;done))|refine gB (fun h=>?_) (fun h=>?_)|refine gL ?_
  all_goals rfl
 have hT:=zeq (k:=k) R
 rw[show(decide (R.length≤500)&&tableB (wK k) (pT (cK k) (sK k)) R)=zrw k R from rfl]at hT
 rcases kinds hk with rfl|rfl|rfl|rfl|rfl|rfl
 ·rw[zrx]at hT
  generalize zU 1 R=q at hT⊢
  refine gO T Tryz.func64 fun C hC=>?_
  repeat' first|refine gG ?_|(exfalso;simp at h;done)|refine gB (fun h=>?_) (fun h=>?_)|refine gC hT ?_|refine gQ ?_|refine gL ?_
  all_goals rfl
 ·rw[zry]at hT
  generalize zU 2 R=q at hT⊢
  refine gO T Tryz.func64 fun C hC=>?_
  repeat' first|refine gG ?_|(exfalso;simp at h;done)|refine gB (fun h=>?_) (fun h=>?_)|refine gC hT ?_|refine gQ ?_|refine gL ?_
  all_goals rfl
 ·rw[zrz]at hT
  generalize zU 3 R=q at hT⊢
  refine gO T Tryz.func64 fun C hC=>?_
  repeat' first|refine gG ?_|(exfalso;simp at h;done)|refine gB (fun h=>?_) (fun h=>?_)|refine gC hT ?_|refine gQ ?_|refine gL ?_
  all_goals rfl
 ·have hS:=zev R hw
  rw[zpO]
  generalize zao R=q at hS⊢
  refine gO T Tryz.func64 fun C hC=>?_
  repeat' first|refine gG ?_|(exfalso;simp at h;done)|refine gB (fun h=>?_) (fun h=>?_)|refine gC hS ?_|refine gQ ?_|refine gL ?_
  all_goals rfl
 ·rw[zrA]at hT
  generalize zU 5 R=q at hT⊢
  refine gO T Tryz.func64 fun C hC=>?_
  repeat' first|refine gG ?_|(exfalso;simp at h;done)|refine gB (fun h=>?_) (fun h=>?_)|refine gC hT ?_|refine gQ ?_|refine gL ?_
  all_goals rfl
 ·rw[zpP]
  clear hT
  match R,hw,hR with
  | [],_,_=>
    refine gO T Tryz.func64 fun C hC=>?_
    repeat' first|refine gG ?_|(exfalso;simp at h;done)|refine gB (fun h=>?_) (fun h=>?_)|refine gQ ?_|refine gL ?_
    all_goals first|rfl|(exfalso;simp at h;done)
  | [r],hw,_=>
    have hN:=zba 93 r (fun n=> !zdE n) (fun n _=>znc n)
    rw[zby]at hN
    have hx:[r][0]?=some r:=rfl
    have hrl:=hw r (List.mem_singleton.2 rfl)
    rw[show textB [r]=(decide (1≤r.length)&&decide (r.length≤500)&&r.all zdE) from rfl]
    by_cases hr1:1≤r.length∧r.length≤500
    ·rw[decide_eq_true hr1.1,decide_eq_true hr1.2,Bool.true_and,Bool.true_and]
     generalize r.all zdE=q at hN⊢
     refine gO T Tryz.func64 fun C hC=>?_
     repeat' first|refine gG ?_|(exfalso;simp at h;done)|(exfalso;first|(simp only[decide_eq_true_eq,decide_eq_false_iff_not,List.length_map,Bool.not_eq_true',Bool.not_eq_false']at *; omega)|(simp at h;done))|refine gB (fun h=>?_) (fun h=>?_)|refine yh T hC rfl rfl rfl (by decide) (xA (l:=[r]) (f:=ze2) hx) rfl rfl ?_|refine gC hN ?_|refine gQ ?_|refine gL ?_
     all_goals first|rfl|(simp;done)
    ·rw[show(decide (1≤r.length)&&decide (r.length≤500)&&r.all zdE)=false by
      by_cases h1:1≤r.length
      ·rw[decide_eq_false (by omega: ¬r.length≤500)];simp
      ·rw[decide_eq_false h1];rfl]
     refine gO T Tryz.func64 fun C hC=>?_
     repeat' first|refine gG ?_|(exfalso;simp at h;done)|(exfalso;first|(simp only[decide_eq_true_eq,decide_eq_false_iff_not,List.length_map,Bool.not_eq_true',Bool.not_eq_false']at *; omega)|(simp at h;done))|refine gB (fun h=>?_) (fun h=>?_)|refine yh T hC rfl rfl rfl (by decide) (xA (l:=[r]) (f:=ze2) hx) rfl rfl ?_|refine gC hN ?_|refine gQ ?_|refine gL ?_
     all_goals first|rfl|(simp;done)
  |a::b::c,_,hR=>
   have hl:(a::b::c).length≠0∧(a::b::c).length≠1:=by simp
   rw[show textB (a::b::c)=false from rfl]
   generalize a::b::c=R at hl hR
   refine gO T Tryz.func64 fun C hC=>?_
   repeat' first|refine gG ?_|(exfalso;simp at h;done)|(exfalso;first|(simp only[decide_eq_true_eq,decide_eq_false_iff_not,List.length_map,Bool.not_eq_true',Bool.not_eq_false']at *; omega)|(simp at h;done))|refine gB (fun h=>?_) (fun h=>?_)|refine gQ ?_|refine gL ?_
   all_goals rfl
end Hw.Fr.Md
/- The library's functions at this program: their numbers. -/
namespace Hw.Fr
open Go Go.Proofs Go.Shelf
def zf1:Go.Shelf.Ren:=⟨fun|45=>136|n=>n,fun|22=>48|23=>31|3=>3|4=>4|0=>0|n=>n,fun|n=>n⟩
theorem zpQ:Go.Proofs.SlLaysE.n45 Tryz.prog zf1 where
 mixed:=by kernel_rfl
 f45:=⟨"slices.Delete[[][]int,[]int]",by decide,Tryz.func136.trans (congrArg some (by kernel_rfl))⟩
 t0:=Tryz.underlying0
 a0:=Tryz.isAgg0
 z0:=Tryz.sizeOf0
 v0:=Tryz.zeroValue0
 t3:=Tryz.underlying3
 a3:=Tryz.isAgg3
 z3:=Tryz.sizeOf3
 v3:=Tryz.zeroValue3
 t4:=Tryz.underlying4
 a4:=Tryz.isAgg4
 z4:=Tryz.sizeOf4
 v4:=Tryz.zeroValue4
 t22:=Tryz.underlying48
 a22:=Tryz.isAgg48
 z22:=Tryz.sizeOf48
 v22:=Tryz.zeroValue48
 a23:=Tryz.isAgg31
 z23:=Tryz.sizeOf31
def zf2:Go.Shelf.Ren:=⟨fun|35=>137|n=>n,fun|22=>48|23=>31|3=>3|4=>4|0=>0|n=>n,fun|n=>n⟩
theorem zkr:Go.Proofs.SlLaysE.n35 Tryz.prog zf2 where
 mixed:=by kernel_rfl
 f35:=⟨"slices.Reverse[[][]int,[]int]",by decide,Tryz.func137.trans (congrArg some (by kernel_rfl))⟩
 t0:=Tryz.underlying0
 a0:=Tryz.isAgg0
 z0:=Tryz.sizeOf0
 v0:=Tryz.zeroValue0
 t3:=Tryz.underlying3
 a3:=Tryz.isAgg3
 z3:=Tryz.sizeOf3
 v3:=Tryz.zeroValue3
 t4:=Tryz.underlying4
 a4:=Tryz.isAgg4
 z4:=Tryz.sizeOf4
 v4:=Tryz.zeroValue4
 t22:=Tryz.underlying48
 a22:=Tryz.isAgg48
 z22:=Tryz.sizeOf48
 v22:=Tryz.zeroValue48
 a23:=Tryz.isAgg31
 z23:=Tryz.sizeOf31
end Hw.Fr
/- The engine, part BP: grids that a call leaves: an owned array of owned arrays under new names. -/
namespace Hw
open Go Go.Proofs
theorem v8{cs:List Value}:jh cs↔cs.Pairwise fun x y=> ∀b,blk x=some b→blk y≠some b:=by
 rw[List.pairwise_iff_getElem]
 constructor
 ·intro h i j hi hj hij b hb hb'
  exact h i j b _ _ (List.getElem?_eq_getElem hi) (List.getElem?_eq_getElem hj) (by omega) hb hb'
 ·intro h i j b x y hx hy hne hb hb'
  obtain⟨hi,rfl⟩:=List.getElem?_eq_some_iff.1 hx
  obtain⟨hj,rfl⟩:=List.getElem?_eq_some_iff.1 hy
  rcases Nat.lt_or_ge i j with h1|h1
  ·exact h i j hi hj h1 b hb hb'
  ·exact h j i hj hi (by omega) b hb' hb
theorem jh.sub{cs ds:List Value}(h:jh cs)(hs:ds.Sublist cs):jh ds:=v8.2 ((v8.1 h).sublist hs)
theorem jh.perm{cs ds:List Value}(h:jh cs)(hs:cs.Perm ds):jh ds:=v8.2 ((hs.pairwise_iff fun {x y} h b hb hb'=>h b hb' hb).1 (v8.1 h))
theorem jh.cons{cs:List Value}{v:Value}(h:jh cs)(hv: ∀c∈cs,∀b,blk c=some b→blk v≠some b):jh (v::cs):=
 v8.2 (List.pairwise_cons.2 ⟨fun c hc b hb hb'=>hv c hc b hb' hb,v8.1 h⟩)
def zf3(w w':World)(b0:Option Nat)(ys:List Value)(v:Value):Prop:= ∃(B o cap:Nat) (cs:Array Value) (el:TypeId) (fz:Nat×Nat),v= .slice (some ⟨B,o,none⟩) ys.length cap∧w'.heap[B]?=some (.cells cs el fz)∧xa fz cs.size∧
 o+cap≤cs.size∧ys.length≤cap∧cap≤9223372036854775807∧(∀(j:Nat) u,ys[j]?=some u→cs[o+j]?=some u)∧(w.heap.size≤B∨b0=some B)∧(∀k,k<w.heap.size→b0≠some k→w'.heap[k]?=w.heap[k]?)∧
 w.heap.size≤w'.heap.size∧w'.os=w.os∧w'.tape=w.tape∧w'.output=w.output
theorem zgU{M:Mem}{ρ:Nat→Value}{w w':World}{R:RL}{r0:Res}{io ib e:Nat}{ys:List Value}{L:List (List (List PV))}{v:Value}(hR:tg (tb R) 0=some r0)(hT:vx M ρ w (tb R))(hI:Imm M w)(hio:io∉R.ids)(hib:ib∉R.ids)(hne:io≠ib)
 (hD:zf3 w w' (blk (ρ 0)) ys v) (h0: ∀b,blk (ρ 0)=some b→Bk (ρ 0) b) (hlen:ys.length=L.length) (hone: ∀c∈ys,c.oneCell'=true) (hin: ∀(j:Nat) rs,L[j]?=some rs→ ∃c,ys[j]?=some c∧x7 M w c e rs) (hap:jh ys)
 (hys: ∀c∈ys,∀b,blk c=some b→b<w.heap.size∧blk (ρ 0)≠some b∧zb8 (tb R) ρ b):
 Ret M ρ w R (.one (.ar io)) [(io,.vw [ib] 1 (gr L.length)),(ib,.bag e L)] v M (upd (upd ρ ib (.tuple ys.toArray)) io v) w':=by
 obtain⟨B,o,cap,cs,el,fz,rfl,g1,g2,g3,g4,g5,g6,g7,g8,g9,g10,g11,g12⟩:=hD
 have r1:upd (upd ρ ib (.tuple ys.toArray)) io (.slice (some ⟨B,o,none⟩) ys.length cap) io= .slice (some ⟨B,o,none⟩) ys.length cap:=zt _ _ _
 have r2:upd (upd ρ ib (.tuple ys.toArray)) io (.slice (some ⟨B,o,none⟩) ys.length cap) ib= .tuple ys.toArray:=by rw[zN (fun e=>hne e.symm),zt]
 have two: ∀i r,tg (tb [(io,Res.vw [ib] 1 (gr L.length)),(ib,.bag e L)]) i=some r→(i=io∧r= .vw [ib] 1 (gr L.length))∨(i=ib∧r= .bag e L):=fun i r hi=>by
  simp only[tb,yc]at hi
  split at hi
  ·rename_i e;exact .inl ⟨e.symm,(Option.some.inj hi).symm⟩
  ·split at hi
   ·rename_i e;exact .inr ⟨e.symm,(Option.some.inj hi).symm⟩
   ·cases hi
 have bkB: ∀b,Bk (.slice (some ⟨B,o,none⟩) ys.length cap) b→b=B:=fun b hb=>by simp only[Bk,blk,Option.some.injEq]at hb;exact hb.symm
 have bkY: ∀b,Bk (.tuple ys.toArray) b→ ∃c∈ys,blk c=some b:=fun b hb=>by obtain⟨x,hx,h⟩:=hb;exact⟨x,by simpa using hx,h⟩
 have nB: ∀c∈ys,∀b,blk c=some b→b≠B:=fun c hc b hb e=>by
  obtain⟨h1,h2,_⟩:=hys c hc b hb
  rcases g7 with h|h
  ·omega
  ·exact h2 (by rw[h,e])
 refine zfZ hT hI (by simp only[RepS,RepV];exact⟨r1.symm,rfl⟩) (fun i r hi=>?_) (fun i j ri rj b hi hj hne2 hb hb'=>?_) (fun i r b hi hb=>?_) (fun b hb hn=>g8 b hb fun e=>hn ⟨0,r0,hR,h0 b e⟩) g9 g10 g11 g12 fun id hid=>?_
 ·rcases two i r hi with⟨rfl,rfl⟩|⟨rfl,rfl⟩
  ·refine⟨some ⟨B,o,none⟩,cap,by rw[xY,←hlen];exact r1,by rw[xY,←hlen];exact g4,g5,zbL _,.inr ⟨B,o,cs,el,fz,rfl,g1,g2,by rw[Nat.mul_one];exact g3,fun j x hj=>?_⟩⟩
   rw[gr,vZ,List.getElem?_map,Option.map_eq_some_iff]at hj
   obtain⟨q,hq,rfl⟩:=hj
   have hlt:=(List.getElem?_eq_some_iff.1 hq).1
   rw[List.length_range]at hlt
   rw[List.getElem?_range hlt]at hq
   obtain rfl:=Option.some.inj hq
   have hy:ys[j]?=some ys[j]:=List.getElem?_eq_getElem (by omega)
   exact⟨_,g6 j _ hy,by simp only[toV,List.getElem?_cons_zero,RepV];exact⟨ys,r2,hy,hone _ (List.mem_of_getElem? hy)⟩⟩
  ·refine⟨ys,r2,hlen,fun j rs hj=>?_,hap⟩
   obtain⟨c,c1,c2⟩:=hin j rs hj
   refine⟨c,c1,c2.world fun b hb=>?_⟩
   obtain⟨h1,h2,_⟩:=hys c (List.mem_of_getElem? c1) b hb
   exact g8 b h1 h2
 ·rcases two i ri hi with⟨rfl,_⟩|⟨rfl,_⟩<;>rcases two j rj hj with⟨rfl,_⟩|⟨rfl,_⟩
  ·exact hne2 rfl
  ·rw[r1]at hb;rw[r2]at hb'
   obtain⟨c,hc,h⟩:=bkY b hb'
   exact nB c hc b h (bkB b hb)
  ·rw[r2]at hb;rw[r1]at hb'
   obtain⟨c,hc,h⟩:=bkY b hb
   exact nB c hc b h (bkB b hb')
  ·exact hne2 rfl
 ·rcases two i r hi with⟨rfl,_⟩|⟨rfl,_⟩
  ·rw[r1]at hb
   obtain rfl:=bkB b hb
   exact g7.imp id fun h=>⟨0,r0,hR,h0 b h⟩
  ·rw[r2]at hb
   obtain⟨c,hc,h⟩:=bkY b hb
   exact .inr (hys c hc b h).2.2
 ·rw[zN (fun e=>hio (by rw[←e];exact hid)),zN (fun e=>hib (by rw[←e];exact hid))]
theorem zav{M:Mem}{ρ:Nat→Value}{w:World}{o id e:Nat}{L:List (List (List PV))}(ho:zJ M ρ w o (.vw [id] 1 (gr L.length)))(hb:zJ M ρ w id (.bag e L)):
 ∃(xs:List Value) (a:Option Addr) (cap:Nat),ρ id= .tuple xs.toArray∧xs.length=L.length∧(∀(j:Nat) rs,L[j]?=some rs→ ∃c,xs[j]?=some c∧x7 M w c e rs)∧jh xs∧ρ o= .slice a xs.length cap∧xs.length≤cap∧cap≤9223372036854775807∧(∀c∈xs,c.oneCell'=true)∧
  ((a=none∧cap=0)∨ ∃(b oo:Nat) (cs:Array Value) (el:TypeId) (fz:Nat×Nat),a=some ⟨b,oo,none⟩∧w.heap[b]?=some (.cells cs el fz)∧xa fz cs.size∧oo+cap≤cs.size∧ ∀(j:Nat) u,xs[j]?=some u→cs[oo+j]?=some u):=by
 obtain⟨xs,h1,h2,h3,h4⟩:=hb
 obtain⟨a,cap,g1,g2,g3,_,g5⟩:=ho
 rw[xY]at g1 g2
 refine⟨xs,a,cap,h1,h2,h3,h4,by rw[h2];exact g1,by omega,g3,fun c hc=>?_,?_⟩
 ·obtain⟨j,hj⟩:=List.mem_iff_getElem?.1 hc
  have hjl:=(List.getElem?_eq_some_iff.1 hj).1
  obtain⟨c',c1,⟨_,_,c2,_⟩⟩:=h3 j _ (List.getElem?_eq_getElem (by omega))
  rw[hj]at c1
  obtain rfl:=Option.some.inj c1
  rw[c2];rfl
 ·rcases g5 with h|⟨b,oo,cs,el,fz,k1,k2,k3,k4,k5⟩
  ·exact .inl h
  ·refine .inr ⟨b,oo,cs,el,fz,k1,k2,k3,by rw[Nat.mul_one]at k4;exact k4,fun j u hj=>?_⟩
   have hjl:=(List.getElem?_eq_some_iff.1 hj).1
   obtain⟨c,c1,c2⟩:=k5 j _ (zkl (by omega))
   simp only[toV,List.getElem?_cons_zero,RepV]at c2
   obtain⟨xs',f1,f2,_⟩:=c2
   rw[h1]at f1
   have:xs'=xs:=by simp only[Value.tuple.injEq]at f1;have:=congrArg Array.toList f1;simpa using this.symm
   subst this
   rw[hj]at f2
   rw[c1,Option.some.inj f2]
end Hw
namespace Hw.Fr.Md
open Go Go.Proofs Go.Shelf Hw.M
def bg(R:Rws):Res:= .bag 1 (R.map fun r=>r.map zS)
def vg(j n:Nat):Res:= .vw [j] 1 (gr n)
theorem zks(j:Nat)(R:Rws):vg j R.length= .vw [j] 1 (gr (R.map fun r=>r.map zS).length):=by rw[List.length_map];rfl
abbrev zsN:Type:={v:Value // v.oneCell'=true}
instance:Inhabited zsN:=⟨⟨.slice none 0 0,rfl⟩⟩
def ze3(x:zsN):Value:=x.1
theorem zgV:OneCell ze3:=fun x=>x.2
theorem zkt: ∀(xs:List Value),(∀c∈xs,c.oneCell'=true)→ ∃ds:List zsN,ds.map ze3=xs
 | [],_=>⟨[],rfl⟩
 |x::xs,h=>by
  obtain⟨ds,hd⟩:=zkt xs fun c hc=>h c (List.mem_cons_of_mem _ hc)
  exact⟨⟨x,h x (List.mem_cons_self ..)⟩::ds,by simp[ze3,←hd]⟩
theorem info_sl: ∃i0,Tryz.prog.info? 31=some i0∧i0.size=1∧i0.zero=some (.slice none 0 0)∧i0.bytes=24:=by
 have h:(Tryz.prog.info? 31).map (fun i=>(decide (i.size=1)&&decide (i.bytes=24)&&(match i.zero with|some (.slice none 0 0)=>true|_=>false)))=some true:=by kernel_rfl
 obtain⟨i0,h1,h2⟩:=Option.map_eq_some_iff.1 h
 simp only[Bool.and_eq_true,decide_eq_true_eq]at h2
 refine⟨i0,h1,h2.1.1,?_,h2.1.2⟩
 have h3:=h2.2
 split at h3
 ·assumption
 ·cases h3
theorem zex{M:Mem}{ρ:Nat→Value}{w:World}{R:Rws}{xs:List Value}(hT:vx M ρ w (tb [(0,vg 1 R.length),(1,bg R)]))(h1:ρ 1= .tuple xs.toArray)(hA: ∀c∈xs,∀b,blk c=some b→b<w.heap.size)(h0: ∀b,blk (ρ 0)=some b→Bk (ρ 0) b):
 ∀c∈xs,∀b,blk c=some b→b<w.heap.size∧blk (ρ 0)≠some b∧zb8 (tb [(0,vg 1 R.length),(1,bg R)]) ρ b:=fun c hc b hb=>by
 have hB:Bk (ρ 1) b:=by rw[h1];exact⟨c,by simpa using hc,hb⟩
 exact⟨hA c hc b hb,fun e=>hT.dis 0 1 _ _ b rfl rfl (by decide) (h0 b e) hB,1,_,rfl,hB⟩
theorem zku{M:Mem}{w:World}{xs:List Value}{L:List (List (List PV))}{e:Nat}(hl:xs.length=L.length)(h: ∀(j:Nat) rs,L[j]?=some rs→ ∃c,xs[j]?=some c∧x7 M w c e rs): ∀c∈xs,∀b,blk c=some b→b<w.heap.size:=fun c hc b hb=>by
 obtain⟨j,hj⟩:=List.mem_iff_getElem?.1 hc
 have hjl:=(List.getElem?_eq_some_iff.1 hj).1
 obtain⟨c',c1,c2⟩:=h j _ (List.getElem?_eq_getElem (by omega))
 rw[hj]at c1
 obtain rfl:=Option.some.inj c1
 exact c2.lt hb
theorem zbP{α β:Type}(f:α→β): ∀(l:List α) (i:Nat),(l.eraseIdx i).map f=(l.map f).eraseIdx i
 | [],_=>rfl
 |_::_,0=>rfl
 |x::l,i+1=>by simp only[List.eraseIdx_cons_succ,List.map_cons,zbP f l i]
theorem zey(R:Rws)(i:Nat)(hi:i<R.length)(hR:R.length≤1000000):zj Tryz.prog 136 [.one (.ar 0),I i,I ((i+1:Nat):Int)] [(0,vg 1 R.length),(1,bg R)] (.one (.ar 2)) [(2,vg 3 (R.length - 1)),(3,bg (R.eraseIdx i))]:=by
 refine⟨⟨_,Tryz.func136,by kernel_rfl,by kernel_rfl⟩,fun M ρ w vs hx hT hI hG=>?_⟩
 match vs,hx with
 | [x0,x1,x2],hx=>
   simp only[RepSs,RepS,RepV,RepPV]at hx
   obtain⟨⟨rfl,_⟩,⟨rfl,_⟩,⟨rfl,_⟩,_⟩:=hx
   have hv:=hT.res 0 (vg 1 R.length) rfl
   rw[zks]at hv
   obtain⟨xs,a,cap,h1,h2,h3,h4,g1,g2,g3,g4,g5⟩:=zav hv (hT.res 1 (bg R) rfl)
   rw[List.length_map]at h2
   rcases g5 with⟨_,hc⟩|⟨b,o,cs,el,fz,rfl,k1,k2,k3,k4⟩
   ·omega
   obtain⟨ds,hds⟩:=zkt xs g4
   have hdl:ds.length=xs.length:=by rw[←hds,List.length_map]
   have hH:Sort.Holds ze3 w b o ds.toArray:=holds_of k1 k2 fun j x hx=>k4 j _ (by rw[←hds,List.getElem?_map];simp at hx;rw[hx];rfl)
   obtain⟨i0,hi0,hz1,_,_⟩:=info_sl
   have h0: ∀q,blk (ρ 0)=some q→Bk (ρ 0) q:=fun q hq=>by rw[g1]at hq ⊢; exact hq
   have hcall:=AnyE.slices_Delete zpQ ze3 zgV (default:zsN) (fun w=>by exact Tryz.zeroValue31 w) i0 hi0 hz1 b o cap i (i+1) ds.toArray w hH (by simpa [hdl]using g2) g3 (Nat.le_succ i) (by simp;omega)
   rw[show ds.toArray.size=xs.length by simp[hdl]]at hcall
   rw[g1]
   refine hcall.mono ?_
   rintro e w' ⟨rfl,q,rfl⟩
   have hyl:(xs.eraseIdx i).length=xs.length - (i+1 - i):=by rw[List.length_eraseIdx_of_lt (by omega)];omega
   have hD:zf3 w (Sort.putRow ze3 (Sort.ahead w q) b o (ds.toArray.toList.take i++ds.toArray.toList.drop (i+1)++List.replicate (i+1 - i) default).toArray) (blk (ρ 0)) (xs.eraseIdx i) (.slice (some ⟨b,o,none⟩) (xs.length - (i+1 - i)) cap):=by
    refine⟨b,o,cap,_,el,fz,by rw[hyl],zbO ze3 (Sort.ahead w q) b o _ k1,by rw[yZ];exact k2,by rw[yZ];exact k3,by omega,g3,fun j u hj=>?_,.inr (by rw[g1];rfl),fun k hk hne=>?_,by rw[vr];exact Nat.le_refl _,rfl,rfl,rfl⟩
    ·have hjl:=(List.getElem?_eq_some_iff.1 hj).1
     rw[←hds,←zbP,List.getElem?_map,Option.map_eq_some_iff]at hj
     obtain⟨d,hd,rfl⟩:=hj
     refine jH ze3 o _ cs ?_ (by omega)
     rw[List.getElem?_toArray,List.getElem?_append_left (by simp;omega)]
     rw[List.eraseIdx_eq_take_drop_succ]at hd
     exact hd
    ·exact zau ze3 _ b o _ fun e=>hne (by rw[g1,e];rfl)
   have hL:(R.map fun r=>r.map zS).eraseIdx i=(R.eraseIdx i).map fun r=>r.map zS:=(zbP _ R i).symm
   have:=zgU (io:=2) (ib:=3) (e:=1) (L:=(R.eraseIdx i).map fun r=>r.map zS) rfl hT hI (by simp[RL.ids]) (by simp[RL.ids]) (by decide) hD h0
    (by rw[List.length_map,hyl,List.length_eraseIdx_of_lt (by omega)];omega) (fun c hc=>g4 c ((List.eraseIdx_sublist ..).subset hc))
    (fun j rs hj=>by
      rw[←hL]at hj
      rcases Nat.lt_or_ge j i with hlt|hge
      ·rw[List.getElem?_eraseIdx_of_lt hlt]at hj
       obtain⟨c,c1,c2⟩:=h3 j rs hj
       exact⟨c,by rw[List.getElem?_eraseIdx_of_lt hlt];exact c1,c2⟩
      ·rw[List.getElem?_eraseIdx_of_ge hge]at hj
       obtain⟨c,c1,c2⟩:=h3 (j+1) rs hj
       exact⟨c,by rw[List.getElem?_eraseIdx_of_ge hge];exact c1,c2⟩)
    (h4.sub (List.eraseIdx_sublist ..)) (fun c hc=>zex hT h1 (zku (by rw[List.length_map];exact h2) h3) h0 c ((List.eraseIdx_sublist ..).subset hc))
   rw[List.length_map,List.length_eraseIdx_of_lt hi]at this
   exact⟨_,M,_,rfl,this⟩
 | [],hx=>simp[RepSs]at hx
 | [_],hx=>simp[RepSs]at hx
 | [_,_],hx=>simp[RepSs]at hx
 |_::_::_::_::_,hx=>simp[RepSs]at hx
end Hw.Fr.Md
namespace Hw.Fr.Md
open Go Go.Proofs Go.Shelf Hw.M
def zaw{α:Type}(l:List α)(a m:Nat):List α:=l.take a++((l.drop a).take m).reverse++l.drop (a+m)
theorem wT{α:Type}(l:List α)(a m:Nat):(zaw l a m).Perm l:=by
 have e:l=l.take a++((l.drop a).take m++(l.drop a).drop m):=by rw[List.take_append_drop,List.take_append_drop]
 conv=>rhs;rw[e]
 rw[zaw,List.append_assoc,List.drop_drop]
 exact List.Perm.append_left _ (List.Perm.append_right _ (List.reverse_perm _))
theorem zgW{α:Type}(l:List α)(a m:Nat):(zaw l a m).length=l.length:=(wT l a m).length_eq
theorem zng{α β:Type}(f:α→β)(l:List α)(a m:Nat):(zaw l a m).map f=zaw (l.map f) a m:=by
 simp only[zaw,List.map_append,List.map_take,List.map_drop,List.map_reverse]
theorem zf4{α:Type}{l:List α}{a m:Nat}(h:a+m≤l.length)(j:Nat):(zaw l a m)[j]?=if a≤j∧j<a+m then l[a+(m - 1 - (j - a))]? else l[j]?:=by
 have h1:(l.take a).length=a:=by rw[List.length_take];omega
 have h2:((l.drop a).take m).length=m:=by rw[List.length_take,List.length_drop];omega
 have h3:(((l.drop a).take m).reverse).length=m:=by rw[List.length_reverse];exact h2
 unfold zaw
 by_cases hj:j<a
 ·rw[if_neg (by omega),List.append_assoc,List.getElem?_append_left (by omega),List.getElem?_take,if_pos hj]
 ·by_cases hj2:j<a+m
  ·rw[if_pos ⟨by omega,hj2⟩,List.getElem?_append_left (by rw[List.length_append];omega),List.getElem?_append_right (by omega),h1,List.getElem?_reverse (by omega),h2,List.getElem?_take,if_pos (by omega),List.getElem?_drop]
  ·rw[if_neg (by omega),List.getElem?_append_right (by rw[List.length_append];omega),List.length_append,h1,h3,List.getElem?_drop,show a+m+(j - (a+m))=j by omega]
theorem zrB(R:Rws)(a m:Nat)(ha:a+m≤R.length)(hR:R.length≤1000000):zj Tryz.prog 137 [.one (.sv 0 (a*1) m)] [(0,vg 1 R.length),(1,bg R)] .un [(0,vg 2 R.length),(2,bg (zaw R a m))]:=by
 refine⟨⟨_,Tryz.func137,by kernel_rfl,by kernel_rfl⟩,fun M ρ w vs hx hT hI hG=>?_⟩
 match vs,hx with
 | [x0],hx=>
   simp only[RepSs,RepS,RepV]at hx
   obtain⟨hx0,_⟩:=hx
   have hv:=hT.res 0 (vg 1 R.length) rfl
   rw[zks]at hv
   obtain⟨xs,ad,cap,h1,h2,h3,h4,g1,g2,g3,g4,g5⟩:=zav hv (hT.res 1 (bg R) rfl)
   rw[List.length_map]at h2
   have h0: ∀q,blk (ρ 0)=some q→Bk (ρ 0) q:=fun q hq=>by rw[g1]at hq ⊢; exact hq
   have inn:=zex hT h1 (zku (by rw[List.length_map];exact h2) h3) h0
   have hlr:=zgW xs a m
   have hlR:=zgW R a m
   have two: ∀i r,tg (tb [(0,vg 2 R.length),(2,bg (zaw R a m))]) i=some r→(i=0∧r=vg 2 R.length)∨(i=2∧r=bg (zaw R a m)):=fun i r hi=>by
    simp only[tb,yc]at hi
    split at hi
    ·rename_i e;exact .inl ⟨e.symm,(Option.some.inj hi).symm⟩
    ·split at hi
     ·rename_i e;exact .inr ⟨e.symm,(Option.some.inj hi).symm⟩
     ·cases hi
   -- what is left, wherever the outer cells lie
   have fin: ∀ {e:Ending} {w':World},e= .returned (.tuple #[])→(∀k,k<w.heap.size→blk (ρ 0)≠some k→w'.heap[k]?=w.heap[k]?)→w.heap.size≤w'.heap.size→w'.os=w.os→w'.tape=w.tape→w'.output=w.output→
    ((ad=none∧cap=0)∨ ∃(b o:Nat) (cs:Array Value) (el:TypeId) (fz:Nat×Nat),ad=some ⟨b,o,none⟩∧w'.heap[b]?=some (.cells cs el fz)∧xa fz cs.size∧o+cap≤cs.size∧ ∀(j:Nat) u,(zaw xs a m)[j]?=some u→cs[o+j]?=some u)→
    ∃v M' ρ',e= .returned v∧Ret M ρ w [(0,vg 1 R.length),(1,bg R)] .un [(0,vg 2 R.length),(2,bg (zaw R a m))] v M' ρ' w':=fun {e w'} he hf hs ho ht hp hcells=>by
    have r0:upd ρ 2 (.tuple (zaw xs a m).toArray) 0=ρ 0:=zN (by decide)
    have r2:upd ρ 2 (.tuple (zaw xs a m).toArray) 2= .tuple (zaw xs a m).toArray:=zt _ _ _
    refine⟨_,M,upd ρ 2 (.tuple (zaw xs a m).toArray),he,zfZ hT hI (by simp only[RepS]) (fun i r hi=>?_) (fun i j ri rj b hi hj hne hb hb'=>?_) (fun i r b hi hb=>?_) (fun b hb hn=>hf b hb fun e=>hn ⟨0,_,rfl,h0 b e⟩) hs ho ht hp fun id hid=>zN (by simp only[RL.ids,List.mem_cons,List.mem_nil_iff,or_false]at hid;omega)⟩
    ·rcases two i r hi with⟨rfl,rfl⟩|⟨rfl,rfl⟩
     ·refine⟨ad,cap,by rw[xY,r0,←h2];exact g1,by rw[xY,←h2];exact g2,g3,zbL _,?_⟩
      rcases hcells with h|⟨b,o,cs,el,fz,k1,k2,k3,k4,k5⟩
      ·exact .inl h
      ·refine .inr ⟨b,o,cs,el,fz,k1,k2,k3,by rw[Nat.mul_one];exact k4,fun j x hj=>?_⟩
       rw[gr,vZ,List.getElem?_map,Option.map_eq_some_iff]at hj
       obtain⟨q,hq,rfl⟩:=hj
       have hlt:=(List.getElem?_eq_some_iff.1 hq).1
       rw[List.length_range]at hlt
       rw[List.getElem?_range hlt]at hq
       obtain rfl:=Option.some.inj hq
       have hy:(zaw xs a m)[j]?=some (zaw xs a m)[j]:=List.getElem?_eq_getElem (by omega)
       exact⟨_,k5 j _ hy,by simp only[toV,List.getElem?_cons_zero,RepV];exact⟨_,r2,hy,g4 _ ((wT xs a m).mem_iff.1 (List.mem_of_getElem? hy))⟩⟩
     ·refine⟨zaw xs a m,r2,by rw[hlr,List.length_map,hlR];exact h2,fun j rs hj=>?_,h4.perm (wT xs a m).symm⟩
      rw[zng,zf4 (by rw[List.length_map];exact ha)]at hj
      have: ∃c,(zaw xs a m)[j]?=some c∧x7 M w c 1 rs:=by
       rw[zf4 (by omega)]
       split
       ·rename_i hc;rw[if_pos hc]at hj;exact h3 _ rs hj
       ·rename_i hc;rw[if_neg hc]at hj;exact h3 _ rs hj
      obtain⟨c,c1,c2⟩:=this
      have hcm:=(wT xs a m).mem_iff.1 (List.mem_of_getElem? c1)
      exact⟨c,c1,c2.world fun b hb=>hf b (inn c hcm b hb).1 (inn c hcm b hb).2.1⟩
    ·have key: ∀b,Bk (ρ 0) b→Bk (.tuple (zaw xs a m).toArray) b→False:=fun b hb hb'=>by
      obtain⟨c,hc,h⟩:=hb'
      exact(inn c ((wT xs a m).mem_iff.1 (by simpa using hc)) b h).2.1 (by rw[g1]at hb ⊢; exact hb)
     rcases two i ri hi with⟨rfl,_⟩|⟨rfl,_⟩<;>rcases two j rj hj with⟨rfl,_⟩|⟨rfl,_⟩
     ·exact hne rfl
     ·rw[r0]at hb;rw[r2]at hb';exact key b hb hb'
     ·rw[r2]at hb;rw[r0]at hb';exact key b hb' hb
     ·exact hne rfl
    ·rcases two i r hi with⟨rfl,_⟩|⟨rfl,_⟩
     ·rw[r0]at hb;exact .inr ⟨0,_,rfl,hb⟩
     ·rw[r2]at hb
      obtain⟨c,hc,h⟩:=hb
      exact .inr (inn c ((wT xs a m).mem_iff.1 (by simpa using hc)) b h).2.2
   have same:zaw xs a m=xs→w.heap.size≤w.heap.size:=fun _=>Nat.le_refl _
   by_cases hm:m=0
   ·subst hm
    have hrx:zaw xs a 0=xs:=by simp[zaw]
    obtain⟨a',c',rfl⟩: ∃(a':Option Addr) (c':Nat),x0= .slice a' 0 c':=by
     rcases hx0 with⟨_,h⟩|⟨b,o,N,cap',c',_,h,_⟩
     ·exact h
     ·exact⟨_,_,h⟩
    refine(AnyE.slices_Reverse_empty zkr a' c' w).mono ?_
    rintro e w' ⟨rfl,rfl⟩
    exact fin rfl (fun _ _ _=>rfl) (Nat.le_refl _) rfl rfl rfl (by rw[hrx];exact g5)
   ·rcases hx0 with⟨h,_⟩|⟨b,o,N,cap',c',e1,rfl,e3,e4⟩
    ·exact absurd h hm
    rcases g5 with⟨rfl,_⟩|⟨b',o',cs,el,fz,rfl,k1,k2,k3,k4⟩
    ·rw[g1]at e1;cases e1
    rw[g1]at e1
    simp only[Value.slice.injEq,Option.some.injEq,Addr.mk.injEq]at e1
    obtain⟨⟨rfl,rfl,_⟩,rfl,rfl⟩:=e1
    rw[Nat.mul_one]
    obtain⟨ds,hds⟩:=zkt ((xs.drop a).take m) fun c hc=>g4 c (List.mem_of_mem_drop (List.mem_of_mem_take hc))
    have hdl:ds.length=m:=by
     have:=congrArg List.length hds
     rw[List.length_map,List.length_take,List.length_drop]at this;omega
    have hH:Sort.Holds ze3 w b' (o'+a) ds.toArray:=holds_of k1 k2 fun j x hx=>by
     have hj:((xs.drop a).take m)[j]?=some (ze3 x):=by rw[←hds,List.getElem?_map];simp at hx;rw[hx];rfl
     rw[List.getElem?_take]at hj
     split at hj
     ·rw[List.getElem?_drop]at hj
      rw[Nat.add_assoc];exact k4 _ _ hj
     ·cases hj
    have hcall:=AnyE.slices_Reverse zkr ze3 zgV b' (o'+a) c' ds w hH (by omega)
    rw[hdl]at hcall
    refine hcall.mono ?_
    rintro e w' ⟨rfl,q,rfl⟩
    refine fin rfl (fun k hk hne=>zau ze3 _ b' _ _ fun e=>hne (by rw[g1,e];rfl)) (by rw[vr];exact Nat.le_refl _) rfl rfl rfl (.inr ⟨b',o',_,el,fz,rfl,zbO ze3 (Sort.ahead w q) b' _ _ k1,by rw[yZ];exact k2,by rw[yZ];exact k3,fun j u hj=>?_⟩)
    have hjl:=(List.getElem?_eq_some_iff.1 hj).1
    rw[zf4 (by omega)]at hj
    split at hj
    ·rename_i hc
     have hd:ds.reverse[j - a]?=ds[m - 1 - (j - a)]?:=by rw[List.getElem?_reverse (by omega),hdl]
     have hx:(ds.map ze3)[m - 1 - (j - a)]?=some u:=by
      rw[hds,List.getElem?_take,if_pos (by omega),List.getElem?_drop];exact hj
     rw[List.getElem?_map,Option.map_eq_some_iff]at hx
     obtain⟨d,hd2,rfl⟩:=hx
     have:=jH ze3 (o'+a) ds.reverse.toArray cs (j:=j - a) (x:=d) (by rw[List.getElem?_toArray,hd];exact hd2) (by omega)
     rw[show o'+a+(j - a)=o'+j by omega]at this
     exact this
    ·rename_i hc
     have h5:=k4 j u hj
     unfold Sort.putCells
     rw[Array.getElem?_mapIdx,h5,Option.map_some,if_neg (by simp only[List.size_toArray,List.length_reverse];omega)]
 | [],hx=>simp[RepSs]at hx
 |_::_::_,hx=>simp[RepSs]at hx
end Hw.Fr.Md
namespace Hw.Fr.Md
open Go Go.Proofs Go.Shelf Go.RowKit Go.Lib Hw.M
abbrev zlY(xs:List Value)(i:Nat)(v:Value):List Value:=xs.take i++v::xs.drop i
set_option maxHeartbeats 4000000 in
set_option maxRecDepth 100000 in
theorem zkv(a:Option Addr)(n c vb vc:Nat)(v v':Value)(w w':World)(hnc:n≤c)(hc63:c≤9223372036854775807)
 (hrun: ∀ty,(Builtin.append_ #[48,48] ty #[.slice a n c,.slice (some ⟨vb,0,none⟩) 1 vc]).run Tryz.prog w= .ok v' w'):
 Calls Tryz.prog 135 #[.slice a n c,.int .i64 n,.slice (some ⟨vb,0,none⟩) 1 vc] w fun e w2=>e= .returned v'∧w2=w':=by
 have t3:=Tryz.underlying3;have a3:=Tryz.isAgg3;have z3:=Tryz.sizeOf3;have v3:=Tryz.zeroValue3
 have t4:=Tryz.underlying4;have a4:=Tryz.isAgg4;have z4:=Tryz.sizeOf4;have v4:=Tryz.zeroValue4
 have t22:=Tryz.underlying48;have a22:=Tryz.isAgg48;have z22:=Tryz.sizeOf48;have v22:=Tryz.zeroValue48
 have u3:=run_underlying Tryz.underlying3;have u4:=run_underlying Tryz.underlying4;have u22:=run_underlying Tryz.underlying48
 have mixed:Tryz.prog.follows .mixedOrders=true:=by kernel_rfl
 go_enter Tryz.func135,Tryz.ntmps135
 cases a with
 |none=>
  go_wp2_with (at_builtin;refine Lib.wpList_append_run _ rfl _ _ _ _ rfl _ _ rfl rfl _ _ (hrun _) ?_)
  all_goals (go_ret;exact⟨rfl,rfl⟩)
 |some ad=>
  obtain⟨ab,ao,asp⟩:=ad
  go_wp2_with (at_builtin;refine Lib.wpList_append_run _ rfl _ _ _ _ rfl _ _ rfl rfl _ _ (hrun _) ?_)
  all_goals (go_ret;exact⟨rfl,rfl⟩)
set_option maxHeartbeats 4000000 in
set_option maxRecDepth 100000 in
theorem zkw(b off n c i vb vc:Nat)(xs:List Value)(v:Value)(w:World)(hi:i<n)(hroom:n+1≤c)(hc63:c≤9223372036854775807)(hvb:vb≠b)(hcl:xs.length=n)
 (hcs: ∀(j:Nat) u,xs[j]?=some u→w.cell? ⟨b,off+j,none⟩=some u) (hsp: ∀j,j<n+1→(w.cell? ⟨b,off+j,none⟩).isSome=true) (hfz: ∀j,j<n+1→w.frozen? ⟨b,off+j,none⟩=false)
 (hv:w.cell? ⟨vb,0,none⟩=some v) (h1c: ∀u∈xs,u.oneCell'=true) (h1v:v.oneCell'=true)
 (tA tB:TypeId) (kA kB:Nat) (hsa:w.shape? vb=some (tA,kA)) (hsb:w.shape? b=some (tB,kB)) (hkB:kB≠0) (hfa:w.frozen? ⟨vb,0,none⟩=false) (hfe:w.frozen? ⟨vb,kA,none⟩=false):
 Calls Tryz.prog 135 #[.slice (some ⟨b,off,none⟩) n c,.int .i64 i,.slice (some ⟨vb,0,none⟩) 1 vc] w fun e w'=>
  e= .returned (.slice (some ⟨b,off,none⟩) (n+1) c)∧w'=(w.drew.setCells b (off+(i+1)) (xs.drop i)).setCells b (off+i) [v]:=by
 have t3:=Tryz.underlying3;have a3:=Tryz.isAgg3;have z3:=Tryz.sizeOf3;have v3:=Tryz.zeroValue3
 have t4:=Tryz.underlying4;have a4:=Tryz.isAgg4;have z4:=Tryz.sizeOf4;have v4:=Tryz.zeroValue4
 have t22:=Tryz.underlying48;have a22:=Tryz.isAgg48;have z22:=Tryz.sizeOf48;have v22:=Tryz.zeroValue48
 have u3:=run_underlying Tryz.underlying3;have u4:=run_underlying Tryz.underlying4;have u22:=run_underlying Tryz.underlying48
 have mixed:Tryz.prog.follows .mixedOrders=true:=by kernel_rfl
 obtain⟨i0,hi0,hz1,_,_⟩:=info_sl
 have hsz:(Tryz.prog.info? 31).map (·.size)=some 1:=by rw[hi0,←hz1];rfl
 have hn1: ¬((i:Int)=(n:Int)):=by omega
 have hov: ∀lb cb,(callFunc 158 #[.slice (some ⟨vb,0,none⟩) 1 vc,.slice (some ⟨b,off+(i+1),none⟩) lb cb]).run Tryz.prog w= .ok (.value (.bool false)) w:=fun lb cb=>by
  rw[run_callFunc_extern Tryz.func158 (by kernel_rfl) (by kernel_rfl) (by kernel_rfl) (e:=Extern.SlicesOverlaps.overlaps #[48,48] #[4]) (by kernel_rfl),
   Lib.run_overlaps_apart w 48 4 31 Tryz.underlying48 1 Tryz.sizeOf31 ⟨vb,0,none⟩ ⟨b,off+(i+1),none⟩ 1 vc lb cb hvb tA tB kA kB hsa hsb hkB hfa hfe]
  rfl
 have hdl:(xs.drop i).length=n - i:=by rw[List.length_drop,hcl]
 have hb1:(0:Int)≤(i:Int)+1:=by omega
 have hin:i≤n:=by omega
 have htn:((i:Int)+1).toNat=i+1:=by omega
 have hwr:IntKind.i64.wrap ((i:Int)+1)=(i:Int)+1:=by rw[IntKind.wrap_i64];omega
 have hb2: ¬(c=i+1):=by omega
 have hb3:(i:Int)≤(n:Int)+1:=by omega
 have hb4: ¬(c=i):=by omega
 have hcp1: ∀ty dc sc,(Builtin.copy_ #[48,48] ty #[.slice (some ⟨b,off+(i+1),none⟩) (n - i) dc,.slice (some ⟨b,off+i,none⟩) (n+1 - i) sc]).run Tryz.prog w.drew= .ok (goInt (xs.drop i).length) (w.drew.setCells b (off+(i+1)) (xs.drop i)):=fun ty dc sc=>
  run_copy_cells w.drew _ _ ty 31 b (off+(i+1)) (n - i) dc ⟨b,off+i,none⟩ (n+1 - i) sc (xs.drop i) Tryz.underlying48 hsz (by rw[hdl];simp only[Nat.min_def];split<;>omega)
   (fun j u hj=>by rw[Addr.add_lit,Nat.add_assoc];exact hcs (i+j) u (by rwa [List.getElem?_drop]at hj))
   (fun j hj=>by rw[Nat.add_assoc];exact hsp _ (by omega)) (fun j hj=>by rw[Nat.add_assoc];exact hfz _ (by omega)) (fun u hu=>h1c u (List.mem_of_mem_drop hu))
 obtain⟨W1,hW1⟩: ∃W1,W1=w.drew.setCells b (off+(i+1)) (xs.drop i):=⟨_,rfl⟩
 have hsp1: ∀k,k<n+1→(W1.cell? ⟨b,off+k,none⟩).isSome=true:=fun k hk=>by
  rw[hW1]
  exact isSome_setCells b _ _ _ (fun j hj=>by rw[Nat.add_assoc];exact hsp _ (by omega)) _ (hsp k hk)
 have hcp2: ∀(W:World),(∀x,W.cell? x=W1.cell? x)→(∀x,W.frozen? x=W1.frozen? x)→ ∀ty dc,(Builtin.copy_ #[48,48] ty #[.slice (some ⟨b,off+i,none⟩) (n+1 - i) dc,.slice (some ⟨vb,0,none⟩) 1 vc]).run Tryz.prog W= .ok (goInt [v].length) (W.setCells b (off+i) [v]):=fun W hWc hWf ty dc=>
  run_copy_cells W _ _ ty 31 b (off+i) (n+1 - i) dc ⟨vb,0,none⟩ 1 vc [v] Tryz.underlying48 hsz (by simp only[List.length_singleton,Nat.min_def];split<;>omega)
   (fun j u hj=>by
     rw[Addr.add_lit,hWc,hW1,World.cell?_setCells_out b _ _ _ _ (fun h _=>absurd h hvb)]
     match j,hj with
     |0,hj=>simp only[List.getElem?_cons_zero,Option.some.injEq]at hj;subst hj;exact hv)
   (fun j hj=>by rw[hWc,Nat.add_assoc];exact hsp1 _ (by simp at hj;omega)) (fun j hj=>by rw[hWf,hW1,World.frozen?_setCells,Nat.add_assoc];exact hfz _ (by simp at hj;omega)) (fun u hu=>by rw[List.mem_singleton.1 hu];exact h1v)
 rw[←hW1]at hcp1
 go_enter Tryz.func135,Tryz.ntmps135
 go_wp2_with (simp only[hov])
 go_region_law_o (refine step_copy_runI rfl _ _ 48 48 rfl _ _ (by simp[Act.eval,Act.put]) (by simp[Act.eval,Act.put]) (hcp1 _ _ _) ?_)
 go_wp2_with (at_builtin;refine wpList_copy_runI _ rfl _ _ 48 48 rfl _ _ rfl rfl (hcp2 _ (fun _=>rfl) (fun _=>rfl) _ _) ?_)
 go_ret
 first|exact⟨rfl,rfl⟩|exact⟨rfl,by rw[hW1]⟩
set_option maxHeartbeats 4000000 in
set_option maxRecDepth 100000 in
theorem znh(b off n c i vb vc:Nat)(xs:List Value)(v:Value)(w:World)(hi:i<n)(hnc:n≤c)(hroom:c<n+1)(hbig:(n+1)*24≤140737488355328)(hcl:xs.length=n)
 (hcs: ∀(j:Nat) u,xs[j]?=some u→w.cell? ⟨b,off+j,none⟩=some u) (hv:w.cell? ⟨vb,0,none⟩=some v) (h1c: ∀u∈xs,u.oneCell'=true) (h1v:v.oneCell'=true):
 Calls Tryz.prog 135 #[.slice (some ⟨b,off,none⟩) n c,.int .i64 i,.slice (some ⟨vb,0,none⟩) 1 vc] w fun e w'=>
  e= .returned (.slice (some ⟨w.heap.size,0,none⟩) (n+1) (grownCap w (n+1) c 31))∧
  w'=(((w.alloc (.cells ((xs.take i).toArray++Builtin.zeroCells (Value.slice none 0 0).cells (n+1 - i)++Builtin.zeroCells (Value.slice none 0 0).cells (grownCap w (n+1) c 31 - (n+1))) 31)).drew.setCells w.heap.size i [v]).drew).setCells w.heap.size (i+1) (xs.drop i):=by
 have t3:=Tryz.underlying3;have a3:=Tryz.isAgg3;have z3:=Tryz.sizeOf3;have v3:=Tryz.zeroValue3
 have t4:=Tryz.underlying4;have a4:=Tryz.isAgg4;have z4:=Tryz.sizeOf4;have v4:=Tryz.zeroValue4
 have t22:=Tryz.underlying48;have a22:=Tryz.isAgg48;have z22:=Tryz.sizeOf48;have v22:=Tryz.zeroValue48
 have u3:=run_underlying Tryz.underlying3;have u4:=run_underlying Tryz.underlying4;have u22:=run_underlying Tryz.underlying48
 have mixed:Tryz.prog.follows .mixedOrders=true:=by kernel_rfl
 obtain⟨i0,hi0,hzs,hz0,hzb⟩:=info_sl
 have hn1: ¬((i:Int)=(n:Int)):=by omega
 have hn2:(c:Int)<(n:Int)+1:=by omega
 have hsz:(Tryz.prog.info? 31).map (·.size)=some 1:=by rw[hi0,←hzs];rfl
 have hbw:b<w.heap.size:=block_lt_of_cell (hcs 0 _ (List.getElem?_eq_getElem (by omega)))
 have hvw:vb<w.heap.size:=block_lt_of_cell hv
 have hkk:(n:Int)+1 - (i:Int)=((n+1 - i:Nat):Int):=by omega
 have hik:i+(n+1 - i)=n+1:=by omega
 have hold:(Builtin.firstCells i0.size i (.slice (some ⟨b,off,none⟩) i c)).run Tryz.prog w.drew= .ok (xs.take i).toArray w.drew:=by
  rw[hzs]
  exact run_firstCells_some w.drew 1 i ⟨b,off,none⟩ i c (xs.take i) (by rw[List.length_take];omega) (fun j u hj=>by
   rw[Addr.add_lit]
   rw[List.getElem?_take]at hj
   split at hj
   ·exact hcs j u hj
   ·cases hj)
 have hrz: ∀ty,(Builtin.append_ #[48,3] ty #[.slice (some ⟨b,off,none⟩) i c,.int .i64 ((n:Int)+1 - (i:Int))]).run Tryz.prog w=
  .ok (.slice (some ⟨w.heap.size,0,none⟩) (n+1) (grownCap w (n+1) c 31)) (w.drew.alloc (.cells ((xs.take i).toArray++Builtin.zeroCells (Value.slice none 0 0).cells (n+1 - i)++Builtin.zeroCells (Value.slice none 0 0).cells (grownCap w (n+1) c 31 - (n+1))) 31)):=fun ty=>by
  have h:=Lib.run_append_grow_zeros w 48 3 ty 31 i0 _ .i64 .i64 Tryz.underlying48 Tryz.underlying3 hi0 hz0 (some ⟨b,off,none⟩) i c (xs.take i) hold (n+1 - i) (by omega) (by omega) (by omega) (by omega) (by rw[hzb];omega) (by rw[hzb,hik];exact growslice_fits hroom hbig)
  rw[hik]at h
  rw[hkk]
  exact h
 obtain⟨G,hG⟩: ∃G,G=grownCap w (n+1) c 31:=⟨_,rfl⟩
 obtain⟨ROW,hROW⟩: ∃ROW:Array Value,ROW=(xs.take i).toArray++Builtin.zeroCells (Value.slice none 0 0).cells (n+1 - i)++Builtin.zeroCells (Value.slice none 0 0).cells (G - (n+1)):=⟨_,rfl⟩
 rw[←hG]at hrz⊢
 rw[←hROW]at hrz⊢
 have hRl:n+1≤ROW.size:=by
  rw[hROW]
  simp[Builtin.zeroCells,Value.cells]
  omega
 obtain⟨W1,hW1⟩: ∃W1,W1=w.drew.alloc (.cells ROW 31):=⟨_,rfl⟩
 rw[←hW1]at hrz
 have hN: ∀j,j<n+1→(W1.cell? ⟨w.heap.size,j,none⟩).isSome=true:=fun j hj=>by
  rw[hW1,World.cell?_alloc_at (w:=w.drew) ROW _ w.heap.size j rfl,Array.getElem?_eq_getElem (by omega)];rfl
 have hNf: ∀j,W1.frozen? ⟨w.heap.size,j,none⟩=false:=fun j=>by rw[hW1];exact World.frozen?_alloc_at (w:=w.drew) ROW _ w.heap.size j rfl
 have hOb: ∀j u,w.cell? ⟨b,j,none⟩=some u→W1.cell? ⟨b,j,none⟩=some u:=fun j u h=>by rw[hW1,World.cell?_alloc_past (w:=w.drew) _ b j hbw];exact h
 have hOv: ∀j u,w.cell? ⟨vb,j,none⟩=some u→W1.cell? ⟨vb,j,none⟩=some u:=fun j u h=>by rw[hW1,World.cell?_alloc_past (w:=w.drew) _ vb j hvw];exact h
 have hcpA: ∀(W:World),(∀x,W.cell? x=W1.cell? x)→(∀x,W.frozen? x=W1.frozen? x)→ ∀ty dc,(Builtin.copy_ #[48,48] ty #[.slice (some ⟨w.heap.size,i,none⟩) (n+1 - i) dc,.slice (some ⟨vb,0,none⟩) 1 vc]).run Tryz.prog W= .ok (goInt [v].length) (W.setCells w.heap.size i [v]):=fun W hWc hWf ty dc=>
  run_copy_cells W _ _ ty 31 w.heap.size i (n+1 - i) dc ⟨vb,0,none⟩ 1 vc [v] Tryz.underlying48 hsz (by simp only[List.length_singleton,Nat.min_def];split<;>omega)
   (fun j u hj=>by
     rw[Addr.add_lit,hWc]
     match j,hj with
     |0,hj=>simp only[List.getElem?_cons_zero,Option.some.injEq]at hj;subst hj;exact hOv _ _ hv)
   (fun j hj=>by rw[hWc];exact hN _ (by simp at hj;omega)) (fun j hj=>by rw[hWf];exact hNf _) (fun u hu=>by rw[List.mem_singleton.1 hu];exact h1v)
 have hGn:n+1≤G:=by rw[hG];exact grownCap_ge w _ _ _
 have hG63:G≤9223372036854775807:=by
  have:=grownCap_le_maxLen w (n+1) c 31 (by unfold maxLen;omega)
  rw[←hG]at this
  unfold maxLen at this
  omega
 have hGi: ¬(G=i):=by omega
 have hGim: ¬(G=i+1):=by omega
 have hci: ¬(c=i):=by omega
 have hbN:b≠w.heap.size:=by omega
 have hdl:(xs.drop i).length=n - i:=by rw[List.length_drop,hcl]
 have hcpB: ∀(W:World),(∀x,W.cell? x=(W1.setCells w.heap.size i [v]).cell? x)→(∀x,W.frozen? x=(W1.setCells w.heap.size i [v]).frozen? x)→ ∀ty dc sc,(Builtin.copy_ #[48,48] ty #[.slice (some ⟨w.heap.size,i+1,none⟩) (n+1 - (i+1)) dc,.slice (some ⟨b,off+i,none⟩) (n - i) sc]).run Tryz.prog W= .ok (goInt (xs.drop i).length) (W.setCells w.heap.size (i+1) (xs.drop i)):=fun W hWc hWf ty dc sc=>
  run_copy_cells W _ _ ty 31 w.heap.size (i+1) (n+1 - (i+1)) dc ⟨b,off+i,none⟩ (n - i) sc (xs.drop i) Tryz.underlying48 hsz (by rw[hdl];simp only[Nat.min_def];split<;>omega)
   (fun j u hj=>by
     rw[Addr.add_lit,hWc,World.cell?_setCells_out _ _ _ _ _ (fun h _=>absurd h hbN),Nat.add_assoc]
     exact hOb _ u (hcs (i+j) u (by rwa [List.getElem?_drop]at hj)))
   (fun j hj=>by rw[hWc];exact isSome_setCells _ _ _ _ (fun t ht=>hN _ (by simp at ht;omega)) _ (hN _ (by omega)))
   (fun j hj=>by rw[hWf,World.frozen?_setCells];exact hNf _) (fun u hu=>h1c u (List.mem_of_mem_drop hu))
 subst hW1
 have hE1: ∀x,((w.alloc (.cells ROW 31)).drew).cell? x=(w.drew.alloc (.cells ROW 31)).cell? x:=fun x=>rfl
 have hE2: ∀x,((w.alloc (.cells ROW 31)).drew).frozen? x=(w.drew.alloc (.cells ROW 31)).frozen? x:=fun x=>rfl
 have hF1: ∀x,(((w.alloc (.cells ROW 31)).drew.setCells w.heap.size i [v]).drew).cell? x=((w.drew.alloc (.cells ROW 31)).setCells w.heap.size i [v]).cell? x:=fun x=>rfl
 have hF2: ∀x,(((w.alloc (.cells ROW 31)).drew.setCells w.heap.size i [v]).drew).frozen? x=((w.drew.alloc (.cells ROW 31)).setCells w.heap.size i [v]).frozen? x:=fun x=>rfl
 have hb1:(0:Int)≤(i:Int)+1:=by omega
 have hin:i≤n:=by omega
 have htn:((i:Int)+1).toNat=i+1:=by omega
 have hwr:IntKind.i64.wrap ((i:Int)+1)=(i:Int)+1:=by rw[IntKind.wrap_i64];omega
 have hb3:(i:Int)≤(n:Int):=by omega
 clear hkk hik hold hROW hG hRl
 go_enter Tryz.func135,Tryz.ntmps135
 go_wp2_with (first
  |(at_builtin;refine Lib.wpList_append_run _ rfl _ _ _ _ rfl _ _ rfl rfl _ _ (hrz _) ?_)
  |(at_builtin;refine wpList_copy_runI _ rfl _ _ 48 48 rfl _ _ rfl rfl (hcpA _ hE1 hE2 _ _) ?_)
  |(at_builtin;refine wpList_copy_runI _ rfl _ _ 48 48 rfl _ _ rfl rfl (hcpB _ (fun _=>rfl) (fun _=>rfl) _ _ _) ?_))
 go_region_law_o (refine step_copy_runI rfl _ _ 48 48 rfl (.slice (some ⟨w.heap.size,i+1,none⟩) (n+1 - (i+1)) (G - (i+1))) (.slice (some ⟨b,off+i,none⟩) (n - i) (c - i)) (by simp[Act.eval,Act.put]) (by simp[Act.eval,Act.put]) (hcpB _ hF1 hF2 3 (G - (i+1)) (c - i)) ?_)
 go_wp2
 go_ret
 exact⟨rfl,rfl⟩
end Hw.Fr.Md
namespace Hw.Fr.Md
open Go Go.Proofs Go.Shelf Go.RowKit Hw.M
theorem zgX{xs:List Value}{i:Nat}{v:Value}(h:i≤xs.length):(zlY xs i v).length=xs.length+1:=by simp only[zlY,List.length_append,List.length_take,List.length_cons,List.length_drop];omega
theorem zf5{xs:List Value}{i:Nat}{v:Value}(h:i≤xs.length){j:Nat}{u:Value}(hj:(zlY xs i v)[j]?=some u):(j<i∧xs[j]?=some u)∨(j=i∧u=v)∨(i<j∧xs[j - 1]?=some u):=by
 have htl:(xs.take i).length=i:=by rw[List.length_take];omega
 unfold zlY at hj
 rcases Nat.lt_or_ge j i with h1|h1
 ·rw[List.getElem?_append_left (by omega),List.getElem?_take,if_pos h1]at hj
  exact .inl ⟨h1,hj⟩
 ·rw[List.getElem?_append_right (by omega),htl]at hj
  rcases Nat.eq_or_lt_of_le h1 with h2|h2
  ·subst h2
   rw[Nat.sub_self,List.getElem?_cons_zero]at hj
   exact .inr (.inl ⟨rfl,(Option.some.inj hj).symm⟩)
  ·rw[show j - i=(j - i - 1)+1 by omega,List.getElem?_cons_succ,List.getElem?_drop,show i+(j - i - 1)=j - 1 by omega]at hj
   exact .inr (.inr ⟨h2,hj⟩)
theorem zpR{w:World}{a:Option Addr}{cap vb vc i:Nat}{xs:List Value}{v:Value}(hi:i≤xs.length)(hl:xs.length≤1000000)(hnc:xs.length≤cap)(hc63:cap≤9223372036854775807)(h1c: ∀u∈xs,u.oneCell'=true)(h1v:v.oneCell'=true)
 (hrow:(a=none∧cap=0)∨ ∃(b o:Nat) (cs:Array Value) (el:TypeId) (fz:Nat×Nat),a=some ⟨b,o,none⟩∧w.heap[b]?=some (.cells cs el fz)∧xa fz cs.size∧o+cap≤cs.size∧ ∀(j:Nat) u,xs[j]?=some u→cs[o+j]?=some u)
 {elv:TypeId} (hbox:w.heap[vb]?=some (.cells #[v] elv (0,0))) (hne: ∀b,blk (.slice a xs.length cap)=some b→vb≠b) (hvc:1≤vc):
 Calls Tryz.prog 135 #[.slice a xs.length cap,.int .i64 i,.slice (some ⟨vb,0,none⟩) 1 vc] w fun e w'=> ∃r,e= .returned r∧zf3 w w' (blk (.slice a xs.length cap)) (zlY xs i v) r:=by
 obtain⟨i0,hi0,hzs,hz0,hzb⟩:=info_sl
 have hv:w.cell? ⟨vb,0,none⟩=some v:=by simp[World.cell?,hbox]
 have hil:=zgX (v:=v) hi
 have hz1:(Value.slice none 0 0).cells.size=1:=rfl
 have hsrc:Src Tryz.prog 1 48 (.slice (some ⟨vb,0,none⟩) 1 vc) 1 [v] w:=Src.ofSlice w Tryz.underlying48 ⟨vb,0,none⟩ 1 vc [v] rfl (fun j u hj=>by
  match j,hj with
  |0,hj=>simp only[List.getElem?_cons_zero,Option.some.injEq]at hj;subst hj;exact hv) (fun u hu=>by rw[List.mem_singleton.1 hu];exact h1v)
 rcases Nat.eq_or_lt_of_le hi with rfl|hlt
 · -- at the end
   have hins:zlY xs xs.length v=xs++[v]:=by simp[zlY]
   rcases Nat.lt_or_ge cap (xs.length+1)with hroom|hroom
   ·have hold:(Builtin.firstCells i0.size xs.length (.slice a xs.length cap)).run Tryz.prog w.drew= .ok xs.toArray w.drew:=by
     rw[hzs]
     rcases hrow with⟨rfl,hc⟩|⟨b,o,cs,el,fz,rfl,k1,k2,k3,k4⟩
     ·have h0:xs=[]:=List.length_eq_zero_iff.1 (by omega)
      subst h0
      exact run_firstCells_none w.drew 1 0 0 cap
     ·exact run_firstCells_some w.drew 1 xs.length ⟨b,o,none⟩ xs.length cap xs (by omega) (fun j u hj=>by
       rw[Addr.add_lit]
       have k1':w.drew.heap[b]?=some (.cells cs el fz):=k1
       simp[World.cell?,k1',k4 j u hj])
    have hrun: ∀ty,(Builtin.append_ #[48,48] ty #[.slice a xs.length cap,.slice (some ⟨vb,0,none⟩) 1 vc]).run Tryz.prog w=_:=fun ty=>
     run_append_grow_src w 48 48 ty 31 i0 _ Tryz.underlying48 hi0 hz0 a xs.length cap xs hold _ 1 [v] (by rw[hzs];exact hsrc) hroom (by omega) (by rw[hzb];exact growslice_fits hroom (by omega))
    refine(zkv a xs.length cap vb vc v _ w _ hnc hc63 hrun).mono ?_
    rintro e w' ⟨he,rfl⟩
    have hcap:=grownCap_ge w (xs.length+1) cap 31
    have hmx:=grownCap_le_maxLen w (xs.length+1) cap 31 (by unfold maxLen;omega)
    unfold maxLen at hmx
    refine⟨_,he,w.heap.size,0,grownCap w (xs.length+1) cap 31,_,31,(0,0),by rw[hil],zW w.drew _,fun i _=>by simp,?_,by rw[hil];exact hcap,by omega,fun j u hj=>?_,.inl (Nat.le_refl _),fun k hk _=>yf w.drew _ k hk,by simp,rfl,rfl,rfl⟩
    ·simp only[Array.size_append,List.size_toArray,List.length_append,List.length_singleton,size_zeroCells,hz1]
     omega
    ·rw[hins]at hj
     have hjl:=(List.getElem?_eq_some_iff.1 hj).1
     rw[Nat.zero_add,Array.getElem?_append_left (by simp at hjl ⊢; omega)]
     simpa using hj
   ·rcases hrow with⟨rfl,hc⟩|⟨b,o,cs,el,fz,rfl,k1,k2,k3,k4⟩
    ·omega
    have hrun: ∀ty,(Builtin.append_ #[48,48] ty #[.slice (some ⟨b,o,none⟩) xs.length cap,.slice (some ⟨vb,0,none⟩) 1 vc]).run Tryz.prog w= .ok (.slice (some ⟨b,o,none⟩) (xs.length+1) cap) (w.setRow b (setAt cs.toList (o+xs.length) [v]).toArray):=fun ty=>by
     have hst:=yd (P:=Tryz.prog) b (o+xs.length*1) el fz [v] 0 cs w k1 k2 (by simp;omega) hsrc.one
     have hl:=hsrc.len w
     have hc:=hsrc.cells
     rw[Nat.mul_one]at hst
     simp[Builtin.append_,run_underlying Tryz.underlying48,Go.sizeOf,typeInfo,hi0,hzs,hl,hc,hroom,yt,hst]
    refine(zkv (some ⟨b,o,none⟩) xs.length cap vb vc v _ w _ hnc hc63 hrun).mono ?_
    rintro e w' ⟨he,rfl⟩
    have hsl:(setAt cs.toList (o+xs.length) [v]).length=cs.size:=by rw[zL _ _ _ (by simp;omega)];simp
    refine⟨_,he,b,o,cap,_,el,fz,by rw[hil],setRow_heap w b cs _ el fz k1,by simp only[List.size_toArray,hsl];exact k2,by simp only[List.size_toArray,hsl];exact k3,by rw[hil];exact hroom,hc63,fun j u hj=>?_,.inr rfl,fun k hk hne=>yp w b _ k fun e=>hne (by rw[e];rfl),by simp[World.setRow],rfl,rfl,rfl⟩
    simp only[List.getElem?_toArray]
    rw[yb _ _ _ _ (by simp;omega)]
    simp only[List.length_singleton]
    rcases zf5 hi hj with⟨h1,h2⟩|⟨rfl,rfl⟩|⟨h1,h2⟩
    ·rw[if_pos (by omega)];simpa using k4 j u h2
    ·rw[if_neg (by omega),if_pos (by omega),Nat.sub_self];rfl
    ·have:=(List.getElem?_eq_some_iff.1 h2).1;omega
 · -- within
   rcases hrow with⟨rfl,hc⟩|⟨b,o,cs,el,fz,rfl,k1,k2,k3,k4⟩
   ·omega
   have hcell: ∀(j:Nat) u,xs[j]?=some u→w.cell? ⟨b,o+j,none⟩=some u:=fun j u hj=>by simp[World.cell?,k1,k4 j u hj]
   have hvb:vb≠b:=hne b rfl
   have hdl:(xs.drop i).length=xs.length - i:=List.length_drop
   rcases Nat.lt_or_ge cap (xs.length+1)with hroom|hroom
   ·refine(znh b o xs.length cap i vb vc xs v w hlt hnc hroom (by omega) rfl hcell hv h1c h1v).mono ?_
    rintro e w' ⟨he,rfl⟩
    have hcap:=grownCap_ge w (xs.length+1) cap 31
    have hmx:=grownCap_le_maxLen w (xs.length+1) cap 31 (by unfold maxLen;omega)
    unfold maxLen at hmx
    generalize grownCap w (xs.length+1) cap 31=G at*
    have htk:(xs.take i).length=i:=by rw[List.length_take];omega
    generalize hcur:((xs.take i).toArray++Builtin.zeroCells (Value.slice none 0 0).cells (xs.length+1 - i)++Builtin.zeroCells (Value.slice none 0 0).cells (G - (xs.length+1)))=cur
    have hcs:cur.size=G:=by
     rw[←hcur];simp only[Array.size_append,List.size_toArray,htk,size_zeroCells,hz1,Nat.mul_one];omega
    have hcl: ∀j,j<i→cur[j]?=xs[j]?:=fun j hj=>by
     rw[←hcur,Array.getElem?_append_left (by simp only[Array.size_append,List.size_toArray,htk];omega),Array.getElem?_append_left (by simp only[List.size_toArray,htk];exact hj),List.getElem?_toArray,List.getElem?_take,if_pos hj]
    have w1:(w.alloc (.cells cur 31)).drew.heap[w.heap.size]?=some (.cells cur 31 (0,0)):=zW w _
    have r1:=yl w.heap.size _ (0,0) [v] i cur _ w1 (by rw[hcs];simp;omega)
    rw[r1]
    have hs1:(setAt cur.toList i [v]).length=G:=by rw[zL _ _ _ (by simp[hcs];omega)];simpa using hcs
    have w2:((w.alloc (.cells cur 31)).drew.setRow w.heap.size (setAt cur.toList i [v]).toArray).drew.heap[w.heap.size]?=some (.cells (setAt cur.toList i [v]).toArray 31 (0,0)):=setRow_heap _ _ cur _ _ _ w1
    have r2:=yl w.heap.size _ (0,0) (xs.drop i) (i+1) _ _ w2 (by simp only[List.size_toArray,hs1,hdl];omega)
    rw[r2]
    have hs2:(setAt (setAt cur.toList i [v]) (i+1) (xs.drop i)).length=G:=by rw[zL _ _ _ (by rw[hs1,hdl];omega)];exact hs1
    refine⟨_,he,w.heap.size,0,G,_,31,(0,0),by rw[hil],setRow_heap _ _ _ _ _ _ w2,fun i _=>by simp,by simp only[List.size_toArray,hs2];omega,by rw[hil];exact hcap,by omega,fun j u hj=>?_,.inl (Nat.le_refl _),fun k hk _=>?_,?_,rfl,rfl,rfl⟩
    ·simp only[List.getElem?_toArray,Nat.zero_add]
     rw[yb _ _ _ _ (by rw[hs1];omega),yb _ _ _ _ (by simp[hcs];omega)]
     simp only[List.length_singleton,hdl]
     rcases zf5 hi hj with⟨g1,g2⟩|⟨rfl,rfl⟩|⟨g1,g2⟩
     ·rw[if_pos (by omega),if_pos g1];rw[←hcl j g1]at g2;simpa using g2
     ·rw[if_pos (by omega),if_neg (by omega),if_pos (by omega),Nat.sub_self];rfl
     ·have:=(List.getElem?_eq_some_iff.1 g2).1
      rw[if_neg (by omega),if_pos (by omega),List.getElem?_drop,show i+(j - (i+1))=j - 1 by omega];exact g2
    ·rw[yp _ _ _ _ (by omega)]
     show((w.alloc (.cells cur 31)).drew.setRow w.heap.size (setAt cur.toList i [v]).toArray).heap[k]?=_
     rw[yp _ _ _ _ (by omega)]
     exact yf w _ k hk
    ·simp[World.setRow]
   ·refine(zkw b o xs.length cap i vb vc xs v w hlt hroom hc63 hvb rfl hcell (fun j hj=>by simp[World.cell?,k1];omega) (fun j hj=>by simp only[World.frozen?,k1];exact k2 _ (by omega)) hv h1c h1v elv el 1 cs.size
     (by simp[World.shape?,hbox]) (by simp[World.shape?,k1]) (by omega) (by simp[World.frozen?,hbox]) (by simp[World.frozen?,hbox])).mono ?_
    rintro e w' ⟨he,rfl⟩
    have w1:w.drew.heap[b]?=some (.cells cs el fz):=k1
    have r1:=yl b _ fz (xs.drop i) (o+(i+1)) cs _ w1 (by rw[hdl];omega)
    rw[r1]
    have hs1:(setAt cs.toList (o+(i+1)) (xs.drop i)).length=cs.size:=by rw[zL _ _ _ (by rw[hdl];simp;omega)];simp
    have w2:=setRow_heap w.drew b cs (setAt cs.toList (o+(i+1)) (xs.drop i)).toArray _ _ w1
    have r2:=yl b _ fz [v] (o+i) _ _ w2 (by simp only[List.size_toArray,hs1,List.length_singleton];omega)
    rw[r2]
    have hs2:(setAt (setAt cs.toList (o+(i+1)) (xs.drop i)) (o+i) [v]).length=cs.size:=by rw[zL _ _ _ (by rw[hs1,List.length_singleton];omega)];exact hs1
    refine⟨_,he,b,o,cap,_,el,fz,by rw[hil],setRow_heap _ b _ _ _ _ w2,by simp only[List.size_toArray,hs2];exact k2,by simp only[List.size_toArray,hs2];exact k3,by rw[hil];exact hroom,hc63,fun j u hj=>?_,.inr rfl,fun k hk hne=>?_,by simp[World.setRow],rfl,rfl,rfl⟩
    ·simp only[List.getElem?_toArray]
     rw[yb _ _ _ _ (by rw[hs1];omega),yb _ _ _ _ (by simp;omega)]
     simp only[List.length_singleton,hdl]
     rcases zf5 hi hj with⟨g1,g2⟩|⟨rfl,rfl⟩|⟨g1,g2⟩
     ·rw[if_pos (by omega),if_pos (by omega)];simpa using k4 j u g2
     ·rw[if_neg (by omega),if_pos (by omega),Nat.sub_self];rfl
     ·have:=(List.getElem?_eq_some_iff.1 g2).1
      rw[if_neg (by omega),if_neg (by omega),if_neg (by omega),if_pos (by omega),List.getElem?_drop,show i+(o+j - (o+(i+1)))=j - 1 by omega];exact g2
    ·have hkb:k≠b:=fun e=>hne (by rw[e];rfl)
     rw[yp _ _ _ _ hkb,yp _ _ _ _ hkb];rfl
end Hw.Fr.Md
namespace Hw.Fr.Md
open Go Go.Proofs Go.Shelf Hw.M
theorem zkx{α:Type}{l:List α}{i:Nat}{x:α}(hi:i≤l.length)(j:Nat):(l.take i++x::l.drop i)[j]?=if j<i then l[j]? else if j=i then some x else l[j - 1]?:=by
 have htl:(l.take i).length=i:=by rw[List.length_take];omega
 by_cases h1:j<i
 ·rw[if_pos h1,List.getElem?_append_left (by omega),List.getElem?_take,if_pos h1]
 ·rw[if_neg h1,List.getElem?_append_right (by omega),htl]
  by_cases h2:j=i
  ·subst h2;rw[if_pos rfl,Nat.sub_self];rfl
  ·rw[if_neg h2,show j - i=(j - i - 1)+1 by omega,List.getElem?_cons_succ,List.getElem?_drop,show i+(j - i - 1)=j - 1 by omega]
theorem ja{R:Rws}{i:Nat}{x:Rw}(h:i≤R.length):(zaW R i x).length=R.length+1:=by simp only[zaW,List.length_append,List.length_take,List.length_cons,List.length_drop];omega
theorem zni(R:Rws)(i:Nat)(x:Rw):((zaW R i x).map fun r=>r.map zS)=(R.map fun r=>r.map zS).take i++x.map zS::(R.map fun r=>r.map zS).drop i:=by
 simp only[zaW,List.map_append,List.map_cons,List.map_take,List.map_drop]
theorem zky(R:Rws)(i:Nat)(x:Rw)(hi:i≤R.length)(hR:R.length≤1000000):
 zj Tryz.prog 135 [.one (.ar 0),I i,.one (.bs 4 0 1)] [(0,vg 1 R.length),(1,bg R),(4,.box [.ar 5]),(5,.arr 1 (x.map zS))] (.one (.ar 2)) [(2,vg 3 (R.length+1)),(3,bg (zaW R i x))]:=by
 refine⟨⟨_,Tryz.func135,by kernel_rfl,by kernel_rfl⟩,fun M ρ w vs hx hT hI hG=>?_⟩
 match vs,hx with
 | [x0,x1,x2],hx=>
   simp only[RepSs,RepS,RepV,RepPV]at hx
   obtain⟨⟨rfl,_⟩,⟨rfl,_⟩,⟨vb,vc,hb1,rfl,hvc⟩,_⟩:=hx
   have hv:=hT.res 0 (vg 1 R.length) rfl
   rw[zks]at hv
   obtain⟨xs,a,cap,h1,h2,h3,h4,g1,g2,g3,g4,g5⟩:=zav hv (hT.res 1 (bg R) rfl)
   rw[List.length_map]at h2
   have h0: ∀q,blk (ρ 0)=some q→Bk (ρ 0) q:=fun q hq=>by rw[g1]at hq ⊢; exact hq
   obtain⟨vb',cs2,el2,f1,f2,f3⟩:=hT.res 4 (.box [.ar 5]) rfl
   rw[hb1]at f1
   simp only[Value.pointer.injEq,Option.some.injEq,Addr.mk.injEq]at f1
   obtain⟨rfl,_⟩:=f1
   match cs2,f3 with
   | [u],f3=>
   simp only[RepVs,RepV]at f3
   obtain⟨⟨rfl,hu1⟩,_⟩:=f3
   have hA5:x7 M w (ρ 5) 1 (x.map zS):=hT.res 5 (.arr 1 (x.map zS)) rfl
   have hB5: ∀b,blk (ρ 5)=some b→Bk (ρ 5) b:=fun b hb=>by
    obtain⟨a5,c5,e5,_⟩:=hA5
    rw[e5]at hb ⊢; exact hb
   have hxl:=zku (by rw[List.length_map];exact h2) h3
   have own1: ∀c∈xs,∀b,blk c=some b→b<w.heap.size∧blk (ρ 0)≠some b∧zb8 (tb [(0,vg 1 R.length),(1,bg R),(4,.box [.ar 5]),(5,.arr 1 (x.map zS))]) ρ b:=fun c hc b hb=>by
    have hB:Bk (ρ 1) b:=by rw[h1];exact⟨c,by simpa using hc,hb⟩
    exact⟨hxl c hc b hb,fun e=>hT.dis 0 1 _ _ b rfl rfl (by decide) (h0 b e) hB,1,_,rfl,hB⟩
   have own5: ∀b,blk (ρ 5)=some b→b<w.heap.size∧blk (ρ 0)≠some b∧zb8 (tb [(0,vg 1 R.length),(1,bg R),(4,.box [.ar 5]),(5,.arr 1 (x.map zS))]) ρ b:=fun b hb=>
    ⟨hA5.lt hb,fun e=>hT.dis 0 5 _ _ b rfl rfl (by decide) (h0 b e) (hB5 b hb),5,_,rfl,hB5 b hb⟩
   have hcall:=zpR (w:=w) (a:=a) (cap:=cap) (vb:=vb) (vc:=vc) (i:=i) (xs:=xs) (v:=ρ 5) (by omega) (by omega) g2 g3 g4 hu1 g5 f2 (fun b hb e=>hT.dis 0 4 _ _ b rfl rfl (by decide) (h0 b (by rw[g1];exact hb)) (by rw[hb1,e];rfl)) hvc
   rw[←g1]at hcall
   refine hcall.mono ?_
   rintro e w' ⟨r,rfl,hD⟩
   have hperm:(zlY xs i (ρ 5)).Perm (ρ 5::xs):=List.perm_middle.trans (by rw[List.take_append_drop])
   have hmem: ∀c∈zlY xs i (ρ 5),c=ρ 5∨c∈xs:=fun c hc=>List.mem_cons.1 (hperm.mem_iff.1 hc)
   have hap:jh (zlY xs i (ρ 5)):=(h4.cons fun c hc b hb hb'=>(hT.dis 1 5 _ _ b rfl rfl (by decide) (by rw[h1];exact⟨c,by simpa using hc,hb⟩) (hB5 b hb'))).perm hperm.symm
   have:=zgU (io:=2) (ib:=3) (e:=1) (L:=(zaW R i x).map fun r=>r.map zS) rfl hT hI (by simp[RL.ids]) (by simp[RL.ids]) (by decide) hD h0
    (by rw[List.length_map,ja hi,zgX (by omega)];omega) (fun c hc=>(hmem c hc).elim (fun e=>by rw[e];exact hu1) (g4 c))
    (fun j rs hj=>by
      rw[zni,zkx (by rw[List.length_map];exact hi)]at hj
      have: ∃c,(xs.take i++ρ 5::xs.drop i)[j]?=some c∧x7 M w c 1 rs:=by
       rw[zkx (by omega)]
       by_cases c1:j<i
       ·rw[if_pos c1]at hj ⊢; exact h3 _ rs hj
       ·rw[if_neg c1]at hj⊢
        by_cases c2:j=i
        ·rw[if_pos c2]at hj⊢
         rw[←Option.some.inj hj];exact⟨_,rfl,hA5⟩
        ·rw[if_neg c2]at hj ⊢; exact h3 _ rs hj
      exact this)
    hap (fun c hc b hb=>(hmem c hc).elim (fun e=>own5 b (by rw[←e];exact hb)) fun h=>own1 c h b hb)
   rw[List.length_map,ja hi]at this
   exact⟨_,M,_,rfl,this⟩
   | [],f3=>simp[RepVs]at f3
   |_::_::_,f3=>simp[RepVs]at f3
 | [],hx=>simp[RepSs]at hx
 | [_],hx=>simp[RepSs]at hx
 | [_,_],hx=>simp[RepSs]at hx
 |_::_::_::_::_,hx=>simp[RepSs]at hx
end Hw.Fr.Md
/- The engine, part BQ: laws of grids: lent, taken in, put together, read, written. -/
namespace Hw
open Go
theorem RwR.zsM{F:(Nat→Value)→Prop}{a b n:Nat}(h: ∀j,j<n→RwV F (.nv a j) (.nv b j)):RwR F (.vw [a] 1 (gr n)) (.vw [b] 1 (gr n)):=RwR.vw rfl (zbL n) fun j x' hj=>by
 rw[gr,vZ,List.getElem?_map,Option.map_eq_some_iff]at hj
 obtain⟨q,hq,rfl⟩:=hj
 have hlt:=(List.getElem?_eq_some_iff.1 hq).1
 rw[List.length_range]at hlt
 rw[List.getElem?_range hlt]at hq
 obtain rfl:=Option.some.inj hq
 exact⟨_,zkl hlt,by simpa [toV]using h j hlt⟩
theorem TkF.arr{id id2 id' m n:Nat}(h:n=m):RwV (TkF id id2 id' m) (.ar id2) (.nv id' n):=by subst h;exact TkF.ar
theorem zkz(n:Nat):gr (n+1)=gr n++[[PC.n 0 n]]:=by simp only[gr,grJ,List.range_succ,List.map_append,List.map_cons,List.map_nil]
theorem zkA{e:Nat}{rows:List (List PC)}{row:List PC}(j:Nat)(x':PC)(h:rows.length*e=rows.flatten.length):(j<rows.length*e→(rows++[row]).flatten[j]?=some x'→rows.flatten[j]?=some x')∧((rows++[row]).flatten[rows.length*e+j]?=some x'→[row].flatten[j]?=some x'):=by
 rw[List.flatten_append,h]
 refine⟨fun hj he=>by rwa [List.getElem?_append_left hj]at he,fun he=>?_⟩
 rwa [List.getElem?_append_right (by omega),Nat.add_sub_cancel_left]at he
theorem zgY{rows:List (List PC)}(h: ∀r∈rows,r.length=1):rows.length*1=rows.flatten.length:=by
 induction rows with
 |nil=>rfl
 |cons r l ih=>
  have:=h r (List.mem_cons_self ..)
  have:=ih fun x hx=>h x (List.mem_cons_of_mem _ hx)
  simp only[List.length_cons,List.flatten_cons,List.length_append];omega
section
variable {P:Program} {C:Ctx} {k:List Frm} {n:Nat} {sl:zi} {tab:Tab} {Q:Exit→St→Prop} {all:Array Oper} {rest:List Oper}
theorem zez(T:Ty P)(id':Nat){d:Nat}{x y:Operand}{t tx ty:TypeId}{ps:String}{af:Array Edge}{g0:Option (Nat×Bool)}{gs:zi}{md:Mode}(hC:C.low){id ib i2 m bytes:Nat}{el:TypeId}{z:List V}
 (hx:ev sl x=some (.one (.ar id))) (hy:ev sl y=some (.one (.ar i2))) (hT:tg tab id=some (.vw [ib] 1 (gr m))) (hT2:tg tab i2=some (.vw [ib] 1 [[PC.n 0 m]])) (hes:T.es tx=some (el,1)) (hm1:mentI id' [ib]=false)
 (he:T.es t=some (el,1)) (hz:T.zs el=some z) (hzl:Nat.beq z.length 1=true) (hby:(P.info? el).map (·.bytes)=some bytes) (hb:(m+1)*bytes≤140737488355328) (hlen:m+1≤9223372036854775807)
 (hm:metL all sl g0=some gs) (hd:Nat.blt d n=true) (hf:(Nat.ble 100 id'&&freshB id' ⟨n,sl,tab⟩)=true)
 (g:Goal P C (.ops all rest (nx md ⟨some d,gs++(rq x (.one (.ar id))++rq y (.one (.ar i2))),[(id,.vw [ib] 1 (gr m)),(i2,.vw [ib] 1 [[PC.n 0 m]])],[id'],.one (.ar id'),[(id',some (.vw [ib] 1 (gr (m+1)))),(id,none)]⟩)) k n ((d,.one (.ar id'))::sl) ([(id',some (.vw [ib] 1 (gr (m+1)))),(id,none)]++tab) Q):
 Goal P C (.ops all (⟨some d,.call ⟨.builtin .append,#[x,y],#[t,tx]⟩,ty,ps,af,g0⟩::rest) md) k n sl tab Q:=by
 refine zki T id' hC (rows:=gr m) (rows2:=[[PC.n 0 m]]) (ids:=[ib]) (ids2:=[ib]) [ib] (gr (m+1)) hx hy hT (rt2:=[(i2,.vw [ib] 1 [[PC.n 0 m]])]) (by simp[rdT,hT2]) (zpC.vw (T.es_ok _ _ hes)) hm1 (by rw[xY,xY];rfl) (zbL _) (fun j x' hj hx'=>?_) (fun j x' hx'=>?_) he hz hzl hby (by rw[xY];exact hb) (by rw[xY];exact hlen) hm hd hf g
 ·rw[zkz]at hx'
  exact⟨x',(zkA (e:=1) j x' (zgY (zbL m))).1 hj hx',rfl⟩
 ·rw[zkz]at hx'
  exact⟨x',(zkA (e:=1) j x' (zgY (zbL m))).2 hx',rfl⟩
end
end Hw
namespace Hw.Fr.Md
open Go Go.Proofs Go.Shelf Hw.M
theorem zdh(l:List Int)(hl:l.length≤1000000):zj Tryz.prog 52 [pS (zA l)] [] (.one (.ar 0)) [(0,.arr 1 (l.map zS))]:=by
 refine gO T Tryz.func52 fun C hC=>?_
 have hlm:(l.map zS).length=l.length:=List.length_map _
 repeat' first|refine gG ?_|refine gB (fun h=>?_) (fun h=>?_)
 refine zbG (rows:=l.map zS) (e:=1) (et:=3) rfl (by kernel_rfl) rfl (fun b hb=>?_)
 repeat' first|refine gG ?_|refine gB (fun h=>?_) (fun h=>?_)
 ·have hv0:l=[]:=List.map_eq_nil_iff.1 (hb h)
  subst hv0
  refine yo hC rfl 101 1 rfl [(2,.one (.ar 101))] ⟨⟨_,rfl,.nil⟩,trivial⟩ [] trivial ?_
  exact zg ⟨.inl rfl,nm [101],_,rfl,.refl _,⟨rfl,trivial⟩,rfl,rfl⟩
 ·refine zka T hC rfl rfl rfl rfl rfl ?_
  repeat' first|refine gG ?_|refine gB (fun h=>?_) (fun h=>?_)|refine zC T 102 hC (rows:=[]) (rows2:=l.map zS) (rows3:=l.map zS) (bytes:=8) rfl rfl rfl rfl (xj.sl (T.es_ok _ _ rfl)) rfl rfl rfl rfl (by kernel_rfl) (by simp only[List.length_nil,hlm];omega) (by simp only[List.length_nil,hlm];omega) rfl rfl rfl ?_
  exact zg ⟨.inl rfl,nm [102],_,rfl,.refl _,⟨rfl,trivial⟩,rfl,rfl⟩
theorem zR(n:Int):zj Tryz.prog 132 [I n] [] (zz (rsR (okR n))) []:=by
 refine gO T Tryz.func132 fun C hC=>?_
 repeat' first|refine gG ?_|refine gB (fun h=>?_) (fun h=>?_)
 exact gF
theorem yj(n:Int):zj Tryz.prog 133 [I n] [] (zz (rsR (erR n))) []:=by
 refine gO T Tryz.func133 fun C hC=>?_
 repeat' first|refine gG ?_|refine gB (fun h=>?_) (fun h=>?_)
 exact gF
theorem zow{B:RL}{o id:Nat}{R:Rws}(ho:(o,vg id R.length)∈B)(hid:(id,bg R)∈B):LnV B (.ar o) (.p (z8 R)):=by
 have:=LnV.zsM (e:=1) (L:=R.map fun r=>r.map zS) (by rw[List.length_map];exact ho) hid
 rw[List.map_map]at this
 exact this
theorem zkC(R:Rws)(x:Rw):(R.map fun r=>r.map zS)++[x.map zS]=(R++[x]).map fun r=>r.map zS:=by simp
def mv2(a b c d i:Nat):Nat:=match Nat.beq i a with
 |true=>b
 |false=>match Nat.beq i c with
  |true=>d
  |false=>i
theorem zpS{a b c d i:Nat}(ha:100≤a)(hc:100≤c)(hi:i<100):mv2 a b c d i=i:=by
 unfold mv2;rw[yK (by omega),yK (by omega)]
theorem jX(R:Rws)(hR:R.length≤1000000)(hw: ∀r∈R,r.length≤1000000):zj Tryz.prog 68 [pS (z8 R)] [] (.one (.ar 0)) [(0,vg 1 R.length),(1,bg R)]:=by
 refine gO T Tryz.func68 fun C hC=>?_
 repeat' first|refine gG ?_|refine gB (fun h=>?_) (fun h=>?_)
 rw[List.length_map]
 refine yo hC rfl 103 1 rfl [(3,.one (.ar 103))] ⟨⟨_,rfl,AdS.nil⟩,trivial⟩ [] trivial ?_
 refine zs6 hC rfl 102 1 rfl ?_
 refine zs7 rfl 103 [102] (e:=1) (rows:=[]) (rows':=gr 0) rfl rfl ?_
 refine zy (fun i:Nat=>i≤R.length) (fun i=>([(3,.one (.ar 101)),(6,pS (z8 R)),(7,I R.length),(8,I i)],[(101,some (vg 102 i)),(102,some (bg (R.take i)))])) (fun i=>R.length - i) hC
  0 (Nat.zero_le _) (mvU 101 103) ⟨rfl,⟨rfl,rfl,rfl,rfl,trivial⟩,⟨rfl,rfl,trivial⟩,rfl,fun i hi=>yg (by omega) hi⟩ ?_
 intro i hi
 refine zI T hC true 200 rfl ?_
 refine zP rfl (fun h=>?_) (fun h=>?_)
 ·have hlt:i<R.length:=by simpa using h
  clear h
  obtain⟨r,hx⟩:=zf hlt
  have hC1:=zdh r (hw r (List.mem_of_getElem? hx))
  have htl:(R.take i).length=i:=by rw[List.length_take];omega
  have hbl:((R.take i).map fun r=>r.map zS).length=i:=by rw[List.length_map,htl]
  have htk:R.take i++[r]=R.take (i+1):=by rw[List.take_add_one,hx];rfl
  repeat' first|refine gG ?_|refine gB (fun h=>?_) (fun h=>?_)|refine gI T (zu hx) ?_|(refine gR hC1 (nm [104]) ?_;refine zgI hC rfl 102 104 105 (e:=1) (L:=(R.take i).map fun r=>r.map zS) (rs:=r.map zS) rfl rfl rfl rfl [(14,.one (.nv 105 i))] ⟨⟨_,rfl,RwS.one (TkF.arr hbl.symm)⟩,trivial⟩ [(101,vg 105 i)] ⟨⟨_,rfl,rfl,RwR.zsM fun j _=>TkF.nv⟩,trivial⟩ ?_;rw[zkC,htk])|(refine zgK T hC [PC.n 0 i] [105] rfl rfl rfl rfl rfl rfl rfl rfl rfl rfl rfl rfl ?_)|(refine zez T 106 hC (ib:=105) (m:=i) (bytes:=24) rfl rfl rfl rfl rfl rfl rfl rfl rfl (by kernel_rfl) (by omega) (by omega) rfl rfl rfl ?_)
  rw[yq (by omega)]
  exact zh (i+1) (by omega) (mv2 101 106 102 105) (by omega) ⟨rfl,⟨rfl,rfl,rfl,rfl,trivial⟩,⟨rfl,by rw[←htk];rfl,trivial⟩,rfl,fun i hi=>zpS (by omega) (by omega) hi⟩
 ·have hge:i=R.length:=by
   have: ¬i<R.length:=by simpa using h
   omega
  subst hge
  clear h
  rw[List.take_length]
  repeat' first|refine gG ?_|refine gB (fun h=>?_) (fun h=>?_)|refine zp ?_
  exact zg ⟨.inl rfl,nm [101,102],_,rfl,.refl _,⟨rfl,rfl,trivial⟩,rfl,rfl⟩
end Hw.Fr.Md
namespace Hw.Fr.Md
open Go Go.Proofs Go.Shelf Hw.M
section
variable {P:Program} {C:Ctx} {k:List Frm} {n:Nat} {sl:zi} {tab:Tab} {Q:Exit→St→Prop} {all:Array Oper} {rest:List Oper}
theorem z7(T:Ty P){d:Nat}{x:Operand}{t:TypeId}{ty:TypeId}{ps:String}{af:Array Edge}{g0:Option (Nat×Bool)}{gs:zi}{md:Mode}(hC:C.low){id ib m:Nat}{el:TypeId}{e:Nat}
 (hx:ev sl x=some (.one (.ar id))) (hT:tg tab id=some (vg ib m)) (he:T.es t=some (el,e)) (he1:e=1) (hm:metL all sl g0=some gs) (hd:Nat.blt d n=true)
 (g:Goal P C (.ops all rest (nx md ⟨some d,gs++rq x (.one (.ar id)),[(id,vg ib m)],[],I m,[]⟩)) k n ((d,I m)::sl) tab Q):
 Goal P C (.ops all (⟨some d,.call ⟨.builtin .len,#[x],#[t]⟩,ty,ps,af,g0⟩::rest) md) k n sl tab Q:=by
 refine zro T hC hx hT he hm hd ?_
 rw[xY]
 exact g
theorem wM(T:Ty P){d:Nat}{x y:Operand}{t:TypeId}{ty:TypeId}{ps:String}{af:Array Edge}{g0:Option (Nat×Bool)}{gs:zi}{md:Mode}(hC:C.low){id ib m:Nat}{el:TypeId}{z:Int}(i:Nat)
 (hx:ev sl x=some (.one (.ar id))) (hy:ev sl y=some (I z)) (hz:z=i) (hT:tg tab id=some (vg ib m)) (he:T.es t=some (el,1)) (hi:i<m) (hm:metL all sl g0=some gs) (hd:Nat.blt d n=true)
 (g:Goal P C (.ops all rest (nx md ⟨some d,gs++(rq x (.one (.ar id))++rq y (I i)),[(id,vg ib m)],[],.one (.el id i),[]⟩)) k n ((d,.one (.el id i))::sl) tab Q):
 Goal P C (.ops all (⟨some d,.indexAddr t x y,ty,ps,af,g0⟩::rest) md) k n sl tab Q:=by
 subst hz
 refine zom T hC hx hy hT he (Int.natCast_nonneg _) (by rw[xY];omega) hm hd ?_
 rw[Int.toNat_natCast,Nat.mul_one]
 exact g
theorem xh(T:Ty P){d:Nat}{x:Operand}{t ty:TypeId}{ps:String}{af:Array Edge}{g0:Option (Nat×Bool)}{gs:zi}{md:Mode}(hC:C.low){id ib m i:Nat}
 (hx:ev sl x=some (.one (.el id i))) (hT:tg tab id=some (vg ib m)) (hsh:T.sh t=some none) (hi:i<m) (hm:metL all sl g0=some gs) (hd:Nat.blt d n=true)
 (g:Goal P C (.ops all rest (nx md ⟨some d,gs++rq x (.one (.el id i)),[(id,vg ib m)],[],.one (.nv ib i),[]⟩)) k n ((d,.one (.nv ib i))::sl) tab Q):
 Goal P C (.ops all (⟨some d,.load t x,ty,ps,af,g0⟩::rest) md) k n sl tab Q:=by
 refine jG T hC [.nv ib i] hx hT hsh (fun j v hj=>?_) rfl hm hd g
 match j,hj with
 |0,hj=>exact⟨_,zkl hi,by simp at hj;rw[←hj];rfl⟩
 |j+1,hj=>simp at hj
theorem zdi(r:Rw):(r.map zS).flatten=r.map ki:=by
 induction r with
 |nil=>rfl
 |cons a l ih=>simp only[List.map_cons,List.flatten_cons,ih];rfl
theorem zdj{R:Rws}{q:Nat}{r:Rw}(h:R[q]?=some r):(R.map fun r=>r.map zS)[q]?=some (r.map zS):=by rw[List.getElem?_map,h];rfl
theorem zkD(T:Ty P){d:Nat}{x:Operand}{t ty:TypeId}{ps:String}{af:Array Edge}{g0:Option (Nat×Bool)}{gs:zi}{md:Mode}(hC:C.low){ib q:Nat}{R:Rws}{r:Rw}{el:TypeId}{e:Nat}
 (hq:R[q]?=some r) (hx:ev sl x=some (.one (.nv ib q))) (hT:tg tab ib=some (bg R)) (he:T.es t=some (el,e)) (hm:metL all sl g0=some gs) (hd:Nat.blt d n=true)
 (g:Goal P C (.ops all rest (nx md ⟨some d,gs++rq x (.one (.nv ib q)),[(ib,bg R)],[],I r.length,[]⟩)) k n ((d,I r.length)::sl) tab Q):
 Goal P C (.ops all (⟨some d,.call ⟨.builtin .len,#[x],#[t]⟩,ty,ps,af,g0⟩::rest) md) k n sl tab Q:=by
 refine zrl T hC hx hT (zdj hq) he hm hd ?_
 rw[List.length_map]
 exact g
theorem wU(T:Ty P){d:Nat}{x y:Operand}{t ty:TypeId}{ps:String}{af:Array Edge}{g0:Option (Nat×Bool)}{gs:zi}{md:Mode}(hC:C.low){ib q:Nat}{R:Rws}{r:Rw}{el:TypeId}(c:Nat)
 (hq:R[q]?=some r) (hc:c<r.length) (hx:ev sl x=some (.one (.nv ib q))) (hy:ev sl y=some (I c)) (hT:tg tab ib=some (bg R)) (he:T.es t=some (el,1)) (hm:metL all sl g0=some gs) (hd:Nat.blt d n=true)
 (g:Goal P C (.ops all rest (nx md ⟨some d,gs++(rq x (.one (.nv ib q))++rq y (I c)),[(ib,bg R)],[],.one (.np ib q c),[]⟩)) k n ((d,.one (.np ib q c))::sl) tab Q):
 Goal P C (.ops all (⟨some d,.indexAddr t x y,ty,ps,af,g0⟩::rest) md) k n sl tab Q:=by
 refine zrm T hC hx hy hT (zdj hq) he (Int.natCast_nonneg _) (by rw[List.length_map];omega) hm hd ?_
 rw[Int.toNat_natCast,Nat.mul_one]
 exact g
theorem wy(T:Ty P){d:Nat}{x:Operand}{t ty:TypeId}{ps:String}{af:Array Edge}{g0:Option (Nat×Bool)}{gs:zi}{md:Mode}(hC:C.low){ib q c:Nat}{R:Rws}{r:Rw}{v:Int}
 (hq:R[q]?=some r) (hv:r[c]?=some v) (hx:ev sl x=some (.one (.np ib q c))) (hT:tg tab ib=some (bg R)) (hsh:T.sh t=some none) (hm:metL all sl g0=some gs) (hd:Nat.blt d n=true)
 (g:Goal P C (.ops all rest (nx md ⟨some d,gs++rq x (.one (.np ib q c)),[(ib,bg R)],[],I v,[]⟩)) k n ((d,I v)::sl) tab Q):
 Goal P C (.ops all (⟨some d,.load t x,ty,ps,af,g0⟩::rest) md) k n sl tab Q:=by
 refine zpB T hC [ki v] hx hT (zdj hq) hsh (fun j p hj=>?_) rfl hm hd g
 match j,hj with
 |0,hj=>rw[zdi,Nat.add_zero,List.getElem?_map,hv];exact hj
 |j+1,hj=>simp at hj
theorem zkE(R:Rws)(q:Nat)(r:Rw):(R.map fun r=>r.map zS).set q (r.map zS)=(R.set q r).map fun r=>r.map zS:=by rw[List.map_set]
theorem zgZ(T:Ty P){x y:Operand}{t ty:TypeId}{ps:String}{af:Array Edge}{g0:Option (Nat×Bool)}{gs:zi}{md:Mode}(hC:C.low){ib q c:Nat}{R:Rws}{r:Rw}{v:Int}
 (hq:R[q]?=some r) (hc:c<r.length) (hx:ev sl x=some (.one (.np ib q c))) (hy:ev sl y=some (I v)) (hT:tg tab ib=some (bg R)) (hsh:T.sh t=some none) (hm:metL all sl g0=some gs)
 (g:Goal P C (.ops all rest (nx md ⟨none,gs++(rq x (.one (.np ib q c))++rq y (I v)),[(ib,bg R)],[],.un,[(ib,some (bg (R.set q (r.set c v))))]⟩)) k n sl ((ib,some (bg (R.set q (r.set c v))))::tab) Q):
 Goal P C (.ops all (⟨none,.store t x y,ty,ps,af,g0⟩::rest) md) k n sl tab Q:=by
 refine zmV T hC ((r.set c v).map zS) (us:=[ki v]) hx hy hT hsh rfl rfl (zdj hq) (by rw[List.length_map,List.length_map,List.length_set]) (fun r hr=>by obtain⟨_,_,rfl⟩:=List.mem_map.1 hr;rfl) (by rw[List.length_map];simp only[List.length_cons,List.length_nil];omega) (fun m p hp=>?_) hm ?_
 ·rw[zdi,List.getElem?_map,Option.map_eq_some_iff]at hp
  obtain⟨z,hz,rfl⟩:=hp
  by_cases hmc:m=c
  ·subst hmc
   rw[List.getElem?_set_self hc]at hz
   refine .inl ⟨Nat.le_refl _,by rw[Nat.sub_self,←Option.some.inj hz];rfl⟩
  ·rw[List.getElem?_set_ne (fun e=>hmc e.symm)]at hz
   refine .inr ⟨by simp only[List.length_cons,List.length_nil];omega,by rw[zdi,List.getElem?_map,hz];rfl⟩
 ·rw[zkE]
  exact g
end
end Hw.Fr.Md
namespace Hw.Fr.Md
open Go Go.Proofs Go.Shelf Hw.M
theorem xU(o id:Nat)(R:Rws):LnV [(o,vg id R.length),(id,bg R)] (.ar o) (.p (z8 R)):=zow (id:=id) (.head _) (.tail _ (.head _))
theorem ztc(R:Rws)(hR:R.length≤500):zj Tryz.prog 99 [.one (.ar 0),zz [ki 8,zA []]] [(0,vg 1 R.length),(1,bg R)] (.tup [.one (.ar 2),zz (rsR (okR R.length))]) [(2,vg 3 R.length),(3,bg R)]:=by
 have hN:=zR R.length
 refine gO T Tryz.func99 fun C hC=>?_
 repeat' first|refine gG ?_|(exfalso;first|(simp only[decide_eq_true_eq,decide_eq_false_iff_not,List.length_map,Bool.not_eq_true',Bool.not_eq_false']at *; omega)|(simp at h;done))|refine gB (fun h=>?_) (fun h=>?_)|refine z7 T hC rfl rfl rfl rfl rfl rfl ?_|refine gC hN ?_
 all_goals exact zg ⟨.inl rfl,nm [0,1,0,1],_,rfl,.refl _,⟨rfl,rfl,trivial⟩,rfl,rfl⟩
theorem ztd(R:Rws)(hR:R.length≤500)(i:Nat)(r:Rw)(v:Int)(hq:R[i]?=some r)(hil:i<R.length)(hrl:0<r.length)(hv:r[0]?=some v):zj Tryz.prog 99 [.one (.ar 0),zz [ki 7,zA [(i:Int)]]] [(0,vg 1 R.length),(1,bg R)] (.tup [.one (.ar 2),zz (rsR (okR v))]) [(2,vg 3 R.length),(3,bg R)]:=by
 have hN:=zR v
 refine gO T Tryz.func99 fun C hC=>?_
 repeat' first|refine gG ?_|(exfalso;first|(simp only[decide_eq_true_eq,decide_eq_false_iff_not,List.length_map,Bool.not_eq_true',Bool.not_eq_false']at *; omega)|(simp at h;done))|refine gB (fun h=>?_) (fun h=>?_)|refine z7 T hC rfl rfl rfl rfl rfl rfl ?_|refine yh T hC rfl rfl rfl (by decide) rfl rfl rfl ?_|(refine wM T hC (i) rfl rfl rfl rfl rfl (by omega) rfl rfl ?_;refine xh T hC rfl rfl rfl (by omega) rfl rfl ?_)|(refine wU T hC 0 hq (by omega) rfl rfl rfl rfl rfl rfl ?_;refine wy T hC hq hv rfl rfl rfl rfl rfl ?_)|refine gC hN ?_
 all_goals exact zg ⟨.inl rfl,nm [0,1,0,1],_,rfl,.refl _,⟨rfl,rfl,trivial⟩,rfl,rfl⟩
theorem zrC(R:Rws)(hR:R.length≤500)(a:Int)(ha:a<0∨(R.length:Int)≤a):zj Tryz.prog 99 [.one (.ar 0),zz [ki 7,zA [a]]] [(0,vg 1 R.length),(1,bg R)] (.tup [.one (.ar 2),zz (rsR (erR 2))]) [(2,vg 3 R.length),(3,bg R)]:=by
 have hN:=yj 2
 refine gO T Tryz.func99 fun C hC=>?_
 repeat' first|refine gG ?_|(exfalso;first|(simp only[decide_eq_true_eq,decide_eq_false_iff_not,List.length_map,Bool.not_eq_true',Bool.not_eq_false']at *; omega)|(simp at h;done))|refine gB (fun h=>?_) (fun h=>?_)|refine z7 T hC rfl rfl rfl rfl rfl rfl ?_|refine yh T hC rfl rfl rfl (by decide) rfl rfl rfl ?_|refine gC hN ?_
 all_goals exact zg ⟨.inl rfl,nm [0,1,0,1],_,rfl,.refl _,⟨rfl,rfl,trivial⟩,rfl,rfl⟩
theorem zrD(R:Rws)(hR:R.length≤500)(a:Int)(i:Nat)(q:Bool)(hX:zj Tryz.prog 134 [pS (z8 R),pS (zA [a])] [] (.tup [I i,.bq q]) []):zj Tryz.prog 99 [.one (.ar 0),zz [ki 6,zA [a]]] [(0,vg 1 R.length),(1,bg R)] (.tup [.one (.ar 2),zz (rsR (okR i))]) [(2,vg 3 R.length),(3,bg R)]:=by
 have hN:=zR i
 refine gO T Tryz.func99 fun C hC=>?_
 repeat' first|refine gG ?_|(exfalso;first|(simp only[decide_eq_true_eq,decide_eq_false_iff_not,List.length_map,Bool.not_eq_true',Bool.not_eq_false']at *; omega)|(simp at h;done))|refine gB (fun h=>?_) (fun h=>?_)|refine z7 T hC rfl rfl rfl rfl rfl rfl ?_|refine yh T hC rfl rfl rfl (by decide) rfl rfl rfl ?_|refine yP T hC ([a].map zS) rfl rfl rfl (by decide) (by simp) rfl rfl rfl ?_|refine yk hC hX [(0,vg 1 R.length),(1,bg R)] rfl rfl (y4.cons (LnS.one (xU 0 1 R)) (y4.refl _)) rfl rfl rfl rfl ?_|refine gC hN ?_
 all_goals exact zg ⟨.inl rfl,nm [0,1,0,1],_,rfl,.refl _,⟨rfl,rfl,trivial⟩,rfl,rfl⟩
theorem zrE(R:Rws)(hR:R.length≤500)(a:Int)(i:Nat)(hX:zj Tryz.prog 134 [pS (z8 R),pS (zA [a])] [] (.tup [I i,.bq true]) []):zj Tryz.prog 99 [.one (.ar 0),zz [ki 4,zA [a]]] [(0,vg 1 R.length),(1,bg R)] (.tup [.one (.ar 2),zz (rsR (okR a))]) [(2,vg 3 R.length),(3,bg R)]:=by
 have hN:=zR a
 refine gO T Tryz.func99 fun C hC=>?_
 repeat' first|refine gG ?_|(exfalso;first|(simp only[decide_eq_true_eq,decide_eq_false_iff_not,List.length_map,Bool.not_eq_true',Bool.not_eq_false']at *; omega)|(simp at h;done))|refine gB (fun h=>?_) (fun h=>?_)|refine z7 T hC rfl rfl rfl rfl rfl rfl ?_|refine yh T hC rfl rfl rfl (by decide) rfl rfl rfl ?_|refine yP T hC ([a].map zS) rfl rfl rfl (by decide) (by simp) rfl rfl rfl ?_|refine yk hC hX [(0,vg 1 R.length),(1,bg R)] rfl rfl (y4.cons (LnS.one (xU 0 1 R)) (y4.refl _)) rfl rfl rfl rfl ?_|refine gC hN ?_
 all_goals exact zg ⟨.inl rfl,nm [0,1,0,1],_,rfl,.refl _,⟨rfl,rfl,trivial⟩,rfl,rfl⟩
theorem zrF(R:Rws)(hR:R.length≤500)(a:Int)(i:Nat)(hX:zj Tryz.prog 134 [pS (z8 R),pS (zA [a])] [] (.tup [I i,.bq false]) [])(hi:i=0):zj Tryz.prog 99 [.one (.ar 0),zz [ki 4,zA [a]]] [(0,vg 1 R.length),(1,bg R)] (.tup [.one (.ar 2),zz (rsR (erR 12))]) [(2,vg 3 R.length),(3,bg R)]:=by
 have hN:=yj 12
 refine gO T Tryz.func99 fun C hC=>?_
 repeat' first|refine gG ?_|(exfalso;first|(simp only[decide_eq_true_eq,decide_eq_false_iff_not,List.length_map,Bool.not_eq_true',Bool.not_eq_false']at *; omega)|(simp at h;done))|refine gB (fun h=>?_) (fun h=>?_)|refine z7 T hC rfl rfl rfl rfl rfl rfl ?_|refine yh T hC rfl rfl rfl (by decide) rfl rfl rfl ?_|refine yP T hC ([a].map zS) rfl rfl rfl (by decide) (by simp) rfl rfl rfl ?_|refine yk hC hX [(0,vg 1 R.length),(1,bg R)] rfl rfl (y4.cons (LnS.one (xU 0 1 R)) (y4.refl _)) rfl rfl rfl rfl ?_|refine gC hN ?_
 all_goals exact zg ⟨.inl rfl,nm [0,1,0,1],_,rfl,.refl _,⟨rfl,rfl,trivial⟩,rfl,rfl⟩
theorem zte(R:Rws)(hR:R.length≤500)(a:Int)(i:Nat)(hX:zj Tryz.prog 134 [pS (z8 R),pS (zA [a])] [] (.tup [I ((i+1:Nat):Int),.bq false]) [])(r:Rw)(v:Int)(hq:R[i]?=some r)(hil:i<R.length)(hrl:0<r.length)(hv:r[0]?=some v):zj Tryz.prog 99 [.one (.ar 0),zz [ki 4,zA [a]]] [(0,vg 1 R.length),(1,bg R)] (.tup [.one (.ar 2),zz (rsR (okR v))]) [(2,vg 3 R.length),(3,bg R)]:=by
 have hN:=zR v
 have hsub:IntKind.i64.wrap (((i+1:Nat):Int) - 1)=(i:Int):=by rw[wrap64 (by omega)];omega
 refine gO T Tryz.func99 fun C hC=>?_
 repeat' first|refine gG ?_|(exfalso;first|(simp only[decide_eq_true_eq,decide_eq_false_iff_not,List.length_map,Bool.not_eq_true',Bool.not_eq_false']at *; omega)|(simp at h;done))|refine gB (fun h=>?_) (fun h=>?_)|refine z7 T hC rfl rfl rfl rfl rfl rfl ?_|refine yh T hC rfl rfl rfl (by decide) rfl rfl rfl ?_|refine yP T hC ([a].map zS) rfl rfl rfl (by decide) (by simp) rfl rfl rfl ?_|refine yk hC hX [(0,vg 1 R.length),(1,bg R)] rfl rfl (y4.cons (LnS.one (xU 0 1 R)) (y4.refl _)) rfl rfl rfl rfl ?_|(refine wM T hC (i) rfl rfl hsub rfl rfl (by omega) rfl rfl ?_;refine xh T hC rfl rfl rfl (by omega) rfl rfl ?_)|(refine wU T hC 0 hq (by omega) rfl rfl rfl rfl rfl rfl ?_;refine wy T hC hq hv rfl rfl rfl rfl rfl ?_)|refine gC hN ?_
 all_goals exact zg ⟨.inl rfl,nm [0,1,0,1],_,rfl,.refl _,⟨rfl,rfl,trivial⟩,rfl,rfl⟩
theorem zrG(R:Rws)(hR:R.length≤500)(a:Int)(i:Nat)(q:Bool)(hX:zj Tryz.prog 134 [pS (z8 R),pS (zA [a])] [] (.tup [I i,.bq q]) [])(hi:i=R.length):zj Tryz.prog 99 [.one (.ar 0),zz [ki 5,zA [a]]] [(0,vg 1 R.length),(1,bg R)] (.tup [.one (.ar 2),zz (rsR (erR 12))]) [(2,vg 3 R.length),(3,bg R)]:=by
 have hN:=yj 12
 refine gO T Tryz.func99 fun C hC=>?_
 repeat' first|refine gG ?_|(exfalso;first|(simp only[decide_eq_true_eq,decide_eq_false_iff_not,List.length_map,Bool.not_eq_true',Bool.not_eq_false']at *; omega)|(simp at h;done))|refine gB (fun h=>?_) (fun h=>?_)|refine z7 T hC rfl rfl rfl rfl rfl rfl ?_|refine yh T hC rfl rfl rfl (by decide) rfl rfl rfl ?_|refine yP T hC ([a].map zS) rfl rfl rfl (by decide) (by simp) rfl rfl rfl ?_|refine yk hC hX [(0,vg 1 R.length),(1,bg R)] rfl rfl (y4.cons (LnS.one (xU 0 1 R)) (y4.refl _)) rfl rfl rfl rfl ?_|refine gC hN ?_
 all_goals exact zg ⟨.inl rfl,nm [0,1,0,1],_,rfl,.refl _,⟨rfl,rfl,trivial⟩,rfl,rfl⟩
theorem zrH(R:Rws)(hR:R.length≤500)(a:Int)(i:Nat)(q:Bool)(hX:zj Tryz.prog 134 [pS (z8 R),pS (zA [a])] [] (.tup [I i,.bq q]) [])(r:Rw)(v:Int)(hq:R[i]?=some r)(hil:i<R.length)(hrl:0<r.length)(hv:r[0]?=some v):zj Tryz.prog 99 [.one (.ar 0),zz [ki 5,zA [a]]] [(0,vg 1 R.length),(1,bg R)] (.tup [.one (.ar 2),zz (rsR (okR v))]) [(2,vg 3 R.length),(3,bg R)]:=by
 have hN:=zR v
 refine gO T Tryz.func99 fun C hC=>?_
 repeat' first|refine gG ?_|(exfalso;first|(simp only[decide_eq_true_eq,decide_eq_false_iff_not,List.length_map,Bool.not_eq_true',Bool.not_eq_false']at *; omega)|(simp at h;done))|refine gB (fun h=>?_) (fun h=>?_)|refine z7 T hC rfl rfl rfl rfl rfl rfl ?_|refine yh T hC rfl rfl rfl (by decide) rfl rfl rfl ?_|refine yP T hC ([a].map zS) rfl rfl rfl (by decide) (by simp) rfl rfl rfl ?_|refine yk hC hX [(0,vg 1 R.length),(1,bg R)] rfl rfl (y4.cons (LnS.one (xU 0 1 R)) (y4.refl _)) rfl rfl rfl rfl ?_|(refine wM T hC (i) rfl rfl rfl rfl rfl (by omega) rfl rfl ?_;refine xh T hC rfl rfl rfl (by omega) rfl rfl ?_)|(refine wU T hC 0 hq (by omega) rfl rfl rfl rfl rfl rfl ?_;refine wy T hC hq hv rfl rfl rfl rfl rfl ?_)|refine gC hN ?_
 all_goals exact zg ⟨.inl rfl,nm [0,1,0,1],_,rfl,.refl _,⟨rfl,rfl,trivial⟩,rfl,rfl⟩
theorem zrI(R:Rws)(hR:R.length≤500)(a:Int)(i:Nat)(hX:zj Tryz.prog 134 [pS (z8 R),pS (zA [a])] [] (.tup [I i,.bq false]) []):zj Tryz.prog 99 [.one (.ar 0),zz [ki 2,zA [a]]] [(0,vg 1 R.length),(1,bg R)] (.tup [.one (.ar 2),zz (rsR (erR 12))]) [(2,vg 3 R.length),(3,bg R)]:=by
 have hN:=yj 12
 refine gO T Tryz.func99 fun C hC=>?_
 repeat' first|refine gG ?_|(exfalso;first|(simp only[decide_eq_true_eq,decide_eq_false_iff_not,List.length_map,Bool.not_eq_true',Bool.not_eq_false']at *; omega)|(simp at h;done))|refine gB (fun h=>?_) (fun h=>?_)|refine z7 T hC rfl rfl rfl rfl rfl rfl ?_|refine yh T hC rfl rfl rfl (by decide) rfl rfl rfl ?_|refine yP T hC ([a].map zS) rfl rfl rfl (by decide) (by simp) rfl rfl rfl ?_|refine yk hC hX [(0,vg 1 R.length),(1,bg R)] rfl rfl (y4.cons (LnS.one (xU 0 1 R)) (y4.refl _)) rfl rfl rfl rfl ?_|refine gC hN ?_
 all_goals exact zg ⟨.inl rfl,nm [0,1,0,1],_,rfl,.refl _,⟨rfl,rfl,trivial⟩,rfl,rfl⟩
theorem zrJ(R:Rws)(hR:R.length≤500)(a:Int)(i:Nat)(hX:zj Tryz.prog 134 [pS (z8 R),pS (zA [a])] [] (.tup [I i,.bq false]) []):zj Tryz.prog 99 [.one (.ar 0),zz [ki 3,zA [a]]] [(0,vg 1 R.length),(1,bg R)] (.tup [.one (.ar 2),zz (rsR (erR 12))]) [(2,vg 3 R.length),(3,bg R)]:=by
 have hN:=yj 12
 refine gO T Tryz.func99 fun C hC=>?_
 repeat' first|refine gG ?_|(exfalso;first|(simp only[decide_eq_true_eq,decide_eq_false_iff_not,List.length_map,Bool.not_eq_true',Bool.not_eq_false']at *; omega)|(simp at h;done))|refine gB (fun h=>?_) (fun h=>?_)|refine z7 T hC rfl rfl rfl rfl rfl rfl ?_|refine yh T hC rfl rfl rfl (by decide) rfl rfl rfl ?_|refine yP T hC ([a].map zS) rfl rfl rfl (by decide) (by simp) rfl rfl rfl ?_|refine yk hC hX [(0,vg 1 R.length),(1,bg R)] rfl rfl (y4.cons (LnS.one (xU 0 1 R)) (y4.refl _)) rfl rfl rfl rfl ?_|refine gC hN ?_
 all_goals exact zg ⟨.inl rfl,nm [0,1,0,1],_,rfl,.refl _,⟨rfl,rfl,trivial⟩,rfl,rfl⟩
theorem ztf(R:Rws)(hR:R.length≤500)(a:Int)(i:Nat)(hX:zj Tryz.prog 134 [pS (z8 R),pS (zA [a])] [] (.tup [I i,.bq true]) [])(r:Rw)(v:Int)(hq:R[i]?=some r)(hil:i<R.length)(hrl:1<r.length)(hv:r[1]?=some v):zj Tryz.prog 99 [.one (.ar 0),zz [ki 2,zA [a]]] [(0,vg 1 R.length),(1,bg R)] (.tup [.one (.ar 2),zz (rsR (okR v))]) [(2,vg 3 R.length),(3,bg R)]:=by
 have hN:=zR v
 refine gO T Tryz.func99 fun C hC=>?_
 repeat' first|refine gG ?_|(exfalso;first|(simp only[decide_eq_true_eq,decide_eq_false_iff_not,List.length_map,Bool.not_eq_true',Bool.not_eq_false']at *; omega)|(simp at h;done))|refine gB (fun h=>?_) (fun h=>?_)|refine z7 T hC rfl rfl rfl rfl rfl rfl ?_|refine yh T hC rfl rfl rfl (by decide) rfl rfl rfl ?_|refine yP T hC ([a].map zS) rfl rfl rfl (by decide) (by simp) rfl rfl rfl ?_|refine yk hC hX [(0,vg 1 R.length),(1,bg R)] rfl rfl (y4.cons (LnS.one (xU 0 1 R)) (y4.refl _)) rfl rfl rfl rfl ?_|(refine wM T hC (i) rfl rfl rfl rfl rfl (by omega) rfl rfl ?_;refine xh T hC rfl rfl rfl (by omega) rfl rfl ?_)|(refine wU T hC 1 hq (by omega) rfl rfl rfl rfl rfl rfl ?_;refine wy T hC hq hv rfl rfl rfl rfl rfl ?_)|refine gC hN ?_
 all_goals exact zg ⟨.inl rfl,nm [0,1,0,1],_,rfl,.refl _,⟨rfl,rfl,trivial⟩,rfl,rfl⟩
theorem ztg(R:Rws)(hR:R.length≤500)(a:Int)(i:Nat)(hX:zj Tryz.prog 134 [pS (z8 R),pS (zA [a])] [] (.tup [I i,.bq true]) [])(r:Rw)(v:Int)(hq:R[i]?=some r)(hil:i<R.length)(hrl:1<r.length)(hv:r[1]?=some v):zj Tryz.prog 99 [.one (.ar 0),zz [ki 3,zA [a]]] [(0,vg 1 R.length),(1,bg R)] (.tup [.one (.ar 2),zz (rsR (okR v))]) [(2,vg 3 (R.length - 1)),(3,bg (R.eraseIdx i))]:=by
 have hN:=zR v
 have hD:=zey R i hil (by omega)
 refine gO T Tryz.func99 fun C hC=>?_
 repeat' first|refine gG ?_|(exfalso;first|(simp only[decide_eq_true_eq,decide_eq_false_iff_not,List.length_map,Bool.not_eq_true',Bool.not_eq_false']at *; omega)|(simp at h;done))|refine gB (fun h=>?_) (fun h=>?_)|refine z7 T hC rfl rfl rfl rfl rfl rfl ?_|refine yh T hC rfl rfl rfl (by decide) rfl rfl rfl ?_|refine yP T hC ([a].map zS) rfl rfl rfl (by decide) (by simp) rfl rfl rfl ?_|refine yk hC hX [(0,vg 1 R.length),(1,bg R)] rfl rfl (y4.cons (LnS.one (xU 0 1 R)) (y4.refl _)) rfl rfl rfl rfl ?_|(refine wM T hC (i) rfl rfl rfl rfl rfl (by omega) rfl rfl ?_;refine xh T hC rfl rfl rfl (by omega) rfl rfl ?_)|(refine wU T hC 1 hq (by omega) rfl rfl rfl rfl rfl rfl ?_;refine wy T hC hq hv rfl rfl rfl rfl rfl ?_)|(rw[yq (by omega)];refine gR hD (nm [0,1,102,103]) ?_)|refine gC hN ?_
 all_goals exact zg ⟨.inl rfl,nm [0,1,102,103],_,rfl,.refl _,⟨rfl,rfl,trivial⟩,rfl,rfl⟩
theorem zrK(R:Rws)(hR:R.length≤500)(a b:Int)(i:Nat)(hX:zj Tryz.prog 134 [pS (z8 R),pS (zA [a])] [] (.tup [I i,.bq false]) [])(h5:R.length=500):zj Tryz.prog 99 [.one (.ar 0),zz [ki 1,zA [a,b]]] [(0,vg 1 R.length),(1,bg R)] (.tup [.one (.ar 2),zz (rsR (erR 4))]) [(2,vg 3 R.length),(3,bg R)]:=by
 have hN:=yj 4
 refine gO T Tryz.func99 fun C hC=>?_
 repeat' first|refine gG ?_|(exfalso;first|(simp only[decide_eq_true_eq,decide_eq_false_iff_not,List.length_map,Bool.not_eq_true',Bool.not_eq_false']at *; omega)|(simp at h;done))|refine gB (fun h=>?_) (fun h=>?_)|refine z7 T hC rfl rfl rfl rfl rfl rfl ?_|refine yh T hC rfl rfl rfl (by decide) rfl rfl rfl ?_|refine yP T hC ([a].map zS) rfl rfl rfl (by decide) (by simp) rfl rfl rfl ?_|refine yk hC hX [(0,vg 1 R.length),(1,bg R)] rfl rfl (y4.cons (LnS.one (xU 0 1 R)) (y4.refl _)) rfl rfl rfl rfl ?_|refine gC hN ?_
 all_goals exact zg ⟨.inl rfl,nm [0,1,0,1],_,rfl,.refl _,⟨rfl,rfl,trivial⟩,rfl,rfl⟩
theorem zrL(R:Rws)(hR:R.length≤500)(a b:Int)(i:Nat)(hX:zj Tryz.prog 134 [pS (z8 R),pS (zA [a])] [] (.tup [I i,.bq true]) [])(r:Rw)(hq:R[i]?=some r)(hil:i<R.length)(hrl:1<r.length):zj Tryz.prog 99 [.one (.ar 0),zz [ki 1,zA [a,b]]] [(0,vg 1 R.length),(1,bg R)] (.tup [.one (.ar 2),zz (rsR (okR 1))]) [(2,vg 3 R.length),(3,bg (R.set i (r.set 1 b)))]:=by
 have hN:=zR 1
 refine gO T Tryz.func99 fun C hC=>?_
 repeat' first|refine gG ?_|(exfalso;first|(simp only[decide_eq_true_eq,decide_eq_false_iff_not,List.length_map,Bool.not_eq_true',Bool.not_eq_false']at *; omega)|(simp at h;done))|refine gB (fun h=>?_) (fun h=>?_)|refine z7 T hC rfl rfl rfl rfl rfl rfl ?_|refine yh T hC rfl rfl rfl (by decide) rfl rfl rfl ?_|refine yP T hC ([a].map zS) rfl rfl rfl (by decide) (by simp) rfl rfl rfl ?_|refine yk hC hX [(0,vg 1 R.length),(1,bg R)] rfl rfl (y4.cons (LnS.one (xU 0 1 R)) (y4.refl _)) rfl rfl rfl rfl ?_|(refine wM T hC (i) rfl rfl rfl rfl rfl (by omega) rfl rfl ?_;refine xh T hC rfl rfl rfl (by omega) rfl rfl ?_)|(refine wU T hC 1 hq (by omega) rfl rfl rfl rfl rfl rfl ?_)|(refine zgZ T hC hq (by omega) rfl rfl rfl rfl rfl ?_)|refine gC hN ?_
 all_goals exact zg ⟨.inl rfl,nm [0,1,0,1],_,rfl,.refl _,⟨rfl,rfl,trivial⟩,rfl,rfl⟩
theorem zth(R:Rws)(hR:R.length≤500)(a b:Int)(i:Nat)(hX:zj Tryz.prog 134 [pS (z8 R),pS (zA [a])] [] (.tup [I i,.bq false]) [])(hil:i≤R.length)(h5:R.length<500):zj Tryz.prog 99 [.one (.ar 0),zz [ki 1,zA [a,b]]] [(0,vg 1 R.length),(1,bg R)] (.tup [.one (.ar 2),zz (rsR (okR 0))]) [(2,vg 3 (R.length+1)),(3,bg (zaW R i [a,b]))]:=by
 have hN:=zR 0
 have hCl:=zdh [a,b] (by simp)
 have hD:=zky R i [a,b] hil (by omega)
 refine gO T Tryz.func99 fun C hC=>?_
 repeat' first|refine gG ?_|(exfalso;first|(simp only[decide_eq_true_eq,decide_eq_false_iff_not,List.length_map,Bool.not_eq_true',Bool.not_eq_false']at *; omega)|(simp at h;done))|refine gB (fun h=>?_) (fun h=>?_)|refine z7 T hC rfl rfl rfl rfl rfl rfl ?_|refine yh T hC rfl rfl rfl (by decide) rfl rfl rfl ?_|refine yP T hC ([a].map zS) rfl rfl rfl (by decide) (by simp) rfl rfl rfl ?_|refine yk hC hX [(0,vg 1 R.length),(1,bg R)] rfl rfl (y4.cons (LnS.one (xU 0 1 R)) (y4.refl _)) rfl rfl rfl rfl ?_|(refine gR hCl (nm [104]) ?_)|(refine zgi T hC rfl rfl rfl rfl rfl rfl rfl rfl rfl rfl rfl ?_)|(refine gR hD (nm [0,1,102,103,1076,104]) ?_)|refine gC hN ?_
 all_goals exact zg ⟨.inl rfl,nm [0,1,102,103],_,rfl,.refl _,⟨rfl,rfl,trivial⟩,rfl,rfl⟩
end Hw.Fr.Md
namespace Hw.Fr.Md
open Go Go.Proofs Go.Shelf Hw.M
theorem zdk: ∀(c:Nat) (r a:Rw),ltC c r (a.take c)=ltC c r a
 |0,r,a=>by rw[zgM,zgM]
 |c+1,[],a=>by cases a<;>rfl
 |c+1,x::r,[]=>rfl
 |c+1,x::r,y::a=>by simp only[List.take_succ_cons,ltC,zdk c r a]
theorem zg0(c:Nat)(R:Rws)(a:Rw):vA c R (a.take c)=vA c R a:=by
 unfold vA
 rw[show(fun r=>ltC c r (a.take c))=fun r=>ltC c r a from funext fun r=>zdk c r a]
theorem znj(c:Nat)(R:Rws)(a:Rw):hasC c R (a.take c)=hasC c R a:=by
 unfold hasC
 rw[zg0,List.take_take,Nat.min_self]
theorem zdl{c:Nat}{R:Rws}{a:Rw}(h:hasC c R a=true): ∃r,R[vA c R a]?=some r∧vA c R a<R.length∧r.take c=a.take c:=by
 unfold hasC at h
 split at h
 ·rename_i r hr;exact⟨r,hr,(List.getElem?_eq_some_iff.1 hr).1,of_decide_eq_true h⟩
 ·cases h
theorem zg1{c w:Nat}{p:Rw→Rw→Bool}{R:Rws}(h:xy w p R)(hp: ∀r s a:Rw,r.length=w→s.length=w→p r s=true→ltC c s a=true→ltC c r a=true)(key:Rw):
 ∀(i j:Nat) r s,i≤j→R[i]?=some r→R[j]?=some s→ltC c s key=true→ltC c r key=true:=fun i j r s hij hi hj hs=>by
 rcases Nat.eq_or_lt_of_le hij with rfl|hlt
 ·rw[hi]at hj;obtain rfl:=Option.some.inj hj;exact hs
 ·have:=h.asc
  rw[List.pairwise_iff_getElem]at this
  obtain⟨g1,g2⟩:=List.getElem?_eq_some_iff.1 hi
  obtain⟨g3,g4⟩:=List.getElem?_eq_some_iff.1 hj
  exact hp r s key (h.wide r (List.mem_of_getElem? hi)) (h.wide s (List.mem_of_getElem? hj)) (by rw[←g2,←g4];exact this _ _ g1 g3 hlt) hs
theorem zkF{R:Rws}(h:zU 1 R=true):R.length≤500∧xy 2 (ltC 1) R:=by
 simp only[zU,if_pos,Bool.and_eq_true,decide_eq_true_eq]at h
 exact⟨h.1,(wx (zpz 1 2)).1 h.2⟩
theorem zkG{R:Rws}(h:zU 2 R=true):R.length≤500∧xy 1 (fun a b=> !ltC 1 b a) R:=by
 have h':(decide (R.length≤500)&&tableB 1 (fun a b=> !ltC 1 b a) R)=true:=h
 simp only[Bool.and_eq_true,decide_eq_true_eq]at h'
 exact⟨h'.1,(wx zrj).1 h'.2⟩
theorem zkH{R:Rws}(h:zU 3 R=true):R.length≤500∧xy 1 (fun _ _=>true) R:=by
 have h':(decide (R.length≤500)&&tableB 1 (fun _ _=>true) R)=true:=h
 simp only[Bool.and_eq_true,decide_eq_true_eq]at h'
 exact⟨h'.1,(wx (zoj 1)).1 h'.2⟩
theorem zkI{R:Rws}(h:zU 4 R=true):R.length≤500∧yM R:=by
 have h':(decide (R.length≤500)&&zao R)=true:=h
 simp only[Bool.and_eq_true,decide_eq_true_eq]at h'
 exact⟨h'.1,j4.1 h'.2⟩
theorem zrM{R:Rws}(h:zU 5 R=true):R.length≤500∧xy 3 (ltC 2) R:=by
 have h':(decide (R.length≤500)&&tableB 3 (ltC 2) R)=true:=h
 simp only[Bool.and_eq_true,decide_eq_true_eq]at h'
 exact⟨h'.1,(wx (zpz 2 3)).1 h'.2⟩
theorem zrN{R:Rws}(h:zU 6 R=true):R=[]∨ ∃r,R=[r]∧1≤r.length∧r.length≤500∧ ∀x∈r,zdE x=true:=by
 have h':(decide (R.length≤500)&&textB R)=true:=h
 simp only[Bool.and_eq_true,decide_eq_true_eq]at h'
 match R,h'.2 with
 | [],_=>exact .inl rfl
 | [r],h=>simp only[textB,Bool.and_eq_true,decide_eq_true_eq,List.all_eq_true]at h;exact .inr ⟨r,rfl,h.1.1,h.1.2,h.2⟩
 |_::_::_,h=>simp[textB]at h
theorem zrO{l:List Int}(h:l.length=0):l=[]:=List.length_eq_zero_iff.1 h
theorem zrP{l:List Int}(h:l.length=1): ∃a,l=[a]:=List.length_eq_one_iff.1 h
theorem zsO{l:List Int}(h:l.length=2): ∃a b,l=[a,b]:=by
 match l,h with
 | [a,b],_=>exact⟨a,b,rfl⟩
theorem j9{k:Int}{o:OpT}(h:okOp k o=true): ∃w,1≤o.code∧o.code≤(yL k).length∧(yL k)[(o.code - 1).toNat]?=some w∧(0≤w.2.1→(o.args.length:Int)=w.2.1∧ ∀x∈o.args,vC x=true)∧(w.2.1<0→1≤o.args.length∧o.args.length≤64∧ ∀x∈o.args,zdE x=true):=by
 unfold okOp at h
 simp only[Bool.and_eq_true,decide_eq_true_eq]at h
 obtain⟨h1,h2⟩:=h
 split at h2
 ·cases h2
 ·rename_i w hw
  have:=(List.getElem?_eq_some_iff.1 hw).1
  refine⟨w,h1,by omega,hw,fun h0=>?_,fun h0=>?_⟩
  ·rw[if_neg (by omega)]at h2
   simpa only[Bool.and_eq_true,decide_eq_true_eq,List.all_eq_true]using h2
  ·rw[if_pos h0]at h2
   have:(1≤o.args.length∧o.args.length≤64)∧ ∀x∈o.args,zdE x=true:=by simpa only[Bool.and_eq_true,decide_eq_true_eq,List.all_eq_true]using h2
   exact⟨this.1.1,this.1.2,this.2⟩
theorem op1{o:OpT}(h:okOp 1 o=true):(o=⟨8,[]⟩)∨(∃a,(o=⟨2,[a]⟩∨o=⟨3,[a]⟩∨o=⟨4,[a]⟩∨o=⟨5,[a]⟩∨o=⟨6,[a]⟩∨o=⟨7,[a]⟩)∧vC a=true)∨ ∃a b,o=⟨1,[a,b]⟩∧vC a=true∧vC b=true:=by
 obtain⟨w,h1,h2,hw,h3, -⟩:=j9 h
 obtain⟨c,l⟩:=o
 have hc:c=1∨c=2∨c=3∨c=4∨c=5∨c=6∨c=7∨c=8:=by
  have:(yL 1).length=8:=rfl
  simp only at h1 h2;omega
 rcases hc with rfl|rfl|rfl|rfl|rfl|rfl|rfl|rfl<;>(obtain rfl:=Option.some.inj hw;obtain⟨hl,hn⟩:=h3 (by decide);simp only at hl hn)
 ·obtain⟨a,b,rfl⟩:=zsO (l:=l) (by omega)
  exact .inr (.inr ⟨a,b,rfl,hn a (by simp),hn b (by simp)⟩)
 iterate 6
  ·obtain⟨a,rfl⟩:=zrP (l:=l) (by omega)
   exact .inr (.inl ⟨a,by simp,hn a (by simp)⟩)
 ·obtain rfl:=zrO (l:=l) (by omega)
  exact .inl rfl
theorem zpT(R:Rws)(o:OpT)(hv:zU 1 R=true)(ho:okOp 1 o=true):
 zj Tryz.prog 99 [.one (.ar 0),zz (opR o)] [(0,vg 1 R.length),(1,bg R)] (.tup [.one (.ar 2),zz (rsR (yH R o).2)]) [(2,vg 3 (yH R o).1.length),(3,bg (yH R o).1)]:=by
 obtain⟨hR,hT⟩:=zkF hv
 have hX: ∀a:Int,zj Tryz.prog 134 [pS (z8 R),pS (zA [a])] [] (.tup [I (vA 1 R [a]),.bq (hasC 1 R [a])]) []:=fun a=>
  zko R [a] (by simp) (by omega) (fun r hr=>by rw[hT.wide r hr];simp) (zg1 hT zkd [a])
 have hrow: ∀(i:Nat),i<R.length→R[i]?=some (wC R i)∧(wC R i).length=2:=fun i hi=>⟨jF hi,hT.wide _ (List.mem_of_getElem? (jF hi))⟩
 have hcell: ∀(i j:Nat),i<R.length→j<2→(wC R i)[j]?=some (at0 (wC R i) j):=fun i j hi hj=>zed (by rw[(hrow i hi).2];exact hj)
 rcases op1 ho with rfl|⟨a,hc,ha⟩|⟨a,b,rfl,ha,hb⟩
 ·exact ztc R hR
 ·have hle:=zaq 1 R [a]
  have hXa:=hX a
  have h7:zj Tryz.prog 99 [.one (.ar 0),zz (opR ⟨7,[a]⟩)] [(0,vg 1 R.length),(1,bg R)] (.tup [.one (.ar 2),zz (rsR (yH R ⟨7,[a]⟩).2)]) [(2,vg 3 (yH R ⟨7,[a]⟩).1.length),(3,bg (yH R ⟨7,[a]⟩).1)]:=by
   by_cases h0:0≤a∧a<R.length
   ·have e:yH R ⟨7,[a]⟩=(R,okR (at0 (wC R a.toNat) 0)):=by simp[yH,at0,h0]
    rw[e]
    have hlt:a.toNat<R.length:=by omega
    have:=ztd R hR a.toNat _ _ (hrow _ hlt).1 hlt (by rw[(hrow _ hlt).2];omega) (hcell _ 0 hlt (by omega))
    rw[Int.toNat_of_nonneg h0.1]at this
    exact this
   ·have e:yH R ⟨7,[a]⟩=(R,erR 2):=by
     simp only[yH]
     rw[if_neg (by decide),if_pos trivial]
     exact if_neg h0
    rw[e]
    exact zrC R hR a (by omega)
  have hyes:=zdl (c:=1) (R:=R) (a:=[a])
  cases hq:hasC 1 R [a]with
  |true=>
   rw[hq]at hXa
   obtain⟨r,hr,hlt,_⟩:=hyes hq
   obtain⟨h1,h2⟩:=hrow _ hlt
   rcases hc with rfl|rfl|rfl|rfl|rfl|rfl
   ·have e:yH R ⟨2,[a]⟩=(R,okR (at0 (wC R (vA 1 R [a])) 1)):=by simp[yH,hq]
    rw[e]
    exact ztf R hR a _ hXa _ _ h1 hlt (by omega) (hcell _ 1 hlt (by omega))
   ·have e:yH R ⟨3,[a]⟩=(R.eraseIdx (vA 1 R [a]),okR (at0 (wC R (vA 1 R [a])) 1)):=by simp[yH,hq]
    rw[e]
    simp only[List.length_eraseIdx_of_lt hlt]
    exact ztg R hR a _ hXa _ _ h1 hlt (by omega) (hcell _ 1 hlt (by omega))
   ·have e:yH R ⟨4,[a]⟩=(R,okR a):=by simp[yH,hq,at0]
    rw[e]
    exact zrE R hR a _ hXa
   ·have e:yH R ⟨5,[a]⟩=(R,okR (at0 (wC R (vA 1 R [a])) 0)):=by simp[yH,Nat.ne_of_lt hlt]
    rw[e]
    exact zrH R hR a _ _ hXa _ _ h1 hlt (by omega) (hcell _ 0 hlt (by omega))
   ·exact zrD R hR a _ _ hXa
   ·exact h7
  |false=>
   rw[hq]at hXa
   rcases hc with rfl|rfl|rfl|rfl|rfl|rfl
   ·have e:yH R ⟨2,[a]⟩=(R,erR 12):=by simp[yH,hq]
    rw[e]
    exact zrI R hR a _ hXa
   ·have e:yH R ⟨3,[a]⟩=(R,erR 12):=by simp[yH,hq]
    rw[e]
    exact zrJ R hR a _ hXa
   ·by_cases h0:vA 1 R [a]=0
    ·have e:yH R ⟨4,[a]⟩=(R,erR 12):=by simp[yH,hq,h0]
     rw[e]
     exact zrF R hR a _ hXa h0
    ·obtain⟨i,hi⟩: ∃i,vA 1 R [a]=i+1:=⟨vA 1 R [a] - 1,by omega⟩
     have e:yH R ⟨4,[a]⟩=(R,okR (at0 (wC R i) 0)):=by simp[yH,hq,hi]
     rw[e]
     rw[hi]at hXa
     exact zte R hR a i hXa _ _ (hrow i (by omega)).1 (by omega) (by rw[(hrow i (by omega)).2];omega) (hcell _ 0 (by omega) (by omega))
   ·by_cases h0:vA 1 R [a]=R.length
    ·have e:yH R ⟨5,[a]⟩=(R,erR 12):=by simp[yH,h0]
     rw[e]
     exact zrG R hR a _ _ hXa h0
    ·have hlt:vA 1 R [a]<R.length:=by omega
     have e:yH R ⟨5,[a]⟩=(R,okR (at0 (wC R (vA 1 R [a])) 0)):=by simp[yH,h0]
     rw[e]
     exact zrH R hR a _ _ hXa _ _ (hrow _ hlt).1 hlt (by rw[(hrow _ hlt).2];omega) (hcell _ 0 hlt (by omega))
   ·exact zrD R hR a _ _ hXa
   ·exact h7
 ·have hXa:=hX a
  have hp:vA 1 R [a,b]=vA 1 R [a]:=(zg0 1 R [a,b]).symm
  have hh:hasC 1 R [a,b]=hasC 1 R [a]:=(znj 1 R [a,b]).symm
  have hle:=zaq 1 R [a]
  cases hq:hasC 1 R [a]with
  |true=>
   rw[hq]at hXa
   obtain⟨r,hr,hlt,_⟩:=zdl hq
   have e:yH R ⟨1,[a,b]⟩=(R.set (vA 1 R [a]) ((wC R (vA 1 R [a])).set 1 b),okR 1):=by simp[yH,hp,hh,hq,at0]
   rw[e]
   simp only[List.length_set]
   exact zrL R hR a b _ hXa _ (hrow _ hlt).1 hlt (by rw[(hrow _ hlt).2];omega)
  |false=>
   rw[hq]at hXa
   by_cases h5:R.length=500
   ·have e:yH R ⟨1,[a,b]⟩=(R,erR 4):=by simp[yH,hh,hq,h5]
    rw[e]
    exact zrK R hR a b _ hXa h5
   ·have e:yH R ⟨1,[a,b]⟩=(zaW R (vA 1 R [a]) [a,b],okR 0):=by simp[yH,hp,hh,hq,h5]
    rw[e]
    simp only[ja hle]
    exact zth R hR a b _ hXa hle (by omega)
end Hw.Fr.Md
/- The engine, part BR: an owned array whose cells are all pure, told so. -/
namespace Hw
open Go
theorem zJ.zrQ{M:Mem}{ρ:Nat→Value}{w:World}{id e:Nat}{ids:List Nat}{rows:List (List PV)}(h:zJ M ρ w id (.vw ids e (rows.map (·.map PC.p)))):zJ M ρ w id (.arr e rows):=by
 obtain⟨a,cap,h1,h2,h3,hl,h4⟩:=h
 have hfl:(rows.map (·.map PC.p)).flatten=rows.flatten.map PC.p:=by rw[List.map_flatten]
 rw[List.length_map]at h1 h2
 refine⟨a,cap,h1,h2,h3,?_⟩
 rcases h4 with h4|⟨b,o,cs,el,fz,h5,h6,h6',h7,h8⟩
 ·exact .inl h4
 ·refine .inr ⟨b,o,cs,el,fz,h5,h6,h6',h7,?_⟩
  obtain⟨ds,k9,k10⟩:=xN (M:=M) (ρ:=ρ) (vs:=rows.flatten.map V.p) (g:=fun j=>cs[o+j]?) fun j v hj=>by
   rw[List.getElem?_map,Option.map_eq_some_iff]at hj
   obtain⟨x,hx,rfl⟩:=hj
   obtain⟨c,c1,c2⟩:=h8 j (PC.p x) (by rw[hfl,List.getElem?_map,hx];rfl)
   exact⟨c,c1,c2⟩
  exact RowsIn.yA (ρ:=ρ) (fun r hr=>by
   have:=hl (r.map PC.p) (List.mem_map.2 ⟨r,hr,rfl⟩)
   rwa [List.length_map]at this) k9 fun j c hj=>k10 j c hj
section
variable {P:Program} {C:Ctx} {k:List Frm} {n:Nat} {sl:zi} {tab:Tab} {Q:Exit→St→Prop} {cur:Cur}
theorem zrR(hc:lst cur=true)(id:Nat){ids:List Nat}{e:Nat}{rows':List (List PC)}(rows:List (List PV))(hid:tg tab id=some (.vw ids e rows'))(hr:rows.map (·.map PC.p)=rows')(g:Goal P C cur k n sl ((id,some (.arr e rows))::tab) Q):Goal P C cur k n sl tab Q:=by
 subst hr
 exact zrq hc hid (fun _ _ _ h=>h.zrQ) g
end
section
variable {P:Program} {d:Option Nat} {ty:TypeId} {ps:String} {af:Array Edge} {g:Option (Nat×Bool)} {x y z:Operand} {t:TypeId}
theorem zrS{id e:Nat}{rows:List (List PV)}{i j:Int}{k k':IntKind}{el:TypeId}(hx:okc x (.one (.ar id)))(hy:okc y (Kk k i))(hz:okc z (Kk k' j))(he:elemSz P t=some (el,e))(h0:0≤i)(h1:i≤j)(h2:j≤rows.length):
 Snd P ⟨d,.slice t x (some y) (some z) none,ty,ps,af,g⟩ (rq x (.one (.ar id))++rq y (Kk k i)++rq z (Kk k' j)) [(id,.arr e rows)] [] (.one (.sv id (i.toNat*e) (j.toNat - i.toNat))) []:=
 zo fun C st M ρ b w hH hs hT=>by
  rw[zd,zd]at hs
  have e1:=hH.evS (zM hx hs.1.1)
  have e2:=hH.k (zM hy hs.1.2)
  have e3:=hH.k (zM hz hs.2)
  simp only[RepS,RepV]at e1
  have hR:zJ M ρ w id (.vw [] e (rows.map (·.map PC.p))):=(show zJ M ρ w id (.arr e rows) from hH.yn.res id _ hT.1).zrp []
  obtain⟨a,cap,f1,f2,f3,_⟩:=hH.yn.res id _ hT.1
  obtain⟨hu,hsz⟩:=zcN he
  refine⟨sliced a i.toNat j.toNat cap e,?_,by simp only[RepS];exact zoo hR (by rw[List.length_map];exact f1) (by omega) (by rw[List.length_map];omega)⟩
  simp only[execOp,e1.1,f1,e2,e3,Option.map_none,Option.map_some,Sem.run_bind,run_sliceAt_slice w t _ _ _ _ hu,run_slice_lh w t a rows.length cap hu k k' i j h0 h1 (by omega),hsz,Result.andThen_ok,Sem.run_pure]
end
section
variable {P:Program} {C:Ctx} {k:List Frm} {n:Nat} {sl:zi} {tab:Tab} {Q:Exit→St→Prop} {all:Array Oper} {rest:List Oper}
theorem zrT(T:Ty P){d:Nat}{x y z:Operand}{t ty:TypeId}{ps:String}{af:Array Edge}{g0:Option (Nat×Bool)}{gs:zi}{md:Mode}(hC:C.low){id e:Nat}{rows:List (List PV)}{i j:Int}{k0 k1:IntKind}{el:TypeId}
 (hx:ev sl x=some (.one (.ar id))) (hy:ev sl y=some (Kk k0 i)) (hz:ev sl z=some (Kk k1 j)) (hT:tg tab id=some (.arr e rows)) (he:T.es t=some (el,e)) (h0:0≤i) (h1:i≤j) (h2:j≤rows.length) (hm:metL all sl g0=some gs) (hd:Nat.blt d n=true)
 (g:Goal P C (.ops all rest (nx md ⟨some d,gs++(rq x (.one (.ar id))++rq y (Kk k0 i)++rq z (Kk k1 j)),[(id,.arr e rows)],[],.one (.sv id (i.toNat*e) (j.toNat - i.toNat)),[]⟩)) k n ((d,.one (.sv id (i.toNat*e) (j.toNat - i.toNat)))::sl) tab Q):
 Goal P C (.ops all (⟨some d,.slice t x (some y) (some z) none,ty,ps,af,g0⟩::rest) md) k n sl tab Q:=by
 have e1:=zX (st:=⟨n,sl,tab⟩) hx
 have e2:=zX (st:=⟨n,sl,tab⟩) hy
 have e3:=zX (st:=⟨n,sl,tab⟩) hz
 have:=zq hm (zrS (P:=P) (rows:=rows) (ty:=ty) (ps:=ps) (af:=af) (g:=g0) (d:=some d) (t:=t) e1.1 e2.1 e3.1 (T.es_ok _ _ he) h0 h1 h2) (n:=n) (tab:=tab)
 exact yr (L:=⟨some d,gs++(rq x (.one (.ar id))++rq y (Kk k0 i)++rq z (Kk k1 j)),[(id,.arr e rows)],[],.one (.sv id (i.toNat*e) (j.toNat - i.toNat)),[]⟩) hC this.1 rfl ⟨by rw[zd,zd,zd];exact⟨this.2,⟨e1.2,e2.2⟩,e3.2⟩,⟨hT,trivial⟩,rfl,hd⟩ g
end
end Hw