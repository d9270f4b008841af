/- The engine and the contracts. -/
import Derived.Test.YtgcfmjlnapcioaaGreatDoorC8
import Derived.Test.YtgcfmjlnapcioaaGreatDoorC7
import Derived.Test.YtgcfmjlnapcioaaGreatDoorC1
import Derived.Test.YtgcfmjlnapcioaaGreatDoorC5
import Derived.Test.YtgcfmjlnapcioaaGreatDoorE3
import Derived.Lib.LaidTab
set_option linter.unusedVariables false
set_option linter.unusedSimpArgs false
namespace Hw.Fr
open Go Go.Proofs Go.Shelf Hw.M Md
theorem zad(sn:Str){k:Int}(r:Int){ms:List Mt}(t:Int)(hk:TLk k ms)(ht:wW t=true):
 zj Tryz.prog 20 [.one (.bx 0 0),I t] (tlC sn k r ms) (.tup [zz (stR k (stA k ms t)),I 0]) (tlC sn k (zlZ (ju ms t) (ju ms t) (ptO k ms).length) ms):=by
 have hTm:=jc t
 rw[ht]at hTm
 have hAt:=zoz sn r hk ht
 have hv:zU k (stA k ms t)=true:=vM hk.kind.2 (vN hk.k6) fun x hx=>hk.ok x (List.mem_of_mem_take hx)
 obtain⟨hR,hw⟩:=zay hv
 generalize stA k ms t=R at hAt hR hw⊢
 generalize zlZ (ju ms t) (ju ms t) (ptO k ms).length=r' at hAt⊢
 refine gO T Tryz.func20 fun C hC=>?_
 repeat' first|refine gG ?_|(exfalso;simp at h;done)|refine gB (fun h=>?_) (fun h=>?_)|refine yI (te:=87) hC rfl rfl (by kernel_rfl) rfl rfl ?_|refine gC hTm ?_|refine gR hAt (nm [0,1,2]) ?_
 rw[List.length_map]
 refine yo hC rfl 113 1 rfl [] trivial [(1007,[.p (ki k),.ar 113])] ⟨⟨_,rfl,by decide,.cons (.refl _) (.cons .nil .nil)⟩,trivial⟩ ?_
 refine zy (fun j:Nat=>j≤R.length) (fun j=>([(4,.one (.bx 1004 0)),(7,.one (.bx 1007 0)),(24,pS (.sl 1 (R.map ze2))),(25,I R.length),(26,I j)],[(0,some (Res.box [.p (ks sn),.p (ki k),.ar 1,.ar 2,.p (ki r')])),(1,some (.arr 4 (yD ms (flO k [] ms)))),(2,some (.arr 1 (jM k (ptO k ms)))),(1004,some (Res.box (zV [ZK.int .i64,ZK.slice]))),(1007,some (Res.box [.p (ki k),.ar 103])),(103,some (.arr 1 ((R.take j).map ze2)))])) (fun j=>R.length - j) hC
  0 (Nat.zero_le _) (mvU 103 113) ⟨rfl,⟨rfl,rfl,rfl,rfl,rfl,trivial⟩,⟨rfl,rfl,rfl,rfl,rfl,rfl,trivial⟩,rfl,fun i hi=>yg (by omega) hi⟩ ?_
 intro j hj
 refine zI T hC true 200 rfl ?_
 refine zP rfl (fun h=>?_) (fun h=>?_)
 ·have hlt:j<R.length:=by have:=of_decide_eq_true h;omega
  clear h
  obtain⟨x,hx⟩:=zf hlt
  have hCl:=zbT x (by have:=hw x (List.mem_of_getElem? hx);omega)
  have hnx:(R.take j).map ze2++[ze2 x]=(R.take (j+1)).map ze2:=by rw[List.take_add_one,hx,List.map_append];rfl
  have hrl:((R.take j).map ze2).length≤500:=by rw[List.length_map,List.length_take];omega
  repeat' first|refine gG ?_|refine gB (fun h=>?_) (fun h=>?_)|refine gX ?_|refine gC hCl ?_|refine ya T hC rfl rfl rfl rfl rfl rfl rfl rfl rfl ?_|refine zC T 123 hC (rows:=(R.take j).map ze2) (rows2:=[ze2 x]) (rows3:=(R.take (j+1)).map ze2) (bytes:=24) rfl rfl rfl rfl (xj.sl (T.es_ok _ _ rfl)) hnx rfl rfl rfl (by kernel_rfl) (by simp only[List.length_singleton];omega) (by simp only[List.length_singleton];omega) rfl rfl rfl ?_
  rw[wV (by omega)]
  exact zh (j+1) (by omega) (mvU 103 123) (by omega) ⟨rfl,⟨rfl,rfl,rfl,rfl,rfl,trivial⟩,⟨rfl,rfl,rfl,rfl,rfl,rfl,trivial⟩,rfl,fun i hi=>yg (by omega) hi⟩
 ·have hge:j=R.length:=by have:=of_decide_eq_false h;omega
  subst hge
  rw[List.take_length]
  repeat' first|refine gG ?_|refine gB (fun h=>?_) (fun h=>?_)|refine zp ?_
  refine zm rfl (id:=103) (e:=1) (rows:=R.map ze2) rfl [] trivial [(1004,[.p (ki k),.p (z8 R)])] ⟨⟨_,rfl,by decide,.cons (.refl _) (.cons .ar .nil)⟩,trivial⟩ ?_
  exact zg ⟨.inl rfl,id,_,rfl,.refl _,⟨rfl,rfl,rfl,trivial⟩,rfl,rfl⟩
end Hw.Fr
namespace Hw.Fr
open Go Go.Proofs Go.Shelf Hw.M Md
def zsh(ms:List Mt)(t:Int):Int:=if wW t=true then(if hasT ms t=true then 0 else 12)else 2
def ziu(ms:List Mt)(t:Int):List Mt:=ms.eraseIdx (xo ms t)
theorem zld{ms:List Mt}{t:Int}(h:hasT ms t=true):xo ms t<ms.length:=by
 unfold hasT at h
 split at h
 ·rename_i m hm;exact(List.getElem?_eq_some_iff.1 hm).1
 ·cases h
theorem zqx{k:Int}{ms:List Mt}(hk:TLk k ms)(t:Int):TLk k (ziu ms t):=by
 have hs:(ziu ms t).Sublist ms:=List.eraseIdx_sublist ..
 exact⟨hk.kind,Nat.le_trans hs.length_le hk.len,hk.asc.sublist hs,fun m hm=>hk.tm m (hs.subset hm),fun m hm=>hk.ok m (hs.subset hm)⟩
theorem zbV{α:Type}{l:List α}{i n:Nat}(hn:n≤i)(hi:i<l.length):(l.eraseIdx i).take n=l.take n:=by
 rw[List.eraseIdx_eq_take_drop_succ,List.take_append_of_le_length (by rw[List.length_take];omega),List.take_take,Nat.min_eq_left hn]
theorem znI{ms:List Mt}{fl:List Bool}{i:Nat}(hf:fl.length=ms.length):(yD ms fl).eraseIdx i=yD (ms.eraseIdx i) (fl.eraseIdx i):=by
 unfold yD
 rw[List.eraseIdx_eq_take_drop_succ,List.eraseIdx_eq_take_drop_succ,List.eraseIdx_eq_take_drop_succ,List.zipWith_append (by rw[List.length_take,List.length_take,hf]),List.take_zipWith,List.drop_zipWith]
theorem ziv{ms:List Mt}{t:Int}(h:zsh ms t=0):wW t=true∧hasT ms t=true:=by
 unfold zsh at h
 by_cases h1:wW t=true
 ·rw[if_pos h1]at h
  by_cases h2:hasT ms t=true
  ·exact⟨h1,h2⟩
  ·rw[if_neg h2]at h;exact absurd h (by decide)
 ·rw[if_neg h1]at h;exact absurd h (by decide)
theorem zhh(sn:Str){k:Int}(r:Int){ms:List Mt}(t:Int)(hk:TLk k ms)(hn:zsh ms t=0):
 zj Tryz.prog 29 [.one (.bx 0 0),I t] (tlC sn k r ms) (I 0) (tlX 3 4 sn k (zlZ (ziu ms t).length (xo ms t) (ptO k ms).length) (ziu ms t) (flO k [] (ziu ms t)) (ptO k (ziu ms t))):=by
 obtain⟨h1,h2⟩:=ziv hn
 have hlt:=zld h2
 have hk':=zqx hk t
 have hlen:=hk.len
 have hTm:=jc t
 have hFl:=xi k ms []
 have hml:=xB hFl
 have hFd:=zbd (sn:=sn) (r:=r) (ps:=ptO k ms) (t:=t) hk hFl (y9.1 h1)
 have hD:=zqj (yD ms (flO k [] ms)) (xo ms t) (by rw[hml];exact hlt)
 rw[znI hFl]at hD
 obtain⟨hp1,hp2⟩:=zhe (k:=k) (ms:=ms) (ms':=ziu ms t) (i:=xo ms t) fun n hn=>zbV hn hlt
 have hal:(ziu ms t).length=ms.length - 1:=by unfold ziu;rw[List.length_eraseIdx,if_pos hlt]
 have hRe:=zhc sn (r:=r) (fl:=(flO k [] ms).eraseIdx (xo ms t)) (ps:=ptO k ms) (i:=xo ms t) hk' (by rw[List.length_eraseIdx,if_pos (by omega),hFl,hal]) (by omega) (by rw[zaA];omega) hp1
  (by rw[zbV (by omega) (by omega),hp2 _ (by omega)])
 rw[h1]at hTm
 rw[h2]at hFd
 rw[show ms.eraseIdx (xo ms t)=ziu ms t from rfl]at hD
 generalize ziu ms t=ms' at hD hRe⊢
 refine gO T Tryz.func29 fun C hC=>?_
 repeat' first|refine gG ?_|(exfalso;simp at h;done)|refine gB (fun h=>?_) (fun h=>?_)|refine yI (te:=87) hC rfl rfl (by kernel_rfl) rfl rfl ?_|refine gC hTm ?_|refine gR hFd (nm [0,1,2]) ?_|(rw[wV (by omega)])|refine gR hD (nm [1,99,103]) ?_|refine gR hRe (nm [0,103,2,99,104]) ?_
 exact zg ⟨.inl rfl,nm [0,1,2,103,104],_,rfl,.refl _,⟨rfl,rfl,rfl,trivial⟩,rfl,rfl⟩
end Hw.Fr
namespace Hw.Fr
open Go Go.Proofs Go.Shelf Hw.M Md
theorem zle(k:Int)(a:List Rws):zj Tryz.prog 27 [pS (.sl 2 (a.map (stR k))),pS (.sl 2 (a.map (stR k))),.one (.cl 28 [] [])] [] (.bq true) []:=by
 refine gO T Tryz.func27 fun C hC=>?_
 refine w9 0 rfl fun hlen=>?_
 rw[List.length_map]at hlen
 repeat' first|refine gG ?_|(exfalso;simp at h;done)|refine gB (fun h=>?_) (fun h=>?_)
 rw[List.length_map]
 refine zy (fun i:Nat=>i≤a.length) (fun i=>([(1,pS (.sl 2 (a.map (stR k)))),(2,.one (.cl 28 [] [])),(15,pS (.sl 2 (a.map (stR k)))),(16,I a.length),(17,I i)],[])) (fun i=>a.length - i) hC
  0 (Nat.zero_le _) id gM ?_
 intro i hi
 refine zI T hC true 200 rfl ?_
 refine zP rfl (fun h=>?_) (fun h=>?_)
 ·have hlt:i<a.length:=by have:=of_decide_eq_true h;omega
  clear h
  obtain⟨x,hx⟩:=zf hlt
  have hS:=zbc k k x x
  rw[show(decide (k=k)&&decide (x=x))=true by simp]at hS
  repeat' first|refine gG ?_|(exfalso;simp at h;done)|refine gB (fun h=>?_) (fun h=>?_)|refine gI T (zu hx) ?_|refine gC hS ?_
  rw[yq (by omega)]
  exact zh (i+1) (by omega) id (by omega) gM
 ·repeat' first|refine gG ?_|refine gB (fun h=>?_) (fun h=>?_)|refine zp ?_
  exact zg ⟨.inl rfl,id,_,rfl,LeS.qb rfl,trivial,rfl,rfl⟩
abbrev tlU(a b c:Nat)(sn:Str)(k r:Int)(ms:List Mt)(L:List (Nat×Option Res)):List (Nat×Option Res):=(a,some (.box [.p (ks sn),.p (ki k),.ar b,.ar c,.p (ki r)]))::(b,some (.arr 4 (yD ms (flO k [] ms))))::(c,some (.arr 1 (jM k (ptO k ms))))::L
noncomputable def zeO(k:Int)(ms:List Mt)(n:Nat):List Rws:=(List.range n).map fun j:Nat=>stA k ms (3*(j:Int))
theorem zlf(k:Int)(ms:List Mt)(j:Nat):(zeO k ms j).map (stR k)++[stR k (stA k ms (3*(j:Int)))]=(zeO k ms (j+1)).map (stR k):=by
 unfold zeO
 rw[List.range_succ,List.map_append,List.map_append];rfl
theorem zhi(k:Int)(ms:List Mt)(n:Nat):((zeO k ms n).map (stR k)).length=n:=by unfold zeO;rw[List.length_map,List.length_map,List.length_range]
noncomputable def zsi(k r:Int)(ms:List Mt):Nat→Int
 |0=>r
 |j+1=>zlZ (ju ms (3*(j:Int))) (ju ms (3*(j:Int))) (ptO k ms).length
theorem zbW(sn:Str){k:Int}(r:Int){ms:List Mt}(hk:TLk k ms):
 zj Tryz.prog 26 [.one (.bx 3 0)] (tlC sn k r ms++[(3,.box [.bx 0 0])]) (.tup [pS (.sl 2 ((zeO k ms 20).map (stR k))),.bq true]) (tlC sn k (zsi k r ms 20) ms++[(3,.box [.bx 0 0])]):=by
 refine gO T Tryz.func26 fun C hC=>?_
 repeat' first|refine gG ?_|refine gB (fun h=>?_) (fun h=>?_)
 refine yo hC rfl 113 2 rfl [(3,.one (.ar 113))] ⟨⟨_,rfl,AdS.nil⟩,trivial⟩ [] trivial ?_
 refine zy (fun j:Nat=>j≤20) (fun j=>([(0,.one (.bx 3 0)),(3,.one (.ar 103)),(7,I j)],tlU 0 1 2 sn k (zsi k r ms j) ms [(3,some (.box [.bx 0 0])),(103,some (.arr 2 ((zeO k ms j).map (stR k))))])) (fun j=>20 - j) hC
  0 (Nat.zero_le _) (mvU 103 113) ⟨rfl,⟨rfl,rfl,rfl,trivial⟩,⟨rfl,rfl,rfl,rfl,rfl,trivial⟩,rfl,fun i hi=>yg (by omega) hi⟩ ?_
 intro j hj
 refine zI T hC true 200 rfl ?_
 refine zP rfl (fun h=>?_) (fun h=>?_)
 ·have hlt:j<20:=by have:=of_decide_eq_true h;omega
  clear h
  have hSt:=zad sn (zsi k r ms j) (3*(j:Int)) hk (y9.2 ⟨by omega,by omega⟩)
  have hnx:=zlf k ms j
  have hln:=zhi k ms j
  have hw:IntKind.i64.wrap (3*(j:Int))=3*(j:Int):=wrap64 (by omega)
  repeat' first|refine gG ?_|(exfalso;simp at h;done)|refine gB (fun h=>?_) (fun h=>?_)|(rw[hw])|refine gR hSt (nm [0,1,2]) ?_|refine ya T hC rfl rfl rfl rfl rfl rfl rfl rfl rfl ?_|refine zC T 123 hC (rows:=(zeO k ms j).map (stR k)) (rows2:=[stR k (stA k ms (3*(j:Int)))]) (rows3:=(zeO k ms (j+1)).map (stR k)) (bytes:=32) rfl rfl rfl rfl (xj.sl (T.es_ok _ _ rfl)) hnx rfl rfl rfl (by kernel_rfl) (by simp only[List.length_singleton];omega) (by simp only[List.length_singleton];omega) rfl rfl rfl ?_
  rw[wV (by omega)]
  exact zh (j+1) (by omega) (mvU 103 123) (by omega) ⟨rfl,⟨rfl,rfl,rfl,trivial⟩,⟨rfl,rfl,rfl,rfl,rfl,trivial⟩,rfl,fun i hi=>yg (by omega) hi⟩
 ·have hge:j=20:=by have:=of_decide_eq_false h;omega
  subst hge
  repeat' first|refine gG ?_|refine gB (fun h=>?_) (fun h=>?_)|refine zp ?_
  refine zm rfl (id:=103) (e:=2) (rows:=(zeO k ms 20).map (stR k)) rfl [(1,pS (.sl 2 ((zeO k ms 20).map (stR k))))] ⟨⟨_,rfl,FrS.ar⟩,trivial⟩ [] trivial ?_
  exact zg ⟨.inl rfl,id,_,rfl,LeS.tup (.cons (.refl _) (.cons (LeS.qb rfl) .nil)),⟨rfl,rfl,rfl,rfl,trivial⟩,rfl,rfl⟩
theorem zlg{α:Type}{l:List α}{i:Nat}{x:α}(hi:i≤l.length):(jJ l i x).eraseIdx i=l:=by
 unfold jJ
 rw[List.eraseIdx_append_of_length_le (by rw[List.length_take];omega),List.length_take,Nat.min_eq_left hi,Nat.sub_self,List.eraseIdx_cons_zero,List.take_append_drop]
theorem zae{α:Type}{p:α→Bool}: ∀ {a b:List α},(∀x∈a,p x=true)→(a++b).takeWhile p=a++b.takeWhile p
 | [],b,_=>rfl
 |x::a,b,h=>by rw[List.cons_append,List.takeWhile_cons_of_pos (h x (List.mem_cons_self ..)),zae fun y hy=>h y (List.mem_cons_of_mem _ hy)];rfl
theorem zhj{ms:List Mt}{t:Int}{o:OpT}(ha:ms.Pairwise fun a b=>a.1<b.1):xo (jN ms t o) t=xo ms t:=by
 have h1:=(vO (t:=t) ha).1
 have hle:=jI ms t
 conv=>lhs;unfold xo jN jJ
 rw[zae fun x hx=>decide_eq_true (h1 x hx),List.takeWhile_cons_of_neg (by simp),List.append_nil,List.length_take]
 omega
theorem zlh{ms:List Mt}{t:Int}{o:OpT}(ha:ms.Pairwise fun a b=>a.1<b.1):ziu (jN ms t o) t=ms:=by
 unfold ziu
 rw[zhj ha]
 exact zlg (jI ms t)
theorem has_add{ms:List Mt}{t:Int}{o:OpT}(ha:ms.Pairwise fun a b=>a.1<b.1):hasT (jN ms t o) t=true:=by
 unfold hasT
 rw[zhj ha]
 have e:(jN ms t o)[xo ms t]?=some (t,o):=by
  have hle:=jI ms t
  unfold jN jJ
  rw[List.getElem?_append_right (by rw[List.length_take];omega),List.length_take,Nat.min_eq_left hle,Nat.sub_self];rfl
 rw[e]
 exact decide_eq_true rfl
theorem zbi{t:Int}{ms:List Mt}(ha:ms.Pairwise fun a b=>a.1<b.1):ms.take (ju ms t)=ms.filter fun m=>decide (m.1≤t):=by
 obtain⟨h1,h2⟩:=vO (t:=t) ha
 have hf: ∀l:List Mt,(∀m∈l,t<m.1)→l.filter (fun m=>decide (m.1≤t))=[]:=fun l h=>List.filter_eq_nil_iff.2 fun m hm=>by
  have:=h m hm;simp;omega
 have hl:(ms.take (xo ms t)).filter (fun m=>decide (m.1≤t))=ms.take (xo ms t):=List.filter_eq_self.2 fun m hm=>by
  have:=h1 m hm;simp;omega
 have e:ms.filter (fun m=>decide (m.1≤t))=ms.take (xo ms t)++(ms.drop (xo ms t)).filter fun m=>decide (m.1≤t):=by
  conv=>lhs;rw[←List.take_append_drop (xo ms t) ms,List.filter_append,hl]
 unfold ju
 cases hh:hasT ms t with
 |false=>
  rw[if_neg (by decide),e,hf _ (zk3 ha hh),List.append_nil]
 |true=>
  rw[if_pos rfl,e]
  have hlt:=zld hh
  have hm:ms[xo ms t]?=some ms[xo ms t]:=List.getElem?_eq_getElem hlt
  unfold hasT at hh
  rw[hm]at hh
  have ht:=of_decide_eq_true hh
  rw[List.take_add_one,hm,Option.toList_some,List.drop_eq_getElem_cons hlt,List.filter_cons_of_pos (by simp;omega),hf]
  intro m hx
  have hp:(ms.drop (xo ms t)).Pairwise fun a b=>a.1<b.1:=ha.sublist (List.drop_sublist ..)
  rw[List.drop_eq_getElem_cons hlt]at hp
  have:=(List.pairwise_cons.1 hp).1 m hx
  omega
theorem zqy{k:Int}{ms:List Mt}{t s:Int}{o:OpT}(hk:TLk k ms)(hk2:TLk k (jN ms t o))(hs:s<t):stA k (jN ms t o) s=stA k ms s:=by
 unfold stA
 rw[zbi hk.asc,zbi hk2.asc]
 congr 1
 unfold jN jJ
 rw[List.filter_append,List.filter_cons_of_neg (by simp;omega),←List.filter_append,List.take_append_drop]
end Hw.Fr
namespace Hw.Fr
open Go Go.Proofs Go.Shelf Hw.M Md
theorem zeP{sn:Str}(h:rkF sn≠0): ∃x,zb9 sn=some x∧x.2.2=rkF sn∧1≤x.2.2∧x.2.2≤KM:=by
 have h1:=zp3 sn
 rw[if_neg h]at h1
 cases hx:zb9 sn with
 |none=>rw[hx]at h1;cases h1
 |some x=>
  rw[hx]at h1
  exact⟨x,rfl,Option.some.inj h1,(zcx hx).2.1⟩
theorem zbj(sn:Str)(l:List StT)(x:StT)(hb:zfW l=false∨70<x.o.args.length∨100<sn.size∨rkF sn=0):
 zj Tryz.prog 5 [Sr sn,pS (.sl 4 (l.map zah)),zz (zah x)] [] (.bq true) []:=by
 have hF:=zbS l
 have hK:=wc sn
 have hal:(x.o.args.map zS).length=x.o.args.length:=List.length_map _
 rcases hb with hb|hb|hb|hb
 ·rw[hb]at hF
  refine gO T Tryz.func5 fun C hC=>?_
  repeat' first|refine gG ?_|(exfalso;simp at h;done)|refine gB (fun h=>?_) (fun h=>?_)|refine gC yw ?_|refine gC hF ?_|refine gC hK ?_
  exact gF
 ·refine gO T Tryz.func5 fun C hC=>?_
  repeat' first|refine gG ?_|(exfalso;simp at h;done)|(exfalso;have h2:=of_decide_eq_false h;omega)|refine gB (fun h=>?_) (fun h=>?_)|refine gC yw ?_|refine gC hF ?_|refine gC hK ?_
  all_goals exact gF
 ·refine gO T Tryz.func5 fun C hC=>?_
  repeat' first|refine gG ?_|(exfalso;simp at h;done)|(exfalso;have h2:=of_decide_eq_false h;omega)|refine gB (fun h=>?_) (fun h=>?_)|refine gC yw ?_|refine gC hF ?_|refine gC hK ?_
  all_goals exact gF
 ·rw[hb]at hK
  refine gO T Tryz.func5 fun C hC=>?_
  repeat' first|refine gG ?_|(exfalso;simp at h;done)|refine gB (fun h=>?_) (fun h=>?_)|refine gC yw ?_|refine gC hF ?_|refine gC hK ?_
  all_goals exact gF
end Hw.Fr
namespace Hw.Fr
open Go Go.Proofs Go.Shelf Hw.M Md
theorem zcB{ms:List Mt}{t:Int}(h: ∀m∈ms,t<m.1):xo ms t=0:=by
 cases ms with
 |nil=>rfl
 |cons a l=>
  have:=h a (List.mem_cons_self ..)
  unfold xo
  rw[List.takeWhile_cons_of_neg (by simp;omega)];rfl
theorem ziw{ms:List Mt}{t:Int}(h: ∀m∈ms,t<m.1):hasT ms t=false:=by
 unfold hasT
 rw[zcB h]
 cases ms with
 |nil=>rfl
 |cons a l=>
  have:=h a (List.mem_cons_self ..)
  exact decide_eq_false (by omega)
theorem zix{ms:List Mt}{t:Int}{o:OpT}(h: ∀m∈ms,t<m.1):jN ms t o=(t,o)::ms:=by
 unfold jN jJ
 rw[zcB h];rfl
def zqz(sn:Str)(k:Int)(ms:List Mt):Prop:= ∀m∈ms,zb3 sn k m.2 true=0
theorem znJ{sn:Str}{k:Int}{z:Ts}{s:StT}(hz:zqz sn k z.1):zqz sn k (zl0 sn k z s).1:=by
 unfold zl0
 split
 ·rename_i h
  intro m hm
  have hc:=(wY h).1
  simp only[jN,jJ,List.mem_append,List.mem_cons]at hm
  rcases hm with h2|rfl|h2
  ·exact hz m (List.mem_of_mem_take h2)
  ·exact hc
  ·exact hz m (List.mem_of_mem_drop h2)
 ·exact hz
theorem zli(sn:Str)(k:Int)(l:List StT):zqz sn k (wz sn k l).1:=by
 have: ∀(l:List StT) (z:Ts),zqz sn k z.1→zqz sn k (l.foldl (zl0 sn k) z).1:=by
  intro l
  induction l with
  |nil=>exact fun z h=>h
  |cons s l ih=>exact fun z h=>ih _ (znJ h)
 exact this l _ fun m hm=>by cases hm
theorem zlj{k:Int}{ms l:List Mt}(hk:TLk k ms)(hs:l.Sublist ms):TLk k l:=
 ⟨hk.kind,Nat.le_trans hs.length_le hk.len,hk.asc.sublist hs,fun m hm=>hk.tm m (hs.subset hm),fun m hm=>hk.ok m (hs.subset hm)⟩
theorem znK{sn:Str}{k:Int}{ms:List Mt}{i:Nat}{m:Mt}(hk:TLk k ms)(hc:zqz sn k ms)(hm:ms[i]?=some m):
 zbU sn k (ms.drop (i+1)) m.1 m.2=0∧jN (ms.drop (i+1)) m.1 m.2=ms.drop i:=by
 have hlt:=(List.getElem?_eq_some_iff.1 hm).1
 have he:=(List.getElem?_eq_some_iff.1 hm).2
 have hd:ms.drop i=m::ms.drop (i+1):=by rw[List.drop_eq_getElem_cons hlt,he]
 have hp:(m::ms.drop (i+1)).Pairwise fun a b=>a.1<b.1:=by rw[←hd];exact hk.asc.sublist (List.drop_sublist ..)
 have ha:=(List.pairwise_cons.1 hp).1
 have hmem:=List.mem_of_getElem? hm
 refine⟨?_,by rw[zix ha,hd]⟩
 unfold zbU
 have hl:=hk.len
 rw[if_pos (hc m hmem),if_pos (y9.2 (hk.tm m hmem)),ziw ha,if_neg (by decide),if_neg (by rw[List.length_drop];omega)]
theorem zoA{ms:List Mt}{t:Int}{n:Nat}(ha:ms.Pairwise fun a b=>a.1<b.1)(hn:n≤ms.length)(h1: ∀m∈ms.take n,m.1≤t)(h2: ∀m,ms[n]?=some m→t<m.1):n=ju ms t:=by
 have h3:=zbi (t:=t) ha
 have hd: ∀m∈ms.drop n,t<m.1:=by
  intro m hm
  rcases Nat.lt_or_ge n ms.length with h|h
  ·have e:=List.drop_eq_getElem_cons h
   have h4:=h2 _ (List.getElem?_eq_getElem h)
   have hp:(ms.drop n).Pairwise fun a b=>a.1<b.1:=ha.sublist (List.drop_sublist ..)
   rw[e]at hm hp
   rcases List.mem_cons.1 hm with rfl|hm
   ·exact h4
   ·have:=(List.pairwise_cons.1 hp).1 m hm;omega
  ·rw[List.drop_eq_nil_of_le h]at hm;cases hm
 have e:ms.filter (fun m=>decide (m.1≤t))=ms.take n:=by
  conv=>lhs;rw[←List.take_append_drop n ms,List.filter_append]
  rw[List.filter_eq_self.2 fun m hm=>by have:=h1 m hm;simpa using this,List.filter_eq_nil_iff.2 fun m hm=>by have:=hd m hm;simp;omega,List.append_nil]
 rw[e]at h3
 have h5:=congrArg List.length h3
 have h6:=zk5 ms t
 rw[List.length_take,List.length_take]at h5
 omega
theorem zqA{ms:List Mt}{t:Int}(ha:ms.Pairwise fun a b=>a.1<b.1)(h: ∀m∈ms,m.1≤t):ms.take (ju ms t)=ms:=by
 rw[zbi ha]
 exact List.filter_eq_self.2 fun m hm=>by have:=h m hm;simpa using this
theorem zlk(k:Int): ∀(ms:List Mt) (R:Rws),(runS k R (ms.map (·.2))).1=stO k R ms
 | [],_=>rfl
 |m::l,R=>by simp only[List.map_cons,runS,zlk k l];rfl
end Hw.Fr
namespace Hw.Fr
open Go Go.Proofs Go.Shelf Hw.M Md
theorem zll(sn:Str){k:Int}(r:Int){ms:List Mt}(hk:TLk k ms):
 zj Tryz.prog 32 [.one (.bx 0 0)] (tlC sn k r ms) (.tup [pS (zA (ms.map (·.1))),pS (zoi (ms.map (·.2)))]) (tlC sn k r ms):=by
 have hFl:=xi k ms []
 have hml:=xB hFl
 have hlen:=hk.len
 refine gO T Tryz.func32 fun C hC=>?_
 repeat' first|refine gG ?_|refine gB (fun h=>?_) (fun h=>?_)|refine yI (te:=87) hC rfl rfl (by kernel_rfl) rfl rfl ?_
 rw[hml]
 refine yo hC rfl 113 1 rfl [(4,.one (.ar 113))] ⟨⟨_,rfl,AdS.nil⟩,trivial⟩ [] trivial ?_
 refine yo hC rfl 114 2 rfl [(5,.one (.ar 114))] ⟨⟨_,rfl,AdS.nil⟩,trivial⟩ [] trivial ?_
 refine zy (fun j:Nat=>j≤ms.length) (fun j=>([(13,.one (.ar 1)),(14,I ms.length),(15,I j),(4,.one (.ar 103)),(5,.one (.ar 104))],[(0,some (Res.box [.p (ks sn),.p (ki k),.ar 1,.ar 2,.p (ki r)])),(1,some (.arr 4 (yD ms (flO k [] ms)))),(2,some (.arr 1 (jM k (ptO k ms)))),(103,some (.arr 1 (((ms.take j).map (·.1)).map zS))),(104,some (.arr 2 (((ms.take j).map (·.2)).map opR)))])) (fun j=>ms.length - j) hC
  0 (Nat.zero_le _) (fun i=>mvU 103 113 (mvU 104 114 i)) ⟨rfl,⟨rfl,rfl,rfl,rfl,rfl,trivial⟩,⟨rfl,rfl,rfl,rfl,rfl,trivial⟩,rfl,fun i hi=>(congrArg (mvU _ _) (yg (by omega) hi)).trans (yg (by omega) hi)⟩ ?_
 intro j hj
 refine zI T hC true 200 rfl ?_
 refine zP rfl (fun h=>?_) (fun h=>?_)
 ·have hlt:j<ms.length:=by have:=of_decide_eq_true h;omega
  clear h
  obtain⟨m,hm⟩:=zf hlt
  obtain⟨f,hf,hrow⟩:=zaB hFl hm
  have hoa:m.2.args.length≤64:=(jd (hk.ok m (List.mem_of_getElem? hm))).2.2.2.1
  have hCl:=zbT m.2.args (by omega)
  have h1:((ms.take j).map (·.1)).map zS++[zS m.1]=((ms.take (j+1)).map (·.1)).map zS:=by rw[List.take_add_one,hm,List.map_append,List.map_append];rfl
  have h2:((ms.take j).map (·.2)).map opR++[opR m.2]=((ms.take (j+1)).map (·.2)).map opR:=by rw[List.take_add_one,hm,List.map_append,List.map_append];rfl
  have l1:(((ms.take j).map (·.1)).map zS).length≤140:=by rw[List.length_map,List.length_map,List.length_take];omega
  have l2:(((ms.take j).map (·.2)).map opR).length≤140:=by rw[List.length_map,List.length_map,List.length_take];omega
  repeat' first|refine gG ?_|refine gB (fun h=>?_) (fun h=>?_)|refine zeL T hC (rows:=yD ms (flO k [] ms)) rfl rfl rfl rfl (Int.natCast_nonneg _) (by rw[hml];omega) rfl rfl ?_|refine zaF T hC j 0 (rows:=yD ms (flO k [] ms)) (row:=zin m f) rfl rfl rfl (by simp) hrow rfl rfl rfl ?_|refine gC hCl ?_|refine ya T hC rfl rfl rfl rfl rfl rfl rfl rfl rfl ?_|refine zC T 123 hC (rows:=((ms.take j).map (·.1)).map zS) (rows2:=[zS m.1]) (rows3:=((ms.take (j+1)).map (·.1)).map zS) (bytes:=8) rfl rfl rfl rfl (xj.sl (T.es_ok _ _ rfl)) h1 rfl rfl rfl (by kernel_rfl) (by simp only[List.length_singleton];omega) (by simp only[List.length_singleton];omega) rfl rfl rfl ?_|refine zC T 124 hC (rows:=((ms.take j).map (·.2)).map opR) (rows2:=[opR m.2]) (rows3:=((ms.take (j+1)).map (·.2)).map opR) (bytes:=32) rfl rfl rfl rfl (xj.sl (T.es_ok _ _ rfl)) h2 rfl rfl rfl (by kernel_rfl) (by simp only[List.length_singleton];omega) (by simp only[List.length_singleton];omega) rfl rfl rfl ?_
  rw[wV (by omega)]
  exact zh (j+1) (by omega) (fun i=>mvU 103 123 (mvU 104 124 i)) (by omega) ⟨rfl,⟨rfl,rfl,rfl,rfl,rfl,trivial⟩,⟨rfl,rfl,rfl,rfl,rfl,trivial⟩,rfl,fun i hi=>(congrArg (mvU _ _) (yg (by omega) hi)).trans (yg (by omega) hi)⟩
 ·have hge:j=ms.length:=by have:=of_decide_eq_false h;omega
  subst hge
  rw[List.take_length]
  repeat' first|refine gG ?_|refine gB (fun h=>?_) (fun h=>?_)|refine zp ?_
  refine zm rfl (id:=103) (e:=1) (rows:=(ms.map (·.1)).map zS) rfl [(2,pS (zA (ms.map (·.1))))] ⟨⟨_,rfl,FrS.ar⟩,trivial⟩ [] trivial ?_
  refine zm rfl (id:=104) (e:=2) (rows:=(ms.map (·.2)).map opR) rfl [(3,pS (zoi (ms.map (·.2))))] ⟨⟨_,rfl,FrS.ar⟩,trivial⟩ [] trivial ?_
  exact zg ⟨.inl rfl,id,_,rfl,.refl _,⟨rfl,rfl,rfl,trivial⟩,rfl,rfl⟩
end Hw.Fr
namespace Hw.Fr.Md
open Go Go.Proofs Go.Shelf Hw.M
theorem zhk(k:Int): ∀(R:Rws) (l:List OpT) (o:OpT),runS k R (l++[o])=((xn k (runS k R l).1 o).1,(runS k R l).2++[(xn k (runS k R l).1 o).2])
 |R,[],o=>rfl
 |R,a::l,o=>by simp only[List.cons_append,runS,zhk k (xn k R a).1 l o]
theorem zlm(k:Int): ∀(R:Rws) (l:List OpT),(runS k R l).2.length=l.length
 |R,[]=>rfl
 |R,a::l=>by simp only[runS,List.length_cons,zlm k _ l]
theorem zeQ{k:Int}(hm:k≤KM): ∀ {R:Rws} {l:List OpT},zU k R=true→(∀o∈l,okOp k o=true)→zU k (runS k R l).1=true
 |R,[],hv,_=>hv
 |R,a::l,hv,h=>zeQ hm (R:=(xn k R a).1) (l:=l) (zcw hv (h a (List.mem_cons_self ..)) hm) fun o ho=>h o (List.mem_cons_of_mem _ ho)
theorem zqB(k:Int)(R:Rws)(o:OpT):zj Tryz.prog 66 [zz (opR o),.one (.bx 0 0)] [(0,.box [.p (ki k),.p (z8 R)])] (.bq (!okOp k o)) [(0,.box [.p (ki k),.p (z8 R)])]:=by
 have hO:=wQ k o
 generalize okOp k o=q at hO⊢
 refine gO T Tryz.func66 fun C hC=>?_
 repeat' first|refine gG ?_|refine gB (fun h=>?_) (fun h=>?_)|refine gC hO ?_
 all_goals exact zg ⟨.inl rfl,id,_,rfl,by first|exact .refl _|(subst h;exact LeS.qb rfl),⟨rfl,trivial⟩,rfl,rfl⟩
theorem znL(f:FuncId)(kx:Int)(RX:Rws)(l:List OpT)(p:OpT→Unit→Bool)(nx:OpT→Unit→Unit)(inv:Unit→Prop)
 (hf: ∀x∈l,∀s:Unit,inv s→zj Tryz.prog f [zz (opR x),.one (.bx 0 0)] [(0,.box [.p (ki kx),.p (z8 RX)])] (.bq (p x s)) ((fun s:Unit=>[(0,.box [.p (ki kx),.p (z8 RX)])]) (nx x s))∧(p x s=false→inv (nx x s))) (s:Unit) (hs:inv s):
 zj Tryz.prog 95 [pS (.sl 2 (l.map opR)),.one (.cl f [] [.bx 0 0])] [(0,.box [.p (ki kx),.p (z8 RX)])] (I (idxR p nx l 0 s).1) ((fun s:Unit=>[(0,.box [.p (ki kx),.p (z8 RX)])]) (idxR p nx l 0 s).2):=by
 refine gO T Tryz.func95 fun C hC=>?_
 have hs0:=hs
 refine w9 0 rfl fun hl=>?_
 rw[List.length_map]at hl
 repeat' first|refine gG ?_|refine gB (fun h=>?_) (fun h=>?_)
 rw[List.length_map]
 refine zy (fun q:Nat×Unit=>q.1≤l.length∧inv q.2∧idxR p nx (l.drop q.1) q.1 q.2=idxR p nx l 0 s) (fun q=>(fun s:Unit=>([(0,pS (.sl 2 (l.map opR))),(1,.one (.cl f [] [.bx 0 0])),(7,I l.length),(8,I q.1)],[(0,some (.box [.p (ki kx),.p (z8 RX)]))])) q.2) (fun q=>l.length - q.1) hC
  (0,s) ⟨Nat.zero_le _,hs,rfl⟩ id gM ?_
 generalize idxR p nx l 0 s=res
 clear hs hs0
 rintro⟨i,s⟩ ⟨hi,hv,hn⟩
 simp only at hi hv hn
 refine zI T hC true 200 rfl ?_
 refine zP rfl (fun hh=>?_) (fun hh=>?_)
 ·have hlt:i<l.length:=by simpa using hh
  clear hh
  obtain⟨x,hx⟩:=zf hlt
  rw[drop_at hx]at hn
  simp only[idxR]at hn
  have hv2:=(hf x (List.mem_of_getElem? hx) s hv).2
  repeat' first|refine gG ?_|refine gB (fun h=>?_) (fun h=>?_)|refine gI T (zu hx) ?_|refine zr hC (hf x (List.mem_of_getElem? hx) s hv).1 id rfl rfl (yJ.refl _) rfl rfl rfl rfl rfl rfl rfl rfl ?_|refine zT ?_
  ·rw[if_pos (by assumption)]at hn
   subst hn
   exact gE
  ·have hpf:p x s=false:=by assumption
   rw[hpf]at hn
   simp only[Bool.false_eq_true,if_false]at hn
   rw[wrap64 (by omega)]
   exact zh (i+1,nx x s) ⟨by simp only;omega,hv2 hpf,hn⟩ id (by simp only;omega) gM
 ·have hge: ¬i<l.length:=by simpa using hh
  rw[List.drop_eq_nil_of_le (by omega)]at hn
  simp only[idxR]at hn
  subst hn
  repeat' first|refine gG ?_|refine gB (fun h=>?_) (fun h=>?_)|refine zp ?_
  exact gE
theorem znM(f:FuncId)(kx:Int)(RX:Rws)(l:List OpT)(p:OpT→Unit→Bool)(nx:OpT→Unit→Unit)(inv:Unit→Prop)
 (hf: ∀x∈l,∀s:Unit,inv s→zj Tryz.prog f [zz (opR x),.one (.bx 0 0)] [(0,.box [.p (ki kx),.p (z8 RX)])] (.bq (p x s)) ((fun s:Unit=>[(0,.box [.p (ki kx),.p (z8 RX)])]) (nx x s))∧(p x s=false→inv (nx x s))) (s:Unit) (hs:inv s):
 zj Tryz.prog 65 [pS (.sl 2 (l.map opR)),.one (.cl f [] [.bx 0 0])] [(0,.box [.p (ki kx),.p (z8 RX)])] (.bq (anyR p nx l s).1) ((fun s:Unit=>[(0,.box [.p (ki kx),.p (z8 RX)])]) (anyR p nx l s).2):=by
 refine gO T Tryz.func65 fun C hC=>?_
 repeat' first|refine gG ?_|refine gB (fun h=>?_) (fun h=>?_)|refine gR (znL f kx RX l p nx inv hf s hs) (nm [0]) ?_
 exact zg ⟨.inl rfl,id,_,rfl,.qq (jo p nx l 0 s),by rw[←jq p nx l 0 s];exact⟨rfl,trivial⟩,rfl,rfl⟩
theorem zeR{α:Type}(p:α→Bool): ∀l:List α,(anyR (fun(x:α) (_:Unit)=>p x) (fun _ s=>s) l ()).1=l.any p
 | []=>rfl
 |x::l=>by
  simp only[anyR,List.any_cons]
  cases p x with
  |true=>rfl
  |false=>simp[zeR p l]
theorem zln(k:Int)(R:Rws)(l:List OpT):zj Tryz.prog 65 [pS (zoi l),.one (.cl 66 [] [.bx 0 0])] [(0,.box [.p (ki k),.p (z8 R)])] (.bq (l.any fun o=> !okOp k o)) [(0,.box [.p (ki k),.p (z8 R)])]:=by
 have:=znM 66 k R l (fun o _=> !okOp k o) (fun _ s=>s) (fun _=>True) (fun o _ _ _=>⟨zqB k R o,fun _=>trivial⟩) () trivial
 rw[zeR (fun o=> !okOp k o) l]at this
 exact this
def mv3(a b c d e f i:Nat):Nat:=match Nat.beq i a with
 |true=>b
 |false=>match Nat.beq i c with
  |true=>d
  |false=>match Nat.beq i e with
   |true=>f
   |false=>i
theorem zqC{a b c d e f i:Nat}(ha:100≤a)(hc:100≤c)(he:100≤e)(hi:i<100):mv3 a b c d e f i=i:=by
 unfold mv3;rw[yK (by omega),yK (by omega),yK (by omega)]
theorem znN(k:Int)(R:Rws)(l:List OpT)(hm:k≤KM)(hv:zU k R=true)(hl:(l.any fun o=> !okOp k o)=false)(h5:l.length≤2000):
 zj Tryz.prog 35 [zz (stR k R),pS (zoi l)] [] (.tup [zz (stR k (runS k R l).1),pS (zs5 (runS k R l).2),I 0]) []:=by
 obtain⟨hR,hw⟩:=zay hv
 have hV:=zew k R (fun r hr=>by have:=hw r hr;omega) (by omega)
 have hO:=zln k R l
 have hall: ∀o∈l,okOp k o=true:=fun o ho=>by
  rw[List.any_eq_false]at hl
  simpa using hl o ho
 have hCp:=jX R (by omega) (fun r hr=>by have:=hw r hr;omega)
 rw[hv]at hV
 rw[hl]at hO
 refine gO T Tryz.func35 fun C hC=>?_
 repeat' first|refine gG ?_|(exfalso;simp at h;done)|(exfalso;first|(simp only[decide_eq_true_eq,decide_eq_false_iff_not,List.length_map,Bool.not_eq_true',Bool.not_eq_false']at *; omega)|(simp at h;done))|refine gB (fun h=>?_) (fun h=>?_)|refine gC hV ?_|refine gR hO (nm [1002]) ?_|refine gR hCp (nm [101,102]) ?_
 rw[List.length_map]
 refine yo hC rfl 103 3 rfl [(8,.one (.ar 103))] ⟨⟨_,rfl,AdS.nil⟩,trivial⟩ [] trivial ?_
 refine zy (fun i:Nat=>i≤l.length) (fun i=>([(2,.one (.bx 1002 0)),(4,.one (.bx 1004 0)),(7,.one (.ar 101)),(8,.one (.ar 103)),(29,pS (zoi l)),(30,I l.length),(31,I i)],[(101,some (vg 102 (runS k R (l.take i)).1.length)),(102,some (bg (runS k R (l.take i)).1)),(103,some (.arr 3 ((runS k R (l.take i)).2.map rsR))),(1002,some (.box [.p (ki k),.p (z8 R)])),(1004,some (.box [.p (ki 0),.p (.k (.slice none 0 0))]))])) (fun i=>l.length - i) hC
  0 (Nat.zero_le _) id gM ?_
 intro i hi
 refine zI T hC true 200 rfl ?_
 refine zP rfl (fun h=>?_) (fun h=>?_)
 ·have hlt:i<l.length:=by simpa using h
  clear h
  obtain⟨o,ho⟩:=zf hlt
  have hvi:=zeQ hm (k:=k) (R:=R) (l:=l.take i) hv fun o ho=>hall o (List.mem_of_mem_take ho)
  have hA:=zg6 k (runS k R (l.take i)).1 o hvi (hall o (List.mem_of_getElem? ho)) hm
  have hsn:=zhk k R (l.take i) o
  rw[←zbQ ho]at hsn
  have hrl:=zlm k R (l.take i)
  rw[List.length_take]at hrl
  generalize runS k R (l.take i)=z at hA hsn hrl
  obtain⟨Ri,xs⟩:=z
  simp only at hA hsn hrl
  generalize xn k Ri o=z2 at hA hsn
  obtain⟨Rn,x⟩:=z2
  simp only at hA hsn
  have hxl:(xs.map rsR).length=xs.length:=List.length_map _
  repeat' first|refine gG ?_|refine gB (fun h=>?_) (fun h=>?_)|refine gI T (zu ho) ?_|refine gR hA (nm [101,102,104,105]) ?_|refine ya T hC rfl rfl rfl rfl rfl rfl rfl rfl rfl ?_|refine zC T 106 hC (id:=103) (rows:=xs.map rsR) (rows2:=[rsR x]) (rows3:=(xs++[x]).map rsR) (bytes:=40) rfl rfl rfl rfl (xj.sl (T.es_ok _ _ rfl)) (by rw[List.map_append];rfl) rfl rfl rfl (by kernel_rfl) (by simp only[hxl,List.length_singleton];omega) (by simp only[hxl,List.length_singleton];omega) rfl rfl rfl ?_
  rw[yq (by omega)]
  refine zh (i+1) (by omega) (mv3 101 104 102 105 103 106) (by omega) ?_
  simp only[hsn]
  exact⟨rfl,⟨rfl,rfl,rfl,rfl,rfl,rfl,rfl,trivial⟩,⟨rfl,rfl,rfl,rfl,rfl,trivial⟩,rfl,fun i hi=>zqC (by omega) (by omega) (by omega) hi⟩
 ·have hge: ¬i<l.length:=by simpa using h
  have e:l.take i=l:=List.take_of_length_le (by omega)
  rw[e]
  generalize runS k R l=z
  obtain⟨Rn,xs⟩:=z
  repeat' first|refine gG ?_|refine gB (fun h=>?_) (fun h=>?_)|refine zp ?_
  refine zen rfl [(101,vg 102 Rn.length),(102,bg Rn),(103,.arr 3 (xs.map rsR))] rfl [(5,pS (zs5 xs))] ⟨⟨_,rfl,LnS.one (LnV.ar (.tail _ (.tail _ (.head _))))⟩,trivial⟩ [(1004,.box [.p (ki k),.p (z8 Rn)])] ⟨⟨_,rfl,rfl,LnR.box (.cons (.refl _) (.cons (zow (id:=102) (.head _) (.tail _ (.head _))) .nil))⟩,trivial⟩ ?_
  exact gF
end Hw.Fr.Md
namespace Hw.Fr
open Go Go.Proofs Go.Shelf Hw.M Md
theorem zdu(sn:Str)(l:List StT)(t:Int)(hb:zfW l=false∨100<sn.size∨rkF sn=0):
 zj Tryz.prog 8 [Sr sn,pS (.sl 4 (l.map zah)),Kk .u8 t] [] (.bq true) []:=by
 have hF:=zbS l
 have hK:=wc sn
 rcases hb with hb|hb|hb
 ·rw[hb]at hF
  refine gO T Tryz.func8 fun C hC=>?_
  repeat' first|refine gG ?_|(exfalso;simp at h;done)|refine gB (fun h=>?_) (fun h=>?_)|refine gC yw ?_|refine gC hF ?_|refine gC hK ?_
  exact gF
 ·refine gO T Tryz.func8 fun C hC=>?_
  repeat' first|refine gG ?_|(exfalso;simp at h;done)|(exfalso;have h2:=of_decide_eq_false h;omega)|refine gB (fun h=>?_) (fun h=>?_)|refine gC yw ?_|refine gC hF ?_|refine gC hK ?_
  all_goals exact gF
 ·rw[hb]at hK
  refine gO T Tryz.func8 fun C hC=>?_
  repeat' first|refine gG ?_|(exfalso;simp at h;done)|refine gB (fun h=>?_) (fun h=>?_)|refine gC yw ?_|refine gC hF ?_|refine gC hK ?_
  all_goals exact gF
theorem znO{k:Int}{ms:List Mt}{t:Int}(hk:TLk k ms):stA k (ms.take (ju ms t)) 1073741824=stA k ms t:=by
 have hs:(ms.take (ju ms t)).Sublist ms:=List.take_sublist ..
 unfold stA
 rw[zqA (hk.asc.sublist hs) fun m hm=>(hk.tm m (hs.subset hm)).2]
theorem znQ{k:Int}{ms:List Mt}{t:Int}{j:Nat}(hk:TLk k ms)(hj:j=ju ms t): ∃xs,zj Tryz.prog 35 [zz (stR k []),pS (zoi ((ms.take j).map (·.2)))] [] (.tup [zz (stR k (stA k ms t)),pS (zs5 xs),I 0]) []:=by
 have hR:=znN k [] ((ms.take j).map (·.2)) hk.kind.2 (vN hk.k6) (List.any_eq_false.2 fun o ho=>by
  obtain⟨m,hm,rfl⟩:=List.mem_map.1 ho
  simp[hk.ok m (List.mem_of_mem_take hm)]) (by have:=hk.len;rw[List.length_map,List.length_take];omega)
 subst hj
 rw[zlk]at hR
 exact⟨_,hR⟩
theorem znR{sn:Str}(l:List StT){t:Int}(ht0:0≤t)(ht1:t≤255)(hf:zfW l=true)(hs:sn.size≤100)(hk0:rkF sn≠0):
 zj Tryz.prog 8 [Sr sn,pS (.sl 4 (l.map zah)),Kk .u8 t] [] (.bq true) []:=by
 have hF:=zbS l
 have hK:=wc sn
 obtain⟨y,hy,hyk,hyb⟩:=zeP hk0
 have hM:=zgd hy hyb l (zbe hf)
 have hTk:=zbh (sn:=sn) hyb l
 have hCh:=zli sn y.2.2 l
 have hN:=zbg hy
 rw[hyk]at hM hTk hCh hN
 rw[hf]at hF
 have hkb:1≤rkF sn∧rkF sn≤KM:=hyk ▸ hyb
 generalize rkF sn=k at*
 generalize wz sn k l=z at*
 obtain⟨ms,r⟩:=z
 simp only at hM hTk hCh
 have hlen:=hTk.len
 replace hN:zj Tryz.prog 12 [Sr sn] [] (.tup [.one (.bx 0 0),I 0]) (tlC sn k 0 []):=hN
 have hO:=zll sn r hTk
 have hMn:=zov (k:=k) hTk.k6
 have hl1:((ms.map (·.1)).map zS).length=ms.length:=by rw[List.length_map,List.length_map]
 have hl2:((ms.map (·.2)).map opR).length=ms.length:=by rw[List.length_map,List.length_map]
 refine gO T Tryz.func8 fun C hC=>?_
 repeat' first|refine gG ?_|(exfalso;simp at h;done)|(exfalso;have h2:=of_decide_eq_true h;omega)|(exfalso;simp_all;done)|refine gB (fun h=>?_) (fun h=>?_)|refine gC yw ?_|refine gC hF ?_|refine gC hK ?_|refine yI (te:=87) hC rfl rfl (by kernel_rfl) rfl rfl ?_|refine gR hM (nm [120,121,122]) ?_|refine gR hO (nm [120,121,122]) ?_|refine gR hN (nm [123,124,125]) ?_|refine gC hMn ?_
 clear hM hO hN hMn hF hK
 refine zy (fun j:Nat=>j≤ms.length∧ ∀m∈ms.take j,m.1≤t) (fun j=>([(2,Kk .u8 t),(7,.one (.bx 120 0)),(8,pS (zA (ms.map (·.1)))),(9,pS (zoi (ms.map (·.2)))),(10,.one (.bx 123 0)),(13,.one (.bx 1013 0)),(15,I j)],tlU 120 121 122 sn k r ms (tlU 123 124 125 sn k 0 [] [(1013,some (Res.box ((stR k []).map V.p)))]))) (fun j=>ms.length - j) hC
  0 ⟨Nat.zero_le _,fun m hm=>by cases hm⟩ id gM ?_
 rintro j ⟨hj,hle⟩
 have hw:IntKind.i64.wrap t=t:=wrap64 (by omega)
 have hex:(j<ms.length∧ ∃m,ms[j]?=some m∧m.1≤t)∨(j=ju ms t∧((∃m,ms[j]?=some m∧j<ms.length∧ ¬m.1≤t)∨ms.length≤j)):=by
  by_cases hlt:j<ms.length
  ·obtain⟨m,hm⟩:=zf hlt
   by_cases hq:m.1≤t
   ·exact .inl ⟨hlt,m,hm,hq⟩
   ·exact .inr ⟨zoA hTk.asc hj hle fun m' h'=>by rw[hm]at h';cases h';omega,.inl ⟨m,hm,hlt,hq⟩⟩
  ·exact .inr ⟨zoA hTk.asc hj hle fun m' h'=>absurd (List.getElem?_eq_some_iff.1 h').1 hlt,.inr (by omega)⟩
 rcases hex with⟨hlt,m,hm,hq⟩|⟨hcnt,⟨m,hm,hlt,hq⟩|hge⟩
 ·have hm1:(ms.map (·.1))[j]?=some m.1:=by rw[List.getElem?_map,hm];rfl
  repeat' first|refine gG ?_|(exfalso;have h2:=of_decide_eq_false h;omega)|(exfalso;rw[hw]at h;exact absurd hq (of_decide_eq_false h))|refine gB (fun h=>?_) (fun h=>?_)|refine gI T (zu hm1) ?_
  rw[wV (by omega)]
  refine zh (j+1) ⟨hlt,fun m' h'=>?_⟩ id (by omega) gM
  rw[List.take_add_one,hm,List.mem_append]at h'
  rcases h' with h'|h'
  ·exact hle m' h'
  ·cases List.mem_singleton.1 h';exact hq
 all_goals
  obtain⟨xs,hR⟩:=znQ hTk hcnt
  repeat' first|refine gG ?_|(exfalso;have h2:=of_decide_eq_false h;omega)|(exfalso;have h2:=of_decide_eq_true h;omega)|(exfalso;rw[hw]at h;exact absurd (of_decide_eq_true h) hq)|refine gB (fun h=>?_) (fun h=>?_)|refine yh T hC rfl rfl rfl (Int.natCast_nonneg _) (zu (l:=ms.map (·.1)) (by rw[List.getElem?_map,hm];rfl)) rfl rfl ?_|refine zp ?_|refine yP T hC (((ms.take j).map (·.2)).map opR) rfl rfl rfl (Int.natCast_nonneg _) (by rw[hl2];omega) (by rw[Int.toNat_natCast,List.map_take,List.map_take]) rfl rfl ?_|refine gC hR ?_
  clear hR hl1 hl2 hle
  have hTs:TLk k (ms.take j):=zlj hTk (List.take_sublist ..)
  have hCs:zqz sn k (ms.take j):=fun m hm=>hCh m (List.mem_of_mem_take hm)
  have hsl:(ms.take j).length=j:=by rw[List.length_take];omega
  have hd0:(ms.take j).drop j=[]:=List.drop_eq_nil_of_le (by omega)
  have hS1:=zad sn r t hTk (y9.2 ⟨ht0,by omega⟩)
  have hS2:=fun r=>zad sn r 1073741824 hTs (y9.2 ⟨by decide,by decide⟩)
  have hpe:=znO (t:=t) hTk
  rw[←hcnt]at hpe
  simp only[hpe]at hS2
  have hSm:=zbc k k (stA k ms t) (stA k ms t)
  rw[show(decide (k=k)&&decide (stA k ms t=stA k ms t))=true by simp]at hSm
  rw[wrap64 (by omega)]
  refine zy (fun q:Nat×Int=>q.1≤j) (fun q=>([(2,Kk .u8 t),(7,.one (.bx 120 0)),(8,pS (zA (ms.map (·.1)))),(9,pS (zoi (ms.map (·.2)))),(10,.one (.bx 123 0)),(13,.one (.bx 1013 0)),(14,I 0),(16,I ((q.1:Int) - 1))],tlU 120 121 122 sn k r ms (tlU 123 124 125 sn k q.2 ((ms.take j).drop q.1) [(1013,some (Res.box ((stR k (stA k ms t)).map V.p)))]))) (fun q=>q.1) hC
   (j,0) (Nat.le_refl _) id (by simp only[hd0];exact gM) ?_
  rintro⟨d,r2⟩ hdj
  simp only at hdj
  refine zI T hC true 200 rfl ?_
  refine zP rfl (fun h=>?_) (fun h=>?_)
  ·obtain⟨e,rfl⟩: ∃e,d=e+1:=⟨d - 1,by have:=of_decide_eq_true h;(try dsimp only at this);omega⟩
   clear h
   obtain⟨m,hm⟩:=zf (l:=ms.take j) (i:=e) (by omega)
   have hmm:ms[e]?=some m:=by rw[List.getElem?_take,if_pos (by omega)]at hm;exact hm
   obtain⟨ha0,ha1⟩:=znK hTs hCs hm
   have hA:=vt sn r2 m.1 m.2 (zlj hTs (List.drop_sublist ..)) ha0
   rw[ha1]at hA
   rw[show((e+1:Nat):Int) - 1=(e:Int) by omega]
   repeat' first|refine gG ?_|(exfalso;simp at h;done)|refine gB (fun h=>?_) (fun h=>?_)|refine yh T hC rfl rfl rfl (Int.natCast_nonneg _) (zu (l:=ms.map (·.1)) (by rw[List.getElem?_map,hmm];rfl)) rfl rfl ?_|refine yh T hC rfl rfl rfl (Int.natCast_nonneg _) (zu (l:=ms.map (·.2)) (by rw[List.getElem?_map,hmm];rfl)) rfl rfl ?_|refine gR hA (nm [123,124,125,126,127]) ?_
   rw[wrap64 (by omega)]
   exact zh (e,_) (by simp only;omega) (fun i=>mvU 124 126 (mvU 125 127 i)) (by simp only;omega) ⟨rfl,⟨rfl,rfl,rfl,rfl,rfl,rfl,rfl,rfl,trivial⟩,⟨rfl,rfl,rfl,rfl,rfl,rfl,rfl,trivial⟩,rfl,fun i hi=>(congrArg (mvU _ _) (yg (by omega) hi)).trans (yg (by omega) hi)⟩
  ·obtain rfl:d=0:=by have:=of_decide_eq_false h;(try dsimp only at this);omega
   clear h
   rw[List.drop_zero]
   repeat' first|refine gG ?_|(exfalso;simp at h;done)|refine gB (fun h=>?_) (fun h=>?_)|refine zp ?_|(rw[hw])|refine gR hS1 (nm [120,121,122]) ?_|refine gR (hS2 _) (nm [123,124,125]) ?_|refine gC hSm ?_
   all_goals exact zg ⟨.inl rfl,id,_,rfl,.qq (by decide),trivial,rfl,rfl⟩
theorem zur{b:Int}(hw:(Lit.int .u8 b).wf=true):0≤b∧b≤255:=by
 simp[Lit.wf,IntKind.min,IntKind.max,IntKind.bits,IntKind.signed]at hw
 omega
abbrev U8:={n:Int // 0≤n∧n≤255}
theorem ziy(sn:Str)(l:List StT)(c:U8):zj Tryz.prog 8 [Sr sn,pS (.sl 4 (l.map zah)),.one (.p (.k (.int .u8 c.1)))] [] (.bq true) []:=by
 by_cases hf:zfW l=true
 rotate_left
 ·exact zdu sn l c.1 (.inl (by simpa using hf))
 by_cases hs:sn.size≤100
 rotate_left
 ·exact zdu sn l c.1 (.inr (.inl (by omega)))
 by_cases hk:rkF sn=0
 ·exact zdu sn l c.1 (.inr (.inr hk))
 exact znR l c.2.1 c.2.2 hf hs hk
end Hw.Fr
namespace Hw.Fr
open Go Go.Proofs Go.Shelf Hw.M Md
theorem wZ(a b:Str)(l:List StT)(t:Int)(o:OpT)(hb:zfW l=false∨70<o.args.length∨100<a.size∨100<b.size∨rkF a=0∨rkF a≠rkF b):
 zj Tryz.prog 7 [Sr a,Sr b,pS (.sl 4 (l.map zah)),Kk .u8 t,zz (opR o)] [] (.bq true) []:=by
 have hF:=zbS l
 have hK:=wc a
 have hK2:=wc b
 have hal:(o.args.map zS).length=o.args.length:=List.length_map _
 rcases hb with hb|hb|hb|hb|hb|hb
 ·rw[hb]at hF
  refine gO T Tryz.func7 fun C hC=>?_
  repeat' first|refine gG ?_|(exfalso;simp at h;done)|refine gB (fun h=>?_) (fun h=>?_)|refine gC yw ?_|refine gC hF ?_|refine gC hK ?_|refine gC hK2 ?_
  exact gF
 ·refine gO T Tryz.func7 fun C hC=>?_
  repeat' first|refine gG ?_|(exfalso;simp at h;done)|(exfalso;have h2:=of_decide_eq_false h;omega)|refine gB (fun h=>?_) (fun h=>?_)|refine gC yw ?_|refine gC hF ?_|refine gC hK ?_|refine gC hK2 ?_
  all_goals exact gF
 ·refine gO T Tryz.func7 fun C hC=>?_
  repeat' first|refine gG ?_|(exfalso;simp at h;done)|(exfalso;have h2:=of_decide_eq_false h;omega)|refine gB (fun h=>?_) (fun h=>?_)|refine gC yw ?_|refine gC hF ?_|refine gC hK ?_|refine gC hK2 ?_
  all_goals exact gF
 ·refine gO T Tryz.func7 fun C hC=>?_
  repeat' first|refine gG ?_|(exfalso;simp at h;done)|(exfalso;have h2:=of_decide_eq_false h;omega)|refine gB (fun h=>?_) (fun h=>?_)|refine gC yw ?_|refine gC hF ?_|refine gC hK ?_|refine gC hK2 ?_
  all_goals exact gF
 ·rw[hb]at hK
  refine gO T Tryz.func7 fun C hC=>?_
  repeat' first|refine gG ?_|(exfalso;simp at h;done)|refine gB (fun h=>?_) (fun h=>?_)|refine gC yw ?_|refine gC hF ?_|refine gC hK ?_|refine gC hK2 ?_
  all_goals exact gF
 ·refine gO T Tryz.func7 fun C hC=>?_
  repeat' first|refine gG ?_|(exfalso;simp at h;done)|(exfalso;exact hb (by simpa using h))|refine gB (fun h=>?_) (fun h=>?_)|refine gC yw ?_|refine gC hF ?_|refine gC hK ?_|refine gC hK2 ?_
  all_goals exact gF
theorem zhl(sn:Str){k:Int}(r:Int){ms:List Mt}(t:Int)(o:OpT)(hk:TLk k ms): ∃(x:RsT) (e r2:Int),zj Tryz.prog 31 [.one (.bx 0 0),I t,zz (opR o)] (tlC sn k r ms) (.tup [zz (rsR x),I e]) (tlC sn k r2 ms)∧(e=0→x=(xn k (stA k ms t) o).2):=by
 by_cases hq:zk6 sn k t o=0
 ·exact⟨_,_,_,zdr sn r t o hk hq,fun _=>rfl⟩
 ·exact⟨_,_,_,zqq sn r (ms:=ms) t o hq,fun h=>absurd h hq⟩
set_option maxHeartbeats 1000000 in
theorem zlo{a b:Str}(l:List StT){t:Int}(o:OpT)(ht0:0≤t)(ht1:t≤255)(hf:zfW l=true)(ho:o.args.length≤70)(hs:a.size≤100)(hs2:b.size≤100)(hk0:rkF a≠0)(he:rkF a=rkF b):
 zj Tryz.prog 7 [Sr a,Sr b,pS (.sl 4 (l.map zah)),Kk .u8 t,zz (opR o)] [] (.bq true) []:=by
 have hF:=zbS l
 have hK:=wc a
 have hK2:=wc b
 have hal:(o.args.map zS).length=o.args.length:=List.length_map _
 obtain⟨y,hy,hyk,hyb⟩:=zeP hk0
 obtain⟨y2,hy2,hyk2,_⟩:=zeP (sn:=b) (he ▸ hk0)
 have hM:=zhg hy
 have hM2:=zhg hy2
 rw[hyk]at hM hyb
 rw[hyk2,←he]at hM2
 rw[←he]at hK2
 rw[hf]at hF
 generalize rkF a=k at*
 clear he
 have hlen:=zbe hf
 have hw:IntKind.i64.wrap t=t:=wrap64 (by omega)
 have htb:wW t=true:=y9.2 ⟨ht0,by omega⟩
 refine gO T Tryz.func7 fun C hC=>?_
 repeat' first|refine gG ?_|(exfalso;simp at h;done)|(exfalso;have h2:=of_decide_eq_true h;omega)|(exfalso;simp_all;done)|refine gB (fun h=>?_) (fun h=>?_)|refine gC yw ?_|refine gC hF ?_|refine gC hK ?_|refine gC hK2 ?_|refine yI (te:=87) hC rfl rfl (by kernel_rfl) rfl rfl ?_|refine gR hM (nm [120,121,122]) ?_|refine gR hM2 (nm [123,124,125]) ?_
 rw[List.length_map]
 clear hM hM2 hF hK hK2
 refine zy (fun q:Nat×List Mt×Int×Int=>q.1≤l.length∧TLk k q.2.1) (fun q=>([(3,Kk .u8 t),(9,.one (.bx 1009 0)),(11,.one (.bx 120 0)),(12,.one (.bx 123 0)),(69,pS (.sl 4 (l.map zah))),(70,I l.length),(71,I q.1)],tlU 120 121 122 a k q.2.2.1 q.2.1 (tlU 123 124 125 b k q.2.2.2 q.2.1 [(1009,some (Res.box ((opR o).map V.p)))]))) (fun q=>l.length - q.1) hC
  (0,[],0,0) ⟨Nat.zero_le _,zdt hyb⟩ id gM ?_
 rintro⟨j,ms,r1,r2⟩ ⟨hj,hk⟩
 simp only at hj hk
 refine zI T hC true 200 rfl ?_
 refine zP rfl (fun h=>?_) (fun h=>?_)
 ·have hlt:j<l.length:=by have:=of_decide_eq_true h;(try dsimp only at this);omega
  clear h
  obtain⟨s,hs⟩:=zf hlt
  by_cases h0:zbU a k ms s.time s.o=0
  ·have hA:=vt a r1 s.time s.o hk h0
   have hk2:=zaG hk h0
   by_cases h1:zbU b k ms s.time s.o=0
   ·have hB:=vt b r2 s.time s.o hk h1
    repeat' first|refine gG ?_|(exfalso;simp at h;done)|refine gB (fun h=>?_) (fun h=>?_)|refine gI T (zu hs) ?_|refine gR hA (nm [120,121,122,126,127]) ?_|refine gR hB (nm [123,124,125,128,129]) ?_
    rw[wV (by omega)]
    exact zh (j+1,jN ms s.time s.o,_,_) ⟨hlt,hk2⟩ (fun i=>mvU 121 126 (mvU 122 127 (mvU 124 128 (mvU 125 129 i)))) (by simp only;omega) ⟨rfl,⟨rfl,rfl,rfl,rfl,rfl,rfl,rfl,trivial⟩,⟨rfl,rfl,rfl,rfl,rfl,rfl,rfl,trivial⟩,rfl,fun i hi=>by show mvU 121 126 (mvU 122 127 (mvU 124 128 (mvU 125 129 i)))=i;rw[yg (by omega) hi,yg (by omega) hi,yg (by omega) hi,yg (by omega) hi]⟩
   ·have hB:=zdq b r2 s.time s.o hk h1
    have hR:=fun r=>zhh a r s.time hk2 (by unfold zsh;rw[if_pos (wY h0).2.1,if_pos (has_add hk.asc)])
    simp only[zlh hk.asc]at hR
    generalize zbU b k ms s.time s.o=e at*
    repeat' first|refine gG ?_|(exfalso;simp at h;done)|(exfalso;exact h1 (by simpa using h))|refine gB (fun h=>?_) (fun h=>?_)|refine gI T (zu hs) ?_|refine gR hA (nm [120,121,122,126,127]) ?_|refine gR hB (nm [123,124,125]) ?_|refine gR (hR _) (nm [120,126,127,130,131]) ?_
    rw[wV (by omega)]
    exact zh (j+1,ms,_,_) ⟨hlt,hk⟩ (fun i=>mvU 121 130 (mvU 122 131 i)) (by simp only;omega) ⟨rfl,⟨rfl,rfl,rfl,rfl,rfl,rfl,rfl,trivial⟩,⟨rfl,rfl,rfl,rfl,rfl,rfl,rfl,trivial⟩,rfl,fun i hi=>by show mvU 121 130 (mvU 122 131 i)=i;rw[yg (by omega) hi,yg (by omega) hi]⟩
  ·have hA:=zdq a r1 s.time s.o hk h0
   generalize zbU a k ms s.time s.o=e at*
   repeat' first|refine gG ?_|(exfalso;simp at h;done)|(exfalso;exact h0 (by simpa using h))|refine gB (fun h=>?_) (fun h=>?_)|refine gI T (zu hs) ?_|refine gR hA (nm [120,121,122]) ?_
   rw[wV (by omega)]
   exact zh (j+1,ms,_,_) ⟨hlt,hk⟩ id (by simp only;omega) gM
 ·clear h hj
  have hml:((ms.map (·.1)).map zS).length=ms.length:=by rw[List.length_map,List.length_map]
  have hO:=zll a r1 hk
  have hL:=zk7 b k r2 ms
  have hS1:=zad a r1 t hk htb
  have hS2:=zad b r2 t hk htb
  have hSm:=zbc k k (stA k ms t) (stA k ms t)
  rw[show(decide (k=k)&&decide (stA k ms t=stA k ms t))=true by simp]at hSm
  generalize zlZ (ju ms t) (ju ms t) (ptO k ms).length=r3 at*
  obtain⟨x1,e1,r4,hQ1,hx1⟩:=zhl a r3 t o hk
  obtain⟨x2,e2,r5,hQ2,hx2⟩:=zhl b r3 t o hk
  by_cases he1:e1=0
  ·by_cases he2:e2=0
   ·subst he1 he2
    have hR:=zcq x1 x2
    rw[hx1 rfl,hx2 rfl,decide_eq_true rfl]at hR
    rw[hx1 rfl]at hQ1
    rw[hx2 rfl]at hQ2
    repeat' first|refine gG ?_|(exfalso;simp at h;done)|(exfalso;rw[hml]at h;simp at h;done)|refine gB (fun h=>?_) (fun h=>?_)|refine zp ?_|(rw[hw])|refine gR hO (nm [120,121,122]) ?_|refine gR hL (nm [123,124,125]) ?_|refine gR hS1 (nm [120,121,122]) ?_|refine gR hS2 (nm [123,124,125]) ?_|refine gC hSm ?_|refine gR hQ1 (nm [120,121,122]) ?_|refine gR hQ2 (nm [123,124,125]) ?_|refine gC hR ?_
    all_goals exact zg ⟨.inl rfl,id,_,rfl,by first|exact .refl _|exact LeS.qb rfl|exact .qq (by decide),trivial,rfl,rfl⟩
   ·repeat' first|refine gG ?_|(exfalso;simp at h;done)|(exfalso;rw[hml]at h;simp at h;done)|(exfalso;exact he2 (by simpa using h))|refine gB (fun h=>?_) (fun h=>?_)|refine zp ?_|(rw[hw])|refine gR hO (nm [120,121,122]) ?_|refine gR hL (nm [123,124,125]) ?_|refine gR hS1 (nm [120,121,122]) ?_|refine gR hS2 (nm [123,124,125]) ?_|refine gC hSm ?_|refine gR hQ1 (nm [120,121,122]) ?_|refine gR hQ2 (nm [123,124,125]) ?_
    all_goals exact zg ⟨.inl rfl,id,_,rfl,by first|exact .refl _|exact LeS.qb rfl|exact .qq (by decide),trivial,rfl,rfl⟩
  ·repeat' first|refine gG ?_|(exfalso;simp at h;done)|(exfalso;rw[hml]at h;simp at h;done)|(exfalso;exact he1 (by simpa using h))|refine gB (fun h=>?_) (fun h=>?_)|refine zp ?_|(rw[hw])|refine gR hO (nm [120,121,122]) ?_|refine gR hL (nm [123,124,125]) ?_|refine gR hS1 (nm [120,121,122]) ?_|refine gR hS2 (nm [123,124,125]) ?_|refine gC hSm ?_|refine gR hQ1 (nm [120,121,122]) ?_|refine gR hQ2 (nm [123,124,125]) ?_
   all_goals exact zg ⟨.inl rfl,id,_,rfl,by first|exact .refl _|exact LeS.qb rfl|exact .qq (by decide),trivial,rfl,rfl⟩
theorem zhm(a b:Str)(l:List StT)(c:U8)(o:OpT):zj Tryz.prog 7 [Sr a,Sr b,pS (.sl 4 (l.map zah)),.one (.p (.k (.int .u8 c.1))),zz (opR o)] [] (.bq true) []:=by
 by_cases hf:zfW l=true
 rotate_left
 ·exact wZ a b l c.1 o (.inl (by simpa using hf))
 by_cases ho:o.args.length≤70
 rotate_left
 ·exact wZ a b l c.1 o (.inr (.inl (by omega)))
 by_cases hs:a.size≤100
 rotate_left
 ·exact wZ a b l c.1 o (.inr (.inr (.inl (by omega))))
 by_cases hs2:b.size≤100
 rotate_left
 ·exact wZ a b l c.1 o (.inr (.inr (.inr (.inl (by omega)))))
 by_cases hk:rkF a=0
 ·exact wZ a b l c.1 o (.inr (.inr (.inr (.inr (.inl hk)))))
 by_cases he:rkF a=rkF b
 ·exact zlo l o c.2.1 c.2.2 hf ho hs hs2 hk he
 ·exact wZ a b l c.1 o (.inr (.inr (.inr (.inr (.inr he)))))
end Hw.Fr
namespace Hw.Fr
open Go Go.Proofs Go.Shelf Hw.M Md
theorem zqD{sn:Str}(l:List StT)(x:StT)(hf:zfW l=true)(ho:x.o.args.length≤70)(hs:sn.size≤100)(hk0:rkF sn≠0)(ha:zbU sn (rkF sn) (wz sn (rkF sn) l).1 x.time x.o≠0):
 zj Tryz.prog 5 [Sr sn,pS (.sl 4 (l.map zah)),zz (zah x)] [] (.bq true) []:=by
 have hF:=zbS l
 have hK:=wc sn
 have hal:(x.o.args.map zS).length=x.o.args.length:=List.length_map _
 obtain⟨y,hy,hyk,hyb⟩:=zeP hk0
 have hM:=zgd hy hyb l (zbe hf)
 have hTk:=zbh (sn:=sn) hyb l
 rw[hyk]at hM hTk
 rw[hf]at hF
 generalize rkF sn=k at*
 have hA:=zdq sn (zsi k (wz sn k l).2 (wz sn k l).1 20) x.time x.o hTk ha
 have hS:=fun r=>zbW sn r hTk
 have hE:=zle k (zeO k (wz sn k l).1 20)
 generalize zbU sn k (wz sn k l).1 x.time x.o=e at*
 generalize wz sn k l=z at*
 obtain⟨ms,r⟩:=z
 simp only at hM hTk hA hS hE
 refine gO T Tryz.func5 fun C hC=>?_
 repeat' first|refine gG ?_|(exfalso;simp at h;done)|(exfalso;have h2:=of_decide_eq_true h;omega)|(exfalso;simp_all;done)|refine gB (fun h=>?_) (fun h=>?_)|refine gC yw ?_|refine gC hF ?_|refine gC hK ?_|refine yI (te:=87) hC rfl rfl (by kernel_rfl) rfl rfl ?_|refine gR hM (nm [120,121,122]) ?_|refine gR (hS _) (nm [120,121,122,1007]) ?_|refine gR hA (nm [120,121,122]) ?_|refine gC hE ?_
 all_goals exact zg ⟨.inl rfl,id,_,rfl,.qq (by decide),trivial,rfl,rfl⟩
theorem zlp(k:Int)(ms:List Mt){n j:Nat}(h:j<n):(zeO k ms n)[j]?=some (stA k ms (3*(j:Int))):=by
 unfold zeO
 rw[List.getElem?_map,List.getElem?_range h];rfl
theorem znS{sn:Str}(l:List StT)(x:StT)(hf:zfW l=true)(ho:x.o.args.length≤70)(hs:sn.size≤100)(hk0:rkF sn≠0)(ha:zbU sn (rkF sn) (wz sn (rkF sn) l).1 x.time x.o=0):
 zj Tryz.prog 5 [Sr sn,pS (.sl 4 (l.map zah)),zz (zah x)] [] (.bq true) []:=by
 have hF:=zbS l
 have hK:=wc sn
 have hal:(x.o.args.map zS).length=x.o.args.length:=List.length_map _
 obtain⟨y,hy,hyk,hyb⟩:=zeP hk0
 have hM:=zgd hy hyb l (zbe hf)
 have hTk:=zbh (sn:=sn) hyb l
 rw[hyk]at hM hTk
 rw[hf]at hF
 generalize rkF sn=k at*
 generalize wz sn k l=z at*
 obtain⟨ms,r⟩:=z
 simp only at hM hTk ha
 have hTk2:=zaG hTk ha
 have hA:=vt sn (zsi k r ms 20) x.time x.o hTk ha
 have hR:=fun r=>zhh sn r x.time hTk2 (ms:=jN ms x.time x.o) (by unfold zsh;rw[if_pos (wY ha).2.1,if_pos (has_add hTk.asc)])
 simp only[zlh hTk.asc]at hR
 have hS:=fun r=>zbW sn r hTk
 have hS2:=fun r=>zbW sn r hTk2
 have hE:=zle k (zeO k ms 20)
 have hmid: ∀j:Nat,3*(j:Int)<x.time→stA k (jN ms x.time x.o) (3*(j:Int))=stA k ms (3*(j:Int)):=fun j h=>zqy hTk hTk2 h
 generalize jN ms x.time x.o=ms2 at*
 have hl1:=zhi k ms 20
 refine gO T Tryz.func5 fun C hC=>?_
 repeat' first|refine gG ?_|(exfalso;simp at h;done)|(exfalso;have h2:=of_decide_eq_true h;omega)|(exfalso;simp_all;done)|refine gB (fun h=>?_) (fun h=>?_)|refine gC yw ?_|refine gC hF ?_|refine gC hK ?_|refine yI (te:=87) hC rfl rfl (by kernel_rfl) rfl rfl ?_|refine gR hM (nm [120,121,122]) ?_|refine gR (hS _) (nm [120,121,122,1007]) ?_|refine gR hA (nm [120,121,122,123,124]) ?_|refine gR (hS2 _) (nm [120,123,124,1007]) ?_|refine gR (hR _) (nm [120,123,124,125,126]) ?_|refine gR (hS _) (nm [120,125,126,1007]) ?_|refine gC hE ?_
 rw[hl1]
 refine zy (fun j:Nat=>j≤20) (fun j=>([(5,.one (.bx 1005 0)),(9,pS (.sl 2 ((zeO k ms 20).map (stR k)))),(13,pS (.sl 2 ((zeO k ms2 20).map (stR k)))),(100,I (20:Nat)),(101,I j)],[(1005,some (.box ((zah x).map V.p)))])) (fun j=>20 - j) hC
  0 (Nat.zero_le _) id gM ?_
 intro j hj
 refine zI T hC true 200 rfl ?_
 refine zP rfl (fun h=>?_) (fun h=>?_)
 ·have hlt:j<20:=by have:=of_decide_eq_true h;omega
  clear h
  have hw:IntKind.i64.wrap (3*(j:Int))=3*(j:Int):=wrap64 (by omega)
  have ha1:=zu (f:=stR k) (zlp k ms hlt)
  have ha2:=zu (f:=stR k) (zlp k ms2 hlt)
  by_cases hc:3*(j:Int)<x.time
  ·rw[hmid j hc]at ha2
   have hSm:=zbc k k (stA k ms (3*(j:Int))) (stA k ms (3*(j:Int)))
   rw[show(decide (k=k)&&decide (stA k ms (3*(j:Int))=stA k ms (3*(j:Int))))=true by simp]at hSm
   repeat' first|refine gG ?_|(exfalso;simp at h;done)|(exfalso;rw[hw]at h;exact absurd hc (of_decide_eq_false h))|refine gB (fun h=>?_) (fun h=>?_)|(rw[hw])|refine gI T ha1 ?_|refine gI T ha2 ?_|refine gC hSm ?_
   rw[wV (by omega)]
   exact zh (j+1) (by omega) id (by omega) gM
  ·repeat' first|refine gG ?_|(exfalso;simp at h;done)|(exfalso;rw[hw]at h;exact absurd (of_decide_eq_true h) hc)|refine gB (fun h=>?_) (fun h=>?_)|(rw[hw])
   rw[wV (by omega)]
   exact zh (j+1) (by omega) id (by omega) gM
 ·repeat' first|refine gG ?_|refine gB (fun h=>?_) (fun h=>?_)|refine zp ?_
  exact zg ⟨.inl rfl,id,_,rfl,LeS.qb rfl,trivial,rfl,rfl⟩
theorem ziR(sn:Str)(l:List StT)(x:StT):zj Tryz.prog 5 [Sr sn,pS (.sl 4 (l.map zah)),zz (zah x)] [] (.bq true) []:=by
 by_cases hf:zfW l=true
 rotate_left
 ·exact zbj sn l x (.inl (by simpa using hf))
 by_cases ho:x.o.args.length≤70
 rotate_left
 ·exact zbj sn l x (.inr (.inl (by omega)))
 by_cases hs:sn.size≤100
 rotate_left
 ·exact zbj sn l x (.inr (.inr (.inl (by omega))))
 by_cases hk:rkF sn=0
 ·exact zbj sn l x (.inr (.inr (.inr hk)))
 by_cases ha:zbU sn (rkF sn) (wz sn (rkF sn) l).1 x.time x.o=0
 ·exact znS l x hf ho hs hk ha
 ·exact zqD l x hf ho hs hk ha
end Hw.Fr
namespace Hw.Fr
open Go Go.Proofs Go.Shelf Hw.M Md
theorem zlq(t:Int)(o:OpT):zj Tryz.prog 9 [I t,zz (opR o)] [] (.bq true) []:=by
 have hR:=zcq ⟨0,0⟩ ⟨0,0⟩
 rw[decide_eq_true rfl]at hR
 have hS:=zm7 0 0 [] []
 rw[show(decide ((0:Int)=0)&&decide (([]:Rws)=[]))=true by decide]at hS
 refine gO T Tryz.func9 fun C hC=>?_
 repeat' first|refine gG ?_|(exfalso;simp at h;done)|(exfalso;revert h;decide)|refine gB (fun h=>?_) (fun h=>?_)|refine gC yw ?_|refine gC (zla t o) ?_|refine gC (zlb t) ?_|refine gC zqs ?_|refine gC (zqr t o) ?_|refine gC (zit t) ?_|refine gC hR ?_|refine ziY hC hS rfl rfl (yJ.cons (.refl _) (.cons (LeS.emp 0) .nil)) rfl rfl rfl ?_|refine gC zqt ?_|refine gC znH ?_|refine gC zqu ?_|refine gC zqv ?_
 all_goals exact zg ⟨.inl rfl,id,_,rfl,by first|exact .refl _|exact .qq (by decide)|exact LeS.qb rfl,trivial,rfl,rfl⟩
end Hw.Fr
namespace Hw.Fr.Md
open Go Go.Proofs Hw.M
section
variable {H:Type} {enc:TypeId×Value→H} {w:World} {base:Nat} {spare:Nat→Bool} {held:Bool}
theorem zqE(n:Nat):Rd enc Tryz.prog w base spare held n 31 (fun l:List Int=>[zA l]):=
 znT (e:=3) (c:=1) (R:=zS) (by kernel_rfl) (by kernel_rfl) (by decide) fun m _=>zhn (by kernel_rfl)
theorem ztH(n:Nat):Rd enc Tryz.prog w base spare held n 33 opR:=by
 intro cs x h
 obtain⟨m,rfl,c0,r0,x0,rfl,h0,c1,r1,x1,rfl,h1,rfl⟩:=zbX (l:=[(3,1),(31,1)]) (by kernel_rfl) h
 obtain⟨a0,k0⟩:=zhn (by kernel_rfl) c0 x0 h0
 obtain⟨a1,k1⟩:=zqE m c1 x1 h1
 refine⟨⟨a0,a1⟩,?_⟩
 exact(k0.app (k1.app (show CellsM (vQ w) [] [] from trivial)))
end
end Hw.Fr.Md
namespace Hw.Fr
open Go Go.Proofs Hw.M Md
section
variable {H:Type} {enc:TypeId×Value→H} {w:World} {base:Nat} {spare:Nat→Bool} {held:Bool}
theorem zt6(n:Nat):Rd enc Tryz.prog w base spare held n 35 zah:=by
 intro cs x h
 obtain⟨m,rfl,c0,r0,x0,rfl,h0,c1,r1,x1,rfl,h1,c2,r2,x2,rfl,h2,rfl⟩:=zbX (l:=[(3,1),(3,1),(33,2)]) (by kernel_rfl) h
 obtain⟨a0,k0⟩:=zhn (by kernel_rfl) c0 x0 h0
 obtain⟨a1,k1⟩:=zhn (by kernel_rfl) c1 x1 h1
 obtain⟨a2,k2⟩:=Md.ztH m c2 x2 h2
 refine⟨⟨a0,a1,a2⟩,?_⟩
 exact(k0.app (k1.app (k2.app (show CellsM (vQ w) [] [] from trivial))))
end
end Hw.Fr
/- A laid variable that holds an interface value. -/
namespace Hw
open Go Go.Proofs
theorem zqU{P:Program}{W:World}{name nm:String}{d:DataW Unit}{rest:List (String×DataW Unit)}{g:Nat}{t:TypeId}{ms:Array (String×TypeId)}
 (hg:P.globalNamed name=some g) (hty:(P.globals[g]?).map (·.type)=some t) (ht:P.underlying t=some (.interface ms)) (h:laidMet P ((name,.iface nm d)::rest) W): ∃u v,vQ W g 0=some (.iface u v):=by
 obtain⟨ps,⟨g',t',cs,fuel,p,q,hg',ht',hvar,hd,_,_⟩,_⟩:=h
 obtain rfl:=Option.some.inj (hg.symm.trans hg')
 obtain rfl:=Option.some.inj (hty.symm.trans ht')
 have hc:=World.var?_cell hg hvar 0
 unfold vQ
 rw[hc]
 cases fuel with
 |zero=>simp[DataW.trod]at hd
 |succ fuel=>
  rw[←Array.getElem?_toList]
  generalize cs.toList=l at hd
  match l,hd with
  | [],hd=>simp[DataW.trod,ht]at hd
  |v::w::r,hd=>simp[DataW.trod,ht]at hd
  | [v],hd=>
    cases v with
    |iface u x=>exact⟨u,x,rfl⟩
    |_=>simp[DataW.trod,ht]at hd
end Hw