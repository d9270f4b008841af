/- The engine and the contracts. -/
import Derived.Test.YtgcfmjlnapcioaaGreatDoorC6
import Derived.Test.YtgcfmjlnapcioaaGreatDoorC4
import Derived.Test.YtgcfmjlnapcioaaGreatDoorC5
set_option linter.unusedVariables false
set_option linter.unusedSimpArgs false
namespace Hw.Fr.Md
open Go Go.Proofs Go.Shelf Hw.M
theorem zti(R:Rws)(hR:R.length≤500):zj Tryz.prog 100 [.one (.ar 0),zz [ki 4,zA []]] [(0,vg 1 R.length),(1,bg R)] (.tup [.one (.ar 2),zz (rsR (okR R.length))]) [(2,vg 3 R.length),(3,bg R)]:=by
 have hN:=zR R.length
 refine gO T Tryz.func100 fun C hC=>?_
 repeat' first|refine gG ?_|(exfalso;first|(simp only[decide_eq_true_eq,decide_eq_false_iff_not,List.length_map,Bool.not_eq_true',Bool.not_eq_false']at *; omega)|(simp at h;done))|refine gB (fun h=>?_) (fun h=>?_)|refine z7 T hC rfl rfl rfl rfl rfl rfl ?_|refine gC hN ?_
 all_goals exact zg ⟨.inl rfl,nm [0,1,0,1],_,rfl,.refl _,⟨rfl,rfl,trivial⟩,rfl,rfl⟩
theorem zrU(R:Rws)(hR:R.length≤500)(a:Int)(h5:R.length=500):zj Tryz.prog 100 [.one (.ar 0),zz [ki 1,zA [a]]] [(0,vg 1 R.length),(1,bg R)] (.tup [.one (.ar 2),zz (rsR (erR 4))]) [(2,vg 3 R.length),(3,bg R)]:=by
 have hN:=yj 4
 refine gO T Tryz.func100 fun C hC=>?_
 repeat' first|refine gG ?_|(exfalso;first|(simp only[decide_eq_true_eq,decide_eq_false_iff_not,List.length_map,Bool.not_eq_true',Bool.not_eq_false']at *; omega)|(simp at h;done))|refine gB (fun h=>?_) (fun h=>?_)|refine z7 T hC rfl rfl rfl rfl rfl rfl ?_|refine gC hN ?_
 all_goals exact zg ⟨.inl rfl,nm [0,1,0,1],_,rfl,.refl _,⟨rfl,rfl,trivial⟩,rfl,rfl⟩
theorem ztj(R:Rws)(hR:R.length≤500)(a:Int)(i:Nat)(q:Bool)(hX:zj Tryz.prog 134 [pS (z8 R),pS (zA [a])] [] (.tup [I i,.bq q]) [])(hil:i≤R.length)(h5:R.length<500):zj Tryz.prog 100 [.one (.ar 0),zz [ki 1,zA [a]]] [(0,vg 1 R.length),(1,bg R)] (.tup [.one (.ar 2),zz (rsR (okR 0))]) [(2,vg 3 (R.length+1)),(3,bg (zaW R i [a]))]:=by
 have hN:=zR 0
 have hCl:=zdh [a] (by simp)
 have hD:=zky R i [a] hil (by omega)
 refine gO T Tryz.func100 fun C hC=>?_
 repeat' first|refine gG ?_|(exfalso;first|(simp only[decide_eq_true_eq,decide_eq_false_iff_not,List.length_map,Bool.not_eq_true',Bool.not_eq_false']at *; omega)|(simp at h;done))|refine gB (fun h=>?_) (fun h=>?_)|refine z7 T hC rfl rfl rfl rfl rfl rfl ?_|refine yk hC hX [(0,vg 1 R.length),(1,bg R)] rfl rfl (y4.cons (LnS.one (xU 0 1 R)) (y4.refl _)) rfl rfl rfl rfl ?_|(refine gR hCl (nm [104]) ?_)|(refine zgi T hC rfl rfl rfl rfl rfl rfl rfl rfl rfl rfl rfl ?_)|(refine gR hD (nm [0,1,102,103,1036,104]) ?_)|refine gC hN ?_
 all_goals exact zg ⟨.inl rfl,nm [0,1,102,103],_,rfl,.refl _,⟨rfl,rfl,trivial⟩,rfl,rfl⟩
theorem zrV(R:Rws)(hR:R.length≤500)(h0:R.length=0):zj Tryz.prog 100 [.one (.ar 0),zz [ki 2,zA []]] [(0,vg 1 R.length),(1,bg R)] (.tup [.one (.ar 2),zz (rsR (erR 14))]) [(2,vg 3 R.length),(3,bg R)]:=by
 have hN:=yj 14
 refine gO T Tryz.func100 fun C hC=>?_
 repeat' first|refine gG ?_|(exfalso;first|(simp only[decide_eq_true_eq,decide_eq_false_iff_not,List.length_map,Bool.not_eq_true',Bool.not_eq_false']at *; omega)|(simp at h;done))|refine gB (fun h=>?_) (fun h=>?_)|refine z7 T hC rfl rfl rfl rfl rfl rfl ?_|refine gC hN ?_
 all_goals exact zg ⟨.inl rfl,nm [0,1,0,1],_,rfl,.refl _,⟨rfl,rfl,trivial⟩,rfl,rfl⟩
theorem zrW(R:Rws)(hR:R.length≤500)(h0:R.length=0):zj Tryz.prog 100 [.one (.ar 0),zz [ki 3,zA []]] [(0,vg 1 R.length),(1,bg R)] (.tup [.one (.ar 2),zz (rsR (erR 14))]) [(2,vg 3 R.length),(3,bg R)]:=by
 have hN:=yj 14
 refine gO T Tryz.func100 fun C hC=>?_
 repeat' first|refine gG ?_|(exfalso;first|(simp only[decide_eq_true_eq,decide_eq_false_iff_not,List.length_map,Bool.not_eq_true',Bool.not_eq_false']at *; omega)|(simp at h;done))|refine gB (fun h=>?_) (fun h=>?_)|refine z7 T hC rfl rfl rfl rfl rfl rfl ?_|refine gC hN ?_
 all_goals exact zg ⟨.inl rfl,nm [0,1,0,1],_,rfl,.refl _,⟨rfl,rfl,trivial⟩,rfl,rfl⟩
theorem ztk(R:Rws)(hR:R.length≤500)(r:Rw)(v:Int)(hq:R[0]?=some r)(hil:0<R.length)(hrl:0<r.length)(hv:r[0]?=some v):zj Tryz.prog 100 [.one (.ar 0),zz [ki 2,zA []]] [(0,vg 1 R.length),(1,bg R)] (.tup [.one (.ar 2),zz (rsR (okR v))]) [(2,vg 3 R.length),(3,bg R)]:=by
 have hN:=zR v
 refine gO T Tryz.func100 fun C hC=>?_
 repeat' first|refine gG ?_|(exfalso;first|(simp only[decide_eq_true_eq,decide_eq_false_iff_not,List.length_map,Bool.not_eq_true',Bool.not_eq_false']at *; omega)|(simp at h;done))|refine gB (fun h=>?_) (fun h=>?_)|refine z7 T hC rfl rfl rfl rfl rfl rfl ?_|(refine wM T hC (0) rfl rfl rfl rfl rfl (by omega) rfl rfl ?_;refine xh T hC rfl rfl rfl (by omega) rfl rfl ?_)|(refine wU T hC 0 hq (by omega) rfl rfl rfl rfl rfl rfl ?_;refine wy T hC hq hv rfl rfl rfl rfl rfl ?_)|refine gC hN ?_
 all_goals exact zg ⟨.inl rfl,nm [0,1,0,1],_,rfl,.refl _,⟨rfl,rfl,trivial⟩,rfl,rfl⟩
theorem ztl(R:Rws)(hR:R.length≤500)(r:Rw)(v:Int)(hq:R[0]?=some r)(hil:0<R.length)(hrl:0<r.length)(hv:r[0]?=some v):zj Tryz.prog 100 [.one (.ar 0),zz [ki 3,zA []]] [(0,vg 1 R.length),(1,bg R)] (.tup [.one (.ar 2),zz (rsR (okR v))]) [(2,vg 3 (R.length - 1)),(3,bg (R.eraseIdx 0))]:=by
 have hN:=zR v
 have hD:zj Tryz.prog 136 [.one (.ar 0),I 0,I 1] [(0,vg 1 R.length),(1,bg R)] (.one (.ar 2)) [(2,vg 3 (R.length - 1)),(3,bg (R.eraseIdx 0))]:=zey R 0 hil (by omega)
 refine gO T Tryz.func100 fun C hC=>?_
 repeat' first|refine gG ?_|(exfalso;first|(simp only[decide_eq_true_eq,decide_eq_false_iff_not,List.length_map,Bool.not_eq_true',Bool.not_eq_false']at *; omega)|(simp at h;done))|refine gB (fun h=>?_) (fun h=>?_)|refine z7 T hC rfl rfl rfl rfl rfl rfl ?_|(refine wM T hC (0) rfl rfl rfl rfl rfl (by omega) rfl rfl ?_;refine xh T hC rfl rfl rfl (by omega) rfl rfl ?_)|(refine wU T hC 0 hq (by omega) rfl rfl rfl rfl rfl rfl ?_;refine wy T hC hq hv rfl rfl rfl rfl rfl ?_)|(refine gR hD (nm [0,1,102,103]) ?_)|refine gC hN ?_
 all_goals exact zg ⟨.inl rfl,nm [0,1,102,103],_,rfl,.refl _,⟨rfl,rfl,trivial⟩,rfl,rfl⟩
theorem zug(R:Rws)(hR:R.length≤500):zj Tryz.prog 101 [.one (.ar 0),zz [ki 7,zA []]] [(0,vg 1 R.length),(1,bg R)] (.tup [.one (.ar 2),zz (rsR (okR R.length))]) [(2,vg 3 R.length),(3,bg R)]:=by
 have hN:=zR R.length
 refine gO T Tryz.func101 fun C hC=>?_
 repeat' first|refine gG ?_|(exfalso;first|(simp only[decide_eq_true_eq,decide_eq_false_iff_not,List.length_map,Bool.not_eq_true',Bool.not_eq_false']at *; omega)|(simp at h;done))|refine gB (fun h=>?_) (fun h=>?_)|refine z7 T hC rfl rfl rfl rfl rfl rfl ?_|refine gC hN ?_
 all_goals exact zg ⟨.inl rfl,nm [0,1,0,1],_,rfl,.refl _,⟨rfl,rfl,trivial⟩,rfl,rfl⟩
theorem ztm(R:Rws)(hR:R.length≤500)(a b:Int)(hab:a<0∨b<a∨(R.length:Int)<b):zj Tryz.prog 101 [.one (.ar 0),zz [ki 5,zA [a,b]]] [(0,vg 1 R.length),(1,bg R)] (.tup [.one (.ar 2),zz (rsR (erR 2))]) [(2,vg 3 R.length),(3,bg R)]:=by
 have hN:=yj 2
 refine gO T Tryz.func101 fun C hC=>?_
 repeat' first|refine gG ?_|(exfalso;first|(simp only[decide_eq_true_eq,decide_eq_false_iff_not,List.length_map,Bool.not_eq_true',Bool.not_eq_false']at *; omega)|(simp at h;done))|refine gB (fun h=>?_) (fun h=>?_)|refine z7 T hC rfl rfl rfl rfl rfl rfl ?_|refine yh T hC rfl rfl rfl (by decide) rfl rfl rfl ?_|refine gC hN ?_
 all_goals exact zg ⟨.inl rfl,nm [0,1,0,1],_,rfl,.refl _,⟨rfl,rfl,trivial⟩,rfl,rfl⟩
theorem ztn(R:Rws)(hR:R.length≤500)(a b:Int)(hab:a<0∨b<a∨(R.length:Int)<b):zj Tryz.prog 101 [.one (.ar 0),zz [ki 6,zA [a,b]]] [(0,vg 1 R.length),(1,bg R)] (.tup [.one (.ar 2),zz (rsR (erR 2))]) [(2,vg 3 R.length),(3,bg R)]:=by
 have hN:=yj 2
 refine gO T Tryz.func101 fun C hC=>?_
 repeat' first|refine gG ?_|(exfalso;first|(simp only[decide_eq_true_eq,decide_eq_false_iff_not,List.length_map,Bool.not_eq_true',Bool.not_eq_false']at *; omega)|(simp at h;done))|refine gB (fun h=>?_) (fun h=>?_)|refine z7 T hC rfl rfl rfl rfl rfl rfl ?_|refine yh T hC rfl rfl rfl (by decide) rfl rfl rfl ?_|refine gC hN ?_
 all_goals exact zg ⟨.inl rfl,nm [0,1,0,1],_,rfl,.refl _,⟨rfl,rfl,trivial⟩,rfl,rfl⟩
theorem zuh(R:Rws)(hR:R.length≤500)(a m:Nat)(ham:a+m≤R.length):zj Tryz.prog 101 [.one (.ar 0),zz [ki 6,zA [(a:Int),((a+m:Nat):Int)]]] [(0,vg 1 R.length),(1,bg R)] (.tup [.one (.ar 2),zz (rsR (okR 0))]) [(2,vg 3 R.length),(3,bg (zmS R a (a+m)))]:=by
 have hN:=zR 0
 have hV:zmS R a (a+m)=zaw R a m:=by rw[zmS,zaw,List.drop_take,Nat.add_sub_cancel_left]
 have hD:=zrB R a m ham (by omega)
 refine gO T Tryz.func101 fun C hC=>?_
 repeat' first|refine gG ?_|(exfalso;first|(simp only[decide_eq_true_eq,decide_eq_false_iff_not,List.length_map,Bool.not_eq_true',Bool.not_eq_false']at *; omega)|(simp at h;done))|refine gB (fun h=>?_) (fun h=>?_)|refine z7 T hC rfl rfl rfl rfl rfl rfl ?_|refine yh T hC rfl rfl rfl (by decide) rfl rfl rfl ?_|(refine zop T hC rfl rfl rfl rfl rfl (Int.natCast_nonneg _) (by omega) (by rw[xY];omega) rfl rfl ?_;rw[show((a:Nat):Int).toNat*1=a*1 by rw[Int.toNat_natCast],show((a+m:Nat):Int).toNat - ((a:Nat):Int).toNat=m by rw[Int.toNat_natCast,Int.toNat_natCast];omega])|(refine gR hD (nm [0,1,102]) ?_)|refine gC hN ?_
 rw[hV]
 all_goals exact zg ⟨.inl rfl,nm [0,1,0,102],_,rfl,.refl _,⟨rfl,rfl,trivial⟩,rfl,rfl⟩
theorem zto(R:Rws)(hR:R.length≤500)(a b:Int)(hab:a<0∨(R.length:Int)<a):zj Tryz.prog 101 [.one (.ar 0),zz [ki 1,zA [a,b]]] [(0,vg 1 R.length),(1,bg R)] (.tup [.one (.ar 2),zz (rsR (erR 2))]) [(2,vg 3 R.length),(3,bg R)]:=by
 have hN:=yj 2
 refine gO T Tryz.func101 fun C hC=>?_
 repeat' first|refine gG ?_|(exfalso;first|(simp only[decide_eq_true_eq,decide_eq_false_iff_not,List.length_map,Bool.not_eq_true',Bool.not_eq_false']at *; omega)|(simp at h;done))|refine gB (fun h=>?_) (fun h=>?_)|refine z7 T hC rfl rfl rfl rfl rfl rfl ?_|refine yh T hC rfl rfl rfl (by decide) rfl rfl rfl ?_|refine gC hN ?_
 all_goals exact zg ⟨.inl rfl,nm [0,1,0,1],_,rfl,.refl _,⟨rfl,rfl,trivial⟩,rfl,rfl⟩
theorem ztp(R:Rws)(hR:R.length≤500)(i:Nat)(b:Int)(hil:i≤R.length)(h5:R.length=500):zj Tryz.prog 101 [.one (.ar 0),zz [ki 1,zA [(i:Int),b]]] [(0,vg 1 R.length),(1,bg R)] (.tup [.one (.ar 2),zz (rsR (erR 4))]) [(2,vg 3 R.length),(3,bg R)]:=by
 have hN:=yj 4
 refine gO T Tryz.func101 fun C hC=>?_
 repeat' first|refine gG ?_|(exfalso;first|(simp only[decide_eq_true_eq,decide_eq_false_iff_not,List.length_map,Bool.not_eq_true',Bool.not_eq_false']at *; omega)|(simp at h;done))|refine gB (fun h=>?_) (fun h=>?_)|refine z7 T hC rfl rfl rfl rfl rfl rfl ?_|refine yh T hC rfl rfl rfl (by decide) rfl rfl rfl ?_|refine gC hN ?_
 all_goals exact zg ⟨.inl rfl,nm [0,1,0,1],_,rfl,.refl _,⟨rfl,rfl,trivial⟩,rfl,rfl⟩
theorem seq1(R:Rws)(hR:R.length≤500)(i:Nat)(b:Int)(hil:i≤R.length)(h5:R.length<500):zj Tryz.prog 101 [.one (.ar 0),zz [ki 1,zA [(i:Int),b]]] [(0,vg 1 R.length),(1,bg R)] (.tup [.one (.ar 2),zz (rsR (okR 0))]) [(2,vg 3 (R.length+1)),(3,bg (zaW R i [b]))]:=by
 have hN:=zR 0
 have hD:=zky R i [b] hil (by omega)
 refine gO T Tryz.func101 fun C hC=>?_
 repeat' first|refine gG ?_|(exfalso;first|(simp only[decide_eq_true_eq,decide_eq_false_iff_not,List.length_map,Bool.not_eq_true',Bool.not_eq_false']at *; omega)|(simp at h;done))|refine gB (fun h=>?_) (fun h=>?_)|refine z7 T hC rfl rfl rfl rfl rfl rfl ?_|refine yh T hC rfl rfl rfl (by decide) rfl rfl rfl ?_|(refine zgK T hC [PC.p (ki b)] [] rfl rfl rfl rfl rfl rfl rfl rfl rfl rfl rfl rfl ?_;refine zrR rfl 1105 [[ki b]] rfl rfl ?_)|(refine zgi T hC rfl rfl rfl rfl rfl rfl rfl rfl rfl rfl rfl ?_)|(refine gR hD (nm [0,1,102,103,1106,1105]) ?_)|refine gC hN ?_
 all_goals exact zg ⟨.inl rfl,nm [0,1,102,103],_,rfl,.refl _,⟨rfl,rfl,trivial⟩,rfl,rfl⟩
theorem ztq(R:Rws)(hR:R.length≤500)(a:Int)(hab:a<0∨(R.length:Int)≤a):zj Tryz.prog 101 [.one (.ar 0),zz [ki 2,zA [a]]] [(0,vg 1 R.length),(1,bg R)] (.tup [.one (.ar 2),zz (rsR (erR 2))]) [(2,vg 3 R.length),(3,bg R)]:=by
 have hN:=yj 2
 refine gO T Tryz.func101 fun C hC=>?_
 repeat' first|refine gG ?_|(exfalso;first|(simp only[decide_eq_true_eq,decide_eq_false_iff_not,List.length_map,Bool.not_eq_true',Bool.not_eq_false']at *; omega)|(simp at h;done))|refine gB (fun h=>?_) (fun h=>?_)|refine z7 T hC rfl rfl rfl rfl rfl rfl ?_|refine yh T hC rfl rfl rfl (by decide) rfl rfl rfl ?_|refine gC hN ?_
 all_goals exact zg ⟨.inl rfl,nm [0,1,0,1],_,rfl,.refl _,⟨rfl,rfl,trivial⟩,rfl,rfl⟩
theorem ztr(R:Rws)(hR:R.length≤500)(a:Int)(hab:a<0∨(R.length:Int)≤a):zj Tryz.prog 101 [.one (.ar 0),zz [ki 3,zA [a]]] [(0,vg 1 R.length),(1,bg R)] (.tup [.one (.ar 2),zz (rsR (erR 2))]) [(2,vg 3 R.length),(3,bg R)]:=by
 have hN:=yj 2
 refine gO T Tryz.func101 fun C hC=>?_
 repeat' first|refine gG ?_|(exfalso;first|(simp only[decide_eq_true_eq,decide_eq_false_iff_not,List.length_map,Bool.not_eq_true',Bool.not_eq_false']at *; omega)|(simp at h;done))|refine gB (fun h=>?_) (fun h=>?_)|refine z7 T hC rfl rfl rfl rfl rfl rfl ?_|refine yh T hC rfl rfl rfl (by decide) rfl rfl rfl ?_|refine gC hN ?_
 all_goals exact zg ⟨.inl rfl,nm [0,1,0,1],_,rfl,.refl _,⟨rfl,rfl,trivial⟩,rfl,rfl⟩
theorem zts(R:Rws)(hR:R.length≤500)(a b:Int)(hab:a<0∨(R.length:Int)≤a):zj Tryz.prog 101 [.one (.ar 0),zz [ki 4,zA [a,b]]] [(0,vg 1 R.length),(1,bg R)] (.tup [.one (.ar 2),zz (rsR (erR 2))]) [(2,vg 3 R.length),(3,bg R)]:=by
 have hN:=yj 2
 refine gO T Tryz.func101 fun C hC=>?_
 repeat' first|refine gG ?_|(exfalso;first|(simp only[decide_eq_true_eq,decide_eq_false_iff_not,List.length_map,Bool.not_eq_true',Bool.not_eq_false']at *; omega)|(simp at h;done))|refine gB (fun h=>?_) (fun h=>?_)|refine z7 T hC rfl rfl rfl rfl rfl rfl ?_|refine yh T hC rfl rfl rfl (by decide) rfl rfl rfl ?_|refine gC hN ?_
 all_goals exact zg ⟨.inl rfl,nm [0,1,0,1],_,rfl,.refl _,⟨rfl,rfl,trivial⟩,rfl,rfl⟩
theorem zui(R:Rws)(hR:R.length≤500)(i:Nat)(r:Rw)(v:Int)(hq:R[i]?=some r)(hil:i<R.length)(hrl:0<r.length)(hv:r[0]?=some v):zj Tryz.prog 101 [.one (.ar 0),zz [ki 3,zA [(i:Int)]]] [(0,vg 1 R.length),(1,bg R)] (.tup [.one (.ar 2),zz (rsR (okR v))]) [(2,vg 3 R.length),(3,bg R)]:=by
 have hN:=zR v
 refine gO T Tryz.func101 fun C hC=>?_
 repeat' first|refine gG ?_|(exfalso;first|(simp only[decide_eq_true_eq,decide_eq_false_iff_not,List.length_map,Bool.not_eq_true',Bool.not_eq_false']at *; omega)|(simp at h;done))|refine gB (fun h=>?_) (fun h=>?_)|refine z7 T hC rfl rfl rfl rfl rfl rfl ?_|refine yh T hC rfl rfl rfl (by decide) rfl rfl rfl ?_|(refine wM T hC (i) rfl rfl rfl rfl rfl (by omega) rfl rfl ?_;refine xh T hC rfl rfl rfl (by omega) rfl rfl ?_)|(refine wU T hC 0 hq (by omega) rfl rfl rfl rfl rfl rfl ?_;refine wy T hC hq hv rfl rfl rfl rfl rfl ?_)|refine gC hN ?_
 all_goals exact zg ⟨.inl rfl,nm [0,1,0,1],_,rfl,.refl _,⟨rfl,rfl,trivial⟩,rfl,rfl⟩
theorem zuj(R:Rws)(hR:R.length≤500)(i:Nat)(r:Rw)(v:Int)(hq:R[i]?=some r)(hil:i<R.length)(hrl:0<r.length)(hv:r[0]?=some v):zj Tryz.prog 101 [.one (.ar 0),zz [ki 2,zA [(i:Int)]]] [(0,vg 1 R.length),(1,bg R)] (.tup [.one (.ar 2),zz (rsR (okR v))]) [(2,vg 3 (R.length - 1)),(3,bg (R.eraseIdx i))]:=by
 have hN:=zR v
 have hD:=zey R i hil (by omega)
 refine gO T Tryz.func101 fun C hC=>?_
 repeat' first|refine gG ?_|(exfalso;first|(simp only[decide_eq_true_eq,decide_eq_false_iff_not,List.length_map,Bool.not_eq_true',Bool.not_eq_false']at *; omega)|(simp at h;done))|refine gB (fun h=>?_) (fun h=>?_)|refine z7 T hC rfl rfl rfl rfl rfl rfl ?_|refine yh T hC rfl rfl rfl (by decide) rfl rfl rfl ?_|(refine wM T hC (i) rfl rfl rfl rfl rfl (by omega) rfl rfl ?_;refine xh T hC rfl rfl rfl (by omega) rfl rfl ?_)|(refine wU T hC 0 hq (by omega) rfl rfl rfl rfl rfl rfl ?_;refine wy T hC hq hv rfl rfl rfl rfl rfl ?_)|(rw[yq (by omega)];refine gR hD (nm [0,1,102,103]) ?_)|refine gC hN ?_
 all_goals exact zg ⟨.inl rfl,nm [0,1,102,103],_,rfl,.refl _,⟨rfl,rfl,trivial⟩,rfl,rfl⟩
theorem zuk(R:Rws)(hR:R.length≤500)(i:Nat)(b:Int)(r:Rw)(v:Int)(hq:R[i]?=some r)(hil:i<R.length)(hrl:0<r.length)(hv:r[0]?=some v):zj Tryz.prog 101 [.one (.ar 0),zz [ki 4,zA [(i:Int),b]]] [(0,vg 1 R.length),(1,bg R)] (.tup [.one (.ar 2),zz (rsR (okR v))]) [(2,vg 3 R.length),(3,bg (R.set i (r.set 0 b)))]:=by
 have hN:=zR v
 refine gO T Tryz.func101 fun C hC=>?_
 repeat' first|refine gG ?_|(exfalso;first|(simp only[decide_eq_true_eq,decide_eq_false_iff_not,List.length_map,Bool.not_eq_true',Bool.not_eq_false']at *; omega)|(simp at h;done))|refine gB (fun h=>?_) (fun h=>?_)|refine z7 T hC rfl rfl rfl rfl rfl rfl ?_|refine yh T hC rfl rfl rfl (by decide) rfl rfl rfl ?_|(refine wM T hC (i) rfl rfl rfl rfl rfl (by omega) rfl rfl ?_;refine xh T hC rfl rfl rfl (by omega) rfl rfl ?_)|(refine wU T hC 0 hq (by omega) rfl rfl rfl rfl rfl rfl ?_;refine wy T hC hq hv rfl rfl rfl rfl rfl ?_)|(refine wU T hC 0 hq (by omega) rfl rfl rfl rfl rfl rfl ?_)|(refine zgZ T hC hq (by omega) rfl rfl rfl rfl rfl ?_)|refine gC hN ?_
 all_goals exact zg ⟨.inl rfl,nm [0,1,0,1],_,rfl,.refl _,⟨rfl,rfl,trivial⟩,rfl,rfl⟩
end Hw.Fr.Md
namespace Hw.Fr.Md
open Go Go.Proofs Go.Shelf Hw.M
theorem zkJ(l:Rws)(r:Rw):zia (l++[r])=zia l+at0 r 0:=by simp[zia]
theorem zcv: ∀ {l:Rws} {n:Nat},l.length≤n→(∀r∈l, -1048576≤at0 r 0∧at0 r 0≤1048576)→ -(1048576*(n:Int))≤zia l∧zia l≤1048576*(n:Int)
 | [],n,_,_=>by simp only[zia,List.map_nil,List.sum_nil];omega
 |r::l,0,h,_=>by simp at h
 |r::l,n+1,h,hb=>by
  have h1:=hb r (List.mem_cons_self ..)
  have h2:=zcv (l:=l) (n:=n) (by simpa using h) fun x hx=>hb x (List.mem_cons_of_mem _ hx)
  simp only[zia,List.map_cons,List.sum_cons]at h2⊢
  omega
theorem zbQ{α:Type}{l:List α}{i:Nat}{x:α}(h:l[i]?=some x):l.take (i+1)=l.take i++[x]:=by rw[List.take_add_one,h];rfl
theorem zul(R:Rws)(hR:R.length≤500)(a m:Nat)(ham:a+m≤R.length)(hn: ∀r∈R,0<r.length∧ -1048576≤at0 r 0∧at0 r 0≤1048576):
 zj Tryz.prog 101 [.one (.ar 0),zz [ki 5,zA [(a:Int),((a+m:Nat):Int)]]] [(0,vg 1 R.length),(1,bg R)] (.tup [.one (.ar 2),zz (rsR (okR (zia ((R.take (a+m)).drop a))))]) [(2,vg 3 R.length),(3,bg R)]:=by
 have hLl:((R.take (a+m)).drop a).length=m:=by rw[List.length_drop,List.length_take];omega
 have hLa: ∀i,i<m→((R.take (a+m)).drop a)[i]?=R[a+i]?:=fun i hi=>by rw[List.getElem?_drop,List.getElem?_take,if_pos (by omega)]
 have hLb: ∀r∈(R.take (a+m)).drop a, -1048576≤at0 r 0∧at0 r 0≤1048576:=fun r hr=>(hn r (List.mem_of_mem_take (List.mem_of_mem_drop hr))).2
 generalize (R.take (a+m)).drop a=L at hLl hLa hLb
 refine gO T Tryz.func101 fun C hC=>?_
 repeat' first|refine gG ?_|(exfalso;first|(simp only[decide_eq_true_eq,decide_eq_false_iff_not,List.length_map,Bool.not_eq_true',Bool.not_eq_false']at *; omega)|(simp at h;done))|refine gB (fun h=>?_) (fun h=>?_)|refine z7 T hC rfl rfl rfl rfl rfl rfl ?_|refine yh T hC rfl rfl rfl (by decide) rfl rfl rfl ?_|(refine zop T hC rfl rfl rfl rfl rfl (Int.natCast_nonneg _) (by omega) (by rw[xY];omega) rfl rfl ?_;rw[show((a:Nat):Int).toNat*1=a*1 by rw[Int.toNat_natCast],show((a+m:Nat):Int).toNat - ((a:Nat):Int).toNat=m by rw[Int.toNat_natCast,Int.toNat_natCast];omega])|refine zoq T hC rfl rfl rfl rfl ?_
 refine zy (fun i:Nat=>i≤m) (fun i=>([(0,.one (.ar 0)),(5,.one (.bx 1005 0)),(8,I (zia (L.take i))),(60,.one (.sv 0 (a*1) m)),(61,I m),(62,I i)],[(0,some (vg 1 R.length)),(1,some (bg R)),(1005,some (.box [.p (ki 0),.p (ki 0),.p (.k (.slice none 0 0))]))])) (fun i=>m - i) hC
  0 (Nat.zero_le _) id gM ?_
 intro i hi
 refine zI T hC true 200 rfl ?_
 refine zP rfl (fun h=>?_) (fun h=>?_)
 ·have hlt:i<m:=by simpa using h
  clear h
  have hail:a+i<R.length:=by omega
  obtain⟨r,hq⟩:=zf hail
  obtain⟨h0,h1,h2⟩:=hn r (List.mem_of_getElem? hq)
  have hv:r[0]?=some (at0 r 0):=zed h0
  have hb:=zcv (l:=L.take i) (n:=500) (by rw[List.length_take];omega) fun x hx=>hLb x (List.mem_of_mem_take hx)
  have hsn:=zbQ (l:=L) (i:=i) (x:=r) (by rw[hLa i hlt];exact hq)
  repeat' first|refine gG ?_|refine gB (fun h=>?_) (fun h=>?_)|(refine zkj T hC rfl rfl rfl (Int.natCast_nonneg _) (by omega) rfl rfl ?_;rw[show a*1+((i:Nat):Int).toNat*1=a+i by rw[Int.toNat_natCast];omega])|(refine xh T hC rfl rfl rfl (by omega) rfl rfl ?_)|(refine wU T hC 0 hq h0 rfl rfl rfl rfl rfl rfl ?_)|(refine wy T hC hq hv rfl rfl rfl rfl rfl ?_)
  rw[yq (by omega),wrap64 (n:=zia (L.take i)+at0 r 0) (by omega),←zkJ,←hsn]
  exact zh (i+1) (by omega) id (by omega) gM
 ·have hge: ¬i<m:=by simpa using h
  have hN:=zR (zia (L.take i))
  have e:L.take i=L:=List.take_of_length_le (by omega)
  rw[e]at hN⊢
  repeat' first|refine gG ?_|refine gB (fun h=>?_) (fun h=>?_)|refine zp ?_|refine gC hN ?_
  exact zg ⟨.inl rfl,nm [0,1,0,1],_,rfl,.refl _,⟨rfl,rfl,trivial⟩,rfl,rfl⟩
end Hw.Fr.Md
namespace Hw.Fr.Md
open Go Go.Proofs Go.Shelf Hw.M
def sumB(A:Rw)(l:Rws):Int:=((l.filter (zpw A)).map fun r=>at0 r 2).sum
end Hw.Fr.Md
namespace Hw.Fr.Md
open Go Go.Proofs Go.Shelf Hw.M
theorem zrX{x:Int}(h:vC x=true): -1048576≤x∧x≤1048576:=zmT.1 h
theorem op2{o:OpT}(h:okOp 2 o=true):(∃a,o=⟨1,[a]⟩∧vC a=true)∨o=⟨2,[]⟩∨o=⟨3,[]⟩∨o=⟨4,[]⟩:=by
 obtain⟨w,h1,h2,hw,h3, -⟩:=j9 h
 obtain⟨c,l⟩:=o
 have hc:c=1∨c=2∨c=3∨c=4:=by
  have:(yL 2).length=4:=rfl
  simp only at h1 h2;omega
 rcases hc with rfl|rfl|rfl|rfl<;>(obtain rfl:=Option.some.inj hw;obtain⟨hl,hn⟩:=h3 (by decide);simp only at hl hn)
 ·obtain⟨a,rfl⟩:=zrP (l:=l) (by omega)
  exact .inl ⟨a,rfl,hn a (by simp)⟩
 all_goals (obtain rfl:=zrO (l:=l) (by omega);simp)
theorem op3{o:OpT}(h:okOp 3 o=true):(∃a b,(o=⟨1,[a,b]⟩∨o=⟨4,[a,b]⟩∨o=⟨5,[a,b]⟩∨o=⟨6,[a,b]⟩)∧vC a=true∧vC b=true)∨(∃a,(o=⟨2,[a]⟩∨o=⟨3,[a]⟩)∧vC a=true)∨o=⟨7,[]⟩:=by
 obtain⟨w,h1,h2,hw,h3, -⟩:=j9 h
 obtain⟨c,l⟩:=o
 have hc:c=1∨c=4∨c=5∨c=6∨c=2∨c=3∨c=7:=by
  have:(yL 3).length=7:=rfl
  simp only at h1 h2;omega
 rcases hc with rfl|rfl|rfl|rfl|rfl|rfl|rfl<;>(obtain rfl:=Option.some.inj hw;obtain⟨hl,hn⟩:=h3 (by decide);simp only at hl hn)
 iterate 4
  ·obtain⟨a,b,rfl⟩:=zsO (l:=l) (by omega)
   exact .inl ⟨a,b,by simp,hn a (by simp),hn b (by simp)⟩
 iterate 2
  ·obtain⟨a,rfl⟩:=zrP (l:=l) (by omega)
   exact .inr (.inl ⟨a,by simp,hn a (by simp)⟩)
 ·obtain rfl:=zrO (l:=l) (by omega)
  exact .inr (.inr rfl)
theorem zpU(R:Rws)(o:OpT)(hv:zU 2 R=true)(ho:okOp 2 o=true):
 zj Tryz.prog 100 [.one (.ar 0),zz (opR o)] [(0,vg 1 R.length),(1,bg R)] (.tup [.one (.ar 2),zz (rsR (wP R o).2)]) [(2,vg 3 (wP R o).1.length),(3,bg (wP R o).1)]:=by
 obtain⟨hR,hT⟩:=zkG hv
 have hrow: ∀(i:Nat),i<R.length→R[i]?=some (wC R i)∧(wC R i).length=1:=fun i hi=>⟨jF hi,hT.wide _ (List.mem_of_getElem? (jF hi))⟩
 have hcell: ∀(i:Nat),i<R.length→(wC R i)[0]?=some (at0 (wC R i) 0):=fun i hi=>zed (by rw[(hrow i hi).2];omega)
 rcases op2 ho with⟨a,rfl,ha⟩|rfl|rfl|rfl
 ·by_cases h5:R.length=500
  ·have e:wP R ⟨1,[a]⟩=(R,erR 4):=by simp[wP,h5]
   rw[e];exact zrU R hR a h5
  ·have e:wP R ⟨1,[a]⟩=(zaW R (vA 1 R [a]) [a],okR 0):=by simp[wP,h5]
   rw[e]
   simp only[ja (zaq 1 R [a])]
   exact ztj R hR a _ _ (zko R [a] (by simp) (by omega) (fun r hr=>by rw[hT.wide r hr];simp) (zg1 hT zke [a])) (zaq 1 R [a]) (by omega)
 ·by_cases h0:R.length=0
  ·have e:wP R ⟨2,[]⟩=(R,erR 14):=by simp only[wP];rw[if_neg (by decide),if_neg (by decide)];exact if_pos h0
   rw[e];exact zrV R hR h0
  ·have e:wP R ⟨2,[]⟩=(R,okR (at0 (wC R 0) 0)):=by simp only[wP];rw[if_neg (by decide),if_neg (by decide)];exact if_neg h0
   rw[e];exact ztk R hR _ _ (hrow 0 (by omega)).1 (by omega) (by rw[(hrow 0 (by omega)).2];omega) (hcell 0 (by omega))
 ·by_cases h0:R.length=0
  ·have e:wP R ⟨3,[]⟩=(R,erR 14):=by simp only[wP];rw[if_neg (by decide),if_neg (by decide)];exact if_pos h0
   rw[e];exact zrW R hR h0
  ·have e:wP R ⟨3,[]⟩=(R.eraseIdx 0,okR (at0 (wC R 0) 0)):=by simp only[wP];rw[if_neg (by decide),if_neg (by decide)];exact if_neg h0
   rw[e]
   simp only[List.length_eraseIdx_of_lt (show 0<R.length by omega)]
   exact ztl R hR _ _ (hrow 0 (by omega)).1 (by omega) (by rw[(hrow 0 (by omega)).2];omega) (hcell 0 (by omega))
 ·exact zti R hR
theorem zrY(R:Rws)(o:OpT)(hv:zU 3 R=true)(ho:okOp 3 o=true):
 zj Tryz.prog 101 [.one (.ar 0),zz (opR o)] [(0,vg 1 R.length),(1,bg R)] (.tup [.one (.ar 2),zz (rsR (vW R o).2)]) [(2,vg 3 (vW R o).1.length),(3,bg (vW R o).1)]:=by
 obtain⟨hR,hT⟩:=zkH hv
 have hrow: ∀(i:Nat),i<R.length→R[i]?=some (wC R i)∧(wC R i).length=1:=fun i hi=>⟨jF hi,hT.wide _ (List.mem_of_getElem? (jF hi))⟩
 have hcell: ∀(i:Nat),i<R.length→(wC R i)[0]?=some (at0 (wC R i) 0):=fun i hi=>zed (by rw[(hrow i hi).2];omega)
 have hn: ∀r∈R,0<r.length∧ -1048576≤at0 r 0∧at0 r 0≤1048576:=fun r hr=>by
  have h1:=hT.wide r hr
  exact⟨by omega,zrX (hT.nums r hr _ (List.mem_of_getElem? (zed (l:=r) (i:=0) (by omega))))⟩
 rcases op3 ho with⟨a,b,hc,ha,hb⟩|⟨a,hc,ha⟩|rfl
 ·rcases hc with rfl|rfl|rfl|rfl
  ·by_cases h0:a<0∨(R.length:Int)<a
   ·have e:vW R ⟨1,[a,b]⟩=(R,erR 2):=by simp only[vW];rw[if_neg (by decide),if_neg (by decide),if_pos trivial];exact if_pos h0
    rw[e];exact zto R hR a b h0
   ·obtain⟨i,rfl⟩: ∃i:Nat,a=i:=⟨a.toNat,by omega⟩
    by_cases h5:R.length=500
    ·have e:vW R ⟨1,[(i:Int),b]⟩=(R,erR 4):=by simp only[vW];rw[if_neg (by decide),if_neg (by decide),if_pos trivial];exact(if_neg h0).trans (if_pos h5)
     rw[e];exact ztp R hR i b (by omega) h5
    ·have e:vW R ⟨1,[(i:Int),b]⟩=(zaW R i [b],okR 0):=by simp only[vW];rw[if_neg (by decide),if_neg (by decide),if_pos trivial];exact(if_neg h0).trans (if_neg h5)
     rw[e]
     simp only[ja (show i≤R.length by omega)]
     exact seq1 R hR i b (by omega) (by omega)
  ·by_cases h0:a<0∨(R.length:Int)≤a
   ·have e:vW R ⟨4,[a,b]⟩=(R,erR 2):=by simp only[vW];rw[if_neg (by decide),if_neg (by decide),if_neg (by decide)];exact if_pos h0
    rw[e];exact zts R hR a b h0
   ·obtain⟨i,rfl⟩: ∃i:Nat,a=i:=⟨a.toNat,by omega⟩
    have hlt:i<R.length:=by omega
    have e:vW R ⟨4,[(i:Int),b]⟩=(R.set i ((wC R i).set 0 b),okR (at0 (wC R i) 0)):=by simp only[vW];rw[if_neg (by decide),if_neg (by decide),if_neg (by decide)];exact if_neg h0
    rw[e]
    simp only[List.length_set]
    exact zuk R hR i b _ _ (hrow i hlt).1 hlt (by rw[(hrow i hlt).2];omega) (hcell i hlt)
  ·by_cases h0:a<0∨b<a∨(R.length:Int)<b
   ·have e:vW R ⟨5,[a,b]⟩=(R,erR 2):=by simp only[vW];rw[if_neg (by decide),if_pos (by simp)];exact if_pos h0
    rw[e];exact ztm R hR a b h0
   ·obtain⟨i,rfl⟩: ∃i:Nat,a=i:=⟨a.toNat,by omega⟩
    obtain⟨m,rfl⟩: ∃m:Nat,b=((i+m:Nat):Int):=⟨(b - i).toNat,by omega⟩
    have e:vW R ⟨5,[(i:Int),((i+m:Nat):Int)]⟩=(R,okR (zia ((R.take (i+m)).drop i))):=by simp only[vW];rw[if_neg (by decide),if_pos (by simp)];exact(if_neg h0).trans (if_neg (by decide))
    rw[e];exact zul R hR i m (by omega) hn
  ·by_cases h0:a<0∨b<a∨(R.length:Int)<b
   ·have e:vW R ⟨6,[a,b]⟩=(R,erR 2):=by simp only[vW];rw[if_neg (by decide),if_pos (by simp)];exact if_pos h0
    rw[e];exact ztn R hR a b h0
   ·obtain⟨i,rfl⟩: ∃i:Nat,a=i:=⟨a.toNat,by omega⟩
    obtain⟨m,rfl⟩: ∃m:Nat,b=((i+m:Nat):Int):=⟨(b - i).toNat,by omega⟩
    have e:vW R ⟨6,[(i:Int),((i+m:Nat):Int)]⟩=(zmS R i (i+m),okR 0):=by simp only[vW];rw[if_neg (by decide),if_pos (by simp)];exact(if_neg h0).trans (if_pos trivial)
    have hl:(zmS R i (i+m)).length=R.length:=by simp only[zmS,List.length_append,List.length_reverse,List.length_take,List.length_drop];omega
    rw[e]
    simp only[hl]
    exact zuh R hR i m (by omega)
 ·by_cases h0:a<0∨(R.length:Int)≤a
  ·rcases hc with rfl|rfl
   ·have e:vW R ⟨2,[a]⟩=(R,erR 2):=by simp only[vW];rw[if_neg (by decide),if_neg (by decide),if_neg (by decide)];exact if_pos h0
    rw[e];exact ztq R hR a h0
   ·have e:vW R ⟨3,[a]⟩=(R,erR 2):=by simp only[vW];rw[if_neg (by decide),if_neg (by decide),if_neg (by decide)];exact if_pos h0
    rw[e];exact ztr R hR a h0
  ·obtain⟨i,rfl⟩: ∃i:Nat,a=i:=⟨a.toNat,by omega⟩
   have hlt:i<R.length:=by omega
   rcases hc with rfl|rfl
   ·have e:vW R ⟨2,[(i:Int)]⟩=(R.eraseIdx i,okR (at0 (wC R i) 0)):=by simp only[vW];rw[if_neg (by decide),if_neg (by decide),if_neg (by decide)];exact if_neg h0
    rw[e]
    simp only[List.length_eraseIdx_of_lt hlt]
    exact zuj R hR i _ _ (hrow i hlt).1 hlt (by rw[(hrow i hlt).2];omega) (hcell i hlt)
   ·have e:vW R ⟨3,[(i:Int)]⟩=(R,okR (at0 (wC R i) 0)):=by simp only[vW];rw[if_neg (by decide),if_neg (by decide),if_neg (by decide)];exact if_neg h0
    rw[e]
    exact zui R hR i _ _ (hrow i hlt).1 hlt (by rw[(hrow i hlt).2];omega) (hcell i hlt)
 ·exact zug R hR
end Hw.Fr.Md
namespace Hw.Fr.Md
open Go Go.Proofs Go.Shelf Hw.M
def posI(x:Int):List Int→Nat→Int
 | [],_=> -1
 |y::l,k=>if x=y then k else posI x l (k+1)
theorem zg2(x:Int): ∀(l:List Int) (k:Nat),0≤posI x l k↔x∈l
 | [],k=>by simp[posI]
 |y::l,k=>by
  simp only[posI,List.mem_cons]
  split
  ·rename_i h;simp[h]
  ·rename_i h;rw[zg2 x l (k+1)];simp[h]
theorem znk(l:List Int)(x:Int):zj Tryz.prog 202 [pS (zA l),I x] [] (I (posI x l 0)) []:=by
 refine gO T Tryz.func202 fun C hC=>?_
 refine w9 0 rfl fun hl=>?_
 rw[List.length_map]at hl
 repeat' first|refine gG ?_|refine gB (fun h=>?_) (fun h=>?_)
 rw[List.length_map]
 refine zy (fun i:Nat=>i≤l.length∧posI x (l.drop i) i=posI x l 0) (fun i=>([(0,pS (zA l)),(1,I x),(7,I l.length),(8,I i)],[])) (fun i=>l.length - i) hC
  0 ⟨Nat.zero_le _,rfl⟩ id gM ?_
 rintro i ⟨hi,hn⟩
 refine zI T hC true 200 rfl ?_
 refine zP rfl (fun h=>?_) (fun h=>?_)
 ·have hlt:i<l.length:=by simpa using h
  clear h
  obtain⟨y,hy⟩:=zf hlt
  rw[zm8 hy]at hn
  simp only[posI]at hn
  repeat' first|refine gG ?_|refine gB (fun h=>?_) (fun h=>?_)|refine gI T (zu hy) ?_|refine zT ?_
  ·rw[if_pos (of_decide_eq_true h)]at hn
   rw[←hn]
   exact gF
  ·rw[if_neg (of_decide_eq_false h)]at hn
   rw[wrap64 (by omega)]
   exact zh (i+1) ⟨by omega,hn⟩ id (by omega) gM
 ·have hge: ¬i<l.length:=by simpa using h
  rw[List.drop_of_length_le (by omega)]at hn
  simp only[posI]at hn
  repeat' first|refine gG ?_|refine gB (fun h=>?_) (fun h=>?_)|refine zp ?_
  rw[←hn]
  exact gF
theorem zf6(l:List Int)(x:Int):zj Tryz.prog 162 [pS (zA l),I x] [] (.bq (decide (x∈l))) []:=by
 have hX:=znk l x
 have hm:decide (x∈l)=decide (0≤posI x l 0):=decide_eq_decide.2 (zg2 x l 0).symm
 rw[hm]
 refine gO T Tryz.func162 fun C hC=>?_
 repeat' first|refine gG ?_|refine gB (fun h=>?_) (fun h=>?_)|refine gC hX ?_
 exact gF
theorem zkK(r:Rw)(x:Int):zj Tryz.prog 161 [pS (zA r),.one (.bx 0 0)] [(0,.box [.p (ki x)])] (.bq (decide (x∈r))) [(0,.box [.p (ki x)])]:=by
 have hX:=zf6 r x
 refine gO T Tryz.func161 fun C hC=>?_
 repeat' first|refine gG ?_|refine gB (fun h=>?_) (fun h=>?_)|refine gC hX ?_
 exact gE
theorem znl(f:FuncId)(kx:Int)(l:List Rw)(p:Rw→Unit→Bool)(nx:Rw→Unit→Unit)(inv:Unit→Prop)
 (hf: ∀x∈l,∀s:Unit,inv s→zj Tryz.prog f [pS (zA x),.one (.bx 0 0)] [(0,.box [.p (ki kx)])] (.bq (p x s)) ((fun s:Unit=>[(0,.box [.p (ki kx)])]) (nx x s))∧(p x s=false→inv (nx x s))) (s:Unit) (hs:inv s):
 zj Tryz.prog 160 [pS (.sl 1 (l.map ze2)),.one (.cl f [] [.bx 0 0])] [(0,.box [.p (ki kx)])] (I (idxR p nx l 0 s).1) ((fun s:Unit=>[(0,.box [.p (ki kx)])]) (idxR p nx l 0 s).2):=by
 refine gO T Tryz.func160 fun C hC=>?_
 have hs0:=hs
 refine w9 0 rfl fun hl=>?_
 rw[List.length_map]at hl
 repeat' first|refine gG ?_|refine gB (fun h=>?_) (fun h=>?_)
 rw[List.length_map]
 refine zy (fun q:Nat×Unit=>q.1≤l.length∧inv q.2∧idxR p nx (l.drop q.1) q.1 q.2=idxR p nx l 0 s) (fun q=>(fun s:Unit=>([(0,pS (.sl 1 (l.map ze2))),(1,.one (.cl f [] [.bx 0 0])),(7,I l.length),(8,I q.1)],[(0,some (.box [.p (ki kx)]))])) q.2) (fun q=>l.length - q.1) hC
  (0,s) ⟨Nat.zero_le _,hs,rfl⟩ id gM ?_
 generalize idxR p nx l 0 s=res
 clear hs hs0
 rintro⟨i,s⟩ ⟨hi,hv,hn⟩
 simp only at hi hv hn
 refine zI T hC true 200 rfl ?_
 refine zP rfl (fun hh=>?_) (fun hh=>?_)
 ·have hlt:i<l.length:=by simpa using hh
  clear hh
  obtain⟨x,hx⟩:=zf hlt
  rw[drop_at hx]at hn
  simp only[idxR]at hn
  have hv2:=(hf x (List.mem_of_getElem? hx) s hv).2
  repeat' first|refine gG ?_|refine gB (fun h=>?_) (fun h=>?_)|refine gI T (zu hx) ?_|refine zr hC (hf x (List.mem_of_getElem? hx) s hv).1 id rfl rfl (yJ.refl _) rfl rfl rfl rfl rfl rfl rfl rfl ?_|refine zT ?_
  ·rw[if_pos (by assumption)]at hn
   subst hn
   exact gE
  ·have hpf:p x s=false:=by assumption
   rw[hpf]at hn
   simp only[Bool.false_eq_true,if_false]at hn
   rw[wrap64 (by omega)]
   exact zh (i+1,nx x s) ⟨by simp only;omega,hv2 hpf,hn⟩ id (by simp only;omega) gM
 ·have hge: ¬i<l.length:=by simpa using hh
  rw[List.drop_eq_nil_of_le (by omega)]at hn
  simp only[idxR]at hn
  subst hn
  repeat' first|refine gG ?_|refine gB (fun h=>?_) (fun h=>?_)|refine zp ?_
  exact gE
theorem zg3(a:Int): ∀(R:Rws) (k:Nat),(idxR (fun(r:Rw) (_:Unit)=>decide (a∈r)) (fun _ s=>s) R k ()).1=clsI a R k
 | [],k=>rfl
 |r::R,k=>by
  simp only[idxR,clsI,decide_eq_true_eq]
  split
  ·rfl
  ·exact zg3 a R (k+1)
theorem xr(R:Rws)(a:Int):zj Tryz.prog 138 [pS (z8 R),I a] [] (I (clsI a R 0)) []:=by
 have hX:=znl 161 a R (fun r _=>decide (a∈r)) (fun _ s=>s) (fun _=>True) (fun r _ _ _=>⟨zkK r a,fun _=>trivial⟩) () trivial
 rw[zg3]at hX
 refine gO T Tryz.func138 fun C hC=>?_
 repeat' first|refine gG ?_|refine gB (fun h=>?_) (fun h=>?_)|refine gR hX (nm [1003]) ?_
 exact gF
theorem znm(b:Bool):zj Tryz.prog 139 [.bq b] [] (I (if b=true then 1 else 0)) []:=by
 refine gO T Tryz.func139 fun C hC=>?_
 repeat' first|refine gG ?_|refine gB (fun h=>?_) (fun h=>?_)|refine gN ?_
 ·rw[h];rfl
 ·rw[h];rfl
theorem zaa(a:Int): ∀(R:Rws) (k:Nat),(clsI a R k= -1∧ ∀r∈R,a∉r)∨ ∃(i:Nat) (r:Rw),clsI a R k=((k+i:Nat):Int)∧R[i]?=some r∧a∈r∧ ∀(j:Nat) s,j<i→R[j]?=some s→a∉s
 | [],k=> .inl ⟨rfl,fun r hr=>by cases hr⟩
 |r::R,k=>by
  simp only[clsI]
  split
  ·rename_i h
   exact .inr ⟨0,r,rfl,rfl,h,fun j s hj=>absurd hj (Nat.not_lt_zero _)⟩
  ·rename_i h
   rcases zaa a R (k+1)with⟨h1,h2⟩|⟨i,s,h1,h2,h3,h4⟩
   ·exact .inl ⟨h1,fun x hx=>(List.mem_cons.1 hx).elim (fun e=>by rw[e];exact h) (h2 x)⟩
   ·refine .inr ⟨i+1,s,by rw[h1];congr 1;omega,h2,h3,fun j x hj hx=>?_⟩
    cases j with
    |zero=>simp at hx;rw[←hx];exact h
    |succ j=>exact h4 j x (by omega) (by simpa using hx)
end Hw.Fr.Md
namespace Hw.Fr.Md
open Go Go.Proofs Go.Shelf Hw.M
theorem zum(R:Rws)(hR:R.length≤500):zj Tryz.prog 102 [.one (.ar 0),zz [ki 5,zA []]] [(0,vg 1 R.length),(1,bg R)] (.tup [.one (.ar 2),zz (rsR (okR R.length))]) [(2,vg 3 R.length),(3,bg R)]:=by
 have hN:=zR R.length
 refine gO T Tryz.func102 fun C hC=>?_
 repeat' first|refine gG ?_|(exfalso;first|(simp only[decide_eq_true_eq,decide_eq_false_iff_not,List.length_map,Bool.not_eq_true',Bool.not_eq_false']at *; omega)|(simp at h;done))|refine gB (fun h=>?_) (fun h=>?_)|refine z7 T hC rfl rfl rfl rfl rfl rfl ?_|refine gC hN ?_
 all_goals exact zg ⟨.inl rfl,nm [0,1,0,1],_,rfl,.refl _,⟨rfl,rfl,trivial⟩,rfl,rfl⟩
theorem ztt(R:Rws)(hR:R.length≤500)(x za:Int)(hA:zj Tryz.prog 138 [pS (z8 R),I x] [] (I za) [])(hz:za<0):zj Tryz.prog 102 [.one (.ar 0),zz [ki 4,zA [x]]] [(0,vg 1 R.length),(1,bg R)] (.tup [.one (.ar 2),zz (rsR (erR 12))]) [(2,vg 3 R.length),(3,bg R)]:=by
 have hN:=yj 12
 refine gO T Tryz.func102 fun C hC=>?_
 repeat' first|refine gG ?_|(exfalso;first|(simp only[decide_eq_true_eq,decide_eq_false_iff_not,List.length_map,Bool.not_eq_true',Bool.not_eq_false']at *; omega)|(simp at h;done))|refine gB (fun h=>?_) (fun h=>?_)|refine z7 T hC rfl rfl rfl rfl rfl rfl ?_|refine yh T hC rfl rfl rfl (by decide) rfl rfl rfl ?_|refine yk hC hA [(0,vg 1 R.length),(1,bg R)] rfl rfl (y4.cons (LnS.one (xU 0 1 R)) (y4.refl _)) rfl rfl rfl rfl ?_|refine gC hN ?_
 all_goals exact zg ⟨.inl rfl,nm [0,1,0,1],_,rfl,.refl _,⟨rfl,rfl,trivial⟩,rfl,rfl⟩
theorem zun(R:Rws)(hR:R.length≤500)(x:Int)(i:Nat)(r:Rw)(hq:R[i]?=some r)(hil:i<R.length)(hA:zj Tryz.prog 138 [pS (z8 R),I x] [] (I i) []):zj Tryz.prog 102 [.one (.ar 0),zz [ki 4,zA [x]]] [(0,vg 1 R.length),(1,bg R)] (.tup [.one (.ar 2),zz (rsR (okR r.length))]) [(2,vg 3 R.length),(3,bg R)]:=by
 have hN:=zR r.length
 refine gO T Tryz.func102 fun C hC=>?_
 repeat' first|refine gG ?_|(exfalso;first|(simp only[decide_eq_true_eq,decide_eq_false_iff_not,List.length_map,Bool.not_eq_true',Bool.not_eq_false']at *; omega)|(simp at h;done))|refine gB (fun h=>?_) (fun h=>?_)|refine z7 T hC rfl rfl rfl rfl rfl rfl ?_|refine yh T hC rfl rfl rfl (by decide) rfl rfl rfl ?_|refine yk hC hA [(0,vg 1 R.length),(1,bg R)] rfl rfl (y4.cons (LnS.one (xU 0 1 R)) (y4.refl _)) rfl rfl rfl rfl ?_|(refine wM T hC (i) rfl rfl rfl rfl rfl (by omega) rfl rfl ?_;refine xh T hC rfl rfl rfl (by omega) rfl rfl ?_)|refine zkD T hC hq rfl rfl rfl rfl rfl ?_|refine gC hN ?_
 all_goals exact zg ⟨.inl rfl,nm [0,1,0,1],_,rfl,.refl _,⟨rfl,rfl,trivial⟩,rfl,rfl⟩
theorem ztu(R:Rws)(hR:R.length≤500)(x y za zb:Int)(hA:zj Tryz.prog 138 [pS (z8 R),I x] [] (I za) [])(hB:zj Tryz.prog 138 [pS (z8 R),I y] [] (I zb) [])(hz:za<0∨zb<0):zj Tryz.prog 102 [.one (.ar 0),zz [ki 2,zA [x,y]]] [(0,vg 1 R.length),(1,bg R)] (.tup [.one (.ar 2),zz (rsR (erR 12))]) [(2,vg 3 R.length),(3,bg R)]:=by
 have hN:=yj 12
 refine gO T Tryz.func102 fun C hC=>?_
 repeat' first|refine gG ?_|(exfalso;first|(simp only[decide_eq_true_eq,decide_eq_false_iff_not,List.length_map,Bool.not_eq_true',Bool.not_eq_false']at *; omega)|(simp at h;done))|refine gB (fun h=>?_) (fun h=>?_)|refine z7 T hC rfl rfl rfl rfl rfl rfl ?_|refine yh T hC rfl rfl rfl (by decide) rfl rfl rfl ?_|refine yk hC hA [(0,vg 1 R.length),(1,bg R)] rfl rfl (y4.cons (LnS.one (xU 0 1 R)) (y4.refl _)) rfl rfl rfl rfl ?_|refine yk hC hB [(0,vg 1 R.length),(1,bg R)] rfl rfl (y4.cons (LnS.one (xU 0 1 R)) (y4.refl _)) rfl rfl rfl rfl ?_|refine gC hN ?_
 all_goals exact zg ⟨.inl rfl,nm [0,1,0,1],_,rfl,.refl _,⟨rfl,rfl,trivial⟩,rfl,rfl⟩
theorem ztv(R:Rws)(hR:R.length≤500)(x y za zb:Int)(hA:zj Tryz.prog 138 [pS (z8 R),I x] [] (I za) [])(hB:zj Tryz.prog 138 [pS (z8 R),I y] [] (I zb) [])(hz:za<0∨zb<0):zj Tryz.prog 102 [.one (.ar 0),zz [ki 3,zA [x,y]]] [(0,vg 1 R.length),(1,bg R)] (.tup [.one (.ar 2),zz (rsR (erR 12))]) [(2,vg 3 R.length),(3,bg R)]:=by
 have hN:=yj 12
 refine gO T Tryz.func102 fun C hC=>?_
 repeat' first|refine gG ?_|(exfalso;first|(simp only[decide_eq_true_eq,decide_eq_false_iff_not,List.length_map,Bool.not_eq_true',Bool.not_eq_false']at *; omega)|(simp at h;done))|refine gB (fun h=>?_) (fun h=>?_)|refine z7 T hC rfl rfl rfl rfl rfl rfl ?_|refine yh T hC rfl rfl rfl (by decide) rfl rfl rfl ?_|refine yk hC hA [(0,vg 1 R.length),(1,bg R)] rfl rfl (y4.cons (LnS.one (xU 0 1 R)) (y4.refl _)) rfl rfl rfl rfl ?_|refine yk hC hB [(0,vg 1 R.length),(1,bg R)] rfl rfl (y4.cons (LnS.one (xU 0 1 R)) (y4.refl _)) rfl rfl rfl rfl ?_|refine gC hN ?_
 all_goals exact zg ⟨.inl rfl,nm [0,1,0,1],_,rfl,.refl _,⟨rfl,rfl,trivial⟩,rfl,rfl⟩
theorem zuo(R:Rws)(hR:R.length≤500)(x y za zb:Int)(hA:zj Tryz.prog 138 [pS (z8 R),I x] [] (I za) [])(hB:zj Tryz.prog 138 [pS (z8 R),I y] [] (I zb) [])(hz:0≤za)(hz2:0≤zb):zj Tryz.prog 102 [.one (.ar 0),zz [ki 3,zA [x,y]]] [(0,vg 1 R.length),(1,bg R)] (.tup [.one (.ar 2),zz (rsR (okR (if za=zb then 1 else 0)))]) [(2,vg 3 R.length),(3,bg R)]:=by
 have hT2:=znm (decide (za=zb))
 have hN:=zR (if decide (za=zb)=true then 1 else 0)
 have he:(if decide (za=zb)=true then(1:Int)else 0)=if za=zb then 1 else 0:=by simp
 refine gO T Tryz.func102 fun C hC=>?_
 repeat' first|refine gG ?_|(exfalso;first|(simp only[decide_eq_true_eq,decide_eq_false_iff_not,List.length_map,Bool.not_eq_true',Bool.not_eq_false']at *; omega)|(simp at h;done))|refine gB (fun h=>?_) (fun h=>?_)|refine z7 T hC rfl rfl rfl rfl rfl rfl ?_|refine yh T hC rfl rfl rfl (by decide) rfl rfl rfl ?_|refine yk hC hA [(0,vg 1 R.length),(1,bg R)] rfl rfl (y4.cons (LnS.one (xU 0 1 R)) (y4.refl _)) rfl rfl rfl rfl ?_|refine yk hC hB [(0,vg 1 R.length),(1,bg R)] rfl rfl (y4.cons (LnS.one (xU 0 1 R)) (y4.refl _)) rfl rfl rfl rfl ?_|refine gC hT2 ?_|refine gC hN ?_
 rw[he]
 all_goals exact zg ⟨.inl rfl,nm [0,1,0,1],_,rfl,.refl _,⟨rfl,rfl,trivial⟩,rfl,rfl⟩
theorem ztw(R:Rws)(hR:R.length≤500)(x y za:Int)(hA:zj Tryz.prog 138 [pS (z8 R),I x] [] (I za) [])(hB:zj Tryz.prog 138 [pS (z8 R),I y] [] (I za) [])(hz:0≤za):zj Tryz.prog 102 [.one (.ar 0),zz [ki 2,zA [x,y]]] [(0,vg 1 R.length),(1,bg R)] (.tup [.one (.ar 2),zz (rsR (okR 0))]) [(2,vg 3 R.length),(3,bg R)]:=by
 have hN:=zR 0
 refine gO T Tryz.func102 fun C hC=>?_
 repeat' first|refine gG ?_|(exfalso;first|(simp only[decide_eq_true_eq,decide_eq_false_iff_not,List.length_map,Bool.not_eq_true',Bool.not_eq_false']at *; omega)|(simp at h;done))|refine gB (fun h=>?_) (fun h=>?_)|refine z7 T hC rfl rfl rfl rfl rfl rfl ?_|refine yh T hC rfl rfl rfl (by decide) rfl rfl rfl ?_|refine yk hC hA [(0,vg 1 R.length),(1,bg R)] rfl rfl (y4.cons (LnS.one (xU 0 1 R)) (y4.refl _)) rfl rfl rfl rfl ?_|refine yk hC hB [(0,vg 1 R.length),(1,bg R)] rfl rfl (y4.cons (LnS.one (xU 0 1 R)) (y4.refl _)) rfl rfl rfl rfl ?_|refine gC hN ?_
 all_goals exact zg ⟨.inl rfl,nm [0,1,0,1],_,rfl,.refl _,⟨rfl,rfl,trivial⟩,rfl,rfl⟩
theorem zbR{R:Rws}{i:Nat}{r:Rw}(h:R[i]?=some r):(R.take (i+1)).flatten.length=(R.take i).flatten.length+r.length:=by
 rw[zbQ h,List.flatten_append,List.length_append];simp
theorem vK(R:Rws)(i:Nat):(R.take i).flatten.length≤R.flatten.length:=by
 conv=>rhs;rw[←List.take_append_drop i R,List.flatten_append,List.length_append]
 omega
theorem ztx(R:Rws)(hR:R.length≤500)(h5:R.flatten.length=500):zj Tryz.prog 102 [.one (.ar 0),zz [ki 1,zA []]] [(0,vg 1 R.length),(1,bg R)] (.tup [.one (.ar 2),zz (rsR (erR 4))]) [(2,vg 3 R.length),(3,bg R)]:=by
 have hb:R.flatten.length≤500:=by omega
 have hN:=yj 4
 refine gO T Tryz.func102 fun C hC=>?_
 repeat' first|refine gG ?_|(exfalso;first|(simp only[decide_eq_true_eq,decide_eq_false_iff_not,List.length_map,Bool.not_eq_true',Bool.not_eq_false']at *; omega)|(simp at h;done))|refine gB (fun h=>?_) (fun h=>?_)|refine z7 T hC rfl rfl rfl rfl rfl rfl ?_
 refine zy (fun i:Nat=>i≤R.length) (fun i=>([(0,.one (.ar 0)),(5,.one (.bx 1005 0)),(6,I ((R.take i).flatten.length)),(21,.one (.ar 0)),(22,I R.length),(23,I i)],[(0,some (vg 1 R.length)),(1,some (bg R)),(1005,some (.box [.p (ki 0),.p (ki 0),.p (.k (.slice none 0 0))]))])) (fun i=>R.length - i) hC
  0 (Nat.zero_le _) id gM ?_
 intro i hi
 refine zI T hC true 200 rfl ?_
 refine zP rfl (fun h=>?_) (fun h=>?_)
 ·have hlt:i<R.length:=by simpa using h
  clear h
  obtain⟨r,hq⟩:=zf hlt
  have hft:=zbR hq
  have hle:=vK R (i+1)
  repeat' first|refine gG ?_|refine gB (fun h=>?_) (fun h=>?_)|refine wM T hC i rfl rfl rfl rfl rfl hlt rfl rfl ?_|refine xh T hC rfl rfl rfl hlt rfl rfl ?_|refine zkD T hC hq rfl rfl rfl rfl rfl ?_
  rw[yq (by omega),wrap64 (n:=((R.take i).flatten.length:Int)+(r.length:Int)) (by omega),show((R.take i).flatten.length:Int)+(r.length:Int)=(((R.take (i+1)).flatten.length:Nat):Int) by omega]
  exact zh (i+1) (by omega) id (by omega) gM
 ·have hge: ¬i<R.length:=by simpa using h
  have e:R.take i=R:=List.take_of_length_le (by omega)
  rw[e]
  repeat' first|refine gG ?_|(exfalso;first|(simp only[decide_eq_true_eq,decide_eq_false_iff_not,List.length_map,Bool.not_eq_true',Bool.not_eq_false']at *; omega)|(simp at h;done))|refine gB (fun h=>?_) (fun h=>?_)|refine zp ?_|refine z7 T hC rfl rfl rfl rfl rfl rfl ?_|refine gC hN ?_
  all_goals exact zg ⟨.inl rfl,nm [0,1,0,1],_,rfl,.refl _,⟨rfl,rfl,trivial⟩,rfl,rfl⟩
theorem zup(R:Rws)(hR:R.length≤500)(h5:R.flatten.length<500):zj Tryz.prog 102 [.one (.ar 0),zz [ki 1,zA []]] [(0,vg 1 R.length),(1,bg R)] (.tup [.one (.ar 2),zz (rsR (okR R.flatten.length))]) [(2,vg 3 (R.length+1)),(3,bg (R++[[(R.flatten.length:Int)]]))]:=by
 have hb:R.flatten.length≤500:=by omega
 have hN:=zR R.flatten.length
 have hbg:bg (R++[[(R.flatten.length:Int)]])= .bag 1 ((R.map fun r=>r.map zS)++[[[ki R.flatten.length]]]):=by rw[bg,←zkC];rfl
 refine gO T Tryz.func102 fun C hC=>?_
 repeat' first|refine gG ?_|(exfalso;first|(simp only[decide_eq_true_eq,decide_eq_false_iff_not,List.length_map,Bool.not_eq_true',Bool.not_eq_false']at *; omega)|(simp at h;done))|refine gB (fun h=>?_) (fun h=>?_)|refine z7 T hC rfl rfl rfl rfl rfl rfl ?_
 refine zy (fun i:Nat=>i≤R.length) (fun i=>([(0,.one (.ar 0)),(5,.one (.bx 1005 0)),(6,I ((R.take i).flatten.length)),(21,.one (.ar 0)),(22,I R.length),(23,I i)],[(0,some (vg 1 R.length)),(1,some (bg R)),(1005,some (.box [.p (ki 0),.p (ki 0),.p (.k (.slice none 0 0))]))])) (fun i=>R.length - i) hC
  0 (Nat.zero_le _) id gM ?_
 intro i hi
 refine zI T hC true 200 rfl ?_
 refine zP rfl (fun h=>?_) (fun h=>?_)
 ·have hlt:i<R.length:=by simpa using h
  clear h
  obtain⟨r,hq⟩:=zf hlt
  have hft:=zbR hq
  have hle:=vK R (i+1)
  repeat' first|refine gG ?_|refine gB (fun h=>?_) (fun h=>?_)|refine wM T hC i rfl rfl rfl rfl rfl hlt rfl rfl ?_|refine xh T hC rfl rfl rfl hlt rfl rfl ?_|refine zkD T hC hq rfl rfl rfl rfl rfl ?_
  rw[yq (by omega),wrap64 (n:=((R.take i).flatten.length:Int)+(r.length:Int)) (by omega),show((R.take i).flatten.length:Int)+(r.length:Int)=(((R.take (i+1)).flatten.length:Nat):Int) by omega]
  exact zh (i+1) (by omega) id (by omega) gM
 ·have hge: ¬i<R.length:=by simpa using h
  have e:R.take i=R:=List.take_of_length_le (by omega)
  rw[e]
  have hml:(R.map fun r=>r.map zS).length=R.length:=List.length_map _
  repeat' first|refine gG ?_|(exfalso;first|(simp only[decide_eq_true_eq,decide_eq_false_iff_not,List.length_map,Bool.not_eq_true',Bool.not_eq_false']at *; omega)|(simp at h;done))|refine gB (fun h=>?_) (fun h=>?_)|refine zp ?_|(refine zgK T hC [PC.p (ki R.flatten.length)] [] rfl rfl rfl rfl rfl rfl rfl rfl rfl rfl rfl rfl ?_;refine zrR rfl 1038 [[ki R.flatten.length]] rfl rfl ?_;refine zgI hC rfl 1 1038 105 (e:=1) (L:=R.map fun r=>r.map zS) (rs:=[[ki R.flatten.length]]) rfl rfl rfl rfl [(38,.one (.nv 105 R.length))] ⟨⟨_,rfl,RwS.one (TkF.arr hml.symm)⟩,trivial⟩ [(0,vg 105 R.length)] ⟨⟨_,rfl,rfl,RwR.zsM fun j _=>TkF.nv⟩,trivial⟩ ?_)|(refine zgK T hC [PC.n 0 R.length] [105] rfl rfl rfl rfl rfl rfl rfl rfl rfl rfl rfl rfl ?_)|(refine zez T 106 hC (ib:=105) (m:=R.length) (bytes:=24) rfl rfl rfl rfl rfl rfl rfl rfl rfl (by kernel_rfl) (by omega) (by omega) rfl rfl rfl ?_)|refine gC hN ?_
  rw[hbg]
  exact zg ⟨.inl rfl,nm [0,1,106,105],_,rfl,.refl _,⟨rfl,rfl,trivial⟩,rfl,rfl⟩
end Hw.Fr.Md
namespace Hw.Fr.Md
open Go Go.Proofs Go.Shelf Hw.M
def grS(n lo:Nat):List (List PC):=(List.range n).map fun j=>[if j=lo then PC.a 1 else PC.n 0 j]
theorem xL(n lo:Nat):(grS n lo).length=n:=by rw[grS,List.length_map,List.length_range]
theorem zf7(n lo:Nat): ∀r∈grS n lo,r.length=1:=fun r hr=>by obtain⟨_,_,rfl⟩:=List.mem_map.1 hr;rfl
theorem zg4(n lo:Nat):(grS n lo).flatten=(List.range n).map fun j=>if j=lo then PC.a 1 else PC.n 0 j:=by
 unfold grS
 induction List.range n with
 |nil=>rfl
 |cons a l ih=>simp only[List.map_cons,List.flatten_cons,ih];rfl
theorem zkL{n lo j:Nat}{x:PC}(h:(grS n lo).flatten[j]?=some x):j<n∧x=if j=lo then PC.a 1 else PC.n 0 j:=by
 rw[zg4,List.getElem?_map,Option.map_eq_some_iff]at h
 obtain⟨q,hq,rfl⟩:=h
 have hlt:=(List.getElem?_eq_some_iff.1 hq).1
 rw[List.length_range]at hlt
 rw[List.getElem?_range hlt]at hq
 obtain rfl:=Option.some.inj hq
 exact⟨hlt,rfl⟩
theorem zg5{n lo j:Nat}(h:j<n):(grS n lo).flatten[j]?=some (if j=lo then PC.a 1 else PC.n 0 j):=by
 rw[zg4,List.getElem?_map,List.getElem?_range h];rfl
theorem zkM(n lo:Nat):RwR (OpF 1 110 111 lo) (vg 1 n) (.vw [110,111] 1 (grS n lo)):=RwR.vw (by rw[xL,xY]) (zf7 _ _) fun j x' hj=>by
 obtain⟨hlt,rfl⟩:=zkL hj
 refine⟨_,zkl hlt,?_⟩
 by_cases h:j=lo
 ·subst h;rw[if_pos rfl];exact OpF.ar
 ·rw[if_neg h];exact OpF.nv h
theorem zab{R:Rws}{lo:Nat}{A:Rw}(ha:R[lo]?=some A):LnV [(0,.vw [110,111] 1 (grS R.length lo)),(110,.bag 1 ((R.map fun r=>r.map zS).set lo [])),(111,.arr 1 (A.map zS))] (.ar 0) (.p (z8 R)):=
 LnV.vw (.head _) (by rw[List.length_map,xL]) (fun r hr=>by obtain⟨_,_,rfl⟩:=List.mem_map.1 hr;rfl) fun j x' hj=>by
  have hfl:(R.map ze2).flatten=R.map zA:=by
   clear hj ha
   induction R with
   |nil=>rfl
   |cons a l ih=>simp only[List.map_cons,List.flatten_cons,ih];rfl
  rw[hfl,List.getElem?_map,Option.map_eq_some_iff]at hj
  obtain⟨r,hr,rfl⟩:=hj
  have hlt:=(List.getElem?_eq_some_iff.1 hr).1
  refine⟨_,zg5 hlt,?_⟩
  by_cases h:j=lo
  ·subst h
   rw[if_pos rfl]
   rw[ha]at hr
   obtain rfl:=Option.some.inj hr
   exact LnV.ar (.tail _ (.tail _ (.head _)))
  ·rw[if_neg h]
   exact LnV.nv (.tail _ (.head _)) (by rw[List.getElem?_set_ne (fun e=>h e.symm)];exact zdj hr)
section
variable {P:Program} {C:Ctx} {k:List Frm} {n:Nat} {sl:zi} {tab:Tab} {Q:Exit→St→Prop} {all:Array Oper} {rest:List Oper}
theorem zaQ(T:Ty P){d:Nat}{x y:Operand}{t:TypeId}{ty:TypeId}{ps:String}{af:Array Edge}{g0:Option (Nat×Bool)}{gs:zi}{md:Mode}(hC:C.low){id:Nat}{ids:List Nat}{rows:List (List PC)}{el:TypeId}{z:Int}(i:Nat)
 (hx:ev sl x=some (.one (.ar id))) (hy:ev sl y=some (I z)) (hz:z=i) (hT:tg tab id=some (.vw ids 1 rows)) (he:T.es t=some (el,1)) (hi:i<rows.length) (hm:metL all sl g0=some gs) (hd:Nat.blt d n=true)
 (g:Goal P C (.ops all rest (nx md ⟨some d,gs++(rq x (.one (.ar id))++rq y (I z)),[(id,.vw ids 1 rows)],[],.one (.el id i),[]⟩)) k n ((d,.one (.el id i))::sl) tab Q):
 Goal P C (.ops all (⟨some d,.indexAddr t x y,ty,ps,af,g0⟩::rest) md) k n sl tab Q:=by
 subst hz
 refine zom T hC hx hy hT he (Int.natCast_nonneg _) (by omega) hm hd ?_
 rw[Int.toNat_natCast,Nat.mul_one]
 exact g
end
theorem znn{n lo i2:Nat}(h:lo<n): ∀(j:Nat) v,[V.ar i2][j]?=some v→ ∃p,(grS n lo).flatten[lo+j]?=some p∧toV [110,i2] p=v:=fun j v hj=>by
 match j,hj with
 |0,hj=>exact⟨_,zg5 h,by simp at hj;rw[←hj,Nat.add_zero,if_pos rfl];rfl⟩
 |j+1,hj=>simp at hj
theorem zrZ{n lo hi i2:Nat}(h:hi<n)(hne:hi≠lo): ∀(j:Nat) v,[V.nv 110 hi][j]?=some v→ ∃p,(grS n lo).flatten[hi+j]?=some p∧toV [110,i2] p=v:=fun j v hj=>by
 match j,hj with
 |0,hj=>exact⟨_,zg5 h,by simp at hj;rw[←hj,Nat.add_zero,if_neg hne];rfl⟩
 |j+1,hj=>simp at hj
theorem zr0{n lo:Nat}: ∀(q:Nat) p,(grS n lo).flatten[q]?=some p→(lo≤q∧ [V.ar 112][q - lo]?=some (toV [110,112] p))∨((q<lo∨lo+ [V.ar 112].length≤q)∧ ∃p0,(grS n lo).flatten[q]?=some p0∧toV [110,111] p0=toV [110,112] p):=fun q p hq=>by
 obtain⟨hlt,rfl⟩:=zkL hq
 by_cases h:q=lo
 ·subst h
  exact .inl ⟨Nat.le_refl _,by rw[Nat.sub_self,if_pos rfl];rfl⟩
 ·refine .inr ⟨by simp only[List.length_cons,List.length_nil];omega,_,hq,?_⟩
  rw[if_neg h];rfl
theorem zkN(n lo:Nat):RwR (TkF 110 112 113 n) (.vw [110,112] 1 (grS n lo)) (.vw [113] 1 (grJ ((List.range n).set lo n))):=RwR.vw (by rw[xL,zfT,List.length_set,List.length_range]) (zkk _) fun j x' hj=>by
 rw[vZ,List.getElem?_map,Option.map_eq_some_iff]at hj
 obtain⟨q,hq,rfl⟩:=hj
 have hlt:=(List.getElem?_eq_some_iff.1 hq).1
 rw[List.length_set,List.length_range]at hlt
 refine⟨_,zg5 hlt,?_⟩
 by_cases h:j=lo
 ·subst h
  rw[List.getElem?_set_self (by rw[List.length_range];exact hlt)]at hq
  obtain rfl:=Option.some.inj hq
  rw[if_pos rfl]
  exact TkF.ar
 ·rw[List.getElem?_set_ne (fun e=>h e.symm),List.getElem?_range hlt]at hq
  obtain rfl:=Option.some.inj hq
  rw[if_neg h]
  exact TkF.nv
theorem vL(n lo:Nat):((List.range n).set lo n).Nodup:=by
 rw[List.nodup_iff_pairwise_ne,List.pairwise_iff_getElem]
 intro i j hi hj hij
 rw[List.length_set,List.length_range]at hi hj
 rw[List.getElem_set,List.getElem_set]
 split<;>split<;>(try simp only[List.getElem_range])<;>omega
theorem zkO{L:List (List (List PV))}{lo:Nat}{M:List (List PV)}(hlo:lo<L.length): ∀(i q:Nat),((List.range L.length).set lo L.length)[i]?=some q→q<(L.set lo []++[M]).length∧(L.set lo M)[i]?=(L.set lo []++[M])[q]?:=fun i q hq=>by
 have hlt:=(List.getElem?_eq_some_iff.1 hq).1
 rw[List.length_set,List.length_range]at hlt
 by_cases h:i=lo
 ·subst h
  rw[List.getElem?_set_self (by rw[List.length_range];exact hlt)]at hq
  obtain rfl:=Option.some.inj hq
  rw[List.getElem?_set_self hlt,List.getElem?_append_right (by rw[List.length_set];exact Nat.le_refl _),List.length_set,Nat.sub_self]
  exact⟨by simp,rfl⟩
 ·rw[List.getElem?_set_ne (fun e=>h e.symm),List.getElem?_range hlt]at hq
  obtain rfl:=Option.some.inj hq
  rw[List.getElem?_set_ne (fun e=>h e.symm),List.getElem?_append_left (by rw[List.length_set];exact hlt),List.getElem?_set_ne (fun e=>h e.symm)]
  exact⟨by simp;omega,rfl⟩
theorem zty(R:Rws)(hR:R.length≤500)(x y:Int)(lo hi:Nat)(A B:Rw)(ha:R[lo]?=some A)(hb:R[hi]?=some B)(hlt:lo<hi)(hl:A.length+B.length≤1000)(hA:zj Tryz.prog 138 [pS (z8 R),I x] [] (I lo) [])(hB:zj Tryz.prog 138 [pS (z8 R),I y] [] (I hi) []):
 zj Tryz.prog 102 [.one (.ar 0),zz [ki 2,zA [x,y]]] [(0,vg 1 R.length),(1,bg R)] (.tup [.one (.ar 2),zz (rsR (okR 1))]) [(2,vg 3 (R.length - 1)),(3,bg ((R.set lo (yy (A++B))).eraseIdx hi))]:=by
 have hN:=zR 1
 have hhi:hi<R.length:=(List.getElem?_eq_some_iff.1 hb).1
 have hAl:(A.map zS).length=A.length:=List.length_map _
 have hBl:(B.map zS).length=B.length:=List.length_map _
 have hLl:(R.map fun r=>r.map zS).length=R.length:=List.length_map _
 have hS:=zf0 (A++B) (by rw[List.length_append];omega)
 have hsetl:(R.set lo (yy (A++B))).length=R.length:=List.length_set
 have hD:=zey (R.set lo (yy (A++B))) hi (by rw[hsetl];exact hhi) (by rw[hsetl];omega)
 rw[hsetl]at hD
 have hbh:((R.map fun r=>r.map zS).set lo [])[hi]?=some (B.map zS):=by rw[List.getElem?_set_ne (by omega)];exact zdj hb
 have hsl:((R.map fun r=>r.map zS).set lo []).length=R.length:=by rw[List.length_set,hLl]
 have hjl:((List.range R.length).set lo R.length).length=R.length:=by rw[List.length_set,List.length_range]
 have hna: ∀(i q:Nat),((List.range R.length).set lo R.length)[i]?=some q→q<((R.map fun r=>r.map zS).set lo []++[(yy (A++B)).map zS]).length∧((R.set lo (yy (A++B))).map fun r=>r.map zS)[i]?=((R.map fun r=>r.map zS).set lo []++[(yy (A++B)).map zS])[q]?:=by
  have:=zkO (L:=R.map fun r=>r.map zS) (lo:=lo) (M:=(yy (A++B)).map zS) (by omega)
  rw[hLl,zkE]at this
  exact this
 refine gO T Tryz.func102 fun C hC=>?_
 refine zor hC rfl 1 110 111 lo (e:=1) (rs:=A.map zS) rfl (zdj ha) rfl rfl rfl [] trivial [(0,.vw [110,111] 1 (grS R.length lo))] ⟨⟨_,rfl,rfl,zkM _ _⟩,trivial⟩ ?_
 repeat' first|refine gG ?_|(exfalso;first|(simp only[decide_eq_true_eq,decide_eq_false_iff_not,List.length_map,Bool.not_eq_true',Bool.not_eq_false']at *; omega)|(simp at h;done))|refine gB (fun h=>?_) (fun h=>?_)|refine yh T hC rfl rfl rfl (by decide) rfl rfl rfl ?_|refine yk hC hA [(0,.vw [110,111] 1 (grS R.length lo)),(110,.bag 1 ((R.map fun r=>r.map zS).set lo [])),(111,.arr 1 (A.map zS))] rfl rfl (y4.cons (LnS.one (zab ha)) (y4.refl _)) rfl rfl rfl rfl ?_|refine yk hC hB [(0,.vw [110,111] 1 (grS R.length lo)),(110,.bag 1 ((R.map fun r=>r.map zS).set lo [])),(111,.arr 1 (A.map zS))] rfl rfl (y4.cons (LnS.one (zab ha)) (y4.refl _)) rfl rfl rfl rfl ?_|(refine zaQ T hC lo rfl rfl rfl rfl rfl (by rw[xL];omega) rfl rfl ?_;refine jG T hC [.ar 111] rfl rfl rfl (znn (by omega)) rfl rfl rfl ?_)|(refine zaQ T hC hi rfl rfl rfl rfl rfl (by rw[xL];omega) rfl rfl ?_;refine jG T hC [.nv 110 hi] rfl rfl rfl (zrZ hhi (by omega)) rfl rfl rfl ?_)|(refine zaQ T hC lo rfl rfl rfl rfl rfl (by rw[xL];omega) rfl rfl ?_;refine jG T hC [.ar 112] rfl rfl rfl (znn (by omega)) rfl rfl rfl ?_)|refine zC T 112 hC (id:=111) (rows:=A.map zS) (rows2:=B.map zS) (rows3:=(A++B).map zS) (bytes:=8) rfl rfl rfl rfl (xj.nv (T.es_ok _ _ rfl) hbh (fun r hr=>by obtain⟨_,_,rfl⟩:=List.mem_map.1 hr;rfl)) (List.map_append).symm rfl rfl rfl (by kernel_rfl) (by omega) (by omega) rfl rfl rfl ?_|(refine zaQ T hC lo rfl rfl rfl rfl rfl (by rw[xL];omega) rfl rfl ?_;refine zgJ T hC (us:=[.ar 112]) (grS R.length lo) [110,112] rfl rfl rfl rfl rfl rfl rfl (zf7 _ _) (by rw[xL];simp only[List.length_cons,List.length_nil];omega) zr0 rfl ?_)|refine gR hS (nm [112]) ?_|(rw[yq (by omega)];refine zgI hC rfl 110 112 113 (e:=1) (L:=(R.map fun r=>r.map zS).set lo []) (rs:=(yy (A++B)).map zS) rfl rfl rfl rfl [] trivial [(0,.vw [113] 1 (grJ ((List.range R.length).set lo R.length)))] ⟨⟨_,rfl,rfl,by rw[hsl];exact zkN _ _⟩,trivial⟩ ?_;refine zot hC rfl 0 113 114 ((List.range R.length).set lo R.length) (e:=1) (L:=(R.map fun r=>r.map zS).set lo []++[(yy (A++B)).map zS]) ((R.set lo (yy (A++B))).map fun r=>r.map zS) rfl rfl (vL _ _) (by rw[List.length_map,hsetl,hjl]) hna rfl rfl ?_;rw[hjl];refine gR hD (nm [0,114,122,123]) ?_)|refine gC hN ?_
 exact zg ⟨.inl rfl,nm [0,1,122,123],_,rfl,.refl _,⟨rfl,rfl,trivial⟩,rfl,rfl⟩
theorem ztz(R:Rws)(hR:R.length≤500)(x y:Int)(lo hi:Nat)(A B:Rw)(ha:R[lo]?=some A)(hb:R[hi]?=some B)(hlt:lo<hi)(hl:A.length+B.length≤1000)(hA:zj Tryz.prog 138 [pS (z8 R),I x] [] (I hi) [])(hB:zj Tryz.prog 138 [pS (z8 R),I y] [] (I lo) []):
 zj Tryz.prog 102 [.one (.ar 0),zz [ki 2,zA [x,y]]] [(0,vg 1 R.length),(1,bg R)] (.tup [.one (.ar 2),zz (rsR (okR 1))]) [(2,vg 3 (R.length - 1)),(3,bg ((R.set lo (yy (A++B))).eraseIdx hi))]:=by
 have hN:=zR 1
 have hhi:hi<R.length:=(List.getElem?_eq_some_iff.1 hb).1
 have hAl:(A.map zS).length=A.length:=List.length_map _
 have hBl:(B.map zS).length=B.length:=List.length_map _
 have hLl:(R.map fun r=>r.map zS).length=R.length:=List.length_map _
 have hS:=zf0 (A++B) (by rw[List.length_append];omega)
 have hsetl:(R.set lo (yy (A++B))).length=R.length:=List.length_set
 have hD:=zey (R.set lo (yy (A++B))) hi (by rw[hsetl];exact hhi) (by rw[hsetl];omega)
 rw[hsetl]at hD
 have hbh:((R.map fun r=>r.map zS).set lo [])[hi]?=some (B.map zS):=by rw[List.getElem?_set_ne (by omega)];exact zdj hb
 have hsl:((R.map fun r=>r.map zS).set lo []).length=R.length:=by rw[List.length_set,hLl]
 have hjl:((List.range R.length).set lo R.length).length=R.length:=by rw[List.length_set,List.length_range]
 have hna: ∀(i q:Nat),((List.range R.length).set lo R.length)[i]?=some q→q<((R.map fun r=>r.map zS).set lo []++[(yy (A++B)).map zS]).length∧((R.set lo (yy (A++B))).map fun r=>r.map zS)[i]?=((R.map fun r=>r.map zS).set lo []++[(yy (A++B)).map zS])[q]?:=by
  have:=zkO (L:=R.map fun r=>r.map zS) (lo:=lo) (M:=(yy (A++B)).map zS) (by omega)
  rw[hLl,zkE]at this
  exact this
 refine gO T Tryz.func102 fun C hC=>?_
 refine zor hC rfl 1 110 111 lo (e:=1) (rs:=A.map zS) rfl (zdj ha) rfl rfl rfl [] trivial [(0,.vw [110,111] 1 (grS R.length lo))] ⟨⟨_,rfl,rfl,zkM _ _⟩,trivial⟩ ?_
 repeat' first|refine gG ?_|(exfalso;first|(simp only[decide_eq_true_eq,decide_eq_false_iff_not,List.length_map,Bool.not_eq_true',Bool.not_eq_false']at *; omega)|(simp at h;done))|refine gB (fun h=>?_) (fun h=>?_)|refine yh T hC rfl rfl rfl (by decide) rfl rfl rfl ?_|refine yk hC hA [(0,.vw [110,111] 1 (grS R.length lo)),(110,.bag 1 ((R.map fun r=>r.map zS).set lo [])),(111,.arr 1 (A.map zS))] rfl rfl (y4.cons (LnS.one (zab ha)) (y4.refl _)) rfl rfl rfl rfl ?_|refine yk hC hB [(0,.vw [110,111] 1 (grS R.length lo)),(110,.bag 1 ((R.map fun r=>r.map zS).set lo [])),(111,.arr 1 (A.map zS))] rfl rfl (y4.cons (LnS.one (zab ha)) (y4.refl _)) rfl rfl rfl rfl ?_|(refine zaQ T hC lo rfl rfl rfl rfl rfl (by rw[xL];omega) rfl rfl ?_;refine jG T hC [.ar 111] rfl rfl rfl (znn (by omega)) rfl rfl rfl ?_)|(refine zaQ T hC hi rfl rfl rfl rfl rfl (by rw[xL];omega) rfl rfl ?_;refine jG T hC [.nv 110 hi] rfl rfl rfl (zrZ hhi (by omega)) rfl rfl rfl ?_)|(refine zaQ T hC lo rfl rfl rfl rfl rfl (by rw[xL];omega) rfl rfl ?_;refine jG T hC [.ar 112] rfl rfl rfl (znn (by omega)) rfl rfl rfl ?_)|refine zC T 112 hC (id:=111) (rows:=A.map zS) (rows2:=B.map zS) (rows3:=(A++B).map zS) (bytes:=8) rfl rfl rfl rfl (xj.nv (T.es_ok _ _ rfl) hbh (fun r hr=>by obtain⟨_,_,rfl⟩:=List.mem_map.1 hr;rfl)) (List.map_append).symm rfl rfl rfl (by kernel_rfl) (by omega) (by omega) rfl rfl rfl ?_|(refine zaQ T hC lo rfl rfl rfl rfl rfl (by rw[xL];omega) rfl rfl ?_;refine zgJ T hC (us:=[.ar 112]) (grS R.length lo) [110,112] rfl rfl rfl rfl rfl rfl rfl (zf7 _ _) (by rw[xL];simp only[List.length_cons,List.length_nil];omega) zr0 rfl ?_)|refine gR hS (nm [112]) ?_|(rw[yq (by omega)];refine zgI hC rfl 110 112 113 (e:=1) (L:=(R.map fun r=>r.map zS).set lo []) (rs:=(yy (A++B)).map zS) rfl rfl rfl rfl [] trivial [(0,.vw [113] 1 (grJ ((List.range R.length).set lo R.length)))] ⟨⟨_,rfl,rfl,by rw[hsl];exact zkN _ _⟩,trivial⟩ ?_;refine zot hC rfl 0 113 114 ((List.range R.length).set lo R.length) (e:=1) (L:=(R.map fun r=>r.map zS).set lo []++[(yy (A++B)).map zS]) ((R.set lo (yy (A++B))).map fun r=>r.map zS) rfl rfl (vL _ _) (by rw[List.length_map,hsetl,hjl]) hna rfl rfl ?_;rw[hjl];refine gR hD (nm [0,114,122,123]) ?_)|refine gC hN ?_
 exact zg ⟨.inl rfl,nm [0,1,122,123],_,rfl,.refl _,⟨rfl,rfl,trivial⟩,rfl,rfl⟩
end Hw.Fr.Md
namespace Hw.Fr.Md
open Go Go.Proofs Go.Shelf Hw.M
section
variable {P:Program} {C:Ctx} {k:List Frm} {n:Nat} {sl:zi} {tab:Tab} {Q:Exit→St→Prop} {all:Array Oper} {rest:List Oper}
end
end Hw.Fr.Md
namespace Hw.Fr.Md
open Go Go.Proofs Go.Shelf Hw.M
abbrev KM:Int:=4
theorem op4{o:OpT}(h:okOp 4 o=true):o=⟨1,[]⟩∨(∃x y,(o=⟨2,[x,y]⟩∨o=⟨3,[x,y]⟩)∧vC x=true∧vC y=true)∨(∃x,o=⟨4,[x]⟩∧vC x=true)∨o=⟨5,[]⟩:=by
 obtain⟨w,h1,h2,hw,h3, -⟩:=j9 h
 obtain⟨c,l⟩:=o
 have hc:c=1∨c=2∨c=3∨c=4∨c=5:=by
  have:(yL 4).length=5:=rfl
  simp only at h1 h2;omega
 rcases hc with rfl|rfl|rfl|rfl|rfl<;>(obtain rfl:=Option.some.inj hw;obtain⟨hl,hn⟩:=h3 (by decide);simp only at hl hn)
 ·obtain rfl:=zrO (l:=l) (by omega)
  exact .inl rfl
 iterate 2
  ·obtain⟨a,b,rfl⟩:=zsO (l:=l) (by omega)
   exact .inr (.inl ⟨a,b,by simp,hn a (by simp),hn b (by simp)⟩)
 ·obtain⟨a,rfl⟩:=zrP (l:=l) (by omega)
  exact .inr (.inr (.inl ⟨a,rfl,hn a (by simp)⟩))
 ·obtain rfl:=zrO (l:=l) (by omega)
  exact .inr (.inr (.inr rfl))
theorem yM.zkP{R:Rws}(h:yM R){i:Nat}{A:Rw}(ha:R[i]?=some A):A.length≤500:=by
 have:=h.tot
 have h2:=zbR ha
 have h3:=vK R (i+1)
 omega
theorem yM.dis{R:Rws}(h:yM R){a b:Nat}{A B:Rw}(ha:R[a]?=some A)(hb:R[b]?=some B)(hab:a<b): ∀x∈A,x∉B:=fun x hx hy=>by
 obtain⟨Pr,Qr,Sr,e1,_⟩:=zeg ha hb hab
 have:=h.nd
 rw[e1]at this
 simp only[List.flatten_append,List.flatten_cons]at this
 have h1:=(List.nodup_append.1 this).2.1
 exact(List.nodup_append.1 h1).2.2 x hx x (by simp[hy]) rfl
theorem jb{A B:List Int}(ha:A.Pairwise (· < ·))(hb:B.Pairwise (· < ·))(hd: ∀x∈A,x∉B):yy (A++B)=mergeI A B:=
 jZ ((xm _).trans (xd _ A B (Nat.le_refl _)).symm) (wR _) (zrk (vY _ A B (Nat.le_refl _) ha hb hd))
theorem zpV(R:Rws)(o:OpT)(hv:zU 4 R=true)(ho:okOp 4 o=true):
 zj Tryz.prog 102 [.one (.ar 0),zz (opR o)] [(0,vg 1 R.length),(1,bg R)] (.tup [.one (.ar 2),zz (rsR (x6 R o).2)]) [(2,vg 3 (x6 R o).1.length),(3,bg (x6 R o).1)]:=by
 obtain⟨hR,hT⟩:=zkI hv
 have htot:=hT.tot
 rcases op4 ho with rfl|⟨x,y,hc,hx,hy⟩|⟨x,rfl,hx⟩|rfl
 ·by_cases h5:R.flatten.length=500
  ·have e:x6 R ⟨1,[]⟩=(R,erR 4):=by simp only[x6];rw[if_neg (by decide),if_pos trivial];exact if_pos h5
   rw[e];exact ztx R hR h5
  ·have e:x6 R ⟨1,[]⟩=(R++[[(R.flatten.length:Int)]],okR R.flatten.length):=by simp only[x6];rw[if_neg (by decide),if_pos trivial];exact if_neg h5
   rw[e]
   simp only[List.length_append,List.length_singleton]
   exact zup R hR (by omega)
 ·have hA:=xr R x
  have hB:=xr R y
  have rd: ∀(a:Int),(clsI a R 0= -1)∨ ∃(i:Nat) (r:Rw),clsI a R 0=(i:Int)∧R[i]?=some r:=fun a=>by
   rcases zaa a R 0 with⟨h,_⟩|⟨i,r,h,h2,_⟩
   ·exact .inl h
   ·exact .inr ⟨i,r,by rw[h,Nat.zero_add],h2⟩
  by_cases hz:clsI x R 0<0∨clsI y R 0<0
  ·rcases hc with rfl|rfl
   ·have e:x6 R ⟨2,[x,y]⟩=(R,erR 12):=by simp only[x6];rw[if_neg (by decide),if_neg (by decide),if_neg (by decide)];exact if_pos hz
    rw[e];exact ztu R hR x y _ _ hA hB hz
   ·have e:x6 R ⟨3,[x,y]⟩=(R,erR 12):=by simp only[x6];rw[if_neg (by decide),if_neg (by decide),if_neg (by decide)];exact if_pos hz
    rw[e];exact ztv R hR x y _ _ hA hB hz
  ·rcases hc with rfl|rfl
   ·obtain⟨a,A,h1,h2⟩:=(rd x).resolve_left (by omega)
    obtain⟨b,B,h3,h4⟩:=(rd y).resolve_left (by omega)
    have e0:x6 R ⟨2,[x,y]⟩=if clsI x R 0=clsI y R 0 then(R,okR 0)else((R.set (min (clsI x R 0) (clsI y R 0)).toNat (mergeI (wC R (clsI x R 0).toNat) (wC R (clsI y R 0).toNat))).eraseIdx (max (clsI x R 0) (clsI y R 0)).toNat,okR 1):=by
     simp only[x6];rw[if_neg (by decide),if_neg (by decide),if_neg (by decide)];exact(if_neg hz).trans (if_neg (by decide))
    rw[e0,h1,h3]
    rw[h1]at hA
    rw[h3]at hB
    have hla:=hT.zkP h2
    have hlb:=hT.zkP h4
    rcases Nat.lt_trichotomy a b with hab|rfl|hab
    ·have hbl:b<R.length:=(List.getElem?_eq_some_iff.1 h4).1
     rw[if_neg (by omega),Int.min_eq_left (by omega),Int.max_eq_right (by omega),Int.toNat_natCast,Int.toNat_natCast,xJ h2,xJ h4,←jb (hT.asc _ (List.mem_of_getElem? h2)) (hT.asc _ (List.mem_of_getElem? h4)) (hT.dis h2 h4 hab)]
     simp only[List.length_eraseIdx_of_lt (show b<(R.set a (yy (A++B))).length by rw[List.length_set];exact hbl),List.length_set]
     exact zty R hR x y a b A B h2 h4 hab (by omega) hA hB
    ·rw[if_pos rfl]
     exact ztw R hR x y _ hA hB (by omega)
    ·have hal:a<R.length:=(List.getElem?_eq_some_iff.1 h2).1
     have hm:mergeI A B=yy (B++A):=by
      have h5:=jb (hT.asc _ (List.mem_of_getElem? h2)) (hT.asc _ (List.mem_of_getElem? h4)) fun x hx hy=>hT.dis h4 h2 hab x hy hx
      rw[←h5]
      exact jZ ((xm _).trans (List.perm_append_comm.trans (xm _).symm)) (wR _) (wR _)
     rw[if_neg (by omega),Int.min_eq_right (by omega),Int.max_eq_left (by omega),Int.toNat_natCast,Int.toNat_natCast,xJ h2,xJ h4,hm]
     simp only[List.length_eraseIdx_of_lt (show a<(R.set b (yy (B++A))).length by rw[List.length_set];exact hal),List.length_set]
     exact ztz R hR x y b a B A h4 h2 hab (by omega) hA hB
   ·have e:x6 R ⟨3,[x,y]⟩=(R,okR (if clsI x R 0=clsI y R 0 then 1 else 0)):=by simp only[x6];rw[if_neg (by decide),if_neg (by decide),if_neg (by decide)];exact(if_neg hz).trans (if_pos trivial)
    rw[e];exact zuo R hR x y _ _ hA hB (by omega) (by omega)
 ·have hA:=xr R x
  rcases zaa x R 0 with⟨h,_⟩|⟨i,r,h,h2,_⟩
  ·have e:x6 R ⟨4,[x]⟩=(R,erR 12):=by simp only[x6];rw[if_neg (by decide),if_neg (by decide),if_pos trivial];exact if_pos (by rw[show at0 [x] 0=x from rfl,h];decide)
   rw[e];exact ztt R hR x _ hA (by rw[h];decide)
  ·rw[Nat.zero_add]at h
   have e:x6 R ⟨4,[x]⟩=(R,okR r.length):=by
    simp only[x6];rw[if_neg (by decide),if_neg (by decide),if_pos trivial,show at0 [x] 0=x from rfl,h,Int.toNat_natCast,xJ h2];exact if_neg (by omega)
   rw[e]
   rw[h]at hA
   exact zun R hR x i r h2 (List.getElem?_eq_some_iff.1 h2).1 hA
 ·exact zum R hR
theorem zax{k:Int}{R:Rws}(h:zU k R=true):R.length≤500∧(k=1∨k=2∨k=3∨k=4∨k=5∨k=6):=by
 unfold zU at h
 simp only[Bool.and_eq_true,decide_eq_true_eq]at h
 refine⟨h.1,?_⟩
 have h2:=h.2
 split at h2; ·omega
 split at h2; ·omega
 split at h2; ·omega
 split at h2; ·omega
 split at h2; ·omega
 split at h2; ·omega
 cases h2
theorem zg6(k:Int)(R:Rws)(o:OpT)(hv:zU k R=true)(ho:okOp k o=true)(hm:k≤KM):
 zj Tryz.prog 69 [I k,.one (.ar 0),zz (opR o)] [(0,vg 1 R.length),(1,bg R)] (.tup [.one (.ar 2),zz (rsR (xn k R o).2)]) [(2,vg 3 (xn k R o).1.length),(3,bg (xn k R o).1)]:=by
 obtain⟨hR,hk⟩:=zax hv
 rcases hk with rfl|rfl|rfl|rfl|rfl|rfl
 ·have hF:=zpT R o hv ho
  have e:xn 1 R o=yH R o:=rfl
  rw[e]
  generalize yH R o=z at hF⊢
  refine gO T Tryz.func69 fun C hC=>?_
  repeat' first|refine gG ?_|(exfalso;first|(simp only[decide_eq_true_eq,decide_eq_false_iff_not,List.length_map,Bool.not_eq_true',Bool.not_eq_false']at *; omega)|(simp at h;done))|refine gB (fun h=>?_) (fun h=>?_)|refine gR hF (nm [0,1,102,103]) ?_
  exact zg ⟨.inl rfl,nm [0,1,102,103],_,rfl,.refl _,⟨rfl,rfl,trivial⟩,rfl,rfl⟩
 ·have hF:=zpU R o hv ho
  have e:xn 2 R o=wP R o:=rfl
  rw[e]
  generalize wP R o=z at hF⊢
  refine gO T Tryz.func69 fun C hC=>?_
  repeat' first|refine gG ?_|(exfalso;first|(simp only[decide_eq_true_eq,decide_eq_false_iff_not,List.length_map,Bool.not_eq_true',Bool.not_eq_false']at *; omega)|(simp at h;done))|refine gB (fun h=>?_) (fun h=>?_)|refine gR hF (nm [0,1,102,103]) ?_
  exact zg ⟨.inl rfl,nm [0,1,102,103],_,rfl,.refl _,⟨rfl,rfl,trivial⟩,rfl,rfl⟩
 ·have hF:=zrY R o hv ho
  have e:xn 3 R o=vW R o:=rfl
  rw[e]
  generalize vW R o=z at hF⊢
  refine gO T Tryz.func69 fun C hC=>?_
  repeat' first|refine gG ?_|(exfalso;first|(simp only[decide_eq_true_eq,decide_eq_false_iff_not,List.length_map,Bool.not_eq_true',Bool.not_eq_false']at *; omega)|(simp at h;done))|refine gB (fun h=>?_) (fun h=>?_)|refine gR hF (nm [0,1,102,103]) ?_
  exact zg ⟨.inl rfl,nm [0,1,102,103],_,rfl,.refl _,⟨rfl,rfl,trivial⟩,rfl,rfl⟩
 ·have hF:=zpV R o hv ho
  have e:xn 4 R o=x6 R o:=rfl
  rw[e]
  generalize x6 R o=z at hF⊢
  refine gO T Tryz.func69 fun C hC=>?_
  repeat' first|refine gG ?_|(exfalso;first|(simp only[decide_eq_true_eq,decide_eq_false_iff_not,List.length_map,Bool.not_eq_true',Bool.not_eq_false']at *; omega)|(simp at h;done))|refine gB (fun h=>?_) (fun h=>?_)|refine gR hF (nm [0,1,102,103]) ?_
  exact zg ⟨.inl rfl,nm [0,1,102,103],_,rfl,.refl _,⟨rfl,rfl,trivial⟩,rfl,rfl⟩
 ·exact absurd hm (by decide)
 ·exact absurd hm (by decide)
end Hw.Fr.Md
namespace Hw.Fr.Md
open Go Go.Proofs Go.Shelf Hw.M
theorem zay{k:Int}{R:Rws}(h:zU k R=true):R.length≤500∧ ∀r∈R,r.length≤500:=by
 obtain⟨hR,hk⟩:=zax h
 refine⟨hR,fun r hr=>?_⟩
 rcases hk with rfl|rfl|rfl|rfl|rfl|rfl
 ·rw[(zkF h).2.wide r hr];decide
 ·rw[(zkG h).2.wide r hr];decide
 ·rw[(zkH h).2.wide r hr];decide
 ·obtain⟨i,hi⟩:=List.mem_iff_getElem?.1 hr
  exact(zkI h).2.zkP hi
 ·rw[(zrM h).2.wide r hr];decide
 ·rcases zrN h with rfl|⟨s,rfl,_,h2,_⟩
  ·cases hr
  ·simp only[List.mem_singleton]at hr;rw[hr];exact h2
theorem zaz(k:Int)(R:Rws)(o:OpT)(hv:zU k R=true)(ho:okOp k o=true)(hm:k≤KM):
 zj Tryz.prog 62 [zz (stR k R),zz (opR o)] [] (.tup [zz (stR k (xn k R o).1),zz (rsR (xn k R o).2),I 0]) []:=by
 obtain⟨hR,hw⟩:=zay hv
 have hV:=zew k R (fun r hr=>by have:=hw r hr;omega) (by omega)
 have hO:=wQ k o
 have hCp:=jX R (by omega) (fun r hr=>by have:=hw r hr;omega)
 have hA:=zg6 k R o hv ho hm
 rw[hv]at hV
 rw[ho]at hO
 generalize xn k R o=z at hA⊢
 obtain⟨R2,x⟩:=z
 simp only at hA⊢
 refine gO T Tryz.func62 fun C hC=>?_
 repeat' first|refine gG ?_|(exfalso;simp at h;done)|refine gB (fun h=>?_) (fun h=>?_)|refine gC hV ?_|refine gC hO ?_|refine gR hCp (nm [101,102]) ?_|refine gR hA (nm [101,102,103,104]) ?_
 refine zen rfl [(103,vg 104 R2.length),(104,bg R2)] rfl [] trivial [(1004,.box [.p (ki k),.p (z8 R2)])] ⟨⟨_,rfl,rfl,LnR.box (.cons (.refl _) (.cons (xU 103 104 R2) .nil))⟩,trivial⟩ ?_
 exact gF
end Hw.Fr.Md
namespace Hw.Fr.Md
open Go Go.Proofs Go.Shelf Hw.M
theorem xy.put{w:Nat}{p:Rw→Rw→Bool}{R:Rws}(h:xy w p R){i:Nat}{r r':Rw}(hi:R[i]?=some r)(hl:r'.length=w)(hn: ∀x∈r',vC x=true)(h1: ∀a,p a r'=p a r)(h2: ∀a,p r' a=p r a):xy w p (R.set i r'):=by
 have hil:=(List.getElem?_eq_some_iff.1 hi).1
 have hm: ∀x∈R.set i r',x∈R∨x=r':=fun x hx=>List.mem_or_eq_of_mem_set hx
 refine⟨fun x hx=>?_,fun x hx=>?_,?_⟩
 ·rcases hm x hx with h3|rfl
  ·exact h.wide x h3
  ·exact hl
 ·rcases hm x hx with h3|rfl
  ·exact h.nums x h3
  ·exact hn
 ·have:=h.asc
  rw[List.pairwise_iff_getElem]at this⊢
  intro a b ha hb hab
  rw[List.length_set]at ha hb
  have h3:=this a b ha hb hab
  have hri:R[i]=r:=(List.getElem?_eq_some_iff.1 hi).2
  rw[List.getElem_set,List.getElem_set]
  split
  ·rename_i e;subst e
   rw[if_neg (by omega),h2]
   rw[hri]at h3
   exact h3
  ·split
   ·rename_i e;subst e
    rw[h1]
    rw[hri]at h3
    exact h3
   ·exact h3
theorem zpW{c:Nat}{a b:Rw}(h:a.take c=b.take c)(ha:c≤a.length)(hb:c≤b.length)(d:Rw):ltC c a d=ltC c b d:=zdc c a b d h ha hb
theorem zpX{c:Nat}{a b:Rw}(h:a.take c=b.take c)(d:Rw):ltC c d a=ltC c d b:=by rw[←zdk c d a,h,zdk]
theorem xy.ztA{c w:Nat}{R:Rws}(h:xy w (ltC c) R)(hcw:c≤w){x:Rw}(hx:x.length=w)(hn: ∀y∈x,vC y=true)(hq:hasC c R x=false):xy w (ltC c) (zaW R (vA c R x) x):=
 h.ins hx hn (jY h zkd x).1 (zpA h hcw (by omega) hq)
theorem xy.ztB{R:Rws}(h:xy 1 (fun a b=> !ltC 1 b a) R){x:Rw}(hx:x.length=1)(hn: ∀y∈x,vC y=true):xy 1 (fun a b=> !ltC 1 b a) (zaW R (vA 1 R x) x):=
 h.ins hx hn (fun r hr=>by rw[zgO 1 ((jY h zke x).1 r hr)];rfl) (fun r hr=>by rw[(jY h zke x).2 r hr];rfl)
theorem xy.any{w:Nat}{R R':Rws}(h:xy w (fun _ _=>true) R)(hm: ∀r∈R',r∈R∨(r.length=w∧ ∀x∈r,vC x=true)):xy w (fun _ _=>true) R':=
 ⟨fun r hr=>(hm r hr).elim (h.wide r) fun e=>e.1,fun r hr=>(hm r hr).elim (h.nums r) fun e=>e.2,List.pairwise_of_forall fun _ _=>rfl⟩
theorem zno{R:Rws}{i:Nat}{x r:Rw}(h:r∈zaW R i x):r∈R∨r=x:=by
 simp only[zaW,List.mem_append,List.mem_cons]at h
 rcases h with h|rfl|h
 ·exact .inl (List.mem_of_mem_take h)
 ·exact .inr rfl
 ·exact .inl (List.mem_of_mem_drop h)
theorem mk1{R:Rws}(hR:R.length≤500)(h:xy 2 (ltC 1) R):zU 1 R=true:=by
 have h2:=(wx (zpz 1 2)).2 h
 simp only[zU,if_pos,h2,Bool.and_true,decide_eq_true_eq];exact hR
theorem mk2{R:Rws}(hR:R.length≤500)(h:xy 1 (fun a b=> !ltC 1 b a) R):zU 2 R=true:=by
 show(decide (R.length≤500)&&tableB 1 (fun a b=> !ltC 1 b a) R)=true
 rw[(wx zrj).2 h,Bool.and_true];exact decide_eq_true hR
theorem mk3{R:Rws}(hR:R.length≤500)(h:xy 1 (fun _ _=>true) R):zU 3 R=true:=by
 show(decide (R.length≤500)&&tableB 1 (fun _ _=>true) R)=true
 rw[(wx (zoj 1)).2 h,Bool.and_true];exact decide_eq_true hR
theorem mk4{R:Rws}(h:yM R):zU 4 R=true:=by
 show(decide (R.length≤500)&&zao R)=true
 rw[j4.2 h,Bool.and_true];exact decide_eq_true (yM.len h)
theorem zdm{R:Rws}(i:Nat)(h:R.length≤500):(R.eraseIdx i).length≤500:=Nat.le_trans (List.eraseIdx_sublist ..).length_le h
theorem zf8{R:Rws}{i:Nat}(x:Rw)(hR:R.length≤500)(h5: ¬R.length=500)(hi:i≤R.length):(zaW R i x).length≤500:=by rw[ja hi];omega
theorem zik{R:Rws}{o:OpT}(hv:zU 1 R=true)(ho:okOp 1 o=true):zU 1 (yH R o).1=true:=by
 obtain⟨hR,hT⟩:=zkF hv
 unfold yH
 simp only
 split; ·exact hv
 split; ·split<;>exact hv
 split
 ·rename_i h8 h7 h1
  rcases op1 ho with rfl|⟨a,hc,ha⟩|⟨a,b,rfl,ha,hb⟩
  ·exact absurd rfl h8
  ·rcases hc with rfl|rfl|rfl|rfl|rfl|rfl<;>simp at h1
  ·split
   ·rename_i hq
    obtain⟨r,hr,hlt,_⟩:=zdl hq
    have hl:=hT.wide r (List.mem_of_getElem? hr)
    obtain⟨x,y,rfl⟩:=zsO hl
    have hn:=hT.nums _ (List.mem_of_getElem? hr)
    refine mk1 (by simpa using hR) (hT.put hr ?_ ?_ ?_ ?_)
    ·rw[xJ hr];rfl
    ·rw[xJ hr]
     intro z hz
     have:z=x∨z=b:=by simpa [at0]using hz
     rcases this with rfl|rfl
     ·exact hn z (by simp)
     ·exact hb
    ·intro d;rw[xJ hr];exact zpX (c:=1) (a:=[x,b]) (b:=[x,y]) rfl d
    ·intro d;rw[xJ hr];exact zpW (c:=1) (a:=[x,b]) (b:=[x,y]) rfl (by simp) (by simp) d
   ·rename_i hq
    split
    ·exact hv
    ·rename_i h5
     exact mk1 (zf8 _ hR h5 (zaq _ _ _)) (hT.ztA (by decide) rfl (fun z hz=>by
      have:z=a∨z=b:=by simpa using hz
      rcases this with rfl|rfl
      ·exact ha
      ·exact hb) (by simpa using hq))
 ·split; ·exact hv
  split; ·split; ·exact hv
          split<;>exact hv
  split; ·split<;>exact hv
  split
  ·simp only
   split
   ·exact mk1 (zdm _ hR) (hT.sub (List.eraseIdx_sublist ..))
   ·exact hv
  ·exact hv
theorem zil{R:Rws}{o:OpT}(hv:zU 2 R=true)(ho:okOp 2 o=true):zU 2 (wP R o).1=true:=by
 obtain⟨hR,hT⟩:=zkG hv
 unfold wP
 split; ·exact hv
 split
 ·rename_i h4 h1
  rcases op2 ho with⟨a,rfl,ha⟩|rfl|rfl|rfl
  ·split
   ·exact hv
   ·rename_i h5
    exact mk2 (zf8 _ hR h5 (zaq _ _ _)) (hT.ztB rfl fun z hz=>by
     have:z=a:=by simpa using hz
     rw[this];exact ha)
  all_goals simp at h1 h4
 ·split
  ·exact hv
  ·simp only
   split
   ·exact mk2 (zdm _ hR) (hT.sub (List.eraseIdx_sublist ..))
   ·exact hv
theorem zkQ{R:Rws}{o:OpT}(hv:zU 3 R=true)(ho:okOp 3 o=true):zU 3 (vW R o).1=true:=by
 obtain⟨hR,hT⟩:=zkH hv
 unfold vW
 simp only
 split; ·exact hv
 split
 ·split
  ·exact hv
  ·split
   ·refine mk3 ?_ (hT.any fun r hr=> .inl ?_)
    ·simp only[zmS,List.length_append,List.length_reverse,List.length_take,List.length_drop];omega
    ·simp only[zmS,List.mem_append,List.mem_reverse]at hr
     rcases hr with(hr|hr)|hr
     ·exact List.mem_of_mem_take hr
     ·exact List.mem_of_mem_take (List.mem_of_mem_drop hr)
     ·exact List.mem_of_mem_drop hr
   ·exact hv
 split
 ·rename_i h7 h56 h1
  rcases op3 ho with⟨a,b,hc,ha,hb⟩|⟨a,hc,ha⟩|rfl
  ·split
   ·exact hv
   ·rename_i h0
    split
    ·exact hv
    ·rename_i h5
     rcases hc with rfl|rfl|rfl|rfl
     ·refine mk3 (zf8 _ hR h5 ?_) (hT.any fun r hr=>?_)
      ·simp[at0]at h0 ⊢; omega
      ·rcases zno hr with h|rfl
       ·exact .inl h
       ·exact .inr ⟨rfl,fun z hz=>by simp[at0]at hz;rw[hz];exact hb⟩
     all_goals simp at h1
  ·rcases hc with rfl|rfl<;>simp at h1
  ·simp at h1
 ·split
  ·exact hv
  ·rename_i h0
   simp only
   split
   ·exact mk3 (zdm _ hR) (hT.sub (List.eraseIdx_sublist ..))
   ·split
    ·rename_i h4
     rcases op3 ho with⟨a,b,hc,ha,hb⟩|⟨a,hc,ha⟩|rfl
     ·rcases hc with rfl|rfl|rfl|rfl
      ·simp at h4
      ·have hlt:(at0 [a,b] 0).toNat<R.length:=by simp[at0]at h0 ⊢; omega
       obtain⟨z,hz⟩:=zrP (hT.wide _ (List.mem_of_getElem? (jF hlt)))
       refine mk3 (by simpa using hR) (hT.any fun r hr=>?_)
       rcases List.mem_or_eq_of_mem_set hr with h|rfl
       ·exact .inl h
       ·refine .inr ⟨?_,fun y hy=>?_⟩
        ·show((wC R (at0 [a,b] 0).toNat).set 0 _).length=1
         rw[hz];rfl
        ·have hy':y∈(wC R (at0 [a,b] 0).toNat).set 0 (at0 [a,b] 1):=hy
         rw[hz]at hy'
         simp[at0]at hy'
         rw[hy'];exact hb
      ·simp at h4
      ·simp at h4
     ·rcases hc with rfl|rfl<;>simp at h4
     ·simp at h4
    ·exact hv
theorem zg7{R:Rws}{a:Int}(h: ¬clsI a R 0<0): ∃(i:Nat) (r:Rw),clsI a R 0=(i:Int)∧R[i]?=some r∧a∈r:=by
 rcases zaa a R 0 with⟨h1,_⟩|⟨i,r,h1,h2,h3,_⟩
 ·omega
 ·exact⟨i,r,by rw[h1,Nat.zero_add],h2,h3⟩
theorem zf9{A B:List Int}(ha:A.Pairwise (· < ·))(hb:B.Pairwise (· < ·))(hd: ∀x∈A,x∉B):mergeI A B=mergeI B A:=by
 rw[←jb ha hb hd,←jb hb ha fun x hx hy=>hd x hy hx]
 exact jZ ((xm _).trans (List.perm_append_comm.trans (xm _).symm)) (wR _) (wR _)
theorem zim{R:Rws}{o:OpT}(hv:zU 4 R=true):zU 4 (x6 R o).1=true:=by
 obtain⟨hR,hT⟩:=zkI hv
 unfold x6
 simp only
 split; ·exact hv
 split
 ·split
  ·exact hv
  ·rename_i h5;exact mk4 (hT.make h5)
 split
 ·split<;>exact hv
 split
 ·exact hv
 rename_i hz
 split
 ·exact hv
 split
 ·exact hv
 rename_i h3 hab
 obtain⟨a,A,h1,h2,_⟩:=zg7 (R:=R) (a:=at0 o.args 0) (by omega)
 obtain⟨b,B,h4,h5,_⟩:=zg7 (R:=R) (a:=at0 o.args 1) (by omega)
 rw[h1,h4]at hab⊢
 rcases Nat.lt_or_ge a b with hlt|hge
 ·rw[Int.min_eq_left (by omega),Int.max_eq_right (by omega),Int.toNat_natCast,Int.toNat_natCast,xJ h2,xJ h5]
  exact mk4 (hT.union h2 h5 hlt)
 ·rw[Int.min_eq_right (by omega),Int.max_eq_left (by omega),Int.toNat_natCast,Int.toNat_natCast,xJ h2,xJ h5,zf9 (hT.asc _ (List.mem_of_getElem? h2)) (hT.asc _ (List.mem_of_getElem? h5)) fun x hx hy=>hT.dis h5 h2 (by omega) x hy hx]
  exact mk4 (hT.union h5 h2 (by omega))
theorem zcw{k:Int}{R:Rws}{o:OpT}(hv:zU k R=true)(ho:okOp k o=true)(hm:k≤KM):zU k (xn k R o).1=true:=by
 rcases(zax hv).2 with rfl|rfl|rfl|rfl|rfl|rfl
 ·exact zik hv ho
 ·exact zil hv ho
 ·exact zkQ hv ho
 ·exact zim hv
 ·exact absurd hm (by decide)
 ·exact absurd hm (by decide)
end Hw.Fr.Md
namespace Hw.Fr
open Go Go.Proofs Go.Shelf Hw.M Md
abbrev Mt:=Int×OpT
def stO(k:Int)(R:Rws)(ms:List Mt):Rws:=ms.foldl (fun R m=>(xn k R m.2).1) R
def flO(k:Int):Rws→List Mt→List Bool
 |_,[]=>[]
 |R,m::l=>(!decide ((xn k R m.2).2.e=0))::flO k (xn k R m.2).1 l
def ptO(k:Int)(ms:List Mt):List Rws:=(List.range (ms.length / 16)).map fun j=>stO k [] (ms.take (16*(j+1)))
def zin(m:Mt)(f:Bool):List PV:=[ki m.1,ki m.2.code,zA m.2.args,.k (.bool f)]
def yD(ms:List Mt)(fl:List Bool):List (List PV):=List.zipWith zin ms fl
def jM(k:Int)(ps:List Rws):List (List PV):=ps.map fun R=>[.pr (stR k R)]
structure TLk (k:Int) (ms:List Mt):Prop where
 kind:1≤k∧k≤KM
 len:ms.length≤140
 asc:ms.Pairwise fun a b=>a.1<b.1
 tm: ∀m∈ms,0≤m.1∧m.1≤1073741824
 ok: ∀m∈ms,okOp k m.2=true
theorem TLk.k6{k:Int}{ms:List Mt}(h:TLk k ms):1≤k∧k≤6:=⟨h.kind.1,Int.le_trans h.kind.2 (by decide)⟩
theorem zpY(k:Int)(R:Rws)(a b:List Mt):stO k R (a++b)=stO k (stO k R a) b:=List.foldl_append
theorem zpZ(k:Int)(R:Rws)(m:Mt):stO k R [m]=(xn k R m.2).1:=rfl
theorem vM{k:Int}(hm:k≤KM): ∀ {ms:List Mt} {R:Rws},zU k R=true→(∀m∈ms,okOp k m.2=true)→zU k (stO k R ms)=true
 | [],_,h,_=>h
 |m::l,R,h,ho=>vM hm (ms:=l) (zcw h (ho m (List.mem_cons_self ..)) hm) fun x hx=>ho x (List.mem_cons_of_mem _ hx)
theorem vN{k:Int}(hk:1≤k∧k≤6):zU k []=true:=by
 rcases(by omega:k=1∨k=2∨k=3∨k=4∨k=5∨k=6)with rfl|rfl|rfl|rfl|rfl|rfl<;>decide
theorem xi(k:Int): ∀(ms:List Mt) (R:Rws),(flO k R ms).length=ms.length
 | [],_=>rfl
 |m::l,R=>by rw[flO,List.length_cons,xi k l,List.length_cons]
theorem zga(k:Int): ∀(a b:List Mt) (R:Rws),flO k R (a++b)=flO k R a++flO k (stO k R a) b
 | [],_,_=>rfl
 |m::l,b,R=>by rw[List.cons_append,flO,zga k l b,flO,List.cons_append];rfl
theorem zg8(k:Int)(R:Rws)(ms:List Mt)(i:Nat):(flO k R ms).take i=flO k R (ms.take i):=by
 rcases Nat.lt_or_ge i ms.length with h|h
 ·conv=>lhs;rw[←List.take_append_drop i ms,zga]
  rw[List.take_left' (by rw[xi,List.length_take];omega)]
 ·rw[List.take_of_length_le h,List.take_of_length_le (by rw[xi];exact h)]
theorem zaA(k:Int)(ms:List Mt):(ptO k ms).length=ms.length / 16:=by simp[ptO]
theorem zkR{k:Int}{ms:List Mt}{j:Nat}(h:j<ms.length / 16):(ptO k ms)[j]?=some (stO k [] (ms.take (16*(j+1)))):=by
 unfold ptO
 rw[List.getElem?_map,List.getElem?_range h];rfl
theorem znp{k:Int}{ms:List Mt}{q:Nat}(hq:q<ms.length):
 ptO k (ms.take (q+1))=if(q+1) % 16=0 then ptO k (ms.take q)++[stO k [] (ms.take (q+1))]else ptO k (ms.take q):=by
 have hl:(ms.take (q+1)).length=q+1:=by rw[List.length_take];omega
 have hl0:(ms.take q).length=q:=by rw[List.length_take];omega
 have h1: ∀j,j<q / 16→((ms.take (q+1)).take (16*(j+1)))=(ms.take q).take (16*(j+1)):=fun j hj=>by
  rw[List.take_take,List.take_take,Nat.min_eq_left (by omega),Nat.min_eq_left (by omega)]
 split
 ·rename_i h
  have e:(q+1) / 16=q / 16+1:=by omega
  unfold ptO
  rw[hl,hl0,e,List.range_succ,List.map_append,List.map_singleton]
  congr 1
  ·exact List.map_congr_left fun j hj=>by rw[h1 j (List.mem_range.1 hj)]
  ·rw[List.take_take,show 16*(q / 16+1)=q+1 by omega,Nat.min_self]
 ·rename_i h
  have e:(q+1) / 16=q / 16:=by omega
  unfold ptO
  rw[hl,hl0,e]
  exact List.map_congr_left fun j hj=>by rw[h1 j (List.mem_range.1 hj)]
theorem zg9{k:Int}{ms:List Mt}{q:Nat}{m:Mt}(h:ms[q]?=some m):stO k [] (ms.take (q+1))=(xn k (stO k [] (ms.take q)) m.2).1:=by
 rw[List.take_add_one,h,Option.toList_some,zpY,zpZ]
theorem zr1{k:Int}{ms:List Mt}{q:Nat}{m:Mt}(h:ms[q]?=some m):(flO k [] ms)[q]?=some (!decide ((xn k (stO k [] (ms.take q)) m.2).2.e=0)):=by
 have hlt:=(List.getElem?_eq_some_iff.1 h).1
 have e:ms=ms.take q++m::ms.drop (q+1):=by
  conv=>lhs;rw[←List.take_append_drop q ms]
  rw[List.drop_eq_getElem_cons hlt,(List.getElem?_eq_some_iff.1 h).2]
 have hl0:(flO k [] (ms.take q)).length=q:=by rw[xi,List.length_take];omega
 conv=>lhs;rw[e,zga]
 rw[List.getElem?_append_right (by omega),hl0,Nat.sub_self]
 rfl
def xo(ms:List Mt)(t:Int):Nat:=(ms.takeWhile fun m=>decide (m.1<t)).length
def hasT(ms:List Mt)(t:Int):Bool:=match ms[xo ms t]? with
 |some m=>decide (m.1=t)
 |none=>false
theorem jI(ms:List Mt)(t:Int):xo ms t≤ms.length:=(List.takeWhile_sublist _).length_le
end Hw.Fr
/- The engine, part BS: a literal slice of the run's own. -/
namespace Hw
open Go
section
variable {P:Program} {d:Option Nat} {ty:TypeId} {ps:String} {af:Array Edge} {g:Option (Nat×Bool)} {t:TypeId}
end
section
variable {P:Program} {C:Ctx} {k:List Frm} {n:Nat} {sl:zi} {tab:Tab} {Q:Exit→St→Prop} {all:Array Oper} {rest:List Oper}
end
end Hw
/- The engine, part BT: a cell's address of an array in a box; the least and the greatest of two. -/
namespace Hw
open Go
section
variable {P:Program} {d:Option Nat} {ty:TypeId} {ps:String} {af:Array Edge} {g:Option (Nat×Bool)} {x y:Operand} {t:TypeId}
end
section
variable {P:Program} {C:Ctx} {k:List Frm} {n:Nat} {sl:zi} {tab:Tab} {Q:Exit→St→Prop} {all:Array Oper} {rest:List Oper}
end
section
variable {P:Program} {d:Option Nat} {ty:TypeId} {ps:String} {af:Array Edge} {g:Option (Nat×Bool)} {x1 x2:Operand}
theorem zr2{tys:Array TypeId}{a b c:Int}(hc:(if b<a then b else a)=c)(h1:okc x1 (I a))(h2:okc x2 (I b)):
 Snd P ⟨d,.call ⟨.builtin .min,#[x1,x2],tys⟩,ty,ps,af,g⟩ (rq x1 (I a)++rq x2 (I b)) [] [] (I c) []:=
 zo fun C st M ρ act w hH h _=>by
  rw[zd]at h
  have e1:=hH.k (zM h1 h.1)
  have e2:=hH.k (zM h2 h.2)
  exact⟨.int .i64 c,by rw[←hc];simp[execOp,resolve,invoke,builtin,Builtin.min_,Builtin.min2,e1,e2],zkg _ _⟩
end
section
variable {P:Program} {C:Ctx} {k:List Frm} {n:Nat} {sl:zi} {tab:Tab} {Q:Exit→St→Prop} {all:Array Oper} {rest:List Oper}
theorem zox{d:Nat}{x1 x2:Operand}{ts:Array TypeId}{ty:TypeId}{ps:String}{af:Array Edge}{g0:Option (Nat×Bool)}{gs:zi}{md:Mode}(hC:C.low){a b:Int}(c:Int)
 (h1:ev sl x1=some (I a)) (h2:ev sl x2=some (I b)) (hc:(if b<a then b else a)=c) (hm:metL all sl g0=some gs) (hd:Nat.blt d n=true)
 (g:Goal P C (.ops all rest (nx md ⟨some d,gs++(rq x1 (I a)++rq x2 (I b)),[],[],I c,[]⟩)) k n ((d,I c)::sl) tab Q):
 Goal P C (.ops all (⟨some d,.call ⟨.builtin .min,#[x1,x2],ts⟩,ty,ps,af,g0⟩::rest) md) k n sl tab Q:=by
 have e1:=zX (st:=⟨n,sl,tab⟩) h1
 have e2:=zX (st:=⟨n,sl,tab⟩) h2
 have:=zq hm (zr2 (P:=P) (ty:=ty) (ps:=ps) (af:=af) (g:=g0) (d:=some d) (tys:=ts) hc e1.1 e2.1) (n:=n) (tab:=tab)
 exact yr (L:=⟨some d,gs++(rq x1 (I a)++rq x2 (I b)),[],[],I c,[]⟩) hC this.1 rfl ⟨by rw[zd,zd];exact⟨this.2,e1.2,e2.2⟩,trivial,rfl,hd⟩ g
end
end Hw
/- The engine, part BU: copy from one slice to another. -/
namespace Hw
open Go
section
variable {P:Program} {d:Option Nat} {ty:TypeId} {ps:String} {af:Array Edge} {g:Option (Nat×Bool)} {x y:Operand} {t tx:TypeId}
def zsP(ρ:Nat→Value)(id k e m:Nat)(v:Value):Prop:=(m=0∧ ∃(a:Option Addr) (c:Nat),v= .slice a 0 c)∨ ∃(b o N cap c:Nat),ρ id= .slice (some ⟨b,o,none⟩) N cap∧v= .slice (some ⟨b,o+k*e,none⟩) m c
def zsQ(e:Nat)(s:S)(rt:RL)(n:Nat)(rows2:List (List PV)):Prop:=
 ∀(C:Ctx) (st:St) (M:Mem) (ρ:Nat→Value) (a:Act) (w:World) (v:Value),Holds C st M ρ a w→RepS M ρ s v→okT rt st→
  rows2.length=n∧ ∃(ad:Option Addr) (cap:Nat),v= .slice ad n cap∧(n=0∨ ∃(b o:Nat) (gg:Nat→Option Value),ad=some ⟨b,o,none⟩∧(∀i c,gg i=some c→w.cell? ⟨b,i,none⟩=some c)∧RowsIn M gg e rows2 o)
theorem zsQ.sl{e:Nat}{rows:List (List PV)}:zsQ e (.one (.p (.sl e rows))) [] rows.length rows:=fun C st M ρ a w v hH hr _=>by
 simp only[RepS,RepV,RepPV]at hr
 obtain⟨ad,cap,h1,_,_,h4⟩:=hr
 refine⟨rfl,ad,cap,h1,?_⟩
 rcases h4 with h4|⟨b,o,h5,h6⟩
 ·exact .inl (by rw[h4];rfl)
 ·exact .inr ⟨b,o,M b,h5,fun i c hi=>hH.run.imm b i c hi,h6⟩
theorem zsQ.sv{id e n:Nat}{rows:List (List PV)}(hn:n≤rows.length):zsQ e (.one (.sv id 0 n)) [(id,.arr e rows)] n (rows.take n):=fun C st M ρ a w v hH hr ht=>by
 simp only[RepS,RepV]at hr
 refine⟨by rw[List.length_take];omega,?_⟩
 rcases hr with⟨h0,ad,c,h1⟩|⟨b,o,N,cap,c,h1,h2,_,_⟩
 ·subst h0;exact⟨ad,c,h1,.inl rfl⟩
 ·refine⟨_,c,h2,?_⟩
  obtain⟨ad,cap',h3,h4,h5,h6⟩:=hH.yn.res id _ ht.1
  rw[h1]at h3
  simp only[Value.slice.injEq]at h3
  rcases h6 with⟨h6,_⟩|⟨b',o',cs,el,fz,h6,h7,_,_,h8⟩
  ·rw[h6]at h3;cases h3.1
  ·rw[h6]at h3
   have hbo:b=b'∧o=o':=by have:=h3.1;simp at this;exact this
   obtain⟨rfl,rfl⟩:=hbo
   exact .inr ⟨b,o+0,fun i=>cs[i]?,rfl,fun i c hi=>by simp only[World.cell?,h7];simpa using hi,by rw[Nat.add_zero];exact h8.take n⟩
theorem zsP.ar{C:Ctx}{st:St}{M:Mem}{ρ:Nat→Value}{a:Act}{w:World}(hH:Holds C st M ρ a w){id e:Nat}{rows:List (List PV)}{v:Value}(hT:tg st.tab id=some (.arr e rows))(h:RepS M ρ (.one (.ar id)) v):zsP ρ id 0 e rows.length v:=by
 simp only[RepS,RepV]at h
 obtain⟨ad,cap,h3,h4,h5,h6⟩:=hH.yn.res id _ hT
 rcases h6 with⟨h6,h7⟩|⟨b,o,cs,el,fz,h6,_⟩
 ·exact .inl ⟨by omega,ad,cap,by rw[h.1,h3,show rows.length=0 by omega]⟩
 ·exact .inr ⟨b,o,rows.length,cap,cap,by rw[h3,h6],by rw[h.1,h3,h6,Nat.zero_mul,Nat.add_zero]⟩
theorem zsP.sv{M:Mem}{ρ:Nat→Value}{id k e m:Nat}{v:Value}(h:RepS M ρ (.one (.sv id (k*e) m)) v):zsP ρ id k e m v:=by
 simp only[RepS,RepV]at h
 rcases h with⟨h0,ad,c,h1⟩|⟨b,o,N,cap,c,h1,h2,_,_⟩
 ·exact .inl ⟨h0,ad,c,h1⟩
 ·exact .inr ⟨b,o,N,cap,c,h1,h2⟩
end
section
variable {P:Program} {C:Ctx} {k:List Frm} {n:Nat} {sl:zi} {tab:Tab} {Q:Exit→St→Prop} {all:Array Oper} {rest:List Oper}
end
end Hw
namespace Hw.Fr
open Go Go.Proofs Go.Shelf Hw.M Md
theorem wV{i:Nat}(h:i+1≤1000000):IntKind.i64.wrap ((i:Int)+1)=((i+1:Nat):Int):=by rw[wrap64 (by omega)];omega
theorem xB{ms:List Mt}{fl:List Bool}(h:fl.length=ms.length):(yD ms fl).length=ms.length:=by rw[yD,List.length_zipWith,h,Nat.min_self]
theorem zaB{ms:List Mt}{fl:List Bool}{i:Nat}{m:Mt}(h:fl.length=ms.length)(hm:ms[i]?=some m): ∃f,fl[i]?=some f∧(yD ms fl)[i]?=some (zin m f):=by
 have hlt:=(List.getElem?_eq_some_iff.1 hm).1
 refine⟨fl[i],List.getElem?_eq_getElem (by omega),?_⟩
 rw[yD,List.getElem?_zipWith,hm,List.getElem?_eq_getElem (by omega)]
theorem zeA(m:Mt)(f:Bool)(t:Int)(h1:0≤m.1∧m.1≤1073741824)(h2:0≤t∧t≤1073741824):zj Tryz.prog 78 [zz (zin m f),I t] [] (I (m.1 - t)) []:=by
 refine gO T Tryz.func78 fun C hC=>?_
 repeat' first|refine gG ?_|refine gB (fun h=>?_) (fun h=>?_)
 rw[wrap64 (by omega)]
 exact gF
theorem zp0{ms:List Mt}{t:Int}{i:Nat}(hi:i≤ms.length)(hb: ∀(j:Nat) m,j<i→ms[j]?=some m→m.1<t)(ha: ∀m,ms[i]?=some m→ ¬m.1<t):xo ms t=i:=by
 unfold xo
 exact zkc (p:=fun m:Mt=>decide (m.1<t)) hi (fun j m hj hm=>decide_eq_true (hb j m hj hm)) fun m hm=>decide_eq_false (ha m hm)
theorem zoy{ms:List Mt}(h:ms.Pairwise fun a b=>a.1<b.1){i j:Nat}{a b:Mt}(hij:i≤j)(ha:ms[i]?=some a)(hb:ms[j]?=some b):a.1≤b.1:=by
 obtain⟨hi,rfl⟩:=List.getElem?_eq_some_iff.1 ha
 obtain⟨hj,rfl⟩:=List.getElem?_eq_some_iff.1 hb
 rcases Nat.eq_or_lt_of_le hij with rfl|hlt
 ·exact Int.le_refl _
 ·exact Int.le_of_lt (List.pairwise_iff_getElem.1 h i j hi hj hlt)
theorem zkS(ms:List Mt)(fl:List Bool)(t:Int)(hf:fl.length=ms.length)(hl:ms.length≤1000)(ha:ms.Pairwise fun a b=>a.1<b.1)(hm: ∀m∈ms,0≤m.1∧m.1≤1073741824)(ht:0≤t∧t≤1073741824):
 zj Tryz.prog 77 [pS (.sl 4 (yD ms fl)),I t,.one (.cl 78 [] [])] [] (.tup [I (xo ms t),.bq (hasT ms t)]) []:=by
 refine gO T Tryz.func77 fun C hC=>?_
 repeat' first|refine gG ?_|refine gB (fun h=>?_) (fun h=>?_)
 rw[xB hf]
 refine zy (fun p:Nat×Nat=>p.1≤p.2∧p.2≤ms.length∧(∀(j:Nat) m,j<p.1→ms[j]?=some m→m.1<t)∧(∀(j:Nat) m,p.2≤j→ms[j]?=some m→ ¬m.1<t)) (fun p=>([(0,pS (.sl 4 (yD ms fl))),(1,I t),(2,.one (.cl 78 [] [])),(8,I ms.length),(9,I p.1),(10,I p.2)],[])) (fun p=>p.2 - p.1) hC
  (0,ms.length) ⟨Nat.zero_le _,Nat.le_refl _,fun t r h=>absurd h (Nat.not_lt_zero _),fun t r h hr=>absurd (List.getElem?_eq_some_iff.1 hr).1 (by omega)⟩ id gM ?_
 rintro⟨i,j⟩ ⟨hij,hj,hb,hg⟩
 simp only at hij hj hb hg
 refine zI T hC true 200 rfl ?_
 refine zP rfl (fun h=>?_) (fun h=>?_)
 ·have hlt:i<j:=by simpa using h
  clear h
  repeat' first|refine gG ?_|refine gB (fun h=>?_) (fun h=>?_)|refine zoY hC rfl rfl (by decide) (by decide) rfl rfl ?_
  have hmid:IntKind.i64.wrap (IntKind.u64.wrap (IntKind.i64.wrap ((i:Int)+(j:Int))) / 2 ^ (1:Int).toNat)=(((i+j) / 2:Nat):Int):=by
   have e1:IntKind.i64.wrap ((i:Int)+(j:Int))=(i:Int)+(j:Int):=wrap64 (by omega)
   rw[e1]
   have:IntKind.u64.wrap ((i:Int)+(j:Int))=((i+j:Nat):Int):=by
    unfold IntKind.wrap
    simp[IntKind.bits,IntKind.signed]
    omega
   rw[this]
   rw[show((i+j:Nat):Int) / 2 ^ (1:Int).toNat=(((i+j) / 2:Nat):Int) by
    rw[show(2:Int) ^ (1:Int).toNat=2 by decide];omega]
   exact wrap64 (by omega)
  simp only
  rw[hmid]
  obtain⟨x,hx⟩:=zf (l:=ms) (i:=(i+j) / 2) (by omega)
  have hxm:=List.mem_of_getElem? hx
  obtain⟨f,_,hxr⟩:=zaB hf hx
  have hF:=zeA x f t (hm x hxm) ht
  generalize hme:(i+j) / 2=m at*
  repeat' first|refine gG ?_|refine gB (fun h=>?_) (fun h=>?_)|refine gI T hxr ?_|refine gC hF ?_
  ·rw[wV (by omega)]
   have h1:x.1<t:=by have:=of_decide_eq_true h;omega
   refine zh (m+1,j) ⟨by simp only;omega,hj,fun q r hq hr=>?_,hg⟩ id (by simp only;omega) gM
   have:=zoy ha (show q≤m by simp only at hq;omega) hr hx
   omega
  ·have h1: ¬x.1<t:=by have:=of_decide_eq_false h;omega
   refine zh (i,m) ⟨by simp only;omega,by simp only;omega,hb,fun q r hq hr=>?_⟩ id (by simp only;omega) gM
   have:=zoy ha hq hx hr
   omega
 ·have hge:i=j:=by have:=of_decide_eq_false h;simp only at this;omega
  subst hge
  clear h
  have hpos:xo ms t=i:=zp0 hj hb fun m hm=>hg i m (Nat.le_refl _) hm
  by_cases hlt:i<ms.length
  ·obtain⟨x,hx⟩:=zf hlt
   obtain⟨f,_,hxr⟩:=zaB hf hx
   have hF:=zeA x f t (hm x (List.mem_of_getElem? hx)) ht
   have hq:hasT ms t=decide (x.1 - t=0):=by
    unfold hasT
    rw[hpos,hx]
    exact decide_eq_decide.2 (by omega)
   rw[hq,hpos]
   repeat' first|refine gG ?_|(exfalso;first|(simp only[decide_eq_true_eq,decide_eq_false_iff_not,List.length_map,Bool.not_eq_true',Bool.not_eq_false']at *; omega)|(simp at h;done))|refine gB (fun h=>?_) (fun h=>?_)|refine zp ?_|refine gI T hxr ?_|refine gC hF ?_
   exact gF
  ·have hq:hasT ms t=false:=by
    unfold hasT
    rw[hpos,List.getElem?_eq_none (by omega)]
   rw[hq,hpos]
   repeat' first|refine gG ?_|(exfalso;first|(simp only[decide_eq_true_eq,decide_eq_false_iff_not,List.length_map,Bool.not_eq_true',Bool.not_eq_false']at *; omega)|(simp at h;done))|refine gB (fun h=>?_) (fun h=>?_)|refine zp ?_
   exact zg ⟨.inl rfl,id,_,rfl,LeS.tup (.cons (.refl _) (.cons (LeS.qb rfl) .nil)),trivial,rfl,rfl⟩
end Hw.Fr
namespace Hw.Fr
open Go Go.Proofs Go.Shelf Hw.M Md
abbrev tlR(sn:Str)(k r:Int)(ms:List Mt)(fl:List Bool)(ps:List Rws):RL:=[(0,.box [.p (ks sn),.p (ki k),.ar 1,.ar 2,.p (ki r)]),(1,.arr 4 (yD ms fl)),(2,.arr 1 (jM k ps))]
def wW(t:Int):Bool:=decide (0≤t)&&decide (t≤1073741824)
theorem y9{t:Int}:wW t=true↔0≤t∧t≤1073741824:=by simp[wW]
theorem jc(t:Int):zj Tryz.prog 49 [I t] [] (.bq (wW t)) []:=by
 refine gO T Tryz.func49 fun C hC=>?_
 repeat' first|refine gG ?_|refine gB (fun h=>?_) (fun h=>?_)|refine gL ?_|refine gQ ?_
 all_goals first
  |(simp_all[wW];done)
  |(simp_all[wW];omega)
theorem zbd{sn:Str}{k r:Int}{ms:List Mt}{fl:List Bool}{ps:List Rws}{t:Int}(hk:TLk k ms)(hf:fl.length=ms.length)(ht:0≤t∧t≤1073741824):
 zj Tryz.prog 50 [.one (.bx 0 0),I t] (tlR sn k r ms fl ps) (.tup [I (xo ms t),.bq (hasT ms t)]) (tlR sn k r ms fl ps):=by
 have hB:=zkS ms fl t hf (by have:=hk.len;omega) hk.asc hk.tm ht
 refine gO T Tryz.func50 fun C hC=>?_
 repeat' first|refine gG ?_|refine gB (fun h=>?_) (fun h=>?_)|refine yk hC hB [(1,.arr 4 (yD ms fl))] rfl rfl (y4.cons (.one (.ar (by simp))) (.cons (.refl _) (.cons (.refl _) .nil))) rfl rfl rfl rfl ?_
 exact zg ⟨.inl rfl,id,_,rfl,.refl _,⟨rfl,rfl,rfl,trivial⟩,rfl,rfl⟩
end Hw.Fr