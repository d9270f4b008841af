import Derived.Test.YtolghpfockkldaaGreatDoorC1
import Derived.Test.YtolghpfockkldaaGreatDoorE3
import Derived.Test.YtolghpfockkldaaGreatDoorC9
import Derived.Lib.LaidTab
set_option linter.unusedVariables false
set_option linter.unusedSimpArgs false
set_option linter.unusedSectionVars false
set_option linter.unnecessarySimpa false
namespace Hw.Gm
open Go Go.Proofs Hw.M
section
variable {H:Type} {enc:TypeId×Value->H} {w:World} {base:Nat} {spare:Nat->Bool} {held:Bool}
theorem xr(n:Nat):Rd enc Tryz.prog w base spare held n 9 (λs:ByteArray=>[ks s]):=zpH ud
theorem zaG(n:Nat):Rd enc Tryz.prog w base spare held n 3 (λi:Int=>[ki i]):=ztA ud
theorem zf4(n:Nat):Rd enc Tryz.prog w base spare held n 31 (λl=>[.sl 1 (List.map z8 l)]):=yO (c:=1) ud ud ub λm _=>zaG m
theorem zpI(n:Nat):Rd enc Tryz.prog w base spare held n 124 xt:=by
 induction n using Nat.strongRecOn with
 |_ n ih=>
 intro cs x h;obtain⟨m,rfl,c0,r0,J,rfl,U,c1,r1,x1,rfl,h1,c2,r2,x2,rfl,h2,c3,r3,x3,rfl,h3,rfl⟩:=yb (l:=[(3,1),(3,1),(9,1),(122,1)]) ud h;obtain⟨a0,k0⟩:=zaG m c0 J U;obtain⟨a1,k1⟩:=zaG m c1 x1 h1;obtain⟨a2,k2⟩:=xr m c2 x2 h2;obtain⟨a3,k3⟩:=yO (c:=4) (R:=xt) ud ud ub (λk hk=>ih k ua) c3 x3 h3;refine⟨.mk a0 a1 a2 a3,?_⟩;rw[zbj];exact(k0.app (k1.app (k2.app (k3.app (show CellsM (xA w) [] [] from trivial)))))
theorem znN(n:Nat):Rd enc Tryz.prog w base spare held n 124 yp:=λcs x h=>by
 obtain⟨a,k⟩:=zpI n cs x h;exact⟨a,by rw[zbj]at k;exact k⟩
theorem ztB(n:Nat):Rd enc Tryz.prog w base spare held n 122 (λl=>[.sl 4 (List.map xt l)]):=yO (c:=4) ud ud ub λm _=>zpI m
theorem ztC(n:Nat):Rd enc Tryz.prog w base spare held n 217 zcu:=by
 induction n using Nat.strongRecOn with
 |_ n ih=>
 intro cs x h;obtain⟨m,rfl,c0,r0,J,rfl,U,c1,r1,x1,rfl,h1,c2,r2,x2,rfl,h2,c3,r3,x3,rfl,h3,c4,r4,x4,rfl,h4,rfl⟩:=yb (l:=[(3,1),(9,1),(122,1),(88,1),(88,1)]) ud h;obtain⟨a0,k0⟩:=zaG m c0 J U;obtain⟨a1,k1⟩:=xr m c1 x1 h1;obtain⟨a2,k2⟩:=ztB m c2 x2 h2;obtain⟨a3,k3⟩:=yO (c:=5) (R:=zcu) ud ud ub (λk hk=>ih k ua) c3 x3 h3;obtain⟨a4,k4⟩:=yO (c:=5) (R:=zcu) ud ud ub (λk hk=>ih k ua) c4 x4 h4;refine⟨.mk a0 a1 a2 a3 a4,?_⟩;rw[zdl];exact(k0.app (k1.app (k2.app (k3.app (k4.app (show CellsM (xA w) [] [] from trivial))))))
theorem ztD(n:Nat):Rd enc Tryz.prog w base spare held n 88 (λl=>[.sl 5 (List.map zcu l)]):=yO (c:=5) ud ud ub λm _=>ztC m
theorem ztE(n:Nat):Rd enc Tryz.prog w base spare held n 136 zG:=by
 intro cs x h;obtain⟨m,rfl,c0,r0,J,rfl,U,c1,r1,x1,rfl,h1,rfl⟩:=yb (l:=[(9,1),(9,1)]) ud h;obtain⟨a0,k0⟩:=xr m c0 J U;obtain⟨a1,k1⟩:=xr m c1 x1 h1;refine⟨⟨a0,a1⟩,?_⟩;exact(k0.app (k1.app (show CellsM (xA w) [] [] from trivial)))
theorem zdq(n:Nat):Rd enc Tryz.prog w base spare held n 23 (λl=>[.sl 2 (List.map zG l)]):=yO (c:=2) ud ud ub λm _=>ztE m
theorem zwi(n:Nat):Rd enc Tryz.prog w base spare held n 129 zW:=by
 intro cs x h;obtain⟨m,rfl,c0,r0,J,rfl,U,c1,r1,x1,rfl,h1,rfl⟩:=yb (l:=[(9,1),(23,1)]) ud h;obtain⟨a0,k0⟩:=xr m c0 J U;obtain⟨a1,k1⟩:=zdq m c1 x1 h1;refine⟨⟨a0,a1⟩,?_⟩;exact(k0.app (k1.app (show CellsM (xA w) [] [] from trivial)))
theorem ztF(n:Nat):Rd enc Tryz.prog w base spare held n 22 (λl=>[.sl 2 (List.map zW l)]):=yO (c:=2) ud ud ub λm _=>zwi m
theorem zwj(n:Nat):Rd enc Tryz.prog w base spare held n 90 zJ:=by
 intro cs x h;obtain⟨m,rfl,c0,r0,J,rfl,U,c1,r1,x1,rfl,h1,c2,r2,x2,rfl,h2,c3,r3,x3,rfl,h3,c4,r4,x4,rfl,h4,rfl⟩:=yb (l:=[(9,1),(23,1),(9,1),(23,1),(88,1)]) ud h;obtain⟨a0,k0⟩:=xr m c0 J U;obtain⟨a1,k1⟩:=zdq m c1 x1 h1;obtain⟨a2,k2⟩:=xr m c2 x2 h2;obtain⟨a3,k3⟩:=zdq m c3 x3 h3;obtain⟨a4,k4⟩:=ztD m c4 x4 h4;refine⟨⟨a0,a1,a2,a3,a4⟩,?_⟩;exact(k0.app (k1.app (k2.app (k3.app (k4.app (show CellsM (xA w) [] [] from trivial))))))
theorem ztG(n:Nat):Rd enc Tryz.prog w base spare held n 24 (λl=>[.sl 5 (List.map zJ l)]):=yO (c:=5) ud ud ub λm _=>zwj m
theorem zwk(n:Nat):Rd enc Tryz.prog w base spare held n 160 yI:=by
 intro cs x h;obtain⟨m,rfl,c0,r0,J,rfl,U,c1,r1,x1,rfl,h1,c2,r2,x2,rfl,h2,c3,r3,x3,rfl,h3,rfl⟩:=yb (l:=[(9,1),(9,1),(3,1),(124,4)]) ud h;obtain⟨a0,k0⟩:=xr m c0 J U;obtain⟨a1,k1⟩:=xr m c1 x1 h1;obtain⟨a2,k2⟩:=zaG m c2 x2 h2;obtain⟨a3,k3⟩:=znN m c3 x3 h3;refine⟨⟨a0,a1,a2,a3⟩,?_⟩;exact(k0.app (k1.app (k2.app (k3.app (show CellsM (xA w) [] [] from trivial)))))
theorem ztH(n:Nat):Rd enc Tryz.prog w base spare held n 25 (λl=>[.sl 7 (List.map yI l)]):=yO (c:=7) ud ud ub λm _=>zwk m
theorem zwl(n:Nat):Rd enc Tryz.prog w base spare held n 163 zpJ:=by
 intro cs x h;obtain⟨m,rfl,c0,r0,J,rfl,U,c1,r1,x1,rfl,h1,c2,r2,x2,rfl,h2,rfl⟩:=yb (l:=[(9,1),(9,1),(124,4)]) ud h;obtain⟨a0,k0⟩:=xr m c0 J U;obtain⟨a1,k1⟩:=xr m c1 x1 h1;obtain⟨a2,k2⟩:=znN m c2 x2 h2;refine⟨⟨a0,a1,a2⟩,?_⟩;exact(k0.app (k1.app (k2.app (show CellsM (xA w) [] [] from trivial))))
theorem ztI(n:Nat):Rd enc Tryz.prog w base spare held n 26 (λl=>[.sl 6 (List.map zpJ l)]):=yO (c:=6) ud ud ub λm _=>zwl m
theorem zwm(n:Nat):Rd enc Tryz.prog w base spare held n 126 zhB:=by
 intro cs x h;obtain⟨m,rfl,c0,r0,J,rfl,U,c1,r1,x1,rfl,h1,rfl⟩:=yb (l:=[(9,1),(124,4)]) ud h;obtain⟨a0,k0⟩:=xr m c0 J U;obtain⟨a1,k1⟩:=znN m c1 x1 h1;refine⟨⟨a0,a1⟩,?_⟩;exact(k0.app (k1.app (show CellsM (xA w) [] [] from trivial)))
theorem ztJ(n:Nat):Rd enc Tryz.prog w base spare held n 27 (λl=>[.sl 5 (List.map zhB l)]):=yO (c:=5) ud ud ub λm _=>zwm m
theorem zwn(n:Nat):Rd enc Tryz.prog w base spare held n 165 wm:=by
 intro cs x h;obtain⟨m,rfl,c0,r0,J,rfl,U,c1,r1,x1,rfl,h1,rfl⟩:=yb (l:=[(9,1),(124,4)]) ud h;obtain⟨a0,k0⟩:=xr m c0 J U;obtain⟨a1,k1⟩:=znN m c1 x1 h1;refine⟨⟨a0,a1⟩,?_⟩;exact(k0.app (k1.app (show CellsM (xA w) [] [] from trivial)))
theorem ztK(n:Nat):Rd enc Tryz.prog w base spare held n 28 (λl=>[.sl 5 (List.map wm l)]):=yO (c:=5) ud ud ub λm _=>zwn m
theorem zwo(n:Nat):Rd enc Tryz.prog w base spare held n 30 zA:=by
 intro cs x h;obtain⟨m,rfl,c0,r0,J,rfl,U,c1,r1,x1,rfl,h1,c2,r2,x2,rfl,h2,c3,r3,x3,rfl,h3,c4,r4,x4,rfl,h4,c5,r5,x5,rfl,h5,c6,r6,x6,rfl,h6,c7,r7,x7,rfl,h7,rfl⟩:=yb (l:=[(9,1),(22,1),(23,1),(24,1),(25,1),(26,1),(27,1),(28,1)]) ud h;obtain⟨a0,k0⟩:=xr m c0 J U;obtain⟨a1,k1⟩:=ztF m c1 x1 h1;obtain⟨a2,k2⟩:=zdq m c2 x2 h2;obtain⟨a3,k3⟩:=ztG m c3 x3 h3;obtain⟨a4,k4⟩:=ztH m c4 x4 h4;obtain⟨a5,k5⟩:=ztI m c5 x5 h5;obtain⟨a6,k6⟩:=ztJ m c6 x6 h6;obtain⟨a7,k7⟩:=ztK m c7 x7 h7;refine⟨⟨a0,a1,a2,a3,a4,a5,a6,a7⟩,?_⟩;exact(k0.app (k1.app (k2.app (k3.app (k4.app (k5.app (k6.app (k7.app (show CellsM (xA w) [] [] from trivial)))))))))
theorem zwp(n:Nat):Rd enc Tryz.prog w base spare held n 83 xL:=by
 intro cs x h;obtain⟨m,rfl,c0,r0,J,rfl,U,c1,r1,x1,rfl,h1,rfl⟩:=yb (l:=[(3,1),(31,1)]) ud h;obtain⟨a0,k0⟩:=zaG m c0 J U;obtain⟨a1,k1⟩:=zf4 m c1 x1 h1;refine⟨⟨a0,a1⟩,?_⟩;exact(k0.app (k1.app (show CellsM (xA w) [] [] from trivial)))
theorem ztL(n:Nat):Rd enc Tryz.prog w base spare held n 32 (λl=>[.sl 2 (List.map xL l)]):=yO (c:=2) ud ud ub λm _=>zwp m
theorem zxm(n:Nat):Rd enc Tryz.prog w base spare held n 34 yS:=by
 intro cs x h;obtain⟨m,rfl,c0,r0,J,rfl,U,c1,r1,x1,rfl,h1,rfl⟩:=yb (l:=[(31,1),(32,1)]) ud h;obtain⟨a0,k0⟩:=zf4 m c0 J U;obtain⟨a1,k1⟩:=ztL m c1 x1 h1;refine⟨⟨a0,a1⟩,?_⟩;exact(k0.app (k1.app (show CellsM (xA w) [] [] from trivial)))
end
end Hw.Gm
namespace Hw.Gm
open Go Go.Proofs Hw.M Ps
section
variable {H:Type} {enc:TypeId×Value->H} {w:World} {base:Nat} {spare:Nat->Bool} {held:Bool}
theorem zxI(n:Nat):Rd enc Tryz.prog w base spare held n 64 yy:=by
 intro cs x h;obtain⟨m,rfl,c0,r0,J,rfl,U,c1,r1,x1,rfl,h1,rfl⟩:=yb (l:=[(9,1),(31,1)]) ud h;obtain⟨a0,k0⟩:=zpH ud c0 J U;obtain⟨a1,k1⟩:=zf4 m c1 x1 h1;refine⟨⟨a0,a1⟩,?_⟩;exact(k0.app (k1.app (show CellsM (xA w) [] [] from trivial)))
end
theorem zxJ{b:Int}(J:(Lit.int .u8 b).wf=true):0<=b/\b<=255:=by
 simp[Lit.wf,IntKind.min,IntKind.max,IntKind.bits,IntKind.signed]at J;omega
abbrev U8:={n:Int // 0<=n/\n<=255}
theorem zhC(d:zg)(m:Hp)(l:List Cl)(fuel:Int)(c:U8):
 zf Tryz.prog 3 [zr (zA d),zr (yS m),pS (.sl 2 (l.map yy)),I fuel,.one (.p (.k (.int .u8 c.1)))] [] (.bq true) []:=zaH d m l fuel c.1 c.2.1 c.2.2
end Hw.Gm
namespace Hw
open Go Go.Proofs
theorem zte{P:Program}{W:World}{name nm:String}{d:DataW Unit}{rest:List (String×DataW Unit)}{g:Nat}{t:TypeId}{ms:Array (String×TypeId)}
 (hg:P.globalNamed name=some g) (hty:(P.globals[g]?).map (·.type)=some t) (ht:P.underlying t=some (.interface ms)) (h:laidMet P ((name,.iface nm d)::rest) W): ∃u v,xA W g 0=some (.iface u v):=by
 obtain⟨ps,⟨g',t',cs,fuel,p,q,hg',ht',U,J,_,_⟩,_⟩:=h;obtain rfl:=uY (hg.symm.trans hg');obtain rfl:=uY (hty.symm.trans ht');have hc:=World.var?_cell hg U 0;unfold xA;rw[hc];cases fuel with
 |zero=>simp[DataW.trod]at J
 |succ fuel=>
  rw[<-qw];generalize cs.toList=l at J
  match l,J with
  | [],J=>simp[DataW.trod,ht]at J
  |v::w::r,J=>simp[DataW.trod,ht]at J
  | [v],J=>
    cases v with
    |iface u x=>exact⟨u,x,rfl⟩
    |_=>simp[DataW.trod,ht]at J
end Hw
