/- FullretroCosts: the row and its tied card, from the function's contract. -/
import Derived.Test.YtgcfmjlnapcioaaGreatDoorC10
import Derived.Test.YtgcfmjlnapcioaaGreatDoorE3
import Derived.Test.YtgcfmjlnapcioaaGreatDoorTie
import Derived.Test.YtgcfmjlnapcioaaGreatDoorCards
import Derived.ProofKit
import Derived.LaidMore
import Derived.Lay
import Derived.SevenTiedAt
import Derived.Stop.Joined
set_option linter.unusedVariables false
set_option linter.unusedSimpArgs false
namespace Go.Proofs.YtgcfmjlnapcioaaGreatDoor.FullretroCostsP
open Go Go.ChangeShapes Go.WideShapes Go.ChangeAt Go.RowKit Hw Hw.M Hw.Fr
theorem own:ownKnob Tryz.prog.godebug=none:=by kernel_rfl
theorem laidOut:laidOutB Tryz.prog=true:=by kernel_rfl
def spZ:List Int:=(List.range 256).map fun o=>if Lib.isSp (UInt8.ofNat o)then 1 else 0
theorem spData:(Rows.laid_strings_asciiSpace:DataW Unit)=Lib.tabData .u8 spZ:=by kernel_rfl
def pwZ:List Int:=(List.range 20).map fun o=>((10 ^ o:Nat):Int)
theorem pwData:(Rows.laid_internal_strconv_uint64pow10:DataW Unit)=Lib.tabData .u64 pwZ:=by kernel_rfl
theorem table{W:World}(h:laidMetH Tryz.prog Rows.fullretroCostsRow.laid W):MLe G0 (jB W):=by
 rw[MakeChecks.laidMetH_plain _ _ _ (by kernel_rfl)]at h
 have h2:laidMet Tryz.prog (("strings.asciiSpace",Lib.tabData .u8 spZ)::[]) W:=by
  rw[←spData]
  exact zvo (zvo (zvo (zvo (zvo (zvo h)))))
 have h3:laidMet Tryz.prog (("internal/strconv.uint64pow10",Lib.tabData .u64 pwZ)::[("strconv.ErrRange",Rows.laid_strconv_ErrRange),("strconv.ErrSyntax",Rows.laid_strconv_ErrSyntax),("unicode.White_Space",Rows.laid_unicode_White_Space),("strings.asciiSpace",Rows.laid_strings_asciiSpace)]) W:=by
  rw[←pwData]
  exact zvo (zvo h)
 have ht:=Lib.tabIs_of_head (g:=2) (t:=375) (e:=5) (n:=256) (by kernel_rfl) (by kernel_rfl) (by kernel_rfl) (by kernel_rfl) (by kernel_rfl) (by kernel_rfl) h2
 have ht3:=Lib.tabIs_of_head (g:=1) (t:=359) (e:=286) (n:=20) (by kernel_rfl) (by kernel_rfl) (by kernel_rfl) (by kernel_rfl) (by kernel_rfl) (by kernel_rfl) h3
 intro b o v hv
 unfold G0 at hv
 split at hv
 ·rename_i e
  have e':=Nat.eq_of_beq_eq_true e
  subst e'
  split at hv
  ·rename_i ho
   simp only[Option.some.injEq]at hv
   subst hv
   have hl:o<spZ.length:=by simp[spZ,ho]
   have hc:=ht.cell (g:=2) (by kernel_rfl) o hl
   unfold jB
   rw[hc]
   simp[spZ,List.getD,ho]
  ·cases hv
 ·split at hv
  ·rename_i e
   have e':=Nat.eq_of_beq_eq_true e
   subst e'
   split at hv
   ·rename_i ho
    simp only[Option.some.injEq]at hv
    subst hv
    have hl:o<pwZ.length:=by simp[pwZ,ho]
    have hc:=ht3.cell (g:=1) (by kernel_rfl) o hl
    unfold jB
    rw[hc]
    simp[pwZ,List.getD,ho]
   ·cases hv
  ·cases hv
theorem tableB{W:World}(h:laidMetH Tryz.prog Rows.fullretroCostsRow.laid W): ∀p∈G2,∃el fz,W.heap[p.1]?=some (.cells p.2 el fz):=by
 rw[MakeChecks.laidMetH_plain _ _ _ (by kernel_rfl)]at h
 have h3:laidMet Tryz.prog (("internal/strconv.uint64pow10",Lib.tabData .u64 pwZ)::[("strconv.ErrRange",Rows.laid_strconv_ErrRange),("strconv.ErrSyntax",Rows.laid_strconv_ErrSyntax),("unicode.White_Space",Rows.laid_unicode_White_Space),("strings.asciiSpace",Rows.laid_strings_asciiSpace)]) W:=by
  rw[←pwData]
  exact zvo (zvo h)
 have ht3:=Lib.tabIs_of_head (g:=1) (t:=359) (e:=286) (n:=20) (by kernel_rfl) (by kernel_rfl) (by kernel_rfl) (by kernel_rfl) (by kernel_rfl) (by kernel_rfl) h3
 intro p hp
 simp only[G2,List.mem_cons,List.not_mem_nil,or_false]at hp
 subst hp
 unfold Lib.TabIs World.var? at ht3
 rw[show Tryz.prog.globalNamed "internal/strconv.uint64pow10" =some 1 by kernel_rfl]at ht3
 simp only[Option.bind_some]at ht3
 split at ht3
 ·rename_i cs el fz hc
  simp only[Option.some.injEq]at ht3
  exact⟨el,fz,by rw[hc,ht3];rfl⟩
 ·cases ht3
theorem tableE{W:World}(h:laidMetH Tryz.prog Rows.fullretroCostsRow.laid W): ∀b∈G3,∃u v,jB W b 0=some (.iface u v):=by
 rw[MakeChecks.laidMetH_plain _ _ _ (by kernel_rfl)]at h
 have h3:laidMet Tryz.prog (("strconv.ErrRange",Rows.laid_strconv_ErrRange)::[("strconv.ErrSyntax",Rows.laid_strconv_ErrSyntax),("unicode.White_Space",Rows.laid_unicode_White_Space),("strings.asciiSpace",Rows.laid_strings_asciiSpace)]) W:=zvo (zvo (zvo h))
 have h4:=zvo h3
 have e3:=zte (g:=7) (t:=208) (ms:= #[("Error",212)]) (by kernel_rfl) (by kernel_rfl) (by kernel_rfl) h3
 have e4:=zte (g:=6) (t:=208) (ms:= #[("Error",212)]) (by kernel_rfl) (by kernel_rfl) (by kernel_rfl) h4
 intro b hb
 simp only[G3,List.mem_cons,List.not_mem_nil,or_false]at hb
 rcases hb with rfl|rfl
 ·exact e4
 ·exact e3
theorem open_ok{W:World}(h:laidMetH Tryz.prog Rows.fullretroCostsRow.laid W)(hSh:W.ShapedOpen Tryz.prog):GOk (jB W) W:=by
 refine⟨table h,fun b hb=>?_,tableE h,tableB h⟩
 obtain rfl:b=0:=by simpa [G1]using hb
 exact cell_of_shapedOpen_int (zero:= #[.int .i64 0]) (t:=3) hSh (of_decide_eq_true (by kernel_rfl)) (by kernel_rfl) rfl (by kernel_rfl) (by kernel_rfl) Tryz.underlying3
set_option maxRecDepth 100000 in
theorem contract(H:Type)(enc:TypeId×Value→H)(W:World)(base:Nat)(args:Array Value)(ds gs:List (DataW H))(before:List MemPlace)
 (hval: ∀(j:Nat) t v,Tryz.f6.params[j]?=some t→args[j]?=some v→Value.okWide Tryz.prog W .any base t v)
 (hW:DataW.Whole enc Tryz.prog Tryz.f6.params.toList Rows.fullretroCostsSpec.vars false W args.toList ds gs before) (hL:laidMetH Tryz.prog Rows.fullretroCostsRow.laid W) (hSh:W.ShapedOpen Tryz.prog):
 Calls Tryz.prog 6 args W fun e W'=> ∃v,e= .returned v∧Rows.fullretroCostsSpec.post enc Tryz.prog Tryz.f6 false true false false W args v W':=by
 have hW':=hW
 obtain⟨p,q,hA0,hV,rfl,_,_⟩:=hW
 have hA:DataW.TrodAll enc Tryz.prog W 0 (fun _=>true) true Tryz.f6.params.toList args.toList ds p:=hA0
 rw[Tryz.params6]at hA hval
 obtain⟨v0,vs0,d0,ds0,p0,q0,hargs,rfl,rfl,h0,r0⟩:=trodAll_cons hA
 obtain⟨v1,vs1,d1,ds1,p1,q1,rfl,rfl,rfl,h1,r1⟩:=trodAll_cons r0
 obtain⟨rfl,rfl,rfl⟩:=trodAll_nil r1
 obtain⟨rfl,rfl⟩:=trodVars_none hV
 obtain rfl:args= #[v0,v1]:=by cases args;simp_all
 have e0:Value.okWide Tryz.prog W .any base 9 v0:=by apply hval 0<;>simp
 obtain⟨a0,s0⟩:=zwH (ρ:=fun _=>undef) (by kernel_rfl) e0 (_d:=d0) (_p:=p0)
 have e1:Value.okWide Tryz.prog W .any base 22 v1:=by apply hval 1<;>simp
 obtain⟨a1,s1⟩:=zvy (ρ:=fun _=>undef) (e:=35) (c:=4) (R:=zeh) (by kernel_rfl) e1 (fun n=>zoQ (e:=35) (c:=4) (R:=zeh) (by kernel_rfl) (by kernel_rfl) (by decide) fun m _=>zww m) h1
 refine(zvm (zjO a0 a1) (open_ok hL hSh) (args:= #[v0,v1]) ⟨s0,s1,trivial⟩).mono fun e W' ⟨he,hb⟩=>?_
 subst he
 refine⟨_,rfl,zvn (tb:=4) laidOut ?_ (by kernel_rfl) (by kernel_rfl) rfl rfl hW' hb⟩
 intro t ht
 have hm:t∈[9,22]:=by rw[Tryz.params6]at ht;simpa using ht
 have hall:([9,22].all fun u=>Tryz.prog.readableRec u&&decide (u<Tryz.prog.types.size))=true:=by kernel_rfl
 have:=List.all_eq_true.1 hall t hm
 simp only[Bool.and_eq_true,decide_eq_true_eq]at this
 exact this
set_option maxRecDepth 100000 in
theorem lifted(os:Os)(started:os.Started)(H:Type)(enc:TypeId×Value→H):
 ReturnsInHanded {} Tryz.checked os 6 .any (fun w args=>(Rows.fullretroCostsSpec.pre enc Tryz.prog Tryz.f6 Rows.fullretroCostsRow.domain false w args∧laidMetH Tryz.prog Rows.fullretroCostsRow.laid w)∧sizedMet enc Tryz.prog Tryz.f6 (OpenSpec.ofChange Rows.fullretroCostsSpec) false w args)
  (Rows.fullretroCostsSpec.post enc Tryz.prog Tryz.f6 false true false false):=by
 refine zrh (C:=Tryz.checked) (X:=fun w _=>laidMetH Tryz.prog Rows.fullretroCostsRow.laid w) (fun _ _ _ hh h=>h.of_heap hh) own started (by kernel_rfl) Tryz.func6
  (ChangeSpec.witness_shaped (enc:=enc) (C:=Tryz.checked) (os:=os) (X:=fun w _=>laidMetH Tryz.prog Rows.fullretroCostsRow.laid w) false (World.laidAll Tryz.prog os Rows.fullretroCostsRow.laid) #[.string ⟨#[]⟩,.slice none 0 0] 8 (World.laidAll_os _ _ _)
    (World.shaped_of_ZipB (by kernel_rfl) (by kernel_rfl)) (by kernel_rfl) (by kernel_rfl) (by kernel_rfl)
    (by rw[MakeChecks.laidMetH_plain _ _ _ (by kernel_rfl)];exact laidMet_laidAll _ (by kernel_rfl) (by kernel_rfl))) ?_
 intro W base args ds gs before hval hW hL hSh
 exact contract H enc W base args ds gs before hval hW hL hSh
theorem and_of{a b:Bool}(ha:a=true)(hb:b=true):(a&&b)=true:=by rw[ha,hb];rfl
set_option maxHeartbeats 20000000 in
set_option maxRecDepth 100000 in
theorem facts:joinedFacts Tryz.prog 6 Tryz.f6 Rows.fullretroCostsSpec Rows.fullretroCostsRow=true:=by
 unfold joinedFacts
 refine(and_of (and_of (and_of (and_of (and_of (and_of (and_of (and_of (and_of (and_of (and_of (and_of (and_of (and_of (and_of (and_of (and_of (and_of (and_of (and_of (and_of (and_of (and_of (and_of (and_of (and_of (and_of (and_of (and_of (and_of (and_of (and_of ?_ ?_) ?_) ?_) ?_) ?_) ?_) ?_) ?_) ?_) ?_) ?_) ?_) ?_) ?_) ?_) ?_) ?_) ?_) ?_) ?_) ?_) ?_) ?_) ?_) ?_) ?_) ?_) ?_) ?_) ?_) ?_) ?_)
 all_goals (as_aux_lemma=>kernel_rfl)
theorem instFact:Tryz.f6.isInstance Tryz.prog Rows.fullretroCostsRow.origin Rows.fullretroCostsRow.targs:=of_decide_eq_true (by kernel_rfl)
theorem wrapFact:Tryz.f6.isWrapper Tryz.prog Rows.fullretroCostsRow.wrapper Rows.fullretroCostsRow.mainSum:=by unfold Func.isWrapper;first|(rw[if_pos (by decide+kernel)];kernel_rfl)|(rw[if_neg (by decide+kernel)];exact⟨rfl,rfl⟩)
theorem preFact(H:Type)(enc:TypeId×Value→H):Rows.fullretroCostsRow.pre enc Tryz.prog Tryz.f6 (OpenSpec.ofChange Rows.fullretroCostsSpec)=fun w args=>(Rows.fullretroCostsSpec.pre enc Tryz.prog Tryz.f6 Rows.fullretroCostsRow.domain false w args∧laidMetH Tryz.prog Rows.fullretroCostsRow.laid w)∧sizedMet enc Tryz.prog Tryz.f6 (OpenSpec.ofChange Rows.fullretroCostsSpec) false w args:=
 OpenClaim.pre_eq_preRow _ _ _ _
theorem said:Rows.FullretroCostsSaid:=
 OpenClaim.holds_of_wide 6 Tryz.f6 rfl rfl rfl rfl rfl rfl rfl ⟨rfl,rfl,rfl,rfl,rfl⟩ rfl rfl rfl rfl rfl (by kernel_rfl) Tryz.func6 facts instFact wrapFact
  (fun os started H enc _=>by rw[show Tryz.pinned.checked.prog=Tryz.prog from rfl,preFact];exact lifted os started H enc)
theorem plain(f:FuncId)(fn:Func)(hf:Tryz.pinned.checked.prog.funcNamed "heartwood/heartwoodlaw39.FullretroCosts" =some f)(hfn:Tryz.pinned.checked.prog.funcs[f]?=some fn):
 true=Tryz.pinned.checked.prog.looks []∧ ∀(j:Nat) t,fn.params[j]?=some t→Tryz.pinned.checked.prog.wantsStandIn t=false:=by
 obtain rfl:f=6:=Option.some.inj ((show Tryz.prog.funcNamed "heartwood/heartwoodlaw39.FullretroCosts" =some 6 by kernel_rfl).symm.trans hf) |>.symm
 obtain rfl:fn=Tryz.f6:=(Option.some.inj (Tryz.func6.symm.trans hfn)).symm
 refine⟨by kernel_rfl,fun j t ht=>?_⟩
 rw[Tryz.params6]at ht
 have hm:t∈[9,22]:=by simpa using Array.mem_of_getElem? ht
 have hall:([9,22].all fun u=> !Tryz.prog.wantsStandIn u)=true:=by kernel_rfl
 exact(show Tryz.prog.wantsStandIn t=false by simpa using List.all_eq_true.1 hall t hm)
end Go.Proofs.YtgcfmjlnapcioaaGreatDoor.FullretroCostsP