/- AmortizedNone: the row and its tied card, from the function's contract. -/
import Derived.Test.YtolghpfockkldaaGreatDoorC10
import Derived.Test.YtolghpfockkldaaGreatDoorE3
import Derived.Test.YtolghpfockkldaaGreatDoorTie
import Derived.Test.YtolghpfockkldaaGreatDoorCards
import Derived.ProofKit
import Derived.LaidMore
import Derived.Lay
import Derived.SevenTiedAt
import Derived.Stop.Joined
set_option linter.unusedVariables false
set_option linter.unusedSimpArgs false
set_option linter.unusedSectionVars false
set_option linter.unnecessarySimpa false
namespace Go.Proofs.YtolghpfockkldaaGreatDoor.AmortizedNoneP
open Go Go.ChangeShapes Go.WideShapes Go.ChangeAt Go.RowKit Hw Hw.M Hw.Gm
theorem own:ownKnob Tryz.prog.godebug=none:=by kernel_rfl
theorem laidOut:laidOutB Tryz.prog=true:=by kernel_rfl
def spZ:List Int:=(List.range 256).map fun o=>if Lib.isSp (UInt8.ofNat o)then 1 else 0
theorem spData:(Rows.laid_strings_asciiSpace:DataW Unit)=Lib.tabData .u8 spZ:=by kernel_rfl
def pwZ:List Int:=(List.range 20).map fun o=>((10 ^ o:Nat):Int)
theorem pwData:(Rows.laid_internal_strconv_uint64pow10:DataW Unit)=Lib.tabData .u64 pwZ:=by kernel_rfl
theorem table{W:World}(h:laidMetH Tryz.prog Rows.amortizedNoneRow.laid W):MLe G0 (xq W):=by
 rw[MakeChecks.laidMetH_plain _ _ _ (by kernel_rfl)]at h
 have h2:laidMet Tryz.prog (("strings.asciiSpace",Lib.tabData .u8 spZ)::[]) W:=by
  rw[←spData]
  exact zwh (zwh (zwh (zwh (zwh (zwh h)))))
 have h3:laidMet Tryz.prog (("internal/strconv.uint64pow10",Lib.tabData .u64 pwZ)::[("strconv.ErrRange",Rows.laid_strconv_ErrRange),("strconv.ErrSyntax",Rows.laid_strconv_ErrSyntax),("unicode.White_Space",Rows.laid_unicode_White_Space),("strings.asciiSpace",Rows.laid_strings_asciiSpace)]) W:=by
  rw[←pwData]
  exact zwh (zwh h)
 have ht:=Lib.tabIs_of_head (g:=0) (t:=367) (e:=5) (n:=256) (by kernel_rfl) (by kernel_rfl) (by kernel_rfl) (by kernel_rfl) (by kernel_rfl) (by kernel_rfl) h2
 have ht3:=Lib.tabIs_of_head (g:=5) (t:=415) (e:=314) (n:=20) (by kernel_rfl) (by kernel_rfl) (by kernel_rfl) (by kernel_rfl) (by kernel_rfl) (by kernel_rfl) h3
 intro b o v hv
 unfold G0 at hv
 split at hv
 ·rename_i e
  have e':=Nat.eq_of_beq_eq_true e
  subst e'
  split at hv
  ·rename_i ho
   simp only[Option.some.injEq]at hv
   subst hv
   have hl:o<spZ.length:=by simp[spZ,ho]
   have hc:=ht.cell (g:=0) (by kernel_rfl) o hl
   unfold xq
   rw[hc]
   simp[spZ,List.getD,ho]
  ·cases hv
 ·split at hv
  ·rename_i e
   have e':=Nat.eq_of_beq_eq_true e
   subst e'
   split at hv
   ·rename_i ho
    simp only[Option.some.injEq]at hv
    subst hv
    have hl:o<pwZ.length:=by simp[pwZ,ho]
    have hc:=ht3.cell (g:=5) (by kernel_rfl) o hl
    unfold xq
    rw[hc]
    simp[pwZ,List.getD,ho]
   ·cases hv
  ·cases hv
theorem tableB{W:World}(h:laidMetH Tryz.prog Rows.amortizedNoneRow.laid W): ∀p∈G2,∃el fz,W.heap[p.1]?=some (.cells p.2 el fz):=by
 rw[MakeChecks.laidMetH_plain _ _ _ (by kernel_rfl)]at h
 have h3:laidMet Tryz.prog (("internal/strconv.uint64pow10",Lib.tabData .u64 pwZ)::[("strconv.ErrRange",Rows.laid_strconv_ErrRange),("strconv.ErrSyntax",Rows.laid_strconv_ErrSyntax),("unicode.White_Space",Rows.laid_unicode_White_Space),("strings.asciiSpace",Rows.laid_strings_asciiSpace)]) W:=by
  rw[←pwData]
  exact zwh (zwh h)
 have ht3:=Lib.tabIs_of_head (g:=5) (t:=415) (e:=314) (n:=20) (by kernel_rfl) (by kernel_rfl) (by kernel_rfl) (by kernel_rfl) (by kernel_rfl) (by kernel_rfl) h3
 intro p hp
 simp only[G2,List.mem_cons,List.not_mem_nil,or_false]at hp
 subst hp
 unfold Lib.TabIs World.var? at ht3
 rw[show Tryz.prog.globalNamed "internal/strconv.uint64pow10" =some 5 by kernel_rfl]at ht3
 simp only[Option.bind_some]at ht3
 split at ht3
 ·rename_i cs el fz hc
  simp only[Option.some.injEq]at ht3
  exact⟨el,fz,by rw[hc,ht3];rfl⟩
 ·cases ht3
theorem tableE{W:World}(h:laidMetH Tryz.prog Rows.amortizedNoneRow.laid W): ∀b∈G3,∃u v,xq W b 0=some (.iface u v):=by
 rw[MakeChecks.laidMetH_plain _ _ _ (by kernel_rfl)]at h
 have h3:laidMet Tryz.prog (("strconv.ErrRange",Rows.laid_strconv_ErrRange)::[("strconv.ErrSyntax",Rows.laid_strconv_ErrSyntax),("unicode.White_Space",Rows.laid_unicode_White_Space),("strings.asciiSpace",Rows.laid_strings_asciiSpace)]) W:=zwh (zwh (zwh h))
 have h4:=zwh h3
 have e3:=ztA (g:=4) (t:=319) (ms:= #[("Error",147)]) (by kernel_rfl) (by kernel_rfl) (by kernel_rfl) h3
 have e4:=ztA (g:=3) (t:=319) (ms:= #[("Error",147)]) (by kernel_rfl) (by kernel_rfl) (by kernel_rfl) h4
 intro b hb
 simp only[G3,List.mem_cons,List.not_mem_nil,or_false]at hb
 rcases hb with rfl|rfl
 ·exact e4
 ·exact e3
theorem open_ok{W:World}(h:laidMetH Tryz.prog Rows.amortizedNoneRow.laid W)(hSh:W.ShapedOpen Tryz.prog):GOk (xq W) W:=by
 refine⟨table h,fun b hb=>?_,tableE h,tableB h⟩
 cases hb
set_option maxRecDepth 100000 in
theorem contract(H:Type)(enc:TypeId×Value→H)(W:World)(base:Nat)(args:Array Value)(ds gs:List (DataW H))(before:List MemPlace)
 (hval: ∀(j:Nat) t v,Tryz.f5.params[j]?=some t→args[j]?=some v→Value.okWide Tryz.prog W .any base t v)
 (hW:DataW.Whole enc Tryz.prog Tryz.f5.params.toList Rows.amortizedNoneSpec.vars false W args.toList ds gs before) (hL:laidMetH Tryz.prog Rows.amortizedNoneRow.laid W) (hSh:W.ShapedOpen Tryz.prog):
 Calls Tryz.prog 5 args W fun e W'=> ∃v,e= .returned v∧Rows.amortizedNoneSpec.post enc Tryz.prog Tryz.f5 false true false false W args v W':=by
 have hW':=hW
 obtain⟨p,q,hA0,hV,rfl,_,_⟩:=hW
 have hA:DataW.TrodAll enc Tryz.prog W 0 (fun _=>true) true Tryz.f5.params.toList args.toList ds p:=hA0
 rw[Tryz.params5]at hA hval
 obtain⟨v0,vs0,d0,ds0,p0,q0,hargs,rfl,rfl,h0,r0⟩:=trodAll_cons hA
 obtain⟨v1,vs1,d1,ds1,p1,q1,rfl,rfl,rfl,h1,r1⟩:=trodAll_cons r0
 obtain⟨v2,vs2,d2,ds2,p2,q2,rfl,rfl,rfl,h2,r2⟩:=trodAll_cons r1
 obtain⟨v3,vs3,d3,ds3,p3,q3,rfl,rfl,rfl,h3,r3⟩:=trodAll_cons r2
 obtain⟨v4,vs4,d4,ds4,p4,q4,rfl,rfl,rfl,h4,r4⟩:=trodAll_cons r3
 obtain⟨v5,vs5,d5,ds5,p5,q5,rfl,rfl,rfl,h5,r5⟩:=trodAll_cons r4
 obtain⟨rfl,rfl,rfl⟩:=trodAll_nil r5
 obtain⟨rfl,rfl⟩:=trodVars_none hV
 obtain rfl:args= #[v0,v1,v2,v3,v4,v5]:=by cases args;simp_all
 have e0:Value.okWide Tryz.prog W .any base 30 v0:=by apply hval 0<;>simp
 obtain⟨a0,s0⟩:=zx7 (ρ:=fun _=>undef) (l:=[(9,1),(22,1),(23,1),(24,1),(25,1),(26,1),(27,1),(28,1)]) (by kernel_rfl) e0 zwQ h0
 have e1:Value.okWide Tryz.prog W .any base 34 v1:=by apply hval 1<;>simp
 obtain⟨a1,s1⟩:=zx7 (ρ:=fun _=>undef) (l:=[(31,1),(32,1)]) (by kernel_rfl) e1 zxO h1
 have e2:Value.okWide Tryz.prog W .any base 35 v2:=by apply hval 2<;>simp
 obtain⟨a2,s2⟩:=zwy (ρ:=fun _=>undef) (e:=64) (c:=2) (R:=yf) (by kernel_rfl) e2 (fun n=>yK (e:=64) (c:=2) (R:=yf) (by kernel_rfl) (by kernel_rfl) (by decide) fun m _=>zyb m) h2
 have e3:Value.okWide Tryz.prog W .any base 5 v3:=by apply hval 3<;>simp
 obtain⟨b3,w3,s3⟩:=zx8 (ρ:=fun _=>undef) (k:= .u8) (by kernel_rfl) e3 h3
 obtain⟨a3,rfl⟩: ∃x:U8,b3=x.1:=⟨⟨b3,zyc w3⟩,rfl⟩
 have e4:Value.okWide Tryz.prog W .any base 5 v4:=by apply hval 4<;>simp
 obtain⟨b4,w4,s4⟩:=zx8 (ρ:=fun _=>undef) (k:= .u8) (by kernel_rfl) e4 h4
 obtain⟨a4,rfl⟩: ∃x:U8,b4=x.1:=⟨⟨b4,zyc w4⟩,rfl⟩
 have e5:Value.okWide Tryz.prog W .any base 59 v5:=by apply hval 5<;>simp
 obtain⟨a5,s5⟩:=zwy (ρ:=fun _=>undef) (e:=5) (c:=1) (R:=byR) (by kernel_rfl) e5 (fun n=>yK (e:=5) (c:=1) (R:=byR) (by kernel_rfl) (by kernel_rfl) (by decide) fun m _=>zyv (by kernel_rfl)) h5
 refine(zwf (ziR a0 a1 a2 a3 a4 a5) (open_ok hL hSh) (args:= #[v0,v1,v2,v3,v4,v5]) ⟨s0,s1,s2,s3,s4,s5,trivial⟩).mono fun e W' ⟨he,hb⟩=>?_
 subst he
 refine⟨_,rfl,zwg (tb:=4) laidOut ?_ (by kernel_rfl) (by kernel_rfl) rfl rfl hW' hb⟩
 intro t ht
 have hm:t∈[30,34,35,5,5,59]:=by rw[Tryz.params5]at ht;simpa using ht
 have hall:([30,34,35,5,5,59].all fun u=>Tryz.prog.readableRec u&&decide (u<Tryz.prog.types.size))=true:=by kernel_rfl
 have:=List.all_eq_true.1 hall t hm
 simp only[Bool.and_eq_true,decide_eq_true_eq]at this
 exact this
set_option maxRecDepth 100000 in
theorem lifted(os:Os)(started:os.Started)(H:Type)(enc:TypeId×Value→H):
 ReturnsInHanded {} Tryz.checked os 5 .any (fun w args=>(Rows.amortizedNoneSpec.pre enc Tryz.prog Tryz.f5 Rows.amortizedNoneRow.domain false w args∧laidMetH Tryz.prog Rows.amortizedNoneRow.laid w)∧sizedMet enc Tryz.prog Tryz.f5 (OpenSpec.ofChange Rows.amortizedNoneSpec) false w args)
  (Rows.amortizedNoneSpec.post enc Tryz.prog Tryz.f5 false true false false):=by
 refine zq7 (C:=Tryz.checked) (X:=fun w _=>laidMetH Tryz.prog Rows.amortizedNoneRow.laid w) (fun _ _ _ hh h=>h.of_heap hh) own started (by kernel_rfl) Tryz.func5
  (ChangeSpec.witness_shaped (enc:=enc) (C:=Tryz.checked) (os:=os) (X:=fun w _=>laidMetH Tryz.prog Rows.amortizedNoneRow.laid w) false (World.laidAll Tryz.prog os Rows.amortizedNoneRow.laid) #[.agg #[.string ⟨#[]⟩,.slice none 0 0,.slice none 0 0,.slice none 0 0,.slice none 0 0,.slice none 0 0,.slice none 0 0,.slice none 0 0],.agg #[.slice none 0 0,.slice none 0 0],.slice none 0 0,.int .u8 0,.int .u8 0,.slice none 0 0] 8 (World.laidAll_os _ _ _)
    (World.shaped_of_ZipB (by kernel_rfl) (by kernel_rfl)) (by kernel_rfl) (by kernel_rfl) (by kernel_rfl)
    (by rw[MakeChecks.laidMetH_plain _ _ _ (by kernel_rfl)];exact laidMet_laidAll _ (by kernel_rfl) (by kernel_rfl))) ?_
 intro W base args ds gs before hval hW hL hSh
 exact contract H enc W base args ds gs before hval hW hL hSh
theorem and_of{a b:Bool}(ha:a=true)(hb:b=true):(a&&b)=true:=by rw[ha,hb];rfl
set_option maxHeartbeats 20000000 in
set_option maxRecDepth 100000 in
theorem facts:joinedFacts Tryz.prog 5 Tryz.f5 Rows.amortizedNoneSpec Rows.amortizedNoneRow=true:=by
 unfold joinedFacts
 refine(and_of (and_of (and_of (and_of (and_of (and_of (and_of (and_of (and_of (and_of (and_of (and_of (and_of (and_of (and_of (and_of (and_of (and_of (and_of (and_of (and_of (and_of (and_of (and_of (and_of (and_of (and_of (and_of (and_of (and_of (and_of (and_of ?_ ?_) ?_) ?_) ?_) ?_) ?_) ?_) ?_) ?_) ?_) ?_) ?_) ?_) ?_) ?_) ?_) ?_) ?_) ?_) ?_) ?_) ?_) ?_) ?_) ?_) ?_) ?_) ?_) ?_) ?_) ?_) ?_)
 all_goals (as_aux_lemma=>kernel_rfl)
theorem instFact:Tryz.f5.isInstance Tryz.prog Rows.amortizedNoneRow.origin Rows.amortizedNoneRow.targs:=of_decide_eq_true (by kernel_rfl)
theorem wrapFact:Tryz.f5.isWrapper Tryz.prog Rows.amortizedNoneRow.wrapper Rows.amortizedNoneRow.mainSum:=by unfold Func.isWrapper;first|(rw[if_pos (by decide+kernel)];kernel_rfl)|(rw[if_neg (by decide+kernel)];exact⟨rfl,rfl⟩)
theorem preFact(H:Type)(enc:TypeId×Value→H):Rows.amortizedNoneRow.pre enc Tryz.prog Tryz.f5 (OpenSpec.ofChange Rows.amortizedNoneSpec)=fun w args=>(Rows.amortizedNoneSpec.pre enc Tryz.prog Tryz.f5 Rows.amortizedNoneRow.domain false w args∧laidMetH Tryz.prog Rows.amortizedNoneRow.laid w)∧sizedMet enc Tryz.prog Tryz.f5 (OpenSpec.ofChange Rows.amortizedNoneSpec) false w args:=
 OpenClaim.pre_eq_preRow _ _ _ _
theorem said:Rows.AmortizedNoneSaid:=
 OpenClaim.holds_of_wide 5 Tryz.f5 rfl rfl rfl rfl rfl rfl rfl ⟨rfl,rfl,rfl,rfl,rfl⟩ rfl rfl rfl rfl rfl (by kernel_rfl) Tryz.func5 facts instFact wrapFact
  (fun os started H enc _=>by rw[show Tryz.pinned.checked.prog=Tryz.prog from rfl,preFact];exact lifted os started H enc)
theorem plain(f:FuncId)(fn:Func)(hf:Tryz.pinned.checked.prog.funcNamed "heartwood/heartwoodlaw23.AmortizedNone" =some f)(hfn:Tryz.pinned.checked.prog.funcs[f]?=some fn):
 true=Tryz.pinned.checked.prog.looks []∧ ∀(j:Nat) t,fn.params[j]?=some t→Tryz.pinned.checked.prog.wantsStandIn t=false:=by
 obtain rfl:f=5:=Option.some.inj ((show Tryz.prog.funcNamed "heartwood/heartwoodlaw23.AmortizedNone" =some 5 by kernel_rfl).symm.trans hf) |>.symm
 obtain rfl:fn=Tryz.f5:=(Option.some.inj (Tryz.func5.symm.trans hfn)).symm
 refine⟨by kernel_rfl,fun j t ht=>?_⟩
 rw[Tryz.params5]at ht
 have hm:t∈[30,34,35,5,5,59]:=by simpa using Array.mem_of_getElem? ht
 have hall:([30,34,35,5,5,59].all fun u=> !Tryz.prog.wantsStandIn u)=true:=by kernel_rfl
 exact(show Tryz.prog.wantsStandIn t=false by simpa using List.all_eq_true.1 hall t hm)
end Go.Proofs.YtolghpfockkldaaGreatDoor.AmortizedNoneP