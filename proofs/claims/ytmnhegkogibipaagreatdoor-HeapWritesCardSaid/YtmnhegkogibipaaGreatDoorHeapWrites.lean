/- HeapWrites: the row and its tied card, from the function's contract. -/
import Derived.Test.YtmnhegkogibipaaGreatDoorC14
import Derived.Test.YtmnhegkogibipaaGreatDoorC1
import Derived.Test.YtmnhegkogibipaaGreatDoorE3
import Derived.Test.YtmnhegkogibipaaGreatDoorTie
import Derived.Test.YtmnhegkogibipaaGreatDoorCards
import Derived.ProofKit
import Derived.LaidMore
import Derived.Lay
import Derived.SevenTiedAt
import Derived.Stop.Joined
set_option linter.unusedVariables false
set_option linter.unusedSimpArgs false
namespace Go.Proofs.YtmnhegkogibipaaGreatDoor.HeapWritesP
open Go Go.ChangeShapes Go.WideShapes Go.ChangeAt Go.RowKit Hw Hw.M Hw.Z
theorem own : ownKnob Tryz.prog.godebug = none := by kernel_rfl
theorem laidOut : laidOutB Tryz.prog = true := by kernel_rfl
def spZ : List Int := (List.range 256).map fun o => if Lib.isSp (UInt8.ofNat o) then 1 else 0
theorem spData : (Rows.laid_strings_asciiSpace : DataW Unit) = Lib.tabData .u8 spZ := by kernel_rfl
theorem table {W : World} (h : laidMetH Tryz.prog Rows.heapWritesRow.laid W) : MLe G0 (memOf W) := by
  rw [MakeChecks.laidMetH_plain _ _ _ (by kernel_rfl)] at h
  have h2 : laidMet Tryz.prog (("strings.asciiSpace", Lib.tabData .u8 spZ) :: []) W := by
    rw [← spData]
    exact laid_tail h
  have ht := Lib.tabIs_of_head (g := 1) (t := 286) (e := 5) (n := 256) (by kernel_rfl) (by kernel_rfl) (by kernel_rfl) (by kernel_rfl) (by kernel_rfl) (by kernel_rfl) h2
  intro b o v hv
  unfold G0 at hv
  split at hv
  · rename_i e
    have e' := Nat.eq_of_beq_eq_true e
    subst e'
    split at hv
    · rename_i ho
      simp only [Option.some.injEq] at hv
      subst hv
      have hl : o < spZ.length := by simp [spZ, ho]
      have hc := ht.cell (g := 1) (by kernel_rfl) o hl
      unfold memOf
      rw [hc]
      simp [spZ, List.getD, ho]
    · cases hv
  · cases hv
theorem open_ok {W : World} (h : laidMetH Tryz.prog Rows.heapWritesRow.laid W) (hSh : W.ShapedOpen Tryz.prog) : GOk (memOf W) W := by
  refine ⟨table h, fun b hb => ?_, fun p hp => by cases hp⟩
  cases hb
set_option maxRecDepth 100000 in
theorem contract (H : Type) (enc : TypeId × Value → H) (W : World) (base : Nat) (args : Array Value) (ds gs : List (DataW H)) (before : List MemPlace)
    (hval : ∀ (j : Nat) t v, Tryz.f6.params[j]? = some t → args[j]? = some v → Value.okWide Tryz.prog W .any base t v)
    (hW : DataW.Whole enc Tryz.prog Tryz.f6.params.toList Rows.heapWritesSpec.vars false W args.toList ds gs before) (hL : laidMetH Tryz.prog Rows.heapWritesRow.laid W) (hSh : W.ShapedOpen Tryz.prog) :
    Calls Tryz.prog 6 args W fun e W' => ∃ v, e = .returned v ∧ Rows.heapWritesSpec.post enc Tryz.prog Tryz.f6 false true false false W args v W' := by
  have hW' := hW
  obtain ⟨p, q, hA0, hV, rfl, _, _⟩ := hW
  have hA : DataW.TrodAll enc Tryz.prog W 0 (fun _ => true) true Tryz.f6.params.toList args.toList ds p := hA0
  rw [Tryz.params6] at hA hval
  obtain ⟨v0, vs0, d0, ds0, p0, q0, hargs, rfl, rfl, h0, r0⟩ := trodAll_cons hA
  obtain ⟨v1, vs1, d1, ds1, p1, q1, rfl, rfl, rfl, h1, r1⟩ := trodAll_cons r0
  obtain ⟨v2, vs2, d2, ds2, p2, q2, rfl, rfl, rfl, h2, r2⟩ := trodAll_cons r1
  obtain ⟨v3, vs3, d3, ds3, p3, q3, rfl, rfl, rfl, h3, r3⟩ := trodAll_cons r2
  obtain ⟨v4, vs4, d4, ds4, p4, q4, rfl, rfl, rfl, h4, r4⟩ := trodAll_cons r3
  obtain ⟨v5, vs5, d5, ds5, p5, q5, rfl, rfl, rfl, h5, r5⟩ := trodAll_cons r4
  obtain ⟨v6, vs6, d6, ds6, p6, q6, rfl, rfl, rfl, h6, r6⟩ := trodAll_cons r5
  obtain ⟨rfl, rfl, rfl⟩ := trodAll_nil r6
  obtain ⟨rfl, rfl⟩ := trodVars_none hV
  obtain rfl : args = #[v0, v1, v2, v3, v4, v5, v6] := by cases args; simp_all
  have e0 : Value.okWide Tryz.prog W .any base 30 v0 := by apply hval 0 <;> simp
  obtain ⟨a0, s0⟩ := rs_agg (ρ := fun _ => undef) (l := [(9, 1), (22, 1), (23, 1), (24, 1), (25, 1), (26, 1), (27, 1), (28, 1)]) (by kernel_rfl) e0 rd_desc h0
  have e1 : Value.okWide Tryz.prog W .any base 34 v1 := by apply hval 1 <;> simp
  obtain ⟨a1, s1⟩ := rs_agg (ρ := fun _ => undef) (l := [(31, 1), (32, 1)]) (by kernel_rfl) e1 rd_mem h1
  have e2 : Value.okWide Tryz.prog W .any base 3 v2 := by apply hval 2 <;> simp
  obtain ⟨a2, w2, s2⟩ := rs_int (ρ := fun _ => undef) (k := .i64) (by kernel_rfl) e2 h2
  have e3 : Value.okWide Tryz.prog W .any base 3 v3 := by apply hval 3 <;> simp
  obtain ⟨a3, w3, s3⟩ := rs_int (ρ := fun _ => undef) (k := .i64) (by kernel_rfl) e3 h3
  have e4 : Value.okWide Tryz.prog W .any base 3 v4 := by apply hval 4 <;> simp
  obtain ⟨a4, w4, s4⟩ := rs_int (ρ := fun _ => undef) (k := .i64) (by kernel_rfl) e4 h4
  have e5 : Value.okWide Tryz.prog W .any base 3 v5 := by apply hval 5 <;> simp
  obtain ⟨a5, w5, s5⟩ := rs_int (ρ := fun _ => undef) (k := .i64) (by kernel_rfl) e5 h5
  have e6 : Value.okWide Tryz.prog W .any base 3 v6 := by apply hval 6 <;> simp
  obtain ⟨a6, w6, s6⟩ := rs_int (ρ := fun _ => undef) (k := .i64) (by kernel_rfl) e6 h6
  refine (call_true (heapWrites_ok a0 a1 a2 a3 a4 a5 a6) (open_ok hL hSh) (args := #[v0, v1, v2, v3, v4, v5, v6]) ⟨s0, s1, s2, s3, s4, s5, s6, trivial⟩).mono fun e W' ⟨he, hb⟩ => ?_
  subst he
  refine ⟨_, rfl, post_true (tb := 4) laidOut ?_ (by kernel_rfl) (by kernel_rfl) rfl rfl hW' hb⟩
  intro t ht
  have hm : t ∈ [30, 34, 3, 3, 3, 3, 3] := by rw [Tryz.params6] at ht; simpa using ht
  have hall : ([30, 34, 3, 3, 3, 3, 3].all fun u => Tryz.prog.readableRec u && decide (u < Tryz.prog.types.size)) = true := by kernel_rfl
  have := List.all_eq_true.1 hall t hm
  simp only [Bool.and_eq_true, decide_eq_true_eq] at this
  exact this

set_option maxRecDepth 100000 in
theorem lifted (os : Os) (started : os.Started) (H : Type) (enc : TypeId × Value → H) :
    ReturnsInHanded {} Tryz.checked os 6 .any (fun w args => (Rows.heapWritesSpec.pre enc Tryz.prog Tryz.f6 Rows.heapWritesRow.domain false w args ∧ laidMetH Tryz.prog Rows.heapWritesRow.laid w) ∧ sizedMet enc Tryz.prog Tryz.f6 (OpenSpec.ofChange Rows.heapWritesSpec) false w args)
      (Rows.heapWritesSpec.post enc Tryz.prog Tryz.f6 false true false false) := by
  refine returns_kept (C := Tryz.checked) (X := fun w _ => laidMetH Tryz.prog Rows.heapWritesRow.laid w) (fun _ _ _ hh h => h.of_heap hh) own started (by kernel_rfl) Tryz.func6
    (ChangeSpec.witness_shaped (enc := enc) (C := Tryz.checked) (os := os) (X := fun w _ => laidMetH Tryz.prog Rows.heapWritesRow.laid w) false (World.laidAll Tryz.prog os Rows.heapWritesRow.laid) #[.agg #[.string ⟨#[]⟩, .slice none 0 0, .slice none 0 0, .slice none 0 0, .slice none 0 0, .slice none 0 0, .slice none 0 0, .slice none 0 0], .agg #[.slice none 0 0, .slice none 0 0], .int .i64 0, .int .i64 0, .int .i64 0, .int .i64 0, .int .i64 0] 8 (World.laidAll_os _ _ _)
      (World.shaped_of_ZipB (by kernel_rfl) (by kernel_rfl)) (by kernel_rfl) (by kernel_rfl) (by kernel_rfl)
      (by rw [MakeChecks.laidMetH_plain _ _ _ (by kernel_rfl)]; exact laidMet_laidAll _ (by kernel_rfl) (by kernel_rfl))) ?_
  intro W base args ds gs before hval hW hL hSh
  exact contract H enc W base args ds gs before hval hW hL hSh

theorem and_of {a b : Bool} (ha : a = true) (hb : b = true) : (a && b) = true := by rw [ha, hb]; rfl
set_option maxHeartbeats 20000000 in
set_option maxRecDepth 100000 in
theorem facts : joinedFacts Tryz.prog 6 Tryz.f6 Rows.heapWritesSpec Rows.heapWritesRow = true := by
  unfold joinedFacts
  refine (and_of (and_of (and_of (and_of (and_of (and_of (and_of (and_of (and_of (and_of (and_of (and_of (and_of (and_of (and_of (and_of (and_of (and_of (and_of (and_of (and_of (and_of (and_of (and_of (and_of (and_of (and_of (and_of (and_of (and_of (and_of (and_of ?_ ?_) ?_) ?_) ?_) ?_) ?_) ?_) ?_) ?_) ?_) ?_) ?_) ?_) ?_) ?_) ?_) ?_) ?_) ?_) ?_) ?_) ?_) ?_) ?_) ?_) ?_) ?_) ?_) ?_) ?_) ?_) ?_)
  all_goals (as_aux_lemma => kernel_rfl)
theorem instFact : Tryz.f6.isInstance Tryz.prog Rows.heapWritesRow.origin Rows.heapWritesRow.targs := of_decide_eq_true (by kernel_rfl)
theorem wrapFact : Tryz.f6.isWrapper Tryz.prog Rows.heapWritesRow.wrapper Rows.heapWritesRow.mainSum := by unfold Func.isWrapper; first | (rw [if_pos (by decide +kernel)]; kernel_rfl) | (rw [if_neg (by decide +kernel)]; exact ⟨rfl, rfl⟩)
theorem preFact (H : Type) (enc : TypeId × Value → H) : Rows.heapWritesRow.pre enc Tryz.prog Tryz.f6 (OpenSpec.ofChange Rows.heapWritesSpec) = fun w args => (Rows.heapWritesSpec.pre enc Tryz.prog Tryz.f6 Rows.heapWritesRow.domain false w args ∧ laidMetH Tryz.prog Rows.heapWritesRow.laid w) ∧ sizedMet enc Tryz.prog Tryz.f6 (OpenSpec.ofChange Rows.heapWritesSpec) false w args :=
  OpenClaim.pre_eq_preRow _ _ _ _

theorem said : Rows.HeapWritesSaid :=
  OpenClaim.holds_of_wide 6 Tryz.f6 rfl rfl rfl rfl rfl rfl rfl ⟨rfl, rfl, rfl, rfl, rfl⟩ rfl rfl rfl rfl rfl (by kernel_rfl) Tryz.func6 facts instFact wrapFact
    (fun os started H enc _ => by rw [show Tryz.pinned.checked.prog = Tryz.prog from rfl, preFact]; exact lifted os started H enc)

theorem plain (f : FuncId) (fn : Func) (hf : Tryz.pinned.checked.prog.funcNamed "heartwood/heartwoodlaw12.HeapWrites" = some f) (hfn : Tryz.pinned.checked.prog.funcs[f]? = some fn) :
    false = Tryz.pinned.checked.prog.looks [] ∧ ∀ (j : Nat) t, fn.params[j]? = some t → Tryz.pinned.checked.prog.wantsStandIn t = false := by
  obtain rfl : f = 6 := Option.some.inj ((show Tryz.prog.funcNamed "heartwood/heartwoodlaw12.HeapWrites" = some 6 by kernel_rfl).symm.trans hf) |>.symm
  obtain rfl : fn = Tryz.f6 := (Option.some.inj (Tryz.func6.symm.trans hfn)).symm
  refine ⟨by kernel_rfl, fun j t ht => ?_⟩
  rw [Tryz.params6] at ht
  have hm : t ∈ [30, 34, 3, 3, 3, 3, 3] := by simpa using Array.mem_of_getElem? ht
  have hall : ([30, 34, 3, 3, 3, 3, 3].all fun u => !Tryz.prog.wantsStandIn u) = true := by kernel_rfl
  exact (show Tryz.prog.wantsStandIn t = false by simpa using List.all_eq_true.1 hall t hm)

/-- The card. -/
theorem card : Rows.HeapWritesCardSaid :=
  Claim7.holds_tied_plain_at .later [] [.listed, .data] true (true, "7439f9dfa9b91c7a5d400fd7a1f6b0f172f8a9675cb6e38ffb91c215a879b887") false said (fun _ h => by cases h) (by kernel_rfl) (fun _ h => by cases h) heapWrites_row_tie rfl ⟨rfl, rfl⟩ (by kernel_rfl) rfl plain (by kernel_rfl)
end Go.Proofs.YtmnhegkogibipaaGreatDoor.HeapWritesP
