/- ModelSets: the row, from the function's contract. -/
import Derived.Test.YtnijeifpjjeccaaC16
import Derived.Test.YtnijeifpjjeccaaC17
import Derived.Test.YtnijeifpjjeccaaE3
import Derived.Test.YtnijeifpjjeccaaRows
import Derived.ProofKit
import Derived.LaidMore
import Derived.Lay
import Derived.SevenTiedAt
import Derived.Stop.Joined
set_option linter.unusedVariables false
set_option linter.unusedSimpArgs false
namespace Go.Proofs.Ytnijeifpjjeccaa.ModelSetsP
open Go Go.ChangeShapes Go.WideShapes Go.ChangeAt Go.RowKit Hw Hw.M Hw.Mo
theorem own : ownKnob Try.prog.godebug = none := by kernel_rfl
theorem laidOut : laidOutB Try.prog = true := by kernel_rfl
theorem table {W : World} (_ : laidMetH Try.prog Rows.modelSetsRow.laid W) : MLe G0 (memOf W) := fun b o v hv => by cases hv
theorem open_ok {W : World} (h : laidMetH Try.prog Rows.modelSetsRow.laid W) (hSh : W.ShapedOpen Try.prog) : GOk (memOf W) W := by
  refine ⟨table h, fun b hb => ?_, fun b hb => (by cases hb), fun p hp => (by cases hp)⟩
  cases hb
set_option maxRecDepth 100000 in
theorem contract (H : Type) (enc : TypeId × Value → H) (W : World) (base : Nat) (args : Array Value) (ds gs : List (DataW H)) (before : List MemPlace)
    (hval : ∀ (j : Nat) t v, Try.f6.params[j]? = some t → args[j]? = some v → Value.okWide Try.prog W .any base t v)
    (hW : DataW.Whole enc Try.prog Try.f6.params.toList Rows.modelSetsSpec.vars false W args.toList ds gs before) (hL : laidMetH Try.prog Rows.modelSetsRow.laid W) (hSh : W.ShapedOpen Try.prog) :
    Calls Try.prog 6 args W fun e W' => ∃ v, e = .returned v ∧ Rows.modelSetsSpec.post enc Try.prog Try.f6 false true false false W args v W' := by
  have hW' := hW
  obtain ⟨p, q, hA0, hV, rfl, _, _⟩ := hW
  have hA : DataW.TrodAll enc Try.prog W 0 (fun _ => true) true Try.f6.params.toList args.toList ds p := hA0
  rw [Try.params6] at hA hval
  obtain ⟨v0, vs0, d0, ds0, p0, q0, hargs, rfl, rfl, h0, r0⟩ := trodAll_cons hA
  obtain ⟨v1, vs1, d1, ds1, p1, q1, rfl, rfl, rfl, h1, r1⟩ := trodAll_cons r0
  obtain ⟨rfl, rfl, rfl⟩ := trodAll_nil r1
  obtain ⟨rfl, rfl⟩ := trodVars_none hV
  obtain rfl : args = #[v0, v1] := by cases args; simp_all
  have e0 : Value.okWide Try.prog W .any base 5 v0 := by apply hval 0 <;> simp
  obtain ⟨b0, w0, s0⟩ := rs_int (ρ := fun _ => undef) (k := .u8) (by kernel_rfl) e0 h0
  obtain ⟨a0, rfl⟩ : ∃ x : U8, b0 = x.1 := ⟨⟨b0, u8_wf w0⟩, rfl⟩
  have e1 : Value.okWide Try.prog W .any base 54 v1 := by apply hval 1 <;> simp
  obtain ⟨a1, s1⟩ := rs_slice (ρ := fun _ => undef) (e := 55) (c := 2) (R := pairR) (by kernel_rfl) e1 rd_pairs h1
  refine (call_true (modelSets_row a0 a1) (open_ok hL hSh) (args := #[v0, v1]) ⟨s0, s1, trivial⟩).mono fun e W' ⟨he, hb⟩ => ?_
  subst he
  refine ⟨_, rfl, post_true (tb := 4) laidOut ?_ (by kernel_rfl) (by kernel_rfl) rfl rfl hW' hb⟩
  intro t ht
  have hm : t ∈ [5, 54] := by rw [Try.params6] at ht; simpa using ht
  have hall : ([5, 54].all fun u => Try.prog.readableRec u && decide (u < Try.prog.types.size)) = true := by kernel_rfl
  have := List.all_eq_true.1 hall t hm
  simp only [Bool.and_eq_true, decide_eq_true_eq] at this
  exact this

set_option maxRecDepth 100000 in
theorem lifted (os : Os) (started : os.Started) (H : Type) (enc : TypeId × Value → H) :
    ReturnsInHanded {} Try.checked os 6 .any (fun w args => (Rows.modelSetsSpec.pre enc Try.prog Try.f6 Rows.modelSetsRow.domain false w args ∧ laidMetH Try.prog Rows.modelSetsRow.laid w) ∧ sizedMet enc Try.prog Try.f6 (OpenSpec.ofChange Rows.modelSetsSpec) false w args)
      (Rows.modelSetsSpec.post enc Try.prog Try.f6 false true false false) := by
  refine returns_kept (C := Try.checked) (X := fun w _ => laidMetH Try.prog Rows.modelSetsRow.laid w) (fun _ _ _ hh h => h.of_heap hh) own started (by kernel_rfl) Try.func6
    (ChangeSpec.witness_shaped (enc := enc) (C := Try.checked) (os := os) (X := fun w _ => laidMetH Try.prog Rows.modelSetsRow.laid w) false (World.laidAll Try.prog os Rows.modelSetsRow.laid) #[.int .u8 0, .slice none 0 0] 8 (World.laidAll_os _ _ _)
      (World.shaped_of_ZipB (by kernel_rfl) (by kernel_rfl)) (by kernel_rfl) (by kernel_rfl) (by kernel_rfl)
      (by rw [MakeChecks.laidMetH_plain _ _ _ (by kernel_rfl)]; exact laidMet_laidAll _ (by kernel_rfl) (by kernel_rfl))) ?_
  intro W base args ds gs before hval hW hL hSh
  exact contract H enc W base args ds gs before hval hW hL hSh

theorem and_of {a b : Bool} (ha : a = true) (hb : b = true) : (a && b) = true := by rw [ha, hb]; rfl
set_option maxHeartbeats 20000000 in
set_option maxRecDepth 100000 in
theorem facts : joinedFacts Try.prog 6 Try.f6 Rows.modelSetsSpec Rows.modelSetsRow = true := by
  unfold joinedFacts
  refine (and_of (and_of (and_of (and_of (and_of (and_of (and_of (and_of (and_of (and_of (and_of (and_of (and_of (and_of (and_of (and_of (and_of (and_of (and_of (and_of (and_of (and_of (and_of (and_of (and_of (and_of (and_of (and_of (and_of (and_of (and_of (and_of ?_ ?_) ?_) ?_) ?_) ?_) ?_) ?_) ?_) ?_) ?_) ?_) ?_) ?_) ?_) ?_) ?_) ?_) ?_) ?_) ?_) ?_) ?_) ?_) ?_) ?_) ?_) ?_) ?_) ?_) ?_) ?_) ?_)
  all_goals (as_aux_lemma => kernel_rfl)
theorem instFact : Try.f6.isInstance Try.prog Rows.modelSetsRow.origin Rows.modelSetsRow.targs := of_decide_eq_true (by kernel_rfl)
theorem wrapFact : Try.f6.isWrapper Try.prog Rows.modelSetsRow.wrapper Rows.modelSetsRow.mainSum := by unfold Func.isWrapper; first | (rw [if_pos (by decide +kernel)]; kernel_rfl) | (rw [if_neg (by decide +kernel)]; exact ⟨rfl, rfl⟩)
theorem preFact (H : Type) (enc : TypeId × Value → H) : Rows.modelSetsRow.pre enc Try.prog Try.f6 (OpenSpec.ofChange Rows.modelSetsSpec) = fun w args => (Rows.modelSetsSpec.pre enc Try.prog Try.f6 Rows.modelSetsRow.domain false w args ∧ laidMetH Try.prog Rows.modelSetsRow.laid w) ∧ sizedMet enc Try.prog Try.f6 (OpenSpec.ofChange Rows.modelSetsSpec) false w args :=
  OpenClaim.pre_eq_preRow _ _ _ _

theorem said : Rows.ModelSetsSaid :=
  OpenClaim.holds_of_wide 6 Try.f6 rfl rfl rfl rfl rfl rfl rfl ⟨rfl, rfl, rfl, rfl, rfl⟩ rfl rfl rfl rfl rfl (by kernel_rfl) Try.func6 facts instFact wrapFact
    (fun os started H enc _ => by rw [show Try.pinned.checked.prog = Try.prog from rfl, preFact]; exact lifted os started H enc)

end Go.Proofs.Ytnijeifpjjeccaa.ModelSetsP
