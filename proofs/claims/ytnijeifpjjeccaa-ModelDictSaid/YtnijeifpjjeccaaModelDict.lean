/- ModelDict: the row, from the function's contract. -/
import Derived.Test.YtnijeifpjjeccaaC15
import Derived.Test.YtnijeifpjjeccaaC16
import Derived.Test.YtnijeifpjjeccaaE3
import Derived.Test.YtnijeifpjjeccaaRows
import Derived.ProofKit
import Derived.LaidMore
import Derived.Lay
import Derived.SevenTiedAt
import Derived.Stop.Joined
set_option linter.unusedVariables false
set_option linter.unusedSimpArgs false
namespace Go.Proofs.Ytnijeifpjjeccaa.ModelDictP
open Go Go.ChangeShapes Go.WideShapes Go.ChangeAt Go.RowKit Hw Hw.M Hw.Mo
theorem own : ownKnob Try.prog.godebug = none := by kernel_rfl
theorem laidOut : laidOutB Try.prog = true := by kernel_rfl
theorem table {W : World} (_ : laidMetH Try.prog Rows.modelDictRow.laid W) : MLe G0 (memOf W) := fun b o v hv => by cases hv
theorem open_ok {W : World} (h : laidMetH Try.prog Rows.modelDictRow.laid W) (hSh : W.ShapedOpen Try.prog) : GOk (memOf W) W := by
  refine ⟨table h, fun b hb => ?_, fun b hb => (by cases hb), fun p hp => (by cases hp)⟩
  cases hb
set_option maxRecDepth 100000 in
theorem contract (H : Type) (enc : TypeId × Value → H) (W : World) (base : Nat) (args : Array Value) (ds gs : List (DataW H)) (before : List MemPlace)
    (hval : ∀ (j : Nat) t v, Try.f3.params[j]? = some t → args[j]? = some v → Value.okWide Try.prog W .any base t v)
    (hW : DataW.Whole enc Try.prog Try.f3.params.toList Rows.modelDictSpec.vars false W args.toList ds gs before) (hL : laidMetH Try.prog Rows.modelDictRow.laid W) (hSh : W.ShapedOpen Try.prog) :
    Calls Try.prog 3 args W fun e W' => ∃ v, e = .returned v ∧ Rows.modelDictSpec.post enc Try.prog Try.f3 false true false false W args v W' := by
  have hW' := hW
  obtain ⟨p, q, hA0, hV, rfl, _, _⟩ := hW
  have hA : DataW.TrodAll enc Try.prog W 0 (fun _ => true) true Try.f3.params.toList args.toList ds p := hA0
  rw [Try.params3] at hA hval
  obtain ⟨v0, vs0, d0, ds0, p0, q0, hargs, rfl, rfl, h0, r0⟩ := trodAll_cons hA
  obtain ⟨v1, vs1, d1, ds1, p1, q1, rfl, rfl, rfl, h1, r1⟩ := trodAll_cons r0
  obtain ⟨v2, vs2, d2, ds2, p2, q2, rfl, rfl, rfl, h2, r2⟩ := trodAll_cons r1
  obtain ⟨rfl, rfl, rfl⟩ := trodAll_nil r2
  obtain ⟨rfl, rfl⟩ := trodVars_none hV
  obtain rfl : args = #[v0, v1, v2] := by cases args; simp_all
  have e0 : Value.okWide Try.prog W .any base 22 v0 := by apply hval 0 <;> simp
  obtain ⟨a0, s0⟩ := rs_slice (ρ := fun _ => undef) (e := 46) (c := 2) (R := opR) (by kernel_rfl) e0 rd_ops h0
  have e1 : Value.okWide Try.prog W .any base 23 v1 := by apply hval 1 <;> simp
  obtain ⟨b1, w1, s1⟩ := rs_int (ρ := fun _ => undef) (k := .u16) (by kernel_rfl) e1 h1
  obtain ⟨a1, rfl⟩ : ∃ x : U16, b1 = x.1 := ⟨⟨b1, u16_wf w1⟩, rfl⟩
  have e2 : Value.okWide Try.prog W .any base 24 v2 := by apply hval 2 <;> simp
  obtain ⟨b2, w2, s2⟩ := rs_int (ρ := fun _ => undef) (k := .i16) (by kernel_rfl) e2 h2
  obtain ⟨a2, rfl⟩ : ∃ x : I16, b2 = x.1 := ⟨⟨b2, i16_wf w2⟩, rfl⟩
  refine (call_true (modelDict_row a0 a1 a2) (open_ok hL hSh) (args := #[v0, v1, v2]) ⟨s0, s1, s2, trivial⟩).mono fun e W' ⟨he, hb⟩ => ?_
  subst he
  refine ⟨_, rfl, post_true (tb := 4) laidOut ?_ (by kernel_rfl) (by kernel_rfl) rfl rfl hW' hb⟩
  intro t ht
  have hm : t ∈ [22, 23, 24] := by rw [Try.params3] at ht; simpa using ht
  have hall : ([22, 23, 24].all fun u => Try.prog.readableRec u && decide (u < Try.prog.types.size)) = true := by kernel_rfl
  have := List.all_eq_true.1 hall t hm
  simp only [Bool.and_eq_true, decide_eq_true_eq] at this
  exact this

set_option maxRecDepth 100000 in
theorem lifted (os : Os) (started : os.Started) (H : Type) (enc : TypeId × Value → H) :
    ReturnsInHanded {} Try.checked os 3 .any (fun w args => (Rows.modelDictSpec.pre enc Try.prog Try.f3 Rows.modelDictRow.domain false w args ∧ laidMetH Try.prog Rows.modelDictRow.laid w) ∧ sizedMet enc Try.prog Try.f3 (OpenSpec.ofChange Rows.modelDictSpec) false w args)
      (Rows.modelDictSpec.post enc Try.prog Try.f3 false true false false) := by
  refine returns_kept (C := Try.checked) (X := fun w _ => laidMetH Try.prog Rows.modelDictRow.laid w) (fun _ _ _ hh h => h.of_heap hh) own started (by kernel_rfl) Try.func3
    (ChangeSpec.witness_shaped (enc := enc) (C := Try.checked) (os := os) (X := fun w _ => laidMetH Try.prog Rows.modelDictRow.laid w) false (World.laidAll Try.prog os Rows.modelDictRow.laid) #[.slice none 0 0, .int .u16 0, .int .i16 0] 8 (World.laidAll_os _ _ _)
      (World.shaped_of_ZipB (by kernel_rfl) (by kernel_rfl)) (by kernel_rfl) (by kernel_rfl) (by kernel_rfl)
      (by rw [MakeChecks.laidMetH_plain _ _ _ (by kernel_rfl)]; exact laidMet_laidAll _ (by kernel_rfl) (by kernel_rfl))) ?_
  intro W base args ds gs before hval hW hL hSh
  exact contract H enc W base args ds gs before hval hW hL hSh

theorem and_of {a b : Bool} (ha : a = true) (hb : b = true) : (a && b) = true := by rw [ha, hb]; rfl
set_option maxHeartbeats 20000000 in
set_option maxRecDepth 100000 in
theorem facts : joinedFacts Try.prog 3 Try.f3 Rows.modelDictSpec Rows.modelDictRow = true := by
  unfold joinedFacts
  refine (and_of (and_of (and_of (and_of (and_of (and_of (and_of (and_of (and_of (and_of (and_of (and_of (and_of (and_of (and_of (and_of (and_of (and_of (and_of (and_of (and_of (and_of (and_of (and_of (and_of (and_of (and_of (and_of (and_of (and_of (and_of (and_of ?_ ?_) ?_) ?_) ?_) ?_) ?_) ?_) ?_) ?_) ?_) ?_) ?_) ?_) ?_) ?_) ?_) ?_) ?_) ?_) ?_) ?_) ?_) ?_) ?_) ?_) ?_) ?_) ?_) ?_) ?_) ?_) ?_)
  all_goals (as_aux_lemma => kernel_rfl)
theorem instFact : Try.f3.isInstance Try.prog Rows.modelDictRow.origin Rows.modelDictRow.targs := of_decide_eq_true (by kernel_rfl)
theorem wrapFact : Try.f3.isWrapper Try.prog Rows.modelDictRow.wrapper Rows.modelDictRow.mainSum := by unfold Func.isWrapper; first | (rw [if_pos (by decide +kernel)]; kernel_rfl) | (rw [if_neg (by decide +kernel)]; exact ⟨rfl, rfl⟩)
theorem preFact (H : Type) (enc : TypeId × Value → H) : Rows.modelDictRow.pre enc Try.prog Try.f3 (OpenSpec.ofChange Rows.modelDictSpec) = fun w args => (Rows.modelDictSpec.pre enc Try.prog Try.f3 Rows.modelDictRow.domain false w args ∧ laidMetH Try.prog Rows.modelDictRow.laid w) ∧ sizedMet enc Try.prog Try.f3 (OpenSpec.ofChange Rows.modelDictSpec) false w args :=
  OpenClaim.pre_eq_preRow _ _ _ _

theorem said : Rows.ModelDictSaid :=
  OpenClaim.holds_of_wide 3 Try.f3 rfl rfl rfl rfl rfl rfl rfl ⟨rfl, rfl, rfl, rfl, rfl⟩ rfl rfl rfl rfl rfl (by kernel_rfl) Try.func3 facts instFact wrapFact
    (fun os started H enc _ => by rw [show Try.pinned.checked.prog = Try.prog from rfl, preFact]; exact lifted os started H enc)

end Go.Proofs.Ytnijeifpjjeccaa.ModelDictP
