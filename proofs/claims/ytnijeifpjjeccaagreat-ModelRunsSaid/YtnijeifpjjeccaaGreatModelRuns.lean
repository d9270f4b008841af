/- ModelRuns: the row, from the function's contract. -/
import Derived.Test.YtnijeifpjjeccaaGreatC20
import Derived.Test.YtnijeifpjjeccaaGreatC21
import Derived.Test.YtnijeifpjjeccaaGreatE3
import Derived.Test.YtnijeifpjjeccaaGreatRows
import Derived.ProofKit
import Derived.LaidMore
import Derived.Lay
import Derived.SevenTiedAt
import Derived.Stop.Joined
set_option linter.unusedVariables false
set_option linter.unusedSimpArgs false
namespace Go.Proofs.YtnijeifpjjeccaaGreat.ModelRunsP
open Go Go.ChangeShapes Go.WideShapes Go.ChangeAt Go.RowKit Hw Hw.M Hw.Mz
theorem own : ownKnob Tryz.prog.godebug = none := by kernel_rfl
theorem laidOut : laidOutB Tryz.prog = true := by kernel_rfl
theorem table {W : World} (_ : laidMetH Tryz.prog Rows.modelRunsRow.laid W) : MLe G0 (memOf W) := fun b o v hv => by cases hv
theorem open_ok {W : World} (h : laidMetH Tryz.prog Rows.modelRunsRow.laid W) (hSh : W.ShapedOpen Tryz.prog) : GOk (memOf W) W := by
  refine ⟨table h, fun b hb => ?_, fun b hb => (by cases hb), fun p hp => (by cases hp)⟩
  cases hb
set_option maxRecDepth 100000 in
theorem contract (H : Type) (enc : TypeId × Value → H) (W : World) (base : Nat) (args : Array Value) (ds gs : List (DataW H)) (before : List MemPlace)
    (hval : ∀ (j : Nat) t v, Tryz.f4.params[j]? = some t → args[j]? = some v → Value.okWide Tryz.prog W .any base t v)
    (hW : DataW.Whole enc Tryz.prog Tryz.f4.params.toList Rows.modelRunsSpec.vars false W args.toList ds gs before) (hL : laidMetH Tryz.prog Rows.modelRunsRow.laid W) (hSh : W.ShapedOpen Tryz.prog) :
    Calls Tryz.prog 4 args W fun e W' => ∃ v, e = .returned v ∧ Rows.modelRunsSpec.post enc Tryz.prog Tryz.f4 false true false false W args v W' := by
  have hW' := hW
  obtain ⟨p, q, hA0, hV, rfl, _, _⟩ := hW
  have hA : DataW.TrodAll enc Tryz.prog W 0 (fun _ => true) true Tryz.f4.params.toList args.toList ds p := hA0
  rw [Tryz.params4] at hA hval
  obtain ⟨v0, vs0, d0, ds0, p0, q0, hargs, rfl, rfl, h0, r0⟩ := trodAll_cons hA
  obtain ⟨v1, vs1, d1, ds1, p1, q1, rfl, rfl, rfl, h1, r1⟩ := trodAll_cons r0
  obtain ⟨v2, vs2, d2, ds2, p2, q2, rfl, rfl, rfl, h2, r2⟩ := trodAll_cons r1
  obtain ⟨rfl, rfl, rfl⟩ := trodAll_nil r2
  obtain ⟨rfl, rfl⟩ := trodVars_none hV
  obtain rfl : args = #[v0, v1, v2] := by cases args; simp_all
  have e0 : Value.okWide Tryz.prog W .any base 24 v0 := by apply hval 0 <;> simp
  obtain ⟨a0, s0⟩ := rs_agg (ρ := fun _ => undef) (l := [(3, 1), (22, 1)]) (by kernel_rfl) e0 rd_st h0
  have e1 : Value.okWide Tryz.prog W .any base 42 v1 := by apply hval 1 <;> simp
  obtain ⟨a1, s1⟩ := rs_slice (ρ := fun _ => undef) (e := 27) (c := 2) (R := opR) (by kernel_rfl) e1 rd_ops h1
  have e2 : Value.okWide Tryz.prog W .any base 4 v2 := by apply hval 2 <;> simp
  obtain ⟨a2, s2⟩ := rs_bool (M := memOf W) (ρ := fun _ => undef) (by kernel_rfl) e2
  refine (call_true (modelRuns_ok a0 a1 a2) (open_ok hL hSh) (args := #[v0, v1, v2]) ⟨s0, s1, s2, trivial⟩).mono fun e W' ⟨he, hb⟩ => ?_
  subst he
  refine ⟨_, rfl, post_true (tb := 4) laidOut ?_ (by kernel_rfl) (by kernel_rfl) rfl rfl hW' hb⟩
  intro t ht
  have hm : t ∈ [24, 42, 4] := by rw [Tryz.params4] at ht; simpa using ht
  have hall : ([24, 42, 4].all fun u => Tryz.prog.readableRec u && decide (u < Tryz.prog.types.size)) = true := by kernel_rfl
  have := List.all_eq_true.1 hall t hm
  simp only [Bool.and_eq_true, decide_eq_true_eq] at this
  exact this

set_option maxRecDepth 100000 in
theorem lifted (os : Os) (started : os.Started) (H : Type) (enc : TypeId × Value → H) :
    ReturnsInHanded {} Tryz.checked os 4 .any (fun w args => (Rows.modelRunsSpec.pre enc Tryz.prog Tryz.f4 Rows.modelRunsRow.domain false w args ∧ laidMetH Tryz.prog Rows.modelRunsRow.laid w) ∧ sizedMet enc Tryz.prog Tryz.f4 (OpenSpec.ofChange Rows.modelRunsSpec) false w args)
      (Rows.modelRunsSpec.post enc Tryz.prog Tryz.f4 false true false false) := by
  refine returns_kept (C := Tryz.checked) (X := fun w _ => laidMetH Tryz.prog Rows.modelRunsRow.laid w) (fun _ _ _ hh h => h.of_heap hh) own started (by kernel_rfl) Tryz.func4
    (ChangeSpec.witness_shaped (enc := enc) (C := Tryz.checked) (os := os) (X := fun w _ => laidMetH Tryz.prog Rows.modelRunsRow.laid w) false (World.laidAll Tryz.prog os Rows.modelRunsRow.laid) #[.agg #[.int .i64 0, .slice none 0 0], .slice none 0 0, .bool false] 8 (World.laidAll_os _ _ _)
      (World.shaped_of_ZipB (by kernel_rfl) (by kernel_rfl)) (by kernel_rfl) (by kernel_rfl) (by kernel_rfl)
      (by rw [MakeChecks.laidMetH_plain _ _ _ (by kernel_rfl)]; exact laidMet_laidAll _ (by kernel_rfl) (by kernel_rfl))) ?_
  intro W base args ds gs before hval hW hL hSh
  exact contract H enc W base args ds gs before hval hW hL hSh

theorem and_of {a b : Bool} (ha : a = true) (hb : b = true) : (a && b) = true := by rw [ha, hb]; rfl
set_option maxHeartbeats 20000000 in
set_option maxRecDepth 100000 in
theorem facts : joinedFacts Tryz.prog 4 Tryz.f4 Rows.modelRunsSpec Rows.modelRunsRow = true := by
  unfold joinedFacts
  refine (and_of (and_of (and_of (and_of (and_of (and_of (and_of (and_of (and_of (and_of (and_of (and_of (and_of (and_of (and_of (and_of (and_of (and_of (and_of (and_of (and_of (and_of (and_of (and_of (and_of (and_of (and_of (and_of (and_of (and_of (and_of (and_of ?_ ?_) ?_) ?_) ?_) ?_) ?_) ?_) ?_) ?_) ?_) ?_) ?_) ?_) ?_) ?_) ?_) ?_) ?_) ?_) ?_) ?_) ?_) ?_) ?_) ?_) ?_) ?_) ?_) ?_) ?_) ?_) ?_)
  all_goals (as_aux_lemma => kernel_rfl)
theorem instFact : Tryz.f4.isInstance Tryz.prog Rows.modelRunsRow.origin Rows.modelRunsRow.targs := of_decide_eq_true (by kernel_rfl)
theorem wrapFact : Tryz.f4.isWrapper Tryz.prog Rows.modelRunsRow.wrapper Rows.modelRunsRow.mainSum := by unfold Func.isWrapper; first | (rw [if_pos (by decide +kernel)]; kernel_rfl) | (rw [if_neg (by decide +kernel)]; exact ⟨rfl, rfl⟩)
theorem preFact (H : Type) (enc : TypeId × Value → H) : Rows.modelRunsRow.pre enc Tryz.prog Tryz.f4 (OpenSpec.ofChange Rows.modelRunsSpec) = fun w args => (Rows.modelRunsSpec.pre enc Tryz.prog Tryz.f4 Rows.modelRunsRow.domain false w args ∧ laidMetH Tryz.prog Rows.modelRunsRow.laid w) ∧ sizedMet enc Tryz.prog Tryz.f4 (OpenSpec.ofChange Rows.modelRunsSpec) false w args :=
  OpenClaim.pre_eq_preRow _ _ _ _

theorem said : Rows.ModelRunsSaid :=
  OpenClaim.holds_of_wide 4 Tryz.f4 rfl rfl rfl rfl rfl rfl rfl ⟨rfl, rfl, rfl, rfl, rfl⟩ rfl rfl rfl rfl rfl (by kernel_rfl) Tryz.func4 facts instFact wrapFact
    (fun os started H enc _ => by rw [show Tryz.pinned.checked.prog = Tryz.prog from rfl, preFact]; exact lifted os started H enc)

end Go.Proofs.YtnijeifpjjeccaaGreat.ModelRunsP
