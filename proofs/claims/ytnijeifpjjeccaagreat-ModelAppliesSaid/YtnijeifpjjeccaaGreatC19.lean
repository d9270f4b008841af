/- The engine and the contracts. -/
import Derived.Test.YtnijeifpjjeccaaGreatC18
set_option linter.unusedVariables false
set_option linter.unusedSimpArgs false
namespace Hw.Mz
open Go Go.Proofs Go.Shelf Hw.M

/-! models: the law of Apply -/
theorem few_len' {R : Rws} (h : fewB R = true) : R.length ≤ 1000000 ∧ ∀ r ∈ R, r.length ≤ 1000000 := by
  unfold fewB at h
  simp only [Bool.and_eq_true, Bool.or_eq_true, decide_eq_true_eq, Bool.not_eq_true', List.any_eq_false] at h
  refine ⟨by omega, fun r hr => ?_⟩
  have := h.2 r hr
  simp only [longR, Bool.or_eq_true, Bool.and_eq_true, decide_eq_true_eq] at this
  omega
theorem modelApplies_ok (a : Int × Rws) (o : OpT) : FnOK Tryz.prog 3 [aggS (stR a.1 a.2), aggS (opR o)] [] (.bq true) [] := by
  obtain ⟨k, R⟩ := a
  simp only
  have hL1 := few_ok k R
  have hL3 := short_ok [o]
  cases h1 : fewB R with
  | false =>
    rw [h1] at hL1
    refine fn_ok T Tryz.func3 (by kernel_rfl) rfl rfl rfl rfl fun C hC => ?_
    repeat' first
      | refine g_go T hC true 400 rfl rfl ?_
      | (exfalso; simp at h; done)
      | refine g_cond rfl (fun h => ?_) (fun h => ?_)
      | refine g_end T hC (by kernel_rfl) ?_
      | refine g_splitD (fun h => ?_) (fun h => ?_)
      | refine g_splitG rfl rfl rfl (fun h => ?_) (fun h => ?_)
      | refine g_splitP rfl rfl (fun h => ?_) (fun h => ?_)
      | refine g_call hC (awake_ok) rfl rfl (LeSs.refl _) rfl rfl rfl ?_
      | refine g_call hC (hL1) rfl rfl (LeSs.refl _) rfl rfl rfl ?_
      | refine g_lit T hC rfl rfl rfl rfl rfl rfl rfl rfl rfl ?_
      | refine g_call hC (hL3) rfl rfl (LeSs.refl _) rfl rfl rfl ?_
    all_goals exact g_fin ⟨.inl rfl, id, _, rfl, .refl _, trivial, rfl, rfl⟩
  | true =>
    rw [h1] at hL1
    cases h3 : shortB [o] with
    | false =>
      rw [h3] at hL3
      refine fn_ok T Tryz.func3 (by kernel_rfl) rfl rfl rfl rfl fun C hC => ?_
      repeat' first
        | refine g_go T hC true 400 rfl rfl ?_
        | (exfalso; simp at h; done)
        | refine g_cond rfl (fun h => ?_) (fun h => ?_)
        | refine g_end T hC (by kernel_rfl) ?_
        | refine g_splitD (fun h => ?_) (fun h => ?_)
        | refine g_splitG rfl rfl rfl (fun h => ?_) (fun h => ?_)
        | refine g_splitP rfl rfl (fun h => ?_) (fun h => ?_)
        | refine g_call hC (awake_ok) rfl rfl (LeSs.refl _) rfl rfl rfl ?_
        | refine g_call hC (hL1) rfl rfl (LeSs.refl _) rfl rfl rfl ?_
        | refine g_lit T hC rfl rfl rfl rfl rfl rfl rfl rfl rfl ?_
        | refine g_call hC (hL3) rfl rfl (LeSs.refl _) rfl rfl rfl ?_
      all_goals exact g_fin ⟨.inl rfl, id, _, rfl, .refl _, trivial, rfl, rfl⟩
    | true =>
      rw [h3] at hL3
      obtain ⟨f1, f2⟩ := few_len' h1
      have hV := rValid_ok k R f2 f1
      have hO := rValidOp_ok k o
      by_cases h0 : validS k R = false ∨ okOp k o = false
      · have hA := mApply_no k R o f2 f1 h0
        have hN := none_ok 0 []
        rw [show (decide ((0 : Int) = 0) && decide (([] : Rws) = [])) = true by simp] at hN
        have hQ := sameRes_ok ⟨0, 0⟩ ⟨0, 0⟩
        rw [decide_eq_true (rfl : (⟨0, 0⟩ : RsT) = ⟨0, 0⟩)] at hQ
        generalize hv : validS k R = q1 at *
        generalize ho : okOp k o = q2 at *
        refine fn_ok T Tryz.func3 (by kernel_rfl) rfl rfl rfl rfl fun C hC => ?_
        repeat' first
          | refine g_go T hC true 400 rfl rfl ?_
          | (exfalso; simp at h; done)
          | refine g_cond rfl (fun h => ?_) (fun h => ?_)
          | refine g_end T hC (by kernel_rfl) ?_
          | refine g_splitD (fun h => ?_) (fun h => ?_)
          | refine g_splitG rfl rfl rfl (fun h => ?_) (fun h => ?_)
          | refine g_splitP rfl rfl (fun h => ?_) (fun h => ?_)
          | refine g_call hC (awake_ok) rfl rfl (LeSs.refl _) rfl rfl rfl ?_
          | refine g_call hC (hL1) rfl rfl (LeSs.refl _) rfl rfl rfl ?_
          | refine g_lit T hC rfl rfl rfl rfl rfl rfl rfl rfl rfl ?_
          | refine g_call hC (hL3) rfl rfl (LeSs.refl _) rfl rfl rfl ?_
          | refine g_call hC (hA) rfl rfl (LeSs.refl _) rfl rfl rfl ?_
          | refine g_call hC (hV) rfl rfl (LeSs.refl _) rfl rfl rfl ?_
          | refine g_call hC (hO) rfl rfl (LeSs.refl _) rfl rfl rfl ?_
          | refine g_call hC (hN) rfl rfl (LeSs.refl _) rfl rfl rfl ?_
          | refine g_call hC (hQ) rfl rfl (LeSs.refl _) rfl rfl rfl ?_
        all_goals first
          | exact g_fin ⟨.inl rfl, id, _, rfl, by first | exact .refl _ | exact LeS.qb rfl | exact LeS.qq rfl, trivial, rfl, rfl⟩
          | (exfalso; clear hA hN hQ hV hO hL1 hL3; simp_all; done)
      · have hv : validS k R = true := by
          cases h : validS k R with
          | true => rfl
          | false => exact absurd (.inl h) h0
        have ho : okOp k o = true := by
          cases h : okOp k o with
          | true => rfl
          | false => exact absurd (.inr h) h0
        have hA := mApply_yes k R o hv ho
        have hS := rStep_ok k R o hv ho
        have hvS := step_valid hv ho
        generalize stepS k R o = z at hA hS hvS
        obtain ⟨R', x⟩ := z
        have hSm := rSame_ok k k R' R'
        rw [show (decide (k = k) && decide (R' = R')) = true by simp] at hSm
        have hQ := sameRes_ok x x
        rw [decide_eq_true rfl] at hQ
        rw [hv] at hV
        rw [ho] at hO
        refine fn_ok T Tryz.func3 (by kernel_rfl) rfl rfl rfl rfl fun C hC => ?_
        repeat' first
          | refine g_go T hC true 400 rfl rfl ?_
          | (exfalso; simp at h; done)
          | refine g_cond rfl (fun h => ?_) (fun h => ?_)
          | refine g_end T hC (by kernel_rfl) ?_
          | refine g_splitD (fun h => ?_) (fun h => ?_)
          | refine g_splitG rfl rfl rfl (fun h => ?_) (fun h => ?_)
          | refine g_splitP rfl rfl (fun h => ?_) (fun h => ?_)
          | refine g_call hC (awake_ok) rfl rfl (LeSs.refl _) rfl rfl rfl ?_
          | refine g_call hC (hL1) rfl rfl (LeSs.refl _) rfl rfl rfl ?_
          | refine g_lit T hC rfl rfl rfl rfl rfl rfl rfl rfl rfl ?_
          | refine g_call hC (hL3) rfl rfl (LeSs.refl _) rfl rfl rfl ?_
          | refine g_call hC (hA) rfl rfl (LeSs.refl _) rfl rfl rfl ?_
          | refine g_call hC (hV) rfl rfl (LeSs.refl _) rfl rfl rfl ?_
          | refine g_call hC (hO) rfl rfl (LeSs.refl _) rfl rfl rfl ?_
          | refine g_call hC (hS) rfl rfl (LeSs.refl _) rfl rfl rfl ?_
          | refine g_call hC (hSm) rfl rfl (LeSs.refl _) rfl rfl rfl ?_
          | refine g_call hC (hQ) rfl rfl (LeSs.refl _) rfl rfl rfl ?_
        all_goals exact g_fin ⟨.inl rfl, id, _, rfl, by first | exact .refl _ | exact LeS.qb rfl | exact LeS.qq rfl, trivial, rfl, rfl⟩
end Hw.Mz
